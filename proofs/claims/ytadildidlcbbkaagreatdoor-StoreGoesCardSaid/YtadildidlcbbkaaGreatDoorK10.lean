/- A part of the proof of StoreGoesCardSaid. -/
import Derived.Test.YtadildidlcbbkaaGreatDoorK09
import Derived.Test.YtadildidlcbbkaaGreatDoorCards
import Derived.Test.YtadildidlcbbkaaGreatDoorTie
import Derived.SevenTiedAt
set_option linter.all false
namespace Go.Proofs.YtadildidlcbbkaaGreatDoor
open Go.GK Go.PL Go.ChangeShapes Go.WideShapes Go.ChangeAt Go.RowKit
open IntKind Go.Proofs.Tryz
set_option maxRecDepth 100000
set_option maxRecDepth 100000 in
theorem storeGoes_lifted(os:Os)(started:os.Started)(H:Type)(enc:TypeId×Value→H):
  ReturnsInHanded {} Tryz.checked os 3 .any (fun w args=>(Rows.storeGoesSpec.pre enc prog f3 [] false w args∧laidMetH prog uU w)∧sizedMet enc prog f3 (OpenSpec.ofChange Rows.storeGoesSpec) false w args)
   (Rows.storeGoesSpec.post enc prog f3 false true false false):=by
 refine returnsInHanded_of_change_and (C:=Tryz.checked) (X:=fun w _=>laidMetH prog uU w) (fun _ _ _ hh h=>h.of_heap hh) own started au func3
  (ChangeSpec.witness_shaped (enc:=enc) (C:=Tryz.checked) (os:=os) (X:=fun w _=>laidMetH prog uU w) false (Es os) #[.slice none 0 0,.agg #[.slice none 0 0,.int .i64 0,.int .i64 0],.slice none 0 0] 8 (TS os) (Lv os _) au au au (R0 os _)) ?_
 intro W base args ds gs before hval hW _ _ hL _;refine LC (pg:=pg) (shs:=[(false,[.slice [.int .i64,.slice [.slice [.str,.str],.slice [.int .i64,.int .i64]],.int .i64,.slice [.str,.int .i64,.str],.int .i64,.int .i64]]),(true,[.slice [.str,.int .i64,.str],.int .i64,.int .i64]),(false,[.slice [.int .i64,.slice [.slice [.str,.str],.slice [.int .i64,.int .i64]],.int .i64,.slice [.str,.int .i64,.str],.int .i64,.int .i64]])]) (tb:=4) [22,25,22] (by rw[params3]) au au rfl au laidOut au (fun ds h=>?_) (fun gs h=>?_) (Tb hL) hval hW
 ·match ds,h with
  | [_,_,_],_=>rfl
 ·simp only[ye,k8,fits]at h;obtain⟨_,_,rfl,⟨rows0,rfl,hrows0⟩,_,_,rfl,⟨_,_,rfl,⟨ms1,rfl,hms1⟩,_,_,rfl,⟨lo1,rfl,hlo1⟩,_,_,rfl,⟨hi1,rfl,hhi1⟩,rfl⟩,_,_,rfl,⟨rows2,rfl,hrows2⟩,rfl⟩:=h;obtain⟨l0,rfl,hl0⟩:=zq rows0 hrows0;obtain⟨m1,rfl⟩:=Bq ms1 hms1;obtain⟨l2,rfl,hl2⟩:=zq rows2 hrows2;exact Uo (Ha l0 ⟨m1,lo1,hi1⟩ l2 hl0 hl2 (FL hlo1) (FL hhi1))
set_option maxHeartbeats 0 in
set_option maxRecDepth 100000 in
theorem storeGoes_closed:joinedFacts prog 3 f3 Rows.storeGoesSpec Rows.storeGoesRow=true:=by
 unfold joinedFacts
 simp only[Bool.and_eq_true]
 repeat' apply And.intro
 all_goals as_aux_lemma=>kernel_rfl
theorem storeGoes_row:Rows.StoreGoesSaid:=
 OpenClaim.holds_of_wide 3 f3 rfl rfl rfl rfl rfl rfl rfl ⟨rfl,rfl,rfl,rfl,rfl⟩ rfl rfl rfl rfl rfl au func3 storeGoes_closed
  (of_decide_eq_true au) (by unfold Func.isWrapper;first| (rw[if_pos (by decide+kernel)];kernel_rfl)| (rw[if_neg (by decide+kernel)];exact⟨rfl,rfl⟩))
  (fun os started H enc _=>storeGoes_lifted os started H enc)
end Go.Proofs.YtadildidlcbbkaaGreatDoor
