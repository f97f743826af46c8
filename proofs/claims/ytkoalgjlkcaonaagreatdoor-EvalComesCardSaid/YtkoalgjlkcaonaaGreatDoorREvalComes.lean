/-
  EvalComes: whatever is given: true, and it reads as it did. The package-level variables that it reads are as the program's text lays them. No other condition.
-/
import Derived.Test.YtkoalgjlkcaonaaGreatDoorK14
import Derived.Test.YtkoalgjlkcaonaaGreatDoorCards
import Derived.Test.YtkoalgjlkcaonaaGreatDoorTie
import Derived.SevenTiedAt
namespace Go.Proofs.YtkoalgjlkcaonaaGreatDoor
open Go.GK Go.PL Go.ChangeShapes Go.WideShapes Go.ChangeAt Go.RowKit

set_option maxRecDepth 100000 in
theorem evalComes_lifted (os : Os) (started : os.Started) (H : Type) (enc : TypeId × Value→H) :
  ReturnsInHanded {} Tryz.checked os 5 .any (fun w args=>(Rows.evalComesSpec.pre enc Tryz.prog Tryz.f5 [] false w args∧laidMetH Tryz.prog rowLaid w)∧sizedMet enc Tryz.prog Tryz.f5 (OpenSpec.ofChange Rows.evalComesSpec) false w args)
   (Rows.evalComesSpec.post enc Tryz.prog Tryz.f5 false true false false):=by
 refine returnsInHanded_of_change_and (C:=Tryz.checked) (X:=fun w _=>laidMetH Tryz.prog rowLaid w) (fun _ _ _ hh h=>h.of_heap hh) own started (by kernel_rfl) Tryz.func5
  (ChangeSpec.witness_shaped (enc:=enc) (C:=Tryz.checked) (os:=os) (X:=fun w _=>laidMetH Tryz.prog rowLaid w) false (wit os) #[.slice none 0 0,.string ⟨#[]⟩,.int .i64 0] 8 (wit_os os) (wit_shaped os _) (by kernel_rfl) (by kernel_rfl) (by kernel_rfl) (wit_met os _)) ?_
 intro W base args ds gs before hval hW _ _ hL _
 refine law_post (pg:=pg) (shs:=[.slice [.slice [.str,.str],.slice [.int .i64,.int .i64]],.str,.int .i64]) (tb:=4) [22,9,2] (by rw [Tryz.params5]) (by kernel_rfl) (by kernel_rfl) rfl (by kernel_rfl) (by kernel_rfl) laidOut (by kernel_rfl) (fun ds h=>?_) (fun gs h=>?_) (gl_okH hL) hval hW
 ·match ds,h with
  | [_,_,_],_=>rfl
 ·simp only [fitsL,fits] at h
  obtain ⟨_,_,rfl,⟨rows0,rfl,hrows0⟩,_,_,rfl,⟨s1,rfl,h1⟩,_,_,rfl,⟨a2,rfl,h2⟩,rfl⟩:=h
  obtain ⟨l0,rfl,hl0⟩:=ser_list rows0 hrows0
  exact of_rt (evalComes_rt l0 hl0 s1 a2)

theorem evalComes_row : Rows.EvalComesSaid :=
 OpenClaim.holds_of_wide 5 Tryz.f5 rfl rfl rfl rfl rfl rfl rfl ⟨rfl,rfl,rfl,rfl,rfl⟩ rfl rfl rfl rfl rfl (by kernel_rfl) Tryz.func5 (by kernel_rfl)
  (of_decide_eq_true (by kernel_rfl)) (by unfold Func.isWrapper; first | (rw [if_pos (by decide +kernel)]; kernel_rfl) | (rw [if_neg (by decide +kernel)]; exact ⟨rfl,rfl⟩))
  (fun os started H enc _=>evalComes_lifted os started H enc)

theorem evalComes_holds : Rows.EvalComesCardSaid :=
 Claim7.holds_tied_plain_at .later [] [.data,.data,.data,.data,.handle,.sentinel,.sentinel,.data,.widerDeep,.widerDeep,.widerDeep,.data,.pinned] true Rows.evalComesCard.stood.harness true
  evalComes_row (fun _ h=>by cases h) (by kernel_rfl) (fun _ h=>by cases h) evalComes_row_tie rfl ⟨rfl,rfl⟩ (by kernel_rfl) rfl
  (fun f fn hf hfn=>by
   obtain rfl : f = 5 := Option.some.inj ((show Tryz.prog.funcNamed "raingauge/raingaugelaw.EvalComes" = some 5 by kernel_rfl).symm.trans hf) |>.symm
   obtain rfl : fn=Tryz.f5:=(Option.some.inj (Tryz.func5.symm.trans hfn)).symm
   exact ⟨by kernel_rfl,fun j t ht=>by
    rw [Tryz.params5] at ht
    have hm : t ∈ [22,9,2]:=by simpa using Array.mem_of_getElem? ht
    have hall : ([22,9,2].all fun u=>!Tryz.prog.wantsStandIn u)=true:=by kernel_rfl
    exact (show Tryz.prog.wantsStandIn t=false by simpa using List.all_eq_true.1 hall t hm)⟩)
  (by kernel_rfl)
end Go.Proofs.YtkoalgjlkcaonaaGreatDoor
