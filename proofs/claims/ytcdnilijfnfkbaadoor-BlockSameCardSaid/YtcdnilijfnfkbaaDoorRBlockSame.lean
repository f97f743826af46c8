/-
  BlockSame: whatever is given: true, and it reads as it did. No other condition.
-/
import Derived.Test.YtcdnilijfnfkbaaDoorCBlockSame
import Derived.Test.YtcdnilijfnfkbaaDoorRShapes9
import Derived.Test.YtcdnilijfnfkbaaDoorROf
import Derived.Test.YtcdnilijfnfkbaaDoorRDoorQ
import Derived.Test.YtcdnilijfnfkbaaDoorCards
import Derived.Test.YtcdnilijfnfkbaaDoorTie
import Derived.SevenTiedAt
namespace Go.Proofs.YtcdnilijfnfkbaaDoor
open Go.GK Go.PL Go.ChangeShapes Go.WideShapes Go.ChangeAt Go.RowKit

set_option maxRecDepth 100000 in
theorem blockSame_lifted (os : Os) (started : os.Started) (H : Type) (enc : TypeId × Value → H) :
    ReturnsInHanded {} Tryd.checked os 3 .any (fun w args => (Rows.blockSameSpec.pre enc Tryd.prog Tryd.f3 [] false w args ∧ laidMetH Tryd.prog rowLaid w) ∧ sizedMet enc Tryd.prog Tryd.f3 (OpenSpec.ofChange Rows.blockSameSpec) false w args)
      (Rows.blockSameSpec.post enc Tryd.prog Tryd.f3 false true false false) := by
  refine returnsInHanded_of_change_and (C := Tryd.checked) (X := fun w _ => laidMetH Tryd.prog rowLaid w) (fun _ _ _ hh h => h.of_heap hh) own started (by kernel_rfl) Tryd.func3
    (ChangeSpec.witness_shaped (enc := enc) (C := Tryd.checked) (os := os) (X := fun w _ => laidMetH Tryd.prog rowLaid w) false (World.laidAll Tryd.prog os rowLaid) #[.slice none 0 0, .slice none 0 0, .slice none 0 0, .int .i64 0] 8 (World.laidAll_os _ _ _) (World.shaped_of_ZipB (by kernel_rfl) (by kernel_rfl)) (by kernel_rfl) (by kernel_rfl) (by kernel_rfl) (laid_met os _)) ?_
  intro W base args ds gs before hval hW _ _ hL _
  refine law_post (pg := pg) (shs := [.slice [.slice [.str, .str], .slice [.int .i64, .int .i64]], .slice [.slice [.str, .str], .slice [.int .i64, .int .i64]], .slice [.slice [.str, .int .i64, .str], .int .i64, .int .i64], .int .i64]) (tb := 4) [22, 22, 23, 3] (by rw [Tryd.params3]) (by kernel_rfl) (by kernel_rfl) rfl (by kernel_rfl) (by kernel_rfl) laidOut (by kernel_rfl) (fun ds h => ?_) (fun gs h => ?_) (gl_okH hL) hval hW
  · match ds, h with
    | [_, _, _, _], _ => rfl
  · simp only [fitsL, fits] at h
    obtain ⟨_, _, rfl, ⟨rows0, rfl, hrows0⟩, _, _, rfl, ⟨rows1, rfl, hrows1⟩, _, _, rfl, ⟨rows2, rfl, hrows2⟩, _, _, rfl, ⟨a3, rfl, h3⟩, rfl⟩ := h
    obtain ⟨l0, rfl, hl0⟩ := ser_list rows0 hrows0
    obtain ⟨l1, rfl, hl1⟩ := ser_list rows1 hrows1
    obtain ⟨l2, rfl⟩ := gone_list rows2 hrows2
    exact of_rt (blockSame_rt l0 l1 l2 a3 hl0)

theorem blockSame_row : Rows.BlockSameSaid :=
  OpenClaim.holds_of_wide 3 Tryd.f3 rfl rfl rfl rfl rfl rfl rfl ⟨rfl, rfl, rfl, rfl, rfl⟩ rfl rfl rfl rfl rfl (by kernel_rfl) Tryd.func3 (by kernel_rfl)
    (of_decide_eq_true (by kernel_rfl)) (by unfold Func.isWrapper; first | (rw [if_pos (by decide +kernel)]; kernel_rfl) | (rw [if_neg (by decide +kernel)]; exact ⟨rfl, rfl⟩))
    (fun os started H enc _ => blockSame_lifted os started H enc)

theorem blockSame_holds : Rows.BlockSameCardSaid :=
  Claim7.holds_tied_plain_at .later [] [.data, .data, .pinned] true Rows.blockSameCard.stood.harness false
    blockSame_row (fun _ h => by cases h) (by kernel_rfl) (fun _ h => by cases h) blockSame_row_tie rfl ⟨rfl, rfl⟩ (by kernel_rfl) rfl
    (fun f fn hf hfn => by
      obtain rfl : f = 3 := Option.some.inj ((show Tryd.prog.funcNamed "raingauge/raingaugekeep.BlockSame" = some 3 by kernel_rfl).symm.trans hf) |>.symm
      obtain rfl : fn = Tryd.f3 := (Option.some.inj (Tryd.func3.symm.trans hfn)).symm
      exact ⟨by kernel_rfl, fun j t ht => by
        rw [Tryd.params3] at ht
        have hm : t ∈ [22, 22, 23, 3] := by simpa using Array.mem_of_getElem? ht
        have hall : ([22, 22, 23, 3].all fun u => !Tryd.prog.wantsStandIn u) = true := by kernel_rfl
        exact (show Tryd.prog.wantsStandIn t = false by simpa using List.all_eq_true.1 hall t hm)⟩)
    (by kernel_rfl)
end Go.Proofs.YtcdnilijfnfkbaaDoor
