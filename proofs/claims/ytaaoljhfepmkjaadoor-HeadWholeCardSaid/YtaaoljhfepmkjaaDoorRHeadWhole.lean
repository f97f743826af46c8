/-
  HeadWhole: whatever is given: true, and it reads as it did. The package-level variables that it reads are as the program's text lays them. No other condition.
-/
import Derived.Test.YtaaoljhfepmkjaaDoorCHeadWhole
import Derived.Test.YtaaoljhfepmkjaaDoorRShapes10
import Derived.Test.YtaaoljhfepmkjaaDoorROf
import Derived.Test.YtaaoljhfepmkjaaDoorRDoorT
import Derived.Test.YtaaoljhfepmkjaaDoorCards
import Derived.Test.YtaaoljhfepmkjaaDoorTie
import Derived.SevenTiedAt
namespace Go.Proofs.YtaaoljhfepmkjaaDoor
open Go.GK Go.PL Go.ChangeShapes Go.WideShapes Go.ChangeAt Go.RowKit

set_option maxRecDepth 100000 in
theorem headWhole_lifted (os : Os) (started : os.Started) (H : Type) (enc : TypeId × Value → H) :
    ReturnsInHanded {} Tryd.checked os 3 .any (fun w args => (Rows.headWholeSpec.pre enc Tryd.prog Tryd.f3 [] false w args ∧ laidMetH Tryd.prog rowLaid w) ∧ sizedMet enc Tryd.prog Tryd.f3 (OpenSpec.ofChange Rows.headWholeSpec) false w args)
      (Rows.headWholeSpec.post enc Tryd.prog Tryd.f3 false true false false) := by
  refine returnsInHanded_of_change_and (C := Tryd.checked) (X := fun w _ => laidMetH Tryd.prog rowLaid w) (fun _ _ _ hh h => h.of_heap hh) own started (by kernel_rfl) Tryd.func3
    (ChangeSpec.witness_shaped (enc := enc) (C := Tryd.checked) (os := os) (X := fun w _ => laidMetH Tryd.prog rowLaid w) false (wit os) #[.int .i64 0, .slice none 0 0, .int .i64 0] 8 (wit_os os) (wit_shaped os _) (by kernel_rfl) (by kernel_rfl) (by kernel_rfl) (wit_met os _)) ?_
  intro W base args ds gs before hval hW _ _ hL _
  refine law_post (pg := pg) (shs := [.int .i64, .slice [.slice [.slice [.str, .str], .slice [.int .i64, .int .i64]]], .int .i64]) (tb := 4) [2, 22, 2] (by rw [Tryd.params3]) (by kernel_rfl) (by kernel_rfl) rfl (by kernel_rfl) (by kernel_rfl) laidOut (by kernel_rfl) (fun ds h => ?_) (fun gs h => ?_) (gl_okH hL) hval hW
  · match ds, h with
    | [_, _, _], _ => rfl
  · simp only [fitsL, fits] at h
    obtain ⟨_, _, rfl, ⟨a0, rfl, h0⟩, _, _, rfl, ⟨rows1, rfl, hrows1⟩, _, _, rfl, ⟨a2, rfl, h2⟩, rfl⟩ := h
    obtain ⟨l1, rfl⟩ := serss_list rows1 hrows1
    exact of_rt (headWhole_rt a0 a2 l1)

theorem headWhole_row : Rows.HeadWholeSaid :=
  OpenClaim.holds_of_wide 3 Tryd.f3 rfl rfl rfl rfl rfl rfl rfl ⟨rfl, rfl, rfl, rfl, rfl⟩ rfl rfl rfl rfl rfl (by kernel_rfl) Tryd.func3 (by kernel_rfl)
    (of_decide_eq_true (by kernel_rfl)) (by unfold Func.isWrapper; first | (rw [if_pos (by decide +kernel)]; kernel_rfl) | (rw [if_neg (by decide +kernel)]; exact ⟨rfl, rfl⟩))
    (fun os started H enc _ => headWhole_lifted os started H enc)

theorem headWhole_holds : Rows.HeadWholeCardSaid :=
  Claim7.holds_tied_plain_at .later [] [.data, .handle, .pinned] true Rows.headWholeCard.stood.harness true
    headWhole_row (fun _ h => by cases h) (by kernel_rfl) (fun _ h => by cases h) headWhole_row_tie rfl ⟨rfl, rfl⟩ (by kernel_rfl) rfl
    (fun f fn hf hfn => by
      obtain rfl : f = 3 := Option.some.inj ((show Tryd.prog.funcNamed "raingauge/raingaugekeep.HeadWhole" = some 3 by kernel_rfl).symm.trans hf) |>.symm
      obtain rfl : fn = Tryd.f3 := (Option.some.inj (Tryd.func3.symm.trans hfn)).symm
      exact ⟨by kernel_rfl, fun j t ht => by
        rw [Tryd.params3] at ht
        have hm : t ∈ [2, 22, 2] := by simpa using Array.mem_of_getElem? ht
        have hall : ([2, 22, 2].all fun u => !Tryd.prog.wantsStandIn u) = true := by kernel_rfl
        exact (show Tryd.prog.wantsStandIn t = false by simpa using List.all_eq_true.1 hall t hm)⟩)
    (by kernel_rfl)
end Go.Proofs.YtaaoljhfepmkjaaDoor
