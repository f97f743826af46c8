/-
  RollUp: whatever is given: true, and it reads as it did. The package-level variables that it reads are as the program's text lays them. No other condition.
-/
import Derived.Test.YtfagagfokmlgiaaDoorCRollUp
import Derived.Test.YtfagagfokmlgiaaDoorRShapes
import Derived.Test.YtfagagfokmlgiaaDoorROf
import Derived.Test.YtfagagfokmlgiaaDoorRDoorE
import Derived.Test.YtfagagfokmlgiaaDoorCards
import Derived.Test.YtfagagfokmlgiaaDoorTie
import Derived.SevenTiedAt
namespace Go.Proofs.YtfagagfokmlgiaaDoor
open Go.GK Go.PL Go.ChangeShapes Go.WideShapes Go.ChangeAt Go.RowKit

theorem rollUp_met (os : Os) (args : Array Value) : laidMetH Tryd.prog Rows.rollUpRow.laid ((World.doorLaid Tryd.prog 400 os).forCall (fun _ _ => 0) ⟨#[], args, []⟩).memory :=
  laidMetH_of_parts3 (fuel := 8) (laidMet_of_run' 8 (by kernel_rfl) (by kernel_rfl)) (by kernel_rfl) (by kernel_rfl)

set_option maxRecDepth 100000 in
theorem rollUp_lifted (os : Os) (started : os.Started) (H : Type) (enc : TypeId × Value → H) :
    ReturnsInHanded {} Tryd.checked os 7 .any (fun w args => (Rows.rollUpSpec.pre enc Tryd.prog Tryd.f7 [] false w args ∧ laidMetH Tryd.prog Rows.rollUpRow.laid w) ∧ sizedMet enc Tryd.prog Tryd.f7 (OpenSpec.ofChange Rows.rollUpSpec) false w args)
      (Rows.rollUpSpec.post enc Tryd.prog Tryd.f7 false true false false) := by
  refine returnsInHanded_of_change_and (C := Tryd.checked) (X := fun w _ => laidMetH Tryd.prog Rows.rollUpRow.laid w) (fun _ _ _ hh h => h.of_heap hh) own started (by kernel_rfl) Tryd.func7
    (ChangeSpec.witness_shaped (enc := enc) (C := Tryd.checked) (os := os) (X := fun w _ => laidMetH Tryd.prog Rows.rollUpRow.laid w) false (World.doorLaid Tryd.prog 400 os) #[.slice none 0 0, .slice none 0 0, .int .i64 0, .int .i64 0] 8 rfl (World.shaped_of_RefB (by kernel_rfl) (by kernel_rfl)) (by kernel_rfl) (by kernel_rfl) (by kernel_rfl) (rollUp_met os _)) ?_
  intro W base args ds gs before hval hW _ _ hL _
  refine law_post (pg := pg) (shs := [.slice [.int .i64, .int .i64], .slice [.int .i64, .int .i64], .int .i64, .int .i64]) (tb := 4) [43, 43, 2, 2] (by rw [Tryd.params7]) (by kernel_rfl) (by kernel_rfl) rfl (by kernel_rfl) (by kernel_rfl) laidOut (by kernel_rfl) (fun ds h => ?_) (fun gs h => ?_) (gl_ok hL) hval hW
  · match ds, h with
    | [_, _, _, _], _ => rfl
  · simp only [fitsL, fits] at h
    obtain ⟨_, _, rfl, ⟨rows0, rfl, hrows0⟩, _, _, rfl, ⟨rows1, rfl, hrows1⟩, _, _, rfl, ⟨a2, rfl, h2⟩, _, _, rfl, ⟨a3, rfl, h3⟩, rfl⟩ := h
    obtain ⟨l0, rfl, hl0, ht0⟩ := sm_list rows0 hrows0
    obtain ⟨l1, rfl, hl1, ht1⟩ := sm_list rows1 hrows1
    exact of_rt (rollUp_rt l0 l1 a2 a3)

theorem rollUp_row : Rows.RollUpSaid :=
  OpenClaim.holds_of_wide 7 Tryd.f7 rfl rfl rfl rfl rfl rfl rfl ⟨rfl, rfl, rfl, rfl, rfl⟩ rfl rfl rfl rfl rfl (by kernel_rfl) Tryd.func7 (by kernel_rfl)
    (of_decide_eq_true (by kernel_rfl)) (by unfold Func.isWrapper; first | (rw [if_pos (by decide +kernel)]; kernel_rfl) | (rw [if_neg (by decide +kernel)]; exact ⟨rfl, rfl⟩))
    (fun os started H enc _ => rollUp_lifted os started H enc)

theorem rollUp_holds : Rows.RollUpCardSaid :=
  Claim7.holds_tied_plain_at .later [] [.handle] true Rows.rollUpCard.stood.harness true
    rollUp_row (fun _ h => by cases h) (by kernel_rfl) (fun _ h => by cases h) rollUp_row_tie rfl ⟨rfl, rfl⟩ (by kernel_rfl) rfl
    (fun f fn hf hfn => by
      obtain rfl : f = 7 := Option.some.inj ((show Tryd.prog.funcNamed "raingauge/raingaugelaw.RollUp" = some 7 by kernel_rfl).symm.trans hf) |>.symm
      obtain rfl : fn = Tryd.f7 := (Option.some.inj (Tryd.func7.symm.trans hfn)).symm
      exact ⟨by kernel_rfl, fun j t ht => by
        rw [Tryd.params7] at ht
        have hm : t ∈ [43, 43, 2, 2] := by simpa using Array.mem_of_getElem? ht
        have hall : ([43, 43, 2, 2].all fun u => !Tryd.prog.wantsStandIn u) = true := by kernel_rfl
        exact (show Tryd.prog.wantsStandIn t = false by simpa using List.all_eq_true.1 hall t hm)⟩)
    (by kernel_rfl)
end Go.Proofs.YtfagagfokmlgiaaDoor
