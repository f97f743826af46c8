/-
  DiskPlays: whatever is given: true, and it reads as it did. The package-level variables that it reads are as the program's text lays them. No other condition.
-/
import Derived.Test.YtbapgglhpbbonaaDoorCDiskPlays
import Derived.Test.YtbapgglhpbbonaaDoorRShapes5
import Derived.Test.YtbapgglhpbbonaaDoorROf
import Derived.Test.YtbapgglhpbbonaaDoorRDoorE
import Derived.Test.YtbapgglhpbbonaaDoorCards
import Derived.Test.YtbapgglhpbbonaaDoorTie
import Derived.SevenTiedAt
namespace Go.Proofs.YtbapgglhpbbonaaDoor
open Go.GK Go.PL Go.ChangeShapes Go.WideShapes Go.ChangeAt Go.RowKit

theorem diskPlays_met (os : Os) (args : Array Value) : laidMetH Tryd.prog Rows.diskPlaysRow.laid ((World.doorLaid Tryd.prog 400 os).forCall (fun _ _ => 0) ⟨#[], args, []⟩).memory :=
  laidMetH_of_parts3 (fuel := 8) (laidMet_of_run' 8 (by kernel_rfl) (by kernel_rfl)) (by kernel_rfl) (by kernel_rfl)

set_option maxRecDepth 100000 in
theorem diskPlays_lifted (os : Os) (started : os.Started) (H : Type) (enc : TypeId × Value → H) :
    ReturnsInHanded {} Tryd.checked os 5 .any (fun w args => (Rows.diskPlaysSpec.pre enc Tryd.prog Tryd.f5 [] false w args ∧ laidMetH Tryd.prog Rows.diskPlaysRow.laid w) ∧ sizedMet enc Tryd.prog Tryd.f5 (OpenSpec.ofChange Rows.diskPlaysSpec) false w args)
      (Rows.diskPlaysSpec.post enc Tryd.prog Tryd.f5 false true false false) := by
  refine returnsInHanded_of_change_and (C := Tryd.checked) (X := fun w _ => laidMetH Tryd.prog Rows.diskPlaysRow.laid w) (fun _ _ _ hh h => h.of_heap hh) own started (by kernel_rfl) Tryd.func5
    (ChangeSpec.witness_shaped (enc := enc) (C := Tryd.checked) (os := os) (X := fun w _ => laidMetH Tryd.prog Rows.diskPlaysRow.laid w) false (World.doorLaid Tryd.prog 400 os) #[.slice none 0 0] 8 rfl (World.shaped_of_RefB (by kernel_rfl) (by kernel_rfl)) (by kernel_rfl) (by kernel_rfl) (by kernel_rfl) (diskPlays_met os _)) ?_
  intro W base args ds gs before hval hW _ _ hL _
  refine law_post (pg := pg) (shs := [.slice [.int .i64, .int .i64, .str, .str]]) (tb := 4) [52] (by rw [Tryd.params5]) (by kernel_rfl) (by kernel_rfl) rfl (by kernel_rfl) (by kernel_rfl) laidOut (by kernel_rfl) (fun ds h => ?_) (fun gs h => ?_) (gl_ok hL) hval hW
  · match ds, h with
    | [_], _ => rfl
  · simp only [fitsL, fits] at h
    obtain ⟨_, _, rfl, ⟨rows0, rfl, hrows0⟩, rfl⟩ := h
    obtain ⟨l0, rfl, hl0⟩ := act_list rows0 hrows0
    exact of_rt (diskPlays_rt l0 hl0)

theorem diskPlays_row : Rows.DiskPlaysSaid :=
  OpenClaim.holds_of_wide 5 Tryd.f5 rfl rfl rfl rfl rfl rfl rfl ⟨rfl, rfl, rfl, rfl, rfl⟩ rfl rfl rfl rfl rfl (by kernel_rfl) Tryd.func5 (by kernel_rfl)
    (of_decide_eq_true (by kernel_rfl)) (by unfold Func.isWrapper; first | (rw [if_pos (by decide +kernel)]; kernel_rfl) | (rw [if_neg (by decide +kernel)]; exact ⟨rfl, rfl⟩))
    (fun os started H enc _ => diskPlays_lifted os started H enc)

theorem diskPlays_holds : Rows.DiskPlaysCardSaid :=
  Claim7.holds_tied_plain_at .later [] [.handle] true Rows.diskPlaysCard.stood.harness true
    diskPlays_row (fun _ h => by cases h) (by kernel_rfl) (fun _ h => by cases h) diskPlays_row_tie rfl ⟨rfl, rfl⟩ (by kernel_rfl) rfl
    (fun f fn hf hfn => by
      obtain rfl : f = 5 := Option.some.inj ((show Tryd.prog.funcNamed "raingauge/raingaugelaw.DiskPlays" = some 5 by kernel_rfl).symm.trans hf) |>.symm
      obtain rfl : fn = Tryd.f5 := (Option.some.inj (Tryd.func5.symm.trans hfn)).symm
      exact ⟨by kernel_rfl, fun j t ht => by
        rw [Tryd.params5] at ht
        have hm : t ∈ [52] := by simpa using Array.mem_of_getElem? ht
        have hall : ([52].all fun u => !Tryd.prog.wantsStandIn u) = true := by kernel_rfl
        exact (show Tryd.prog.wantsStandIn t = false by simpa using List.all_eq_true.1 hall t hm)⟩)
    (by kernel_rfl)
end Go.Proofs.YtbapgglhpbbonaaDoor
