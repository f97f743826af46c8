/-
  BitsWrite: whatever is given: true, and it reads as it did. The package-level variables that it reads are as the program's text lays them. No other condition.
-/
import Derived.Test.YtakkdpfbgjccpaaDoorCBitsWrite
import Derived.Test.YtakkdpfbgjccpaaDoorRShapes
import Derived.Test.YtakkdpfbgjccpaaDoorRDoor
import Derived.Test.YtakkdpfbgjccpaaDoorCards
import Derived.Test.YtakkdpfbgjccpaaDoorTie
import Derived.SevenTiedAt
namespace Go.Proofs.YtakkdpfbgjccpaaDoor
open Go.GK Go.PL Go.ChangeShapes Go.WideShapes Go.ChangeAt Go.RowKit

theorem bitsWrite_met (os : Os) (args : Array Value) : laidMetH Tryd.prog Rows.bitsWriteRow.laid ((World.doorLaid Tryd.prog 400 os).forCall (fun _ _ => 0) ⟨#[], args, []⟩).memory :=
  laidMetH_of_parts3 (fuel := 8) (laidMet_of_run' 8 (by kernel_rfl) (by kernel_rfl)) (by kernel_rfl) (by kernel_rfl)

set_option maxRecDepth 100000 in
theorem bitsWrite_lifted (os : Os) (started : os.Started) (H : Type) (enc : TypeId × Value → H) :
    ReturnsInHanded {} Tryd.checked os 6 .any (fun w args => (Rows.bitsWriteSpec.pre enc Tryd.prog Tryd.f6 [] false w args ∧ laidMetH Tryd.prog Rows.bitsWriteRow.laid w) ∧ sizedMet enc Tryd.prog Tryd.f6 (OpenSpec.ofChange Rows.bitsWriteSpec) false w args)
      (Rows.bitsWriteSpec.post enc Tryd.prog Tryd.f6 false true false false) := by
  refine returnsInHanded_of_change_and (C := Tryd.checked) (X := fun w _ => laidMetH Tryd.prog Rows.bitsWriteRow.laid w) (fun _ _ _ hh h => h.of_heap hh) own started (by kernel_rfl) Tryd.func6
    (ChangeSpec.witness_shaped (enc := enc) (C := Tryd.checked) (os := os) (X := fun w _ => laidMetH Tryd.prog Rows.bitsWriteRow.laid w) false (World.doorLaid Tryd.prog 400 os) #[.slice none 0 0, .int .i64 0, .int .u64 0] 8 rfl (World.shaped_of_RefB (by kernel_rfl) (by kernel_rfl)) (by kernel_rfl) (by kernel_rfl) (by kernel_rfl) (bitsWrite_met os _)) ?_
  intro W base args ds gs before hval hW _ _ hL _
  have hL' : laidMet Tryd.prog [("raingauge/bits.sizes", Rows.laid_raingauge_bits_sizes)] W := by
    rw [MakeChecks.laidMetH_plain _ _ _ (by kernel_rfl)] at hL
    exact hL
  refine law_post (pg := pg) (shs := [.slice [.int .i64, .int .i64], .int .i64, .int .u64]) (tb := 4) [55, 2, 31] (by rw [Tryd.params6]) (by kernel_rfl) (by kernel_rfl) rfl (by kernel_rfl) (by kernel_rfl) laidOut (by kernel_rfl) (fun ds h => ?_) (fun gs h => ?_) (gl_ok hL') hval hW
  · match ds, h with
    | [_, _, _], _ => rfl
  · simp only [fitsL, fits] at h
    obtain ⟨_, _, rfl, ⟨rows0, rfl, hrows0⟩, _, _, rfl, ⟨a1, rfl, h1⟩, _, _, rfl, ⟨a2, rfl, h2⟩, rfl⟩ := h
    obtain ⟨l0, rfl, hl0⟩ := wr_list rows0 hrows0
    obtain ⟨u2, rfl, hu2⟩ := u64_nat h2
    exact bitsWrite_ct l0 a1 u2 hl0 (in64 h1) hu2

theorem bitsWrite_row : Rows.BitsWriteSaid :=
  OpenClaim.holds_of_wide 6 Tryd.f6 rfl rfl rfl rfl rfl rfl rfl ⟨rfl, rfl, rfl, rfl, rfl⟩ rfl rfl rfl rfl rfl (by kernel_rfl) Tryd.func6 (by kernel_rfl)
    (of_decide_eq_true (by kernel_rfl)) (by unfold Func.isWrapper; first | (rw [if_pos (by decide +kernel)]; kernel_rfl) | (rw [if_neg (by decide +kernel)]; exact ⟨rfl, rfl⟩))
    (fun os started H enc _ => bitsWrite_lifted os started H enc)

theorem bitsWrite_holds : Rows.BitsWriteCardSaid :=
  Claim7.holds_tied_plain_at .later [] [.data] true Rows.bitsWriteCard.stood.harness true
    bitsWrite_row (fun _ h => by cases h) (by kernel_rfl) (fun _ h => by cases h) bitsWrite_row_tie rfl ⟨rfl, rfl⟩ (by kernel_rfl) rfl
    (fun f fn hf hfn => by
      obtain rfl : f = 6 := Option.some.inj ((show Tryd.prog.funcNamed "raingauge/raingaugelaw.BitsWrite" = some 6 by kernel_rfl).symm.trans hf) |>.symm
      obtain rfl : fn = Tryd.f6 := (Option.some.inj (Tryd.func6.symm.trans hfn)).symm
      exact ⟨by kernel_rfl, fun j t ht => by
        rw [Tryd.params6] at ht
        have hm : t ∈ [55, 2, 31] := by simpa using Array.mem_of_getElem? ht
        have hall : ([55, 2, 31].all fun u => !Tryd.prog.wantsStandIn u) = true := by kernel_rfl
        exact (show Tryd.prog.wantsStandIn t = false by simpa using List.all_eq_true.1 hall t hm)⟩)
    (by kernel_rfl)
end Go.Proofs.YtakkdpfbgjccpaaDoor
