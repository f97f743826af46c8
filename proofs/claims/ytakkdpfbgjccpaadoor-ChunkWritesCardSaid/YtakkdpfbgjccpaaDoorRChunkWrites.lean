/-
  ChunkWrites: whatever is given: true, and it reads as it did. The package-level variables that it reads are as the program's text lays them. No other condition.
-/
import Derived.Test.YtakkdpfbgjccpaaDoorCChunkWrites
import Derived.Test.YtakkdpfbgjccpaaDoorRShapes
import Derived.Test.YtakkdpfbgjccpaaDoorRDoorH
import Derived.Test.YtakkdpfbgjccpaaDoorCards
import Derived.Test.YtakkdpfbgjccpaaDoorTie
import Derived.SevenTiedAt
namespace Go.Proofs.YtakkdpfbgjccpaaDoor
open Go.GK Go.PL Go.ChangeShapes Go.WideShapes Go.ChangeAt Go.RowKit

theorem chunkWrites_met (os : Os) (args : Array Value) : laidMetH Tryd.prog Rows.chunkWritesRow.laid ((World.doorLaid Tryd.prog 400 os).forCall (fun _ _ => 0) ⟨#[], args, []⟩).memory :=
  laidMetH_of_parts3 (fuel := 8) (laidMet_of_run' 8 (by kernel_rfl) (by kernel_rfl)) (by kernel_rfl) (by kernel_rfl)

set_option maxRecDepth 100000 in
theorem chunkWrites_lifted (os : Os) (started : os.Started) (H : Type) (enc : TypeId × Value → H) :
    ReturnsInHanded {} Tryd.checked os 8 .any (fun w args => (Rows.chunkWritesSpec.pre enc Tryd.prog Tryd.f8 [] false w args ∧ laidMetH Tryd.prog Rows.chunkWritesRow.laid w) ∧ sizedMet enc Tryd.prog Tryd.f8 (OpenSpec.ofChange Rows.chunkWritesSpec) false w args)
      (Rows.chunkWritesSpec.post enc Tryd.prog Tryd.f8 false true false false) := by
  refine returnsInHanded_of_change_and (C := Tryd.checked) (X := fun w _ => laidMetH Tryd.prog Rows.chunkWritesRow.laid w) (fun _ _ _ hh h => h.of_heap hh) own started (by kernel_rfl) Tryd.func8
    (ChangeSpec.witness_shaped (enc := enc) (C := Tryd.checked) (os := os) (X := fun w _ => laidMetH Tryd.prog Rows.chunkWritesRow.laid w) false (World.doorLaid Tryd.prog 400 os) #[.slice none 0 0] 8 rfl (World.shaped_of_RefB (by kernel_rfl) (by kernel_rfl)) (by kernel_rfl) (by kernel_rfl) (by kernel_rfl) (chunkWrites_met os _)) ?_
  intro W base args ds gs before hval hW _ _ hL _
  refine law_post (pg := pg) (shs := [.slice [.int .i64, .int .i64]]) (tb := 4) [43] (by rw [Tryd.params8]) (by kernel_rfl) (by kernel_rfl) rfl (by kernel_rfl) (by kernel_rfl) laidOut (by kernel_rfl) (fun ds h => ?_) (fun gs h => ?_) (gl_ok hL) hval hW
  · match ds, h with
    | [_], _ => rfl
  · simp only [fitsL, fits] at h
    obtain ⟨_, _, rfl, ⟨rows0, rfl, hrows0⟩, rfl⟩ := h
    obtain ⟨l0, rfl, hl0, ht0⟩ := sm_list rows0 hrows0
    exact chunkWrites_ct l0 hl0

theorem chunkWrites_row : Rows.ChunkWritesSaid :=
  OpenClaim.holds_of_wide 8 Tryd.f8 rfl rfl rfl rfl rfl rfl rfl ⟨rfl, rfl, rfl, rfl, rfl⟩ rfl rfl rfl rfl rfl (by kernel_rfl) Tryd.func8 (by kernel_rfl)
    (of_decide_eq_true (by kernel_rfl)) (by unfold Func.isWrapper; first | (rw [if_pos (by decide +kernel)]; kernel_rfl) | (rw [if_neg (by decide +kernel)]; exact ⟨rfl, rfl⟩))
    (fun os started H enc _ => chunkWrites_lifted os started H enc)

theorem chunkWrites_holds : Rows.ChunkWritesCardSaid :=
  Claim7.holds_tied_plain_at .later [] [.handle, .data] true Rows.chunkWritesCard.stood.harness true
    chunkWrites_row (fun _ h => by cases h) (by kernel_rfl) (fun _ h => by cases h) chunkWrites_row_tie rfl ⟨rfl, rfl⟩ (by kernel_rfl) rfl
    (fun f fn hf hfn => by
      obtain rfl : f = 8 := Option.some.inj ((show Tryd.prog.funcNamed "raingauge/raingaugelaw.ChunkWrites" = some 8 by kernel_rfl).symm.trans hf) |>.symm
      obtain rfl : fn = Tryd.f8 := (Option.some.inj (Tryd.func8.symm.trans hfn)).symm
      exact ⟨by kernel_rfl, fun j t ht => by
        rw [Tryd.params8] at ht
        have hm : t ∈ [43] := by simpa using Array.mem_of_getElem? ht
        have hall : ([43].all fun u => !Tryd.prog.wantsStandIn u) = true := by kernel_rfl
        exact (show Tryd.prog.wantsStandIn t = false by simpa using List.all_eq_true.1 hall t hm)⟩)
    (by kernel_rfl)
end Go.Proofs.YtakkdpfbgjccpaaDoor
