/-
  Arguments by their shapes: what is done to a disk.
-/
import Derived.Test.YtbapgglhpbbonaaDoorCDiskPlays
namespace Go.Proofs.YtbapgglhpbbonaaDoor
open Go.GK Go.PL
theorem act_list : ∀ (rows : List (List GV)), (∀ row ∈ rows, fitsL [.int .i64, .int .i64, .str, .str] row) → ∃ l : List (Int × Int × ByteArray × ByteArray), rows = l.map ac ∧ ∀ x ∈ l, x.2.1 ≤ 9223372036854775807
  | [], _ => ⟨[], rfl, by simp⟩
  | row :: rows, h => by
    obtain ⟨l, rfl, hl⟩ := act_list rows (fun r hr => h r (by simp [hr]))
    have h0 := h row (by simp)
    simp only [fitsL, fits] at h0
    obtain ⟨_, _, rfl, ⟨a, rfl, ha⟩, _, _, rfl, ⟨b, rfl, hb⟩, _, _, rfl, ⟨f, rfl, hf⟩, _, _, rfl, ⟨s, rfl, hs⟩, rfl⟩ := h0
    refine ⟨(a, b, f, s) :: l, rfl, fun x hx => ?_⟩
    rcases List.mem_cons.1 hx with rfl | hx
    · have hb' : -9223372036854775808 ≤ b ∧ b ≤ 9223372036854775807 := by simpa [Lit.wf, IntKind.min, IntKind.max, IntKind.signed, IntKind.bits] using hb
      exact hb'.2
    · exact hl x hx
end Go.Proofs.YtbapgglhpbbonaaDoor
