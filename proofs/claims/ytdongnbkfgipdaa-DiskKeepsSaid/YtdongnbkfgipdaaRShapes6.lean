/-
  Arguments by their shapes: what is done to a disk, by numbers.
-/
import Derived.Test.YtdongnbkfgipdaaCDiskKeeps
namespace Go.Proofs.Ytdongnbkfgipdaa
open Go.GK Go.PL
theorem ak_list : ∀ (rows : List (List GV)), (∀ row ∈ rows, fitsL [.int .i64, .int .i64, .int .i64, .int .i64] row) → ∃ l : List (Int × Int × Int × Int), rows = l.map ak
  | [], _ => ⟨[], rfl⟩
  | row :: rows, h => by
    obtain ⟨l, rfl⟩ := ak_list rows (fun r hr => h r (by simp [hr]))
    have h0 := h row (by simp)
    simp only [fitsL, fits] at h0
    obtain ⟨_, _, rfl, ⟨a, rfl, _⟩, _, _, rfl, ⟨b, rfl, _⟩, _, _, rfl, ⟨c, rfl, _⟩, _, _, rfl, ⟨d, rfl, _⟩, rfl⟩ := h0
    exact ⟨(a, b, c, d) :: l, rfl⟩
end Go.Proofs.Ytdongnbkfgipdaa
