/-
  Arguments by their shapes: numbers.
-/
import Derived.Test.YtogpkeoahlkokaaDoorCCodeReads
namespace Go.Proofs.YtogpkeoahlkokaaDoor
open Go.GK Go.PL
theorem nr_list : ∀ (rows : List (List GV)), (∀ row ∈ rows, fitsL [.int .i64] row) → ∃ l : List Int, rows = l.map nr
  | [], _ => ⟨[], rfl⟩
  | row :: rows, h => by
    obtain ⟨l, rfl⟩ := nr_list rows (fun r hr => h r (by simp [hr]))
    have h0 := h row (by simp)
    simp only [fitsL, fits] at h0
    obtain ⟨_, _, rfl, ⟨a, rfl, _⟩, rfl⟩ := h0
    exact ⟨a :: l, rfl⟩
end Go.Proofs.YtogpkeoahlkokaaDoor
