/-
  Arguments by their shapes: lists of series.
-/
import Derived.Test.YtaaoljhfepmkjaaDoorRShapes8
namespace Go.Proofs.YtaaoljhfepmkjaaDoor
open Go.GK Go.PL
theorem serss_list : ∀ (rows : List (List GV)), (∀ row ∈ rows, fitsL [.slice [.slice [.str, .str], .slice [.int .i64, .int .i64]]] row) → ∃ l : List (List Ser), rows = l.map fun x => [ses x]
  | [], _ => ⟨[], rfl⟩
  | row :: rows, h => by
    obtain ⟨l, rfl⟩ := serss_list rows (fun r hr => h r (by simp [hr]))
    have h0 := h row (by simp)
    simp only [fitsL, fits] at h0
    obtain ⟨_, _, rfl, ⟨a, rfl, ha⟩, rfl⟩ := h0
    obtain ⟨x, rfl, _⟩ := ser_list a ha
    exact ⟨x :: l, rfl⟩
end Go.Proofs.YtaaoljhfepmkjaaDoor
