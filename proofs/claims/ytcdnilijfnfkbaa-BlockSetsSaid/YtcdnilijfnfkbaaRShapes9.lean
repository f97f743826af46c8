/-
  Arguments by their shapes: what is taken out.
-/
import Derived.Test.YtcdnilijfnfkbaaRShapes8
import Derived.Test.YtcdnilijfnfkbaaCGnA
namespace Go.Proofs.Ytcdnilijfnfkbaa
open Go.GK Go.PL
theorem mts_list : ∀ (rows : List (List GV)), (∀ row ∈ rows, fitsL [.str, .int .i64, .str] row) → ∃ l : List Mt, rows = l.map mt
  | [], _ => ⟨[], rfl⟩
  | row :: rows, h => by
    obtain ⟨l, rfl⟩ := mts_list rows (fun r hr => h r (by simp [hr]))
    have h0 := h row (by simp)
    simp only [fitsL, fits] at h0
    obtain ⟨_, _, rfl, ⟨a, rfl, _⟩, _, _, rfl, ⟨b, rfl, _⟩, _, _, rfl, ⟨c, rfl, _⟩, rfl⟩ := h0
    exact ⟨⟨a, b, c⟩ :: l, rfl⟩
theorem gone_list : ∀ (rows : List (List GV)), (∀ row ∈ rows, fitsL [.slice [.str, .int .i64, .str], .int .i64, .int .i64] row) → ∃ l : List Gn, rows = l.map gn
  | [], _ => ⟨[], rfl⟩
  | row :: rows, h => by
    obtain ⟨l, rfl⟩ := gone_list rows (fun r hr => h r (by simp [hr]))
    have h0 := h row (by simp)
    simp only [fitsL, fits] at h0
    obtain ⟨_, _, rfl, ⟨a, rfl, ha⟩, _, _, rfl, ⟨b, rfl, _⟩, _, _, rfl, ⟨c, rfl, _⟩, rfl⟩ := h0
    obtain ⟨m, rfl⟩ := mts_list a ha
    exact ⟨⟨m, b, c⟩ :: l, rfl⟩
end Go.Proofs.Ytcdnilijfnfkbaa
