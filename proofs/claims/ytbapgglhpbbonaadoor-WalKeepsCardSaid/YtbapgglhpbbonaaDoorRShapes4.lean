/-
  Arguments by their shapes: notes with one text, and numbers.
-/
import Derived.Test.YtbapgglhpbbonaaDoorCWalKeeps
import Derived.Test.YtbapgglhpbbonaaDoorRShapes3
namespace Go.Proofs.YtbapgglhpbbonaaDoor
open Go.GK Go.PL
theorem nums_list : ∀ (rows : List (List GV)), (∀ row ∈ rows, fitsL [.int .i64] row) → ∃ l : List Int, rows = l.map (fun x => [gi x])
  | [], _ => ⟨[], rfl⟩
  | row :: rows, h => by
    obtain ⟨l, rfl⟩ := nums_list rows (fun r hr => h r (by simp [hr]))
    have h0 := h row (by simp)
    simp only [fitsL, fits] at h0
    obtain ⟨_, _, rfl, ⟨a, rfl, ha⟩, rfl⟩ := h0
    exact ⟨a :: l, rfl⟩
theorem kn_list : ∀ (rows : List (List GV)), (∀ row ∈ rows, fitsL [.int .i64, .str, .slice [.str]] row) → ∃ l : List (Int × ByteArray × List ByteArray), rows = l.map kn
  | [], _ => ⟨[], rfl⟩
  | row :: rows, h => by
    obtain ⟨l, rfl⟩ := kn_list rows (fun r hr => h r (by simp [hr]))
    have h0 := h row (by simp)
    simp only [fitsL, fits] at h0
    obtain ⟨_, _, rfl, ⟨a, rfl, ha⟩, _, _, rfl, ⟨t, rfl, ht⟩, _, _, rfl, ⟨rs, rfl, hrs⟩, rfl⟩ := h0
    obtain ⟨L, rfl⟩ := ba_list rs hrs
    exact ⟨(a, t, L) :: l, rfl⟩
end Go.Proofs.YtbapgglhpbbonaaDoor
