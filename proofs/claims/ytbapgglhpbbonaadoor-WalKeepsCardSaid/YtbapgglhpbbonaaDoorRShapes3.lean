/-
  Arguments by their shapes: notes.
-/
import Derived.Test.YtbapgglhpbbonaaDoorCWalPlays
namespace Go.Proofs.YtbapgglhpbbonaaDoor
open Go.GK Go.PL
theorem ba_list : ∀ (rows : List (List GV)), (∀ row ∈ rows, fitsL [.str] row) → ∃ l : List ByteArray, rows = l.map fun x => [gs x]
  | [], _ => ⟨[], rfl⟩
  | row :: rows, h => by
    obtain ⟨l, rfl⟩ := ba_list rows (fun r hr => h r (by simp [hr]))
    have h0 := h row (by simp)
    simp only [fitsL, fits] at h0
    obtain ⟨_, _, rfl, ⟨a, rfl, ha⟩, rfl⟩ := h0
    exact ⟨a :: l, rfl⟩
theorem nt_list : ∀ (rows : List (List GV)), (∀ row ∈ rows, fitsL [.int .i64, .slice [.str]] row) → ∃ l : List (Int × List ByteArray), rows = l.map nt
  | [], _ => ⟨[], rfl⟩
  | row :: rows, h => by
    obtain ⟨l, rfl⟩ := nt_list rows (fun r hr => h r (by simp [hr]))
    have h0 := h row (by simp)
    simp only [fitsL, fits] at h0
    obtain ⟨_, _, rfl, ⟨a, rfl, ha⟩, _, _, rfl, ⟨rs, rfl, hrs⟩, rfl⟩ := h0
    obtain ⟨L, rfl⟩ := ba_list rs hrs
    exact ⟨(a, L) :: l, rfl⟩
end Go.Proofs.YtbapgglhpbbonaaDoor
