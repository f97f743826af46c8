/-
  Arguments by their shapes: series.
-/
import Derived.Test.YtaaoljhfepmkjaaDoorCSe
namespace Go.Proofs.YtaaoljhfepmkjaaDoor
open Go.GK Go.PL
theorem lbl_list : ∀ (rows : List (List GV)), (∀ row ∈ rows, fitsL [.str, .str] row) → ∃ l : List Lb, rows = l.map lb
  | [], _ => ⟨[], rfl⟩
  | row :: rows, h => by
    obtain ⟨l, rfl⟩ := lbl_list rows (fun r hr => h r (by simp [hr]))
    have h0 := h row (by simp)
    simp only [fitsL, fits] at h0
    obtain ⟨_, _, rfl, ⟨a, rfl, _⟩, _, _, rfl, ⟨b, rfl, _⟩, rfl⟩ := h0
    exact ⟨⟨a, b⟩ :: l, rfl⟩
theorem sml_list : ∀ (rows : List (List GV)), (∀ row ∈ rows, fitsL [.int .i64, .int .i64] row) → ∃ l : List Sm, rows = l.map sm ∧ V64 l
  | [], _ => ⟨[], rfl, fun _ h => by cases h⟩
  | row :: rows, h => by
    obtain ⟨l, rfl, hl⟩ := sml_list rows (fun r hr => h r (by simp [hr]))
    have h0 := h row (by simp)
    simp only [fitsL, fits] at h0
    obtain ⟨_, _, rfl, ⟨a, rfl, _⟩, _, _, rfl, ⟨b, rfl, hb⟩, rfl⟩ := h0
    refine ⟨⟨a, b⟩ :: l, rfl, fun x hx => ?_⟩
    rcases List.mem_cons.1 hx with rfl | hx
    · have hb' : -9223372036854775808 ≤ b ∧ b ≤ 9223372036854775807 := by simpa [Lit.wf, IntKind.min, IntKind.max, IntKind.signed, IntKind.bits] using hb
      exact hb'
    · exact hl x hx
theorem ser_list : ∀ (rows : List (List GV)), (∀ row ∈ rows, fitsL [.slice [.str, .str], .slice [.int .i64, .int .i64]] row) → ∃ l : List Ser, rows = l.map se ∧ ∀ x ∈ l, V64 x.samples
  | [], _ => ⟨[], rfl, fun _ h => by cases h⟩
  | row :: rows, h => by
    obtain ⟨l, rfl, hl⟩ := ser_list rows (fun r hr => h r (by simp [hr]))
    have h0 := h row (by simp)
    simp only [fitsL, fits] at h0
    obtain ⟨_, _, rfl, ⟨a, rfl, ha⟩, _, _, rfl, ⟨b, rfl, hb⟩, rfl⟩ := h0
    obtain ⟨la, rfl⟩ := lbl_list a ha
    obtain ⟨lb', rfl, hV⟩ := sml_list b hb
    refine ⟨⟨la, lb'⟩ :: l, rfl, fun x hx => ?_⟩
    rcases List.mem_cons.1 hx with rfl | hx
    · exact hV
    · exact hl x hx
end Go.Proofs.YtaaoljhfepmkjaaDoor
