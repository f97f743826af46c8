/-
  Arguments by their shapes: labels and matchers.
-/
import Derived.Test.YtfagagfokmlgiaaDoorCLab
namespace Go.Proofs.YtfagagfokmlgiaaDoor
open Go.GK Go.PL
theorem lb_list : ∀ (rows : List (List GV)), (∀ row ∈ rows, fitsL [.str, .str] row) → ∃ l : List Lb, rows = l.map lb
  | [], _ => ⟨[], rfl⟩
  | row :: rows, h => by
    obtain ⟨l, rfl⟩ := lb_list rows (fun r hr => h r (by simp [hr]))
    have h0 := h row (by simp)
    simp only [fitsL, fits] at h0
    obtain ⟨_, _, rfl, ⟨a, rfl, ha⟩, _, _, rfl, ⟨b, rfl, hb⟩, rfl⟩ := h0
    exact ⟨⟨a, b⟩ :: l, rfl⟩
theorem mt_list : ∀ (rows : List (List GV)), (∀ row ∈ rows, fitsL [.str, .int .i64, .str] row) → ∃ l : List Mt, rows = l.map mt
  | [], _ => ⟨[], rfl⟩
  | row :: rows, h => by
    obtain ⟨l, rfl⟩ := mt_list rows (fun r hr => h r (by simp [hr]))
    have h0 := h row (by simp)
    simp only [fitsL, fits] at h0
    obtain ⟨_, _, rfl, ⟨a, rfl, ha⟩, _, _, rfl, ⟨o, rfl, ho⟩, _, _, rfl, ⟨b, rfl, hb⟩, rfl⟩ := h0
    exact ⟨⟨a, o, b⟩ :: l, rfl⟩
theorem of_rt {f : FuncId} {gs : List GV} (h : Rt pg f gs (.b true)) : Ct pg f 0 gs [] (Val fun g => g = .b true) := by
  exact h.ct.weak fun g σ' n' hq => ⟨id, g, [], 0, ⟨hq.1.1, rfl, rfl⟩, (ren_id g).symm, trivial, by simp [hq.1.2, idbH, hids, distB, fixB]⟩
end Go.Proofs.YtfagagfokmlgiaaDoor
