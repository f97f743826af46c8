/-
  Arguments by their shapes.
-/
import Derived.Test.YtfagagfokmlgiaaDoorCRoll
import Derived.Test.YtfagagfokmlgiaaDoorPChunk
import Derived.Test.YtfagagfokmlgiaaDoorCPg
namespace Go.Proofs.YtfagagfokmlgiaaDoor
open Go.GK Go.PL
theorem in64 {n : Int} (h : (Lit.int .i64 n).wf = true) : In64 n := by
  have : -9223372036854775808 ≤ n ∧ n ≤ 9223372036854775807 := by simpa [Lit.wf, IntKind.min, IntKind.max, IntKind.signed, IntKind.bits] using h
  exact this
theorem inU64 {n : Int} (h : (Lit.int .u64 n).wf = true) : 0 ≤ n ∧ n ≤ 18446744073709551615 := by
  have : 0 ≤ n ∧ n ≤ 18446744073709551615 := by simpa [Lit.wf, IntKind.min, IntKind.max, IntKind.signed, IntKind.bits] using h
  exact this
theorem ir_list : ∀ (rows : List (List GV)), (∀ row ∈ rows, fitsL [.int .i64] row) → ∃ l : List Int, rows = l.map (fun x => [gi x]) ∧ ∀ x ∈ l, In64 x
  | [], _ => ⟨[], rfl, by simp⟩
  | row :: rows, h => by
    obtain ⟨l, rfl, hl⟩ := ir_list rows (fun r hr => h r (by simp [hr]))
    have h0 := h row (by simp)
    simp only [fitsL, fits] at h0
    obtain ⟨_, _, rfl, ⟨a, rfl, ha⟩, rfl⟩ := h0
    exact ⟨a :: l, rfl, fun x hx => by
      rcases List.mem_cons.1 hx with rfl | hx
      · exact in64 ha
      · exact hl x hx⟩
theorem sm_list : ∀ (rows : List (List GV)), (∀ row ∈ rows, fitsL [.int .i64, .int .i64] row) → ∃ l : List Sm, rows = l.map sm ∧ V64 l ∧ ∀ x ∈ l, In64 x.time
  | [], _ => ⟨[], rfl, fun x hx => by simp at hx, by simp⟩
  | row :: rows, h => by
    obtain ⟨l, rfl, hl, ht⟩ := sm_list rows (fun r hr => h r (by simp [hr]))
    have h0 := h row (by simp)
    simp only [fitsL, fits] at h0
    obtain ⟨_, _, rfl, ⟨a, rfl, ha⟩, _, _, rfl, ⟨b, rfl, hb⟩, rfl⟩ := h0
    refine ⟨⟨a, b⟩ :: l, rfl, fun x hx => ?_, fun x hx => ?_⟩
    · rcases List.mem_cons.1 hx with rfl | hx
      · exact in64 hb
      · exact hl x hx
    · rcases List.mem_cons.1 hx with rfl | hx
      · exact in64 ha
      · exact ht x hx
theorem u64_nat {n : Int} (h : (Lit.int .u64 n).wf = true) : ∃ u : Nat, n = (u : Int) ∧ u < 18446744073709551616 := by
  have := inU64 h
  exact ⟨n.toNat, by omega, by omega⟩
theorem wr_list : ∀ (rows : List (List GV)), (∀ row ∈ rows, fitsL [.int .i64, .int .i64] row) → ∃ l : List (Int × Int), rows = l.map (fun x => [gi x.1, gi x.2]) ∧ ∀ x ∈ l, In64 x.1 ∧ In64 x.2
  | [], _ => ⟨[], rfl, by simp⟩
  | row :: rows, h => by
    obtain ⟨l, rfl, hl⟩ := wr_list rows (fun r hr => h r (by simp [hr]))
    have h0 := h row (by simp)
    simp only [fitsL, fits] at h0
    obtain ⟨_, _, rfl, ⟨a, rfl, ha⟩, _, _, rfl, ⟨b, rfl, hb⟩, rfl⟩ := h0
    exact ⟨(a, b) :: l, rfl, fun x hx => by
      rcases List.mem_cons.1 hx with rfl | hx
      · exact ⟨in64 ha, in64 hb⟩
      · exact hl x hx⟩
end Go.Proofs.YtfagagfokmlgiaaDoor
