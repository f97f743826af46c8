/-
  Contracts: package label: Only; matchers.
-/
import Derived.Test.YtaaoljhfepmkjaaDoorCLab2
namespace Go.Proofs.YtaaoljhfepmkjaaDoor
open Go.GK Go.PL Go.RowKit
set_option maxRecDepth 100000
theorem only_snoc (l : List Lb) (ns : List ByteArray) (i : Nat) (h : i < l.length) : onlyF (l.take (i + 1)) ns = onlyF (l.take i) ns ++ if conS ns l[i].name = true then [l[i]] else [] := by
  have e : (ns.any fun n => sEq n l[i].name) = conS ns l[i].name := by
    unfold conS
    congr 1
    funext y
    rw [Bool.eq_iff_iff, sEq_iff, sEq_iff]
    exact ⟨fun h => h.symm, fun h => h.symm⟩
  unfold onlyF
  rw [List.take_succ_eq_append_getElem h, List.filter_append]
  congr 1
  rw [List.filter_cons, e]
  rfl
theorem only_len (l : List Lb) (ns : List ByteArray) : (onlyF l ns).length ≤ l.length := List.length_filter_le _ _
/-- Short matchers. -/
def Sm2 (l : List Mt) : Prop := ∀ x ∈ l, x.value.size < 4611686018427387904
theorem first_ix {α : Type} (l : List α) (p : α → Bool) : ∃ n, n ≤ l.length ∧ (∀ i (h : i < l.length), i < n → p l[i] = false) ∧ (∀ h : n < l.length, p l[n] = true) ∧ l.any p = decide (n < l.length) := by
  induction l with
  | nil => exact ⟨0, Nat.le_refl _, fun i h => absurd h (by simp), fun h => absurd h (by simp), by simp⟩
  | cons a l ih =>
    cases hp : p a with
    | true => exact ⟨0, Nat.zero_le _, fun i h h' => absurd h' (by omega), fun _ => hp, by simp [hp]⟩
    | false =>
      obtain ⟨n, h1, h2, h3, h4⟩ := ih
      refine ⟨n + 1, by simpa using h1, fun i h h' => ?_, fun h => ?_, by simp [hp, h4]⟩
      · cases i with
        | zero => exact hp
        | succ i => exact h2 i (by simpa using h) (by omega)
      · exact h3 (by simpa using h)
theorem any_anyB {α : Type} [Inhabited α] (l : List α) (p : α → Bool) : l.any p = anyB l.length (fun i => p (l.getD i default)) := by
  obtain ⟨n, h1, h2, h3, h4⟩ := first_ix l p
  rw [h4]
  by_cases h : n < l.length
  · rw [decide_eq_true h, anyB_true h]; simpa [h] using h3 h
  · rw [decide_eq_false h, anyB_false]
    intro i hi
    have := h2 i hi (by omega)
    simpa [hi] using this
end Go.Proofs.YtaaoljhfepmkjaaDoor
