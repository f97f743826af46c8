/-
  Plain laws: insertion, and the merge of two sorted pieces in their place, as package sort does them; no program is in sight.
-/
import Derived.Test.YtcdnilijfnfkbaaPBa
namespace Go.PL
open Go
section
variable {α : Type}
/-- An order, in which some may be the same. -/
structure WO (lt : α → α → Bool) : Prop where
  asym : ∀ x y, lt x y = true → lt y x = false
  ntrans : ∀ x y z, lt y x = false → lt z y = false → lt z x = false
def Srt (lt : α → α → Bool) (l : List α) : Prop := l.Pairwise fun x y => lt y x = false
variable {lt : α → α → Bool}
theorem Srt.app {P Q : List α} : Srt lt (P ++ Q) ↔ Srt lt P ∧ Srt lt Q ∧ ∀ x ∈ P, ∀ y ∈ Q, lt y x = false := List.pairwise_append
/-- All of a sorted piece are up to its last one. -/
theorem Srt.last (hO : WO lt) {P : List α} (h : Srt lt P) {z : α} (hz : P.getLast? = some z) : ∀ x ∈ P, lt z x = false := by
  obtain ⟨Q, rfl⟩ := List.getLast?_eq_some_iff.1 hz
  intro x hx
  rcases List.mem_append.1 hx with h1 | h1
  · exact (Srt.app.1 h).2.2 x h1 z (by simp)
  · rw [List.mem_singleton.1 h1]
    cases hb : lt z z with
    | false => rfl
    | true => have := hO.asym z z hb; rw [hb] at this; cases this
theorem Srt.first (hO : WO lt) {P : List α} (h : Srt lt P) {z : α} (hz : P.head? = some z) : ∀ x ∈ P, lt x z = false := by
  obtain ⟨Q, rfl⟩ := List.head?_eq_some_iff.1 hz
  intro x hx
  rcases List.mem_cons.1 hx with rfl | h1
  · cases hb : lt x x with
    | false => rfl
    | true => have := hO.asym x x hb; rw [hb] at this; cases this
  · exact (List.pairwise_cons.1 h).1 x h1
/-- Two sorted pieces, of which the last of the one is up to the first of the other. -/
theorem Srt.le_all (hO : WO lt) {P Q : List α} (hP : Srt lt P) (hQ : Srt lt Q) (h : ∀ x ∈ P.getLast?, ∀ y ∈ Q.head?, lt y x = false) : ∀ x ∈ P, ∀ y ∈ Q, lt y x = false := by
  intro x hx y hy
  cases hp : P.getLast? with
  | none => rw [List.getLast?_eq_none_iff.1 hp] at hx; cases hx
  | some u =>
    cases hq : Q.head? with
    | none => rw [List.head?_eq_none_iff.1 hq] at hy; cases hy
    | some v =>
      have h1 := hP.last hO hp x hx
      have h2 := hQ.first hO hq y hy
      have h3 := h u (by rw [hp]; rfl) v (by rw [hq]; rfl)
      exact hO.ntrans x v y (hO.ntrans x u v h1 h3) h2
/-- One put into a sorted list. -/
theorem Srt.ins (hO : WO lt) {P Q : List α} {x : α} (h : Srt lt (P ++ Q)) (hP : ∀ z ∈ P.getLast?, lt x z = false) (hQ : ∀ z ∈ Q.head?, lt z x = false) : Srt lt (P ++ x :: Q) := by
  obtain ⟨h1, h2, h3⟩ := Srt.app.1 h
  have hp : ∀ z ∈ P, lt x z = false := by
    intro z hz
    have := h1.le_all hO (Q := [x]) (List.pairwise_singleton _ _) (fun u hu v hv => by
      simp at hv; subst hv; exact hP u hu) z hz x (by simp)
    exact this
  have hq : ∀ z ∈ Q, lt z x = false := by
    intro z hz
    exact Srt.le_all hO (P := [x]) (List.pairwise_singleton _ _) h2 (fun u hu v hv => by
      simp at hu; subst hu; exact hQ v hv) x (by simp) z hz
  refine Srt.app.2 ⟨h1, List.pairwise_cons.2 ⟨hq, h2⟩, fun u hu v hv => ?_⟩
  rcases List.mem_cons.1 hv with rfl | hv
  · exact hp u hu
  · exact h3 u hu v hv
theorem ins_perm (P Q : List α) (x : α) : (P ++ x :: Q).Perm (x :: (P ++ Q)) := List.perm_middle
/-- Two sorted pieces cut in two, the beginnings and the ends put together. -/
theorem Srt.cross (hO : WO lt) {X1 X2 Y1 Y2 Z1 Z2 : List α} (hX : Srt lt (X1 ++ X2)) (hY : Srt lt (Y1 ++ Y2)) (h1 : ∀ x ∈ X1.getLast?, ∀ y ∈ Y2.head?, lt y x = false) (h2 : ∀ y ∈ Y1.getLast?, ∀ x ∈ X2.head?, lt x y = false)
    (p1 : Z1.Perm (X1 ++ Y1)) (p2 : Z2.Perm (X2 ++ Y2)) (s1 : Srt lt Z1) (s2 : Srt lt Z2) : Srt lt (Z1 ++ Z2) := by
  obtain ⟨a1, a2, a3⟩ := Srt.app.1 hX
  obtain ⟨b1, b2, b3⟩ := Srt.app.1 hY
  have c1 := a1.le_all hO b2 h1
  have c2 := b1.le_all hO a2 h2
  refine Srt.app.2 ⟨s1, s2, fun u hu v hv => ?_⟩
  have hu' := p1.mem_iff.1 hu
  have hv' := p2.mem_iff.1 hv
  rcases List.mem_append.1 hu' with h | h <;> rcases List.mem_append.1 hv' with k | k
  · exact a3 u h v k
  · exact c1 u h v k
  · exact c2 u h v k
  · exact b3 u h v k
theorem cross_perm {X1 X2 Y1 Y2 Z1 Z2 : List α} (p1 : Z1.Perm (X1 ++ Y1)) (p2 : Z2.Perm (X2 ++ Y2)) : (Z1 ++ Z2).Perm (X1 ++ X2 ++ (Y1 ++ Y2)) := by
  refine (p1.append p2).trans ?_
  rw [List.append_assoc, List.append_assoc]
  refine List.Perm.append_left X1 ?_
  rw [← List.append_assoc, ← List.append_assoc]
  exact List.Perm.append_right Y2 List.perm_append_comm
/-- Two elements change places. -/
theorem swap_at (A M B : List α) (x y : α) {i j : Nat} (hi : i = A.length) (hj : j = A.length + 1 + M.length) : ((A ++ x :: (M ++ y :: B)).set i y).set j x = A ++ y :: (M ++ x :: B) := by
  subst hi
  subst hj
  rw [List.set_append_right _ _ (Nat.le_refl _), Nat.sub_self, List.set_cons_zero, List.set_append_right _ _ (by omega), show A.length + 1 + M.length - A.length = M.length + 1 by omega, List.set_cons_succ, List.set_append_right _ _ (Nat.le_refl _), Nat.sub_self, List.set_cons_zero]
theorem swap_at' (A M B : List α) (x y : α) {i j : Nat} (hi : i = A.length) (hj : j = A.length + 1 + M.length) : ((A ++ x :: (M ++ y :: B)).set j x).set i y = A ++ y :: (M ++ x :: B) := by
  rw [List.set_comm _ _ (by omega)]
  exact swap_at A M B x y hi hj
theorem stab_at (A B : List α) (x : α) {i : Nat} (hi : i = A.length) : (A ++ x :: B)[i]? = some x := by
  subst hi
  rw [List.getElem?_append_right (Nat.le_refl _), Nat.sub_self]
  rfl
theorem stab_at2 (A M B : List α) (x y : α) {j : Nat} (hj : j = A.length + 1 + M.length) : (A ++ x :: (M ++ y :: B))[j]? = some y := by
  subst hj
  rw [List.getElem?_append_right (by omega), show A.length + 1 + M.length - A.length = M.length + 1 by omega, List.getElem?_cons_succ, List.getElem?_append_right (Nat.le_refl _), Nat.sub_self]
  rfl
end
end Go.PL
