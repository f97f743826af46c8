/-
  Contracts: package label: order, text, matchers.
-/
import Derived.Test.YtogpkeoahlkokaaGreatDoorCLab
namespace Go.Proofs.YtogpkeoahlkokaaGreatDoor
open Go.GK Go.PL Go.RowKit
set_option maxRecDepth 100000
theorem lexC_len {α : Type} (f : α → α → Int) (hf : ∀ a b, f a b = 0 ↔ a = b) : ∀ (a b : List α), (∀ i, i < min a.length b.length → a[i]? = b[i]?) → lexC f a b = sgnF a.length b.length
  | [], [], _ => rfl
  | [], _ :: _, _ => by simp [lexC, sgnF]
  | _ :: _, [], _ => by simp [lexC, sgnF]; omega
  | x :: a, y :: b, h => by
    have h0 := h 0 (by simp)
    simp at h0
    have ih := lexC_len f hf a b (fun i hi => by have := h (i + 1) (by simp at hi ⊢; omega); simpa using this)
    simp only [lexC, (hf x y).2 h0, if_true, ih, sgnF, List.length_cons]
    repeat' split <;> omega
theorem lexC_at {α : Type} (f : α → α → Int) (hf : ∀ a b, f a b = 0 ↔ a = b) : ∀ (a b : List α) (i : Nat) (x y : α), (∀ j, j < i → a[j]? = b[j]?) → a[i]? = some x → b[i]? = some y → f x y ≠ 0 → lexC f a b = f x y
  | [], b, i, x, y, _, hx, _, _ => by simp at hx
  | _ :: _, [], i, x, y, _, _, hy, _ => by simp at hy
  | u :: a, v :: b, 0, x, y, _, hx, hy, hn => by
    simp at hx hy
    subst hx; subst hy
    simp only [lexC, if_neg hn]
  | u :: a, v :: b, i + 1, x, y, h, hx, hy, hn => by
    have h0 := h 0 (by omega)
    simp at h0
    simp only [lexC, (hf u v).2 h0, if_true]
    exact lexC_at f hf a b i x y (fun j hj => by have := h (j + 1) (by omega); simpa using this) (by simpa using hx) (by simpa using hy) hn
theorem cmpL1_or (x y : Lb) : cmpL1 x y = if cmpS x.name y.name = 0 then cmpS x.value y.value else cmpS x.name y.name := rfl
/-- Short labels. -/
structure Hl (l : List Lb) : Prop where
  len : l.length ≤ 1000
  name : ∀ x ∈ l, x.name.size ≤ 1000
  value : ∀ x ∈ l, x.value.size ≤ 1000
theorem item_len {l : List Lb} (h : Hl l) : ∀ x ∈ l, (itemF x).length ≤ 2003 := fun x hx => by
  have h1 := h.name x hx
  have h2 := h.value x hx
  simp only [itemF, List.length_append, size_data, List.length_cons, List.length_nil]
  omega
theorem inter_len {l : List (List UInt8)} {m : Nat} (h : ∀ x ∈ l, x.length ≤ m) : (([44] : List UInt8).intercalate l).length ≤ l.length * (m + 1) := by
  have key : ∀ (l : List (List UInt8)), (∀ x ∈ l, x.length ≤ m) → (([44] : List UInt8).intercalate l).length ≤ l.length * (m + 1) := by
    intro l
    induction l with
    | nil => intro _; simp [List.intercalate]
    | cons a l ih =>
      intro h
      have h1 := h a List.mem_cons_self
      have h2 := ih (fun x hx => h x (List.mem_cons_of_mem _ hx))
      cases l with
      | nil => simp [List.intercalate]; omega
      | cons b l =>
        have e : ([44] : List UInt8).intercalate (a :: b :: l) = a ++ ([44] ++ ([44] : List UInt8).intercalate (b :: l)) := by simp [List.intercalate]
        rw [e]
        simp only [List.length_append, List.length_cons, List.length_nil, Nat.add_mul] at h2 ⊢
        omega
  exact key l h
theorem inter_snoc (l : List (List UInt8)) (x : List UInt8) : ([44] : List UInt8).intercalate (l ++ [x]) = if l = [] then x else ([44] : List UInt8).intercalate l ++ ([44] ++ x) := by
  induction l with
  | nil => simp [List.intercalate]
  | cons a l ih =>
    cases l with
    | nil => simp [List.intercalate]
    | cons b l =>
      have e : ∀ r, r ≠ [] → ([44] : List UInt8).intercalate (a :: r) = a ++ ([44] ++ ([44] : List UInt8).intercalate r) := fun r hr => by
        cases r with
        | nil => exact (hr rfl).elim
        | cons c r => simp [List.intercalate]
      rw [List.cons_append, e _ (by simp), ih, if_neg (by simp), if_neg (by simp), e _ (by simp)]
      simp
theorem ba_app (a b : ByteArray) : (a ++ b).data.toList = a.data.toList ++ b.data.toList := by rw [ByteArray.data_append]; simp
theorem bs_size' (l : List UInt8) : (bs l).size = l.length := bs_size l
theorem app_size (a b : ByteArray) : (a ++ b).size = a.size + b.size := ByteArray.size_append
end Go.Proofs.YtogpkeoahlkokaaGreatDoor
