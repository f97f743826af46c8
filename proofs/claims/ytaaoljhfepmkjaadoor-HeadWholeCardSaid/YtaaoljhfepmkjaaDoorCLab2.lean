/-
  Contracts: package label: order, text, matchers.
-/
import Derived.Test.YtaaoljhfepmkjaaDoorCLab
namespace Go.Proofs.YtaaoljhfepmkjaaDoor
open Go.GK Go.PL Go.RowKit
set_option maxRecDepth 100000
theorem lexC_len {α : Type} (f : α → α → Int) (hf : ∀ a b, f a b = 0 ↔ a = b) : ∀ (a b : List α), (∀ i, i < min a.length b.length → a[i]? = b[i]?) → lexC f a b = sgnF a.length b.length
  | [], [], _ => rfl
  | [], _ :: _, _ => by simp [lexC, sgnF]
  | _ :: _, [], _ => by simp [lexC, sgnF]; omega
  | x :: a, y :: b, h => by
    have h0 := h 0 (by simp)
    simp at h0
    have ih := lexC_len f hf a b (fun i hi => by have := h (i + 1) (by simp at hi ⊢; omega); simpa using this)
    simp only [lexC, (hf x y).2 h0, if_true, ih, sgnF, List.length_cons]
    repeat' split <;> omega
theorem lexC_at {α : Type} (f : α → α → Int) (hf : ∀ a b, f a b = 0 ↔ a = b) : ∀ (a b : List α) (i : Nat) (x y : α), (∀ j, j < i → a[j]? = b[j]?) → a[i]? = some x → b[i]? = some y → f x y ≠ 0 → lexC f a b = f x y
  | [], b, i, x, y, _, hx, _, _ => by simp at hx
  | _ :: _, [], i, x, y, _, _, hy, _ => by simp at hy
  | u :: a, v :: b, 0, x, y, _, hx, hy, hn => by
    simp at hx hy
    subst hx; subst hy
    simp only [lexC, if_neg hn]
  | u :: a, v :: b, i + 1, x, y, h, hx, hy, hn => by
    have h0 := h 0 (by omega)
    simp at h0
    simp only [lexC, (hf u v).2 h0, if_true]
    exact lexC_at f hf a b i x y (fun j hj => by have := h (j + 1) (by omega); simpa using this) (by simpa using hx) (by simpa using hy) hn
theorem cmpL1_or (x y : Lb) : cmpL1 x y = if cmpS x.name y.name = 0 then cmpS x.value y.value else cmpS x.name y.name := rfl
theorem lcompare_rt (a b : List Lb) : Rt pg 12 [.sl 2 (a.map lb), .sl 2 (b.map lb)] (gi (cmpF a b)) := by
  refine Rt.of pg_ok Tryd.func12 rfl Tryd.ntmps12 rfl Tryd.results12 Tryd.call12 fun H0 S0 w0 h0 g0 => ?_
  refine JK.len 0 rfl fun hlen _ => ?_
  have hlen' : a.length ≤ 9223372036854775807 := by simpa [maxLen] using hlen
  have hla : (a.map lb).length = a.length := by simp
  have hlb : (b.map lb).length = b.length := by simp
  refine JK.loop (α := Nat) (fun i => ⟨[(0, .sl 2 (a.map lb)), (1, .sl 2 (b.map lb)), (11, gi (min a.length b.length : Nat)), (12, gi i)], [], 0⟩) (fun i => i ≤ min a.length b.length ∧ ∀ j, j < i → a[j]? = b[j]?) (fun i => min a.length b.length - i) 0 id ?_ ⟨Nat.zero_le _, fun j hj => absurd hj (by omega)⟩ ?_
  · refine ⟨⟨rfl, rfl, ?_, rfl, trivial⟩, trivial, rfl⟩
    show some (gi (if ((b.map lb).length : Int) < (a.map lb).length then ((b.map lb).length : Int) else (a.map lb).length)) = some (gi (min a.length b.length : Nat))
    congr 2
    split <;> omega
  · rintro i ⟨hi, hgood⟩
    refine V ?_
    by_cases hlt : i < min a.length b.length
    · have ha : i < a.length := by omega
      have hb : i < b.length := by omega
      refine p1 ?_
      refine DRAW [] false (tk [0, 1, 2, 3, 4, 5, 6, 7, 8, 9, 11, 12, 13, 14, 15, 16, 17, 18, 19, 20]) (by kernel_rfl) ?_
      repeat refine ix (h := ?_)
      refine RGO 10 false [] (compare_rt a[i].name b[i].name) rfl rfl (by kernel_rfl) ?_
      refine RGO 21 false (al [22]) (compare_rt a[i].value b[i].value) rfl rfl (by kernel_rfl) ?_
      refine RGOB 23 true (tk [24]) (or_rt (cmpS a[i].name b[i].name) (cmpS a[i].value b[i].value)) rfl rfl ⟨⟨rfl, rfl⟩, trivial⟩ (by kernel_rfl) ?_
      refine V ?_
      have hc := cmpL1_or a[i] b[i]
      by_cases h : cmpL1 a[i] b[i] = 0
      · refine p2 ?_ (by rw [← hc, h]; rfl)
        exact ⟨i + 1, id, ⟨⟨rfl, rfl, rfl, succ_gi (by omega), trivial⟩, trivial, rfl⟩, ⟨hlt, fun j hj => by
          rcases Nat.lt_succ_iff_lt_or_eq.1 hj with h1 | h1
          · exact hgood j h1
          · subst h1
            rw [List.getElem?_eq_getElem ha, List.getElem?_eq_getElem hb, (cmpL1_is.eq0 _ _).1 h]⟩, by show min a.length b.length - (i + 1) < min a.length b.length - i; omega⟩
      · refine p1 ?_ (by rw [← hc]; simpa using h)
        refine ⟨?_, rfl⟩
        show gi _ = gi _
        rw [← hc, cmpF, lexC_at cmpL1 cmpL1_is.eq0 a b i a[i] b[i] hgood (List.getElem?_eq_getElem ha) (List.getElem?_eq_getElem hb) h]
    · refine p2 ?_
      refine V ?_
      refine GO (cmpInt_rt _ _) rfl ?_
      refine ⟨?_, rfl⟩
      show gi _ = gi _
      rw [hla, hlb, cmpF, lexC_len cmpL1 cmpL1_is.eq0 a b (fun j hj => hgood j (by omega))]

/-- Short labels. -/
structure Hl (l : List Lb) : Prop where
  len : l.length ≤ 1000
  name : ∀ x ∈ l, x.name.size ≤ 1000
  value : ∀ x ∈ l, x.value.size ≤ 1000
theorem item_len {l : List Lb} (h : Hl l) : ∀ x ∈ l, (itemF x).length ≤ 2003 := fun x hx => by
  have h1 := h.name x hx
  have h2 := h.value x hx
  simp only [itemF, List.length_append, size_data, List.length_cons, List.length_nil]
  omega
theorem inter_len {l : List (List UInt8)} {m : Nat} (h : ∀ x ∈ l, x.length ≤ m) : (([44] : List UInt8).intercalate l).length ≤ l.length * (m + 1) := by
  have key : ∀ (l : List (List UInt8)), (∀ x ∈ l, x.length ≤ m) → (([44] : List UInt8).intercalate l).length ≤ l.length * (m + 1) := by
    intro l
    induction l with
    | nil => intro _; simp [List.intercalate]
    | cons a l ih =>
      intro h
      have h1 := h a List.mem_cons_self
      have h2 := ih (fun x hx => h x (List.mem_cons_of_mem _ hx))
      cases l with
      | nil => simp [List.intercalate]; omega
      | cons b l =>
        have e : ([44] : List UInt8).intercalate (a :: b :: l) = a ++ ([44] ++ ([44] : List UInt8).intercalate (b :: l)) := by simp [List.intercalate]
        rw [e]
        simp only [List.length_append, List.length_cons, List.length_nil, Nat.add_mul] at h2 ⊢
        omega
  exact key l h
theorem inter_snoc (l : List (List UInt8)) (x : List UInt8) : ([44] : List UInt8).intercalate (l ++ [x]) = if l = [] then x else ([44] : List UInt8).intercalate l ++ ([44] ++ x) := by
  induction l with
  | nil => simp [List.intercalate]
  | cons a l ih =>
    cases l with
    | nil => simp [List.intercalate]
    | cons b l =>
      have e : ∀ r, r ≠ [] → ([44] : List UInt8).intercalate (a :: r) = a ++ ([44] ++ ([44] : List UInt8).intercalate r) := fun r hr => by
        cases r with
        | nil => exact (hr rfl).elim
        | cons c r => simp [List.intercalate]
      rw [List.cons_append, e _ (by simp), ih, if_neg (by simp), if_neg (by simp), e _ (by simp)]
      simp
theorem ba_app (a b : ByteArray) : (a ++ b).data.toList = a.data.toList ++ b.data.toList := by rw [ByteArray.data_append]; simp
theorem bs_size' (l : List UInt8) : (bs l).size = l.length := bs_size l
theorem app_size (a b : ByteArray) : (a ++ b).size = a.size + b.size := ByteArray.size_append
end Go.Proofs.YtaaoljhfepmkjaaDoor
