/-
  Contracts: the document's answer on labels: order, text, Only, Fits; short labels, the same labels.
-/
import Derived.Test.YtfnomonhfndbiaaGreatDoorCRefLab
namespace Go.Proofs.YtfnomonhfndbiaaGreatDoor
open Go.GK Go.PL Go.RowKit
set_option maxRecDepth 100000
theorem eqLb (a b : Lb) : (sEq a.name b.name && (sEq a.value b.value && true)) = decide (cmpL1 a b = 0) := by
  rw [Bool.eq_iff_iff, decide_eq_true_iff, cmpL1_is.eq0, Bool.and_true, Bool.and_eq_true, sEq_iff, sEq_iff]
  obtain ⟨a1, a2⟩ := a
  obtain ⟨b1, b2⟩ := b
  simp
theorem refCompare_rt (a b : List Lb) (hla : a.length ≤ 1000000) (_ : b.length ≤ 1000000) : Rt pg 26 [.sl 2 (a.map lb), .sl 2 (b.map lb)] (gi (cmpF a b)) := by
  refine Rt.of pg_ok Tryz.func26 rfl Tryz.ntmps26 rfl Tryz.results26 Tryz.call26 fun H0 S0 w0 h0 g0 => ?_
  have ha0 : (a.map lb).length = a.length := by simp
  have hb0 : (b.map lb).length = b.length := by simp
  refine JK.loop (α := Nat) (fun i => ⟨[(0, .sl 2 (a.map lb)), (1, .sl 2 (b.map lb)), (5, gi i)], [], 0⟩) (fun i => i ≤ a.length ∧ i ≤ b.length ∧ ∀ j, j < i → a[j]? = b[j]?) (fun i => a.length - i) 0 id ?_ ⟨Nat.zero_le _, Nat.zero_le _, fun j hj => absurd hj (by omega)⟩ ?_
  · exact ⟨⟨rfl, rfl, rfl, trivial⟩, trivial, rfl⟩
  · rintro i ⟨hi, hj, hgood⟩
    refine V ?_
    have hlen : (¬ i < a.length ∨ ¬ i < b.length) → cmpF a b = sgnF a.length b.length := fun h => by
      rw [cmpF, lexC_len cmpL1 cmpL1_is.eq0 a b (fun k hk => hgood k (by omega))]
    by_cases ha : i < a.length
    · by_cases hb : i < b.length
      · repeat (first | refine p1 ?_ | refine p2 ?_ | refine p3 ?_ | refine p4 ?_)
        refine ⟨by kernel_rfl, ?_⟩
        repeat refine ix (h := ?_)
        have he := eqLb a[i] b[i]
        by_cases h : cmpL1 a[i] b[i] = 0
        · rw [decide_eq_true h] at he
          refine p1 ?_ he
          exact ⟨i + 1, id, ⟨⟨rfl, rfl, succ_gi (by omega), trivial⟩, trivial, rfl⟩, ⟨ha, hb, fun j hj => by
            rcases Nat.lt_succ_iff_lt_or_eq.1 hj with h1 | h1
            · exact hgood j h1
            · subst h1
              rw [List.getElem?_eq_getElem ha, List.getElem?_eq_getElem hb, (cmpL1_is.eq0 _ _).1 h]⟩, by show a.length - (i + 1) < a.length - i; omega⟩
        · rw [decide_eq_false h] at he
          refine p2 ?_ he
          refine ⟨by kernel_rfl, ?_⟩
          repeat refine ix (h := ?_)
          have hat : cmpF a b = cmpL1 a[i] b[i] := by rw [cmpF, lexC_at cmpL1 cmpL1_is.eq0 a b i a[i] b[i] hgood (List.getElem?_eq_getElem ha) (List.getElem?_eq_getElem hb) h]
          have hor := cmpL1_or a[i] b[i]
          have hr := cmpL1_is.rng a[i] b[i]
          have h1 := sLt_cmp a[i].name b[i].name
          have h2 := sLt_cmp a[i].value b[i].value
          have h3 : sEq a[i].name b[i].name = decide (cmpS a[i].name b[i].name = 0) := by rw [Bool.eq_iff_iff, sEq_iff, decide_eq_true_iff, cmpS_is.eq0]
          by_cases hc1 : cmpS a[i].name b[i].name = 0
          · rw [if_pos hc1] at hor
            rw [decide_eq_false (by omega : ¬ cmpS a[i].name b[i].name = -1)] at h1
            rw [decide_eq_true hc1] at h3
            rw [← hor] at h2
            by_cases hc2 : cmpL1 a[i] b[i] = -1
            · rw [decide_eq_true hc2] at h2
              repeat (first | refine p1 ?_ | refine p2 ?_ | refine p3 ?_ | refine p4 ?_ | refine ix (h := ?_))
              exact ⟨by rw [hat, hc2]; rfl, rfl⟩
            · rw [decide_eq_false hc2] at h2
              repeat (first | refine p1 ?_ | refine p2 ?_ | refine p3 ?_ | refine p4 ?_ | refine ix (h := ?_))
              exact ⟨by rw [hat, (by omega : cmpL1 a[i] b[i] = 1)]; rfl, rfl⟩
          · rw [if_neg hc1] at hor
            rw [decide_eq_false hc1] at h3
            rw [← hor] at h1
            by_cases hc2 : cmpL1 a[i] b[i] = -1
            · rw [decide_eq_true hc2] at h1
              repeat (first | refine p1 ?_ | refine p2 ?_ | refine p3 ?_ | refine p4 ?_ | refine ix (h := ?_))
              exact ⟨by rw [hat, hc2]; rfl, rfl⟩
            · rw [decide_eq_false hc2] at h1
              repeat (first | refine p1 ?_ | refine p2 ?_ | refine p3 ?_ | refine p4 ?_ | refine ix (h := ?_))
              exact ⟨by rw [hat, (by omega : cmpL1 a[i] b[i] = 1)]; rfl, rfl⟩
      · have := hlen (.inr hb)
        repeat (first | refine p1 ?_ | refine p2 ?_ | refine p3 ?_ | refine p4 ?_)
        exact ⟨by rw [this, sgnF, if_neg (by omega), if_pos (by omega)]; rfl, rfl⟩
    · have := hlen (.inl ha)
      by_cases hb : i < b.length
      · repeat (first | refine p1 ?_ | refine p2 ?_ | refine p3 ?_ | refine p4 ?_)
        exact ⟨by rw [this, sgnF, if_pos (by omega)]; rfl, rfl⟩
      · repeat (first | refine p1 ?_ | refine p2 ?_ | refine p3 ?_ | refine p4 ?_)
        exact ⟨by rw [this, sgnF, if_neg (by omega), if_neg (by omega)]; rfl, rfl⟩
/-- Labels, matchers that are short enough to be held, as the laws say. -/
def shL (l : List Lb) : Bool := decide (l.length ≤ 20) && !anyB l.length (fun i => decide (60 < (l.getD i default).name.size) || decide (60 < (l.getD i default).value.size))
def shM (l : List Mt) : Bool := decide (l.length ≤ 20) && !anyB l.length (fun i => decide (60 < (l.getD i default).name.size) || decide (60 < (l.getD i default).value.size))
theorem shL_Hl {l : List Lb} (h : shL l = true) : Hl l := by
  unfold shL at h
  rw [Bool.and_eq_true, decide_eq_true_iff, Bool.not_eq_true'] at h
  have key : ∀ x ∈ l, x.name.size ≤ 60 ∧ x.value.size ≤ 60 := fun x hx => by
    obtain ⟨i, hi, rfl⟩ := List.getElem_of_mem hx
    have := anyB_get h.2 i hi
    rw [show l.getD i default = l[i] by simp [hi], Bool.or_eq_false_iff, decide_eq_false_iff_not, decide_eq_false_iff_not] at this
    omega
  exact ⟨by omega, fun x hx => by have := key x hx; omega, fun x hx => by have := key x hx; omega⟩
theorem shM_le {l : List Mt} (h : shM l = true) : l.length ≤ 20 ∧ ∀ x ∈ l, x.name.size ≤ 60 ∧ x.value.size ≤ 60 := by
  unfold shM at h
  rw [Bool.and_eq_true, decide_eq_true_iff, Bool.not_eq_true'] at h
  refine ⟨h.1, fun x hx => ?_⟩
  obtain ⟨i, hi, rfl⟩ := List.getElem_of_mem hx
  have := anyB_get h.2 i hi
  rw [show l.getD i default = l[i] by simp [hi], Bool.or_eq_false_iff, decide_eq_false_iff_not, decide_eq_false_iff_not] at this
  omega
theorem Hl.sh {l : List Lb} (h : Hl l) : Sh l := fun x hx => by have := h.value x hx; omega
theorem shortL_rt (l : List Lb) : Rt pg 13 [.sl 2 (l.map lb)] (.b (shL l)) := by
  refine Rt.of pg_ok Tryz.func13 rfl Tryz.ntmps13 rfl Tryz.results13 Tryz.call13 fun H0 S0 w0 h0 g0 => ?_
  have hll : (l.map lb).length = l.length := by simp
  unfold shL
  by_cases hl : l.length ≤ 20
  · refine p2 ?_
    refine JK.loop (α := Nat) (fun i => ⟨[(0, .sl 2 (l.map lb)), (3, gi i)], [], 0⟩) (fun i => i ≤ l.length ∧ ∀ j, j < i → (decide (60 < (l.getD j default).name.size) || decide (60 < (l.getD j default).value.size)) = false) (fun i => l.length - i) 0 id ?_ ⟨Nat.zero_le _, fun j hj => absurd hj (by omega)⟩ ?_
    · exact ⟨⟨rfl, rfl, trivial⟩, trivial, rfl⟩
    · rintro i ⟨hi, hgood⟩
      refine V ?_
      by_cases hlt : i < l.length
      · have hg : l.getD i default = l[i] := by simp [hlt]
        have hbad : (decide (60 < l[i].name.size) || decide (60 < l[i].value.size)) = true → (decide (l.length ≤ 20) && !anyB l.length (fun i => decide (60 < (l.getD i default).name.size) || decide (60 < (l.getD i default).value.size))) = false := fun h => by rw [anyB_true hlt (by rw [hg]; exact h)]; simp
        have hnext : (decide (60 < l[i].name.size) || decide (60 < l[i].value.size)) = false → ∀ j, j < i + 1 → (decide (60 < (l.getD j default).name.size) || decide (60 < (l.getD j default).value.size)) = false := fun h j hj => by
          rcases Nat.lt_succ_iff_lt_or_eq.1 hj with h1 | h1
          · exact hgood j h1
          · subst h1; rw [hg]; exact h
        by_cases h1 : 60 < l[i].name.size
        · repeat (first | refine p1 ?_ | refine p2 ?_ | refine p3 ?_ | refine p4 ?_ | refine ix (h := ?_))
          exact ⟨(hbad (by rw [decide_eq_true h1]; rfl)).symm, rfl⟩
        · by_cases h2 : 60 < l[i].value.size
          · repeat (first | refine p1 ?_ | refine p2 ?_ | refine p3 ?_ | refine p4 ?_ | refine ix (h := ?_))
            exact ⟨(hbad (by rw [decide_eq_true h2, Bool.or_true])).symm, rfl⟩
          · repeat (first | refine p1 ?_ | refine p2 ?_ | refine p3 ?_ | refine p4 ?_ | refine ix (h := ?_))
            exact ⟨i + 1, id, ⟨⟨rfl, succ_gi (by omega), trivial⟩, trivial, rfl⟩, ⟨hlt, hnext (by rw [decide_eq_false h1, decide_eq_false h2]; rfl)⟩, by show l.length - (i + 1) < l.length - i; omega⟩
      · refine p2 ?_
        refine V ?_
        obtain rfl : i = l.length := by omega
        exact ⟨by rw [anyB_false hgood, decide_eq_true hl]; rfl, rfl⟩
  · refine p1 ?_
    exact ⟨by rw [decide_eq_false hl]; rfl, rfl⟩
theorem sameL_rt (a b : List Lb) : Rt pg 34 [.sl 2 (a.map lb), .sl 2 (b.map lb)] (.b (decide (cmpF a b = 0))) := by
  refine Rt.of pg_ok Tryz.func34 rfl Tryz.ntmps34 rfl Tryz.results34 Tryz.call34 fun H0 S0 w0 h0 g0 => ?_
  have hla : (a.map lb).length = a.length := by simp
  have hlb : (b.map lb).length = b.length := by simp
  by_cases hl : a.length = b.length
  · refine p2 ?_
    refine JK.len 0 rfl fun hlen _ => ?_
    have hlen' : a.length ≤ 9223372036854775807 := by simpa [maxLen] using hlen
    refine JK.loop (α := Nat) (fun i => ⟨[(0, .sl 2 (a.map lb)), (1, .sl 2 (b.map lb)), (5, gi i)], [], 0⟩) (fun i => i ≤ a.length ∧ ∀ j, j < i → a[j]? = b[j]?) (fun i => a.length - i) 0 id ?_ ⟨Nat.zero_le _, fun j hj => absurd hj (by omega)⟩ ?_
    · exact ⟨⟨rfl, rfl, rfl, trivial⟩, trivial, rfl⟩
    · rintro i ⟨hi, hgood⟩
      refine V ?_
      by_cases ha : i < a.length
      · have hb : i < b.length := by omega
        refine p1 ?_
        refine ⟨by kernel_rfl, ?_⟩
        repeat refine ix (h := ?_)
        have he := eqLb a[i] b[i]
        by_cases h : cmpL1 a[i] b[i] = 0
        · rw [decide_eq_true h] at he
          refine p2 ?_ (show (!(sEq a[i].name b[i].name && (sEq a[i].value b[i].value && true))) = false by rw [he]; rfl)
          exact ⟨i + 1, id, ⟨⟨rfl, rfl, succ_gi (by omega), trivial⟩, trivial, rfl⟩, ⟨ha, fun j hj => by
            rcases Nat.lt_succ_iff_lt_or_eq.1 hj with h1 | h1
            · exact hgood j h1
            · subst h1
              rw [List.getElem?_eq_getElem ha, List.getElem?_eq_getElem hb, (cmpL1_is.eq0 _ _).1 h]⟩, by show a.length - (i + 1) < a.length - i; omega⟩
        · rw [decide_eq_false h] at he
          refine p1 ?_ (show (!(sEq a[i].name b[i].name && (sEq a[i].value b[i].value && true))) = true by rw [he]; rfl)
          have hat : cmpF a b = cmpL1 a[i] b[i] := by rw [cmpF, lexC_at cmpL1 cmpL1_is.eq0 a b i a[i] b[i] hgood (List.getElem?_eq_getElem ha) (List.getElem?_eq_getElem hb) h]
          exact ⟨by rw [decide_eq_false (by rw [hat]; exact h)]; rfl, rfl⟩
      · refine p2 ?_
        refine V ?_
        have : cmpF a b = 0 := by rw [cmpF, lexC_len cmpL1 cmpL1_is.eq0 a b (fun k hk => hgood k (by omega)), sgnF, if_neg (by omega), if_neg (by omega)]
        exact ⟨by rw [decide_eq_true this]; rfl, rfl⟩
  · refine p1 ?_
    have hne : cmpF a b ≠ 0 := fun h => hl (by rw [(cmpF_is.eq0 _ _).1 h])
    exact ⟨by rw [decide_eq_false hne]; rfl, rfl⟩
end Go.Proofs.YtfnomonhfndbiaaGreatDoor
