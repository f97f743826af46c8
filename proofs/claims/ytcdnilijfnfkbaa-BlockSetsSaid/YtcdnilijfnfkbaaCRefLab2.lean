/-
  Contracts: the document's answer on labels: order, text, Only, Fits; short labels, the same labels.
-/
import Derived.Test.YtcdnilijfnfkbaaCRefLab
namespace Go.Proofs.Ytcdnilijfnfkbaa
open Go.GK Go.PL Go.RowKit
set_option maxRecDepth 100000
theorem eqLb (a b : Lb) : (sEq a.name b.name && (sEq a.value b.value && true)) = decide (cmpL1 a b = 0) := by
  rw [Bool.eq_iff_iff, decide_eq_true_iff, cmpL1_is.eq0, Bool.and_true, Bool.and_eq_true, sEq_iff, sEq_iff]
  obtain ⟨a1, a2⟩ := a
  obtain ⟨b1, b2⟩ := b
  simp
theorem refCompare_rt (a b : List Lb) (hla : a.length ≤ 1000000) (_ : b.length ≤ 1000000) : Rt pg 17 [.sl 2 (a.map lb), .sl 2 (b.map lb)] (gi (cmpF a b)) := by
  refine Rt.of pg_ok Try.func17 rfl Try.ntmps17 rfl Try.results17 Try.call17 fun H0 S0 w0 h0 g0 => ?_
  have ha0 : (a.map lb).length = a.length := by simp
  have hb0 : (b.map lb).length = b.length := by simp
  refine JK.loop (α := Nat) (fun i => ⟨[(0, .sl 2 (a.map lb)), (1, .sl 2 (b.map lb)), (5, gi i)], [], 0⟩) (fun i => i ≤ a.length ∧ i ≤ b.length ∧ ∀ j, j < i → a[j]? = b[j]?) (fun i => a.length - i) 0 id ?_ ⟨Nat.zero_le _, Nat.zero_le _, fun j hj => absurd hj (by omega)⟩ ?_
  · exact ⟨⟨rfl, rfl, rfl, trivial⟩, trivial, rfl⟩
  · rintro i ⟨hi, hj, hgood⟩
    refine V ?_
    have hlen : (¬ i < a.length ∨ ¬ i < b.length) → cmpF a b = sgnF a.length b.length := fun h => by
      rw [cmpF, lexC_len cmpL1 cmpL1_is.eq0 a b (fun k hk => hgood k (by omega))]
    by_cases ha : i < a.length
    · by_cases hb : i < b.length
      · repeat (first | refine p1 ?_ | refine p2 ?_ | refine p3 ?_ | refine p4 ?_)
        refine ⟨by kernel_rfl, ?_⟩
        repeat refine ix (h := ?_)
        have he := eqLb a[i] b[i]
        by_cases h : cmpL1 a[i] b[i] = 0
        · rw [decide_eq_true h] at he
          refine p1 ?_ he
          exact ⟨i + 1, id, ⟨⟨rfl, rfl, succ_gi (by omega), trivial⟩, trivial, rfl⟩, ⟨ha, hb, fun j hj => by
            rcases Nat.lt_succ_iff_lt_or_eq.1 hj with h1 | h1
            · exact hgood j h1
            · subst h1
              rw [List.getElem?_eq_getElem ha, List.getElem?_eq_getElem hb, (cmpL1_is.eq0 _ _).1 h]⟩, by show a.length - (i + 1) < a.length - i; omega⟩
        · rw [decide_eq_false h] at he
          refine p2 ?_ he
          refine ⟨by kernel_rfl, ?_⟩
          repeat refine ix (h := ?_)
          have hat : cmpF a b = cmpL1 a[i] b[i] := by rw [cmpF, lexC_at cmpL1 cmpL1_is.eq0 a b i a[i] b[i] hgood (List.getElem?_eq_getElem ha) (List.getElem?_eq_getElem hb) h]
          have hor := cmpL1_or a[i] b[i]
          have hr := cmpL1_is.rng a[i] b[i]
          have h1 := sLt_cmp a[i].name b[i].name
          have h2 := sLt_cmp a[i].value b[i].value
          have h3 : sEq a[i].name b[i].name = decide (cmpS a[i].name b[i].name = 0) := by rw [Bool.eq_iff_iff, sEq_iff, decide_eq_true_iff, cmpS_is.eq0]
          by_cases hc1 : cmpS a[i].name b[i].name = 0
          · rw [if_pos hc1] at hor
            rw [decide_eq_false (by omega : ¬ cmpS a[i].name b[i].name = -1)] at h1
            rw [decide_eq_true hc1] at h3
            rw [← hor] at h2
            by_cases hc2 : cmpL1 a[i] b[i] = -1
            · rw [decide_eq_true hc2] at h2
              repeat (first | refine p1 ?_ | refine p2 ?_ | refine p3 ?_ | refine p4 ?_ | refine ix (h := ?_))
              exact ⟨by rw [hat, hc2]; rfl, rfl⟩
            · rw [decide_eq_false hc2] at h2
              repeat (first | refine p1 ?_ | refine p2 ?_ | refine p3 ?_ | refine p4 ?_ | refine ix (h := ?_))
              exact ⟨by rw [hat, (by omega : cmpL1 a[i] b[i] = 1)]; rfl, rfl⟩
          · rw [if_neg hc1] at hor
            rw [decide_eq_false hc1] at h3
            rw [← hor] at h1
            by_cases hc2 : cmpL1 a[i] b[i] = -1
            · rw [decide_eq_true hc2] at h1
              repeat (first | refine p1 ?_ | refine p2 ?_ | refine p3 ?_ | refine p4 ?_ | refine ix (h := ?_))
              exact ⟨by rw [hat, hc2]; rfl, rfl⟩
            · rw [decide_eq_false hc2] at h1
              repeat (first | refine p1 ?_ | refine p2 ?_ | refine p3 ?_ | refine p4 ?_ | refine ix (h := ?_))
              exact ⟨by rw [hat, (by omega : cmpL1 a[i] b[i] = 1)]; rfl, rfl⟩
      · have := hlen (.inr hb)
        repeat (first | refine p1 ?_ | refine p2 ?_ | refine p3 ?_ | refine p4 ?_)
        exact ⟨by rw [this, sgnF, if_neg (by omega), if_pos (by omega)]; rfl, rfl⟩
    · have := hlen (.inl ha)
      by_cases hb : i < b.length
      · repeat (first | refine p1 ?_ | refine p2 ?_ | refine p3 ?_ | refine p4 ?_)
        exact ⟨by rw [this, sgnF, if_pos (by omega)]; rfl, rfl⟩
      · repeat (first | refine p1 ?_ | refine p2 ?_ | refine p3 ?_ | refine p4 ?_)
        exact ⟨by rw [this, sgnF, if_neg (by omega), if_neg (by omega)]; rfl, rfl⟩
theorem fits_rt (l : List Lb) (m : List Mt) (hm : ∀ x ∈ m, 0 ≤ x.op ∧ x.op ≤ 3) (hml : m.length ≤ 1000000) : Rt pg 22 [.sl 2 (l.map lb), .sl 3 (m.map mt)] (.b (allF l m)) := by
  refine Rt.of pg_ok Try.func22 rfl Try.ntmps22 rfl Try.results22 Try.call22 fun H0 S0 w0 h0 g0 => ?_
  have hll : (m.map mt).length = m.length := by simp
  refine JK.loop (α := Nat) (fun i => ⟨[(0, .sl 2 (l.map lb)), (10, .sl 3 (m.map mt)), (11, gi (m.map mt).length), (12, gi i)], [], 0⟩) (fun i => i ≤ m.length ∧ allF l (m.take i) = true) (fun i => m.length - i) 0 id ?_ ⟨Nat.zero_le _, rfl⟩ ?_
  · exact ⟨⟨rfl, rfl, rfl, rfl, trivial⟩, trivial, rfl⟩
  · rintro i ⟨hi, hgood⟩
    refine V ?_
    by_cases hlt : i < m.length
    · have hop := hm m[i] (List.getElem_mem hlt)
      have hsn : allF l (m.take (i + 1)) = loneF l m[i] := by
        unfold allF at hgood ⊢
        rw [List.take_succ_eq_append_getElem hlt, List.all_append, hgood]
        simp
      have hno : loneF l m[i] = false → allF l m = false := fun h => by
        unfold allF
        rw [List.all_eq_false]
        exact ⟨m[i], List.getElem_mem hlt, by rw [h]; decide⟩
      have fin : ∀ (c : Bool), c = loneF l m[i] → (c = true → allF l (m.take (i + 1)) = true) ∧ (c = false → allF l m = false) := fun c e => ⟨fun h => by rw [hsn, ← e, h], fun h => hno (by rw [← e, h])⟩
      refine p1 ?_
      refine ix (h := ?_)
      refine GO (tell_rt l m[i].name) rfl ?_
      refine ⟨by kernel_rfl, ?_⟩
      have hpref : ∀ s p : ByteArray, p.size ≤ s.size → prefF s p = sEq (s.extract 0 p.size) p := fun s p h => by unfold prefF; rw [decide_eq_true h]; rfl
      have hpref0 : ∀ s p : ByteArray, ¬ p.size ≤ s.size → prefF s p = false := fun s p h => by unfold prefF; rw [decide_eq_false h]; rfl
      have h4 : m[i].op = 0 ∨ m[i].op = 1 ∨ m[i].op = 2 ∨ m[i].op = 3 := by omega
      by_cases hp : m[i].value.size ≤ (lgetF l m[i].name).size
      · have hpr := hpref _ _ hp
        refine p1 ?_
        refine ⟨by omega, by omega, by omega, ?_⟩
        rcases h4 with h4 | h4 | h4 | h4
        · cases hc : sEq (lgetF l m[i].name) m[i].value with
          | true =>
            have hone : loneF l m[i] = true := by unfold loneF; rw [if_pos h4]; exact hc
            refine ⟨_, by omega, by omega, (by rw [h4]; rfl), ?_⟩
            have hc2 : (!(sEq (lgetF l m[i].name) m[i].value)) = false := by rw [hc]; rfl
            have hc3 : (!(!(sEq (lgetF l m[i].name) m[i].value))) = true := by rw [hc]; rfl
            repeat (first | refine p1 ?_ | refine p2 ?_ | refine p3 ?_ | refine p4 ?_ | refine p1 ?_ hc2 | refine p2 ?_ hc2 | refine p1 ?_ hc3 | refine p2 ?_ hc3)
            exact ⟨i + 1, id, ⟨⟨rfl, rfl, rfl, succ_gi (by omega), trivial⟩, trivial, rfl⟩, ⟨hlt, hsn.trans hone⟩, by show m.length - (i + 1) < m.length - i; omega⟩
          | false =>
            have hone : loneF l m[i] = false := by unfold loneF; rw [if_pos h4]; exact hc
            refine ⟨_, by omega, by omega, (by rw [h4]; rfl), ?_⟩
            have hc2 : (!(sEq (lgetF l m[i].name) m[i].value)) = true := by rw [hc]; rfl
            have hc3 : (!(!(sEq (lgetF l m[i].name) m[i].value))) = false := by rw [hc]; rfl
            repeat (first | refine p1 ?_ | refine p2 ?_ | refine p3 ?_ | refine p4 ?_ | refine p1 ?_ hc2 | refine p2 ?_ hc2 | refine p1 ?_ hc3 | refine p2 ?_ hc3)
            exact ⟨(hno hone).symm, rfl⟩
        · cases hc : sEq (lgetF l m[i].name) m[i].value with
          | true =>
            have hone : loneF l m[i] = false := by unfold loneF; rw [if_neg (by omega), if_pos h4, hc]; rfl
            refine ⟨_, by omega, by omega, (by rw [h4]; rfl), ?_⟩
            have hc2 : (!(sEq (lgetF l m[i].name) m[i].value)) = false := by rw [hc]; rfl
            have hc3 : (!(!(sEq (lgetF l m[i].name) m[i].value))) = true := by rw [hc]; rfl
            repeat (first | refine p1 ?_ | refine p2 ?_ | refine p3 ?_ | refine p4 ?_ | refine p1 ?_ hc2 | refine p2 ?_ hc2 | refine p1 ?_ hc3 | refine p2 ?_ hc3)
            exact ⟨(hno hone).symm, rfl⟩
          | false =>
            have hone : loneF l m[i] = true := by unfold loneF; rw [if_neg (by omega), if_pos h4, hc]; rfl
            refine ⟨_, by omega, by omega, (by rw [h4]; rfl), ?_⟩
            have hc2 : (!(sEq (lgetF l m[i].name) m[i].value)) = true := by rw [hc]; rfl
            have hc3 : (!(!(sEq (lgetF l m[i].name) m[i].value))) = false := by rw [hc]; rfl
            repeat (first | refine p1 ?_ | refine p2 ?_ | refine p3 ?_ | refine p4 ?_ | refine p1 ?_ hc2 | refine p2 ?_ hc2 | refine p1 ?_ hc3 | refine p2 ?_ hc3)
            exact ⟨i + 1, id, ⟨⟨rfl, rfl, rfl, succ_gi (by omega), trivial⟩, trivial, rfl⟩, ⟨hlt, hsn.trans hone⟩, by show m.length - (i + 1) < m.length - i; omega⟩
        · cases hc : sEq ((lgetF l m[i].name).extract 0 m[i].value.size) m[i].value with
          | true =>
            have hone : loneF l m[i] = true := by unfold loneF; rw [if_neg (by omega), if_neg (by omega), if_pos h4, hpr, hc]
            refine ⟨_, by omega, by omega, (by rw [h4]; rfl), ?_⟩
            have hc2 : (!(sEq ((lgetF l m[i].name).extract 0 m[i].value.size) m[i].value)) = false := by rw [hc]; rfl
            have hc3 : (!(!(sEq ((lgetF l m[i].name).extract 0 m[i].value.size) m[i].value))) = true := by rw [hc]; rfl
            repeat (first | refine p1 ?_ | refine p2 ?_ | refine p3 ?_ | refine p4 ?_ | refine p1 ?_ hc2 | refine p2 ?_ hc2 | refine p1 ?_ hc3 | refine p2 ?_ hc3)
            exact ⟨i + 1, id, ⟨⟨rfl, rfl, rfl, succ_gi (by omega), trivial⟩, trivial, rfl⟩, ⟨hlt, hsn.trans hone⟩, by show m.length - (i + 1) < m.length - i; omega⟩
          | false =>
            have hone : loneF l m[i] = false := by unfold loneF; rw [if_neg (by omega), if_neg (by omega), if_pos h4, hpr, hc]
            refine ⟨_, by omega, by omega, (by rw [h4]; rfl), ?_⟩
            have hc2 : (!(sEq ((lgetF l m[i].name).extract 0 m[i].value.size) m[i].value)) = true := by rw [hc]; rfl
            have hc3 : (!(!(sEq ((lgetF l m[i].name).extract 0 m[i].value.size) m[i].value))) = false := by rw [hc]; rfl
            repeat (first | refine p1 ?_ | refine p2 ?_ | refine p3 ?_ | refine p4 ?_ | refine p1 ?_ hc2 | refine p2 ?_ hc2 | refine p1 ?_ hc3 | refine p2 ?_ hc3)
            exact ⟨(hno hone).symm, rfl⟩
        · cases hc : sEq ((lgetF l m[i].name).extract 0 m[i].value.size) m[i].value with
          | true =>
            have hone : loneF l m[i] = false := by unfold loneF; rw [if_neg (by omega), if_neg (by omega), if_neg (by omega), hpr, hc]; rfl
            refine ⟨_, by omega, by omega, (by rw [h4]; rfl), ?_⟩
            have hc2 : (!(sEq ((lgetF l m[i].name).extract 0 m[i].value.size) m[i].value)) = false := by rw [hc]; rfl
            have hc3 : (!(!(sEq ((lgetF l m[i].name).extract 0 m[i].value.size) m[i].value))) = true := by rw [hc]; rfl
            repeat (first | refine p1 ?_ | refine p2 ?_ | refine p3 ?_ | refine p4 ?_ | refine p1 ?_ hc2 | refine p2 ?_ hc2 | refine p1 ?_ hc3 | refine p2 ?_ hc3)
            exact ⟨(hno hone).symm, rfl⟩
          | false =>
            have hone : loneF l m[i] = true := by unfold loneF; rw [if_neg (by omega), if_neg (by omega), if_neg (by omega), hpr, hc]; rfl
            refine ⟨_, by omega, by omega, (by rw [h4]; rfl), ?_⟩
            have hc2 : (!(sEq ((lgetF l m[i].name).extract 0 m[i].value.size) m[i].value)) = true := by rw [hc]; rfl
            have hc3 : (!(!(sEq ((lgetF l m[i].name).extract 0 m[i].value.size) m[i].value))) = false := by rw [hc]; rfl
            repeat (first | refine p1 ?_ | refine p2 ?_ | refine p3 ?_ | refine p4 ?_ | refine p1 ?_ hc2 | refine p2 ?_ hc2 | refine p1 ?_ hc3 | refine p2 ?_ hc3)
            exact ⟨i + 1, id, ⟨⟨rfl, rfl, rfl, succ_gi (by omega), trivial⟩, trivial, rfl⟩, ⟨hlt, hsn.trans hone⟩, by show m.length - (i + 1) < m.length - i; omega⟩
      · have hpr := hpref0 _ _ hp
        refine p2 ?_
        rcases h4 with h4 | h4 | h4 | h4
        · cases hc : sEq (lgetF l m[i].name) m[i].value with
          | true =>
            have hone : loneF l m[i] = true := by unfold loneF; rw [if_pos h4]; exact hc
            refine ⟨_, by omega, by omega, (by rw [h4]; rfl), ?_⟩
            have hc2 : (!(sEq (lgetF l m[i].name) m[i].value)) = false := by rw [hc]; rfl
            have hc3 : (!(!(sEq (lgetF l m[i].name) m[i].value))) = true := by rw [hc]; rfl
            repeat (first | refine p1 ?_ | refine p2 ?_ | refine p3 ?_ | refine p4 ?_)
            exact ⟨i + 1, id, ⟨⟨rfl, rfl, rfl, succ_gi (by omega), trivial⟩, trivial, rfl⟩, ⟨hlt, hsn.trans hone⟩, by show m.length - (i + 1) < m.length - i; omega⟩
          | false =>
            have hone : loneF l m[i] = false := by unfold loneF; rw [if_pos h4]; exact hc
            refine ⟨_, by omega, by omega, (by rw [h4]; rfl), ?_⟩
            have hc2 : (!(sEq (lgetF l m[i].name) m[i].value)) = true := by rw [hc]; rfl
            have hc3 : (!(!(sEq (lgetF l m[i].name) m[i].value))) = false := by rw [hc]; rfl
            repeat (first | refine p1 ?_ | refine p2 ?_ | refine p3 ?_ | refine p4 ?_)
            exact ⟨(hno hone).symm, rfl⟩
        · cases hc : sEq (lgetF l m[i].name) m[i].value with
          | true =>
            have hone : loneF l m[i] = false := by unfold loneF; rw [if_neg (by omega), if_pos h4, hc]; rfl
            refine ⟨_, by omega, by omega, (by rw [h4]; rfl), ?_⟩
            have hc2 : (!(sEq (lgetF l m[i].name) m[i].value)) = false := by rw [hc]; rfl
            have hc3 : (!(!(sEq (lgetF l m[i].name) m[i].value))) = true := by rw [hc]; rfl
            repeat (first | refine p1 ?_ | refine p2 ?_ | refine p3 ?_ | refine p4 ?_)
            exact ⟨(hno hone).symm, rfl⟩
          | false =>
            have hone : loneF l m[i] = true := by unfold loneF; rw [if_neg (by omega), if_pos h4, hc]; rfl
            refine ⟨_, by omega, by omega, (by rw [h4]; rfl), ?_⟩
            have hc2 : (!(sEq (lgetF l m[i].name) m[i].value)) = true := by rw [hc]; rfl
            have hc3 : (!(!(sEq (lgetF l m[i].name) m[i].value))) = false := by rw [hc]; rfl
            repeat (first | refine p1 ?_ | refine p2 ?_ | refine p3 ?_ | refine p4 ?_)
            exact ⟨i + 1, id, ⟨⟨rfl, rfl, rfl, succ_gi (by omega), trivial⟩, trivial, rfl⟩, ⟨hlt, hsn.trans hone⟩, by show m.length - (i + 1) < m.length - i; omega⟩
        · have hone : loneF l m[i] = false := by unfold loneF; rw [if_neg (by omega), if_neg (by omega), if_pos h4, hpr]
          refine ⟨_, by omega, by omega, (by rw [h4]; rfl), ?_⟩
          repeat (first | refine p1 ?_ | refine p2 ?_ | refine p3 ?_ | refine p4 ?_)
          exact ⟨(hno hone).symm, rfl⟩
        · have hone : loneF l m[i] = true := by unfold loneF; rw [if_neg (by omega), if_neg (by omega), if_neg (by omega), hpr]; rfl
          refine ⟨_, by omega, by omega, (by rw [h4]; rfl), ?_⟩
          repeat (first | refine p1 ?_ | refine p2 ?_ | refine p3 ?_ | refine p4 ?_)
          exact ⟨i + 1, id, ⟨⟨rfl, rfl, rfl, succ_gi (by omega), trivial⟩, trivial, rfl⟩, ⟨hlt, hsn.trans hone⟩, by show m.length - (i + 1) < m.length - i; omega⟩
    · refine p2 ?_
      refine V ?_
      obtain rfl : i = m.length := by omega
      rw [List.take_length] at hgood
      exact ⟨hgood.symm, rfl⟩

/-- Labels, matchers that are short enough to be held, as the laws say. -/
def shL (l : List Lb) : Bool := decide (l.length ≤ 20) && !anyB l.length (fun i => decide (60 < (l.getD i default).name.size) || decide (60 < (l.getD i default).value.size))
def shM (l : List Mt) : Bool := decide (l.length ≤ 20) && !anyB l.length (fun i => decide (60 < (l.getD i default).name.size) || decide (60 < (l.getD i default).value.size))
theorem shL_Hl {l : List Lb} (h : shL l = true) : Hl l := by
  unfold shL at h
  rw [Bool.and_eq_true, decide_eq_true_iff, Bool.not_eq_true'] at h
  have key : ∀ x ∈ l, x.name.size ≤ 60 ∧ x.value.size ≤ 60 := fun x hx => by
    obtain ⟨i, hi, rfl⟩ := List.getElem_of_mem hx
    have := anyB_get h.2 i hi
    rw [show l.getD i default = l[i] by simp [hi], Bool.or_eq_false_iff, decide_eq_false_iff_not, decide_eq_false_iff_not] at this
    omega
  exact ⟨by omega, fun x hx => by have := key x hx; omega, fun x hx => by have := key x hx; omega⟩
theorem shM_le {l : List Mt} (h : shM l = true) : l.length ≤ 20 ∧ ∀ x ∈ l, x.name.size ≤ 60 ∧ x.value.size ≤ 60 := by
  unfold shM at h
  rw [Bool.and_eq_true, decide_eq_true_iff, Bool.not_eq_true'] at h
  refine ⟨h.1, fun x hx => ?_⟩
  obtain ⟨i, hi, rfl⟩ := List.getElem_of_mem hx
  have := anyB_get h.2 i hi
  rw [show l.getD i default = l[i] by simp [hi], Bool.or_eq_false_iff, decide_eq_false_iff_not, decide_eq_false_iff_not] at this
  omega
theorem Hl.sh {l : List Lb} (h : Hl l) : Sh l := fun x hx => by have := h.value x hx; omega
theorem shortL_rt (l : List Lb) : Rt pg 14 [.sl 2 (l.map lb)] (.b (shL l)) := by
  refine Rt.of pg_ok Try.func14 rfl Try.ntmps14 rfl Try.results14 Try.call14 fun H0 S0 w0 h0 g0 => ?_
  have hll : (l.map lb).length = l.length := by simp
  unfold shL
  by_cases hl : l.length ≤ 20
  · refine p2 ?_
    refine JK.loop (α := Nat) (fun i => ⟨[(0, .sl 2 (l.map lb)), (3, gi i)], [], 0⟩) (fun i => i ≤ l.length ∧ ∀ j, j < i → (decide (60 < (l.getD j default).name.size) || decide (60 < (l.getD j default).value.size)) = false) (fun i => l.length - i) 0 id ?_ ⟨Nat.zero_le _, fun j hj => absurd hj (by omega)⟩ ?_
    · exact ⟨⟨rfl, rfl, trivial⟩, trivial, rfl⟩
    · rintro i ⟨hi, hgood⟩
      refine V ?_
      by_cases hlt : i < l.length
      · have hg : l.getD i default = l[i] := by simp [hlt]
        have hbad : (decide (60 < l[i].name.size) || decide (60 < l[i].value.size)) = true → (decide (l.length ≤ 20) && !anyB l.length (fun i => decide (60 < (l.getD i default).name.size) || decide (60 < (l.getD i default).value.size))) = false := fun h => by rw [anyB_true hlt (by rw [hg]; exact h)]; simp
        have hnext : (decide (60 < l[i].name.size) || decide (60 < l[i].value.size)) = false → ∀ j, j < i + 1 → (decide (60 < (l.getD j default).name.size) || decide (60 < (l.getD j default).value.size)) = false := fun h j hj => by
          rcases Nat.lt_succ_iff_lt_or_eq.1 hj with h1 | h1
          · exact hgood j h1
          · subst h1; rw [hg]; exact h
        by_cases h1 : 60 < l[i].name.size
        · repeat (first | refine p1 ?_ | refine p2 ?_ | refine p3 ?_ | refine p4 ?_ | refine ix (h := ?_))
          exact ⟨(hbad (by rw [decide_eq_true h1]; rfl)).symm, rfl⟩
        · by_cases h2 : 60 < l[i].value.size
          · repeat (first | refine p1 ?_ | refine p2 ?_ | refine p3 ?_ | refine p4 ?_ | refine ix (h := ?_))
            exact ⟨(hbad (by rw [decide_eq_true h2, Bool.or_true])).symm, rfl⟩
          · repeat (first | refine p1 ?_ | refine p2 ?_ | refine p3 ?_ | refine p4 ?_ | refine ix (h := ?_))
            exact ⟨i + 1, id, ⟨⟨rfl, succ_gi (by omega), trivial⟩, trivial, rfl⟩, ⟨hlt, hnext (by rw [decide_eq_false h1, decide_eq_false h2]; rfl)⟩, by show l.length - (i + 1) < l.length - i; omega⟩
      · refine p2 ?_
        refine V ?_
        obtain rfl : i = l.length := by omega
        exact ⟨by rw [anyB_false hgood, decide_eq_true hl]; rfl, rfl⟩
  · refine p1 ?_
    exact ⟨by rw [decide_eq_false hl]; rfl, rfl⟩
theorem shortM_rt (l : List Mt) : Rt pg 6 [.sl 3 (l.map mt)] (.b (shM l)) := by
  refine Rt.of pg_ok Try.func6 rfl Try.ntmps6 rfl Try.results6 Try.call6 fun H0 S0 w0 h0 g0 => ?_
  have hll : (l.map mt).length = l.length := by simp
  unfold shM
  by_cases hl : l.length ≤ 20
  · refine p2 ?_
    refine JK.loop (α := Nat) (fun i => ⟨[(0, .sl 3 (l.map mt)), (3, gi i)], [], 0⟩) (fun i => i ≤ l.length ∧ ∀ j, j < i → (decide (60 < (l.getD j default).name.size) || decide (60 < (l.getD j default).value.size)) = false) (fun i => l.length - i) 0 id ?_ ⟨Nat.zero_le _, fun j hj => absurd hj (by omega)⟩ ?_
    · exact ⟨⟨rfl, rfl, trivial⟩, trivial, rfl⟩
    · rintro i ⟨hi, hgood⟩
      refine V ?_
      by_cases hlt : i < l.length
      · have hg : l.getD i default = l[i] := by simp [hlt]
        have hbad : (decide (60 < l[i].name.size) || decide (60 < l[i].value.size)) = true → (decide (l.length ≤ 20) && !anyB l.length (fun i => decide (60 < (l.getD i default).name.size) || decide (60 < (l.getD i default).value.size))) = false := fun h => by rw [anyB_true hlt (by rw [hg]; exact h)]; simp
        have hnext : (decide (60 < l[i].name.size) || decide (60 < l[i].value.size)) = false → ∀ j, j < i + 1 → (decide (60 < (l.getD j default).name.size) || decide (60 < (l.getD j default).value.size)) = false := fun h j hj => by
          rcases Nat.lt_succ_iff_lt_or_eq.1 hj with h1 | h1
          · exact hgood j h1
          · subst h1; rw [hg]; exact h
        by_cases h1 : 60 < l[i].name.size
        · repeat (first | refine p1 ?_ | refine p2 ?_ | refine p3 ?_ | refine p4 ?_ | refine ix (h := ?_))
          exact ⟨(hbad (by rw [decide_eq_true h1]; rfl)).symm, rfl⟩
        · by_cases h2 : 60 < l[i].value.size
          · repeat (first | refine p1 ?_ | refine p2 ?_ | refine p3 ?_ | refine p4 ?_ | refine ix (h := ?_))
            exact ⟨(hbad (by rw [decide_eq_true h2, Bool.or_true])).symm, rfl⟩
          · repeat (first | refine p1 ?_ | refine p2 ?_ | refine p3 ?_ | refine p4 ?_ | refine ix (h := ?_))
            exact ⟨i + 1, id, ⟨⟨rfl, succ_gi (by omega), trivial⟩, trivial, rfl⟩, ⟨hlt, hnext (by rw [decide_eq_false h1, decide_eq_false h2]; rfl)⟩, by show l.length - (i + 1) < l.length - i; omega⟩
      · refine p2 ?_
        refine V ?_
        obtain rfl : i = l.length := by omega
        exact ⟨by rw [anyB_false hgood, decide_eq_true hl]; rfl, rfl⟩
  · refine p1 ?_
    exact ⟨by rw [decide_eq_false hl]; rfl, rfl⟩
theorem sameL_rt (a b : List Lb) : Rt pg 23 [.sl 2 (a.map lb), .sl 2 (b.map lb)] (.b (decide (cmpF a b = 0))) := by
  refine Rt.of pg_ok Try.func23 rfl Try.ntmps23 rfl Try.results23 Try.call23 fun H0 S0 w0 h0 g0 => ?_
  have hla : (a.map lb).length = a.length := by simp
  have hlb : (b.map lb).length = b.length := by simp
  by_cases hl : a.length = b.length
  · refine p2 ?_
    refine JK.len 0 rfl fun hlen _ => ?_
    have hlen' : a.length ≤ 9223372036854775807 := by simpa [maxLen] using hlen
    refine JK.loop (α := Nat) (fun i => ⟨[(0, .sl 2 (a.map lb)), (1, .sl 2 (b.map lb)), (5, gi i)], [], 0⟩) (fun i => i ≤ a.length ∧ ∀ j, j < i → a[j]? = b[j]?) (fun i => a.length - i) 0 id ?_ ⟨Nat.zero_le _, fun j hj => absurd hj (by omega)⟩ ?_
    · exact ⟨⟨rfl, rfl, rfl, trivial⟩, trivial, rfl⟩
    · rintro i ⟨hi, hgood⟩
      refine V ?_
      by_cases ha : i < a.length
      · have hb : i < b.length := by omega
        refine p1 ?_
        refine ⟨by kernel_rfl, ?_⟩
        repeat refine ix (h := ?_)
        have he := eqLb a[i] b[i]
        by_cases h : cmpL1 a[i] b[i] = 0
        · rw [decide_eq_true h] at he
          refine p2 ?_ (show (!(sEq a[i].name b[i].name && (sEq a[i].value b[i].value && true))) = false by rw [he]; rfl)
          exact ⟨i + 1, id, ⟨⟨rfl, rfl, succ_gi (by omega), trivial⟩, trivial, rfl⟩, ⟨ha, fun j hj => by
            rcases Nat.lt_succ_iff_lt_or_eq.1 hj with h1 | h1
            · exact hgood j h1
            · subst h1
              rw [List.getElem?_eq_getElem ha, List.getElem?_eq_getElem hb, (cmpL1_is.eq0 _ _).1 h]⟩, by show a.length - (i + 1) < a.length - i; omega⟩
        · rw [decide_eq_false h] at he
          refine p1 ?_ (show (!(sEq a[i].name b[i].name && (sEq a[i].value b[i].value && true))) = true by rw [he]; rfl)
          have hat : cmpF a b = cmpL1 a[i] b[i] := by rw [cmpF, lexC_at cmpL1 cmpL1_is.eq0 a b i a[i] b[i] hgood (List.getElem?_eq_getElem ha) (List.getElem?_eq_getElem hb) h]
          exact ⟨by rw [decide_eq_false (by rw [hat]; exact h)]; rfl, rfl⟩
      · refine p2 ?_
        refine V ?_
        have : cmpF a b = 0 := by rw [cmpF, lexC_len cmpL1 cmpL1_is.eq0 a b (fun k hk => hgood k (by omega)), sgnF, if_neg (by omega), if_neg (by omega)]
        exact ⟨by rw [decide_eq_true this]; rfl, rfl⟩
  · refine p1 ?_
    have hne : cmpF a b ≠ 0 := fun h => hl (by rw [(cmpF_is.eq0 _ _).1 h])
    exact ⟨by rw [decide_eq_false hne]; rfl, rfl⟩
end Go.Proofs.Ytcdnilijfnfkbaa
