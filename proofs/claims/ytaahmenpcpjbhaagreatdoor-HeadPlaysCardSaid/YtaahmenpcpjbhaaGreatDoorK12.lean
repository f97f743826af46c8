/-
  Contracts: the document's answer on labels: order, text, Only, Fits; short labels, the same labels.
-/
import Derived.Test.YtaahmenpcpjbhaaGreatDoorK11
import Derived.Test.YtaahmenpcpjbhaaGreatDoorK09
import Derived.Test.YtaahmenpcpjbhaaGreatDoorK07
import Derived.Test.YtaahmenpcpjbhaaGreatDoorK10
namespace Go.Proofs.YtaahmenpcpjbhaaGreatDoor
open Go.GK Go.PL Go.RowKit
set_option maxRecDepth 100000
theorem eqLb (a b : Lb) : (sEq a.name b.name && (sEq a.value b.value && true)) = decide (cmpL1 a b = 0) := by
  rw [Bool.eq_iff_iff, decide_eq_true_iff, cmpL1_is.eq0, Bool.and_true, Bool.and_eq_true, sEq_iff, sEq_iff]
  obtain ⟨a1, a2⟩ := a
  obtain ⟨b1, b2⟩ := b
  simp
theorem refCompare_rt (a b : List Lb) (hla : a.length ≤ 1000000) (_ : b.length ≤ 1000000) : Rt pg 52 [.sl 2 (a.map lb), .sl 2 (b.map lb)] (gi (cmpF a b)) := by
  refine Rt.of pg_ok Tryz.func52 rfl Tryz.ntmps52 rfl Tryz.results52 Tryz.call52 fun H0 S0 w0 h0 g0 => ?_
  have ha0 : (a.map lb).length = a.length := by simp
  have hb0 : (b.map lb).length = b.length := by simp
  refine JK.loop (α := Nat) (fun i => ⟨[(0, .sl 2 (a.map lb)), (1, .sl 2 (b.map lb)), (5, gi i)], [], 0⟩) (fun i => i ≤ a.length ∧ i ≤ b.length ∧ ∀ j, j < i → a[j]? = b[j]?) (fun i => a.length - i) 0 id ?_ ⟨Nat.zero_le _, Nat.zero_le _, fun j hj => absurd hj (by omega)⟩ ?_
  · exact ⟨⟨rfl, rfl, rfl, trivial⟩, trivial, rfl⟩
  · rintro i ⟨hi, hj, hgood⟩
    refine V ?_
    have hlen : (¬ i < a.length ∨ ¬ i < b.length) → cmpF a b = sgnF a.length b.length := fun h => by
      rw [cmpF, lexC_len cmpL1 cmpL1_is.eq0 a b (fun k hk => hgood k (by omega))]
    by_cases ha : i < a.length
    · by_cases hb : i < b.length
      · repeat (first | refine p1 ?_ | refine p2 ?_ | refine p3 ?_ | refine p4 ?_)
        refine ⟨by kernel_rfl, ?_⟩
        repeat refine ix (h := ?_)
        have he := eqLb a[i] b[i]
        by_cases h : cmpL1 a[i] b[i] = 0
        · rw [decide_eq_true h] at he
          refine p1 ?_ he
          exact ⟨i + 1, id, ⟨⟨rfl, rfl, succ_gi (by omega), trivial⟩, trivial, rfl⟩, ⟨ha, hb, fun j hj => by
            rcases Nat.lt_succ_iff_lt_or_eq.1 hj with h1 | h1
            · exact hgood j h1
            · subst h1
              rw [List.getElem?_eq_getElem ha, List.getElem?_eq_getElem hb, (cmpL1_is.eq0 _ _).1 h]⟩, by show a.length - (i + 1) < a.length - i; omega⟩
        · rw [decide_eq_false h] at he
          refine p2 ?_ he
          refine ⟨by kernel_rfl, ?_⟩
          repeat refine ix (h := ?_)
          have hat : cmpF a b = cmpL1 a[i] b[i] := by rw [cmpF, lexC_at cmpL1 cmpL1_is.eq0 a b i a[i] b[i] hgood (List.getElem?_eq_getElem ha) (List.getElem?_eq_getElem hb) h]
          have hor := cmpL1_or a[i] b[i]
          have hr := cmpL1_is.rng a[i] b[i]
          have h1 := sLt_cmp a[i].name b[i].name
          have h2 := sLt_cmp a[i].value b[i].value
          have h3 : sEq a[i].name b[i].name = decide (cmpS a[i].name b[i].name = 0) := by rw [Bool.eq_iff_iff, sEq_iff, decide_eq_true_iff, cmpS_is.eq0]
          by_cases hc1 : cmpS a[i].name b[i].name = 0
          · rw [if_pos hc1] at hor
            rw [decide_eq_false (by omega : ¬ cmpS a[i].name b[i].name = -1)] at h1
            rw [decide_eq_true hc1] at h3
            rw [← hor] at h2
            by_cases hc2 : cmpL1 a[i] b[i] = -1
            · rw [decide_eq_true hc2] at h2
              repeat (first | refine p1 ?_ | refine p2 ?_ | refine p3 ?_ | refine p4 ?_ | refine ix (h := ?_))
              exact ⟨by rw [hat, hc2]; rfl, rfl⟩
            · rw [decide_eq_false hc2] at h2
              repeat (first | refine p1 ?_ | refine p2 ?_ | refine p3 ?_ | refine p4 ?_ | refine ix (h := ?_))
              exact ⟨by rw [hat, (by omega : cmpL1 a[i] b[i] = 1)]; rfl, rfl⟩
          · rw [if_neg hc1] at hor
            rw [decide_eq_false hc1] at h3
            rw [← hor] at h1
            by_cases hc2 : cmpL1 a[i] b[i] = -1
            · rw [decide_eq_true hc2] at h1
              repeat (first | refine p1 ?_ | refine p2 ?_ | refine p3 ?_ | refine p4 ?_ | refine ix (h := ?_))
              exact ⟨by rw [hat, hc2]; rfl, rfl⟩
            · rw [decide_eq_false hc2] at h1
              repeat (first | refine p1 ?_ | refine p2 ?_ | refine p3 ?_ | refine p4 ?_ | refine ix (h := ?_))
              exact ⟨by rw [hat, (by omega : cmpL1 a[i] b[i] = 1)]; rfl, rfl⟩
      · have := hlen (.inr hb)
        repeat (first | refine p1 ?_ | refine p2 ?_ | refine p3 ?_ | refine p4 ?_)
        exact ⟨by rw [this, sgnF, if_neg (by omega), if_pos (by omega)]; rfl, rfl⟩
    · have := hlen (.inl ha)
      by_cases hb : i < b.length
      · repeat (first | refine p1 ?_ | refine p2 ?_ | refine p3 ?_ | refine p4 ?_)
        exact ⟨by rw [this, sgnF, if_pos (by omega)]; rfl, rfl⟩
      · repeat (first | refine p1 ?_ | refine p2 ?_ | refine p3 ?_ | refine p4 ?_)
        exact ⟨by rw [this, sgnF, if_neg (by omega), if_neg (by omega)]; rfl, rfl⟩
theorem fits_rt (l : List Lb) (m : List Mt) (hm : ∀ x ∈ m, 0 ≤ x.op ∧ x.op ≤ 3) (hml : m.length ≤ 1000000) : Rt pg 40 [.sl 2 (l.map lb), .sl 3 (m.map mt)] (.b (allF l m)) := by
  refine Rt.of pg_ok Tryz.func40 rfl Tryz.ntmps40 rfl Tryz.results40 Tryz.call40 fun H0 S0 w0 h0 g0 => ?_
  have hll : (m.map mt).length = m.length := by simp
  refine JK.loop (α := Nat) (fun i => ⟨[(0, .sl 2 (l.map lb)), (10, .sl 3 (m.map mt)), (11, gi (m.map mt).length), (12, gi i)], [], 0⟩) (fun i => i ≤ m.length ∧ allF l (m.take i) = true) (fun i => m.length - i) 0 id ?_ ⟨Nat.zero_le _, rfl⟩ ?_
  · exact ⟨⟨rfl, rfl, rfl, rfl, trivial⟩, trivial, rfl⟩
  · rintro i ⟨hi, hgood⟩
    refine V ?_
    by_cases hlt : i < m.length
    · have hop := hm m[i] (List.getElem_mem hlt)
      have hsn : allF l (m.take (i + 1)) = loneF l m[i] := by
        unfold allF at hgood ⊢
        rw [List.take_succ_eq_append_getElem hlt, List.all_append, hgood]
        simp
      have hno : loneF l m[i] = false → allF l m = false := fun h => by
        unfold allF
        rw [List.all_eq_false]
        exact ⟨m[i], List.getElem_mem hlt, by rw [h]; decide⟩
      have fin : ∀ (c : Bool), c = loneF l m[i] → (c = true → allF l (m.take (i + 1)) = true) ∧ (c = false → allF l m = false) := fun c e => ⟨fun h => by rw [hsn, ← e, h], fun h => hno (by rw [← e, h])⟩
      refine p1 ?_
      refine ix (h := ?_)
      refine GO (tell_rt l m[i].name) rfl ?_
      refine ⟨by kernel_rfl, ?_⟩
      have hpref : ∀ s p : ByteArray, p.size ≤ s.size → prefF s p = sEq (s.extract 0 p.size) p := fun s p h => by unfold prefF; rw [decide_eq_true h]; rfl
      have hpref0 : ∀ s p : ByteArray, ¬ p.size ≤ s.size → prefF s p = false := fun s p h => by unfold prefF; rw [decide_eq_false h]; rfl
      have h4 : m[i].op = 0 ∨ m[i].op = 1 ∨ m[i].op = 2 ∨ m[i].op = 3 := by omega
      by_cases hp : m[i].value.size ≤ (lgetF l m[i].name).size
      · have hpr := hpref _ _ hp
        refine p1 ?_
        refine ⟨by omega, by omega, by omega, ?_⟩
        rcases h4 with h4 | h4 | h4 | h4
        · cases hc : sEq (lgetF l m[i].name) m[i].value with
          | true =>
            have hone : loneF l m[i] = true := by unfold loneF; rw [if_pos h4]; exact hc
            refine ⟨_, by omega, by omega, (by rw [h4]; rfl), ?_⟩
            have hc2 : (!(sEq (lgetF l m[i].name) m[i].value)) = false := by rw [hc]; rfl
            have hc3 : (!(!(sEq (lgetF l m[i].name) m[i].value))) = true := by rw [hc]; rfl
            repeat (first | refine p1 ?_ | refine p2 ?_ | refine p3 ?_ | refine p4 ?_ | refine p1 ?_ hc2 | refine p2 ?_ hc2 | refine p1 ?_ hc3 | refine p2 ?_ hc3)
            exact ⟨i + 1, id, ⟨⟨rfl, rfl, rfl, succ_gi (by omega), trivial⟩, trivial, rfl⟩, ⟨hlt, hsn.trans hone⟩, by show m.length - (i + 1) < m.length - i; omega⟩
          | false =>
            have hone : loneF l m[i] = false := by unfold loneF; rw [if_pos h4]; exact hc
            refine ⟨_, by omega, by omega, (by rw [h4]; rfl), ?_⟩
            have hc2 : (!(sEq (lgetF l m[i].name) m[i].value)) = true := by rw [hc]; rfl
            have hc3 : (!(!(sEq (lgetF l m[i].name) m[i].value))) = false := by rw [hc]; rfl
            repeat (first | refine p1 ?_ | refine p2 ?_ | refine p3 ?_ | refine p4 ?_ | refine p1 ?_ hc2 | refine p2 ?_ hc2 | refine p1 ?_ hc3 | refine p2 ?_ hc3)
            exact ⟨(hno hone).symm, rfl⟩
        · cases hc : sEq (lgetF l m[i].name) m[i].value with
          | true =>
            have hone : loneF l m[i] = false := by unfold loneF; rw [if_neg (by omega), if_pos h4, hc]; rfl
            refine ⟨_, by omega, by omega, (by rw [h4]; rfl), ?_⟩
            have hc2 : (!(sEq (lgetF l m[i].name) m[i].value)) = false := by rw [hc]; rfl
            have hc3 : (!(!(sEq (lgetF l m[i].name) m[i].value))) = true := by rw [hc]; rfl
            repeat (first | refine p1 ?_ | refine p2 ?_ | refine p3 ?_ | refine p4 ?_ | refine p1 ?_ hc2 | refine p2 ?_ hc2 | refine p1 ?_ hc3 | refine p2 ?_ hc3)
            exact ⟨(hno hone).symm, rfl⟩
          | false =>
            have hone : loneF l m[i] = true := by unfold loneF; rw [if_neg (by omega), if_pos h4, hc]; rfl
            refine ⟨_, by omega, by omega, (by rw [h4]; rfl), ?_⟩
            have hc2 : (!(sEq (lgetF l m[i].name) m[i].value)) = true := by rw [hc]; rfl
            have hc3 : (!(!(sEq (lgetF l m[i].name) m[i].value))) = false := by rw [hc]; rfl
            repeat (first | refine p1 ?_ | refine p2 ?_ | refine p3 ?_ | refine p4 ?_ | refine p1 ?_ hc2 | refine p2 ?_ hc2 | refine p1 ?_ hc3 | refine p2 ?_ hc3)
            exact ⟨i + 1, id, ⟨⟨rfl, rfl, rfl, succ_gi (by omega), trivial⟩, trivial, rfl⟩, ⟨hlt, hsn.trans hone⟩, by show m.length - (i + 1) < m.length - i; omega⟩
        · cases hc : sEq ((lgetF l m[i].name).extract 0 m[i].value.size) m[i].value with
          | true =>
            have hone : loneF l m[i] = true := by unfold loneF; rw [if_neg (by omega), if_neg (by omega), if_pos h4, hpr, hc]
            refine ⟨_, by omega, by omega, (by rw [h4]; rfl), ?_⟩
            have hc2 : (!(sEq ((lgetF l m[i].name).extract 0 m[i].value.size) m[i].value)) = false := by rw [hc]; rfl
            have hc3 : (!(!(sEq ((lgetF l m[i].name).extract 0 m[i].value.size) m[i].value))) = true := by rw [hc]; rfl
            repeat (first | refine p1 ?_ | refine p2 ?_ | refine p3 ?_ | refine p4 ?_ | refine p1 ?_ hc2 | refine p2 ?_ hc2 | refine p1 ?_ hc3 | refine p2 ?_ hc3)
            exact ⟨i + 1, id, ⟨⟨rfl, rfl, rfl, succ_gi (by omega), trivial⟩, trivial, rfl⟩, ⟨hlt, hsn.trans hone⟩, by show m.length - (i + 1) < m.length - i; omega⟩
          | false =>
            have hone : loneF l m[i] = false := by unfold loneF; rw [if_neg (by omega), if_neg (by omega), if_pos h4, hpr, hc]
            refine ⟨_, by omega, by omega, (by rw [h4]; rfl), ?_⟩
            have hc2 : (!(sEq ((lgetF l m[i].name).extract 0 m[i].value.size) m[i].value)) = true := by rw [hc]; rfl
            have hc3 : (!(!(sEq ((lgetF l m[i].name).extract 0 m[i].value.size) m[i].value))) = false := by rw [hc]; rfl
            repeat (first | refine p1 ?_ | refine p2 ?_ | refine p3 ?_ | refine p4 ?_ | refine p1 ?_ hc2 | refine p2 ?_ hc2 | refine p1 ?_ hc3 | refine p2 ?_ hc3)
            exact ⟨(hno hone).symm, rfl⟩
        · cases hc : sEq ((lgetF l m[i].name).extract 0 m[i].value.size) m[i].value with
          | true =>
            have hone : loneF l m[i] = false := by unfold loneF; rw [if_neg (by omega), if_neg (by omega), if_neg (by omega), hpr, hc]; rfl
            refine ⟨_, by omega, by omega, (by rw [h4]; rfl), ?_⟩
            have hc2 : (!(sEq ((lgetF l m[i].name).extract 0 m[i].value.size) m[i].value)) = false := by rw [hc]; rfl
            have hc3 : (!(!(sEq ((lgetF l m[i].name).extract 0 m[i].value.size) m[i].value))) = true := by rw [hc]; rfl
            repeat (first | refine p1 ?_ | refine p2 ?_ | refine p3 ?_ | refine p4 ?_ | refine p1 ?_ hc2 | refine p2 ?_ hc2 | refine p1 ?_ hc3 | refine p2 ?_ hc3)
            exact ⟨(hno hone).symm, rfl⟩
          | false =>
            have hone : loneF l m[i] = true := by unfold loneF; rw [if_neg (by omega), if_neg (by omega), if_neg (by omega), hpr, hc]; rfl
            refine ⟨_, by omega, by omega, (by rw [h4]; rfl), ?_⟩
            have hc2 : (!(sEq ((lgetF l m[i].name).extract 0 m[i].value.size) m[i].value)) = true := by rw [hc]; rfl
            have hc3 : (!(!(sEq ((lgetF l m[i].name).extract 0 m[i].value.size) m[i].value))) = false := by rw [hc]; rfl
            repeat (first | refine p1 ?_ | refine p2 ?_ | refine p3 ?_ | refine p4 ?_ | refine p1 ?_ hc2 | refine p2 ?_ hc2 | refine p1 ?_ hc3 | refine p2 ?_ hc3)
            exact ⟨i + 1, id, ⟨⟨rfl, rfl, rfl, succ_gi (by omega), trivial⟩, trivial, rfl⟩, ⟨hlt, hsn.trans hone⟩, by show m.length - (i + 1) < m.length - i; omega⟩
      · have hpr := hpref0 _ _ hp
        refine p2 ?_
        rcases h4 with h4 | h4 | h4 | h4
        · cases hc : sEq (lgetF l m[i].name) m[i].value with
          | true =>
            have hone : loneF l m[i] = true := by unfold loneF; rw [if_pos h4]; exact hc
            refine ⟨_, by omega, by omega, (by rw [h4]; rfl), ?_⟩
            have hc2 : (!(sEq (lgetF l m[i].name) m[i].value)) = false := by rw [hc]; rfl
            have hc3 : (!(!(sEq (lgetF l m[i].name) m[i].value))) = true := by rw [hc]; rfl
            repeat (first | refine p1 ?_ | refine p2 ?_ | refine p3 ?_ | refine p4 ?_)
            exact ⟨i + 1, id, ⟨⟨rfl, rfl, rfl, succ_gi (by omega), trivial⟩, trivial, rfl⟩, ⟨hlt, hsn.trans hone⟩, by show m.length - (i + 1) < m.length - i; omega⟩
          | false =>
            have hone : loneF l m[i] = false := by unfold loneF; rw [if_pos h4]; exact hc
            refine ⟨_, by omega, by omega, (by rw [h4]; rfl), ?_⟩
            have hc2 : (!(sEq (lgetF l m[i].name) m[i].value)) = true := by rw [hc]; rfl
            have hc3 : (!(!(sEq (lgetF l m[i].name) m[i].value))) = false := by rw [hc]; rfl
            repeat (first | refine p1 ?_ | refine p2 ?_ | refine p3 ?_ | refine p4 ?_)
            exact ⟨(hno hone).symm, rfl⟩
        · cases hc : sEq (lgetF l m[i].name) m[i].value with
          | true =>
            have hone : loneF l m[i] = false := by unfold loneF; rw [if_neg (by omega), if_pos h4, hc]; rfl
            refine ⟨_, by omega, by omega, (by rw [h4]; rfl), ?_⟩
            have hc2 : (!(sEq (lgetF l m[i].name) m[i].value)) = false := by rw [hc]; rfl
            have hc3 : (!(!(sEq (lgetF l m[i].name) m[i].value))) = true := by rw [hc]; rfl
            repeat (first | refine p1 ?_ | refine p2 ?_ | refine p3 ?_ | refine p4 ?_)
            exact ⟨(hno hone).symm, rfl⟩
          | false =>
            have hone : loneF l m[i] = true := by unfold loneF; rw [if_neg (by omega), if_pos h4, hc]; rfl
            refine ⟨_, by omega, by omega, (by rw [h4]; rfl), ?_⟩
            have hc2 : (!(sEq (lgetF l m[i].name) m[i].value)) = true := by rw [hc]; rfl
            have hc3 : (!(!(sEq (lgetF l m[i].name) m[i].value))) = false := by rw [hc]; rfl
            repeat (first | refine p1 ?_ | refine p2 ?_ | refine p3 ?_ | refine p4 ?_)
            exact ⟨i + 1, id, ⟨⟨rfl, rfl, rfl, succ_gi (by omega), trivial⟩, trivial, rfl⟩, ⟨hlt, hsn.trans hone⟩, by show m.length - (i + 1) < m.length - i; omega⟩
        · have hone : loneF l m[i] = false := by unfold loneF; rw [if_neg (by omega), if_neg (by omega), if_pos h4, hpr]
          refine ⟨_, by omega, by omega, (by rw [h4]; rfl), ?_⟩
          repeat (first | refine p1 ?_ | refine p2 ?_ | refine p3 ?_ | refine p4 ?_)
          exact ⟨(hno hone).symm, rfl⟩
        · have hone : loneF l m[i] = true := by unfold loneF; rw [if_neg (by omega), if_neg (by omega), if_neg (by omega), hpr]; rfl
          refine ⟨_, by omega, by omega, (by rw [h4]; rfl), ?_⟩
          repeat (first | refine p1 ?_ | refine p2 ?_ | refine p3 ?_ | refine p4 ?_)
          exact ⟨i + 1, id, ⟨⟨rfl, rfl, rfl, succ_gi (by omega), trivial⟩, trivial, rfl⟩, ⟨hlt, hsn.trans hone⟩, by show m.length - (i + 1) < m.length - i; omega⟩
    · refine p2 ?_
      refine V ?_
      obtain rfl : i = m.length := by omega
      rw [List.take_length] at hgood
      exact ⟨hgood.symm, rfl⟩

/-- Labels, matchers that are short enough to be held, as the laws say. -/
def shL (l : List Lb) : Bool := decide (l.length ≤ 20) && !anyB l.length (fun i => decide (60 < (l.getD i default).name.size) || decide (60 < (l.getD i default).value.size))
def shM (l : List Mt) : Bool := decide (l.length ≤ 20) && !anyB l.length (fun i => decide (60 < (l.getD i default).name.size) || decide (60 < (l.getD i default).value.size))
theorem shL_Hl {l : List Lb} (h : shL l = true) : Hl l := by
  unfold shL at h
  rw [Bool.and_eq_true, decide_eq_true_iff, Bool.not_eq_true'] at h
  have key : ∀ x ∈ l, x.name.size ≤ 60 ∧ x.value.size ≤ 60 := fun x hx => by
    obtain ⟨i, hi, rfl⟩ := List.getElem_of_mem hx
    have := anyB_get h.2 i hi
    rw [show l.getD i default = l[i] by simp [hi], Bool.or_eq_false_iff, decide_eq_false_iff_not, decide_eq_false_iff_not] at this
    omega
  exact ⟨by omega, fun x hx => by have := key x hx; omega, fun x hx => by have := key x hx; omega⟩
theorem shM_le {l : List Mt} (h : shM l = true) : l.length ≤ 20 ∧ ∀ x ∈ l, x.name.size ≤ 60 ∧ x.value.size ≤ 60 := by
  unfold shM at h
  rw [Bool.and_eq_true, decide_eq_true_iff, Bool.not_eq_true'] at h
  refine ⟨h.1, fun x hx => ?_⟩
  obtain ⟨i, hi, rfl⟩ := List.getElem_of_mem hx
  have := anyB_get h.2 i hi
  rw [show l.getD i default = l[i] by simp [hi], Bool.or_eq_false_iff, decide_eq_false_iff_not, decide_eq_false_iff_not] at this
  omega
theorem Hl.sh {l : List Lb} (h : Hl l) : Sh l := fun x hx => by have := h.value x hx; omega
theorem shortL_rt (l : List Lb) : Rt pg 31 [.sl 2 (l.map lb)] (.b (shL l)) := by
  refine Rt.of pg_ok Tryz.func31 rfl Tryz.ntmps31 rfl Tryz.results31 Tryz.call31 fun H0 S0 w0 h0 g0 => ?_
  have hll : (l.map lb).length = l.length := by simp
  unfold shL
  by_cases hl : l.length ≤ 20
  · refine p2 ?_
    refine JK.loop (α := Nat) (fun i => ⟨[(0, .sl 2 (l.map lb)), (3, gi i)], [], 0⟩) (fun i => i ≤ l.length ∧ ∀ j, j < i → (decide (60 < (l.getD j default).name.size) || decide (60 < (l.getD j default).value.size)) = false) (fun i => l.length - i) 0 id ?_ ⟨Nat.zero_le _, fun j hj => absurd hj (by omega)⟩ ?_
    · exact ⟨⟨rfl, rfl, trivial⟩, trivial, rfl⟩
    · rintro i ⟨hi, hgood⟩
      refine V ?_
      by_cases hlt : i < l.length
      · have hg : l.getD i default = l[i] := by simp [hlt]
        have hbad : (decide (60 < l[i].name.size) || decide (60 < l[i].value.size)) = true → (decide (l.length ≤ 20) && !anyB l.length (fun i => decide (60 < (l.getD i default).name.size) || decide (60 < (l.getD i default).value.size))) = false := fun h => by rw [anyB_true hlt (by rw [hg]; exact h)]; simp
        have hnext : (decide (60 < l[i].name.size) || decide (60 < l[i].value.size)) = false → ∀ j, j < i + 1 → (decide (60 < (l.getD j default).name.size) || decide (60 < (l.getD j default).value.size)) = false := fun h j hj => by
          rcases Nat.lt_succ_iff_lt_or_eq.1 hj with h1 | h1
          · exact hgood j h1
          · subst h1; rw [hg]; exact h
        by_cases h1 : 60 < l[i].name.size
        · repeat (first | refine p1 ?_ | refine p2 ?_ | refine p3 ?_ | refine p4 ?_ | refine ix (h := ?_))
          exact ⟨(hbad (by rw [decide_eq_true h1]; rfl)).symm, rfl⟩
        · by_cases h2 : 60 < l[i].value.size
          · repeat (first | refine p1 ?_ | refine p2 ?_ | refine p3 ?_ | refine p4 ?_ | refine ix (h := ?_))
            exact ⟨(hbad (by rw [decide_eq_true h2, Bool.or_true])).symm, rfl⟩
          · repeat (first | refine p1 ?_ | refine p2 ?_ | refine p3 ?_ | refine p4 ?_ | refine ix (h := ?_))
            exact ⟨i + 1, id, ⟨⟨rfl, succ_gi (by omega), trivial⟩, trivial, rfl⟩, ⟨hlt, hnext (by rw [decide_eq_false h1, decide_eq_false h2]; rfl)⟩, by show l.length - (i + 1) < l.length - i; omega⟩
      · refine p2 ?_
        refine V ?_
        obtain rfl : i = l.length := by omega
        exact ⟨by rw [anyB_false hgood, decide_eq_true hl]; rfl, rfl⟩
  · refine p1 ?_
    exact ⟨by rw [decide_eq_false hl]; rfl, rfl⟩
theorem shortM_rt (l : List Mt) : Rt pg 9 [.sl 3 (l.map mt)] (.b (shM l)) := by
  refine Rt.of pg_ok Tryz.func9 rfl Tryz.ntmps9 rfl Tryz.results9 Tryz.call9 fun H0 S0 w0 h0 g0 => ?_
  have hll : (l.map mt).length = l.length := by simp
  unfold shM
  by_cases hl : l.length ≤ 20
  · refine p2 ?_
    refine JK.loop (α := Nat) (fun i => ⟨[(0, .sl 3 (l.map mt)), (3, gi i)], [], 0⟩) (fun i => i ≤ l.length ∧ ∀ j, j < i → (decide (60 < (l.getD j default).name.size) || decide (60 < (l.getD j default).value.size)) = false) (fun i => l.length - i) 0 id ?_ ⟨Nat.zero_le _, fun j hj => absurd hj (by omega)⟩ ?_
    · exact ⟨⟨rfl, rfl, trivial⟩, trivial, rfl⟩
    · rintro i ⟨hi, hgood⟩
      refine V ?_
      by_cases hlt : i < l.length
      · have hg : l.getD i default = l[i] := by simp [hlt]
        have hbad : (decide (60 < l[i].name.size) || decide (60 < l[i].value.size)) = true → (decide (l.length ≤ 20) && !anyB l.length (fun i => decide (60 < (l.getD i default).name.size) || decide (60 < (l.getD i default).value.size))) = false := fun h => by rw [anyB_true hlt (by rw [hg]; exact h)]; simp
        have hnext : (decide (60 < l[i].name.size) || decide (60 < l[i].value.size)) = false → ∀ j, j < i + 1 → (decide (60 < (l.getD j default).name.size) || decide (60 < (l.getD j default).value.size)) = false := fun h j hj => by
          rcases Nat.lt_succ_iff_lt_or_eq.1 hj with h1 | h1
          · exact hgood j h1
          · subst h1; rw [hg]; exact h
        by_cases h1 : 60 < l[i].name.size
        · repeat (first | refine p1 ?_ | refine p2 ?_ | refine p3 ?_ | refine p4 ?_ | refine ix (h := ?_))
          exact ⟨(hbad (by rw [decide_eq_true h1]; rfl)).symm, rfl⟩
        · by_cases h2 : 60 < l[i].value.size
          · repeat (first | refine p1 ?_ | refine p2 ?_ | refine p3 ?_ | refine p4 ?_ | refine ix (h := ?_))
            exact ⟨(hbad (by rw [decide_eq_true h2, Bool.or_true])).symm, rfl⟩
          · repeat (first | refine p1 ?_ | refine p2 ?_ | refine p3 ?_ | refine p4 ?_ | refine ix (h := ?_))
            exact ⟨i + 1, id, ⟨⟨rfl, succ_gi (by omega), trivial⟩, trivial, rfl⟩, ⟨hlt, hnext (by rw [decide_eq_false h1, decide_eq_false h2]; rfl)⟩, by show l.length - (i + 1) < l.length - i; omega⟩
      · refine p2 ?_
        refine V ?_
        obtain rfl : i = l.length := by omega
        exact ⟨by rw [anyB_false hgood, decide_eq_true hl]; rfl, rfl⟩
  · refine p1 ?_
    exact ⟨by rw [decide_eq_false hl]; rfl, rfl⟩
theorem sameL_rt (a b : List Lb) : Rt pg 35 [.sl 2 (a.map lb), .sl 2 (b.map lb)] (.b (decide (cmpF a b = 0))) := by
  refine Rt.of pg_ok Tryz.func35 rfl Tryz.ntmps35 rfl Tryz.results35 Tryz.call35 fun H0 S0 w0 h0 g0 => ?_
  have hla : (a.map lb).length = a.length := by simp
  have hlb : (b.map lb).length = b.length := by simp
  by_cases hl : a.length = b.length
  · refine p2 ?_
    refine JK.len 0 rfl fun hlen _ => ?_
    have hlen' : a.length ≤ 9223372036854775807 := by simpa [maxLen] using hlen
    refine JK.loop (α := Nat) (fun i => ⟨[(0, .sl 2 (a.map lb)), (1, .sl 2 (b.map lb)), (5, gi i)], [], 0⟩) (fun i => i ≤ a.length ∧ ∀ j, j < i → a[j]? = b[j]?) (fun i => a.length - i) 0 id ?_ ⟨Nat.zero_le _, fun j hj => absurd hj (by omega)⟩ ?_
    · exact ⟨⟨rfl, rfl, rfl, trivial⟩, trivial, rfl⟩
    · rintro i ⟨hi, hgood⟩
      refine V ?_
      by_cases ha : i < a.length
      · have hb : i < b.length := by omega
        refine p1 ?_
        refine ⟨by kernel_rfl, ?_⟩
        repeat refine ix (h := ?_)
        have he := eqLb a[i] b[i]
        by_cases h : cmpL1 a[i] b[i] = 0
        · rw [decide_eq_true h] at he
          refine p2 ?_ (show (!(sEq a[i].name b[i].name && (sEq a[i].value b[i].value && true))) = false by rw [he]; rfl)
          exact ⟨i + 1, id, ⟨⟨rfl, rfl, succ_gi (by omega), trivial⟩, trivial, rfl⟩, ⟨ha, fun j hj => by
            rcases Nat.lt_succ_iff_lt_or_eq.1 hj with h1 | h1
            · exact hgood j h1
            · subst h1
              rw [List.getElem?_eq_getElem ha, List.getElem?_eq_getElem hb, (cmpL1_is.eq0 _ _).1 h]⟩, by show a.length - (i + 1) < a.length - i; omega⟩
        · rw [decide_eq_false h] at he
          refine p1 ?_ (show (!(sEq a[i].name b[i].name && (sEq a[i].value b[i].value && true))) = true by rw [he]; rfl)
          have hat : cmpF a b = cmpL1 a[i] b[i] := by rw [cmpF, lexC_at cmpL1 cmpL1_is.eq0 a b i a[i] b[i] hgood (List.getElem?_eq_getElem ha) (List.getElem?_eq_getElem hb) h]
          exact ⟨by rw [decide_eq_false (by rw [hat]; exact h)]; rfl, rfl⟩
      · refine p2 ?_
        refine V ?_
        have : cmpF a b = 0 := by rw [cmpF, lexC_len cmpL1 cmpL1_is.eq0 a b (fun k hk => hgood k (by omega)), sgnF, if_neg (by omega), if_neg (by omega)]
        exact ⟨by rw [decide_eq_true this]; rfl, rfl⟩
  · refine p1 ?_
    have hne : cmpF a b ≠ 0 := fun h => hl (by rw [(cmpF_is.eq0 _ _).1 h])
    exact ⟨by rw [decide_eq_false hne]; rfl, rfl⟩
end Go.Proofs.YtaahmenpcpjbhaaGreatDoor
/-
  Contracts: the document's series, in order.
-/
namespace Go.Proofs.YtaahmenpcpjbhaaGreatDoor
open Go.GK Go.PL Go.RowKit
set_option maxRecDepth 100000
/-- Series with labels not too many for this world. -/
abbrev SerB := {x : Ser // x.labels.length ≤ 1000000}
abbrev seB (x : SerB) : List GV := se x.1
def ltB (x y : SerB) : Bool := decide (cmpF x.1.labels y.1.labels < 0)
theorem wo_ltB : WO ltB where
  asym x y h := by
    have := cmpF_is.anti x.1.labels y.1.labels
    simp only [ltB, decide_eq_true_eq, decide_eq_false_iff_not] at *
    omega
  ntrans x y z h1 h2 := by
    simp only [ltB, decide_eq_false_iff_not] at *
    have a1 := cmpF_is.anti x.1.labels y.1.labels
    have a2 := cmpF_is.anti y.1.labels z.1.labels
    have a3 := cmpF_is.anti x.1.labels z.1.labels
    have r1 := cmpF_is.rng x.1.labels y.1.labels
    have r2 := cmpF_is.rng y.1.labels z.1.labels
    have r3 := cmpF_is.rng x.1.labels z.1.labels
    by_cases e1 : cmpF x.1.labels y.1.labels = 0
    · rw [(cmpF_is.eq0 _ _).1 e1]; omega
    · by_cases e2 : cmpF y.1.labels z.1.labels = 0
      · rw [← (cmpF_is.eq0 _ _).1 e2]; omega
      · have := cmpF_is.trans x.1.labels y.1.labels z.1.labels (by omega) (by omega)
        omega
theorem less_hf (l : List SerB) (i j : Nat) (x y : SerB) (_ : l.length < 1099511627776) (hi : l[i]? = some x) (hj : l[j]? = some y) : Hf pg 54 2 [gi i, gi j, .p 1 0] (sgm seB 2 37 25 l) (fun G σ n => G = .b (ltB x y) ∧ σ = sgm seB 2 37 25 l ∧ n = 2) := by
  have hi1 := (List.getElem?_eq_some_iff.1 hi).1
  have hj1 := (List.getElem?_eq_some_iff.1 hj).1
  have hll : (l.map seB).length = l.length := by simp
  refine Hf.of pg_ok Tryz.func54 rfl Tryz.ntmps54 rfl Tryz.results54 Tryz.call54 fun H0 S0 w0 h0 g0 => ?_
  refine DRAW [] false (tk [0, 1, 2, 3, 4, 5, 6, 7, 8, 9]) (by kernel_rfl) ?_
  refine ⟨by omega, by omega, ?_⟩
  refine ⟨seB x, by rw [Int.toNat_natCast, List.getElem?_map, hi]; rfl, ?_⟩
  refine ⟨by omega, by omega, ?_⟩
  refine ⟨seB y, by rw [Int.toNat_natCast, List.getElem?_map, hj]; rfl, ?_⟩
  refine RGO 10 true (tk [11, 12]) (refCompare_rt x.1.labels y.1.labels x.2 y.2) rfl rfl (by kernel_rfl) ?_
  refine V ?_
  exact ⟨rfl, rfl, rfl⟩
theorem serie_info : ∃ ie : TypeInfo, pg.P.info? 37 = some ie ∧ ie.size = 2 ∧ ∀ w, (isAgg 37).run pg.P w = .ok true w := ⟨serE, by kernel_rfl, by kernel_rfl, fun _ => by kernel_rfl⟩
theorem series_se : SE seB 2 37 25 54 89 ltB where
  less := less_hf
  swx := ⟨false, fun args W => run_callFunc_extern Tryz.func89 (by kernel_rfl) (by kernel_rfl) (by kernel_rfl) (e := Extern.ReflectliteSwapper.swap false) (by kernel_rfl) args W⟩
  ie := serie_info
end Go.Proofs.YtaahmenpcpjbhaaGreatDoor
/-
  Contracts: the document's series: where labels are; series sorted.
-/
namespace Go.Proofs.YtaahmenpcpjbhaaGreatDoor
open Go.GK Go.PL Go.RowKit
set_option maxRecDepth 100000
def LabB (l : List Ser) : Prop := ∀ x ∈ l, x.labels.length ≤ 1000000
theorem rfind_rt (out : List Ser) (ls : List Lb) (n : Nat) (hn : n ≤ out.length) (h1 : ∀ i (h : i < out.length), i < n → out[i].labels ≠ ls) (h2 : ∀ h : n < out.length, out[n].labels = ls) (hl : out.length ≤ 1000000) (hb : LabB out) (hls : ls.length ≤ 1000000) :
    Rt pg 26 [ses out, lbs ls] (gi (if n < out.length then n else -1)) := by
  refine Rt.of pg_ok Tryz.func26 rfl Tryz.ntmps26 rfl Tryz.results26 Tryz.call26 fun H0 S0 w0 h0 g0 => ?_
  have hll : (out.map se).length = out.length := by simp
  refine JK.loop (α := Nat) (fun i => ⟨[(1, lbs ls), (7, ses out), (8, gi (out.map se).length), (9, gi i)], [], 0⟩) (fun i => i ≤ n) (fun i => n - i) 0 id ?_ (Nat.zero_le _) ?_
  · exact ⟨⟨rfl, rfl, rfl, rfl, trivial⟩, trivial, rfl⟩
  · intro i hi
    refine V ?_
    by_cases hlt : i < out.length
    · refine p1 ?_ (decide_eq_true (by omega))
      refine ix (h := ?_)
      have hc := refCompare_rt out[i].labels ls (hb _ (List.getElem_mem hlt)) hls
      by_cases hin : i < n
      · have hne : cmpF out[i].labels ls ≠ 0 := fun e => h1 i hlt hin ((cmpF_is.eq0 _ _).1 e)
        refine GO hc rfl ?_
        refine p2 ?_ (beq_false_of_ne hne)
        exact ⟨i + 1, id, ⟨⟨rfl, rfl, rfl, succ_gi (by omega), trivial⟩, trivial, rfl⟩, hin, by show n - (i + 1) < n - i; omega⟩
      · obtain rfl : i = n := by omega
        have he : cmpF out[i].labels ls = 0 := (cmpF_is.eq0 _ _).2 (h2 hlt)
        refine GO hc rfl ?_
        refine p1 ?_ (beq_iff_eq.2 he)
        exact ⟨by rw [if_pos hlt]; rfl, rfl⟩
    · refine p2 ?_ (decide_eq_false (by omega))
      refine V ?_
      exact ⟨by rw [if_neg (by omega)]; rfl, rfl⟩
theorem rsorted_hf (l : List Ser) (hb : LabB l) (hl : l.length < 274877906944) : Hf pg 29 1 [.o 0] [(0, .row 37 2 (l.map se))] (fun G σ n => G = .o 0 ∧ (∃ l' : List Ser, l'.Perm l ∧ (l'.Pairwise fun x y => ¬ cmpF y.labels x.labels < 0) ∧ σ = [(0, .row 37 2 (l'.map se))]) ∧ n = 1) := by
  obtain ⟨lB, rfl⟩ : ∃ lB : List SerB, lB.map (·.1) = l := ⟨l.pmap (fun x h => ⟨x, h⟩) (fun x hx => hb x hx), by rw [List.map_pmap]; simp⟩
  have hm : ∀ m : List SerB, (m.map (·.1)).map se = m.map seB := fun m => by rw [List.map_map]; rfl
  rw [List.length_map] at hl
  rw [hm]
  refine Hf.weak (Q := fun G σ _ => G = .o 0 ∧ ∃ m : List SerB, m.Perm lB ∧ Srt ltB m ∧ hlook σ 0 = some (.row 37 2 (m.map seB))) (Hf.of pg_ok Tryz.func29 rfl Tryz.ntmps29 rfl Tryz.results29 Tryz.call29 fun H0 S0 w0 h0 g0 => ?_) ?_
  · refine GOH (series_entry (g := 54) lB (fun l' => l'.Perm lB ∧ Srt ltB l') (fun h1 => ⟨.refl _, ?_⟩) (by omega) (stable_hf series_se wo_ltB lB hl)) id rfl rfl ⟨rfl, rfl, trivial⟩ rfl (id_lt rfl) ?_
    · match lB, h1 with
      | [], _ => exact .nil
      | [x], _ => exact List.pairwise_singleton _ _
    · rintro _ _ _ ⟨rfl, ⟨m, ⟨hp, hs⟩, rfl⟩, rfl⟩
      exact ⟨rfl, m, hp, hs, rfl⟩
  · rintro G σ n ⟨rfl, m, hp, hs, h0⟩
    refine ⟨id, .o 0, [(0, .row 37 2 (m.map seB))], 1, ⟨rfl, ⟨m.map (·.1), hp.map _, ?_, by rw [hm]⟩, rfl⟩, rfl, ⟨h0, trivial⟩, rfl⟩
    rw [List.pairwise_map]
    exact hs.imp fun h => of_decide_eq_false h
end Go.Proofs.YtaahmenpcpjbhaaGreatDoor
/-
  Contracts: the document's samples.
-/
namespace Go.Proofs.YtaahmenpcpjbhaaGreatDoor
open Go.GK Go.PL
set_option maxRecDepth 100000
theorem in_ct (n lo hi : Int) : Ct pg 34 0 [gi n, gi lo, gi hi] [] (Val fun g => g = .b (decide (lo ≤ n ∧ n ≤ hi))) := by
  refine Ct.bool (Ct.of_JK pg_ok Tryz.func34 rfl Tryz.ntmps34 rfl Tryz.results34 fun H0 S0 w0 h0 g0 => ?_)
  refine vc_sound pg_ok 200 _ _ ?_
  refine ⟨fun h => ?_, fun h => ?_⟩
  · refine .inr (congrArg GV.b ?_)
    have h' : lo ≤ n := of_decide_eq_true h
    exact decide_eq_decide.2 ⟨fun h => ⟨h', h⟩, fun h => h.2⟩
  · refine .inl (congrArg (fun c => GV.v (.bool c)) ?_)
    have h' : ¬ lo ≤ n := of_decide_eq_false h
    exact (decide_eq_false (fun h => h' h.1)).symm
theorem samples_ct (l : List Sm) (hlen' : l.length ≤ 1000000) : Ct pg 28 0 [.sl 2 (l.map sm)] [] (Val fun g => g = .b (okS l)) := by
  refine Ct.bool (Ct.of_JK pg_ok Tryz.func28 rfl Tryz.ntmps28 rfl Tryz.results28 fun H0 S0 w0 h0 g0 => ?_)
  refine vc_sound pg_ok 200 _ _ ?_
  refine JK.loop (α := Nat) (fun i => ⟨[(0, .sl 2 (l.map sm)), (5, .sl 2 (l.map sm)), (6, gi (l.map sm).length), (7, gi i)], [], 0⟩) (fun i => i ≤ l.length ∧ ∀ j x, j < i → l[j]? = some x → ¬ badAt l j x) (fun i => l.length - i) 0 id ?_ ⟨Nat.zero_le _, fun j x hj => absurd hj (by omega)⟩ ?_
  · exact ⟨⟨rfl, rfl, rfl, rfl, trivial⟩, trivial, rfl⟩
  · rintro i ⟨hi, hgood⟩
    refine vc_sound pg_ok 200 _ _ ?_
    refine ⟨fun hb => ?_, fun hb => ?_⟩
    · have hlt : i < l.length := by simpa using hb
      refine idx i rfl hlt ?_
      have hfalse : badAt l i l[i] → false = okS l := fun hb => by
        cases h : okS l with
        | false => rfl
        | true => exact ((okS_bad l).1 h |>.1 i l[i] (List.getElem?_eq_getElem hlt) hb).elim
      have hnext : ¬ badAt l i l[i] → i + 1 ≤ l.length ∧ ∀ j x, j < i + 1 → l[j]? = some x → ¬ badAt l j x := fun hn => ⟨hlt, fun j x hj hx => by
        rcases Nat.lt_succ_iff_lt_or_eq.1 hj with h1 | h1
        · exact hgood j x h1 hx
        · subst h1
          rw [List.getElem?_eq_getElem hlt] at hx
          cases hx
          exact hn⟩
      have e18 : some (gi (IntKind.i64.wrap (i + 1 : Int))) = some (gi ((i + 1 : Nat) : Int)) := by rw [wrap_id (by omega) (by omega)]; rfl
      refine JK.draw [] pg_ok ?_
      refine RA.run (e := false) pg_ok (by kernel_rfl) (fun _ _ h => h) (tk [0, 1]) (by kernel_rfl) ?_
      refine RA.call (n0 := 0) (r := id) 2 (in_ct l[i].time (-1099511627776) 1099511627776) Tryz.call34 rfl (by kernel_rfl) rfl rfl rfl rfl rfl trivial rfl (by simp) ?_
      rintro g σ' n' ⟨rfl, rfl, rfl⟩
      refine RA.run (e := true) pg_ok (by kernel_rfl) (fun _ _ h => h) (tk [3, 4, 5, 6, 7, 8, 9, 10, 11, 12, 13, 14, 15, 16, 17, 18]) (by kernel_rfl) ?_
      refine ⟨fun ha => ?_, fun ha => ?_⟩
      · have ha' : -1099511627776 ≤ l[i].time ∧ l[i].time ≤ 1099511627776 := by simpa using ha
        refine ⟨fun hd => ?_, fun hd => ?_⟩
        · have hd' : 0 < i := by simpa using hd
          have ew : IntKind.i64.wrap ((i : Int) - 1) = ((i - 1 : Nat) : Int) := by rw [wrap_id (by omega) (by omega)]; omega
          refine idx (i - 1) ew (by omega) ?_
          refine vc_sound pg_ok 200 _ _ ?_
          refine ⟨fun he => ?_, fun he => ?_⟩
          · exact .inl (congrArg (fun c => GV.v (.bool c)) (hfalse (.inr (.inr ⟨hd', _, List.getElem?_eq_getElem (by omega), by simpa using he⟩))))
          · refine ⟨i + 1, id, ⟨⟨rfl, rfl, rfl, e18, trivial⟩, trivial, rfl⟩, hnext ?_, by show l.length - (i + 1) < l.length - i; omega⟩
            rintro (h | h | ⟨_, y, hy, h⟩)
            · omega
            · omega
            · rw [List.getElem?_eq_getElem (by omega)] at hy
              rw [Option.some.injEq] at hy
              rw [← hy] at h
              simp at he
              omega
        · have hd' : ¬ 0 < i := by simpa using hd
          refine vc_sound pg_ok 200 _ _ ?_
          refine ⟨i + 1, id, ⟨⟨rfl, rfl, rfl, e18, trivial⟩, trivial, rfl⟩, hnext ?_, by show l.length - (i + 1) < l.length - i; omega⟩
          rintro (h | h | ⟨h, _⟩)
          · omega
          · omega
          · exact hd' h
      · have ha' : ¬ (-1099511627776 ≤ l[i].time ∧ l[i].time ≤ 1099511627776) := fun h => by
          rw [decide_eq_true h] at ha; cases ha
        refine vc_sound pg_ok 200 _ _ ?_
        refine .inl (congrArg (fun c => GV.v (.bool c)) (hfalse ?_))
        rcases Int.lt_or_le l[i].time (-1099511627776) with h | h
        · exact .inl h
        · exact .inr (.inl (by omega))
    · have hge : i = l.length := by simp at hb; omega
      refine vc_sound pg_ok 200 _ _ ?_
      refine .inr (congrArg GV.b ?_)
      rw [Bool.eq_iff_iff, okS_bad, decide_eq_true_iff, List.length_map]
      exact ⟨fun h => ⟨fun j x hj => hgood j x (by rw [hge]; exact (List.getElem?_eq_some_iff.1 hj).1) hj, by omega⟩, fun h => by omega⟩
/-- What stands ahead of a sample: the one before, and the step before. -/
def Ahead (l : List Sm) (i : Nat) (last : Sm) (step : Int) : Prop :=
  (i = 0 ∧ last = ⟨0, 0⟩ ∧ step = 0) ∨ (i = 1 ∧ l[0]? = some last ∧ step = 0) ∨ ∃ j q, i = j + 2 ∧ l[j + 1]? = some last ∧ l[j]? = some q ∧ step = last.time - q.time
end Go.Proofs.YtaahmenpcpjbhaaGreatDoor
/-
  The ghost machine: an own row is written no more, in a region that draws.
-/
namespace Go.GK
open Go.RowKit
section
variable {cx : Cx} {T : Post}
theorem Sim.freeze {s : St} {H : Hid} {a : Act} {w : World} (id : Nat) {ty sz : Nat} {rows : List (List GV)} (hl : hlook s.σ id = some (.row ty sz rows)) (hg : GlOk cx.pg H) (hs : Sim cx H s w) (ha : ActOk cx H s.ρ a) :
    ∃ ro' : Nat → Option Obj, GlOk cx.pg { H with ro := ro' } ∧ Sim cx { H with ro := ro' } ⟨frzE id sz rows s.ρ, frzH id sz rows (hdel s.σ id), s.n⟩ w ∧ ActOk cx { H with ro := ro' } (frzE id sz rows s.ρ) a := by
  obtain ⟨l1, l2, e1, e2, _⟩ := hlook_split hl
  have hmem := hlook_mem hl
  obtain ⟨xs, hown, hrow⟩ := hs.sat.holds _ hmem
  let ro' : Nat → Option Obj := fun b => if (H.sv id).ownBlock = some b then w.heap[b]? else H.ro b
  have hfree : ∀ b, (H.sv id).ownBlock = some b → H.ro b = none := fun b hb => hs.sat.free b (List.mem_flatMap.2 ⟨_, hmem, by simp [blocks, hb]⟩)
  have hro : ∀ b o, H.ro b = some o → ro' b = some o := by
    intro b o ho
    show (if _ then _ else _) = _
    rw [if_neg (fun hb => by rw [hfree b hb] at ho; cases ho)]
    exact ho
  let H' : Hid := { H with ro := ro' }
  have hle : H.le H' := ⟨Nat.le_refl _, hro, fun _ _ => rfl, fun _ _ => rfl⟩
  have hsl : IsR ro' (.sl sz rows) (H.sv id) := hrow.sl hro hown (fun b hb => by show (if _ then _ else _) = _; rw [if_pos hb])
  have hfz : ∀ {g : GV} {u : Value}, Is H g u → Is H' (frz id sz rows g) u := fun hi => Is.frz (H' := H') hro rfl rfl rfl hsl hi
  have hfr := hs.fr
  have hnd := hs.sat.nodup
  have hbl : blks H' (frzH id sz rows (hdel s.σ id)) = blks H (l1 ++ l2) := by rw [e2]; exact frzH_blks rfl rfl _
  rw [e1, blks_append, blks_cons] at hnd
  have n1 := List.nodup_append.1 hnd
  have n2 := List.nodup_append.1 n1.2.1
  have hin : ∀ b ∈ blks H (l1 ++ l2), b ∈ blks H s.σ := fun b hb => by
    rw [e1, blks_append, blks_cons]
    rw [blks_append] at hb
    rcases List.mem_append.1 hb with h1 | h1 <;> simp [h1]
  have hnin : ∀ b ∈ blks H (l1 ++ l2), (H.sv id).ownBlock ≠ some b := fun b hb hc => by
    have hc' : b ∈ blocks H (id, .row ty sz rows) := by simp [blocks, hc]
    rw [blks_append] at hb
    rcases List.mem_append.1 hb with h1 | h1
    · exact n1.2.2 b h1 b (by simp [hc']) rfl
    · exact n2.2.2 b hc' b h1 rfl
  refine ⟨ro', fun g gv hgv => (hg g gv hgv).mono hro, ⟨hs.n, ⟨fun b o ho => ?_, fun x hx => ?_, ?_, fun b hb => ?_, fun x hx => ?_⟩, ?_⟩, ⟨fun t g hlk => ?_, ha.size, ha.defers⟩⟩
  · have ho' : (if (H.sv id).ownBlock = some b then w.heap[b]? else H.ro b) = some o := ho
    split at ho'
    · exact ho'
    · exact hs.sat.ro b o ho'
  · obtain ⟨y, hy, rfl⟩ := frzH_mem hx
    rw [e2] at hy
    have hy' : y ∈ s.σ := by
      rw [e1]
      rcases List.mem_append.1 hy with h1 | h1 <;> simp [h1]
    have hh := hs.sat.holds y hy'
    obtain ⟨j, r⟩ := y
    cases r with
    | blk ty cs =>
      obtain ⟨us, hw, hlen, hi⟩ := hh
      refine ⟨us, hw, by rw [frzL_len]; exact hlen, fun j g hj => ?_⟩
      rw [frzL_get] at hj
      cases hc : cs[j]? with
      | none => rw [hc] at hj; cases hj
      | some x => rw [hc] at hj; simp at hj; subst hj; exact hfz (hi j x hc)
    | row ty z rs => obtain ⟨ys, h1, h2⟩ := hh; exact ⟨ys, h1, h2.mono hro⟩
    | ob o => exact hh
    | ln z n => exact hh
    | sub i z lo n => exact hh
    | mp kd es =>
      obtain ⟨b, arr, clock, h1, h2, h3⟩ := hh
      exact ⟨b, arr, clock, h1, h2, h3.frz hfz⟩
    | mr kd es left cur =>
      obtain ⟨b, arr, clock, seen, h1, h2, h3, h4, h5⟩ := hh
      exact ⟨b, arr, clock, seen, h1, h2, h3, h4.frz hfz, h5⟩
    | itr m => exact hh
    | me kd es k st =>
      obtain ⟨h0, b, arr, clock, h1, h2, h3, h4⟩ := hh
      exact ⟨h0, b, arr, clock, h1, h2, h3.frz hfz, h4⟩
    | ab A => exact A.mono _ _ _ _ _ hro hh
    | mre kd es left cur k st =>
      obtain ⟨h0, b, arr, clock, seen, h1, h2, h3, h4, h5⟩ := hh
      exact ⟨h0, b, arr, clock, seen, h1, h2, h3, h4.frz hfz, h5⟩
  · rw [hbl, blks_append]
    exact List.nodup_append.2 ⟨n1.1, n2.2.1, fun b hb c hc e => n1.2.2 b hb c (by simp [hc]) e⟩
  · rw [hbl] at hb
    show (if _ then _ else _) = _
    rw [if_neg (hnin b hb)]
    exact hs.sat.free b (hin b hb)
  · obtain ⟨y, hy, rfl⟩ := frzH_mem hx
    rw [e2] at hy
    refine hs.sat.ids y ?_
    rw [e1]
    rcases List.mem_append.1 hy with h1 | h1 <;> simp [h1]
  · refine ⟨hfr.os, hfr.tape, hfr.output, hfr.size, hfr.keep, fun b hb => ?_, fun b h1 h2 => ?_, hfr.le.trans hle⟩
    · rw [hbl] at hb
      exact hfr.own b (hin b hb)
    · have h2' : (if (H.sv id).ownBlock = some b then w.heap[b]? else H.ro b) ≠ none := h2
      split at h2'
      · rename_i hb
        exact hfr.own b (List.mem_flatMap.2 ⟨_, hmem, by simp [blocks, hb]⟩)
      · exact hfr.fro b h1 h2'
  · rw [frzE_look] at hlk
    cases hc : look s.ρ t with
    | none => rw [hc] at hlk; cases hlk
    | some x => rw [hc] at hlk; simp at hlk; subst hlk; exact hfz (ha.env t x hc)
/-- .. in a region that draws. -/
theorem RA.freeze {ops : List Oper} {k : List It} {σs : Heap} {ρq : Env} {fuel : Nat} {listed : List Bool} {s : St} (id : Nat) {ty sz : Nat} {rows : List (List GV)} (hl : hlook s.σ id = some (.row ty sz rows))
    (h : nfH (frzH id sz rows (hdel s.σ id)) fun σ => nfE (frzE id sz rows s.ρ) fun ρ => RA cx T ops k σs ρq fuel listed ⟨ρ, σ, s.n⟩) : RA cx T ops k σs ρq fuel listed s := by
  rw [nfH_eq, nfE_eq] at h
  intro n0 H0 S0 w0 h0 g0 hσ hap hfree hlink H a w hs ha hq
  have hg : GlOk cx.pg H := cx.g0.mono (hlink H s w hs).fr.le
  obtain ⟨ro', _, hs', ha'⟩ := Sim.freeze (cx := ⟨cx.pg, cx.N, n0, H0, S0, w0, h0, g0⟩) id hl hg hs ⟨ha.env, ha.size, ha.defers⟩
  exact h n0 H0 S0 w0 h0 g0 hσ hap hfree hlink { H with ro := ro' } a w hs' ⟨ha'.env, ha'.size, ha'.defers⟩ hq
end
end Go.GK
/-
  The ghost machine: a region that draws its order: three operations may come up at once.
-/
namespace Go.GK
open Go.RowKit
section
variable {cx : Cx} {T : Post}
theorem RA.three {ops : List Oper} {k : List It} {σs : Heap} {ρq : Env} {fuel : Nat} {listed : List Bool} {s : St} (i j l : Nat) {oi oj ol : Oper} (hr : Region.ready .any ops.toArray listed.toArray = [i, j, l])
    (hi : Stp cx T ops k σs ρq fuel listed s i oi) (hj : Stp cx T ops k σs ρq fuel listed s j oj) (hl : Stp cx T ops k σs ρq fuel listed s l ol) : RA cx T ops k σs ρq (fuel + 1) listed s := by
  have one : ∀ {q : Nat} {o : Oper}, Stp cx T ops k σs ρq fuel listed s q o → ∀ (n0 : Nat) (H0 : Hid) (S0 : List Nat) (w0 : World) (h0 : H0.n = n0) (g0 : GlOk cx.pg H0), Sat H0 σs w0 → (∀ b ∈ blks H0 σs, b ∉ S0) → (∀ b ∈ S0, H0.ro b = none) →
      (∀ H s' w', Sim ⟨cx.pg, cx.N, n0, H0, S0, w0, h0, g0⟩ H s' w' → Sim cx H ⟨s'.ρ, s'.σ ++ σs, s'.n⟩ w') →
      ∀ H a w, Sim ⟨cx.pg, cx.N, n0, H0, S0, w0, h0, g0⟩ H s w → ActOk cx H s.ρ a → EnvOk (H.at H0.ro) ρq a →
      wpOp cx.pg.P ops.toArray (cont cx.pg.P (post cx T) k) q (fun a w => Held S0 w0 w ∧ wpAnyH cx.pg.P .any ops.toArray (cont cx.pg.P (post cx T) k) (Held S0 w0) fuel (listed.toArray.setIfInBounds q true) a w) a w := by
    intro q o hst n0 H0 S0 w0 h0 g0 hσ hap hfree hlink H a w hs ha hq
    obtain ⟨hq', hgd, h⟩ := hst
    unfold wpOp
    have hi' : ops.toArray[q]? = some o := by simpa using hq'
    rw [hi']
    simp only
    have hw := gdOk_wanted (o := o) ha.env hgd
    rw [if_pos hw]
    refine .inl (h n0 H0 S0 w0 h0 g0 H a w _ _ (g0.mono hs.fr.le) hs ha (hlink H s w hs).sat fun H' u g w' s' ρ' hle hi hs' ha' hd hra => ?_)
    rw [set_list]
    refine ⟨hs'.keeps, hra n0 H0 S0 w0 h0 g0 hσ hap hfree hlink H' (a.put o.dst u) w' hs' ha' ?_⟩
    exact EnvOk.at_put (H := H) hq hle (fun d hdd => by rw [ha.size]; exact hd d hdd) hi
  intro n0 H0 S0 w0 h0 g0 hσ hap hfree hlink H a w hs ha hq
  refine wpAnyH_all hr (by simp) (fun q hq' => ?_)
  rcases List.mem_cons.1 hq' with rfl | hq'
  · exact one hi n0 H0 S0 w0 h0 g0 hσ hap hfree hlink H a w hs ha hq
  rcases List.mem_cons.1 hq' with rfl | hq'
  · exact one hj n0 H0 S0 w0 h0 g0 hσ hap hfree hlink H a w hs ha hq
  · obtain rfl := List.mem_singleton.1 hq'
    exact one hl n0 H0 S0 w0 h0 g0 hσ hap hfree hlink H a w hs ha hq
end
end Go.GK
/-
  Contracts: the document's head: what comes.
-/
namespace Go.Proofs.YtaahmenpcpjbhaaGreatDoor
open Go.GK Go.PL Go.RowKit
set_option maxRecDepth 100000
abbrev rhd (mk : Int) (S : List Ser) : List GV := [gi mk, ses S]
theorem bare_rt (e : Int) : Rt pg 25 [gi e] (.agg [gi e, gi (-1)]) := by
  refine Rt.of pg_ok Tryz.func25 rfl Tryz.ntmps25 rfl Tryz.results25 Tryz.call25 fun H0 S0 w0 h0 g0 => ?_
  exact ⟨rfl, rfl⟩
def WL (l : List Lb) : Prop := l.length ≤ 100000 ∧ ∀ x ∈ l, x.name.size < 4611686018427387904 ∧ x.value.size < 4611686018427387904
set_option maxHeartbeats 8000000 in
theorem rhapp_rt (mk : Int) (S l : List Ser) (hS : HOk S) (hl : l.length ≤ 100000) (hx : ∀ x ∈ l, WL x.labels ∧ x.samples.length ≤ 100000) :
    Rt pg 6 [.agg (rhd mk S), ses l] (.tup [.agg (rhd mk (headF mk S l).2), .agg [gi (headF mk S l).1.1, gi (headF mk S l).1.2]]) := by
  refine Rt.of pg_ok Tryz.func6 rfl Tryz.ntmps6 rfl Tryz.results6 Tryz.call6 fun H0 S0 w0 h0 g0 => ?_
  have hll : (l.map se).length = l.length := by simp
  refine FZB 0 rfl rfl ?_
  refine JK.loopE (α := Nat) (β := Unit) (fun i => ⟨[(1, ses l), (2, .r (rhd mk S)), (4, .p 1 0), (5, .p 2 0), (6, gi (tot (l.take i))), (14, ses l), (15, gi (l.map se).length), (16, gi i)], [(1, .blk 27 [gi 0, .v (.slice none 0 0)]), (2, .blk 40 [gi 0, gi 0])], 3⟩) (fun i => i ≤ l.length ∧ tot (l.take i) ≤ 40) (fun i => l.length - i)
    (fun _ => ⟨[(1, ses l), (2, .r (rhd mk S)), (4, .p 1 0), (5, .p 2 0)], [(1, .blk 27 [gi 0, .v (.slice none 0 0)]), (2, .blk 40 [gi 0, gi 0])], 3⟩) (fun _ => tot l ≤ 40) 0 id ?_ ⟨Nat.zero_le _, by simp [tot]⟩ ?_ ?_
  · exact ⟨⟨rfl, rfl, rfl, rfl, rfl, rfl, rfl, rfl, trivial⟩, ⟨rfl, rfl, trivial⟩, rfl⟩
  · rintro i ⟨hi, ht⟩
    refine V ?_
    by_cases hlt : i < l.length
    · have hst := tot_snoc l i hlt
      have hle := tot_take l (i + 1)
      have hxs := hx l[i] (List.getElem_mem hlt)
      have hsl : (l[i].samples.map sm).length = l[i].samples.length := by simp
      refine p1 ?_ (decide_eq_true (by omega))
      refine ix (h := ?_)
      by_cases h40 : 40 < tot (l.take (i + 1))
      · refine p1 ?_ (decide_eq_true (by rw [wrap_id (by omega) (by omega)]; omega))
        have e : headF mk S l = ((4, -1), S) := by unfold headF; rw [if_pos (by omega)]
        rw [e]
        refine DRAW [1, 2] false (tk [0]) (by kernel_rfl) ?_
        refine RGO 1 true (al [2, 3]) (bare_rt 4) rfl rfl (by kernel_rfl) ?_
        refine V ?_
        exact ⟨⟨rfl, rfl, trivial⟩, rfl⟩
      · refine p2 ?_ (decide_eq_false (by rw [wrap_id (by omega) (by omega)]; omega))
        refine ⟨i + 1, id, ⟨⟨rfl, rfl, rfl, rfl, ?_, rfl, rfl, succ_gi (by omega), trivial⟩, ⟨rfl, rfl, trivial⟩, rfl⟩, ⟨hlt, by omega⟩, by show l.length - (i + 1) < l.length - i; omega⟩
        exact congrArg (fun i => some (gi i)) (by rw [wrap_id (by omega) (by omega)]; omega)
    · refine p2 ?_ (decide_eq_false (by omega))
      obtain rfl : i = l.length := by omega
      rw [List.take_length] at ht
      exact ⟨(), id, ⟨⟨rfl, rfl, rfl, rfl, trivial⟩, ⟨rfl, rfl, trivial⟩, rfl⟩, ht⟩
  · rintro _ ht
    refine V ?_
    have hb1 := hS.len
    have hap : (([] : List GV).length + (S.map se).length) * 48 ≤ 140737488355328 := by simp only [List.length_nil, List.length_map]; omega
    refine JK.drawJ [] ⟨[(1, ses l), (2, .r (rhd mk S)), (4, .p 1 0), (5, .p 2 0), (9, .p 3 0)], [(3, .blk 27 [gi mk, .o 4]), (4, .row 37 2 (S.map se)), (1, .blk 27 [gi 0, .v (.slice none 0 0)]), (2, .blk 40 [gi 0, gi 0])], 5⟩ pg_ok ?_ (fun hk => ?_)
    · refine V ?_
      have hH : headF mk S l = match tryH mk S l 0 with | none => ((0, -1), l.foldl addL S) | some (e, i) => ((e, (i : Int)), S) := by unfold headF; rw [if_neg (by omega)]; rfl
      refine JK.loop (α := Nat) (fun i => ⟨[(2, .r (rhd mk S)), (4, .p 1 0), (5, .p 2 0), (9, .p 3 0), (37, ses l), (38, gi (l.map se).length), (39, gi i)], [(3, .blk 27 [gi mk, .o 4]), (4, .row 37 2 (((l.take i).foldl addL S).map se)), (1, .blk 27 [gi 0, .v (.slice none 0 0)]), (2, .blk 40 [gi 0, gi 0])], 5⟩)
        (fun i => i ≤ l.length ∧ HOk ((l.take i).foldl addL S) ∧ tryH mk S l 0 = tryH mk ((l.take i).foldl addL S) (l.drop i) i) (fun i => l.length - i) 0 id ?_ ⟨Nat.zero_le _, hS, rfl⟩ ?_
      · exact ⟨⟨rfl, rfl, rfl, rfl, rfl, rfl, rfl, trivial⟩, ⟨rfl, rfl, rfl, rfl, trivial⟩, rfl⟩
      · rintro i ⟨hi, hA, hT⟩
        refine V ?_
        by_cases hlt : i < l.length
        · obtain ⟨⟨hw1, hw2⟩, hw3⟩ := hx l[i] (List.getElem_mem hlt)
          have hat := tryH_at hlt hT
          have hfo : (l.take (i + 1)).foldl addL S = addL ((l.take i).foldl addL S) l[i] := by rw [List.take_succ_eq_append_getElem hlt, List.foldl_append]; rfl
          generalize (l.take i).foldl addL S = A at hA hT hat hfo ⊢
          have fin : ∀ c, errH mk A l[i] = c → c ≠ 0 → headF mk S l = ((c, (i : Int)), S) := fun c hc h0 => by
            rw [hat.2 (by rw [hc]; exact h0), hc] at hH
            exact hH
          have hAl : (A.map se).length = A.length := by simp
          have hsl : (l[i].samples.map sm).length = l[i].samples.length := by simp
          have hlA := hA.len
          have hLB : LabB A := fun x hx => by have := (right_small (hA.each x hx).1).1; omega
          have hr1 := labelsW_rt l[i].labels (by omega) hw2
          have hr2 := Rq.old Tryz.call28 (samples_ct l[i].samples (by omega))
          refine p1 ?_ (decide_eq_true (by omega))
          refine ix (h := ?_)
          refine FZB 5 rfl rfl ?_
          cases ha : atL l[i].labels A with
          | none =>
            have hne : ∀ j (h : j < A.length), j < A.length → A[j].labels ≠ l[i].labels := fun j h _ e => by
              have h0 : cmpF A[j].labels l[i].labels = 0 := (cmpF_is.eq0 _ _).2 e
              rcases Nat.lt_trichotomy j (posL l[i].labels A) with hi' | hi' | hi'
              · have := posL_lt l[i].labels A j h hi'; omega
              · have := atL_none ha (by omega)
                simp only [← hi'] at this
                exact this h0
              · have hn : posL l[i].labels A < A.length := by omega
                have hp : cmpF A[posL l[i].labels A].labels A[j].labels < 0 := List.pairwise_iff_getElem.1 hA.ris _ _ hn h hi'
                rw [e] at hp
                exact posL_at l[i].labels A hn hp
            have hf := rfind_rt A l[i].labels A.length (Nat.le_refl _) hne (fun h => absurd h (Nat.lt_irrefl _)) (by omega) hLB (by omega)
            rw [if_neg (Nat.lt_irrefl _)] at hf
            refine GOB hf rfl ⟨⟨rfl, rfl⟩, ⟨rfl, rfl⟩, trivial⟩ ?_
            rcases tf (rightF l[i].labels) with h1 | h1
            · refine GO (hr1.bt h1) rfl ?_
              rcases tf (okS l[i].samples) with h2 | h2
              · refine GO (hr2.bt h2) rfl ?_
                by_cases h3 : l[i].samples.length = 0
                · refine p1 ?_ (beq_iff_eq.2 (by omega))
                  rw [fin _ (errH_3 h3) (by decide)]
                  repeat (first | refine p1 ?_ | refine p2 ?_ | refine p3 ?_ | refine p4 ?_)
                  exact ⟨⟨rfl, rfl, trivial⟩, rfl⟩
                · refine p2 ?_ (beq_false_of_ne (by omega))
                  have he := errH_go (mk := mk) (S := A) h1 h2 h3
                  have hfT := firstT_at (s := l[i].samples) (by omega)
                  rw [ha] at he
                  refine ⟨by kernel_rfl, ?_⟩
                  refine idx 0 rfl (by omega) ?_
                  by_cases h4 : firstT l[i].samples ≤ mk
                  · refine p1 ?_ (decide_eq_true (by rw [← hfT]; exact h4))
                    rw [if_pos h4] at he
                    rw [fin _ (he) (by decide)]
                    repeat (first | refine p1 ?_ | refine p2 ?_ | refine p3 ?_ | refine p4 ?_)
                    exact ⟨⟨rfl, rfl, trivial⟩, rfl⟩
                  · refine p2 ?_ (decide_eq_false (by rw [← hfT]; exact h4))
                    rw [if_neg h4] at he
                    simp only at he
                    repeat (first | refine p1 ?_ | refine p2 ?_ | refine p3 ?_ | refine p4 ?_)
                    by_cases h5 : 60 ≤ A.length
                    · refine p1 ?_ (decide_eq_true (by omega))
                      rw [if_pos h5] at he
                      rw [fin _ (he) (by decide)]
                      repeat (first | refine p1 ?_ | refine p2 ?_ | refine p3 ?_ | refine p4 ?_)
                      exact ⟨⟨rfl, rfl, trivial⟩, rfl⟩
                    · refine p2 ?_ (decide_eq_false (by omega))
                      rw [if_neg h5] at he
                      refine ⟨by kernel_rfl, ?_⟩
                      repeat (first | refine p1 ?_ | refine p2 ?_ | refine p3 ?_ | refine p4 ?_)
                      refine ⟨by kernel_rfl, ?_⟩
                      repeat (first | refine p1 ?_ | refine p2 ?_ | refine p3 ?_ | refine p4 ?_)
                      have hso := rsorted_hf (A ++ [l[i]]) (fun x hx => by
                        rcases List.mem_append.1 hx with h | h
                        · exact hLB x h
                        · rw [List.mem_singleton.1 h]; omega) (by simp; omega)
                      rw [List.map_append] at hso
                      refine JK.drawJ [3, 4] ⟨[(2, .r (rhd mk S)), (4, .p 1 0), (5, .p 2 0), (9, .p 3 0), (37, ses l), (38, gi (l.map se).length), (39, gi i)], [(3, .blk 27 [gi mk, .o 4]), (4, .row 37 2 ((addL A l[i]).map se)), (1, .blk 27 [gi 0, .v (.slice none 0 0)]), (2, .blk 40 [gi 0, gi 0])], 5⟩ pg_ok ?_ (fun hk => ?_)
                      · refine V ?_
                        refine ⟨i + 1, id, ⟨⟨rfl, rfl, rfl, rfl, rfl, rfl, succ_gi (by omega), trivial⟩, ⟨rfl, ?_, rfl, rfl, trivial⟩, rfl⟩, ⟨hlt, by rw [hfo]; exact errH_add hA he, hat.1 he⟩, by show l.length - (i + 1) < l.length - i; omega⟩
                        rw [hfo]
                        rfl
                      · refine RA.run (cx := ⟨pg, _, _, _, _, _, _, _⟩) pg_ok (by kernel_rfl) (by intro _ _ h; exact h) (tk [0, 3, 4, 7, 8]) (e := false) (by kernel_rfl) ?_
                        refine RA.three 1 2 6 (eqB_eq (by kernel_rfl)) (Stp.read 1 pg_ok rfl rfl ?_) (Stp.mem 2 pg_ok rfl rfl rfl ?_) (Stp.mem 6 pg_ok rfl rfl rfl ?_)
                        · refine RA.both 2 6 (eqB_eq (by kernel_rfl)) (Stp.mem 2 pg_ok rfl rfl rfl ?_) (Stp.mem 6 pg_ok rfl rfl rfl ?_)
                          · refine RA.both 5 6 (eqB_eq (by kernel_rfl)) (Stp.mem 5 pg_ok rfl rfl rfl ?_) (Stp.mem 6 pg_ok rfl rfl rfl ?_)
                            · refine ⟨by simp <;> omega, ?_⟩
                              refine RA.freeze 7 rfl ?_
                              refine RA.run (cx := ⟨pg, _, _, _, _, _, _, _⟩) pg_ok (by kernel_rfl) (by intro _ _ h; exact h) (al [6]) (e := false) (by kernel_rfl) ?_
                              refine RA.run (cx := ⟨pg, _, _, _, _, _, _, _⟩) pg_ok (by kernel_rfl) (by intro _ _ h; exact h) (al [9]) (e := false) (by kernel_rfl) ?_
                              refine ⟨by simp <;> omega, ?_⟩
                              refine RA.freeze 9 rfl ?_
                              refine RA.run (cx := ⟨pg, _, _, _, _, _, _, _⟩) pg_ok (by kernel_rfl) (by intro _ _ h; exact h) (al [10]) (e := false) (by kernel_rfl) ?_
                              refine RA.run (cx := ⟨pg, _, _, _, _, _, _, _⟩) pg_ok (by kernel_rfl) (by intro _ _ h; exact h) (al [11]) (e := false) (by kernel_rfl) ?_
                              refine RA.run (cx := ⟨pg, _, _, _, _, _, _, _⟩) pg_ok (by kernel_rfl) (by intro _ _ h; exact h) (al [12]) (e := false) (by kernel_rfl) ?_
                              refine ⟨by simp <;> omega, ?_⟩
                              refine RGOH 13 false (tk [14] ++ al [15]) hso (r1 0 11) rfl rfl rfl ⟨rfl, trivial⟩ rfl (r1_lt rfl) (by kernel_rfl) ?_
                              rintro _ _ _ ⟨rfl, ⟨l', hp, hs, rfl⟩, rfl⟩
                              obtain rfl := addL_sorted hA.ris ha hp hs
                              refine RA.endJ (r1 4 11) (by kernel_rfl) hk ⟨⟨rfl, rfl, rfl, rfl, rfl, rfl, rfl, trivial⟩, ⟨rfl, rfl, rfl, rfl, trivial⟩, rfl⟩
                            · refine RA.run (cx := ⟨pg, _, _, _, _, _, _, _⟩) pg_ok (by kernel_rfl) (by intro _ _ h; exact h) (al [5]) (e := false) (by kernel_rfl) ?_
                              refine ⟨by simp <;> omega, ?_⟩
                              refine RA.freeze 8 rfl ?_
                              refine RA.run (cx := ⟨pg, _, _, _, _, _, _, _⟩) pg_ok (by kernel_rfl) (by intro _ _ h; exact h) (al [9]) (e := false) (by kernel_rfl) ?_
                              refine ⟨by simp <;> omega, ?_⟩
                              refine RA.freeze 9 rfl ?_
                              refine RA.run (cx := ⟨pg, _, _, _, _, _, _, _⟩) pg_ok (by kernel_rfl) (by intro _ _ h; exact h) (al [10]) (e := false) (by kernel_rfl) ?_
                              refine RA.run (cx := ⟨pg, _, _, _, _, _, _, _⟩) pg_ok (by kernel_rfl) (by intro _ _ h; exact h) (al [11]) (e := false) (by kernel_rfl) ?_
                              refine RA.run (cx := ⟨pg, _, _, _, _, _, _, _⟩) pg_ok (by kernel_rfl) (by intro _ _ h; exact h) (al [12]) (e := false) (by kernel_rfl) ?_
                              refine ⟨by simp <;> omega, ?_⟩
                              refine RGOH 13 false (tk [14] ++ al [15]) hso (r1 0 11) rfl rfl rfl ⟨rfl, trivial⟩ rfl (r1_lt rfl) (by kernel_rfl) ?_
                              rintro _ _ _ ⟨rfl, ⟨l', hp, hs, rfl⟩, rfl⟩
                              obtain rfl := addL_sorted hA.ris ha hp hs
                              refine RA.endJ (r1 4 11) (by kernel_rfl) hk ⟨⟨rfl, rfl, rfl, rfl, rfl, rfl, rfl, trivial⟩, ⟨rfl, rfl, rfl, rfl, trivial⟩, rfl⟩
                          · refine RA.run (cx := ⟨pg, _, _, _, _, _, _, _⟩) pg_ok (by kernel_rfl) (by intro _ _ h; exact h) (al [2]) (e := false) (by kernel_rfl) ?_
                            refine RA.run (cx := ⟨pg, _, _, _, _, _, _, _⟩) pg_ok (by kernel_rfl) (by intro _ _ h; exact h) (al [5]) (e := false) (by kernel_rfl) ?_
                            refine ⟨by simp <;> omega, ?_⟩
                            refine RA.freeze 8 rfl ?_
                            refine RA.run (cx := ⟨pg, _, _, _, _, _, _, _⟩) pg_ok (by kernel_rfl) (by intro _ _ h; exact h) (al [9]) (e := false) (by kernel_rfl) ?_
                            refine ⟨by simp <;> omega, ?_⟩
                            refine RA.freeze 9 rfl ?_
                            refine RA.run (cx := ⟨pg, _, _, _, _, _, _, _⟩) pg_ok (by kernel_rfl) (by intro _ _ h; exact h) (al [10]) (e := false) (by kernel_rfl) ?_
                            refine RA.run (cx := ⟨pg, _, _, _, _, _, _, _⟩) pg_ok (by kernel_rfl) (by intro _ _ h; exact h) (al [11]) (e := false) (by kernel_rfl) ?_
                            refine RA.run (cx := ⟨pg, _, _, _, _, _, _, _⟩) pg_ok (by kernel_rfl) (by intro _ _ h; exact h) (al [12]) (e := false) (by kernel_rfl) ?_
                            refine ⟨by simp <;> omega, ?_⟩
                            refine RGOH 13 false (tk [14] ++ al [15]) hso (r1 0 11) rfl rfl rfl ⟨rfl, trivial⟩ rfl (r1_lt rfl) (by kernel_rfl) ?_
                            rintro _ _ _ ⟨rfl, ⟨l', hp, hs, rfl⟩, rfl⟩
                            obtain rfl := addL_sorted hA.ris ha hp hs
                            refine RA.endJ (r1 4 11) (by kernel_rfl) hk ⟨⟨rfl, rfl, rfl, rfl, rfl, rfl, rfl, trivial⟩, ⟨rfl, rfl, rfl, rfl, trivial⟩, rfl⟩
                        · refine RA.three 1 5 6 (eqB_eq (by kernel_rfl)) (Stp.read 1 pg_ok rfl rfl ?_) (Stp.mem 5 pg_ok rfl rfl rfl ?_) (Stp.mem 6 pg_ok rfl rfl rfl ?_)
                          · refine RA.both 5 6 (eqB_eq (by kernel_rfl)) (Stp.mem 5 pg_ok rfl rfl rfl ?_) (Stp.mem 6 pg_ok rfl rfl rfl ?_)
                            · refine ⟨by simp <;> omega, ?_⟩
                              refine RA.freeze 7 rfl ?_
                              refine RA.run (cx := ⟨pg, _, _, _, _, _, _, _⟩) pg_ok (by kernel_rfl) (by intro _ _ h; exact h) (al [6]) (e := false) (by kernel_rfl) ?_
                              refine RA.run (cx := ⟨pg, _, _, _, _, _, _, _⟩) pg_ok (by kernel_rfl) (by intro _ _ h; exact h) (al [9]) (e := false) (by kernel_rfl) ?_
                              refine ⟨by simp <;> omega, ?_⟩
                              refine RA.freeze 9 rfl ?_
                              refine RA.run (cx := ⟨pg, _, _, _, _, _, _, _⟩) pg_ok (by kernel_rfl) (by intro _ _ h; exact h) (al [10]) (e := false) (by kernel_rfl) ?_
                              refine RA.run (cx := ⟨pg, _, _, _, _, _, _, _⟩) pg_ok (by kernel_rfl) (by intro _ _ h; exact h) (al [11]) (e := false) (by kernel_rfl) ?_
                              refine RA.run (cx := ⟨pg, _, _, _, _, _, _, _⟩) pg_ok (by kernel_rfl) (by intro _ _ h; exact h) (al [12]) (e := false) (by kernel_rfl) ?_
                              refine ⟨by simp <;> omega, ?_⟩
                              refine RGOH 13 false (tk [14] ++ al [15]) hso (r1 0 11) rfl rfl rfl ⟨rfl, trivial⟩ rfl (r1_lt rfl) (by kernel_rfl) ?_
                              rintro _ _ _ ⟨rfl, ⟨l', hp, hs, rfl⟩, rfl⟩
                              obtain rfl := addL_sorted hA.ris ha hp hs
                              refine RA.endJ (r1 4 11) (by kernel_rfl) hk ⟨⟨rfl, rfl, rfl, rfl, rfl, rfl, rfl, trivial⟩, ⟨rfl, rfl, rfl, rfl, trivial⟩, rfl⟩
                            · refine RA.run (cx := ⟨pg, _, _, _, _, _, _, _⟩) pg_ok (by kernel_rfl) (by intro _ _ h; exact h) (al [5]) (e := false) (by kernel_rfl) ?_
                              refine ⟨by simp <;> omega, ?_⟩
                              refine RA.freeze 8 rfl ?_
                              refine RA.run (cx := ⟨pg, _, _, _, _, _, _, _⟩) pg_ok (by kernel_rfl) (by intro _ _ h; exact h) (al [9]) (e := false) (by kernel_rfl) ?_
                              refine ⟨by simp <;> omega, ?_⟩
                              refine RA.freeze 9 rfl ?_
                              refine RA.run (cx := ⟨pg, _, _, _, _, _, _, _⟩) pg_ok (by kernel_rfl) (by intro _ _ h; exact h) (al [10]) (e := false) (by kernel_rfl) ?_
                              refine RA.run (cx := ⟨pg, _, _, _, _, _, _, _⟩) pg_ok (by kernel_rfl) (by intro _ _ h; exact h) (al [11]) (e := false) (by kernel_rfl) ?_
                              refine RA.run (cx := ⟨pg, _, _, _, _, _, _, _⟩) pg_ok (by kernel_rfl) (by intro _ _ h; exact h) (al [12]) (e := false) (by kernel_rfl) ?_
                              refine ⟨by simp <;> omega, ?_⟩
                              refine RGOH 13 false (tk [14] ++ al [15]) hso (r1 0 11) rfl rfl rfl ⟨rfl, trivial⟩ rfl (r1_lt rfl) (by kernel_rfl) ?_
                              rintro _ _ _ ⟨rfl, ⟨l', hp, hs, rfl⟩, rfl⟩
                              obtain rfl := addL_sorted hA.ris ha hp hs
                              refine RA.endJ (r1 4 11) (by kernel_rfl) hk ⟨⟨rfl, rfl, rfl, rfl, rfl, rfl, rfl, trivial⟩, ⟨rfl, rfl, rfl, rfl, trivial⟩, rfl⟩
                          · refine ⟨by simp <;> omega, ?_⟩
                            refine RA.freeze 7 rfl ?_
                            refine RA.both 1 6 (eqB_eq (by kernel_rfl)) (Stp.read 1 pg_ok rfl rfl ?_) (Stp.mem 6 pg_ok rfl rfl rfl ?_)
                            · refine RA.run (cx := ⟨pg, _, _, _, _, _, _, _⟩) pg_ok (by kernel_rfl) (by intro _ _ h; exact h) (al [6]) (e := false) (by kernel_rfl) ?_
                              refine RA.run (cx := ⟨pg, _, _, _, _, _, _, _⟩) pg_ok (by kernel_rfl) (by intro _ _ h; exact h) (al [9]) (e := false) (by kernel_rfl) ?_
                              refine ⟨by simp <;> omega, ?_⟩
                              refine RA.freeze 9 rfl ?_
                              refine RA.run (cx := ⟨pg, _, _, _, _, _, _, _⟩) pg_ok (by kernel_rfl) (by intro _ _ h; exact h) (al [10]) (e := false) (by kernel_rfl) ?_
                              refine RA.run (cx := ⟨pg, _, _, _, _, _, _, _⟩) pg_ok (by kernel_rfl) (by intro _ _ h; exact h) (al [11]) (e := false) (by kernel_rfl) ?_
                              refine RA.run (cx := ⟨pg, _, _, _, _, _, _, _⟩) pg_ok (by kernel_rfl) (by intro _ _ h; exact h) (al [12]) (e := false) (by kernel_rfl) ?_
                              refine ⟨by simp <;> omega, ?_⟩
                              refine RGOH 13 false (tk [14] ++ al [15]) hso (r1 0 11) rfl rfl rfl ⟨rfl, trivial⟩ rfl (r1_lt rfl) (by kernel_rfl) ?_
                              rintro _ _ _ ⟨rfl, ⟨l', hp, hs, rfl⟩, rfl⟩
                              obtain rfl := addL_sorted hA.ris ha hp hs
                              refine RA.endJ (r1 4 11) (by kernel_rfl) hk ⟨⟨rfl, rfl, rfl, rfl, rfl, rfl, rfl, trivial⟩, ⟨rfl, rfl, rfl, rfl, trivial⟩, rfl⟩
                            · refine RA.both 1 9 (eqB_eq (by kernel_rfl)) (Stp.read 1 pg_ok rfl rfl ?_) (Stp.mem 9 pg_ok rfl rfl rfl ?_)
                              · refine RA.run (cx := ⟨pg, _, _, _, _, _, _, _⟩) pg_ok (by kernel_rfl) (by intro _ _ h; exact h) (al [9]) (e := false) (by kernel_rfl) ?_
                                refine ⟨by simp <;> omega, ?_⟩
                                refine RA.freeze 9 rfl ?_
                                refine RA.run (cx := ⟨pg, _, _, _, _, _, _, _⟩) pg_ok (by kernel_rfl) (by intro _ _ h; exact h) (al [10]) (e := false) (by kernel_rfl) ?_
                                refine RA.run (cx := ⟨pg, _, _, _, _, _, _, _⟩) pg_ok (by kernel_rfl) (by intro _ _ h; exact h) (al [11]) (e := false) (by kernel_rfl) ?_
                                refine RA.run (cx := ⟨pg, _, _, _, _, _, _, _⟩) pg_ok (by kernel_rfl) (by intro _ _ h; exact h) (al [12]) (e := false) (by kernel_rfl) ?_
                                refine ⟨by simp <;> omega, ?_⟩
                                refine RGOH 13 false (tk [14] ++ al [15]) hso (r1 0 11) rfl rfl rfl ⟨rfl, trivial⟩ rfl (r1_lt rfl) (by kernel_rfl) ?_
                                rintro _ _ _ ⟨rfl, ⟨l', hp, hs, rfl⟩, rfl⟩
                                obtain rfl := addL_sorted hA.ris ha hp hs
                                refine RA.endJ (r1 4 11) (by kernel_rfl) hk ⟨⟨rfl, rfl, rfl, rfl, rfl, rfl, rfl, trivial⟩, ⟨rfl, rfl, rfl, rfl, trivial⟩, rfl⟩
                              · refine ⟨by simp <;> omega, ?_⟩
                                refine RA.freeze 9 rfl ?_
                                refine RA.both 1 10 (eqB_eq (by kernel_rfl)) (Stp.read 1 pg_ok rfl rfl ?_) (Stp.mem 10 pg_ok rfl rfl rfl ?_)
                                · refine RA.run (cx := ⟨pg, _, _, _, _, _, _, _⟩) pg_ok (by kernel_rfl) (by intro _ _ h; exact h) (al [10]) (e := false) (by kernel_rfl) ?_
                                  refine RA.run (cx := ⟨pg, _, _, _, _, _, _, _⟩) pg_ok (by kernel_rfl) (by intro _ _ h; exact h) (al [11]) (e := false) (by kernel_rfl) ?_
                                  refine RA.run (cx := ⟨pg, _, _, _, _, _, _, _⟩) pg_ok (by kernel_rfl) (by intro _ _ h; exact h) (al [12]) (e := false) (by kernel_rfl) ?_
                                  refine ⟨by simp <;> omega, ?_⟩
                                  refine RGOH 13 false (tk [14] ++ al [15]) hso (r1 0 11) rfl rfl rfl ⟨rfl, trivial⟩ rfl (r1_lt rfl) (by kernel_rfl) ?_
                                  rintro _ _ _ ⟨rfl, ⟨l', hp, hs, rfl⟩, rfl⟩
                                  obtain rfl := addL_sorted hA.ris ha hp hs
                                  refine RA.endJ (r1 4 11) (by kernel_rfl) hk ⟨⟨rfl, rfl, rfl, rfl, rfl, rfl, rfl, trivial⟩, ⟨rfl, rfl, rfl, rfl, trivial⟩, rfl⟩
                                · refine RA.both 1 11 (eqB_eq (by kernel_rfl)) (Stp.read 1 pg_ok rfl rfl ?_) (Stp.mem 11 pg_ok rfl rfl rfl ?_)
                                  · refine RA.run (cx := ⟨pg, _, _, _, _, _, _, _⟩) pg_ok (by kernel_rfl) (by intro _ _ h; exact h) (al [11]) (e := false) (by kernel_rfl) ?_
                                    refine RA.run (cx := ⟨pg, _, _, _, _, _, _, _⟩) pg_ok (by kernel_rfl) (by intro _ _ h; exact h) (al [12]) (e := false) (by kernel_rfl) ?_
                                    refine ⟨by simp <;> omega, ?_⟩
                                    refine RGOH 13 false (tk [14] ++ al [15]) hso (r1 0 11) rfl rfl rfl ⟨rfl, trivial⟩ rfl (r1_lt rfl) (by kernel_rfl) ?_
                                    rintro _ _ _ ⟨rfl, ⟨l', hp, hs, rfl⟩, rfl⟩
                                    obtain rfl := addL_sorted hA.ris ha hp hs
                                    refine RA.endJ (r1 4 11) (by kernel_rfl) hk ⟨⟨rfl, rfl, rfl, rfl, rfl, rfl, rfl, trivial⟩, ⟨rfl, rfl, rfl, rfl, trivial⟩, rfl⟩
                                  · refine RA.run (cx := ⟨pg, _, _, _, _, _, _, _⟩) pg_ok (by kernel_rfl) (by intro _ _ h; exact h) (al [1]) (e := false) (by kernel_rfl) ?_
                                    refine RA.run (cx := ⟨pg, _, _, _, _, _, _, _⟩) pg_ok (by kernel_rfl) (by intro _ _ h; exact h) (al [12]) (e := false) (by kernel_rfl) ?_
                                    refine ⟨by simp <;> omega, ?_⟩
                                    refine RGOH 13 false (tk [14] ++ al [15]) hso (r1 0 11) rfl rfl rfl ⟨rfl, trivial⟩ rfl (r1_lt rfl) (by kernel_rfl) ?_
                                    rintro _ _ _ ⟨rfl, ⟨l', hp, hs, rfl⟩, rfl⟩
                                    obtain rfl := addL_sorted hA.ris ha hp hs
                                    refine RA.endJ (r1 4 11) (by kernel_rfl) hk ⟨⟨rfl, rfl, rfl, rfl, rfl, rfl, rfl, trivial⟩, ⟨rfl, rfl, rfl, rfl, trivial⟩, rfl⟩
                          · refine RA.both 1 5 (eqB_eq (by kernel_rfl)) (Stp.read 1 pg_ok rfl rfl ?_) (Stp.mem 5 pg_ok rfl rfl rfl ?_)
                            · refine RA.run (cx := ⟨pg, _, _, _, _, _, _, _⟩) pg_ok (by kernel_rfl) (by intro _ _ h; exact h) (al [5]) (e := false) (by kernel_rfl) ?_
                              refine ⟨by simp <;> omega, ?_⟩
                              refine RA.freeze 8 rfl ?_
                              refine RA.run (cx := ⟨pg, _, _, _, _, _, _, _⟩) pg_ok (by kernel_rfl) (by intro _ _ h; exact h) (al [9]) (e := false) (by kernel_rfl) ?_
                              refine ⟨by simp <;> omega, ?_⟩
                              refine RA.freeze 9 rfl ?_
                              refine RA.run (cx := ⟨pg, _, _, _, _, _, _, _⟩) pg_ok (by kernel_rfl) (by intro _ _ h; exact h) (al [10]) (e := false) (by kernel_rfl) ?_
                              refine RA.run (cx := ⟨pg, _, _, _, _, _, _, _⟩) pg_ok (by kernel_rfl) (by intro _ _ h; exact h) (al [11]) (e := false) (by kernel_rfl) ?_
                              refine RA.run (cx := ⟨pg, _, _, _, _, _, _, _⟩) pg_ok (by kernel_rfl) (by intro _ _ h; exact h) (al [12]) (e := false) (by kernel_rfl) ?_
                              refine ⟨by simp <;> omega, ?_⟩
                              refine RGOH 13 false (tk [14] ++ al [15]) hso (r1 0 11) rfl rfl rfl ⟨rfl, trivial⟩ rfl (r1_lt rfl) (by kernel_rfl) ?_
                              rintro _ _ _ ⟨rfl, ⟨l', hp, hs, rfl⟩, rfl⟩
                              obtain rfl := addL_sorted hA.ris ha hp hs
                              refine RA.endJ (r1 4 11) (by kernel_rfl) hk ⟨⟨rfl, rfl, rfl, rfl, rfl, rfl, rfl, trivial⟩, ⟨rfl, rfl, rfl, rfl, trivial⟩, rfl⟩
                            · refine ⟨by simp <;> omega, ?_⟩
                              refine RA.freeze 8 rfl ?_
                              refine RA.both 1 9 (eqB_eq (by kernel_rfl)) (Stp.read 1 pg_ok rfl rfl ?_) (Stp.mem 9 pg_ok rfl rfl rfl ?_)
                              · refine RA.run (cx := ⟨pg, _, _, _, _, _, _, _⟩) pg_ok (by kernel_rfl) (by intro _ _ h; exact h) (al [9]) (e := false) (by kernel_rfl) ?_
                                refine ⟨by simp <;> omega, ?_⟩
                                refine RA.freeze 9 rfl ?_
                                refine RA.run (cx := ⟨pg, _, _, _, _, _, _, _⟩) pg_ok (by kernel_rfl) (by intro _ _ h; exact h) (al [10]) (e := false) (by kernel_rfl) ?_
                                refine RA.run (cx := ⟨pg, _, _, _, _, _, _, _⟩) pg_ok (by kernel_rfl) (by intro _ _ h; exact h) (al [11]) (e := false) (by kernel_rfl) ?_
                                refine RA.run (cx := ⟨pg, _, _, _, _, _, _, _⟩) pg_ok (by kernel_rfl) (by intro _ _ h; exact h) (al [12]) (e := false) (by kernel_rfl) ?_
                                refine ⟨by simp <;> omega, ?_⟩
                                refine RGOH 13 false (tk [14] ++ al [15]) hso (r1 0 11) rfl rfl rfl ⟨rfl, trivial⟩ rfl (r1_lt rfl) (by kernel_rfl) ?_
                                rintro _ _ _ ⟨rfl, ⟨l', hp, hs, rfl⟩, rfl⟩
                                obtain rfl := addL_sorted hA.ris ha hp hs
                                refine RA.endJ (r1 4 11) (by kernel_rfl) hk ⟨⟨rfl, rfl, rfl, rfl, rfl, rfl, rfl, trivial⟩, ⟨rfl, rfl, rfl, rfl, trivial⟩, rfl⟩
                              · refine ⟨by simp <;> omega, ?_⟩
                                refine RA.freeze 9 rfl ?_
                                refine RA.both 1 10 (eqB_eq (by kernel_rfl)) (Stp.read 1 pg_ok rfl rfl ?_) (Stp.mem 10 pg_ok rfl rfl rfl ?_)
                                · refine RA.run (cx := ⟨pg, _, _, _, _, _, _, _⟩) pg_ok (by kernel_rfl) (by intro _ _ h; exact h) (al [10]) (e := false) (by kernel_rfl) ?_
                                  refine RA.run (cx := ⟨pg, _, _, _, _, _, _, _⟩) pg_ok (by kernel_rfl) (by intro _ _ h; exact h) (al [11]) (e := false) (by kernel_rfl) ?_
                                  refine RA.run (cx := ⟨pg, _, _, _, _, _, _, _⟩) pg_ok (by kernel_rfl) (by intro _ _ h; exact h) (al [12]) (e := false) (by kernel_rfl) ?_
                                  refine ⟨by simp <;> omega, ?_⟩
                                  refine RGOH 13 false (tk [14] ++ al [15]) hso (r1 0 11) rfl rfl rfl ⟨rfl, trivial⟩ rfl (r1_lt rfl) (by kernel_rfl) ?_
                                  rintro _ _ _ ⟨rfl, ⟨l', hp, hs, rfl⟩, rfl⟩
                                  obtain rfl := addL_sorted hA.ris ha hp hs
                                  refine RA.endJ (r1 4 11) (by kernel_rfl) hk ⟨⟨rfl, rfl, rfl, rfl, rfl, rfl, rfl, trivial⟩, ⟨rfl, rfl, rfl, rfl, trivial⟩, rfl⟩
                                · refine RA.both 1 11 (eqB_eq (by kernel_rfl)) (Stp.read 1 pg_ok rfl rfl ?_) (Stp.mem 11 pg_ok rfl rfl rfl ?_)
                                  · refine RA.run (cx := ⟨pg, _, _, _, _, _, _, _⟩) pg_ok (by kernel_rfl) (by intro _ _ h; exact h) (al [11]) (e := false) (by kernel_rfl) ?_
                                    refine RA.run (cx := ⟨pg, _, _, _, _, _, _, _⟩) pg_ok (by kernel_rfl) (by intro _ _ h; exact h) (al [12]) (e := false) (by kernel_rfl) ?_
                                    refine ⟨by simp <;> omega, ?_⟩
                                    refine RGOH 13 false (tk [14] ++ al [15]) hso (r1 0 11) rfl rfl rfl ⟨rfl, trivial⟩ rfl (r1_lt rfl) (by kernel_rfl) ?_
                                    rintro _ _ _ ⟨rfl, ⟨l', hp, hs, rfl⟩, rfl⟩
                                    obtain rfl := addL_sorted hA.ris ha hp hs
                                    refine RA.endJ (r1 4 11) (by kernel_rfl) hk ⟨⟨rfl, rfl, rfl, rfl, rfl, rfl, rfl, trivial⟩, ⟨rfl, rfl, rfl, rfl, trivial⟩, rfl⟩
                                  · refine RA.run (cx := ⟨pg, _, _, _, _, _, _, _⟩) pg_ok (by kernel_rfl) (by intro _ _ h; exact h) (al [1]) (e := false) (by kernel_rfl) ?_
                                    refine RA.run (cx := ⟨pg, _, _, _, _, _, _, _⟩) pg_ok (by kernel_rfl) (by intro _ _ h; exact h) (al [12]) (e := false) (by kernel_rfl) ?_
                                    refine ⟨by simp <;> omega, ?_⟩
                                    refine RGOH 13 false (tk [14] ++ al [15]) hso (r1 0 11) rfl rfl rfl ⟨rfl, trivial⟩ rfl (r1_lt rfl) (by kernel_rfl) ?_
                                    rintro _ _ _ ⟨rfl, ⟨l', hp, hs, rfl⟩, rfl⟩
                                    obtain rfl := addL_sorted hA.ris ha hp hs
                                    refine RA.endJ (r1 4 11) (by kernel_rfl) hk ⟨⟨rfl, rfl, rfl, rfl, rfl, rfl, rfl, trivial⟩, ⟨rfl, rfl, rfl, rfl, trivial⟩, rfl⟩
                        · refine RA.both 1 2 (eqB_eq (by kernel_rfl)) (Stp.read 1 pg_ok rfl rfl ?_) (Stp.mem 2 pg_ok rfl rfl rfl ?_)
                          · refine RA.run (cx := ⟨pg, _, _, _, _, _, _, _⟩) pg_ok (by kernel_rfl) (by intro _ _ h; exact h) (al [2]) (e := false) (by kernel_rfl) ?_
                            refine RA.run (cx := ⟨pg, _, _, _, _, _, _, _⟩) pg_ok (by kernel_rfl) (by intro _ _ h; exact h) (al [5]) (e := false) (by kernel_rfl) ?_
                            refine ⟨by simp <;> omega, ?_⟩
                            refine RA.freeze 8 rfl ?_
                            refine RA.run (cx := ⟨pg, _, _, _, _, _, _, _⟩) pg_ok (by kernel_rfl) (by intro _ _ h; exact h) (al [9]) (e := false) (by kernel_rfl) ?_
                            refine ⟨by simp <;> omega, ?_⟩
                            refine RA.freeze 9 rfl ?_
                            refine RA.run (cx := ⟨pg, _, _, _, _, _, _, _⟩) pg_ok (by kernel_rfl) (by intro _ _ h; exact h) (al [10]) (e := false) (by kernel_rfl) ?_
                            refine RA.run (cx := ⟨pg, _, _, _, _, _, _, _⟩) pg_ok (by kernel_rfl) (by intro _ _ h; exact h) (al [11]) (e := false) (by kernel_rfl) ?_
                            refine RA.run (cx := ⟨pg, _, _, _, _, _, _, _⟩) pg_ok (by kernel_rfl) (by intro _ _ h; exact h) (al [12]) (e := false) (by kernel_rfl) ?_
                            refine ⟨by simp <;> omega, ?_⟩
                            refine RGOH 13 false (tk [14] ++ al [15]) hso (r1 0 11) rfl rfl rfl ⟨rfl, trivial⟩ rfl (r1_lt rfl) (by kernel_rfl) ?_
                            rintro _ _ _ ⟨rfl, ⟨l', hp, hs, rfl⟩, rfl⟩
                            obtain rfl := addL_sorted hA.ris ha hp hs
                            refine RA.endJ (r1 4 11) (by kernel_rfl) hk ⟨⟨rfl, rfl, rfl, rfl, rfl, rfl, rfl, trivial⟩, ⟨rfl, rfl, rfl, rfl, trivial⟩, rfl⟩
                          · refine RA.both 1 5 (eqB_eq (by kernel_rfl)) (Stp.read 1 pg_ok rfl rfl ?_) (Stp.mem 5 pg_ok rfl rfl rfl ?_)
                            · refine RA.run (cx := ⟨pg, _, _, _, _, _, _, _⟩) pg_ok (by kernel_rfl) (by intro _ _ h; exact h) (al [5]) (e := false) (by kernel_rfl) ?_
                              refine ⟨by simp <;> omega, ?_⟩
                              refine RA.freeze 8 rfl ?_
                              refine RA.run (cx := ⟨pg, _, _, _, _, _, _, _⟩) pg_ok (by kernel_rfl) (by intro _ _ h; exact h) (al [9]) (e := false) (by kernel_rfl) ?_
                              refine ⟨by simp <;> omega, ?_⟩
                              refine RA.freeze 9 rfl ?_
                              refine RA.run (cx := ⟨pg, _, _, _, _, _, _, _⟩) pg_ok (by kernel_rfl) (by intro _ _ h; exact h) (al [10]) (e := false) (by kernel_rfl) ?_
                              refine RA.run (cx := ⟨pg, _, _, _, _, _, _, _⟩) pg_ok (by kernel_rfl) (by intro _ _ h; exact h) (al [11]) (e := false) (by kernel_rfl) ?_
                              refine RA.run (cx := ⟨pg, _, _, _, _, _, _, _⟩) pg_ok (by kernel_rfl) (by intro _ _ h; exact h) (al [12]) (e := false) (by kernel_rfl) ?_
                              refine ⟨by simp <;> omega, ?_⟩
                              refine RGOH 13 false (tk [14] ++ al [15]) hso (r1 0 11) rfl rfl rfl ⟨rfl, trivial⟩ rfl (r1_lt rfl) (by kernel_rfl) ?_
                              rintro _ _ _ ⟨rfl, ⟨l', hp, hs, rfl⟩, rfl⟩
                              obtain rfl := addL_sorted hA.ris ha hp hs
                              refine RA.endJ (r1 4 11) (by kernel_rfl) hk ⟨⟨rfl, rfl, rfl, rfl, rfl, rfl, rfl, trivial⟩, ⟨rfl, rfl, rfl, rfl, trivial⟩, rfl⟩
                            · refine ⟨by simp <;> omega, ?_⟩
                              refine RA.freeze 8 rfl ?_
                              refine RA.both 1 9 (eqB_eq (by kernel_rfl)) (Stp.read 1 pg_ok rfl rfl ?_) (Stp.mem 9 pg_ok rfl rfl rfl ?_)
                              · refine RA.run (cx := ⟨pg, _, _, _, _, _, _, _⟩) pg_ok (by kernel_rfl) (by intro _ _ h; exact h) (al [9]) (e := false) (by kernel_rfl) ?_
                                refine ⟨by simp <;> omega, ?_⟩
                                refine RA.freeze 9 rfl ?_
                                refine RA.run (cx := ⟨pg, _, _, _, _, _, _, _⟩) pg_ok (by kernel_rfl) (by intro _ _ h; exact h) (al [10]) (e := false) (by kernel_rfl) ?_
                                refine RA.run (cx := ⟨pg, _, _, _, _, _, _, _⟩) pg_ok (by kernel_rfl) (by intro _ _ h; exact h) (al [11]) (e := false) (by kernel_rfl) ?_
                                refine RA.run (cx := ⟨pg, _, _, _, _, _, _, _⟩) pg_ok (by kernel_rfl) (by intro _ _ h; exact h) (al [12]) (e := false) (by kernel_rfl) ?_
                                refine ⟨by simp <;> omega, ?_⟩
                                refine RGOH 13 false (tk [14] ++ al [15]) hso (r1 0 11) rfl rfl rfl ⟨rfl, trivial⟩ rfl (r1_lt rfl) (by kernel_rfl) ?_
                                rintro _ _ _ ⟨rfl, ⟨l', hp, hs, rfl⟩, rfl⟩
                                obtain rfl := addL_sorted hA.ris ha hp hs
                                refine RA.endJ (r1 4 11) (by kernel_rfl) hk ⟨⟨rfl, rfl, rfl, rfl, rfl, rfl, rfl, trivial⟩, ⟨rfl, rfl, rfl, rfl, trivial⟩, rfl⟩
                              · refine ⟨by simp <;> omega, ?_⟩
                                refine RA.freeze 9 rfl ?_
                                refine RA.both 1 10 (eqB_eq (by kernel_rfl)) (Stp.read 1 pg_ok rfl rfl ?_) (Stp.mem 10 pg_ok rfl rfl rfl ?_)
                                · refine RA.run (cx := ⟨pg, _, _, _, _, _, _, _⟩) pg_ok (by kernel_rfl) (by intro _ _ h; exact h) (al [10]) (e := false) (by kernel_rfl) ?_
                                  refine RA.run (cx := ⟨pg, _, _, _, _, _, _, _⟩) pg_ok (by kernel_rfl) (by intro _ _ h; exact h) (al [11]) (e := false) (by kernel_rfl) ?_
                                  refine RA.run (cx := ⟨pg, _, _, _, _, _, _, _⟩) pg_ok (by kernel_rfl) (by intro _ _ h; exact h) (al [12]) (e := false) (by kernel_rfl) ?_
                                  refine ⟨by simp <;> omega, ?_⟩
                                  refine RGOH 13 false (tk [14] ++ al [15]) hso (r1 0 11) rfl rfl rfl ⟨rfl, trivial⟩ rfl (r1_lt rfl) (by kernel_rfl) ?_
                                  rintro _ _ _ ⟨rfl, ⟨l', hp, hs, rfl⟩, rfl⟩
                                  obtain rfl := addL_sorted hA.ris ha hp hs
                                  refine RA.endJ (r1 4 11) (by kernel_rfl) hk ⟨⟨rfl, rfl, rfl, rfl, rfl, rfl, rfl, trivial⟩, ⟨rfl, rfl, rfl, rfl, trivial⟩, rfl⟩
                                · refine RA.both 1 11 (eqB_eq (by kernel_rfl)) (Stp.read 1 pg_ok rfl rfl ?_) (Stp.mem 11 pg_ok rfl rfl rfl ?_)
                                  · refine RA.run (cx := ⟨pg, _, _, _, _, _, _, _⟩) pg_ok (by kernel_rfl) (by intro _ _ h; exact h) (al [11]) (e := false) (by kernel_rfl) ?_
                                    refine RA.run (cx := ⟨pg, _, _, _, _, _, _, _⟩) pg_ok (by kernel_rfl) (by intro _ _ h; exact h) (al [12]) (e := false) (by kernel_rfl) ?_
                                    refine ⟨by simp <;> omega, ?_⟩
                                    refine RGOH 13 false (tk [14] ++ al [15]) hso (r1 0 11) rfl rfl rfl ⟨rfl, trivial⟩ rfl (r1_lt rfl) (by kernel_rfl) ?_
                                    rintro _ _ _ ⟨rfl, ⟨l', hp, hs, rfl⟩, rfl⟩
                                    obtain rfl := addL_sorted hA.ris ha hp hs
                                    refine RA.endJ (r1 4 11) (by kernel_rfl) hk ⟨⟨rfl, rfl, rfl, rfl, rfl, rfl, rfl, trivial⟩, ⟨rfl, rfl, rfl, rfl, trivial⟩, rfl⟩
                                  · refine RA.run (cx := ⟨pg, _, _, _, _, _, _, _⟩) pg_ok (by kernel_rfl) (by intro _ _ h; exact h) (al [1]) (e := false) (by kernel_rfl) ?_
                                    refine RA.run (cx := ⟨pg, _, _, _, _, _, _, _⟩) pg_ok (by kernel_rfl) (by intro _ _ h; exact h) (al [12]) (e := false) (by kernel_rfl) ?_
                                    refine ⟨by simp <;> omega, ?_⟩
                                    refine RGOH 13 false (tk [14] ++ al [15]) hso (r1 0 11) rfl rfl rfl ⟨rfl, trivial⟩ rfl (r1_lt rfl) (by kernel_rfl) ?_
                                    rintro _ _ _ ⟨rfl, ⟨l', hp, hs, rfl⟩, rfl⟩
                                    obtain rfl := addL_sorted hA.ris ha hp hs
                                    refine RA.endJ (r1 4 11) (by kernel_rfl) hk ⟨⟨rfl, rfl, rfl, rfl, rfl, rfl, rfl, trivial⟩, ⟨rfl, rfl, rfl, rfl, trivial⟩, rfl⟩
              · refine GO (hr2.bt h2) rfl ?_
                rw [fin _ (errH_2 h2) (by decide)]
                repeat (first | refine p1 ?_ | refine p2 ?_ | refine p3 ?_ | refine p4 ?_)
                exact ⟨⟨rfl, rfl, trivial⟩, rfl⟩
            · refine GO (hr1.bt h1) rfl ?_
              rw [fin _ (errH_1 h1) (by decide)]
              repeat (first | refine p1 ?_ | refine p2 ?_ | refine p3 ?_ | refine p4 ?_)
              exact ⟨⟨rfl, rfl, trivial⟩, rfl⟩
          | some y =>
            obtain ⟨hn, e1, e2⟩ := atL_some ha
            have hlb : y.labels = l[i].labels := (cmpF_is.eq0 _ _).1 e2
            have hy := hA.each y (e1 ▸ List.getElem_mem hn)
            have hyo := (okS_iff _).1 hy.2.1
            have hy0 : 0 < y.samples.length := List.length_pos_iff.2 hy.2.2
            have hyl : (y.samples.map sm).length = y.samples.length := by simp
            have hRi : (A.map se)[posL l[i].labels A]? = some (se y) := by simp [hn, e1]
            have hla := lastT_at hy0
            have hf := rfind_rt A l[i].labels (posL l[i].labels A) (posL_le _ _) (fun j h hj e => by
              have := posL_lt l[i].labels A j h hj
              rw [e, cmpF_is.self] at this
              omega) (fun h => by rw [e1]; exact hlb) (by omega) hLB (by omega)
            rw [if_pos hn] at hf
            refine GOB hf rfl ⟨⟨rfl, rfl⟩, ⟨rfl, rfl⟩, trivial⟩ ?_
            rcases tf (rightF l[i].labels) with h1 | h1
            · refine GO (hr1.bt h1) rfl ?_
              rcases tf (okS l[i].samples) with h2 | h2
              · refine GO (hr2.bt h2) rfl ?_
                by_cases h3 : l[i].samples.length = 0
                · refine p1 ?_ (beq_iff_eq.2 (by omega))
                  rw [fin _ (errH_3 h3) (by decide)]
                  repeat (first | refine p1 ?_ | refine p2 ?_ | refine p3 ?_ | refine p4 ?_)
                  exact ⟨⟨rfl, rfl, trivial⟩, rfl⟩
                · refine p2 ?_ (beq_false_of_ne (by omega))
                  have he := errH_go (mk := mk) (S := A) h1 h2 h3
                  have hfT := firstT_at (s := l[i].samples) (by omega)
                  rw [ha] at he
                  refine ⟨by kernel_rfl, ?_⟩
                  refine idx 0 rfl (by omega) ?_
                  by_cases h4 : firstT l[i].samples ≤ mk
                  · refine p1 ?_ (decide_eq_true (by rw [← hfT]; exact h4))
                    rw [if_pos h4] at he
                    rw [fin _ (he) (by decide)]
                    repeat (first | refine p1 ?_ | refine p2 ?_ | refine p3 ?_ | refine p4 ?_)
                    exact ⟨⟨rfl, rfl, trivial⟩, rfl⟩
                  · refine p2 ?_ (decide_eq_false (by rw [← hfT]; exact h4))
                    rw [if_neg h4] at he
                    simp only at he
                    refine p2 ?_ (decide_eq_false (by omega))
                    refine ⟨by kernel_rfl, ?_⟩
                    refine p1 ?_ (decide_eq_true (by omega))
                    refine ⟨by omega, by omega, ?_⟩
                    refine ⟨_, hRi, ?_⟩
                    refine ⟨by omega, by omega, ?_⟩
                    refine ⟨_, hRi, ?_⟩
                    refine idx (y.samples.length - 1) (by rw [wrap_id (by omega) (by omega)]; omega) (by omega) ?_
                    refine idx 0 rfl (by omega) ?_
                    by_cases h5 : firstT l[i].samples ≤ lastT y.samples
                    · refine p1 ?_ (decide_eq_true (by rw [← hfT, ← hla]; exact h5))
                      rw [if_pos h5] at he
                      rw [fin _ (he) (by decide)]
                      repeat (first | refine p1 ?_ | refine p2 ?_ | refine p3 ?_ | refine p4 ?_)
                      exact ⟨⟨rfl, rfl, trivial⟩, rfl⟩
                    · refine p2 ?_ (decide_eq_false (by rw [← hfT, ← hla]; exact h5))
                      rw [if_neg h5] at he
                      refine ⟨by kernel_rfl, ?_⟩
                      refine p1 ?_ (decide_eq_true (by omega))
                      refine ⟨by omega, by omega, ?_⟩
                      refine ⟨_, hRi, ?_⟩
                      by_cases h6 : 2000 < y.samples.length + l[i].samples.length
                      · refine p1 ?_ (decide_eq_true (by rw [wrap_id (by omega) (by omega)]; omega))
                        rw [if_pos h6] at he
                        rw [fin _ (he) (by decide)]
                        repeat (first | refine p1 ?_ | refine p2 ?_ | refine p3 ?_ | refine p4 ?_)
                        exact ⟨⟨rfl, rfl, trivial⟩, rfl⟩
                      · refine p2 ?_ (decide_eq_false (by rw [wrap_id (by omega) (by omega)]; omega))
                        rw [if_neg h6] at he
                        repeat (first | refine p1 ?_ | refine p2 ?_ | refine p3 ?_ | refine p4 ?_)
                        have hRs : (A.map se).set (posL l[i].labels A) [lbs y.labels, sms (y.samples ++ l[i].samples)] = (addL A l[i]).map se := by
                          rw [addL_yes ha, List.map_set, hlb]
                        have hRm : sms (y.samples ++ l[i].samples) = .sl 2 (y.samples.map sm ++ l[i].samples.map sm) := by rw [sms, List.map_append]
                        rw [hRm] at hRs
                        refine JK.drawJ [4] ⟨[(2, .r (rhd mk S)), (4, .p 1 0), (5, .p 2 0), (9, .p 3 0), (37, ses l), (38, gi (l.map se).length), (39, gi i)], [(3, .blk 27 [gi mk, .o 4]), (4, .row 37 2 ((addL A l[i]).map se)), (1, .blk 27 [gi 0, .v (.slice none 0 0)]), (2, .blk 40 [gi 0, gi 0])], 5⟩ pg_ok ?_ (fun hk => ?_)
                        · refine V ?_
                          refine ⟨i + 1, id, ⟨⟨rfl, rfl, rfl, rfl, rfl, rfl, succ_gi (by omega), trivial⟩, ⟨rfl, ?_, rfl, rfl, trivial⟩, rfl⟩, ⟨hlt, by rw [hfo]; exact errH_add hA he, hat.1 he⟩, by show l.length - (i + 1) < l.length - i; omega⟩
                          rw [hfo]
                          rfl
                        · refine RA.run (cx := ⟨pg, _, _, _, _, _, _, _⟩) pg_ok (by kernel_rfl) (by intro _ _ h; exact h) (tk [0, 1, 2, 3, 4, 5, 6, 7, 10, 11, 12, 13, 14, 17, 18]) (e := false) (by kernel_rfl) ?_
                          refine ⟨by omega, by omega, ?_⟩
                          refine ⟨by omega, by omega, ?_⟩
                          refine RA.three 8 9 15 (eqB_eq (by kernel_rfl)) (Stp.read 8 pg_ok rfl rfl ?_) (Stp.mem 9 pg_ok rfl rfl rfl ?_) (Stp.read 15 pg_ok rfl rfl ?_)
                          · refine ⟨_, hRi, ?_⟩
                            refine RA.both 9 15 (eqB_eq (by kernel_rfl)) (Stp.mem 9 pg_ok rfl rfl rfl ?_) (Stp.read 15 pg_ok rfl rfl ?_)
                            · refine RA.run (cx := ⟨pg, _, _, _, _, _, _, _⟩) pg_ok (by kernel_rfl) (by intro _ _ h; exact h) (al [15]) (e := false) (by kernel_rfl) ?_
                              refine ⟨_, hRi, ?_⟩
                              refine RA.run (cx := ⟨pg, _, _, _, _, _, _, _⟩) pg_ok (by kernel_rfl) (by intro _ _ h; exact h) (al [16]) (e := false) (by kernel_rfl) ?_
                              refine ⟨by simp <;> omega, ?_⟩
                              refine RA.run (cx := ⟨pg, _, _, _, _, _, _, _⟩) pg_ok (by kernel_rfl) (by intro _ _ h; exact h) (al [19]) (e := false) (by kernel_rfl) ?_
                              refine ⟨by simp <;> omega, ?_⟩
                              refine RA.freeze 8 rfl ?_
                              refine RA.run (cx := ⟨pg, _, _, _, _, _, _, _⟩) pg_ok (by kernel_rfl) (by intro _ _ h; exact h) (al [20]) (e := false) (by kernel_rfl) ?_
                              refine RA.run (cx := ⟨pg, _, _, _, _, _, _, _⟩) pg_ok (by kernel_rfl) (by intro _ _ h; exact h) (tk [21] ++ al [22]) (e := false) (by kernel_rfl) ?_
                              refine ⟨by omega, by omega, ?_⟩
                              refine ⟨_, hRi, ?_⟩
                              refine RA.endJ id (by kernel_rfl) hk ⟨⟨rfl, rfl, rfl, rfl, rfl, rfl, rfl, trivial⟩, ⟨rfl, ?_, rfl, rfl, trivial⟩, rfl⟩
                              rw [← hRs]
                              rfl
                            · refine ⟨_, hRi, ?_⟩
                              refine RA.run (cx := ⟨pg, _, _, _, _, _, _, _⟩) pg_ok (by kernel_rfl) (by intro _ _ h; exact h) (al [9]) (e := false) (by kernel_rfl) ?_
                              refine RA.run (cx := ⟨pg, _, _, _, _, _, _, _⟩) pg_ok (by kernel_rfl) (by intro _ _ h; exact h) (al [16]) (e := false) (by kernel_rfl) ?_
                              refine ⟨by simp <;> omega, ?_⟩
                              refine RA.run (cx := ⟨pg, _, _, _, _, _, _, _⟩) pg_ok (by kernel_rfl) (by intro _ _ h; exact h) (al [19]) (e := false) (by kernel_rfl) ?_
                              refine ⟨by simp <;> omega, ?_⟩
                              refine RA.freeze 8 rfl ?_
                              refine RA.run (cx := ⟨pg, _, _, _, _, _, _, _⟩) pg_ok (by kernel_rfl) (by intro _ _ h; exact h) (al [20]) (e := false) (by kernel_rfl) ?_
                              refine RA.run (cx := ⟨pg, _, _, _, _, _, _, _⟩) pg_ok (by kernel_rfl) (by intro _ _ h; exact h) (tk [21] ++ al [22]) (e := false) (by kernel_rfl) ?_
                              refine ⟨by omega, by omega, ?_⟩
                              refine ⟨_, hRi, ?_⟩
                              refine RA.endJ id (by kernel_rfl) hk ⟨⟨rfl, rfl, rfl, rfl, rfl, rfl, rfl, trivial⟩, ⟨rfl, ?_, rfl, rfl, trivial⟩, rfl⟩
                              rw [← hRs]
                              rfl
                          · refine RA.both 8 15 (eqB_eq (by kernel_rfl)) (Stp.read 8 pg_ok rfl rfl ?_) (Stp.read 15 pg_ok rfl rfl ?_)
                            · refine ⟨_, hRi, ?_⟩
                              refine RA.run (cx := ⟨pg, _, _, _, _, _, _, _⟩) pg_ok (by kernel_rfl) (by intro _ _ h; exact h) (al [15]) (e := false) (by kernel_rfl) ?_
                              refine ⟨_, hRi, ?_⟩
                              refine RA.run (cx := ⟨pg, _, _, _, _, _, _, _⟩) pg_ok (by kernel_rfl) (by intro _ _ h; exact h) (al [16]) (e := false) (by kernel_rfl) ?_
                              refine ⟨by simp <;> omega, ?_⟩
                              refine RA.run (cx := ⟨pg, _, _, _, _, _, _, _⟩) pg_ok (by kernel_rfl) (by intro _ _ h; exact h) (al [19]) (e := false) (by kernel_rfl) ?_
                              refine ⟨by simp <;> omega, ?_⟩
                              refine RA.freeze 8 rfl ?_
                              refine RA.run (cx := ⟨pg, _, _, _, _, _, _, _⟩) pg_ok (by kernel_rfl) (by intro _ _ h; exact h) (al [20]) (e := false) (by kernel_rfl) ?_
                              refine RA.run (cx := ⟨pg, _, _, _, _, _, _, _⟩) pg_ok (by kernel_rfl) (by intro _ _ h; exact h) (tk [21] ++ al [22]) (e := false) (by kernel_rfl) ?_
                              refine ⟨by omega, by omega, ?_⟩
                              refine ⟨_, hRi, ?_⟩
                              refine RA.endJ id (by kernel_rfl) hk ⟨⟨rfl, rfl, rfl, rfl, rfl, rfl, rfl, trivial⟩, ⟨rfl, ?_, rfl, rfl, trivial⟩, rfl⟩
                              rw [← hRs]
                              rfl
                            · refine ⟨_, hRi, ?_⟩
                              refine RA.both 8 16 (eqB_eq (by kernel_rfl)) (Stp.read 8 pg_ok rfl rfl ?_) (Stp.mem 16 pg_ok rfl rfl rfl ?_)
                              · refine ⟨_, hRi, ?_⟩
                                refine RA.run (cx := ⟨pg, _, _, _, _, _, _, _⟩) pg_ok (by kernel_rfl) (by intro _ _ h; exact h) (al [16]) (e := false) (by kernel_rfl) ?_
                                refine ⟨by simp <;> omega, ?_⟩
                                refine RA.run (cx := ⟨pg, _, _, _, _, _, _, _⟩) pg_ok (by kernel_rfl) (by intro _ _ h; exact h) (al [19]) (e := false) (by kernel_rfl) ?_
                                refine ⟨by simp <;> omega, ?_⟩
                                refine RA.freeze 8 rfl ?_
                                refine RA.run (cx := ⟨pg, _, _, _, _, _, _, _⟩) pg_ok (by kernel_rfl) (by intro _ _ h; exact h) (al [20]) (e := false) (by kernel_rfl) ?_
                                refine RA.run (cx := ⟨pg, _, _, _, _, _, _, _⟩) pg_ok (by kernel_rfl) (by intro _ _ h; exact h) (tk [21] ++ al [22]) (e := false) (by kernel_rfl) ?_
                                refine ⟨by omega, by omega, ?_⟩
                                refine ⟨_, hRi, ?_⟩
                                refine RA.endJ id (by kernel_rfl) hk ⟨⟨rfl, rfl, rfl, rfl, rfl, rfl, rfl, trivial⟩, ⟨rfl, ?_, rfl, rfl, trivial⟩, rfl⟩
                                rw [← hRs]
                                rfl
                              · refine ⟨by simp <;> omega, ?_⟩
                                refine RA.both 8 19 (eqB_eq (by kernel_rfl)) (Stp.read 8 pg_ok rfl rfl ?_) (Stp.mem 19 pg_ok rfl rfl rfl ?_)
                                · refine ⟨_, hRi, ?_⟩
                                  refine RA.run (cx := ⟨pg, _, _, _, _, _, _, _⟩) pg_ok (by kernel_rfl) (by intro _ _ h; exact h) (al [19]) (e := false) (by kernel_rfl) ?_
                                  refine ⟨by simp <;> omega, ?_⟩
                                  refine RA.freeze 8 rfl ?_
                                  refine RA.run (cx := ⟨pg, _, _, _, _, _, _, _⟩) pg_ok (by kernel_rfl) (by intro _ _ h; exact h) (al [20]) (e := false) (by kernel_rfl) ?_
                                  refine RA.run (cx := ⟨pg, _, _, _, _, _, _, _⟩) pg_ok (by kernel_rfl) (by intro _ _ h; exact h) (tk [21] ++ al [22]) (e := false) (by kernel_rfl) ?_
                                  refine ⟨by omega, by omega, ?_⟩
                                  refine ⟨_, hRi, ?_⟩
                                  refine RA.endJ id (by kernel_rfl) hk ⟨⟨rfl, rfl, rfl, rfl, rfl, rfl, rfl, trivial⟩, ⟨rfl, ?_, rfl, rfl, trivial⟩, rfl⟩
                                  rw [← hRs]
                                  rfl
                                · refine ⟨by simp <;> omega, ?_⟩
                                  refine RA.freeze 8 rfl ?_
                                  refine RA.run (cx := ⟨pg, _, _, _, _, _, _, _⟩) pg_ok (by kernel_rfl) (by intro _ _ h; exact h) (al [8]) (e := false) (by kernel_rfl) ?_
                                  refine ⟨_, hRi, ?_⟩
                                  refine RA.run (cx := ⟨pg, _, _, _, _, _, _, _⟩) pg_ok (by kernel_rfl) (by intro _ _ h; exact h) (al [20]) (e := false) (by kernel_rfl) ?_
                                  refine RA.run (cx := ⟨pg, _, _, _, _, _, _, _⟩) pg_ok (by kernel_rfl) (by intro _ _ h; exact h) (tk [21] ++ al [22]) (e := false) (by kernel_rfl) ?_
                                  refine ⟨by omega, by omega, ?_⟩
                                  refine ⟨_, hRi, ?_⟩
                                  refine RA.endJ id (by kernel_rfl) hk ⟨⟨rfl, rfl, rfl, rfl, rfl, rfl, rfl, trivial⟩, ⟨rfl, ?_, rfl, rfl, trivial⟩, rfl⟩
                                  rw [← hRs]
                                  rfl
                          · refine ⟨_, hRi, ?_⟩
                            refine RA.both 8 9 (eqB_eq (by kernel_rfl)) (Stp.read 8 pg_ok rfl rfl ?_) (Stp.mem 9 pg_ok rfl rfl rfl ?_)
                            · refine ⟨_, hRi, ?_⟩
                              refine RA.run (cx := ⟨pg, _, _, _, _, _, _, _⟩) pg_ok (by kernel_rfl) (by intro _ _ h; exact h) (al [9]) (e := false) (by kernel_rfl) ?_
                              refine RA.run (cx := ⟨pg, _, _, _, _, _, _, _⟩) pg_ok (by kernel_rfl) (by intro _ _ h; exact h) (al [16]) (e := false) (by kernel_rfl) ?_
                              refine ⟨by simp <;> omega, ?_⟩
                              refine RA.run (cx := ⟨pg, _, _, _, _, _, _, _⟩) pg_ok (by kernel_rfl) (by intro _ _ h; exact h) (al [19]) (e := false) (by kernel_rfl) ?_
                              refine ⟨by simp <;> omega, ?_⟩
                              refine RA.freeze 8 rfl ?_
                              refine RA.run (cx := ⟨pg, _, _, _, _, _, _, _⟩) pg_ok (by kernel_rfl) (by intro _ _ h; exact h) (al [20]) (e := false) (by kernel_rfl) ?_
                              refine RA.run (cx := ⟨pg, _, _, _, _, _, _, _⟩) pg_ok (by kernel_rfl) (by intro _ _ h; exact h) (tk [21] ++ al [22]) (e := false) (by kernel_rfl) ?_
                              refine ⟨by omega, by omega, ?_⟩
                              refine ⟨_, hRi, ?_⟩
                              refine RA.endJ id (by kernel_rfl) hk ⟨⟨rfl, rfl, rfl, rfl, rfl, rfl, rfl, trivial⟩, ⟨rfl, ?_, rfl, rfl, trivial⟩, rfl⟩
                              rw [← hRs]
                              rfl
                            · refine RA.both 8 16 (eqB_eq (by kernel_rfl)) (Stp.read 8 pg_ok rfl rfl ?_) (Stp.mem 16 pg_ok rfl rfl rfl ?_)
                              · refine ⟨_, hRi, ?_⟩
                                refine RA.run (cx := ⟨pg, _, _, _, _, _, _, _⟩) pg_ok (by kernel_rfl) (by intro _ _ h; exact h) (al [16]) (e := false) (by kernel_rfl) ?_
                                refine ⟨by simp <;> omega, ?_⟩
                                refine RA.run (cx := ⟨pg, _, _, _, _, _, _, _⟩) pg_ok (by kernel_rfl) (by intro _ _ h; exact h) (al [19]) (e := false) (by kernel_rfl) ?_
                                refine ⟨by simp <;> omega, ?_⟩
                                refine RA.freeze 8 rfl ?_
                                refine RA.run (cx := ⟨pg, _, _, _, _, _, _, _⟩) pg_ok (by kernel_rfl) (by intro _ _ h; exact h) (al [20]) (e := false) (by kernel_rfl) ?_
                                refine RA.run (cx := ⟨pg, _, _, _, _, _, _, _⟩) pg_ok (by kernel_rfl) (by intro _ _ h; exact h) (tk [21] ++ al [22]) (e := false) (by kernel_rfl) ?_
                                refine ⟨by omega, by omega, ?_⟩
                                refine ⟨_, hRi, ?_⟩
                                refine RA.endJ id (by kernel_rfl) hk ⟨⟨rfl, rfl, rfl, rfl, rfl, rfl, rfl, trivial⟩, ⟨rfl, ?_, rfl, rfl, trivial⟩, rfl⟩
                                rw [← hRs]
                                rfl
                              · refine ⟨by simp <;> omega, ?_⟩
                                refine RA.both 8 19 (eqB_eq (by kernel_rfl)) (Stp.read 8 pg_ok rfl rfl ?_) (Stp.mem 19 pg_ok rfl rfl rfl ?_)
                                · refine ⟨_, hRi, ?_⟩
                                  refine RA.run (cx := ⟨pg, _, _, _, _, _, _, _⟩) pg_ok (by kernel_rfl) (by intro _ _ h; exact h) (al [19]) (e := false) (by kernel_rfl) ?_
                                  refine ⟨by simp <;> omega, ?_⟩
                                  refine RA.freeze 8 rfl ?_
                                  refine RA.run (cx := ⟨pg, _, _, _, _, _, _, _⟩) pg_ok (by kernel_rfl) (by intro _ _ h; exact h) (al [20]) (e := false) (by kernel_rfl) ?_
                                  refine RA.run (cx := ⟨pg, _, _, _, _, _, _, _⟩) pg_ok (by kernel_rfl) (by intro _ _ h; exact h) (tk [21] ++ al [22]) (e := false) (by kernel_rfl) ?_
                                  refine ⟨by omega, by omega, ?_⟩
                                  refine ⟨_, hRi, ?_⟩
                                  refine RA.endJ id (by kernel_rfl) hk ⟨⟨rfl, rfl, rfl, rfl, rfl, rfl, rfl, trivial⟩, ⟨rfl, ?_, rfl, rfl, trivial⟩, rfl⟩
                                  rw [← hRs]
                                  rfl
                                · refine ⟨by simp <;> omega, ?_⟩
                                  refine RA.freeze 8 rfl ?_
                                  refine RA.run (cx := ⟨pg, _, _, _, _, _, _, _⟩) pg_ok (by kernel_rfl) (by intro _ _ h; exact h) (al [8]) (e := false) (by kernel_rfl) ?_
                                  refine ⟨_, hRi, ?_⟩
                                  refine RA.run (cx := ⟨pg, _, _, _, _, _, _, _⟩) pg_ok (by kernel_rfl) (by intro _ _ h; exact h) (al [20]) (e := false) (by kernel_rfl) ?_
                                  refine RA.run (cx := ⟨pg, _, _, _, _, _, _, _⟩) pg_ok (by kernel_rfl) (by intro _ _ h; exact h) (tk [21] ++ al [22]) (e := false) (by kernel_rfl) ?_
                                  refine ⟨by omega, by omega, ?_⟩
                                  refine ⟨_, hRi, ?_⟩
                                  refine RA.endJ id (by kernel_rfl) hk ⟨⟨rfl, rfl, rfl, rfl, rfl, rfl, rfl, trivial⟩, ⟨rfl, ?_, rfl, rfl, trivial⟩, rfl⟩
                                  rw [← hRs]
                                  rfl
              · refine GO (hr2.bt h2) rfl ?_
                rw [fin _ (errH_2 h2) (by decide)]
                repeat (first | refine p1 ?_ | refine p2 ?_ | refine p3 ?_ | refine p4 ?_)
                exact ⟨⟨rfl, rfl, trivial⟩, rfl⟩
            · refine GO (hr1.bt h1) rfl ?_
              rw [fin _ (errH_1 h1) (by decide)]
              repeat (first | refine p1 ?_ | refine p2 ?_ | refine p3 ?_ | refine p4 ?_)
              exact ⟨⟨rfl, rfl, trivial⟩, rfl⟩
        · refine p2 ?_ (decide_eq_false (by omega))
          obtain rfl : i = l.length := by omega
          rw [tryH_end hT] at hH
          rw [hH, List.take_length]
          refine FRZ 4 rfl ?_
          refine DRAW [1, 2] true (tk [0, 1] ++ al [2, 3]) (by kernel_rfl) ?_
          refine V ?_
          exact ⟨⟨rfl, rfl, trivial⟩, rfl⟩
    · refine RA.run (cx := ⟨pg, _, _, _, _, _, _, _⟩) pg_ok (by kernel_rfl) (by intro _ _ h; exact h) (tk [0, 1, 3, 4]) (e := false) (by kernel_rfl) ?_
      refine RA.both 2 7 (eqB_eq (by kernel_rfl)) (Stp.mem 2 pg_ok rfl rfl rfl ?_) (Stp.mem 7 pg_ok rfl rfl rfl ?_)
      · refine RA.both 5 7 (eqB_eq (by kernel_rfl)) (Stp.mem 5 pg_ok rfl rfl rfl ?_) (Stp.mem 7 pg_ok rfl rfl rfl ?_)
        · refine ⟨by simp only [List.map_nil, List.length_nil, List.length_map]; omega, ?_⟩
          refine RA.both 6 7 (eqB_eq (by kernel_rfl)) (Stp.mem 6 pg_ok rfl rfl rfl ?_) (Stp.mem 7 pg_ok rfl rfl rfl ?_)
          · refine RA.run (cx := ⟨pg, _, _, _, _, _, _, _⟩) pg_ok (by kernel_rfl) (by intro _ _ h; exact h) (al [7, 8]) (e := false) (by kernel_rfl) ?_
            refine RA.endJ (r1 3 5) (by kernel_rfl) hk ⟨⟨rfl, rfl, rfl, rfl, rfl, trivial⟩, ⟨rfl, rfl, rfl, rfl, trivial⟩, rfl⟩
          · refine RA.run (cx := ⟨pg, _, _, _, _, _, _, _⟩) pg_ok (by kernel_rfl) (by intro _ _ h; exact h) (al [6, 8]) (e := false) (by kernel_rfl) ?_
            refine RA.endJ (r1 3 5) (by kernel_rfl) hk ⟨⟨rfl, rfl, rfl, rfl, rfl, trivial⟩, ⟨rfl, rfl, rfl, rfl, trivial⟩, rfl⟩
        · refine RA.run (cx := ⟨pg, _, _, _, _, _, _, _⟩) pg_ok (by kernel_rfl) (by intro _ _ h; exact h) (al [5, 6, 8]) (e := false) (by kernel_rfl) ?_
          refine ⟨by simp only [List.map_nil, List.length_nil, List.length_map]; omega, ?_⟩
          refine RA.endJ (fun k => bif Nat.beq k 3 then 4 else bif Nat.beq k 4 then 5 else k) (by kernel_rfl) hk ⟨⟨rfl, rfl, rfl, rfl, rfl, trivial⟩, ⟨rfl, rfl, rfl, rfl, trivial⟩, rfl⟩
      · refine RA.run (cx := ⟨pg, _, _, _, _, _, _, _⟩) pg_ok (by kernel_rfl) (by intro _ _ h; exact h) (al [2, 5, 6, 8]) (e := false) (by kernel_rfl) ?_
        refine ⟨by simp only [List.map_nil, List.length_nil, List.length_map]; omega, ?_⟩
        refine RA.endJ (r1 4 5) (by kernel_rfl) hk ⟨⟨rfl, rfl, rfl, rfl, rfl, trivial⟩, ⟨rfl, rfl, rfl, rfl, trivial⟩, rfl⟩
end Go.Proofs.YtaahmenpcpjbhaaGreatDoor
