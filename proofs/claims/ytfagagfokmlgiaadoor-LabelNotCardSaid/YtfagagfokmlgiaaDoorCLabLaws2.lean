/-
  Contracts: the laws LabelOrder, LabelNot.
-/
import Derived.Test.YtfagagfokmlgiaaDoorCRefLab2
import Derived.Test.YtfagagfokmlgiaaDoorPLab3
namespace Go.Proofs.YtfagagfokmlgiaaDoor
open Go.GK Go.PL Go.RowKit
set_option maxRecDepth 100000
theorem kshortL_rt (l : List Lb) : Rt pg 29 [.sl 2 (l.map lb)] (.b (shL l)) := by
  refine Rt.of pg_ok Tryd.func29 rfl Tryd.ntmps29 rfl Tryd.results29 Tryd.call29 fun H0 S0 w0 h0 g0 => ?_
  have hll : (l.map lb).length = l.length := by simp
  unfold shL
  by_cases hl : l.length ≤ 20
  · refine p2 ?_
    refine JK.loop (α := Nat) (fun i => ⟨[(0, .sl 2 (l.map lb)), (3, gi i)], [], 0⟩) (fun i => i ≤ l.length ∧ ∀ j, j < i → (decide (60 < (l.getD j default).name.size) || decide (60 < (l.getD j default).value.size)) = false) (fun i => l.length - i) 0 id ?_ ⟨Nat.zero_le _, fun j hj => absurd hj (by omega)⟩ ?_
    · exact ⟨⟨rfl, rfl, trivial⟩, trivial, rfl⟩
    · rintro i ⟨hi, hgood⟩
      refine V ?_
      by_cases hlt : i < l.length
      · have hg : l.getD i default = l[i] := by simp [hlt]
        have hbad : (decide (60 < l[i].name.size) || decide (60 < l[i].value.size)) = true → (decide (l.length ≤ 20) && !anyB l.length (fun i => decide (60 < (l.getD i default).name.size) || decide (60 < (l.getD i default).value.size))) = false := fun h => by rw [anyB_true hlt (by rw [hg]; exact h)]; simp
        have hnext : (decide (60 < l[i].name.size) || decide (60 < l[i].value.size)) = false → ∀ j, j < i + 1 → (decide (60 < (l.getD j default).name.size) || decide (60 < (l.getD j default).value.size)) = false := fun h j hj => by
          rcases Nat.lt_succ_iff_lt_or_eq.1 hj with h1 | h1
          · exact hgood j h1
          · subst h1; rw [hg]; exact h
        by_cases h1 : 60 < l[i].name.size
        · repeat (first | refine p1 ?_ | refine p2 ?_ | refine p3 ?_ | refine p4 ?_ | refine ix (h := ?_))
          exact ⟨(hbad (by rw [decide_eq_true h1]; rfl)).symm, rfl⟩
        · by_cases h2 : 60 < l[i].value.size
          · repeat (first | refine p1 ?_ | refine p2 ?_ | refine p3 ?_ | refine p4 ?_ | refine ix (h := ?_))
            exact ⟨(hbad (by rw [decide_eq_true h2, Bool.or_true])).symm, rfl⟩
          · repeat (first | refine p1 ?_ | refine p2 ?_ | refine p3 ?_ | refine p4 ?_ | refine ix (h := ?_))
            exact ⟨i + 1, id, ⟨⟨rfl, succ_gi (by omega), trivial⟩, trivial, rfl⟩, ⟨hlt, hnext (by rw [decide_eq_false h1, decide_eq_false h2]; rfl)⟩, by show l.length - (i + 1) < l.length - i; omega⟩
      · refine p2 ?_
        refine V ?_
        obtain rfl : i = l.length := by omega
        exact ⟨by rw [anyB_false hgood, decide_eq_true hl]; rfl, rfl⟩
  · refine p1 ?_
    exact ⟨by rw [decide_eq_false hl]; rfl, rfl⟩
theorem kshortM_rt (l : List Mt) : Rt pg 32 [.sl 3 (l.map mt)] (.b (shM l)) := by
  refine Rt.of pg_ok Tryd.func32 rfl Tryd.ntmps32 rfl Tryd.results32 Tryd.call32 fun H0 S0 w0 h0 g0 => ?_
  have hll : (l.map mt).length = l.length := by simp
  unfold shM
  by_cases hl : l.length ≤ 20
  · refine p2 ?_
    refine JK.loop (α := Nat) (fun i => ⟨[(0, .sl 3 (l.map mt)), (3, gi i)], [], 0⟩) (fun i => i ≤ l.length ∧ ∀ j, j < i → (decide (60 < (l.getD j default).name.size) || decide (60 < (l.getD j default).value.size)) = false) (fun i => l.length - i) 0 id ?_ ⟨Nat.zero_le _, fun j hj => absurd hj (by omega)⟩ ?_
    · exact ⟨⟨rfl, rfl, trivial⟩, trivial, rfl⟩
    · rintro i ⟨hi, hgood⟩
      refine V ?_
      by_cases hlt : i < l.length
      · have hg : l.getD i default = l[i] := by simp [hlt]
        have hbad : (decide (60 < l[i].name.size) || decide (60 < l[i].value.size)) = true → (decide (l.length ≤ 20) && !anyB l.length (fun i => decide (60 < (l.getD i default).name.size) || decide (60 < (l.getD i default).value.size))) = false := fun h => by rw [anyB_true hlt (by rw [hg]; exact h)]; simp
        have hnext : (decide (60 < l[i].name.size) || decide (60 < l[i].value.size)) = false → ∀ j, j < i + 1 → (decide (60 < (l.getD j default).name.size) || decide (60 < (l.getD j default).value.size)) = false := fun h j hj => by
          rcases Nat.lt_succ_iff_lt_or_eq.1 hj with h1 | h1
          · exact hgood j h1
          · subst h1; rw [hg]; exact h
        by_cases h1 : 60 < l[i].name.size
        · repeat (first | refine p1 ?_ | refine p2 ?_ | refine p3 ?_ | refine p4 ?_ | refine ix (h := ?_))
          exact ⟨(hbad (by rw [decide_eq_true h1]; rfl)).symm, rfl⟩
        · by_cases h2 : 60 < l[i].value.size
          · repeat (first | refine p1 ?_ | refine p2 ?_ | refine p3 ?_ | refine p4 ?_ | refine ix (h := ?_))
            exact ⟨(hbad (by rw [decide_eq_true h2, Bool.or_true])).symm, rfl⟩
          · repeat (first | refine p1 ?_ | refine p2 ?_ | refine p3 ?_ | refine p4 ?_ | refine ix (h := ?_))
            exact ⟨i + 1, id, ⟨⟨rfl, succ_gi (by omega), trivial⟩, trivial, rfl⟩, ⟨hlt, hnext (by rw [decide_eq_false h1, decide_eq_false h2]; rfl)⟩, by show l.length - (i + 1) < l.length - i; omega⟩
      · refine p2 ?_
        refine V ?_
        obtain rfl : i = l.length := by omega
        exact ⟨by rw [anyB_false hgood, decide_eq_true hl]; rfl, rfl⟩
  · refine p1 ?_
    exact ⟨by rw [decide_eq_false hl]; rfl, rfl⟩
theorem asked_op {m : List Mt} (h3 : askedF m = true) : ∀ x ∈ m, 0 ≤ x.op ∧ x.op ≤ 3 := fun x hx => by
  unfold askedF at h3
  rw [Bool.and_eq_true, Bool.not_eq_true'] at h3
  obtain ⟨i, hi, rfl⟩ := List.getElem_of_mem hx
  have := anyB_get h3.1 i hi
  rw [show m.getD i default = m[i] by simp [hi], mbad, Bool.or_eq_false_iff, Bool.or_eq_false_iff, Bool.not_eq_false', Bool.not_eq_false', Bool.not_eq_false', decide_eq_true_iff] at this
  exact this.2.2
theorem sign_rt (n : Int) (h : n = -1 ∨ n = 0 ∨ n = 1) : Rt pg 31 [gi n] (gi n) := by
  refine Rt.of pg_ok Tryd.func31 rfl Tryd.ntmps31 rfl Tryd.results31 Tryd.call31 fun H0 S0 w0 h0 g0 => ?_
  refine ⟨?_, rfl⟩
  rcases h with rfl | rfl | rfl <;> rfl
abbrev bA : ByteArray := ⟨#[97]⟩
abbrev bX : ByteArray := ⟨#[120]⟩
abbrev bB : ByteArray := ⟨#[98]⟩
abbrev bY : ByteArray := ⟨#[121]⟩
theorem called_rt : Rt pg 30 [] (.b true) := by
  refine Rt.of pg_ok Tryd.func30 rfl Tryd.ntmps30 rfl Tryd.results30 Tryd.call30 fun H0 S0 w0 h0 g0 => ?_
  refine FRZ 0 rfl ?_
  have hs : ∀ x ∈ ([⟨bA, bX⟩, ⟨bB, bY⟩] : List Lb), x.name.size ≤ 1000 ∧ x.value.size ≤ 1000 := fun x hx => by
    simp only [List.mem_cons, List.not_mem_nil, or_false] at hx
    rcases hx with rfl | rfl <;> decide
  have hl : Hl [⟨bA, bX⟩, ⟨bB, bY⟩] := ⟨by simp, fun x hx => (hs x hx).1, fun x hx => (hs x hx).2⟩
  refine GO ((right_rt [⟨bA, bX⟩, ⟨bB, bY⟩] hl.sh).bt (d := true) (by decide +kernel)) rfl ?_
  refine GO (ltext_rt [⟨bA, bX⟩, ⟨bB, bY⟩] hl) rfl ?_
  refine p1 ?_ (by decide +kernel)
  refine FRZ 1 rfl ?_
  refine GO ((lall_rt [⟨bA, bX⟩, ⟨bB, bY⟩] [⟨bA, 2, bX⟩, ⟨⟨#[99]⟩, 0, ⟨#[]⟩⟩] (by decide)).bt (d := true) (by decide +kernel)) rfl ?_
  refine ⟨by decide, by decide, by decide, ?_⟩
  refine GO (lcompare_rt [⟨bA, bX⟩] [⟨bA, bX⟩, ⟨bB, bY⟩]) rfl ?_
  exact ⟨by show decide _ = true; decide +kernel, rfl⟩
set_option maxHeartbeats 1000000 in
theorem labelOrder_rt (a b c : List Lb) : Rt pg 5 [.sl 2 (a.map lb), .sl 2 (b.map lb), .sl 2 (c.map lb)] (.b true) := by
  refine Rt.of pg_ok Tryd.func5 rfl Tryd.ntmps5 rfl Tryd.results5 Tryd.call5 fun H0 S0 w0 h0 g0 => ?_
  cases h1 : shL a with
  | false =>
    refine GO ((kshortL_rt a).bt h1) rfl ?_
    exact ⟨rfl, rfl⟩
  | true =>
  refine GO ((kshortL_rt a).bt h1) rfl ?_
  cases h2 : shL b with
  | false =>
    refine GO ((kshortL_rt b).bt h2) rfl ?_
    exact ⟨rfl, rfl⟩
  | true =>
  refine GO ((kshortL_rt b).bt h2) rfl ?_
  cases h3 : shL c with
  | false =>
    refine GO ((kshortL_rt c).bt h3) rfl ?_
    exact ⟨rfl, rfl⟩
  | true =>
  refine GO ((kshortL_rt c).bt h3) rfl ?_
  refine GO (called_rt.bt rfl) rfl ?_
  have hA := shL_Hl h1
  have hB := shL_Hl h2
  have hc := cmpF_is
  refine GO (lcompare_rt a b) rfl ?_
  refine GO (sign_rt _ (hc.rng a b)) rfl ?_
  refine GO (lcompare_rt b c) rfl ?_
  refine GO (sign_rt _ (hc.rng b c)) rfl ?_
  refine GO (lcompare_rt a c) rfl ?_
  refine GO (sign_rt _ (hc.rng a c)) rfl ?_
  refine GO (lcompare_rt b a) rfl ?_
  refine GO (sign_rt _ (hc.rng b a)) rfl ?_
  have hneg : IntKind.i64.wrap (0 - cmpF b a) = cmpF a b := by
    have := hc.rng a b
    rw [hc.anti a b, wrap_id (by omega) (by omega)]
    omega
  refine p4 ?_ (by rw [hneg]; simp)
  refine GO (lcompare_rt a a) rfl ?_
  refine p4 ?_ (by rw [hc.self]; rfl)
  have r1 := hc.rng a b
  have r2 := hc.rng b c
  have t1 := hc.trans a b c
  have t2 := hc.trans c b a
  have e1 := hc.eq0 a b
  have e2 := hc.eq0 b c
  have n1 := hc.anti a b
  have n2 := hc.anti b c
  have n3 := hc.anti a c
  have k1 : cmpF a b = cmpF b c → cmpF a c = cmpF a b := fun h => by
    rcases r1 with h4 | h4 | h4
    · rw [t1 h4 (by omega), h4]
    · rw [e1.1 h4]; rw [e1.1 h4] at h; omega
    · have := t2 (by omega) (by omega); omega
  have k2 : cmpF a b = 0 → cmpF a c = cmpF b c := fun h => by rw [e1.1 h]
  have k3 : cmpF b c = 0 → cmpF a c = cmpF a b := fun h => by rw [e2.1 h]
  have f1 : (cmpF a b == cmpF b c) = true → (cmpF a c != cmpF a b) = false := fun h => by rw [k1 (by simpa using h)]; simp
  have f2 : (cmpF a b == 0) = true → (cmpF a c != cmpF b c) = false := fun h => by rw [k2 (by simpa using h)]; simp
  have f3 : (cmpF b c == 0) = true → (cmpF a c != cmpF a b) = false := fun h => by rw [k3 (by simpa using h)]; simp
  clear k1 k2 k3 t1 t2 e2 n1 n2 n3 r1 r2 hneg
  refine Or.elim (tf (cmpF a b == cmpF b c)) (fun q1 => ?_) (fun q1 => ?_) <;> refine Or.elim (tf (cmpF a b == 0)) (fun q2 => ?_) (fun q2 => ?_) <;> refine Or.elim (tf (cmpF b c == 0)) (fun q3 => ?_) (fun q3 => ?_) <;>
    (try have q4 := f1 q1) <;> (try have q5 := f2 q2) <;> (try have q6 := f3 q3) <;>
    (repeat (first | refine pos (by with_reducible first | rfl | assumption) ?_ | refine neg (by with_reducible first | rfl | assumption) ?_ | refine pos' (by with_reducible first | rfl | assumption) ?_ | refine neg' (by with_reducible first | rfl | assumption) ?_))
  all_goals
    refine Or.elim (tf (rightF a)) (fun h4 => ?_) (fun h4 => ?_)
    · refine GO ((right_rt a hA.sh).bt h4) rfl ?_
      refine Or.elim (tf (rightF b)) (fun h5 => ?_) (fun h5 => ?_)
      · refine GO ((right_rt b hB.sh).bt h5) rfl ?_
        refine GO (ltext_rt a hA) rfl ?_
        refine GO (ltext_rt b hB) rfl ?_
        refine ⟨?_, rfl⟩
        show (sEq (textF a) (textF b) == (cmpF a b == 0)) = true
        have := text_iff (right_clean h4) (right_clean h5)
        rw [beq_iff_eq, Bool.eq_iff_iff, sEq_iff, this, beq_iff_eq, e1]
      · refine GO ((right_rt b hB.sh).bt h5) rfl ?_
        exact ⟨rfl, rfl⟩
    · refine GO ((right_rt a hA.sh).bt h4) rfl ?_
      exact ⟨rfl, rfl⟩
set_option maxHeartbeats 1000000 in
theorem labelNot_rt (l : List Lb) (m more : List Mt) : Rt pg 6 [.sl 2 (l.map lb), .sl 3 (m.map mt), .sl 3 (more.map mt)] (.b true) := by
  refine Rt.of pg_ok Tryd.func6 rfl Tryd.ntmps6 rfl Tryd.results6 Tryd.call6 fun H0 S0 w0 h0 g0 => ?_
  have hll : (m.map mt).length = m.length := by simp
  have hll2 : (more.map mt).length = more.length := by simp
  cases h1 : shL l with
  | false =>
    refine GO ((kshortL_rt l).bt h1) rfl ?_
    exact ⟨rfl, rfl⟩
  | true =>
  refine GO ((kshortL_rt l).bt h1) rfl ?_
  cases h2 : shM m with
  | false =>
    refine GO ((kshortM_rt m).bt h2) rfl ?_
    exact ⟨rfl, rfl⟩
  | true =>
  refine GO ((kshortM_rt m).bt h2) rfl ?_
  cases h3 : shM more with
  | false =>
    refine GO ((kshortM_rt more).bt h3) rfl ?_
    exact ⟨rfl, rfl⟩
  | true =>
  refine GO ((kshortM_rt more).bt h3) rfl ?_
  refine GO (called_rt.bt rfl) rfl ?_
  obtain ⟨hm1, hm2⟩ := shM_le h2
  obtain ⟨hn1, hn2⟩ := shM_le h3
  cases h4 : askedF m with
  | false =>
    refine GO ((lasked_rt m (fun x hx => by have := hm2 x hx; omega)).bt h4) rfl ?_
    exact ⟨rfl, rfl⟩
  | true =>
  refine GO ((lasked_rt m (fun x hx => by have := hm2 x hx; omega)).bt h4) rfl ?_
  cases h5 : askedF more with
  | false =>
    refine GO ((lasked_rt more (fun x hx => by have := hn2 x hx; omega)).bt h5) rfl ?_
    exact ⟨rfl, rfl⟩
  | true =>
  refine GO ((lasked_rt more (fun x hx => by have := hn2 x hx; omega)).bt h5) rfl ?_
  have hop := asked_op h4
  refine JK.loopE (α := Nat) (β := Unit) (fun i => ⟨[(0, .sl 2 (l.map lb)), (1, .sl 3 (m.map mt)), (2, .sl 3 (more.map mt)), (7, gi i)], [], 0⟩) (fun i => i ≤ m.length) (fun i => m.length - i) (fun _ => ⟨[(0, .sl 2 (l.map lb)), (1, .sl 3 (m.map mt)), (2, .sl 3 (more.map mt))], [], 0⟩) (fun _ => True) 0 id ?_ (Nat.zero_le _) ?_ ?_
  · exact ⟨⟨rfl, rfl, rfl, rfl, trivial⟩, trivial, rfl⟩
  · rintro i hi
    refine V ?_
    by_cases hlt : i < m.length
    · have hopi := hop m[i] (List.getElem_mem hlt)
      have hfl := flip_one l m[i] hopi
      refine p1 ?_
      refine ix (h := ?_)
      have h4c : m[i].op = 0 ∨ m[i].op = 1 ∨ m[i].op = 2 ∨ m[i].op = 3 := by omega
      have hfo : ∃ n, (flipM m[i]).op = n ∧ (([.v (.int .i64 1), .v (.int .i64 0), .v (.int .i64 3), .v (.int .i64 2)] : List GV)[m[i].op.toNat]? = some (gi n)) := by
        rcases h4c with h | h | h | h <;> rw [h] <;> refine ⟨_, rfl, ?_⟩ <;> simp [flipM, h]
      obtain ⟨n, hn, hg⟩ := hfo
      refine ⟨gi n, by omega, by omega, hg, ?_⟩
      have hmt : mt (flipM m[i]) = [gs m[i].name, gi n, gs m[i].value] := by rw [← hn]; rfl
      refine DRAW [] false (tk [0, 1, 3, 4, 5, 6, 7]) (by kernel_rfl) ?_
      refine ix (h := ?_)
      refine RGO 2 false [] (lone_rt l (flipM m[i])) rfl (by rw [hmt]; rfl) (by kernel_rfl) ?_
      refine RGO 8 true (tk [9]) (lone_rt l m[i]) rfl rfl (by kernel_rfl) ?_
      refine V ?_
      refine p2 ?_ (by rw [hfl]; cases oneF l m[i] <;> rfl)
      exact ⟨i + 1, id, ⟨⟨rfl, rfl, rfl, succ_gi (by omega), trivial⟩, trivial, rfl⟩, hlt, by show m.length - (i + 1) < m.length - i; omega⟩
    · refine p2 ?_
      exact ⟨(), id, ⟨⟨rfl, rfl, rfl, trivial⟩, trivial, rfl⟩, trivial⟩
  · rintro _ _
    refine V ?_
    refine ⟨by simp; omega, ?_⟩
    refine ⟨by simp; omega, ?_⟩
    refine FRZ 2 rfl ?_
    refine GO (lall_rt l (m ++ more) (by simp; omega)) (by rw [List.map_append]; rfl) ?_
    cases h6 : allF l m with
    | false =>
      refine GO ((lall_rt l m (by omega)).bt h6) rfl ?_
      refine p1 ?_ (by unfold allF at h6 ⊢; rw [List.all_append, h6]; rfl)
      refine GO (Rq.nl (pre := [.sl 2 (l.map lb)]) (suf := []) (z := 3) (lall_rt l [] (by simp))) rfl ?_
      exact ⟨rfl, rfl⟩
    | true =>
      refine GO ((lall_rt l m (by omega)).bt h6) rfl ?_
      refine GO (lall_rt l more (by omega)) rfl ?_
      refine p1 ?_ (by unfold allF at h6 ⊢; rw [List.all_append, h6]; simp)
      refine GO (Rq.nl (pre := [.sl 2 (l.map lb)]) (suf := []) (z := 3) (lall_rt l [] (by simp))) rfl ?_
      exact ⟨rfl, rfl⟩
end Go.Proofs.YtfagagfokmlgiaaDoor
