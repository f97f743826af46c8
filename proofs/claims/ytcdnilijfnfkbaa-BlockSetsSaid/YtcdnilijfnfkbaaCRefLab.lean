/-
  Contracts: the document's answer on labels and matchers (chapter 4).
-/
import Derived.Test.YtcdnilijfnfkbaaCLab3
namespace Go.Proofs.Ytcdnilijfnfkbaa
open Go.GK Go.PL Go.RowKit
set_option maxRecDepth 100000
theorem sLt_le (a b : ByteArray) : (Op.bytesLess a.toList b.toList || a.toList == b.toList) = !sLt b a := by
  show (sLt a b || sEq a b) = _
  have h := cmpS_is
  rw [sLt_cmp, sLt_cmp, Bool.eq_iff_iff]
  simp only [Bool.or_eq_true, decide_eq_true_iff, sEq_iff, Bool.not_eq_true', decide_eq_false_iff_not]
  rw [h.anti a b, ← h.eq0]
  have := h.rng a b
  omega
theorem in_rt (n a b : Int) : Rt pg 18 [gi n, gi a, gi b] (.b (decide (a ≤ n ∧ n ≤ b))) := by
  refine Rt.of pg_ok Try.func18 rfl Try.ntmps18 rfl Try.results18 Try.call18 fun H0 S0 w0 h0 g0 => ?_
  by_cases h : a ≤ n
  · refine p1 ?_
    exact ⟨by show decide (n ≤ b) = _; rw [decide_eq_decide]; omega, rfl⟩
  · refine p2 ?_
    exact ⟨by rw [decide_eq_false (by omega)]; rfl, rfl⟩
theorem letter_rt (c : UInt8) : Rt pg 37 [gb c] (.b (letB c)) := by
  refine Rt.of pg_ok Try.func37 rfl Try.ntmps37 rfl Try.results37 Try.call37 fun H0 S0 w0 h0 g0 => ?_
  unfold letB
  by_cases h1 : 97 ≤ c.toNat <;> by_cases h2 : c.toNat ≤ 122 <;> by_cases h3 : 65 ≤ c.toNat <;> by_cases h4 : c.toNat ≤ 90 <;> by_cases h5 : c.toNat = 95 <;> first | (exfalso; omega) | skip
  all_goals
    simp only [h1, h2, h3, h4, h5, and_self, and_true, and_false, decide_true, decide_false, Bool.or_true, Bool.or_false]
    repeat (first | refine p1 ?_ | refine p2 ?_ | refine p3 ?_ | refine p4 ?_)
    refine ⟨?_, rfl⟩
    first | rfl | (show decide _ = _; simp; omega) | (show (_ == _) = _; simp; omega)
theorem digit_rt (c : UInt8) : Rt pg 38 [gb c] (.b (digB c)) := by
  refine Rt.of pg_ok Try.func38 rfl Try.ntmps38 rfl Try.results38 Try.call38 fun H0 S0 w0 h0 g0 => ?_
  unfold digB
  by_cases h : 48 ≤ c.toNat
  · refine p1 ?_
    exact ⟨by show decide _ = _; rw [decide_eq_decide]; omega, rfl⟩
  · refine p2 ?_
    exact ⟨by rw [decide_eq_false (by omega)]; rfl, rfl⟩
theorem refName_rt (s : ByteArray) (hs : s.size < 4611686018427387904) : Rt pg 19 [gs s] (.b (nameF s)) := by
  refine Rt.of pg_ok Try.func19 rfl Try.ntmps19 rfl Try.results19 Try.call19 fun H0 S0 w0 h0 g0 => ?_
  refine JK.loop (α := Nat) (fun i => ⟨[(0, gs s), (5, gi s.size), (6, gi i)], [], 0⟩) (fun i => i ≤ s.size ∧ ∀ j, j < i → nbad s j = false) (fun i => s.size - i) 0 id ?_ ⟨Nat.zero_le _, fun j hj => absurd hj (by omega)⟩ ?_
  · exact ⟨⟨rfl, rfl, rfl, trivial⟩, trivial, rfl⟩
  · rintro i ⟨hi, hgood⟩
    refine V ?_
    by_cases hlt : i < s.size
    · have hv := nbad_some hlt
      have hbad : nbad s i = true → nameF s = false := fun h => by unfold nameF; rw [anyB_true hlt h]; rfl
      have hnext : nbad s i = false → ∀ j, j < i + 1 → nbad s j = false := fun h j hj => by
        rcases Nat.lt_succ_iff_lt_or_eq.1 hj with h1 | h1
        · exact hgood j h1
        · subst h1; exact h
      refine p1 ?_
      refine sx (h := ?_)
      cases h1 : letB s[i] with
      | true =>
        refine GO ((letter_rt s[i]).bt h1) rfl ?_
        exact ⟨i + 1, id, ⟨⟨rfl, rfl, succ_gi (by omega), trivial⟩, trivial, rfl⟩, ⟨hlt, hnext (by rw [hv, h1]; rfl)⟩, by show s.size - (i + 1) < s.size - i; omega⟩
      | false =>
        refine GO ((letter_rt s[i]).bt h1) rfl ?_
        by_cases h2 : i = 0
        · refine p3 ?_ (by simpa using h2)
          exact ⟨(hbad (by rw [hv, h1, (by simpa using h2 : (i == 0) = true)]; rfl)).symm, rfl⟩
        · refine p4 ?_ (by simpa using h2)
          refine sx (h := ?_)
          have h2' : (i == 0) = false := by simpa using h2
          cases h3 : digB s[i] with
          | true =>
            refine GO ((digit_rt s[i]).bt h3) rfl ?_
            exact ⟨i + 1, id, ⟨⟨rfl, rfl, succ_gi (by omega), trivial⟩, trivial, rfl⟩, ⟨hlt, hnext (by rw [hv, h1, h2', h3]; rfl)⟩, by show s.size - (i + 1) < s.size - i; omega⟩
          | false =>
            refine GO ((digit_rt s[i]).bt h3) rfl ?_
            exact ⟨(hbad (by rw [hv, h1, h2', h3]; rfl)).symm, rfl⟩
    · refine p2 ?_
      refine V ?_
      refine GO (in_rt s.size 1 24) rfl ?_
      obtain rfl : i = s.size := by omega
      refine ⟨?_, rfl⟩
      unfold nameF
      rw [anyB_false hgood]
      show decide _ = _
      simp only [Bool.not_false, Bool.true_and, decide_eq_decide]
      omega
theorem says_rt (s : ByteArray) (hs : s.size < 4611686018427387904) : Rt pg 20 [gs s] (.b (valueF s)) := by
  refine Rt.of pg_ok Try.func20 rfl Try.ntmps20 rfl Try.results20 Try.call20 fun H0 S0 w0 h0 g0 => ?_
  refine JK.loop (α := Nat) (fun i => ⟨[(0, gs s), (5, gi s.size), (6, gi i)], [], 0⟩) (fun i => i ≤ s.size ∧ ∀ j, j < i → vbad s j = false) (fun i => s.size - i) 0 id ?_ ⟨Nat.zero_le _, fun j hj => absurd hj (by omega)⟩ ?_
  · exact ⟨⟨rfl, rfl, rfl, trivial⟩, trivial, rfl⟩
  · rintro i ⟨hi, hgood⟩
    refine V ?_
    by_cases hlt : i < s.size
    · have hv := vbad_some hlt
      have hbad : vbad s i = true → valueF s = false := fun h => by unfold valueF; rw [anyB_true hlt h]; rfl
      have hnext : vbad s i = false → ∀ j, j < i + 1 → vbad s j = false := fun h j hj => by
        rcases Nat.lt_succ_iff_lt_or_eq.1 hj with h1 | h1
        · exact hgood j h1
        · subst h1; exact h
      have hc : IntKind.i64.wrap (s[i].toNat : Int) = (s[i].toNat : Int) := wrap_id (by omega) (by have := s[i].toNat_lt; omega)
      refine p1 ?_
      refine sx (h := ?_)
      by_cases h1 : 32 ≤ s[i].toNat ∧ s[i].toNat ≤ 126
      · refine GO ((in_rt (IntKind.i64.wrap (s[i].toNat : Int)) 32 126).bt (d := true) (by rw [hc]; exact decide_eq_true (by omega))) rfl ?_
        have h6 : ¬ s[i].toNat < 32 := by omega
        have h7 : ¬ 126 < s[i].toNat := by omega
        by_cases h3 : s[i].toNat = 34 <;> by_cases h4 : s[i].toNat = 92 <;>
          simp only [h6, h7, h3, h4, decide_true, decide_false, Bool.true_or, Bool.or_true, Bool.or_false] at hv <;>
          (repeat (first | refine p1 ?_ | refine p2 ?_ | refine p3 ?_ | refine p4 ?_ | refine sx (h := ?_))) <;>
          first | exact ⟨(hbad hv).symm, rfl⟩ | exact ⟨i + 1, id, ⟨⟨rfl, rfl, succ_gi (by omega), trivial⟩, trivial, rfl⟩, ⟨hlt, hnext hv⟩, by show s.size - (i + 1) < s.size - i; omega⟩
      · refine GO ((in_rt (IntKind.i64.wrap (s[i].toNat : Int)) 32 126).bt (d := false) (by rw [hc]; exact decide_eq_false (by omega))) rfl ?_
        refine ⟨(hbad ?_).symm, rfl⟩
        rw [hv]
        by_cases h2 : s[i].toNat < 32
        · rw [decide_eq_true h2]; rfl
        · rw [decide_eq_true (by omega : 126 < s[i].toNat)]; simp
    · refine p2 ?_
      refine V ?_
      obtain rfl : i = s.size := by omega
      refine ⟨?_, rfl⟩
      unfold valueF
      rw [anyB_false hgood]
      show decide _ = _
      simp only [Bool.not_false, Bool.true_and, decide_eq_decide]
      omega

theorem labelsW_rt (l : List Lb) (hlen : l.length ≤ 1000000) (hsz : ∀ x ∈ l, x.name.size < 4611686018427387904 ∧ x.value.size < 4611686018427387904) : Rt pg 15 [.sl 2 (l.map lb)] (.b (rightF l)) := by
  refine Rt.of pg_ok Try.func15 rfl Try.ntmps15 rfl Try.results15 Try.call15 fun H0 S0 w0 h0 g0 => ?_
  have hl1 := hlen
  have hll : (l.map lb).length = l.length := by simp
  refine JK.loop (α := Nat) (fun i => ⟨[(0, .sl 2 (l.map lb)), (5, .sl 2 (l.map lb)), (6, gi (l.map lb).length), (7, gi i)], [], 0⟩) (fun i => i ≤ l.length ∧ ∀ j, j < i → lbad l j = false) (fun i => l.length - i) 0 id ?_ ⟨Nat.zero_le _, fun j hj => absurd hj (by omega)⟩ ?_
  · exact ⟨⟨rfl, rfl, rfl, rfl, trivial⟩, trivial, rfl⟩
  · rintro i ⟨hi, hgood⟩
    refine V ?_
    by_cases hlt : i < l.length
    · have hv := lbad_at hlt
      have hbad : lbad l i = true → rightF l = false := fun h => by unfold rightF; rw [anyB_true hlt h]; rfl
      have hnext : lbad l i = false → ∀ j, j < i + 1 → lbad l j = false := fun h j hj => by
        rcases Nat.lt_succ_iff_lt_or_eq.1 hj with h1 | h1
        · exact hgood j h1
        · subst h1; exact h
      have hnm := refName_rt l[i].name (hsz l[i] (List.getElem_mem hlt)).1
      have hval := says_rt l[i].value (hsz l[i] (List.getElem_mem hlt)).2
      refine p1 ?_
      refine ix (h := ?_)
      refine DRAW [] false (tk [0, 1]) (by kernel_rfl) ?_
      cases h1 : nameF l[i].name with
      | false =>
        refine RGO 2 false (tk [3, 4, 5, 6]) (hnm.bt h1) rfl rfl (by kernel_rfl) ?_
        refine RSKIP 7 true (tk [8, 9, 10, 11, 12, 13, 14, 15, 16, 17, 18, 19, 20, 21, 22, 23, 24, 25, 26, 27, 28, 29]) rfl rfl (by kernel_rfl) ?_
        refine V ?_
        exact ⟨(hbad (by rw [hv, h1]; rfl)).symm, rfl⟩
      | true =>
        refine RGO 2 false (tk [3, 4, 5, 6]) (hnm.bt h1) rfl rfl (by kernel_rfl) ?_
        cases h2 : valueF l[i].value with
        | false =>
          refine RGO 7 true (tk [8, 9, 10, 11, 12, 13, 14, 15, 16, 17, 18, 19, 20, 21, 22, 23, 24, 25, 26, 27, 28, 29]) (hval.bt h2) rfl rfl (by kernel_rfl) ?_
          refine V ?_
          exact ⟨(hbad (by rw [hv, h1, h2]; rfl)).symm, rfl⟩
        | true =>
          refine RGO 7 true (tk [8, 9, 10, 11, 12, 13, 14, 15, 16, 17, 18, 19, 20, 21, 22, 23, 24, 25, 26, 27, 28, 29]) (hval.bt h2) rfl rfl (by kernel_rfl) ?_
          rw [h1, h2] at hv
          cases h3 : sEq l[i].value ⟨#[]⟩ with
          | true =>
            repeat (first | refine p1 ?_ | refine p2 ?_ | refine p3 ?_ | refine p4 ?_ | refine V ?_)
            exact ⟨(hbad (by rw [hv, h3]; rfl)).symm, rfl⟩
          | false =>
            rw [h3] at hv
            by_cases h4 : 0 < i
            · have ew : IntKind.i64.wrap ((i : Int) - 1) = ((i - 1 : Nat) : Int) := by rw [wrap_id (by omega) (by omega)]; omega
              have hle := sLt_le l[i].name (l[i - 1]'(by omega)).name
              cases h5 : sLt (l[i - 1]'(by omega)).name l[i].name with
              | false =>
                rw [h5] at hle
                repeat (first | refine p1 ?_ | refine p2 ?_ | refine p3 ?_ | refine p4 ?_ | refine V ?_ | refine idx (i - 1) ew (by omega) ?_ | refine p1 ?_ hle)
                exact ⟨(hbad (by rw [hv, h5, decide_eq_true h4]; rfl)).symm, rfl⟩
              | true =>
                rw [h5] at hle
                repeat (first | refine p1 ?_ | refine p2 ?_ | refine p3 ?_ | refine p4 ?_ | refine V ?_ | refine idx (i - 1) ew (by omega) ?_ | refine p2 ?_ hle)
                exact ⟨i + 1, id, ⟨⟨rfl, rfl, rfl, succ_gi (by omega), trivial⟩, trivial, rfl⟩, ⟨hlt, hnext (by rw [hv, h5, decide_eq_true h4]; rfl)⟩, by show l.length - (i + 1) < l.length - i; omega⟩
            · repeat (first | refine p1 ?_ | refine p2 ?_ | refine p3 ?_ | refine p4 ?_ | refine V ?_)
              exact ⟨i + 1, id, ⟨⟨rfl, rfl, rfl, succ_gi (by omega), trivial⟩, trivial, rfl⟩, ⟨hlt, hnext (by rw [hv, decide_eq_false h4]; rfl)⟩, by show l.length - (i + 1) < l.length - i; omega⟩
    · refine p2 ?_
      refine V ?_
      refine GO (in_rt _ 1 8) rfl ?_
      obtain rfl : i = l.length := by omega
      refine ⟨?_, rfl⟩
      unfold rightF
      rw [anyB_false hgood]
      show decide _ = _
      simp only [Bool.not_false, Bool.true_and, decide_eq_decide]
      omega
theorem labels_rt (l : List Lb) (hs : Hl l) : Rt pg 15 [.sl 2 (l.map lb)] (.b (rightF l)) :=
  labelsW_rt l (by have := hs.len; omega) fun x hx => ⟨by have := hs.name x hx; omega, by have := hs.value x hx; omega⟩
theorem tell_rt (l : List Lb) (n : ByteArray) : Rt pg 39 [.sl 2 (l.map lb), gs n] (gs (lgetF l n)) := by
  refine Rt.of pg_ok Try.func39 rfl Try.ntmps39 rfl Try.results39 Try.call39 fun H0 S0 w0 h0 g0 => ?_
  refine JK.len 0 rfl fun hlen _ => ?_
  have hlen' : l.length ≤ 9223372036854775807 := by simpa [maxLen] using hlen
  refine JK.loop (α := Nat) (fun i => ⟨[(1, gs n), (7, .sl 2 (l.map lb)), (8, gi (l.map lb).length), (9, gi i)], [], 0⟩) (fun i => i ≤ l.length ∧ lgetF (l.drop i) n = lgetF l n) (fun i => l.length - i) 0 id ?_ ⟨Nat.zero_le _, rfl⟩ ?_
  · exact ⟨⟨rfl, rfl, rfl, rfl, trivial⟩, trivial, rfl⟩
  · rintro i ⟨hi, hgood⟩
    refine V ?_
    have hll : (l.map lb).length = l.length := by simp
    by_cases hlt : i < l.length
    · rw [List.drop_eq_getElem_cons hlt] at hgood
      refine p1 ?_
      refine ix (h := ?_)
      cases h1 : sEq l[i].name n with
      | true =>
        refine p1 ?_ h1
        exact ⟨by rw [← hgood, lgetF, if_pos h1]; rfl, rfl⟩
      | false =>
        refine p2 ?_ h1
        exact ⟨i + 1, id, ⟨⟨rfl, rfl, rfl, succ_gi (by omega), trivial⟩, trivial, rfl⟩, ⟨hlt, by rw [← hgood, lgetF, if_neg (by rw [h1]; decide)]⟩, by show l.length - (i + 1) < l.length - i; omega⟩
    · refine p2 ?_
      refine V ?_
      obtain rfl : i = l.length := by omega
      rw [List.drop_length] at hgood
      exact ⟨by rw [← hgood]; rfl, rfl⟩
theorem refAsked_rt (l : List Mt) (hm : ∀ x ∈ l, x.name.size ≤ 1000 ∧ x.value.size ≤ 1000) (hl : l.length ≤ 100000) : Rt pg 7 [.sl 3 (l.map mt)] (.b (askedF l)) := by
  refine Rt.of pg_ok Try.func7 rfl Try.ntmps7 rfl Try.results7 Try.call7 fun H0 S0 w0 h0 g0 => ?_
  have hll : (l.map mt).length = l.length := by simp
  refine JK.loop (α := Nat) (fun i => ⟨[(0, .sl 3 (l.map mt)), (5, .sl 3 (l.map mt)), (6, gi (l.map mt).length), (7, gi i)], [], 0⟩) (fun i => i ≤ l.length ∧ ∀ j, j < i → mbad (l.getD j default) = false) (fun i => l.length - i) 0 id ?_ ⟨Nat.zero_le _, fun j hj => absurd hj (by omega)⟩ ?_
  · exact ⟨⟨rfl, rfl, rfl, rfl, trivial⟩, trivial, rfl⟩
  · rintro i ⟨hi, hgood⟩
    refine V ?_
    by_cases hlt : i < l.length
    · have hg : l.getD i default = l[i] := by simp [hlt]
      obtain ⟨hmn, hmv⟩ := hm l[i] (List.getElem_mem hlt)
      have hbad : mbad l[i] = true → askedF l = false := fun h => by unfold askedF; rw [anyB_true hlt (by rw [hg]; exact h)]; rfl
      have hnext : mbad l[i] = false → ∀ j, j < i + 1 → mbad (l.getD j default) = false := fun h j hj => by
        rcases Nat.lt_succ_iff_lt_or_eq.1 hj with h1 | h1
        · exact hgood j h1
        · subst h1; rw [hg]; exact h
      have hv : mbad l[i] = (!nameF l[i].name || (!valueF l[i].value || !decide (0 ≤ l[i].op ∧ l[i].op ≤ 3))) := rfl
      refine p1 ?_
      refine ix (h := ?_)
      cases h1 : nameF l[i].name with
      | false =>
        refine GO ((refName_rt l[i].name (by omega)).bt h1) rfl ?_
        exact ⟨(hbad (by rw [hv, h1]; rfl)).symm, rfl⟩
      | true =>
        refine GO ((refName_rt l[i].name (by omega)).bt h1) rfl ?_
        cases h2 : valueF l[i].value with
        | false =>
          refine GO ((says_rt l[i].value (by omega)).bt h2) rfl ?_
          exact ⟨(hbad (by rw [hv, h1, h2]; rfl)).symm, rfl⟩
        | true =>
          refine GO ((says_rt l[i].value (by omega)).bt h2) rfl ?_
          cases h3 : decide (0 ≤ l[i].op ∧ l[i].op ≤ 3) with
          | false =>
            refine GO ((in_rt l[i].op 0 3).bt h3) rfl ?_
            exact ⟨(hbad (by rw [hv, h1, h2, h3]; rfl)).symm, rfl⟩
          | true =>
            refine GO ((in_rt l[i].op 0 3).bt h3) rfl ?_
            exact ⟨i + 1, id, ⟨⟨rfl, rfl, rfl, succ_gi (by omega), trivial⟩, trivial, rfl⟩, ⟨hlt, hnext (by rw [hv, h1, h2, h3]; rfl)⟩, by show l.length - (i + 1) < l.length - i; omega⟩
    · refine p2 ?_
      refine V ?_
      obtain rfl : i = l.length := by omega
      refine ⟨?_, rfl⟩
      unfold askedF
      rw [anyB_false hgood]
      show decide _ = _
      simp only [Bool.not_false, Bool.true_and, decide_eq_decide]
      omega
end Go.Proofs.Ytcdnilijfnfkbaa
