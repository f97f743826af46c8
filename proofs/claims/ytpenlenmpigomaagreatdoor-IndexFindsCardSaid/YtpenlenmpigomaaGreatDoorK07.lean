/-
  Contracts: the document's answer on labels and matchers (chapter 4).
-/
import Derived.Test.YtpenlenmpigomaaGreatDoorK06
import Derived.Shelf.Strings.BuilderK
import Derived.Laws.OwnMore
import Derived.Shelf.Sort.Plain
import Derived.Shelf.Slices.In.SortNone
import Derived.Shelf.Slices.In.SortNone2
import Derived.Test.YtpenlenmpigomaaGreatDoorProg
namespace Go.Proofs.YtpenlenmpigomaaGreatDoor
open Go.GK Go.PL Go.RowKit
set_option maxRecDepth 100000
theorem sLt_le (a b : ByteArray) : (Op.bytesLess a.toList b.toList || a.toList == b.toList) = !sLt b a := by
  show (sLt a b || sEq a b) = _
  have h := cmpS_is
  rw [sLt_cmp, sLt_cmp, Bool.eq_iff_iff]
  simp only [Bool.or_eq_true, decide_eq_true_iff, sEq_iff, Bool.not_eq_true', decide_eq_false_iff_not]
  rw [h.anti a b, ← h.eq0]
  have := h.rng a b
  omega
theorem in_rt (n a b : Int) : Rt pg 19 [gi n, gi a, gi b] (.b (decide (a ≤ n ∧ n ≤ b))) := by
  refine Rt.of pg_ok Tryz.func19 rfl Tryz.ntmps19 rfl Tryz.results19 Tryz.call19 fun H0 S0 w0 h0 g0 => ?_
  by_cases h : a ≤ n
  · refine p1 ?_
    exact ⟨by show decide (n ≤ b) = _; rw [decide_eq_decide]; omega, rfl⟩
  · refine p2 ?_
    exact ⟨by rw [decide_eq_false (by omega)]; rfl, rfl⟩
theorem letter_rt (c : UInt8) : Rt pg 30 [gb c] (.b (letB c)) := by
  refine Rt.of pg_ok Tryz.func30 rfl Tryz.ntmps30 rfl Tryz.results30 Tryz.call30 fun H0 S0 w0 h0 g0 => ?_
  unfold letB
  by_cases h1 : 97 ≤ c.toNat <;> by_cases h2 : c.toNat ≤ 122 <;> by_cases h3 : 65 ≤ c.toNat <;> by_cases h4 : c.toNat ≤ 90 <;> by_cases h5 : c.toNat = 95 <;> first | (exfalso; omega) | skip
  all_goals
    simp only [h1, h2, h3, h4, h5, and_self, and_true, and_false, decide_true, decide_false, Bool.or_true, Bool.or_false]
    repeat (first | refine p1 ?_ | refine p2 ?_ | refine p3 ?_ | refine p4 ?_)
    refine ⟨?_, rfl⟩
    first | rfl | (show decide _ = _; simp; omega) | (show (_ == _) = _; simp; omega)
theorem digit_rt (c : UInt8) : Rt pg 31 [gb c] (.b (digB c)) := by
  refine Rt.of pg_ok Tryz.func31 rfl Tryz.ntmps31 rfl Tryz.results31 Tryz.call31 fun H0 S0 w0 h0 g0 => ?_
  unfold digB
  by_cases h : 48 ≤ c.toNat
  · refine p1 ?_
    exact ⟨by show decide _ = _; rw [decide_eq_decide]; omega, rfl⟩
  · refine p2 ?_
    exact ⟨by rw [decide_eq_false (by omega)]; rfl, rfl⟩
theorem refName_rt (s : ByteArray) (hs : s.size < 4611686018427387904) : Rt pg 17 [gs s] (.b (nameF s)) := by
  refine Rt.of pg_ok Tryz.func17 rfl Tryz.ntmps17 rfl Tryz.results17 Tryz.call17 fun H0 S0 w0 h0 g0 => ?_
  refine JK.loop (α := Nat) (fun i => ⟨[(0, gs s), (5, gi s.size), (6, gi i)], [], 0⟩) (fun i => i ≤ s.size ∧ ∀ j, j < i → nbad s j = false) (fun i => s.size - i) 0 id ?_ ⟨Nat.zero_le _, fun j hj => absurd hj (by omega)⟩ ?_
  · exact ⟨⟨rfl, rfl, rfl, trivial⟩, trivial, rfl⟩
  · rintro i ⟨hi, hgood⟩
    refine V ?_
    by_cases hlt : i < s.size
    · have hv := nbad_some hlt
      have hbad : nbad s i = true → nameF s = false := fun h => by unfold nameF; rw [anyB_true hlt h]; rfl
      have hnext : nbad s i = false → ∀ j, j < i + 1 → nbad s j = false := fun h j hj => by
        rcases Nat.lt_succ_iff_lt_or_eq.1 hj with h1 | h1
        · exact hgood j h1
        · subst h1; exact h
      refine p1 ?_
      refine sx (h := ?_)
      cases h1 : letB s[i] with
      | true =>
        refine GO ((letter_rt s[i]).bt h1) rfl ?_
        exact ⟨i + 1, id, ⟨⟨rfl, rfl, succ_gi (by omega), trivial⟩, trivial, rfl⟩, ⟨hlt, hnext (by rw [hv, h1]; rfl)⟩, by show s.size - (i + 1) < s.size - i; omega⟩
      | false =>
        refine GO ((letter_rt s[i]).bt h1) rfl ?_
        by_cases h2 : i = 0
        · refine p3 ?_ (by simpa using h2)
          exact ⟨(hbad (by rw [hv, h1, (by simpa using h2 : (i == 0) = true)]; rfl)).symm, rfl⟩
        · refine p4 ?_ (by simpa using h2)
          refine sx (h := ?_)
          have h2' : (i == 0) = false := by simpa using h2
          cases h3 : digB s[i] with
          | true =>
            refine GO ((digit_rt s[i]).bt h3) rfl ?_
            exact ⟨i + 1, id, ⟨⟨rfl, rfl, succ_gi (by omega), trivial⟩, trivial, rfl⟩, ⟨hlt, hnext (by rw [hv, h1, h2', h3]; rfl)⟩, by show s.size - (i + 1) < s.size - i; omega⟩
          | false =>
            refine GO ((digit_rt s[i]).bt h3) rfl ?_
            exact ⟨(hbad (by rw [hv, h1, h2', h3]; rfl)).symm, rfl⟩
    · refine p2 ?_
      refine V ?_
      refine GO (in_rt s.size 1 24) rfl ?_
      obtain rfl : i = s.size := by omega
      refine ⟨?_, rfl⟩
      unfold nameF
      rw [anyB_false hgood]
      show decide _ = _
      simp only [Bool.not_false, Bool.true_and, decide_eq_decide]
      omega
theorem says_rt (s : ByteArray) (hs : s.size < 4611686018427387904) : Rt pg 18 [gs s] (.b (valueF s)) := by
  refine Rt.of pg_ok Tryz.func18 rfl Tryz.ntmps18 rfl Tryz.results18 Tryz.call18 fun H0 S0 w0 h0 g0 => ?_
  refine JK.loop (α := Nat) (fun i => ⟨[(0, gs s), (5, gi s.size), (6, gi i)], [], 0⟩) (fun i => i ≤ s.size ∧ ∀ j, j < i → vbad s j = false) (fun i => s.size - i) 0 id ?_ ⟨Nat.zero_le _, fun j hj => absurd hj (by omega)⟩ ?_
  · exact ⟨⟨rfl, rfl, rfl, trivial⟩, trivial, rfl⟩
  · rintro i ⟨hi, hgood⟩
    refine V ?_
    by_cases hlt : i < s.size
    · have hv := vbad_some hlt
      have hbad : vbad s i = true → valueF s = false := fun h => by unfold valueF; rw [anyB_true hlt h]; rfl
      have hnext : vbad s i = false → ∀ j, j < i + 1 → vbad s j = false := fun h j hj => by
        rcases Nat.lt_succ_iff_lt_or_eq.1 hj with h1 | h1
        · exact hgood j h1
        · subst h1; exact h
      have hc : IntKind.i64.wrap (s[i].toNat : Int) = (s[i].toNat : Int) := wrap_id (by omega) (by have := s[i].toNat_lt; omega)
      refine p1 ?_
      refine sx (h := ?_)
      by_cases h1 : 32 ≤ s[i].toNat ∧ s[i].toNat ≤ 126
      · refine GO ((in_rt (IntKind.i64.wrap (s[i].toNat : Int)) 32 126).bt (d := true) (by rw [hc]; exact decide_eq_true (by omega))) rfl ?_
        have h6 : ¬ s[i].toNat < 32 := by omega
        have h7 : ¬ 126 < s[i].toNat := by omega
        by_cases h3 : s[i].toNat = 34 <;> by_cases h4 : s[i].toNat = 92 <;>
          simp only [h6, h7, h3, h4, decide_true, decide_false, Bool.true_or, Bool.or_true, Bool.or_false] at hv <;>
          (repeat (first | refine p1 ?_ | refine p2 ?_ | refine p3 ?_ | refine p4 ?_ | refine sx (h := ?_))) <;>
          first | exact ⟨(hbad hv).symm, rfl⟩ | exact ⟨i + 1, id, ⟨⟨rfl, rfl, succ_gi (by omega), trivial⟩, trivial, rfl⟩, ⟨hlt, hnext hv⟩, by show s.size - (i + 1) < s.size - i; omega⟩
      · refine GO ((in_rt (IntKind.i64.wrap (s[i].toNat : Int)) 32 126).bt (d := false) (by rw [hc]; exact decide_eq_false (by omega))) rfl ?_
        refine ⟨(hbad ?_).symm, rfl⟩
        rw [hv]
        by_cases h2 : s[i].toNat < 32
        · rw [decide_eq_true h2]; rfl
        · rw [decide_eq_true (by omega : 126 < s[i].toNat)]; simp
    · refine p2 ?_
      refine V ?_
      obtain rfl : i = s.size := by omega
      refine ⟨?_, rfl⟩
      unfold valueF
      rw [anyB_false hgood]
      show decide _ = _
      simp only [Bool.not_false, Bool.true_and, decide_eq_decide]
      omega

theorem labelsW_rt (l : List Lb) (hlen : l.length ≤ 1000000) (hsz : ∀ x ∈ l, x.name.size < 4611686018427387904 ∧ x.value.size < 4611686018427387904) : Rt pg 6 [.sl 2 (l.map lb)] (.b (rightF l)) := by
  refine Rt.of pg_ok Tryz.func6 rfl Tryz.ntmps6 rfl Tryz.results6 Tryz.call6 fun H0 S0 w0 h0 g0 => ?_
  have hl1 := hlen
  have hll : (l.map lb).length = l.length := by simp
  refine JK.loop (α := Nat) (fun i => ⟨[(0, .sl 2 (l.map lb)), (5, .sl 2 (l.map lb)), (6, gi (l.map lb).length), (7, gi i)], [], 0⟩) (fun i => i ≤ l.length ∧ ∀ j, j < i → lbad l j = false) (fun i => l.length - i) 0 id ?_ ⟨Nat.zero_le _, fun j hj => absurd hj (by omega)⟩ ?_
  · exact ⟨⟨rfl, rfl, rfl, rfl, trivial⟩, trivial, rfl⟩
  · rintro i ⟨hi, hgood⟩
    refine V ?_
    by_cases hlt : i < l.length
    · have hv := lbad_at hlt
      have hbad : lbad l i = true → rightF l = false := fun h => by unfold rightF; rw [anyB_true hlt h]; rfl
      have hnext : lbad l i = false → ∀ j, j < i + 1 → lbad l j = false := fun h j hj => by
        rcases Nat.lt_succ_iff_lt_or_eq.1 hj with h1 | h1
        · exact hgood j h1
        · subst h1; exact h
      have hnm := refName_rt l[i].name (hsz l[i] (List.getElem_mem hlt)).1
      have hval := says_rt l[i].value (hsz l[i] (List.getElem_mem hlt)).2
      refine p1 ?_
      refine ix (h := ?_)
      refine DRAW [] false (tk [0, 1]) (by kernel_rfl) ?_
      cases h1 : nameF l[i].name with
      | false =>
        refine RGO 2 false (tk [3, 4, 5, 6]) (hnm.bt h1) rfl rfl (by kernel_rfl) ?_
        refine RSKIP 7 true (tk [8, 9, 10, 11, 12, 13, 14, 15, 16, 17, 18, 19, 20, 21, 22, 23, 24, 25, 26, 27, 28, 29]) rfl rfl (by kernel_rfl) ?_
        refine V ?_
        exact ⟨(hbad (by rw [hv, h1]; rfl)).symm, rfl⟩
      | true =>
        refine RGO 2 false (tk [3, 4, 5, 6]) (hnm.bt h1) rfl rfl (by kernel_rfl) ?_
        cases h2 : valueF l[i].value with
        | false =>
          refine RGO 7 true (tk [8, 9, 10, 11, 12, 13, 14, 15, 16, 17, 18, 19, 20, 21, 22, 23, 24, 25, 26, 27, 28, 29]) (hval.bt h2) rfl rfl (by kernel_rfl) ?_
          refine V ?_
          exact ⟨(hbad (by rw [hv, h1, h2]; rfl)).symm, rfl⟩
        | true =>
          refine RGO 7 true (tk [8, 9, 10, 11, 12, 13, 14, 15, 16, 17, 18, 19, 20, 21, 22, 23, 24, 25, 26, 27, 28, 29]) (hval.bt h2) rfl rfl (by kernel_rfl) ?_
          rw [h1, h2] at hv
          cases h3 : sEq l[i].value ⟨#[]⟩ with
          | true =>
            repeat (first | refine p1 ?_ | refine p2 ?_ | refine p3 ?_ | refine p4 ?_ | refine V ?_)
            exact ⟨(hbad (by rw [hv, h3]; rfl)).symm, rfl⟩
          | false =>
            rw [h3] at hv
            by_cases h4 : 0 < i
            · have ew : IntKind.i64.wrap ((i : Int) - 1) = ((i - 1 : Nat) : Int) := by rw [wrap_id (by omega) (by omega)]; omega
              have hle := sLt_le l[i].name (l[i - 1]'(by omega)).name
              cases h5 : sLt (l[i - 1]'(by omega)).name l[i].name with
              | false =>
                rw [h5] at hle
                repeat (first | refine p1 ?_ | refine p2 ?_ | refine p3 ?_ | refine p4 ?_ | refine V ?_ | refine idx (i - 1) ew (by omega) ?_ | refine p1 ?_ hle)
                exact ⟨(hbad (by rw [hv, h5, decide_eq_true h4]; rfl)).symm, rfl⟩
              | true =>
                rw [h5] at hle
                repeat (first | refine p1 ?_ | refine p2 ?_ | refine p3 ?_ | refine p4 ?_ | refine V ?_ | refine idx (i - 1) ew (by omega) ?_ | refine p2 ?_ hle)
                exact ⟨i + 1, id, ⟨⟨rfl, rfl, rfl, succ_gi (by omega), trivial⟩, trivial, rfl⟩, ⟨hlt, hnext (by rw [hv, h5, decide_eq_true h4]; rfl)⟩, by show l.length - (i + 1) < l.length - i; omega⟩
            · repeat (first | refine p1 ?_ | refine p2 ?_ | refine p3 ?_ | refine p4 ?_ | refine V ?_)
              exact ⟨i + 1, id, ⟨⟨rfl, rfl, rfl, succ_gi (by omega), trivial⟩, trivial, rfl⟩, ⟨hlt, hnext (by rw [hv, decide_eq_false h4]; rfl)⟩, by show l.length - (i + 1) < l.length - i; omega⟩
    · refine p2 ?_
      refine V ?_
      refine GO (in_rt _ 1 8) rfl ?_
      obtain rfl : i = l.length := by omega
      refine ⟨?_, rfl⟩
      unfold rightF
      rw [anyB_false hgood]
      show decide _ = _
      simp only [Bool.not_false, Bool.true_and, decide_eq_decide]
      omega
theorem labels_rt (l : List Lb) (hs : Hl l) : Rt pg 6 [.sl 2 (l.map lb)] (.b (rightF l)) :=
  labelsW_rt l (by have := hs.len; omega) fun x hx => ⟨by have := hs.name x hx; omega, by have := hs.value x hx; omega⟩
theorem tell_rt (l : List Lb) (n : ByteArray) : Rt pg 23 [.sl 2 (l.map lb), gs n] (gs (lgetF l n)) := by
  refine Rt.of pg_ok Tryz.func23 rfl Tryz.ntmps23 rfl Tryz.results23 Tryz.call23 fun H0 S0 w0 h0 g0 => ?_
  refine JK.len 0 rfl fun hlen _ => ?_
  have hlen' : l.length ≤ 9223372036854775807 := by simpa [maxLen] using hlen
  refine JK.loop (α := Nat) (fun i => ⟨[(1, gs n), (7, .sl 2 (l.map lb)), (8, gi (l.map lb).length), (9, gi i)], [], 0⟩) (fun i => i ≤ l.length ∧ lgetF (l.drop i) n = lgetF l n) (fun i => l.length - i) 0 id ?_ ⟨Nat.zero_le _, rfl⟩ ?_
  · exact ⟨⟨rfl, rfl, rfl, rfl, trivial⟩, trivial, rfl⟩
  · rintro i ⟨hi, hgood⟩
    refine V ?_
    have hll : (l.map lb).length = l.length := by simp
    by_cases hlt : i < l.length
    · rw [List.drop_eq_getElem_cons hlt] at hgood
      refine p1 ?_
      refine ix (h := ?_)
      cases h1 : sEq l[i].name n with
      | true =>
        refine p1 ?_ h1
        exact ⟨by rw [← hgood, lgetF, if_pos h1]; rfl, rfl⟩
      | false =>
        refine p2 ?_ h1
        exact ⟨i + 1, id, ⟨⟨rfl, rfl, rfl, succ_gi (by omega), trivial⟩, trivial, rfl⟩, ⟨hlt, by rw [← hgood, lgetF, if_neg (by rw [h1]; decide)]⟩, by show l.length - (i + 1) < l.length - i; omega⟩
    · refine p2 ?_
      refine V ?_
      obtain rfl : i = l.length := by omega
      rw [List.drop_length] at hgood
      exact ⟨by rw [← hgood]; rfl, rfl⟩
theorem refAsked_rt (l : List Mt) (hm : ∀ x ∈ l, x.name.size ≤ 1000 ∧ x.value.size ≤ 1000) (hl : l.length ≤ 100000) : Rt pg 14 [.sl 3 (l.map mt)] (.b (askedF l)) := by
  refine Rt.of pg_ok Tryz.func14 rfl Tryz.ntmps14 rfl Tryz.results14 Tryz.call14 fun H0 S0 w0 h0 g0 => ?_
  have hll : (l.map mt).length = l.length := by simp
  refine JK.loop (α := Nat) (fun i => ⟨[(0, .sl 3 (l.map mt)), (5, .sl 3 (l.map mt)), (6, gi (l.map mt).length), (7, gi i)], [], 0⟩) (fun i => i ≤ l.length ∧ ∀ j, j < i → mbad (l.getD j default) = false) (fun i => l.length - i) 0 id ?_ ⟨Nat.zero_le _, fun j hj => absurd hj (by omega)⟩ ?_
  · exact ⟨⟨rfl, rfl, rfl, rfl, trivial⟩, trivial, rfl⟩
  · rintro i ⟨hi, hgood⟩
    refine V ?_
    by_cases hlt : i < l.length
    · have hg : l.getD i default = l[i] := by simp [hlt]
      obtain ⟨hmn, hmv⟩ := hm l[i] (List.getElem_mem hlt)
      have hbad : mbad l[i] = true → askedF l = false := fun h => by unfold askedF; rw [anyB_true hlt (by rw [hg]; exact h)]; rfl
      have hnext : mbad l[i] = false → ∀ j, j < i + 1 → mbad (l.getD j default) = false := fun h j hj => by
        rcases Nat.lt_succ_iff_lt_or_eq.1 hj with h1 | h1
        · exact hgood j h1
        · subst h1; rw [hg]; exact h
      have hv : mbad l[i] = (!nameF l[i].name || (!valueF l[i].value || !decide (0 ≤ l[i].op ∧ l[i].op ≤ 3))) := rfl
      refine p1 ?_
      refine ix (h := ?_)
      cases h1 : nameF l[i].name with
      | false =>
        refine GO ((refName_rt l[i].name (by omega)).bt h1) rfl ?_
        exact ⟨(hbad (by rw [hv, h1]; rfl)).symm, rfl⟩
      | true =>
        refine GO ((refName_rt l[i].name (by omega)).bt h1) rfl ?_
        cases h2 : valueF l[i].value with
        | false =>
          refine GO ((says_rt l[i].value (by omega)).bt h2) rfl ?_
          exact ⟨(hbad (by rw [hv, h1, h2]; rfl)).symm, rfl⟩
        | true =>
          refine GO ((says_rt l[i].value (by omega)).bt h2) rfl ?_
          cases h3 : decide (0 ≤ l[i].op ∧ l[i].op ≤ 3) with
          | false =>
            refine GO ((in_rt l[i].op 0 3).bt h3) rfl ?_
            exact ⟨(hbad (by rw [hv, h1, h2, h3]; rfl)).symm, rfl⟩
          | true =>
            refine GO ((in_rt l[i].op 0 3).bt h3) rfl ?_
            exact ⟨i + 1, id, ⟨⟨rfl, rfl, rfl, succ_gi (by omega), trivial⟩, trivial, rfl⟩, ⟨hlt, hnext (by rw [hv, h1, h2, h3]; rfl)⟩, by show l.length - (i + 1) < l.length - i; omega⟩
    · refine p2 ?_
      refine V ?_
      obtain rfl : i = l.length := by omega
      refine ⟨?_, rfl⟩
      unfold askedF
      rw [anyB_false hgood]
      show decide _ = _
      simp only [Bool.not_false, Bool.true_and, decide_eq_decide]
      omega
end Go.Proofs.YtpenlenmpigomaaGreatDoor
/-
  The ghost machine: a map behind its range loop.
-/
namespace Go.GK
open Go.RowKit
section
variable {cx : Cx} {T : Post}

/-- A map that was ranged is a map again: the iterator is looked at no more. -/
theorem JK.unrange {k : List It} {s : St} (id it : Nat) {kd : Option IntKind} {es : List (Value × GV)} {left : List Value} {cur : Option Value} (hid : hlook s.σ id = some (.itr it)) (hit : hlook s.σ it = some (.mr kd es left cur)) (hne : Nat.beq it id = false)
    (h : nfH ((id, .mp kd es) :: hdel (hdel s.σ it) id) fun σ => JK cx T k ⟨s.ρ, σ, s.n⟩) : JK cx T k s := by
  rw [nfH_eq] at h
  refine JK.upd _ (fun H a w hg hs ha => ?_) h
  obtain ⟨l1, l2, e1, e2, e0⟩ := hlook_split hit
  clear e0
  have hid2 : hlook (hdel s.σ it) id = some (.itr it) := by
    rw [e2]
    rw [e1] at hid
    clear e1 e2 h hg hs ha
    induction l1 with
    | nil =>
      have hid' : (bif Nat.beq it id then some (Res.mr kd es left cur) else hlook l2 id) = some (.itr it) := hid
      rw [hne] at hid'
      exact hid'
    | cons x r ih =>
      obtain ⟨j, y⟩ := x
      have hid' : (bif Nat.beq j id then some y else hlook (r ++ (it, Res.mr kd es left cur) :: l2) id) = some (.itr it) := hid
      show (bif Nat.beq j id then some y else hlook (r ++ l2) id) = some (.itr it)
      cases hb : Nat.beq j id with
      | true => rw [hb] at hid'; exact hid'
      | false => rw [hb] at hid'; exact ih hid'
  obtain ⟨m1, m2, e3, e4, _⟩ := hlook_split hid2
  have hmem := hlook_mem hit
  have hmem2 := hlook_mem hid
  obtain ⟨b, arr, clock, seen, hv, hbne, hwb, hok, hwi, hleft, hcur⟩ := hs.sat.holds _ hmem
  obtain ⟨hlt, hsv, _⟩ := hs.sat.holds _ hmem2
  have hsv' : H.sv id = H.sv it := hsv
  have hv' : H.sv id = .map (some b) := by rw [hsv', hv]
  have hsub : ∀ x ∈ m1 ++ m2, x ∈ s.σ := fun x hx => by
    have h1 : x ∈ hdel s.σ it := by
      rw [e3]
      rcases List.mem_append.1 hx with h | h <;> simp [h]
    rw [e2] at h1
    rw [e1]
    rcases List.mem_append.1 h1 with h | h <;> simp [h]
  have hbl : blks H (m1 ++ m2) = blks H (l1 ++ l2) := by
    rw [← e2, e3]
    simp [blks_append, blks_cons, blocks]
  have hnd := hs.sat.nodup
  rw [e1, blks_append, blks_cons] at hnd
  have n1 := List.nodup_append.1 hnd
  have n2 := List.nodup_append.1 n1.2.1
  have hbin : b ∈ blocks H (it, .mr kd es left cur) := by simp [blocks, hv, mapBlk]
  have hbo : b ∉ blks H (l1 ++ l2) := fun hb => by
    rw [blks_append] at hb
    rcases List.mem_append.1 hb with h1 | h1
    · exact n1.2.2 b h1 b (by simp [hbin]) rfl
    · exact n2.2.2 b hbin b h1 rfl
  have hbs : b ∈ blks H s.σ := by
    rw [e1, blks_append, blks_cons]
    simp [hbin]
  have hnew : blks H ((id, .mp kd es) :: (m1 ++ m2)) = b :: blks H (l1 ++ l2) := by
    rw [blks_cons, hbl]
    simp [blocks, hv', mapBlk]
  have hin : ∀ c ∈ blks H (l1 ++ l2), c ∈ blks H s.σ := fun c hc => by
    rw [e1, blks_append, blks_cons]
    rw [blks_append] at hc
    rcases List.mem_append.1 hc with h1 | h1 <;> simp [h1]
  refine ⟨H, hg, ⟨hs.n, ⟨hs.sat.ro, fun x hx => ?_, ?_, fun c hc => ?_, fun x hx => ?_⟩, ?_⟩, ⟨ha.env, ha.size, ha.defers⟩⟩
  · rw [e4] at hx
    rcases List.mem_cons.1 hx with rfl | hx
    · exact ⟨b, arr, clock, hv', hwb, hok⟩
    · exact hs.sat.holds x (hsub x hx)
  · rw [e4, hnew]
    refine List.nodup_cons.2 ⟨hbo, ?_⟩
    rw [blks_append]
    exact List.nodup_append.2 ⟨n1.1, n2.2.1, fun c hc d hd e => n1.2.2 c hc d (by simp [hd]) e⟩
  · rw [e4, hnew] at hc
    rcases List.mem_cons.1 hc with rfl | hc
    · exact hs.sat.free _ hbs
    · exact hs.sat.free _ (hin c hc)
  · rw [e4] at hx
    rcases List.mem_cons.1 hx with rfl | hx
    · exact hs.sat.ids (id, .itr it) hmem2
    · exact hs.sat.ids x (hsub x hx)
  · have hf := hs.fr
    refine ⟨hf.os, hf.tape, hf.output, hf.size, hf.keep, fun c hc => ?_, hf.fro, hf.le⟩
    rw [e4, hnew] at hc
    rcases List.mem_cons.1 hc with rfl | hc
    · exact hf.own _ hbs
    · exact hf.own _ (hin c hc)
end
end Go.GK
/-
  The ghost machine: maps given by lists of pairs, whose values are no own things.
-/
namespace Go.GK
open Go.RowKit
section
variable {α : Type}

/-- The same operations, on pairs. -/
def pfind (k : Value) : List (Value × α) → Option α
  | [] => none
  | (k', x) :: r => if vkey k k' = true then some x else pfind k r
def pput (k : Value) (x : α) : List (Value × α) → List (Value × α)
  | [] => [(k, x)]
  | (k', x') :: r => if vkey k k' = true then (k, x) :: r else (k', x') :: pput k x r
def pdel (k : Value) : List (Value × α) → List (Value × α)
  | [] => []
  | (k', x') :: r => if vkey k k' = true then r else (k', x') :: pdel k r
abbrev pes (enc : α → GV) (l : List (Value × α)) : List (Value × GV) := l.map fun x => (x.1, enc x.2)

theorem mfind_pes (enc : α → GV) (k : Value) : ∀ l : List (Value × α), mfind k (pes enc l) = (pfind k l).map enc
  | [] => rfl
  | (k', x) :: r => by
    show (if vkey k k' = true then some (enc x) else mfind k (pes enc r)) = (if vkey k k' = true then some x else pfind k r).map enc
    rw [mfind_pes enc k r]
    split <;> rfl
theorem mput_pes (enc : α → GV) (k : Value) (x : α) : ∀ l : List (Value × α), mput k (enc x) (pes enc l) = pes enc (pput k x l)
  | [] => rfl
  | (k', x') :: r => by
    show (if vkey k k' = true then (k, enc x) :: pes enc r else (k', enc x') :: mput k (enc x) (pes enc r)) = pes enc (if vkey k k' = true then (k, x) :: r else (k', x') :: pput k x r)
    rw [mput_pes enc k x r]
    split <;> rfl
theorem mdel_pes (enc : α → GV) (k : Value) : ∀ l : List (Value × α), mdel k (pes enc l) = pes enc (pdel k l)
  | [] => rfl
  | (k', x') :: r => by
    show (if vkey k k' = true then pes enc r else (k', enc x') :: mdel k (pes enc r)) = pes enc (if vkey k k' = true then r else (k', x') :: pdel k r)
    rw [mdel_pes enc k r]
    split <;> rfl
theorem idbM_pes (enc : α → GV) (n : Nat) (henc : ∀ x, idb n (enc x) = true) : ∀ l : List (Value × α), idbM n (pes enc l) = true
  | [] => rfl
  | (k, x) :: r => by
    show (idb n (enc x) && idbM n (pes enc r)) = true
    rw [idbM_pes enc n henc r, henc x]
    rfl
theorem renM_pes (enc : α → GV) (henc : ∀ x, idb 0 (enc x) = true) (f : Nat → Nat) (l : List (Value × α)) : renM f (pes enc l) = pes enc l := by
  unfold renM pes
  rw [List.map_map]
  exact List.map_congr_left fun x _ => by show (x.1, ren f (enc x.2)) = _; rw [ren_none f (henc x.2)]
theorem vkey_iff {kd : Option IntKind} {k k' : Value} (hk : sortB kd k = true) (hk' : sortB kd k' = true) : vkey k k' = true ↔ k = k' :=
  ⟨fun h => vkey_eq hk hk' h, fun h => by subst h; exact vkey_refl hk⟩
/-- What is found behind a put. -/
theorem pfind_put {kd : Option IntKind} {k k' : Value} (hk : sortB kd k = true) (hk' : sortB kd k' = true) (x : α) : ∀ l : List (Value × α), (∀ y ∈ l, sortB kd y.1 = true) → pfind k' (pput k x l) = if vkey k' k = true then some x else pfind k' l
  | [], _ => rfl
  | (q, y) :: r, hl => by
    have hq : sortB kd q = true := hl (q, y) (by simp)
    have ih := pfind_put hk hk' x r (fun z hz => hl z (by simp [hz]))
    show pfind k' (if vkey k q = true then (k, x) :: r else (q, y) :: pput k x r) = if vkey k' k = true then some x else (if vkey k' q = true then some y else pfind k' r)
    by_cases h : vkey k q = true
    · rw [if_pos h]
      have e : k = q := vkey_eq hk hq h
      show (if vkey k' k = true then some x else pfind k' r) = _
      by_cases h2 : vkey k' k = true
      · rw [if_pos h2, if_pos h2]
      · rw [if_neg h2, if_neg h2, ← e, if_neg h2]
    · rw [if_neg h]
      show (if vkey k' q = true then some y else pfind k' (pput k x r)) = _
      rw [ih]
      by_cases h2 : vkey k' k = true
      · rw [if_pos h2]
        have e : k' = k := vkey_eq hk' hk h2
        rw [e, if_neg h, if_pos (vkey_refl hk)]
      · rw [if_neg h2, if_neg h2]
theorem pput_keys {kd : Option IntKind} {k : Value} (hk : sortB kd k = true) (x : α) : ∀ l : List (Value × α), (∀ y ∈ l, sortB kd y.1 = true) → ∀ y ∈ pput k x l, sortB kd y.1 = true
  | [], _, y, hy => by
    rw [List.mem_singleton.1 hy]; exact hk
  | (q, z) :: r, hl, y, hy => by
    have hy' : y ∈ (if vkey k q = true then (k, x) :: r else (q, z) :: pput k x r) := hy
    by_cases h : vkey k q = true
    · rw [if_pos h] at hy'
      rcases List.mem_cons.1 hy' with rfl | hy'
      · exact hk
      · exact hl y (by simp [hy'])
    · rw [if_neg h] at hy'
      rcases List.mem_cons.1 hy' with rfl | hy'
      · exact hl (q, z) (by simp)
      · exact pput_keys hk x r (fun w hw => hl w (by simp [hw])) y hy'
theorem pdel_keys {kd : Option IntKind} (k : Value) : ∀ l : List (Value × α), (∀ y ∈ l, sortB kd y.1 = true) → ∀ y ∈ pdel k l, sortB kd y.1 = true
  | [], _, y, hy => by cases hy
  | (q, z) :: r, hl, y, hy => by
    have hy' : y ∈ (if vkey k q = true then r else (q, z) :: pdel k r) := hy
    by_cases h : vkey k q = true
    · rw [if_pos h] at hy'
      exact hl y (by simp [hy'])
    · rw [if_neg h] at hy'
      rcases List.mem_cons.1 hy' with rfl | hy'
      · exact hl (q, z) (by simp)
      · exact pdel_keys k r (fun w hw => hl w (by simp [hw])) y hy'
/-- No key twice. -/
def pnodup (l : List (Value × α)) : Prop := (l.map (·.1)).Nodup
theorem pfind_none {kd : Option IntKind} {k : Value} (hk : sortB kd k = true) : ∀ {l : List (Value × α)}, (∀ y ∈ l, sortB kd y.1 = true) → (pfind k l = none ↔ k ∉ l.map (·.1))
  | [], _ => by simp [pfind]
  | (q, y) :: r, hl => by
    have hq : sortB kd q = true := hl (q, y) (by simp)
    have ih := pfind_none hk (l := r) (fun z hz => hl z (by simp [hz]))
    show (if vkey k q = true then some y else pfind k r) = none ↔ _
    by_cases h : vkey k q = true
    · rw [if_pos h]
      have e := vkey_eq hk hq h
      simp [e]
    · rw [if_neg h, ih]
      have e : k ≠ q := fun e => h (by subst e; exact vkey_refl hk)
      simp [e]
theorem pput_nodup {kd : Option IntKind} {k : Value} (hk : sortB kd k = true) (x : α) : ∀ {l : List (Value × α)}, (∀ y ∈ l, sortB kd y.1 = true) → pnodup l → pnodup (pput k x l) ∧ ∀ q ∈ (pput k x l).map (·.1), q = k ∨ q ∈ l.map (·.1)
  | [], _, _ => ⟨by simp [pput, pnodup], by simp [pput]⟩
  | (q, y) :: r, hl, hn => by
    have hq : sortB kd q = true := hl (q, y) (by simp)
    obtain ⟨hn1, hn2⟩ := List.nodup_cons.1 hn
    obtain ⟨i1, i2⟩ := pput_nodup hk x (l := r) (fun z hz => hl z (by simp [hz])) hn2
    have e0 : pput k x ((q, y) :: r) = if vkey k q = true then (k, x) :: r else (q, y) :: pput k x r := rfl
    rw [e0]
    by_cases h : vkey k q = true
    · rw [if_pos h]
      have e := vkey_eq hk hq h
      subst e
      exact ⟨hn, fun z hz => .inr hz⟩
    · rw [if_neg h]
      have hne : q ≠ k := fun e => h (by subst e; exact vkey_refl hk)
      refine ⟨List.nodup_cons.2 ⟨fun hm => ?_, i1⟩, fun z hz => ?_⟩
      · rcases i2 _ hm with h1 | h1
        · exact hne h1
        · exact hn1 h1
      · rcases List.mem_cons.1 hz with rfl | hz
        · exact .inr (by simp)
        · rcases i2 _ hz with h1 | h1
          · exact .inl h1
          · exact .inr (by simp at h1 ⊢; exact .inr h1)
theorem pdel_mem {k : Value} : ∀ {l : List (Value × α)}, ∀ y ∈ pdel k l, y ∈ l
  | (q, z) :: r, y, hy => by
    have hy' : y ∈ (if vkey k q = true then r else (q, z) :: pdel k r) := hy
    by_cases h : vkey k q = true
    · rw [if_pos h] at hy'
      exact List.mem_cons_of_mem _ hy'
    · rw [if_neg h] at hy'
      rcases List.mem_cons.1 hy' with rfl | hy'
      · exact List.mem_cons_self
      · exact List.mem_cons_of_mem _ (pdel_mem y hy')
theorem pdel_nodup {k : Value} : ∀ {l : List (Value × α)}, pnodup l → pnodup (pdel k l)
  | [], _ => by simp [pdel, pnodup]
  | (q, y) :: r, hn => by
    obtain ⟨hn1, hn2⟩ := List.nodup_cons.1 hn
    show pnodup (if vkey k q = true then r else (q, y) :: pdel k r)
    by_cases h : vkey k q = true
    · rw [if_pos h]; exact hn2
    · rw [if_neg h]
      refine List.nodup_cons.2 ⟨fun hm => ?_, pdel_nodup hn2⟩
      obtain ⟨z, hz, e⟩ := List.mem_map.1 hm
      exact hn1 (by rw [← e]; exact List.mem_map_of_mem (pdel_mem z hz))
/-- What is found behind a delete. -/
theorem pfind_del {kd : Option IntKind} {k k' : Value} (hk : sortB kd k = true) (hk' : sortB kd k' = true) : ∀ {l : List (Value × α)}, (∀ y ∈ l, sortB kd y.1 = true) → pnodup l → pfind k' (pdel k l) = if vkey k' k = true then none else pfind k' l
  | [], _, _ => by show none = _; split <;> rfl
  | (q, y) :: r, hl, hn => by
    have hq : sortB kd q = true := hl (q, y) (by simp)
    have hr : ∀ z ∈ r, sortB kd z.1 = true := fun z hz => hl z (by simp [hz])
    obtain ⟨hn1, hn2⟩ := List.nodup_cons.1 hn
    have ih := pfind_del hk hk' hr hn2
    show pfind k' (if vkey k q = true then r else (q, y) :: pdel k r) = if vkey k' k = true then none else (if vkey k' q = true then some y else pfind k' r)
    by_cases h : vkey k q = true
    · rw [if_pos h]
      have e := vkey_eq hk hq h
      subst e
      by_cases h2 : vkey k' k = true
      · rw [if_pos h2]
        have e2 := vkey_eq hk' hk h2
        subst e2
        exact (pfind_none hk' hr).2 hn1
      · rw [if_neg h2, if_neg h2]
    · rw [if_neg h]
      show (if vkey k' q = true then some y else pfind k' (pdel k r)) = _
      rw [ih]
      by_cases h2 : vkey k' k = true
      · rw [if_pos h2]
        have e := vkey_eq hk' hk h2
        subst e
        rw [if_neg h, if_pos (vkey_refl hk')]
      · rw [if_neg h2, if_neg h2]
/-- What lies in a list without keys twice is found. -/
theorem pfind_mem {kd : Option IntKind} {k : Value} {x : α} (hk : sortB kd k = true) : ∀ {l : List (Value × α)}, (∀ y ∈ l, sortB kd y.1 = true) → pnodup l → (pfind k l = some x ↔ (k, x) ∈ l)
  | [], _, _ => by simp [pfind]
  | (q, y) :: r, hl, hn => by
    have hq : sortB kd q = true := hl (q, y) (by simp)
    obtain ⟨hn1, hn2⟩ := List.nodup_cons.1 hn
    have ih := pfind_mem (x := x) hk (l := r) (fun z hz => hl z (by simp [hz])) hn2
    show (if vkey k q = true then some y else pfind k r) = some x ↔ _
    by_cases h : vkey k q = true
    · rw [if_pos h]
      have e := vkey_eq hk hq h
      subst e
      constructor
      · intro h; cases h; simp
      · intro hm
        rcases List.mem_cons.1 hm with h1 | h1
        · cases h1; rfl
        · exact absurd (List.mem_map_of_mem (f := (·.1)) h1) hn1
    · rw [if_neg h, ih]
      have e : k ≠ q := fun e => h (by subst e; exact vkey_refl hk)
      simp [e]
end
end Go.GK
/-
  The ghost machine: own things packed behind one number.
-/
namespace Go.GK
open Go.RowKit

/-- A heap of its own: its number 0 is the number behind which it is packed. -/
def packP (n : Nat) (τ : Heap) (fp : List Nat) (ro : Nat → Option Obj) (b : Nat) (v : Value) (w : World) : Prop :=
  ∃ Hl : Hid, Hl.n = n ∧ Hl.bl 0 = b ∧ Hl.sv 0 = v ∧ (∀ c o, Hl.ro c = some o → ro c = some o) ∧ (∀ x ∈ τ, holds Hl w x) ∧ (∀ x ∈ τ, x.1 < n) ∧ blks Hl τ = fp

def pack (n : Nat) (τ : Heap) (fp : List Nat) : Abs where
  P := packP n τ fp
  fp := fp
  ex := fun ro b v w h c hc => by
    obtain ⟨Hl, _, _, _, _, h1, _, rfl⟩ := h
    obtain ⟨x, hx, hcx⟩ := List.mem_flatMap.1 hc
    exact holds_lt (h1 x hx) c hcx
  congr := fun ro b v w w' hw h => by
    obtain ⟨Hl, e1, e2, e3, h1, h2, h3, rfl⟩ := h
    exact ⟨Hl, e1, e2, e3, h1, fun x hx => holds_congr (fun c hc => hw c (List.mem_flatMap.2 ⟨x, hx, hc⟩)) (h2 x hx), h3, rfl⟩
  mono := fun ro ro' b v w hro h => by
    obtain ⟨Hl, e1, e2, e3, h1, h⟩ := h
    exact ⟨Hl, e1, e2, e3, fun c o hc => hro c o (h1 c o hc), h⟩

/-- Numbers of a packed heap, when it is unpacked. -/
def upf (id m : Nat) (i : Nat) : Nat := bif Nat.beq i 0 then id else m + i

theorem Sat.pack {H : Hid} {σ : Heap} {w : World} (h : Sat H σ w) {r : Nat → Nat} {n id : Nat} {τ : Heap} (hl : leσ r τ σ) (hb : idbH n τ = true) (hd : distB (hids r τ) = true) (h0 : r 0 = id) (hid : id < H.n) :
    ∃ fp, Sat H ((id, .ab (pack n τ fp)) :: hrest (hids r τ) σ) w ∧ ∀ b ∈ blks H ((id, .ab (GK.pack n τ fp)) :: hrest (hids r τ) σ), b ∈ blks H σ := by
  obtain ⟨hp, hpb⟩ := h.part hl hb hd
  have hbl : blks H ((id, .ab (GK.pack n τ (blks (H.via r n) τ))) :: hrest (hids r τ) σ) = blks (H.via r n) τ ++ blks H (hrest (hids r τ) σ) := by
    rw [blks_cons]; rfl
  have hin : ∀ b ∈ blks H ((id, .ab (GK.pack n τ (blks (H.via r n) τ))) :: hrest (hids r τ) σ), b ∈ blks H σ := fun b hb => by
    rw [hbl] at hb
    rcases List.mem_append.1 hb with hb | hb
    · obtain ⟨x, hx, _, hbx⟩ := hpb b hb
      exact List.mem_flatMap.2 ⟨x, hx, hbx⟩
    · obtain ⟨x, hx, hbx⟩ := List.mem_flatMap.1 hb
      exact List.mem_flatMap.2 ⟨x, (hrest_mem hx).1, hbx⟩
  refine ⟨blks (H.via r n) τ, ⟨h.ro, fun x hx => ?_, ?_, fun b hb => h.free b (hin b hb), fun x hx => ?_⟩, hin⟩
  · rcases List.mem_cons.1 hx with rfl | hx
    · exact ⟨H.via r n, rfl, by show H.bl (r 0) = _; rw [h0], by show H.sv (r 0) = _; rw [h0], fun _ _ h => h, hp.holds, hp.ids, rfl⟩
    · exact h.holds x (hrest_mem hx).1
  · rw [hbl]
    refine List.nodup_append.2 ⟨hp.nodup, hrest_nodup h.nodup, fun b hb c hc e => ?_⟩
    subst e
    obtain ⟨x, hx, hxi, hbx⟩ := hpb b hb
    obtain ⟨y, hy, hby⟩ := List.mem_flatMap.1 hc
    exact blks_apart h.nodup hx (hrest_mem hy).1 (fun e => (hrest_mem hy).2 (by rw [← e]; exact hxi)) b hbx hby
  · rcases List.mem_cons.1 hx with rfl | hx
    · exact hid
    · exact h.ids x (hrest_mem hx).1

section
variable {cx : Cx} {T : Post}

/-- OWN THINGS ARE PACKED behind one of their numbers. -/
theorem JK.pack {k : List It} {s : St} (r : Nat → Nat) (n id : Nat) (τ : Heap) (hl : leσ r τ s.σ) (chk : (idbH n τ && distB (hids r τ) && Nat.beq (r 0) id && Nat.blt id s.n) = true)
    (h : ∀ fp, nfH ((id, .ab (GK.pack n τ fp)) :: hrest (hids r τ) s.σ) fun σ => JK cx T k ⟨s.ρ, σ, s.n⟩) : JK cx T k s := by
  simp only [Bool.and_eq_true] at chk
  obtain ⟨⟨⟨h1, h2⟩, h3⟩, h4⟩ := chk
  intro H a w hg hs ha
  obtain ⟨fp, hsat, hin⟩ := hs.sat.pack hl h1 h2 (beq_eq h3) (by rw [hs.n]; exact blt_lt h4)
  have hk := h fp
  rw [nfH_eq] at hk
  refine hk H a w hg ⟨hs.n, hsat, ?_⟩ ha
  have hf := hs.fr
  exact ⟨hf.os, hf.tape, hf.output, hf.size, hf.keep, fun c hc => hf.own c (hin c hc), hf.fro, hf.le⟩

/-- .. AND UNPACKED. -/
theorem JK.unpack {k : List It} {s : St} (id : Nat) {n : Nat} {τ : Heap} {fp : List Nat} (hl : hlook s.σ id = some (.ab (GK.pack n τ fp)))
    (h : nfH (renH (upf id s.n) τ ++ hdel s.σ id) fun σ => nfN (s.n + n) fun m => JK cx T k ⟨s.ρ, σ, m⟩) : JK cx T k s := by
  rw [nfH_eq, nfN_eq] at h
  refine JK.upd _ (fun H a w hg hs ha => ?_) h
  obtain ⟨l1, l2, e1, e2, _⟩ := hlook_split hl
  have hmem := hlook_mem hl
  obtain ⟨Hl, hn, hb0, hv0, hro0, hh, hids, hfp⟩ := hs.sat.holds _ hmem
  have hidn : id < s.n := by rw [← hs.n]; exact hs.sat.ids _ hmem
  have hHn := hs.n
  let H' : Hid := { ro := H.ro, bl := fun i => if i < s.n then H.bl i else Hl.bl (i - s.n), sv := fun i => if i < s.n then H.sv i else Hl.sv (i - s.n), n := s.n + n }
  have hle : H.le H' := ⟨by show H.n ≤ s.n + n; omega, fun b o h => h, fun i hi => by show (if i < s.n then _ else _) = _; rw [if_pos (by omega)], fun i hi => by show (if i < s.n then _ else _) = _; rw [if_pos (by omega)]⟩
  have hf : ∀ i, i < Hl.n → upf id s.n i < H'.n ∧ H'.bl (upf id s.n i) = Hl.bl i ∧ H'.sv (upf id s.n i) = Hl.sv i := by
    intro i hi
    unfold upf
    cases hb : Nat.beq i 0 with
    | true =>
      have := beq_eq hb
      subst this
      simp only [cond_true]
      refine ⟨by show id < s.n + n; omega, ?_, ?_⟩
      · show (if id < s.n then H.bl id else _) = _
        rw [if_pos hidn, hb0]
      · show (if id < s.n then H.sv id else _) = _
        rw [if_pos hidn, hv0]
    | false =>
      simp only [cond_false]
      refine ⟨by show s.n + i < s.n + n; omega, ?_, ?_⟩
      · show (if s.n + i < s.n then _ else Hl.bl (s.n + i - s.n)) = _
        rw [if_neg (by omega), show s.n + i - s.n = i by omega]
      · show (if s.n + i < s.n then _ else Hl.sv (s.n + i - s.n)) = _
        rw [if_neg (by omega), show s.n + i - s.n = i by omega]
  have hro : ∀ b o, Hl.ro b = some o → H'.ro b = some o := hro0
  have hids' : ∀ x ∈ τ, x.1 < Hl.n := fun x hx => by rw [hn]; exact hids x hx
  have hb1 : blks H' (renH (upf id s.n) τ) = fp := (blks_renH (fun i hi => (hf i hi).2) hids').trans hfp
  have hsub : ∀ x ∈ l1 ++ l2, x ∈ s.σ := fun x hx => by
    rw [e1]
    rcases List.mem_append.1 hx with h | h <;> simp [h]
  have hb2 : blks H' (l1 ++ l2) = blks H (l1 ++ l2) := blks_le hle (fun x hx => hs.sat.ids x (hsub x hx))
  have hσ : blks H s.σ = blks H l1 ++ (fp ++ blks H l2) := by rw [e1, blks_append, blks_cons]; rfl
  have hin : ∀ b ∈ blks H' (renH (upf id s.n) τ ++ hdel s.σ id), b ∈ blks H s.σ := fun b hb => by
    rw [e2, blks_append, hb1, hb2, blks_append] at hb
    rw [hσ]
    simp only [List.mem_append] at hb ⊢
    rcases hb with h | h | h <;> simp [h]
  have hnd := hs.sat.nodup
  rw [hσ] at hnd
  refine ⟨H', fun g gv hgv => (hg g gv hgv).mono (fun _ _ h => h), ⟨rfl, ⟨hs.sat.ro, fun x hx => ?_, ?_, fun b hb => hs.sat.free b (hin b hb), fun x hx => ?_⟩, ?_⟩, ha.mono hle⟩
  · rcases List.mem_append.1 hx with hx | hx
    · obtain ⟨y, hy, rfl⟩ := mem_renH hx
      exact holds_ren hro hf (hids' y hy) (hh y hy)
    · rw [e2] at hx
      exact holds_le hle (hs.sat.ids x (hsub x hx)) (hs.sat.holds x (hsub x hx))
  · show (blks H' (renH (upf id s.n) τ ++ hdel s.σ id)).Nodup
    rw [e2, blks_append, hb1, hb2, blks_append]
    have hperm : (blks H l1 ++ (fp ++ blks H l2)).Perm (fp ++ (blks H l1 ++ blks H l2)) := by
      rw [← List.append_assoc, ← List.append_assoc]
      exact List.Perm.append_right _ List.perm_append_comm
    exact hperm.nodup_iff.1 hnd
  · rcases List.mem_append.1 hx with hx | hx
    · obtain ⟨y, hy, rfl⟩ := mem_renH hx
      exact (hf _ (hids' y hy)).1
    · rw [e2] at hx
      exact Nat.lt_of_lt_of_le (hs.sat.ids x (hsub x hx)) hle.n
  · have hfr := hs.fr
    exact ⟨hfr.os, hfr.tape, hfr.output, hfr.size, hfr.keep, fun c hc => hfr.own c (hin c hc), hfr.fro, hfr.le.trans hle⟩
end

theorem leσ_cons0 {A : Abs} {σ : Heap} : ∀ l : Heap, memB 0 (hids id l) = false → leσ id l σ → leσ id l ((0, .ab A) :: σ)
  | [], _, _ => trivial
  | (j, y) :: r, hm, hl => by
    simp only [hids, memB, Bool.or_eq_false_iff] at hm
    refine ⟨?_, leσ_cons0 r hm.2 hl.2⟩
    show (bif Nat.beq 0 (id j) then _ else hlook σ (id j)) = _
    rw [hm.1]
    exact hl.1

/-- A contract whose things are packed at its end, if they are not yet. -/
theorem Hf.pack {p : Pg} {f : FuncId} {n0 : Nat} {args : List GV} {σ : Heap} {Q Q' : GV → Heap → Nat → Prop} (h : Hf p f n0 args σ Q)
    (hQ : ∀ g σ' n', Q g σ' n' → ∃ rest, (Nat.blt 0 n0 && Nat.ble n0 n' && idb n0 g && idbH n0 rest && distB (0 :: hids id rest)) = true ∧
      ((∃ (r : Nat → Nat) (n : Nat) (τ : Heap), leσ r τ σ' ∧ leσ id rest (hrest (hids r τ) σ') ∧ (idbH n τ && distB (hids r τ) && Nat.beq (r 0) 0) = true ∧ ∀ fp, Q' g ((0, .ab (GK.pack n τ fp)) :: rest) n0) ∨
       ∃ A, hlook σ' 0 = some (.ab A) ∧ leσ id rest σ' ∧ Q' g ((0, .ab A) :: rest) n0)) : Hf p f n0 args σ Q' := by
  refine ⟨h.call, ?_⟩
  have key : Ct p f n0 args σ (fun g σ' n' => ∃ rest A, hlook σ' 0 = some (.ab A) ∧ leσ id rest σ' ∧ (Nat.blt 0 n0 && Nat.ble n0 n' && idb n0 g && idbH n0 rest && distB (0 :: hids id rest)) = true ∧ Q' g ((0, .ab A) :: rest) n0) := by
    intro H us w hn hg hc hs
    refine Calls.mono (h.ct H us w hn hg hc hs) (fun e w' he => ?_)
    obtain ⟨u, g, H', σ', rfl, hi, hs', hfr, hq⟩ := he
    obtain ⟨rest, hchk, hq⟩ := hQ g σ' _ hq
    rcases hq with ⟨r, n, τ, h1, h2, hchk2, h3⟩ | ⟨A, h1, h2, h3⟩
    · have hc1 := hchk
      simp only [Bool.and_eq_true] at hchk hchk2
      obtain ⟨⟨⟨⟨c4, c5⟩, c6⟩, c7⟩, c8⟩ := hchk
      obtain ⟨⟨c1, c2⟩, c3⟩ := hchk2
      have hn' := Nat.le_of_ble_eq_true c5
      have h00 := blt_lt c4
      obtain ⟨fp, hsat, hin⟩ := hs'.pack h1 c1 c2 (beq_eq c3) (by omega)
      simp only [distB, Bool.and_eq_true, Bool.not_eq_true'] at c8
      refine ⟨u, g, H', _, rfl, hi, hsat, ?_, rest, _, rfl, leσ_cons0 rest c8.1 h2, hc1, h3 fp⟩
      exact ⟨hfr.os, hfr.tape, hfr.output, hfr.size, hfr.keep, fun c hc => hfr.own c (hin c hc), hfr.fro, hfr.le⟩
    · exact ⟨u, g, H', σ', rfl, hi, hs', hfr, rest, A, h1, h2, hchk, h3⟩
  refine key.weak fun g σ' n' hq => ?_
  obtain ⟨rest, A, hh, hl, hchk, hq⟩ := hq
  simp only [Bool.and_eq_true] at hchk
  obtain ⟨⟨⟨⟨c4, c5⟩, c6⟩, c7⟩, c8⟩ := hchk
  have hfix : ∀ n, fixB id n = true := fun n => by
    induction n with
    | zero => rfl
    | succ n ih => simp [fixB, ih]
  refine ⟨id, g, (0, .ab A) :: rest, n0, hq, (ren_id g).symm, ⟨hh, hl⟩, ?_⟩
  simp only [idbH, idbR, Bool.and_eq_true]
  exact ⟨⟨⟨⟨c6, ⟨⟨c4, trivial⟩, c7⟩⟩, c8⟩, hfix n0⟩, by rw [Nat.ble_eq]; exact Nat.le_refl n0⟩

theorem Hf.eqG {p : Pg} {f : FuncId} {n0 : Nat} {args : List GV} {σ : Heap} {g : GV} {R : Heap → Nat → Prop} (h : Hf p f n0 args σ fun g' σ' n' => GK.eqG g g' ∧ R σ' n') : Hf p f n0 args σ fun g' σ' n' => g' = g ∧ R σ' n' := by
  refine ⟨h.call, fun H us w hn hg hc hs => ?_⟩
  refine Calls.mono (h.ct H us w hn hg hc hs) (fun e w' he => ?_)
  obtain ⟨u, g', H', σ', rfl, hi, hs', hfr, he, hR⟩ := he
  exact ⟨u, g, H', σ', rfl, eqG_is he hi, hs', hfr, rfl, hR⟩

theorem hset_look {σ : Heap} {id : Nat} {x : Res} (h : hlook σ id = some x) (y : Res) : hlook (hset σ id y) id = some y := by
  induction σ with
  | nil => cases h
  | cons z r ih =>
    obtain ⟨s, g⟩ := z
    unfold hset
    unfold hlook at h
    cases hb : Nat.beq s id with
    | true => simp only [cond_true]; unfold hlook; rw [hb]; rfl
    | false =>
      rw [hb] at h
      simp only [cond_false] at h ⊢
      unfold hlook
      rw [hb]
      exact ih h
theorem hset_other {σ : Heap} {id j : Nat} {y : Res} (hne : Nat.beq id j = false) : hlook (hset σ id y) j = hlook σ j := by
  induction σ with
  | nil => rfl
  | cons z r ih =>
    obtain ⟨s, g⟩ := z
    unfold hset
    cases hb : Nat.beq s id with
    | true =>
      have := beq_eq hb
      subst this
      simp only [cond_true]
      unfold hlook
      rw [hne]; rfl
    | false =>
      simp only [cond_false]
      unfold hlook
      rw [ih]

/-- A contract at whose end the cells of a block are told otherwise (a bool that is known, as one that is not). -/
theorem Hf.recell {p : Pg} {f : FuncId} {n0 : Nat} {args : List GV} {σ : Heap} {Q Q' : GV → Heap → Nat → Prop} (h : Hf p f n0 args σ Q) (id : Nat)
    (hQ : ∀ g σ' n', Q g σ' n' → ∃ ty cs cs', hlook σ' id = some (.blk ty cs) ∧ eqGs cs' cs ∧ Q' g (hset σ' id (.blk ty cs')) n') : Hf p f n0 args σ Q' := by
  refine ⟨h.call, fun H us w hn hg hc hs => ?_⟩
  refine Calls.mono (h.ct H us w hn hg hc hs) (fun e w' he => ?_)
  obtain ⟨u, g, H', σ', rfl, hi, hs', hfr, hq⟩ := he
  obtain ⟨ty, cs, cs', hl, he, hq'⟩ := hQ g σ' _ hq
  obtain ⟨l1, l2, e1, _, e3⟩ := hlook_split hl
  have e3 := e3 (.blk ty cs')
  have hin : ∀ x ∈ hset σ' id (.blk ty cs'), x = (id, .blk ty cs') ∨ x ∈ σ' := fun x hx => by
    rw [e3] at hx
    rw [e1]
    rcases List.mem_append.1 hx with h | h
    · exact .inr (by simp [h])
    · rcases List.mem_cons.1 h with h | h
      · exact .inl h
      · exact .inr (by simp [h])
  have hb : blks H' (hset σ' id (.blk ty cs')) = blks H' σ' := by rw [e3, e1, blks_append, blks_append, blks_cons, blks_cons]; rfl
  refine ⟨u, g, H', _, rfl, hi, ⟨hs'.ro, fun x hx => ?_, by rw [hb]; exact hs'.nodup, by rw [hb]; exact hs'.free, fun x hx => ?_⟩, by rw [hb]; exact hfr, hq'⟩
  · rcases hin x hx with rfl | hx
    · obtain ⟨us', hw, hlen, his⟩ := hs'.holds _ (hlook_mem hl)
      obtain ⟨e4, e5⟩ := eqGs_is (F := fun j => us'.getD j undef) cs' cs he his
      exact ⟨us', hw, by rw [e4]; exact hlen, e5⟩
    · exact hs'.holds x hx
  · rcases hin x hx with rfl | hx
    · exact hs'.ids (id, .blk ty cs) (hlook_mem hl)
    · exact hs'.ids x hx
section
variable {cx : Cx} {T : Post}
/-- Cells of an own block are told otherwise. -/
theorem JK.recell {k : List It} {s : St} (id : Nat) {ty : Nat} {cs : List GV} (cs' : List GV) (hl : hlook s.σ id = some (.blk ty cs)) (he : eqGs cs' cs) (h : nfH (hset s.σ id (.blk ty cs')) fun σ => JK cx T k ⟨s.ρ, σ, s.n⟩) : JK cx T k s := by
  rw [nfH_eq] at h
  refine JK.upd ⟨s.ρ, hset s.σ id (.blk ty cs'), s.n⟩ (fun H a w hg hs ha => ⟨H, hg, ?_, ha⟩) h
  obtain ⟨us', hw, hlen, his⟩ := hs.sat.holds _ (hlook_mem hl)
  obtain ⟨e4, e5⟩ := eqGs_is (F := fun j => us'.getD j undef) cs' cs he his
  exact hs.put (y := .blk ty cs') (w' := w) hl rfl rfl rfl rfl (Nat.le_refl _) (fun _ _ _ => rfl) ⟨us', hw, by rw [e4]; exact hlen, e5⟩ s.ρ
end
end Go.GK
/-
  strings.Builder: the shelf's walks once more, with what they change told exactly (one block, and its row of bytes).
-/
set_option linter.unusedVariables false
namespace Go.Lib
section
variable {P : Program} (w : World)
theorem ownsRowF_low {w : World} {base : Nat} {e : TypeId} {size : Nat} {v : Value} {n : Nat} {xs : List Value} (h : w.ownsRowF base e size v n xs) : w.ownsRowF 0 e size v n xs := by
  refine ⟨h.1, ?_⟩
  rcases h.2 with h | ⟨g, cap, cur, fz, h1, h2, h3⟩
  · exact .inl h
  · exact .inr ⟨g, cap, cur, fz, h1, Nat.zero_le _, h3⟩
/-- append(b, s...): where the row lies then. -/
theorem run_append_own_stringF_at (t u ty e : TypeId) (i : TypeInfo) (ht : P.underlying t = some (.slice e)) (hu : P.underlying u = some .string) (hi : P.info? e = some i) (hz : i.zero = some (.int .u8 0))
    (hsize : i.size = 1) (hby : i.bytes = 1)
    (v : Value) (n : Nat) (xs : List Value) (hown : w.ownsRowF 0 e 1 v n xs) (s : ByteArray)
    (h63 : n + s.size ≤ maxLen) (hbytes : n + s.size ≤ 140737488355328) :
    ∃ v' w', (Builtin.append_ #[t, u] ty #[v, .string s]).run P w = .ok v' w' ∧ w'.ownsRowF 0 e 1 v' (n + s.size) (xs ++ strCells s) ∧ w.grownBy w' v.ownBlock ∧
      (v' = .slice none 0 0 ↔ v = .slice none 0 0 ∧ s.size = 0) ∧ ∀ g, v'.ownBlock = some g → v.ownBlock = some g ∨ w.heap.size ≤ g := by
  rcases hown.2 with ⟨rfl, rfl⟩ | ⟨g, cap, cur, fz, rfl, hbg, hg, hfz, hnc, hcm, hcs, htake⟩
  · -- no row yet
    obtain ⟨v', w', h1, h2, h3, h4⟩ := run_append_own_string (P := P) w w.heap.size t u ty e i ht hu hi hz hsize hby (.slice none 0 0) 0 xs ⟨hown.1, .inl ⟨rfl, rfl⟩⟩ s h63 hbytes (Nat.le_refl _)
    exact ⟨v', w', h1, ownsRowF_low (World.ownsRowF_of h2), h3, h4, fun g hg => .inr ((World.ownsRowF_of h2).lt g hg).1⟩
  · have hsmall : n + s.size ≤ 9223372036854775807 := by simp only [maxLen] at h63; omega
    have hxl : xs.length = n := by simpa using hown.1
    have hlen : (xs ++ strCells s).length = (n + s.size) * 1 := by rw [List.length_append, hxl, strCells_length, Nat.mul_one]
    by_cases hroom : n + s.size ≤ cap
    · have hcs' : cur.size = cap := by simpa using hcs
      have hr := run_append_room_stringF (P := P) w t u ty e i ht hu hi hsize g n cap cur fz hg (by simpa using hfz) s hroom (by omega)
      refine ⟨_, _, hr, ⟨hlen, .inr ⟨g, cap, _, fz, rfl, hbg, setRow_heap w g cur _ e _ hg, by omega, hroom, hcm, ?_, ?_⟩⟩, ⟨rfl, rfl, rfl, by simp, fun k _ hk => setRow_other w g k _ (fun e => hk (by simp [Value.ownBlock, e]))⟩, by simp, fun g' hg' => .inl hg'⟩
      · simp only [List.size_toArray, List.length_append, List.length_take, List.length_drop, Array.length_toList, strCells_length]
        omega
      · have ht' : cur.toList.take n = xs := by simpa using htake
        rw [ht', ← hlen]
        exact List.take_left
    · have holds : ∀ j u, xs[j]? = some u → w.cell? ((⟨g, 0, none⟩ : Addr).add j) = some u := hown.cells (g := g) rfl
      have hr := run_append_grow_string (P := P) w t u ty e i (.int .u8 0) ht hu hi hz ⟨g, 0, none⟩ n cap xs (by rw [hsize]; simpa using hxl) holds s (by omega) (by omega) (by rw [hby]; exact growslice_fits (by omega) (by omega))
      have hge := grownCap_ge w (n + s.size) cap e
      have hcm2 : grownCap w (n + s.size) cap e ≤ maxLen := grownCap_le_maxLen w (n + s.size) cap e h63
      refine ⟨_, _, hr, ⟨hlen, .inr ⟨w.heap.size, _, _, (0, 0), rfl, Nat.zero_le _, heap_alloc_new w.drew _, Nat.zero_le _, hge, hcm2, ?_, ?_⟩⟩, ⟨rfl, rfl, rfl, by simp, fun k hk _ => by first | exact heap_alloc_old w.drew _ k hk | exact heap_alloc_old w.drew _ hk⟩, by simp, fun g' hg' => .inr (by simp [Value.ownBlock] at hg'; omega)⟩
      · have hz1 : (Value.int IntKind.u8 0).cells.size = 1 := rfl
        simp only [Array.size_append, List.size_toArray, size_zeroCells, hz1, hxl, strCells_length]
        omega
      · simp only [Array.toList_append, List.append_assoc]
        rw [← List.append_assoc, ← hlen]
        exact List.take_left
theorem wpList_append_own_stringF_at {ops : Array Oper} {rest : List Oper} {o : Oper} {a : Act} {Q : Exit → Act → World → Prop} (hgd : o.guard = none) (sl x : Operand) (t u : TypeId)
    (ho : o.op = .call { callee := .builtin .append, args := #[sl, x], argTypes := #[t, u] })
    (e : TypeId) (i : TypeInfo) (ht : P.underlying t = some (.slice e)) (hu : P.underlying u = some .string) (hi : P.info? e = some i) (hz : i.zero = some (.int .u8 0))
    (hsize : i.size = 1) (hby : i.bytes = 1)
    (v : Value) (n : Nat) (xs : List Value) (hs : a.eval sl = v) (hown : w.ownsRowF 0 e 1 v n xs) (s : ByteArray) (hx : a.eval x = .string s)
    (h63 : n + s.size ≤ maxLen) (hbytes : n + s.size ≤ 140737488355328)
    (h : ∀ v' w', w'.ownsRowF 0 e 1 v' (n + s.size) (xs ++ strCells s) → w.grownBy w' v.ownBlock → (v' = .slice none 0 0 ↔ v = .slice none 0 0 ∧ s.size = 0) → (∀ g, v'.ownBlock = some g → v.ownBlock = some g ∨ w.heap.size ≤ g) → wpList P ops Q rest (a.put o.dst v') w') : wpList P ops Q (o :: rest) a w := by
  refine wpList_plain hgd fun K hK => ?_
  obtain ⟨v', w', hr, h2, h3, h4, h5⟩ := run_append_own_stringF_at (P := P) w t u o.type e i ht hu hi hz hsize hby v n xs hown s h63 hbytes
  unfold Oper.wp execOp
  simp only [ho, resolve, invoke, builtin, Sem.run_bind, Sem.run_pure, Result.andThen_ok, List.map_toArray, List.map_cons, List.map_nil, hs, hx, hr]
  exact hK _ _ (h v' w' h2 h3 h4 h5)
end
/-- A builder in block b, with these bytes; its buffer is nil as long as there are none. -/
def Bld (T e : TypeId) (b : Nat) (u : Value) (bs : List Value) (w : World) : Prop :=
  ∃ p, w.heap[b]? = some (.cells #[p, u] T (0, 0)) ∧ (p = .pointer none ∨ p = .pointer (some ⟨b, 0, none⟩)) ∧ w.ownsRowF 0 e 1 u bs.length bs ∧ (bs = [] → u = .slice none 0 0)
/-- What a call on it changes. -/
structure BldFr (b : Nat) (u u' : Value) (w w' : World) : Prop where
  os : w'.os = w.os
  tape : w'.tape = w.tape
  output : w'.output = w.output
  size : w.heap.size ≤ w'.heap.size
  keep : ∀ k, k < w.heap.size → k ≠ b → u.ownBlock ≠ some k → w'.heap[k]? = w.heap[k]?
  own : ∀ g, u'.ownBlock = some g → u.ownBlock = some g ∨ w.heap.size ≤ g
end Go.Lib
namespace Go.Proofs
open Go.Shelf Go.RowKit
variable {P : Program} {ρ : Ren}
/-- Kept out of sight. -/
structure Lib.Asid (p : Prop) : Prop where
  out : p
/-- What is known behind copyCheck. -/
structure Lib.CcAt (T e : TypeId) (b : Nat) (u : Value) (bs : List Value) (w w1 : World) : Prop where
  hb : w1.heap[b]? = some (.cells #[.pointer (some ⟨b, 0, none⟩), u] T (0, 0))
  own : w1.ownsRowF 0 e 1 u bs.length bs
  os : w1.os = w.os
  tape : w1.tape = w.tape
  output : w1.output = w.output
  size : w1.heap.size = w.heap.size
  keep : ∀ k, k ≠ b → w1.heap[k]? = w.heap[k]?
  nil : bs = [] → u = .slice none 0 0
  ne : u.ownBlock ≠ some b
theorem Any.Bld_copyCheck (L : Lays.n240 P ρ) (X : Builder.Extra P ρ) (b : Nat) (u : Value) (bs : List Value) (w : World) (h : Lib.Bld (ρ.t 72) (ρ.t 5) b u bs w) :
    Calls P (ρ.f 240) #[.pointer (some ⟨b, 0, none⟩)] w fun e w1 => e = .returned (.tuple #[]) ∧ Lib.CcAt (ρ.t 72) (ρ.t 5) b u bs w w1 := by
  obtain ⟨p, hbk, hp, hown, hnil⟩ := h
  have hne : u.ownBlock ≠ some b := Lib.ownBlock_neF hown hbk X.neB5
  rcases hp with rfl | rfl
  · refine (Any.Builder_copyCheck_fresh L X.toX72 b w (by rw [Lib.cell_of_heap hbk]; rfl) (by simp [World.shape?, hbk]) (Lib.frozen_of_heap hbk 0)).mono ?_
    rintro e w' ⟨rfl, rfl⟩
    have hk : ∀ k, k ≠ b → (w.setCell ⟨b, 0, none⟩ (.pointer (some ⟨b, 0, none⟩))).heap[k]? = w.heap[k]? := fun k hk => Below.heap_setCell _ _ _ _ hk
    exact ⟨rfl, by simp [World.setCell, Array.getElem?_modify, hbk], hown.kept (row := some b) ⟨rfl, rfl, rfl, by simp [World.setCell], fun k _ hkb => hk k (fun e => hkb (by rw [e]))⟩ (Or.inr hne), rfl, rfl, rfl, by simp [World.setCell], hk, hnil, hne⟩
  · refine (Any.Builder_copyCheck_used L X.toX72 b w (by rw [Lib.cell_of_heap hbk]; rfl)).mono ?_
    rintro e w' ⟨rfl, rfl⟩
    exact ⟨rfl, hbk, hown, rfl, rfl, rfl, rfl, fun _ _ => rfl, hnil, hne⟩
set_option maxHeartbeats 2000000 in
set_option maxRecDepth 100000 in
theorem Any.Bld_WriteString (L : Lays.n166 P ρ) (X : Builder.Extra P ρ) (b : Nat) (u : Value) (bs : List Value) (s : ByteArray) (w : World) (h : Lib.Bld (ρ.t 72) (ρ.t 5) b u bs w) (hlen : bs.length + s.size ≤ 140737488355328) :
    Calls P (ρ.f 166) #[.pointer (some ⟨b, 0, none⟩), .string s] w fun e w' => e = .returned (.tuple #[.int .i64 s.size, .nilIface]) ∧ ∃ u', Lib.Bld (ρ.t 72) (ρ.t 5) b u' (bs ++ Lib.strCells s) w' ∧ Lib.BldFr b u u' w w' := by
  obtain ⟨i0, hi, hz0, hz1, hz2⟩ := info_parts X.infoByte
  have mixed := L.mixed
  have t72 := L.t72; have a72 := L.a72; have z72 := L.z72; have v72 := L.v72; have u72 := run_underlying L.t72
  have t70 := L.t70; have a70 := L.a70; have z70 := L.z70; have v70 := L.v70; have u70 := run_underlying L.t70
  have t37 := L.t37; have a37 := L.a37; have z37 := L.z37; have v37 := L.v37; have u37 := run_underlying L.t37
  have t3 := L.t3; have a3 := L.a3; have z3 := L.z3; have v3 := L.v3; have u3 := run_underlying L.t3
  have t9 := L.t9; have a9 := L.a9; have z9 := L.z9; have v9 := L.v9; have u9 := run_underlying L.t9
  have t4 := L.t4; have a4 := L.a4; have z4 := L.z4; have v4 := L.v4; have u4 := run_underlying L.t4
  have t164 := L.t164; have a164 := L.a164; have z164 := L.z164; have v164 := L.v164; have u164 := run_underlying L.t164
  have t5 := X.t5; have a5 := X.a5; have z5 := X.z5; have v5 := X.v5; have u5 := run_underlying X.t5
  have e240 : ∀ args w, (callFunc (ρ.f 240) args).run P w = .ok (.enter (ρ.f 240) args) w := enters_of L.f240 (by kernel_rfl) rfl
  go_enter L.f166, Body.n166_ntmps ρ
  go_wp2_with (go_at_fn (ρ.f 240); refine (Any.Bld_copyCheck { L with } X b u bs _ h).mono ?_)
  rintro e w1 ⟨rfl, H1⟩
  have hbk := H1.hb
  have hown := H1.own
  have c0 : w1.cell? ⟨b, 0, none⟩ = some (.pointer (some ⟨b, 0, none⟩)) := by rw [Lib.cell_of_heap hbk]; rfl
  have c1 : w1.cell? ⟨b, 1, none⟩ = some u := by rw [Lib.cell_of_heap hbk]; rfl
  go_wp2_with (at_builtin; refine Lib.wpList_append_own_stringF_at _ rfl _ _ (ρ.t 37) (ρ.t 9) rfl (ρ.t 5) i0 L.t37 L.t9 hi hz0 hz1 hz2 _ _ _ rfl hown s rfl ?c3 ?c4 ?_)
  case c3 => unfold maxLen; omega
  case c4 => omega
  intro v' w2 hown' hgrow hnl hat
  have hlt : b < w1.heap.size := (Array.getElem?_eq_some_iff.1 hbk).1
  have hb2 : w2.heap[b]? = some (.cells #[.pointer (some ⟨b, 0, none⟩), u] (ρ.t 72) (0, 0)) := by
    rw [hgrow.block b hlt (fun e => H1.ne e.symm)]
    exact hbk
  have d0 : w2.cell? ⟨b, 0, none⟩ = some (.pointer (some ⟨b, 0, none⟩)) := by rw [Lib.cell_of_heap hb2]; rfl
  have d1 : w2.cell? ⟨b, 1, none⟩ = some u := by rw [Lib.cell_of_heap hb2]; rfl
  have f1 : w2.frozen? ⟨b, 1, none⟩ = false := Lib.frozen_of_heap hb2 1
  obtain ⟨ao, n', cap, rfl⟩ : ∃ ao n' cap, v' = .slice ao n' cap := by
    rcases hown'.2 with ⟨hv, _⟩ | ⟨g, cap, cur, fz, hv, _⟩
    · exact ⟨_, _, _, hv⟩
    · exact ⟨_, _, _, hv⟩
  have HN := Lib.Asid.mk (And.intro hnl hat)
  clear hnl hat
  go_wp2
  go_ret2
  obtain ⟨hnl, hat⟩ := HN.out
  have hlen' : (bs ++ Lib.strCells s).length = bs.length + s.size := by rw [List.length_append, Lib.strCells_length]
  obtain ⟨_, v2, hb3, hown3, _⟩ := Lib.BuilderAtF.put (T := (ρ.t 72)) (e := (ρ.t 5)) (B := 0) (Nat.zero_le b) hb2 (bs' := bs ++ Lib.strCells s) (by rw [hlen']; exact hown') X.neB5
  have hb4 : (w2.setCell ⟨b, 1, none⟩ (.slice ao n' cap)).heap[b]? = some (.cells #[.pointer (some ⟨b, 0, none⟩), .slice ao n' cap] (ρ.t 72) (0, 0)) := by simp [World.setCell, Array.getElem?_modify, hb2]
  rw [hb4] at hb3
  have ev : v2 = .slice ao n' cap := by simp at hb3; exact hb3.symm
  subst ev
  have hsz := H1.size
  refine ⟨rfl, _, ⟨_, hb4, .inr rfl, hown3, fun he => ?_⟩, ⟨hgrow.os.trans H1.os, hgrow.tape.trans H1.tape, hgrow.output.trans H1.output, ?_, fun k hk hkb hku => ?_, fun g hg => ?_⟩⟩
  · have h1 : bs = [] ∧ Lib.strCells s = [] := List.append_eq_nil_iff.1 he
    have hs0 : s.size = 0 := by rw [← Lib.strCells_length, h1.2]; rfl
    exact hnl.2 ⟨H1.nil h1.1, by first | exact hs0 | simpa using hs0⟩
  · have := hgrow.size
    simp only [World.setCell, Array.size_modify]
    omega
  · rw [Below.heap_setCell _ _ _ _ hkb, hgrow.block k (by omega) (fun e => hku e.symm), H1.keep k hkb]
  · rcases hat g hg with h | h
    · exact .inl h
    · exact .inr (by omega)
set_option maxHeartbeats 2000000 in
set_option maxRecDepth 100000 in
theorem Any.Bld_String (L : Lays.n169 P ρ) (X : Builder.Extra P ρ) (b : Nat) (u : Value) (l : List UInt8) (w : World) (h : Lib.Bld (ρ.t 72) (ρ.t 5) b u (Lib.byteCells l) w) :
    Calls P (ρ.f 169) #[.pointer (some ⟨b, 0, none⟩)] w fun e w' => e = .returned (.string ⟨l.toArray⟩) ∧ Lib.BldFr b u (.slice none 0 0) w w' := by
  obtain ⟨p, hbk, hp, hown, hnil⟩ := h
  have hUS0 := Any.unsafeString_none L X
  have mixed := L.mixed
  have t72 := L.t72; have a72 := L.a72; have z72 := L.z72; have v72 := L.v72; have u72 := run_underlying L.t72
  have t70 := L.t70; have a70 := L.a70; have z70 := L.z70; have v70 := L.v70; have u70 := run_underlying L.t70
  have t37 := L.t37; have a37 := L.a37; have z37 := L.z37; have v37 := L.v37; have u37 := run_underlying L.t37
  have t127 := L.t127; have a127 := L.a127; have z127 := L.z127; have v127 := L.v127; have u127 := run_underlying L.t127
  have t3 := L.t3; have a3 := L.a3; have z3 := L.z3; have v3 := L.v3; have u3 := run_underlying L.t3
  have t9 := L.t9; have a9 := L.a9; have z9 := L.z9; have v9 := L.v9; have u9 := run_underlying L.t9
  have t5 := X.t5; have a5 := X.a5; have z5 := X.z5; have v5 := X.v5; have u5 := run_underlying X.t5
  by_cases h0 : l = []
  · subst h0
    obtain rfl := hnil rfl
    have c1 : w.drew.cell? ⟨b, 1, none⟩ = some (.slice none 0 0) := by
      have : w.drew.heap[b]? = some (.cells #[p, .slice none 0 0] (ρ.t 72) (0, 0)) := hbk
      rw [Lib.cell_of_heap this]; rfl
    have hUS := hUS0
    have hSD : (Builtin.unsafeSliceData_ #[(ρ.t 37)] (ρ.t 127) #[.slice none 0 0]).run P w.drew = .ok (.pointer none) w.drew := rfl
    go_enter L.f169, Body.n169_ntmps ρ
    go_wp2
    go_region_o
    all_goals (go_wp2; go_ret; exact ⟨rfl, ⟨rfl, rfl, rfl, Nat.le_refl _, fun _ _ _ _ => rfl, fun g hg => by simp [Value.ownBlock] at hg⟩⟩)
  · have hl0 : l.length ≠ 0 := by simpa using h0
    rw [Lib.byteCells_length] at hown
    obtain ⟨g, cap, cur, fz, rfl, hbg, hg, hfz, hnc, hcm, hcs, htake⟩ : ∃ g cap cur fz, u = .slice (some ⟨g, 0, none⟩) l.length cap ∧ 0 ≤ g ∧ w.heap[g]? = some (.cells cur (ρ.t 5) fz) ∧ fz.2 ≤ l.length * 1 ∧ l.length ≤ cap ∧ cap ≤ maxLen ∧ cur.size = cap * 1 ∧ cur.toList.take (l.length * 1) = Lib.byteCells l := by
      rcases hown.2 with ⟨_, hz⟩ | ⟨g, cap, cur, fz, hv, r⟩
      · exact absurd hz hl0
      · exact ⟨g, cap, cur, fz, hv, r⟩
    have c1 : w.drew.cell? ⟨b, 1, none⟩ = some (.slice (some ⟨g, 0, none⟩) l.length cap) := by
      have : w.drew.heap[b]? = some (.cells #[p, .slice (some ⟨g, 0, none⟩) l.length cap] (ρ.t 72) (0, 0)) := hbk
      rw [Lib.cell_of_heap this]; rfl
    have hSD : (Builtin.unsafeSliceData_ #[(ρ.t 37)] (ρ.t 127) #[.slice (some ⟨g, 0, none⟩) l.length cap]).run P w.drew = .ok (.pointer (some ⟨g, 0, none⟩)) w.drew :=
      Lib.run_unsafeSliceData_row _ _ _ _ _ _ (by omega)
    have hUS : (Builtin.unsafeString_ #[(ρ.t 127), (ρ.t 3)] (ρ.t 9) #[.pointer (some ⟨g, 0, none⟩), .int .i64 l.length]).run P w.drew = .ok (.string ⟨l.toArray⟩) (w.drew.freeze ⟨g, 0, none⟩ l.length) := by
      refine Lib.run_unsafeString_row w.drew (ρ.t 127) (ρ.t 3) (ρ.t 9) (ρ.t 5) L.t127 X.cellsByte g cur.size (by have hg' : w.drew.heap[g]? = some (.cells cur (ρ.t 5) fz) := hg; simp [World.shape?, hg']) l h0 (by omega) (by unfold maxLen at hcm; omega) ?_
      intro j x hx
      have := hown.cells (g := g) rfl j (.int .u8 x.toNat) (by simp [Lib.byteCells, hx])
      exact this
    have hfrz : ∀ k, k ≠ g → (w.drew.freeze ⟨g, 0, none⟩ l.length).heap[k]? = w.heap[k]? := fun k hk => by
      unfold World.freeze
      rw [if_neg hl0]
      simp only [Array.getElem?_modify]
      rw [if_neg (fun e => hk e.symm)]
      rfl
    have hfo : (w.drew.freeze ⟨g, 0, none⟩ l.length).os = w.os ∧ (w.drew.freeze ⟨g, 0, none⟩ l.length).tape = w.tape ∧ (w.drew.freeze ⟨g, 0, none⟩ l.length).output = w.output ∧ (w.drew.freeze ⟨g, 0, none⟩ l.length).heap.size = w.heap.size := by
      unfold World.freeze
      rw [if_neg hl0]
      refine ⟨rfl, rfl, rfl, ?_⟩
      simp only [Array.size_modify]
      rfl
    have hfin : Lib.BldFr b (.slice (some ⟨g, 0, none⟩) l.length cap) (.slice none 0 0) w (w.drew.freeze ⟨g, 0, none⟩ l.length) :=
      ⟨hfo.1, hfo.2.1, hfo.2.2.1, Nat.le_of_eq hfo.2.2.2.symm, fun k _ _ hku => hfrz k (fun e => hku (by simp [Value.ownBlock, e])), fun g' hg' => by simp [Value.ownBlock] at hg'⟩
    go_enter L.f169, Body.n169_ntmps ρ
    go_wp2
    go_region_o
    all_goals (go_wp2; go_ret; exact ⟨rfl, hfin⟩)
end Go.Proofs
/-
  The ghost machine: calls on one packed thing, off the shelf; a strings.Builder.
-/
namespace Go.GK
open Go.RowKit

/-- A call on a packed thing whose first block is pointed to, and on values. -/
theorem Hf.abs {p : Pg} {f : FuncId} {vs : List Value} {A : Abs} {R : Abs → Prop} {r : Value} (hc : ∀ xs w, (callFunc f xs).run p.P w = .ok (.enter f xs) w)
    (h : ∀ ro b v w, A.P ro b v w → Calls p.P f (.pointer (some ⟨b, 0, none⟩) :: vs).toArray w fun e w' => e = .returned r ∧ ∃ A', R A' ∧ A'.P ro b v w' ∧ A'.fp.Nodup ∧ (∀ g ∈ A'.fp, g ∈ A.fp ∨ w.heap.size ≤ g) ∧
      w'.os = w.os ∧ w'.tape = w.tape ∧ w'.output = w.output ∧ w.heap.size ≤ w'.heap.size ∧ ∀ k, k < w.heap.size → k ∉ A.fp → w'.heap[k]? = w.heap[k]?) :
    Hf p f 1 (.p 0 0 :: vs.map .v) [(0, .ab A)] fun g σ n => g = .v r ∧ (∃ A', R A' ∧ σ = [(0, .ab A')]) ∧ n = 1 := by
  refine ⟨hc, fun H us w hn hg hcs hs => ?_⟩
  obtain ⟨hl, hi⟩ := hcs
  have hu : us = (.pointer (some ⟨H.bl 0, 0, none⟩) :: vs).toArray := by
    refine Array.ext (by simpa using hl.symm) (fun i h1 h2 => ?_)
    have eg : us.getD i undef = us[i] := by rw [Array.getD, dif_pos h1]; rfl
    cases i with
    | zero =>
      have := (hi 0 (.p 0 0) rfl).inv_p
      rw [eg] at this
      simpa using this.1
    | succ i =>
      have h2' : i < vs.length := by simpa using h2
      have := (hi (i + 1) (.v vs[i]) (by simp [h2'])).inv_v
      rw [eg] at this
      simpa using this
  subst hu
  have hA := hs.holds (0, .ab A) (by simp)
  have hid : (0 : Nat) < H.n := hs.ids (0, .ab A) (by simp)
  refine Calls.mono (h H.ro (H.bl 0) (H.sv 0) w hA) (fun e w' he => ?_)
  obtain ⟨rfl, A', hR, hP, hnd, hown, h1, h2, h3, h4, h5⟩ := he
  have hfree : ∀ b ∈ A.fp, H.ro b = none := fun b hb => hs.free b (by simpa [blks, blocks] using hb)
  refine ⟨r, .v r, H, [(0, .ab A')], rfl, .ro (.v r), ⟨fun b o hr => ?_, ?_, by simpa [blks, blocks] using hnd, fun b hb => ?_, by simpa using hid⟩, ?_, rfl, ⟨A', hR, rfl⟩, hn⟩
  · have ho := hs.ro b o hr
    rw [h5 b (Array.getElem?_eq_some_iff.1 ho).1 (fun hb => by rw [hfree b hb] at hr; cases hr)]
    exact ho
  · intro y hy
    simp only [List.mem_singleton] at hy
    subst hy
    exact hP
  · have hb' : b ∈ A'.fp := by simpa [blks, blocks] using hb
    rcases hown b hb' with h | h
    · exact hfree b h
    · exact hs.none_size b h
  · refine ⟨h1, h2, h3, h4, fun b hb hb2 => h5 b hb (fun hm => hb2 (by simpa [blks, blocks] using hm)), fun b hb => ?_, fun b h1 h2 => (h2 h1).elim, Hid.le.refl H⟩
    have hb' : b ∈ A'.fp := by simpa [blks, blocks] using hb
    rcases hown b hb' with h | h
    · exact .inl (by simpa [blks, blocks] using h)
    · exact .inr h
/-- .. that is of no use any more. -/
theorem Hf.abs0 {p : Pg} {f : FuncId} {vs : List Value} {A : Abs} {r : Value} (hc : ∀ xs w, (callFunc f xs).run p.P w = .ok (.enter f xs) w)
    (h : ∀ ro b v w, A.P ro b v w → Calls p.P f (.pointer (some ⟨b, 0, none⟩) :: vs).toArray w fun e w' => e = .returned r ∧
      w'.os = w.os ∧ w'.tape = w.tape ∧ w'.output = w.output ∧ w.heap.size ≤ w'.heap.size ∧ ∀ k, k < w.heap.size → k ∉ A.fp → w'.heap[k]? = w.heap[k]?) :
    Hf p f 1 (.p 0 0 :: vs.map .v) [(0, .ab A)] fun g σ n => g = .v r ∧ σ = [] ∧ n = 1 := by
  let E : Abs := ⟨fun _ _ _ _ => True, [], fun _ _ _ _ _ c hc => (List.not_mem_nil hc).elim, fun _ _ _ _ _ _ h => h, fun _ _ _ _ _ _ h => h⟩
  have key := Hf.abs (p := p) (vs := vs) (A := A) (R := fun _ => True) (r := r) hc fun ro b v w hP => (h ro b v w hP).mono fun e w' ⟨h1, h2, h3, h4, h5, h6⟩ => ⟨h1, E, trivial, trivial, by simp [E], by simp [E], h2, h3, h4, h5, h6⟩
  refine key.weak fun g σ' n' ⟨h1, _, h3⟩ => ⟨id, g, [], 1, ⟨h1, rfl, rfl⟩, (ren_id g).symm, trivial, ?_⟩
  subst h1
  rfl

/-- A strings.Builder that holds these bytes. -/
def bld (T e : TypeId) (bs : List Value) (fp : List Nat) : Abs where
  P := fun _ b _ w => ∃ u, Lib.Bld T e b u bs w ∧ T ≠ e ∧ fp = b :: u.ownBlock.toList
  fp := fp
  ex := fun ro b v w h c hc => by
    obtain ⟨u, ⟨p, hb, hp, hown, _⟩, hne, rfl⟩ := h
    rcases List.mem_cons.1 hc with rfl | hc
    · exact (Array.getElem?_eq_some_iff.1 hb).1
    · exact (hown.lt c (by simpa using hc)).2
  congr := fun ro b v w w' hw h => by
    obtain ⟨u, ⟨p, hb, hp, hown, hnil⟩, hne, rfl⟩ := h
    refine ⟨u, ⟨p, (hw b (by simp)).trans hb, hp, ?_, hnil⟩, hne, rfl⟩
    refine ⟨hown.1, ?_⟩
    rcases hown.2 with h | ⟨g, cap, cur, fz, hv, h0, hg, r⟩
    · exact .inl h
    · exact .inr ⟨g, cap, cur, fz, hv, h0, (hw g (by simp [hv, Value.ownBlock])).trans hg, r⟩
  mono := fun ro ro' b v w _ h => h

theorem bld_nodup {T e : TypeId} {b : Nat} {u : Value} {bs : List Value} {w : World} (h : Lib.Bld T e b u bs w) (hne : T ≠ e) : (b :: u.ownBlock.toList).Nodup := by
  obtain ⟨p, hb, _, hown, _⟩ := h
  have := Lib.ownBlock_neF hown hb hne
  cases hu : u.ownBlock with
  | none => simp
  | some g =>
    rw [hu] at this
    simp only [Option.toList_some, List.nodup_cons, List.mem_singleton, List.not_mem_nil, not_false_eq_true, List.nodup_nil, and_true]
    exact fun e => this (by rw [e])
section
variable {cx : Cx} {T : Post}
/-- A fresh builder. -/
theorem JK.bld {k : List It} {s : St} (id : Nat) {ty e : TypeId} (hne : ty ≠ e) (hl : hlook s.σ id = some (.blk ty [.v (.pointer none), .v (.slice none 0 0)]))
    (h : ∀ fp, nfH (hset s.σ id (.ab (GK.bld ty e [] fp))) fun σ => JK cx T k ⟨s.ρ, σ, s.n⟩) : JK cx T k s := by
  intro H a w hg hs ha
  have hk := h [H.bl id]
  rw [nfH_eq] at hk
  refine hk H a w hg ?_ ha
  obtain ⟨us, hw, hlen, hi⟩ := hs.sat.holds _ (hlook_mem hl)
  have hus : us = #[.pointer none, .slice none 0 0] := by
    have := cells_vals (vs := [.pointer none, .slice none 0 0]) (us := us) ⟨hlen, hi⟩
    simpa using this
  subst hus
  exact hs.put (y := .ab (GK.bld ty e [] [H.bl id])) (w' := w) hl rfl rfl rfl rfl (Nat.le_refl _) (fun _ _ _ => rfl)
    ⟨.slice none 0 0, ⟨.pointer none, hw, .inl rfl, World.ownsRowF_nil w 0 e 1, fun _ => rfl⟩, hne, rfl⟩ s.ρ
end
open Go.Shelf Go.Proofs in
theorem bld_writeString {p : Pg} {ρ : Ren} (L : Lays.n166 p.P ρ) (X : Builder.Extra p.P ρ) (hc : ∀ xs w, (callFunc (ρ.f 166) xs).run p.P w = .ok (.enter (ρ.f 166) xs) w) (bs : List Value) (fp : List Nat) (s : ByteArray) (hlen : bs.length + s.size ≤ 140737488355328) :
    Hf p (ρ.f 166) 1 [.p 0 0, .v (.string s)] [(0, .ab (bld (ρ.t 72) (ρ.t 5) bs fp))] fun g σ n => g = .v (.tuple #[.int .i64 s.size, .nilIface]) ∧ (∃ fp', σ = [(0, .ab (bld (ρ.t 72) (ρ.t 5) (bs ++ Lib.strCells s) fp'))]) ∧ n = 1 := by
  have key := Hf.abs (p := p) (vs := [.string s]) (A := bld (ρ.t 72) (ρ.t 5) bs fp) (R := fun A' => ∃ fp', A' = bld (ρ.t 72) (ρ.t 5) (bs ++ Lib.strCells s) fp') (r := .tuple #[.int .i64 s.size, .nilIface]) hc fun ro b v w hP => by
    obtain ⟨u, hB, hne, rfl⟩ := hP
    refine (Any.Bld_WriteString L X b u bs s w hB hlen).mono fun e w' ⟨h1, u', hB', hF⟩ => ?_
    refine ⟨h1, bld (ρ.t 72) (ρ.t 5) (bs ++ Lib.strCells s) (b :: u'.ownBlock.toList), ⟨_, rfl⟩, ⟨u', hB', hne, rfl⟩, bld_nodup hB' hne, fun g hg => ?_, hF.os, hF.tape, hF.output, hF.size, fun k hk hm => ?_⟩
    · rcases List.mem_cons.1 hg with rfl | hg
      · exact .inl (List.mem_cons_self)
      · rcases hF.own g (by simpa using hg) with h | h
        · exact .inl (List.mem_cons_of_mem _ (by simp [h]))
        · exact .inr h
    · exact hF.keep k hk (fun e => hm (by rw [e]; exact List.mem_cons_self)) (fun e => hm (List.mem_cons_of_mem _ (by simp [e])))
  refine key.weak fun g σ' n' ⟨h1, ⟨A', ⟨fp', hA⟩, h3⟩, h4⟩ => ?_
  subst h1 h3 h4 hA
  exact ⟨id, _, _, 1, ⟨rfl, ⟨fp', rfl⟩, rfl⟩, rfl, ⟨rfl, trivial⟩, rfl⟩
open Go.Shelf Go.Proofs in
theorem bld_string {p : Pg} {ρ : Ren} (L : Lays.n169 p.P ρ) (X : Builder.Extra p.P ρ) (hc : ∀ xs w, (callFunc (ρ.f 169) xs).run p.P w = .ok (.enter (ρ.f 169) xs) w) (l : List UInt8) (fp : List Nat) :
    Hf p (ρ.f 169) 1 [.p 0 0] [(0, .ab (bld (ρ.t 72) (ρ.t 5) (Lib.byteCells l) fp))] fun g σ n => g = .v (.string ⟨l.toArray⟩) ∧ σ = [] ∧ n = 1 :=
  Hf.abs0 (p := p) (vs := []) hc fun ro b v w hP => by
    obtain ⟨u, hB, hne, rfl⟩ := hP
    exact (Any.Bld_String L X b u l w hB).mono fun e w' ⟨h1, hF⟩ => ⟨h1, hF.os, hF.tape, hF.output, hF.size, fun k hk hm => hF.keep k hk (fun e => hm (by rw [e]; exact List.mem_cons_self)) (fun e => hm (List.mem_cons_of_mem _ (by simp [e])))⟩

section
variable {cx : Cx} {T : Post}
/-- A call with own things, within a region that draws its order. -/
theorem RA.goH {ops : List Oper} {k : List It} {σs : Heap} {ρq : Env} {fuel : Nat} {listed : List Bool} {s : St} (i : Nat) (order : List (Nat × Bool)) (e : Bool) {o : Oper} {f : FuncId} {n0 : Nat} {cargs gs : List GV} {σc : Heap} {Q : GV → Heap → Nat → Prop} (hp : cx.pg.Ok) (hsel : Region.noSelect ops.toArray = true) (hT : ∀ ch s, ¬ T (.panic ch) s) (hr : Hf cx.pg f n0 cargs σc Q) (r : Nat → Nat) (hi : ops[i]? = some o) (hk : callG cx.pg ops s.ρ o = some (f, gs)) (hargs : gs = renL r cargs) (hσ : leσ r σc s.σ)
    (chk : (idbL n0 cargs && idbH n0 σc && distB (hids r σc)) = true) (hrn : ∀ i, i < n0 → r i < s.n)
    (hB : (eqB (Region.ready .any ops.toArray listed.toArray) [i] && ordB ops e order (listed.set i true)) = true)
    (h : ∀ g σ' n', Q g σ' n' → nf (ren (sh r n0 s.n) g) fun g => nfH (renH (sh r n0 s.n) σ' ++ hrest (hids r σc) s.σ) fun σ => nfN (s.n + (n' - n0)) fun n => nfE (qput ρq o.dst g) fun ρq => dputV cx.N s.ρ o.dst g fun ρ' => rvc cx T ops k σs e order fuel (listed.set i true) ρq ⟨ρ', σ, n⟩) : RA cx T ops k σs ρq (fuel + 1) listed s := by
  obtain ⟨fo, args, ts, first, caps, gs', ho', hgd, hf, he, hargs'⟩ := callG_spec hk
  simp only [Bool.and_eq_true] at hB
  refine RA.call (n0 := n0) (r := r) (σc := σc) i hr.ct hr.call hi (eqB_eq hB.1) hgd ho' hf he (hargs'.trans hargs) hσ chk hrn ?_
  intro g σ' n' hq
  have := h g σ' n' hq
  rw [nf_eq, nfH_eq, nfN_eq, nfE_eq] at this ⊢
  revert this
  cases o.dst with
  | none => exact fun h => RA.run hp hsel hT order hB.2 h
  | some d =>
    simp only [dputV, dput]
    cases Nat.blt d cx.N with
    | false => exact fun h => h
    | true => simp only [cond_true, nf_eq]; exact fun h => RA.run hp hsel hT order hB.2 h
end
end Go.GK
/-
  The ghost machine: make of a slice whose elements take one cell.
-/
namespace Go.GK
open Go.RowKit
section
variable {cx : Cx} {T : Post}
theorem made_one {z : Array Value} {zv : Value} (h : z.toList = [zv]) (n : Nat) : (madeCells z (n * 1)).toList = List.replicate n zv := by
  obtain ⟨z⟩ := z
  simp only at h
  subst h
  unfold madeCells
  refine List.ext_getElem? fun i => ?_
  rw [Array.getElem?_toList, Array.getElem?_map, List.getElem?_replicate]
  by_cases hi : i < n
  · rw [if_pos hi]
    simp [hi, Nat.mod_one]
  · rw [if_neg hi]
    simp [hi]
/-- make([]T, n). -/
theorem JK.mkSlice {all : List Oper} {o : Oper} {rest : List Oper} {k : List It} {s : St} {t e : TypeId} {lo co : Operand} {ti tie : TI} {zv : Value} {n : Nat} (hp : cx.pg.Ok) (ho : o.op = .makeSlice t lo co) (hgd : gdOk all s.ρ o.guard = true)
    (ht : tget cx.pg.tt t = some ti) (htd : ti.d = .slice e) (hte : tget cx.pg.tt e = some tie) (hsz : tie.sz = 1) (hz : tie.zero = [zv]) (hone : zv.oneCell' = true) (hl : ev cx.pg s.ρ lo = some (.v (.int .i64 (n : Int)))) (hc : ev cx.pg s.ρ co = some (.v (.int .i64 (n : Int)))) (hn : n ≤ 16777216) (hby : tie.by_ * n ≤ 281474976710656)
    (h : nfN (s.n + 1) fun m => dput cx.N s.ρ o.dst (.o s.n) fun ρ' => JK cx T (.ops false all rest :: k) ⟨ρ', (s.n, .row e 1 (List.replicate n [.v zv])) :: s.σ, m⟩) : JK cx T (.ops false all (o :: rest) :: k) s := by
  rw [nfN_eq] at h
  intro H a w hg hs ha
  have hw := gdOk_wanted (o := o) ha.env hgd
  have hu : cx.pg.P.underlying t = some (.slice e) := by have := (hp.tt _ _ ht).d; rw [htd] at this; exact this
  obtain ⟨i, z, hi, hisz, hiby, hiz, hzc, _⟩ := (hp.tt _ _ hte).info
  have hlv := (ev_is hg ha.env hl).inv_v
  have hcv := (ev_is hg ha.env hc).inv_v
  have hm : n ≤ maxLen := by unfold maxLen; omega
  obtain ⟨w', hr, hown, hgrow⟩ := run_makeSlice_full (P := cx.pg.P) w 0 t e i z 1 hu hi hiz (hisz.trans hsz) .i64 .i64 n (by omega) (by rw [hiby]; exact hby) hm (Nat.zero_le _)
  rw [made_one (zv := zv) (by rw [hzc, hz])] at hown
  have hle := H.le_more w.heap.size (.slice (some ⟨w.heap.size, 0, none⟩) n n)
  have esv : (H.more w.heap.size (.slice (some ⟨w.heap.size, 0, none⟩) n n)).sv s.n = .slice (some ⟨w.heap.size, 0, none⟩) n n := by simp [Hid.more, hs.n]
  have hbel : Below w.heap.size w w' := ⟨hgrow.os, hgrow.tape, hgrow.output, hgrow.size, fun b hb => hgrow.block b hb (by simp)⟩
  have hs1 := fun ρ => hs.grow (r := .row e 1 (List.replicate n [.v zv])) (w' := w') hle rfl (by simp [Hid.more, hs.n]) hbel (by
    refine ⟨List.replicate n zv, ?_, ?_, fun row hr => ?_, fun i row hr j g hj => ?_, fun u hu => ?_⟩
    · rw [esv, List.length_replicate]; exact hown
    · simp
    · rw [(List.mem_replicate.1 hr).2]; rfl
    · rw [List.getElem?_replicate] at hr
      split at hr
      · rename_i hi
        cases hr
        cases j with
        | zero => simp at hj; subst hj; exact ⟨zv, by simp [hi], .v zv⟩
        | succ j => simp at hj
      · cases hr
    · rw [(List.mem_replicate.1 hu).2]; exact hone) (by simp [blocks, esv, Value.ownBlock]) (by simp [blocks, esv, Value.ownBlock]) ρ
  have hrun : (execOp a.eval o).run cx.pg.P w = .ok (.value (.slice (some ⟨w.heap.size, 0, none⟩) n n)) w' := by
    simp only [execOp, ho, hlv, hcv, Sem.run_bind, hr]
    rfl
  obtain ⟨ρ', ha', hJ⟩ := (ha.mono hle).dput (u := .slice (some ⟨w.heap.size, 0, none⟩) n n) (.o (by simp [Hid.more, hs.n]) esv rfl) h
  exact wpList_run hw hrun (hJ _ (a.put o.dst _) w' (hg.mono hle) (hs1 ρ') ha')
end
end Go.GK
/-
  The ghost machine: a region that draws its order, two of whose operations that make memory may come up at once; its end told once.
-/
namespace Go.GK
open Go.RowKit
section
variable {cx : Cx} {T : Post}

/-- What an operation does, should it come up now. -/
def Stp (cx : Cx) (T : Post) (ops : List Oper) (k : List It) (σs : Heap) (ρq : Env) (fuel : Nat) (listed : List Bool) (s : St) (i : Nat) (o : Oper) : Prop :=
  ops[i]? = some o ∧ gdOk ops s.ρ o.guard = true ∧ ∀ (n0 : Nat) (H0 : Hid) (S0 : List Nat) (w0 : World) (h0 : H0.n = n0) (g0 : GlOk cx.pg H0) (H : Hid) (a : Act) (w : World) (K : Act → World → Prop) (Q' : Exit → Act → World → Prop), GlOk cx.pg H → Sim ⟨cx.pg, cx.N, n0, H0, S0, w0, h0, g0⟩ H s w → ActOk cx H s.ρ a → Sat H (s.σ ++ σs) w →
      (∀ (H' : Hid) (u : Value) (g : GV) (w' : World) (s' : St) (ρ' : Env), H.le H' → Is H' g u → Sim ⟨cx.pg, cx.N, n0, H0, S0, w0, h0, g0⟩ H' { s' with ρ := ρ' } w' → ActOk cx H' ρ' (a.put o.dst u) → (∀ d, o.dst = some d → d < cx.N) → RA cx T ops k σs (qput ρq o.dst g) fuel (listed.set i true) { s' with ρ := ρ' } → K (a.put o.dst u) w') →
      o.wp cx.pg.P a w K Q'

theorem RA.both {ops : List Oper} {k : List It} {σs : Heap} {ρq : Env} {fuel : Nat} {listed : List Bool} {s : St} (i j : Nat) {oi oj : Oper} (hr : Region.ready .any ops.toArray listed.toArray = [i, j])
    (hi : Stp cx T ops k σs ρq fuel listed s i oi) (hj : Stp cx T ops k σs ρq fuel listed s j oj) : RA cx T ops k σs ρq (fuel + 1) listed s := by
  have one : ∀ {q : Nat} {o : Oper}, Stp cx T ops k σs ρq fuel listed s q o → ∀ (n0 : Nat) (H0 : Hid) (S0 : List Nat) (w0 : World) (h0 : H0.n = n0) (g0 : GlOk cx.pg H0), Sat H0 σs w0 → (∀ b ∈ blks H0 σs, b ∉ S0) → (∀ b ∈ S0, H0.ro b = none) →
      (∀ H s' w', Sim ⟨cx.pg, cx.N, n0, H0, S0, w0, h0, g0⟩ H s' w' → Sim cx H ⟨s'.ρ, s'.σ ++ σs, s'.n⟩ w') →
      ∀ H a w, Sim ⟨cx.pg, cx.N, n0, H0, S0, w0, h0, g0⟩ H s w → ActOk cx H s.ρ a → EnvOk (H.at H0.ro) ρq a →
      wpOp cx.pg.P ops.toArray (cont cx.pg.P (post cx T) k) q (fun a w => Held S0 w0 w ∧ wpAnyH cx.pg.P .any ops.toArray (cont cx.pg.P (post cx T) k) (Held S0 w0) fuel (listed.toArray.setIfInBounds q true) a w) a w := by
    intro q o hst n0 H0 S0 w0 h0 g0 hσ hap hfree hlink H a w hs ha hq
    obtain ⟨hq', hgd, h⟩ := hst
    unfold wpOp
    have hi' : ops.toArray[q]? = some o := by simpa using hq'
    rw [hi']
    simp only
    have hw := gdOk_wanted (o := o) ha.env hgd
    rw [if_pos hw]
    refine .inl (h n0 H0 S0 w0 h0 g0 H a w _ _ (g0.mono hs.fr.le) hs ha (hlink H s w hs).sat fun H' u g w' s' ρ' hle hi hs' ha' hd hra => ?_)
    rw [set_list]
    refine ⟨hs'.keeps, hra n0 H0 S0 w0 h0 g0 hσ hap hfree hlink H' (a.put o.dst u) w' hs' ha' ?_⟩
    exact EnvOk.at_put (H := H) hq hle (fun d hdd => by rw [ha.size]; exact hd d hdd) hi
  intro n0 H0 S0 w0 h0 g0 hσ hap hfree hlink H a w hs ha hq
  refine wpAnyH_all hr (by simp) (fun q hq' => ?_)
  rcases List.mem_cons.1 hq' with rfl | hq'
  · exact one hi n0 H0 S0 w0 h0 g0 hσ hap hfree hlink H a w hs ha hq
  · obtain rfl := List.mem_singleton.1 hq'
    exact one hj n0 H0 S0 w0 h0 g0 hσ hap hfree hlink H a w hs ha hq

theorem Stp.mem {ops : List Oper} {k : List It} {σs : Heap} {ρq : Env} {fuel : Nat} {listed : List Bool} {s : St} (i : Nat) {o : Oper} (hp : cx.pg.Ok) (hi : ops[i]? = some o) (hgd : gdOk ops s.ρ o.guard = true) (hpu : isPure o.op = false)
    (h : goVC cx false s o (fun s' => RA cx T ops k σs (qput ρq o.dst (match s'.ρ with | (_, g) :: _ => g | [] => .v undef)) fuel (listed.set i true) s') (fun _ => False) s.ρ) : Stp cx T ops k σs ρq fuel listed s i o := by
  refine ⟨hi, hgd, fun n0 H0 S0 w0 h0 g0 H a w K Q' hg hs ha _ hK => ?_⟩
  have ha' : ActOk ⟨cx.pg, cx.N, n0, H0, S0, w0, h0, g0⟩ H s.ρ a := ⟨ha.env, ha.size, ha.defers⟩
  have h' : goVC ⟨cx.pg, cx.N, n0, H0, S0, w0, h0, g0⟩ false s o (fun s' => RA cx T ops k σs (qput ρq o.dst (match s'.ρ with | (_, g) :: _ => g | [] => .v undef)) fuel (listed.set i true) s') (fun _ => False) s.ρ := h
  rcases go_mem (cx := ⟨cx.pg, cx.N, n0, H0, S0, w0, h0, g0⟩) hp hg hs ha' hpu h' with hl | ⟨H', u, g, w', s0, hle, hrun, hi, hd, hsim⟩
  · exact hl.elim
  · refine upon_value_wp hrun ?_
    have hlt := dput_lt hd
    cases hdst : o.dst with
    | none =>
      rw [hdst] at hd
      have h1 := hK H' u g w' s0 s.ρ hle hi (hsim s.ρ) (by rw [hdst]; exact ha.mono hle) hlt (by rw [hdst]; exact hd)
      rw [hdst] at h1
      exact h1
    | some d =>
      rw [hdst] at hd
      simp only [dput, nf_eq] at hd
      have hdl := hlt d hdst
      have hb : Nat.blt d cx.N = true := by rw [Nat.blt_eq]; exact hdl
      rw [hb] at hd
      have hput : ActOk cx H' ((d, g) :: s.ρ) (a.put (some d) u) := ⟨(ha.mono hle).env.put (by rw [ha.size]; exact hdl) hi, by simp [Act.put, ha.size], by simp [Act.put, ha.defers]⟩
      have h1 := hK H' u g w' s0 ((d, g) :: s.ρ) hle hi (hsim _) (by rw [hdst]; exact hput) hlt (by rw [hdst]; exact hd)
      rw [hdst] at h1
      exact h1

/-- A region whose end is told once, for all its orders. -/
theorem JK.drawJ {id : Nat} {ops : Array Oper} {k : List It} {s : St} (M : List Nat) (I : St) (hp : cx.pg.Ok) (hk : JK cx T k I)
    (h : JK cx T k I → RA cx T ops.toList k (hrest M s.σ ++ lns (hsel M s.σ)) s.ρ ops.toList.length (List.replicate ops.toList.length false) ⟨s.ρ, hsel M s.σ, s.n⟩) : JK cx T (.code (.region id ops true) :: k) s :=
  JK.draw M hp (h hk)
theorem RA.endJ {ops : List Oper} {k : List It} {σs : Heap} {ρq : Env} {fuel : Nat} {listed : List Bool} {s I : St} (f : Nat → Nat) (hr : eqB (Region.ready .any ops.toArray listed.toArray) [] = true) (hk : JK cx T k I) (hl : Le cx.n0 f I ⟨s.ρ, s.σ ++ σs, s.n⟩) : RA cx T ops k σs ρq fuel listed s :=
  RA.done (eqB_eq hr) (JK.weaken f I hl hk)

/-- How a piece of code ends. -/
def cutT {α : Type} (cx : Cx) (T : Post) (k : List It) (I : α → St) (pre : α → Prop) : Post := fun e s =>
  match e with
  | .normal => ∃ (y : α) (f : Nat → Nat), Le cx.n0 f (I y) s ∧ pre y
  | e => outT cx T k e s
/-- A PIECE OF CODE BY ITSELF: what comes behind it is told once. -/
theorem JK.cut {α : Type} {c : Code} {k : List It} {s : St} (I : α → St) (pre : α → Prop) (hb : JK cx (cutT cx T k I pre) [.code c] s) (hk : ∀ x, pre x → JK cx T k (I x)) : JK cx T (.code c :: k) s := by
  intro H a w hg hs ha
  have h1 := hb H a w hg hs ha
  have hgx : ∀ {H' : Hid}, Hid.le cx.H0 H' → GlOk cx.pg H' := fun hle => cx.g0.mono hle
  refine Code.wp_mono (fun e a' w' hq => ?_) h1
  obtain ⟨H', s', hs', ha', hT⟩ := hq
  cases e with
  | normal =>
    obtain ⟨y, f, hl, hpy⟩ := hT
    obtain ⟨H2, hg2, hs2, ha2⟩ := GK.weaken (hgx hs'.fr.le) hs' ha' hl
    exact hk y hpy H2 a' w' hg2 hs2 ha2
  | exit id => exact cont_out (hgx hs'.fr.le) hs' ha' hT
  | goto l => exact cont_out (hgx hs'.fr.le) hs' ha' hT
  | ret => exact cont_out (hgx hs'.fr.le) hs' ha' hT
  | panic ch => exact cont_out (hgx hs'.fr.le) hs' ha' hT
  | outgrown => exact cont_out (hgx hs'.fr.le) hs' ha' hT
end
end Go.GK
/-
  The ghost machine: a value that is told otherwise (a nil slice as an empty one that is only read).
-/
namespace Go.GK
open Go.RowKit
/-- What is told by g is told by g', too. -/
def Sub (g' g : GV) : Prop := ∀ {H : Hid} {u : Value}, Is H g u → Is H g' u
theorem Sub.rfl {g : GV} : Sub g g := fun h => h
theorem Sub.nil (sz : Nat) : Sub (.sl sz []) (.v (.slice none 0 0)) := fun {H u} h => by
  rw [h.inv_v]
  exact .ro .slnil
theorem Sub.tup2 {a a' b b' : GV} (ha : Sub a' a) (hb : Sub b' b) : Sub (.tup [a', b']) (.tup [a, b]) := fun {H u} h => by
  obtain ⟨us, rfl, hl, hi⟩ := h.inv_tup
  refine .tup hl fun j g hj => ?_
  match j with
  | 0 => simp at hj; subst hj; exact ha (hi 0 a _root_.rfl)
  | 1 => simp at hj; subst hj; exact hb (hi 1 b _root_.rfl)
  | j + 2 => simp at hj
theorem Hf.imp {p : Pg} {f : FuncId} {n0 : Nat} {args : List GV} {σ : Heap} {Q Q' : GV → Heap → Nat → Prop} (h : Hf p f n0 args σ Q) (hQ : ∀ g σ' n', Q g σ' n' → Q' g σ' n') : Hf p f n0 args σ Q' :=
  ⟨h.call, fun H us w a b c d => (h.ct H us w a b c d).mono fun _ _ ⟨u, g, H', σ', e1, e2, e3, e4, hq⟩ => ⟨u, g, H', σ', e1, e2, e3, e4, hQ _ _ _ hq⟩⟩
/-- A contract whose result is told otherwise. -/
theorem Hf.sub {p : Pg} {f : FuncId} {n0 : Nat} {args : List GV} {σ : Heap} {Q Q' : GV → Heap → Nat → Prop} (h : Hf p f n0 args σ Q) (hQ : ∀ g σ' n', Q g σ' n' → ∃ g', Sub g' g ∧ Q' g' σ' n') : Hf p f n0 args σ Q' := by
  refine ⟨h.call, fun H us w hn hg hc hs => ?_⟩
  refine Calls.mono (h.ct H us w hn hg hc hs) (fun e w' he => ?_)
  obtain ⟨u, g, H', σ', rfl, hi, hs', hfr, hq⟩ := he
  obtain ⟨g', hs2, hq'⟩ := hQ g σ' _ hq
  exact ⟨u, g', H', σ', rfl, hs2 hi, hs', hfr, hq'⟩
theorem Rq.sub {p : Pg} {f : FuncId} {args : List GV} {Q Q' : GV → Prop} (h : Rq p f args Q) (hQ : ∀ g, Q g → ∃ g', Sub g' g ∧ Q' g' ∧ idb 0 g' = true) : Rq p f args Q' :=
  ⟨h.call, fun H us w hn hg hcs hs => (h.ct H us w hn hg hcs hs).mono fun _ _ ⟨u, g, H', σ', e, hi, hs', hfr, hv, r⟩ => by
    obtain ⟨g', hs2, hq', hid⟩ := hQ g hv.1
    exact ⟨u, g', H', σ', e, hs2 hi, hs', hfr, ⟨hq', hid⟩, r⟩⟩
section
variable {cx : Cx} {T : Post}
/-- A variable is told otherwise. -/
theorem JK.sub {k : List It} {s : St} (t : Nat) {g : GV} (g' : GV) (hl : look s.ρ t = some g) (hg : Sub g' g) (h : JK cx T k ⟨(t, g') :: s.ρ, s.σ, s.n⟩) : JK cx T k s := by
  refine JK.upd _ (fun H a w hgl hs ha => ⟨H, hgl, hs.ρ _, ⟨ha.env.cons ?_, ha.size, ha.defers⟩⟩) h
  exact hg (ha.env t _ hl)
end
end Go.GK
/-
  Rules: calls that have own things, what stands behind them not told as conditions yet; so many steps; a map's lookup.
-/
namespace Go.Proofs.YtpenlenmpigomaaGreatDoor
open Go.GK Go.RowKit
section
variable {N n0 : Nat} {H0 : Hid} {S0 : List Nat} {w0 : World} {h0 : H0.n = n0} {g0 : GlOk pg H0} {T : Post} {k : List It} {s : St}
/-- A call with own things; what comes behind it is not told as conditions yet. -/
theorem GOJ {all : List Oper} {o : Oper} {rest : List Oper} {f : FuncId} {m : Nat} {cargs gs : List GV} {σc : Heap} {Q : GV → Heap → Nat → Prop} (hr : Hf pg f m cargs σc Q) (r : Nat → Nat) (hk : callG pg all s.ρ o = some (f, gs)) (hargs : gs = renL r cargs) (hσ : leσ r σc s.σ)
    (chk : (idbL m cargs && idbH m σc && distB (hids r σc)) = true) (hrn : ∀ i, i < m → r i < s.n)
    (h : ∀ g σ' n', Q g σ' n' → nf (ren (sh r m s.n) g) fun g => nfH (renH (sh r m s.n) σ' ++ hrest (hids r σc) s.σ) fun σ => nfN (s.n + (n' - m)) fun n => dputV N s.ρ o.dst g fun ρ' => JK ⟨pg, N, n0, H0, S0, w0, h0, g0⟩ T (.ops false all rest :: k) ⟨ρ', σ, n⟩) :
    JK ⟨pg, N, n0, H0, S0, w0, h0, g0⟩ T (.ops false all (o :: rest) :: k) s := by
  obtain ⟨fo, args, ts, first, caps, gs', ho, hgd, hf, he, hargs'⟩ := callG_spec hk
  refine JK.call hr.ct hr.call r ho hgd hf he (hargs'.trans hargs) hσ chk hrn (fun g σ' n' hq => ?_)
  have := h g σ' n' hq
  simp only [dputV_eq] at this
  exact this
/-- So many steps. -/
theorem VM (n : Nat) (h : vc ⟨pg, N, n0, H0, S0, w0, h0, g0⟩ T n k s) : JK ⟨pg, N, n0, H0, S0, w0, h0, g0⟩ T k s := vc_sound pg_ok n k s h
end
/-- A call that has own things, in a region that draws. -/
theorem RGOH {N n0 : Nat} {H0 : Hid} {S0 : List Nat} {w0 : World} {h0 : H0.n = n0} {g0 : GlOk pg H0} {T : Post} {k : List It} {s : St} {ops : List Oper} {σs : Heap} {ρq : Env} {fuel : Nat} {listed : List Bool} (i : Nat) (e : Bool) (order : List (Nat × Bool)) {o : Oper} {f : FuncId} {m : Nat} {cargs gs : List GV} {σc : Heap} {Q : GV → Heap → Nat → Prop} (hr : Hf pg f m cargs σc Q) (r : Nat → Nat) (hi : ops[i]? = some o) (hk : callG pg ops s.ρ o = some (f, gs)) (hargs : gs = renL r cargs) (hσ : leσ r σc s.σ)
    (chk : (idbL m cargs && idbH m σc && distB (hids r σc)) = true) (hrn : ∀ i, i < m → r i < s.n)
    (hB : (Region.noSelect ops.toArray && eqB (Region.ready .any ops.toArray listed.toArray) [i] && ordB ops e order (listed.set i true)) = true)
    (h : ∀ g σ' n', Q g σ' n' → nf (ren (sh r m s.n) g) fun g => nfH (renH (sh r m s.n) σ' ++ hrest (hids r σc) s.σ) fun σ => nfN (s.n + (n' - m)) fun n => nfE (qput ρq o.dst g) fun ρq => dputV N s.ρ o.dst g fun ρ' => rvc ⟨pg, N, n0, H0, S0, w0, h0, g0⟩ T ops k σs e order fuel (listed.set i true) ρq ⟨ρ', σ, n⟩) (hT : ∀ ch s, ¬ T (.panic ch) s := by intro _ _ h; exact h) : RA ⟨pg, N, n0, H0, S0, w0, h0, g0⟩ T ops k σs ρq (fuel + 1) listed s := by
  simp only [Bool.and_eq_true] at hB
  exact RA.goH i order e pg_ok hB.1.1 hT hr r hi hk hargs hσ chk hrn (by simp only [hB.1.2, hB.2, Bool.and_self]) h
/-- A function of values, as one that may have own things. -/
theorem _root_.Go.GK.Rq.hf {f : FuncId} {args : List GV} {G : GV} (h : Rt pg f args G) : Hf pg f 0 args [] (fun g σ n => g = G ∧ σ = [] ∧ n = 0) :=
  ⟨h.call, fun H us w hn hg hcs hs => (h.ct H us w hn hg hcs hs).mono fun _ _ ⟨u, g, H', σ', e, hi, hs', hfr, ⟨hq, _⟩, h1, h2⟩ => ⟨u, g, H', σ', e, hi, hs', hfr, hq, h1, h2⟩⟩
theorem lkS {K1 : GV → Prop} {K2 : Prop} {es : List (Value × GV)} {k : Value} {x : GV} (h : mfind k es = some x) (h1 : K1 x) : (∀ g, mfind k es = some g → K1 g) ∧ (mfind k es = none → K2) := ⟨fun g hg => by rw [h] at hg; cases hg; exact h1, fun hg => by rw [h] at hg; cases hg⟩
theorem lkN {K1 : GV → Prop} {K2 : Prop} {es : List (Value × GV)} {k : Value} (h : mfind k es = none) (h2 : K2) : (∀ g, mfind k es = some g → K1 g) ∧ (mfind k es = none → K2) := ⟨fun g hg => (by rw [h] at hg; cases hg), fun _ => h2⟩
theorem r1_lt {b n : Nat} (h : Nat.blt b n = true) : ∀ i, i < 1 → r1 0 b i < n := fun i hi => by
  obtain rfl : i = 0 := by omega
  rw [Nat.blt_eq] at h
  exact h
theorem id_lt {a n : Nat} (h : Nat.ble a n = true) : ∀ i, i < a → id i < n := fun _ hi => Nat.lt_of_lt_of_le hi (Nat.le_of_ble_eq_true h)
end Go.Proofs.YtpenlenmpigomaaGreatDoor
/-
  DERIVED: THE SHELF's CONTRACTS AT THIS DUMP, IN PLAIN WORDS (tools/lay-plain.mjs out of 'TryzShelf.lean', which tools/lay-shelf.mjs wrote): THE SAME DECLARATIONS UNDER THE SAME NAMES: 'import', 'namespace', 'open', 'def', 'theorem' AND NOTHING ELSE: no command of the shelf's: FOR A HAND-IN. Each laying: the table of numbers ('.._ren') and one theorem, a field a fact of the dump's own or the kernel's comparison; each contract: ONE APPLICATION.
-/
namespace Go.Proofs
open Go.Shelf
def Tryz.lays190_ren : Go.Shelf.Ren := ⟨fun | 190 => 22 | 125 => 36 | 258 => 35 | 128 => 55 | 129 => 56 | 302 => 46 | 303 => 47 | 304 => 48 | 305 => 49 | 306 => 50 | 307 => 51 | 308 => 52 | 309 => 53 | 310 => 54 | 333 => 75 | 329 => 76 | 330 => 77 | 334 => 78 | 335 => 79 | 336 => 80 | 344 => 93 | n => n, fun | 31 => 41 | 9 => 9 | 3 => 3 | 46 => 81 | 0 => 0 | 51 => 99 | 53 => 101 | 4 => 4 | 183 => 92 | 182 => 91 | 131 => 96 | 5 => 5 | 218 => 127 | 222 => 131 | 228 => 153 | 229 => 154 | n => n, fun | n => n⟩
theorem Tryz.lays190 : Go.Proofs.Lays.n190 Tryz.prog Tryz.lays190_ren := {
  mixed := by kernel_rfl
  f125 := Tryz.func36.trans (congrArg some (by kernel_rfl))
  f128 := Tryz.func55.trans (congrArg some (by kernel_rfl))
  f129 := Tryz.func56.trans (congrArg some (by kernel_rfl))
  f190 := Tryz.func22.trans (congrArg some (by kernel_rfl))
  f258 := Tryz.func35.trans (congrArg some (by kernel_rfl))
  f302 := Tryz.func46.trans (congrArg some (by kernel_rfl))
  f303 := Tryz.func47.trans (congrArg some (by kernel_rfl))
  f304 := Tryz.func48.trans (congrArg some (by kernel_rfl))
  f305 := Tryz.func49.trans (congrArg some (by kernel_rfl))
  f306 := Tryz.func50.trans (congrArg some (by kernel_rfl))
  f307 := Tryz.func51.trans (congrArg some (by kernel_rfl))
  f308 := Tryz.func52.trans (congrArg some (by kernel_rfl))
  f309 := Tryz.func53.trans (congrArg some (by kernel_rfl))
  f310 := Tryz.func54.trans (congrArg some (by kernel_rfl))
  f329 := Tryz.func76.trans (congrArg some (by kernel_rfl))
  f330 := Tryz.func77.trans (congrArg some (by kernel_rfl))
  f333 := Tryz.func75.trans (congrArg some (by kernel_rfl))
  f334 := Tryz.func78.trans (congrArg some (by kernel_rfl))
  f335 := Tryz.func79.trans (congrArg some (by kernel_rfl))
  f336 := Tryz.func80.trans (congrArg some (by kernel_rfl))
  f344 := Tryz.func93.trans (congrArg some (by kernel_rfl))
  t0 := Tryz.underlying0
  a0 := Tryz.isAgg0
  z0 := Tryz.sizeOf0
  v0 := Tryz.zeroValue0
  t3 := Tryz.underlying3
  a3 := Tryz.isAgg3
  z3 := Tryz.sizeOf3
  v3 := Tryz.zeroValue3
  t4 := Tryz.underlying4
  a4 := Tryz.isAgg4
  z4 := Tryz.sizeOf4
  v4 := Tryz.zeroValue4
  t5 := Tryz.underlying5
  a5 := Tryz.isAgg5
  z5 := Tryz.sizeOf5
  v5 := Tryz.zeroValue5
  t9 := Tryz.underlying9
  a9 := Tryz.isAgg9
  z9 := Tryz.sizeOf9
  v9 := Tryz.zeroValue9
  t31 := Tryz.underlying41
  a31 := Tryz.isAgg41
  z31 := Tryz.sizeOf41
  v31 := Tryz.zeroValue41
  t46 := Tryz.underlying81
  a46 := Tryz.isAgg81
  z46 := Tryz.sizeOf81
  v46 := Tryz.zeroValue81
  t51 := Tryz.underlying99
  a51 := Tryz.isAgg99
  z51 := Tryz.sizeOf99
  v51 := Tryz.zeroValue99
  t53 := Tryz.underlying101
  a53 := Tryz.isAgg101
  z53 := Tryz.sizeOf101
  v53 := Tryz.zeroValue101
  t131 := Tryz.underlying96
  a131 := Tryz.isAgg96
  z131 := Tryz.sizeOf96
  v131 := Tryz.zeroValue96
  t182 := Tryz.underlying91
  a182 := Tryz.isAgg91
  z182 := Tryz.sizeOf91
  v182 := Tryz.zeroValue91
  t183 := Tryz.underlying92
  a183 := Tryz.isAgg92
  z183 := Tryz.sizeOf92
  v183 := Tryz.zeroValue92
  t218 := Tryz.underlying127
  a218 := Tryz.isAgg127
  z218 := Tryz.sizeOf127
  v218 := Tryz.zeroValue127
  t222 := Tryz.underlying131
  a222 := Tryz.isAgg131
  z222 := Tryz.sizeOf131
  v222 := Tryz.zeroValue131
  t228 := Tryz.underlying153
  a228 := Tryz.isAgg153
  z228 := Tryz.sizeOf153
  v228 := Tryz.zeroValue153
  t229 := Tryz.underlying154
  a229 := Tryz.isAgg154
  z229 := Tryz.sizeOf154
  v229 := Tryz.zeroValue154 }
open Go.Sort Go.RowKit in
theorem Tryz.slices_Sort_string (blk off cap : Nat) (ss : List (List UInt8)) (w : World) (hH : Holds encStr w blk off ss.toArray) (hblk : blk < w.heap.size) (hsz : ss.length < 4611686018427387904) :
    Calls Tryz.prog 22 #[.slice (some ⟨blk, off, none⟩) ss.length cap] w fun e w' =>
      e = .returned (.tuple #[]) ∧ ∃ n os, w' = grow (putRow encStr (Sort.ahead w n) blk off (ss.mergeSort fun x y => decide (x ≤ y)).toArray) os := Any.slices_Sort_string Tryz.lays190 blk off cap ss w hH hblk hsz
def Tryz.lays192_ren : Go.Shelf.Ren := ⟨fun | 192 => 24 | 190 => 22 | 125 => 36 | 258 => 35 | 128 => 55 | 129 => 56 | 302 => 46 | 303 => 47 | 304 => 48 | 305 => 49 | 306 => 50 | 307 => 51 | 308 => 52 | 309 => 53 | 310 => 54 | 333 => 75 | 329 => 76 | 330 => 77 | 334 => 78 | 335 => 79 | 336 => 80 | 344 => 93 | n => n, fun | 31 => 41 | 0 => 0 | 9 => 9 | 3 => 3 | 46 => 81 | 51 => 99 | 53 => 101 | 4 => 4 | 183 => 92 | 182 => 91 | 131 => 96 | 5 => 5 | 218 => 127 | 222 => 131 | 228 => 153 | 229 => 154 | n => n, fun | n => n⟩
theorem Tryz.lays192 : Go.Proofs.Lays.n192 Tryz.prog Tryz.lays192_ren := {
  mixed := by kernel_rfl
  f125 := Tryz.func36.trans (congrArg some (by kernel_rfl))
  f128 := Tryz.func55.trans (congrArg some (by kernel_rfl))
  f129 := Tryz.func56.trans (congrArg some (by kernel_rfl))
  f190 := Tryz.func22.trans (congrArg some (by kernel_rfl))
  f192 := Tryz.func24.trans (congrArg some (by kernel_rfl))
  f258 := Tryz.func35.trans (congrArg some (by kernel_rfl))
  f302 := Tryz.func46.trans (congrArg some (by kernel_rfl))
  f303 := Tryz.func47.trans (congrArg some (by kernel_rfl))
  f304 := Tryz.func48.trans (congrArg some (by kernel_rfl))
  f305 := Tryz.func49.trans (congrArg some (by kernel_rfl))
  f306 := Tryz.func50.trans (congrArg some (by kernel_rfl))
  f307 := Tryz.func51.trans (congrArg some (by kernel_rfl))
  f308 := Tryz.func52.trans (congrArg some (by kernel_rfl))
  f309 := Tryz.func53.trans (congrArg some (by kernel_rfl))
  f310 := Tryz.func54.trans (congrArg some (by kernel_rfl))
  f329 := Tryz.func76.trans (congrArg some (by kernel_rfl))
  f330 := Tryz.func77.trans (congrArg some (by kernel_rfl))
  f333 := Tryz.func75.trans (congrArg some (by kernel_rfl))
  f334 := Tryz.func78.trans (congrArg some (by kernel_rfl))
  f335 := Tryz.func79.trans (congrArg some (by kernel_rfl))
  f336 := Tryz.func80.trans (congrArg some (by kernel_rfl))
  f344 := Tryz.func93.trans (congrArg some (by kernel_rfl))
  t0 := Tryz.underlying0
  a0 := Tryz.isAgg0
  z0 := Tryz.sizeOf0
  v0 := Tryz.zeroValue0
  t3 := Tryz.underlying3
  a3 := Tryz.isAgg3
  z3 := Tryz.sizeOf3
  v3 := Tryz.zeroValue3
  t4 := Tryz.underlying4
  a4 := Tryz.isAgg4
  z4 := Tryz.sizeOf4
  v4 := Tryz.zeroValue4
  t5 := Tryz.underlying5
  a5 := Tryz.isAgg5
  z5 := Tryz.sizeOf5
  v5 := Tryz.zeroValue5
  t9 := Tryz.underlying9
  a9 := Tryz.isAgg9
  z9 := Tryz.sizeOf9
  v9 := Tryz.zeroValue9
  t31 := Tryz.underlying41
  a31 := Tryz.isAgg41
  z31 := Tryz.sizeOf41
  v31 := Tryz.zeroValue41
  t46 := Tryz.underlying81
  a46 := Tryz.isAgg81
  z46 := Tryz.sizeOf81
  v46 := Tryz.zeroValue81
  t51 := Tryz.underlying99
  a51 := Tryz.isAgg99
  z51 := Tryz.sizeOf99
  v51 := Tryz.zeroValue99
  t53 := Tryz.underlying101
  a53 := Tryz.isAgg101
  z53 := Tryz.sizeOf101
  v53 := Tryz.zeroValue101
  t131 := Tryz.underlying96
  a131 := Tryz.isAgg96
  z131 := Tryz.sizeOf96
  v131 := Tryz.zeroValue96
  t182 := Tryz.underlying91
  a182 := Tryz.isAgg91
  z182 := Tryz.sizeOf91
  v182 := Tryz.zeroValue91
  t183 := Tryz.underlying92
  a183 := Tryz.isAgg92
  z183 := Tryz.sizeOf92
  v183 := Tryz.zeroValue92
  t218 := Tryz.underlying127
  a218 := Tryz.isAgg127
  z218 := Tryz.sizeOf127
  v218 := Tryz.zeroValue127
  t222 := Tryz.underlying131
  a222 := Tryz.isAgg131
  z222 := Tryz.sizeOf131
  v222 := Tryz.zeroValue131
  t228 := Tryz.underlying153
  a228 := Tryz.isAgg153
  z228 := Tryz.sizeOf153
  v228 := Tryz.zeroValue153
  t229 := Tryz.underlying154
  a229 := Tryz.isAgg154
  z229 := Tryz.sizeOf154
  v229 := Tryz.zeroValue154 }
open Go.Sort Go.RowKit in
theorem Tryz.sort_Strings (blk off cap : Nat) (ss : List (List UInt8)) (w : World) (hH : Holds encStr w blk off ss.toArray) (hblk : blk < w.heap.size) (hsz : ss.length < 4611686018427387904) :
    Calls Tryz.prog 24 #[.slice (some ⟨blk, off, none⟩) ss.length cap] w fun e w' =>
      e = .returned (.tuple #[]) ∧ ∃ n os, w' = grow (putRow encStr (Sort.ahead w n) blk off (ss.mergeSort fun x y => decide (x ≤ y)).toArray) os := Any.sort_Strings Tryz.lays192 blk off cap ss w hH hblk hsz
open Go.RowKit Go.Sort in
/-- .. and plain. (LAID: no walk: one application.) -/
theorem Tryz.slices_Sort_string_none (p : Option Addr) (cap : Nat) (w : World) :
    Calls Tryz.prog 22 #[.slice p 0 cap] w fun e w' => e = .returned (.tuple #[]) ∧ w' = w := Any.slices_Sort_string_none Tryz.lays190 p cap w
open Go.RowKit Go.Sort in
/-- .. and plain. (LAID: no walk: one application.) -/
theorem Tryz.sort_Strings_none (p : Option Addr) (cap : Nat) (w : World) :
    Calls Tryz.prog 24 #[.slice p 0 cap] w fun e w' => e = .returned (.tuple #[]) ∧ w' = w := Any.sort_Strings_none Tryz.lays192 p cap w
end Go.Proofs
/-
  Plain laws: labels are written alike just if they are alike. No program is in sight.
-/
namespace Go.PL
open Go Go.GK

theorem split_uniq {α : Type} {c : α} : ∀ {x y r s : List α}, c ∉ x → c ∉ y → x ++ c :: r = y ++ c :: s → x = y ∧ r = s
  | [], [], r, s, _, _, h => by simpa using h
  | [], b :: y, r, s, _, hy, h => by
    simp only [List.nil_append, List.cons_append, List.cons.injEq] at h
    exact (hy (by rw [h.1]; exact List.mem_cons_self)).elim
  | a :: x, [], r, s, hx, _, h => by
    simp only [List.nil_append, List.cons_append, List.cons.injEq] at h
    exact (hx (by rw [← h.1]; exact List.mem_cons_self)).elim
  | a :: x, b :: y, r, s, hx, hy, h => by
    simp only [List.cons_append, List.cons.injEq] at h
    obtain ⟨h1, h2⟩ := split_uniq (fun e => hx (List.mem_cons_of_mem _ e)) (fun e => hy (List.mem_cons_of_mem _ e)) h.2
    exact ⟨by rw [h.1, h1], h2⟩

def cleanL (l : List Lb) : Prop := ∀ x ∈ l, (61 : UInt8) ∉ x.name.data.toList ∧ (34 : UInt8) ∉ x.value.data.toList

theorem right_clean {l : List Lb} (h : rightF l = true) : cleanL l := by
  intro x hx
  unfold rightF at h
  rw [Bool.and_eq_true, Bool.not_eq_true'] at h
  obtain ⟨i, hi, rfl⟩ := List.getElem_of_mem hx
  have hb := anyB_get h.1 i hi
  unfold lbad at hb
  rw [show l.getD i default = l[i] by simp [hi], Bool.or_eq_false_iff, Bool.or_eq_false_iff, Bool.not_eq_false', Bool.not_eq_false'] at hb
  obtain ⟨h1, h2, _⟩ := hb
  constructor
  · intro hc
    unfold nameF at h1
    rw [Bool.and_eq_true, Bool.not_eq_true'] at h1
    obtain ⟨j, hj, e⟩ := List.getElem_of_mem hc
    rw [size_data] at hj
    have := anyB_get h1.1 j hj
    rw [nbad_some hj] at this
    have e' : l[i].name[j] = 61 := e
    rw [e'] at this
    revert this
    cases (j == 0) <;> decide
  · intro hc
    unfold valueF at h2
    rw [Bool.and_eq_true, Bool.not_eq_true'] at h2
    obtain ⟨j, hj, e⟩ := List.getElem_of_mem hc
    rw [size_data] at hj
    have := anyB_get h2.1 j hj
    unfold vbad at this
    rw [getElem?_pos l[i].value j hj] at this
    have e' : l[i].value[j] = 34 := e
    simp only [e'] at this
    revert this
    decide

def tailF : List Lb → List UInt8
  | [] => [125]
  | x :: r => 44 :: (itemF x ++ tailF r)
theorem text_tail (x : Lb) (r : List Lb) : ([44] : List UInt8).intercalate ((x :: r).map itemF) ++ [125] = itemF x ++ tailF r := by
  induction r generalizing x with
  | nil => simp [List.intercalate, tailF]
  | cons y r ih =>
    have e : ([44] : List UInt8).intercalate ((x :: y :: r).map itemF) = itemF x ++ ([44] ++ ([44] : List UInt8).intercalate ((y :: r).map itemF)) := by simp [List.intercalate]
    rw [e, List.append_assoc, List.append_assoc, ih y]
    rfl
theorem item_uniq {x y : Lb} {r s : List UInt8} (hx : (61 : UInt8) ∉ x.name.data.toList ∧ (34 : UInt8) ∉ x.value.data.toList) (hy : (61 : UInt8) ∉ y.name.data.toList ∧ (34 : UInt8) ∉ y.value.data.toList) (h : itemF x ++ r = itemF y ++ s) : x = y ∧ r = s := by
  unfold itemF at h
  simp only [List.append_assoc, List.cons_append, List.nil_append] at h
  obtain ⟨h1, h2⟩ := split_uniq hx.1 hy.1 h
  simp only [List.cons.injEq, true_and] at h2
  obtain ⟨h3, h4⟩ := split_uniq hx.2 hy.2 h2
  obtain ⟨x1, x2⟩ := x
  obtain ⟨y1, y2⟩ := y
  have e1 := ba_inj h1
  have e2 := ba_inj h3
  simp only at e1 e2
  exact ⟨by rw [e1, e2], h4⟩
theorem tail_uniq : ∀ {a b : List Lb}, cleanL a → cleanL b → tailF a = tailF b → a = b
  | [], [], _, _, _ => rfl
  | [], y :: b, _, _, h => by simp [tailF] at h
  | x :: a, [], _, _, h => by simp [tailF] at h
  | x :: a, y :: b, ha, hb, h => by
    simp only [tailF, List.cons.injEq, true_and] at h
    obtain ⟨h1, h2⟩ := item_uniq (ha x List.mem_cons_self) (hb y List.mem_cons_self) h
    rw [h1, tail_uniq (fun z hz => ha z (List.mem_cons_of_mem _ hz)) (fun z hz => hb z (List.mem_cons_of_mem _ hz)) h2]
theorem text_iff {a b : List Lb} (ha : cleanL a) (hb : cleanL b) : textF a = textF b ↔ a = b := by
  refine ⟨fun h => ?_, fun h => by rw [h]⟩
  have h1 := congrArg (fun s : ByteArray => s.data.toList) h
  simp only [textF, data_bs, List.cons_append, List.nil_append, List.cons.injEq, true_and] at h1
  have hlen : ∀ (x : Lb) (r : List Lb), (itemF x ++ tailF r).length ≥ 3 := fun x r => by simp [itemF]; omega
  cases a with
  | nil =>
    cases b with
    | nil => rfl
    | cons y b =>
      rw [text_tail] at h1
      have := hlen y b
      rw [← h1] at this
      simp [List.intercalate] at this
  | cons x a =>
    cases b with
    | nil =>
      rw [text_tail] at h1
      have := hlen x a
      rw [h1] at this
      simp [List.intercalate] at this
    | cons y b =>
      rw [text_tail, text_tail] at h1
      obtain ⟨h2, h3⟩ := item_uniq (ha x List.mem_cons_self) (hb y List.mem_cons_self) h1
      rw [h2, tail_uniq (fun z hz => ha z (List.mem_cons_of_mem _ hz)) (fun z hz => hb z (List.mem_cons_of_mem _ hz)) h3]

/-- The opposite matcher. -/
def flipM (m : Mt) : Mt := { m with op := if m.op = 0 then 1 else if m.op = 1 then 0 else if m.op = 2 then 3 else 2 }
theorem flip_one (l : List Lb) (m : Mt) (h : 0 ≤ m.op ∧ m.op ≤ 3) : loneF l (flipM m) = !loneF l m := by
  obtain ⟨n, op, v⟩ := m
  simp only at h
  have h4 : op = 0 ∨ op = 1 ∨ op = 2 ∨ op = 3 := by omega
  rcases h4 with rfl | rfl | rfl | rfl <;> simp [loneF, flipM]
end Go.PL
