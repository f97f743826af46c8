/-
  Contracts: package label: names, values, labels.
-/
import Derived.Test.YtaaoljhfepmkjaaDoorCStr
import Derived.Test.YtaaoljhfepmkjaaDoorPLb
namespace Go.Proofs.YtaaoljhfepmkjaaDoor
open Go.GK Go.PL Go.RowKit
set_option maxRecDepth 100000
abbrev lb (x : Lb) : List GV := [gs x.name, gs x.value]
abbrev mt (x : Mt) : List GV := [gs x.name, gi x.op, gs x.value]

theorem empty_iff (s : ByteArray) : sEq s ⟨#[]⟩ = decide (s.size = 0) := by
  rw [Bool.eq_iff_iff, sEq_iff, decide_eq_true_iff]
  exact ⟨fun e => by rw [e]; rfl, fun h => ba_inj (List.eq_nil_of_length_eq_zero (by rw [size_data]; exact h))⟩

theorem name_rt (s : ByteArray) : Rt pg 46 [gs s] (.b (nameF s)) := by
  refine Rt.of pg_ok Tryd.func46 rfl Tryd.ntmps46 rfl Tryd.results46 Tryd.call46 fun H0 S0 w0 h0 g0 => ?_
  have he := empty_iff s
  by_cases h0 : s.size = 0
  · rw [decide_eq_true h0] at he
    rw [nameF_no (by omega)]
    refine p2 ?_ (show (!sEq s ⟨#[]⟩) = false by rw [he]; rfl)
    exact ⟨rfl, rfl⟩
  · rw [decide_eq_false h0] at he
    refine p1 ?_ (show (!sEq s ⟨#[]⟩) = true by rw [he]; rfl)
    by_cases h1 : s.size ≤ 24
    · refine p1 ?_
      rw [name_prog s (by omega) h1]
      refine sx (i := 0) (h := ?_)
      refine GO (indexByte_rt ⟨lettL.toArray⟩ s[0]) rfl ?_
      have e : decide (0 ≤ Lib.indexByte lettL s[0]) = letB s[0] := lett_iff _
      cases hl : letB s[0] with
      | false =>
        rw [hl] at e
        refine p2 ?_ e
        exact ⟨rfl, rfl⟩
      | true =>
        rw [hl] at e
        refine p1 ?_ e
        refine GO (trim_rt s ⟨(lettL ++ digL).toArray⟩ (by omega) (by decide) (by decide)) rfl ?_
        refine ⟨?_, rfl⟩
        show sEq _ ⟨#[]⟩ = _
        rw [Bool.true_and, Bool.eq_iff_iff, sEq_iff, decide_eq_true_iff]
        refine ⟨fun h => ?_, fun h => ?_⟩
        · have := congrArg (fun b : ByteArray => b.data.toList) h
          simpa only [data_bs] using this
        · exact congrArg bs h
    · rw [nameF_no (by omega)]
      refine p2 ?_
      exact ⟨rfl, rfl⟩
theorem vbad_some {s : ByteArray} {i : Nat} (h : i < s.size) : vbad s i = (decide (s[i].toNat < 32) || (decide (126 < s[i].toNat) || (decide (s[i].toNat = 34) || decide (s[i].toNat = 92)))) := by
  unfold vbad
  rw [getElem?_pos s i h]
theorem value_rt (s : ByteArray) (hs : s.size < 4611686018427387904) : Rt pg 47 [gs s] (.b (valueF s)) := by
  refine Rt.of pg_ok Tryd.func47 rfl Tryd.ntmps47 rfl Tryd.results47 Tryd.call47 fun H0 S0 w0 h0 g0 => ?_
  refine JK.loop (α := Nat) (fun i => ⟨[(0, gs s), (5, gi s.size), (6, gi i)], [], 0⟩) (fun i => i ≤ s.size ∧ ∀ j, j < i → vbad s j = false) (fun i => s.size - i) 0 id ?_ ⟨Nat.zero_le _, fun j hj => absurd hj (by omega)⟩ ?_
  · exact ⟨⟨rfl, rfl, rfl, trivial⟩, trivial, rfl⟩
  · rintro i ⟨hi, hgood⟩
    refine V ?_
    by_cases hlt : i < s.size
    · have hv := vbad_some hlt
      have hbad : vbad s i = true → valueF s = false := fun h => by unfold valueF; rw [anyB_true hlt h]; rfl
      have hnext : vbad s i = false → ∀ j, j < i + 1 → vbad s j = false := fun h j hj => by
        rcases Nat.lt_succ_iff_lt_or_eq.1 hj with h1 | h1
        · exact hgood j h1
        · subst h1; exact h
      by_cases h1 : s[i].toNat < 32 <;> by_cases h2 : 126 < s[i].toNat <;> by_cases h3 : s[i].toNat = 34 <;> by_cases h4 : s[i].toNat = 92 <;>
        simp only [h1, h2, h3, h4, decide_true, decide_false, Bool.true_or, Bool.or_true, Bool.or_false] at hv <;>
        (repeat (first | refine p1 ?_ | refine p2 ?_ | refine p3 ?_ | refine p4 ?_ | refine sx (h := ?_))) <;>
        first | exact ⟨(hbad hv).symm, rfl⟩ | exact ⟨i + 1, id, ⟨⟨rfl, rfl, succ_gi (by omega), trivial⟩, trivial, rfl⟩, ⟨hlt, hnext hv⟩, by show s.size - (i + 1) < s.size - i; omega⟩
    · refine p2 ?_
      refine V ?_
      obtain rfl : i = s.size := by omega
      refine ⟨?_, rfl⟩
      unfold valueF
      rw [anyB_false hgood]
      show decide _ = _
      simp only [Bool.not_false, Bool.true_and, decide_eq_decide]
      omega

theorem lbad_at {l : List Lb} {i : Nat} (h : i < l.length) : lbad l i = (!nameF l[i].name || (!valueF l[i].value || (sEq l[i].value ⟨#[]⟩ || (decide (0 < i) && !sLt (l[i - 1]'(by omega)).name l[i].name)))) := by
  unfold lbad
  have e1 : ∀ j (hj : j < l.length), l.getD j default = l[j] := fun j hj => by simp [hj]
  rw [e1 i h, e1 (i - 1) (by omega)]
/-- What is short enough to be held. -/
def Sh (l : List Lb) : Prop := ∀ x ∈ l, x.value.size < 4611686018427387904
theorem right_rt (l : List Lb) (hs : Sh l) : Rt pg 34 [.sl 2 (l.map lb)] (.b (rightF l)) := by
  refine Rt.of pg_ok Tryd.func34 rfl Tryd.ntmps34 rfl Tryd.results34 Tryd.call34 fun H0 S0 w0 h0 g0 => ?_
  refine JK.len 0 rfl fun hlen _ => ?_
  have hlen' : l.length ≤ 9223372036854775807 := by simpa [maxLen] using hlen
  refine JK.loop (α := Nat) (fun i => ⟨[(0, .sl 2 (l.map lb)), (5, .sl 2 (l.map lb)), (6, gi (l.map lb).length), (7, gi i)], [], 0⟩) (fun i => i ≤ l.length ∧ ∀ j, j < i → lbad l j = false) (fun i => l.length - i) 0 id ?_ ⟨Nat.zero_le _, fun j hj => absurd hj (by omega)⟩ ?_
  · exact ⟨⟨rfl, rfl, rfl, rfl, trivial⟩, trivial, rfl⟩
  · rintro i ⟨hi, hgood⟩
    refine V ?_
    have hll : (l.map lb).length = l.length := by simp
    by_cases hlt : i < l.length
    · have hv := lbad_at hlt
      have hbad : lbad l i = true → rightF l = false := fun h => by unfold rightF; rw [anyB_true hlt h]; rfl
      have hnext : lbad l i = false → ∀ j, j < i + 1 → lbad l j = false := fun h j hj => by
        rcases Nat.lt_succ_iff_lt_or_eq.1 hj with h1 | h1
        · exact hgood j h1
        · subst h1; exact h
      refine p1 ?_
      refine ix (h := ?_)
      refine DRAW [] false (tk [0, 1]) (by kernel_rfl) ?_
      have hval := value_rt l[i].value (hs l[i] (List.getElem_mem hlt))
      cases h1 : nameF l[i].name with
      | false =>
        refine RGO 2 false (tk [3, 4, 5, 6]) ((name_rt l[i].name).bt h1) rfl rfl (by kernel_rfl) ?_
        refine RSKIP 7 true (tk [8, 9, 10, 11, 12, 13, 14, 15, 16, 17, 18, 19, 20, 21, 22, 23, 24, 25, 26, 27, 28, 29]) rfl rfl (by kernel_rfl) ?_
        refine V ?_
        exact ⟨(hbad (by rw [hv, h1]; rfl)).symm, rfl⟩
      | true =>
        refine RGO 2 false (tk [3, 4, 5, 6]) ((name_rt l[i].name).bt h1) rfl rfl (by kernel_rfl) ?_
        cases h2 : valueF l[i].value with
        | false =>
          refine RGO 7 true (tk [8, 9, 10, 11, 12, 13, 14, 15, 16, 17, 18, 19, 20, 21, 22, 23, 24, 25, 26, 27, 28, 29]) (hval.bt h2) rfl rfl (by kernel_rfl) ?_
          refine V ?_
          exact ⟨(hbad (by rw [hv, h1, h2]; rfl)).symm, rfl⟩
        | true =>
          refine RGO 7 true (tk [8, 9, 10, 11, 12, 13, 14, 15, 16, 17, 18, 19, 20, 21, 22, 23, 24, 25, 26, 27, 28, 29]) (hval.bt h2) rfl rfl (by kernel_rfl) ?_
          rw [h1, h2] at hv
          cases h3 : sEq l[i].value ⟨#[]⟩ with
          | true =>
            repeat (first | refine p1 ?_ | refine p2 ?_ | refine p3 ?_ | refine p4 ?_ | refine V ?_)
            exact ⟨(hbad (by rw [hv, h3]; rfl)).symm, rfl⟩
          | false =>
            rw [h3] at hv
            by_cases h4 : 0 < i
            · have ew : IntKind.i64.wrap ((i : Int) - 1) = ((i - 1 : Nat) : Int) := by rw [wrap_id (by omega) (by omega)]; omega
              cases h5 : sLt (l[i - 1]'(by omega)).name l[i].name with
              | false =>
                have h5' : (!sLt (l[i - 1]'(by omega)).name l[i].name) = true := by rw [h5]; rfl
                repeat (first | refine p1 ?_ | refine p2 ?_ | refine p3 ?_ | refine p4 ?_ | refine V ?_ | refine idx (i - 1) ew (by omega) ?_)
                exact ⟨(hbad (by rw [hv, h5, decide_eq_true h4]; rfl)).symm, rfl⟩
              | true =>
                have h5' : (!sLt (l[i - 1]'(by omega)).name l[i].name) = false := by rw [h5]; rfl
                repeat (first | refine p1 ?_ | refine p2 ?_ | refine p3 ?_ | refine p4 ?_ | refine V ?_ | refine idx (i - 1) ew (by omega) ?_)
                exact ⟨i + 1, id, ⟨⟨rfl, rfl, rfl, succ_gi (by omega), trivial⟩, trivial, rfl⟩, ⟨hlt, hnext (by rw [hv, h5, decide_eq_true h4]; rfl)⟩, by show l.length - (i + 1) < l.length - i; omega⟩
            · repeat (first | refine p1 ?_ | refine p2 ?_ | refine p3 ?_ | refine p4 ?_ | refine V ?_)
              exact ⟨i + 1, id, ⟨⟨rfl, rfl, rfl, succ_gi (by omega), trivial⟩, trivial, rfl⟩, ⟨hlt, hnext (by rw [hv, decide_eq_false h4]; rfl)⟩, by show l.length - (i + 1) < l.length - i; omega⟩
    · refine p2 ?_
      refine V ?_
      obtain rfl : i = l.length := by omega
      unfold rightF
      rw [anyB_false hgood]
      by_cases h1 : 1 ≤ l.length
      · refine p1 ?_
        refine ⟨?_, rfl⟩
        show decide _ = _
        simp only [Bool.not_false, Bool.true_and, decide_eq_decide]
        omega
      · refine p2 ?_
        refine ⟨?_, rfl⟩
        rw [decide_eq_false (by omega : ¬ (1 ≤ l.length ∧ l.length ≤ 8))]
        rfl
theorem or_rt (a b : Int) : Rt pg 27 [.sl 1 [[gi a], [gi b]]] (gi (if a = 0 then b else a)) := by
  refine Rt.of pg_ok Tryd.func27 rfl Tryd.ntmps27 rfl Tryd.results27 Tryd.call27 fun H0 S0 w0 h0 g0 => ?_
  refine JK.loop (α := Nat) (fun i => ⟨[(3, gi 0), (6, .sl 1 [[gi a], [gi b]]), (7, gi 2), (8, gi i)], [], 0⟩) (fun i => i ≤ 2 ∧ (0 < i → a = 0) ∧ (1 < i → b = 0)) (fun i => 2 - i) 0 id ?_ ⟨by omega, by omega, by omega⟩ ?_
  · exact ⟨⟨rfl, rfl, rfl, rfl, trivial⟩, trivial, rfl⟩
  · rintro i ⟨hi, h1, h2⟩
    match i, hi, h1, h2 with
    | 0, _, _, _ =>
      refine V ?_
      refine p1 ?_
      refine ⟨[gi a], by decide, rfl, ?_⟩
      by_cases h : a = 0
      · refine p2 ?_
        exact ⟨1, id, ⟨⟨rfl, rfl, rfl, rfl, trivial⟩, trivial, rfl⟩, ⟨by omega, fun _ => h, by omega⟩, by show 2 - 1 < 2; omega⟩
      · refine p1 ?_
        exact ⟨by rw [if_neg h]; rfl, rfl⟩
    | 1, _, h1, _ =>
      refine V ?_
      refine p1 ?_
      have ha := h1 (by omega)
      refine ⟨[gi b], by decide, rfl, ?_⟩
      by_cases h : b = 0
      · refine p2 ?_
        exact ⟨2, id, ⟨⟨rfl, rfl, rfl, rfl, trivial⟩, trivial, rfl⟩, ⟨by omega, fun _ => ha, fun _ => h⟩, by show 2 - 2 < 2 - 1; omega⟩
      · refine p1 ?_
        exact ⟨by rw [if_pos ha]; rfl, rfl⟩
    | 2, _, h1, h2 =>
      refine V ?_
      refine p2 ?_
      refine V ?_
      exact ⟨by rw [if_pos (h1 (by omega)), h2 (by omega)]; rfl, rfl⟩
end Go.Proofs.YtaaoljhfepmkjaaDoor
