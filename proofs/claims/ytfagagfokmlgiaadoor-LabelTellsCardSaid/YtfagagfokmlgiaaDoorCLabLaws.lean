/-
  Contracts: the laws LabelMatches, LabelTells.
-/
import Derived.Test.YtfagagfokmlgiaaDoorCRefLab2
namespace Go.Proofs.YtfagagfokmlgiaaDoor
open Go.GK Go.PL Go.RowKit
set_option maxRecDepth 100000
theorem labelMatches_rt (l : List Lb) (m : List Mt) : Rt pg 3 [.sl 2 (l.map lb), .sl 3 (m.map mt)] (.b true) := by
  refine Rt.of pg_ok Tryd.func3 rfl Tryd.ntmps3 rfl Tryd.results3 Tryd.call3 fun H0 S0 w0 h0 g0 => ?_
  have hll : (m.map mt).length = m.length := by simp
  cases h1 : shL l with
  | false =>
    refine GO ((shortL_rt l).bt h1) rfl ?_
    exact ⟨rfl, rfl⟩
  | true =>
    refine GO ((shortL_rt l).bt h1) rfl ?_
    cases h2 : shM m with
    | false =>
      refine GO ((shortM_rt m).bt h2) rfl ?_
      exact ⟨rfl, rfl⟩
    | true =>
      refine GO ((shortM_rt m).bt h2) rfl ?_
      have hL := shL_Hl h1
      obtain ⟨hm1, hm2⟩ := shM_le h2
      cases h3 : askedF m with
      | false =>
        refine GO ((refAsked_rt m (fun x hx => by have := hm2 x hx; omega) (by omega)).bt h3) rfl ?_
        refine GO ((lasked_rt m (fun x hx => by have := hm2 x hx; omega)).bt h3) rfl ?_
        repeat (first | refine p1 ?_ | refine p2 ?_ | refine p3 ?_ | refine p4 ?_)
        exact ⟨rfl, rfl⟩
      | true =>
        refine GO ((refAsked_rt m (fun x hx => by have := hm2 x hx; omega) (by omega)).bt h3) rfl ?_
        refine GO ((lasked_rt m (fun x hx => by have := hm2 x hx; omega)).bt h3) rfl ?_
        repeat (first | refine p1 ?_ | refine p2 ?_ | refine p3 ?_ | refine p4 ?_)
        have hop : ∀ x ∈ m, 0 ≤ x.op ∧ x.op ≤ 3 := fun x hx => by
          unfold askedF at h3
          rw [Bool.and_eq_true, Bool.not_eq_true'] at h3
          obtain ⟨i, hi, rfl⟩ := List.getElem_of_mem hx
          have := anyB_get h3.1 i hi
          rw [show m.getD i default = m[i] by simp [hi], mbad, Bool.or_eq_false_iff, Bool.or_eq_false_iff, Bool.not_eq_false', Bool.not_eq_false', Bool.not_eq_false', decide_eq_true_iff] at this
          exact this.2.2
        refine JK.loopE (α := Nat) (β := Unit) (fun i => ⟨[(0, .sl 2 (l.map lb)), (1, .sl 3 (m.map mt)), (6, gi i)], [], 0⟩) (fun i => i ≤ m.length) (fun i => m.length - i) (fun _ => ⟨[(0, .sl 2 (l.map lb)), (1, .sl 3 (m.map mt))], [], 0⟩) (fun _ => True) 0 id ?_ (Nat.zero_le _) ?_ ?_
        · exact ⟨⟨rfl, rfl, rfl, trivial⟩, trivial, rfl⟩
        · rintro i hi
          refine V ?_
          by_cases hlt : i < m.length
          · have ew : IntKind.i64.wrap ((i : Int) + 1) = ((i + 1 : Nat) : Int) := by rw [wrap_id (by omega) (by omega)]; omega
            have hop1 : ∀ x ∈ [m[i]], 0 ≤ x.op ∧ x.op ≤ 3 := fun x hx => by rw [List.mem_singleton] at hx; subst hx; exact hop _ (List.getElem_mem hlt)
            refine p1 ?_
            refine DRAW [] false (tk [0, 1, 2, 3, 4, 6, 7, 8, 9, 10, 11]) (by kernel_rfl) ?_
            refine ix (h := ?_)
            refine ⟨by omega, by rw [ew]; omega, by rw [ew]; omega, ?_⟩
            have hsl : ((m.map mt).take (IntKind.i64.wrap ((i : Int) + 1)).toNat).drop (i : Int).toNat = [m[i]].map mt := by
              rw [ew, Int.toNat_natCast, Int.toNat_natCast, ← List.map_take, ← List.map_drop, List.take_succ_eq_append_getElem hlt, List.drop_append_of_le_length (by simp; omega), List.drop_eq_nil_of_le (by rw [List.length_take]; omega)]
              rfl
            refine RGO 5 false [] (lone_rt l m[i]) rfl rfl (by kernel_rfl) ?_
            refine RGO 12 true (tk [13]) (fits_rt l [m[i]] hop1 (by simp)) rfl (by rw [← hsl]; rfl) (by kernel_rfl) ?_
            have e : allF l [m[i]] = oneF l m[i] := by simp [allF]
            refine V ?_
            refine p2 ?_ (by rw [e]; simp)
            exact ⟨i + 1, id, ⟨⟨rfl, rfl, succ_gi (by omega), trivial⟩, trivial, rfl⟩, hlt, by show m.length - (i + 1) < m.length - i; omega⟩
          · refine p2 ?_
            exact ⟨(), id, ⟨⟨rfl, rfl, trivial⟩, trivial, rfl⟩, trivial⟩
        · rintro _ _
          refine V ?_
          refine GO (lall_rt l m (by omega)) rfl ?_
          refine GO (fits_rt l m hop (by omega)) rfl ?_
          refine ⟨?_, rfl⟩
          show (_ == _) = true
          simp
theorem labelTells_rt (a b : List Lb) (name : ByteArray) : Rt pg 4 [.sl 2 (a.map lb), .sl 2 (b.map lb), gs name] (.b true) := by
  refine Rt.of pg_ok Tryd.func4 rfl Tryd.ntmps4 rfl Tryd.results4 Tryd.call4 fun H0 S0 w0 h0 g0 => ?_
  cases h1 : shL a with
  | false =>
    refine GO ((shortL_rt a).bt h1) rfl ?_
    exact ⟨rfl, rfl⟩
  | true =>
    refine GO ((shortL_rt a).bt h1) rfl ?_
    cases h2 : shL b with
    | false =>
      refine GO ((shortL_rt b).bt h2) rfl ?_
      exact ⟨rfl, rfl⟩
    | true =>
      refine GO ((shortL_rt b).bt h2) rfl ?_
      by_cases h3 : 60 < name.size
      · repeat (first | refine p1 ?_ | refine p2 ?_ | refine p3 ?_ | refine p4 ?_)
        exact ⟨rfl, rfl⟩
      · repeat (first | refine p1 ?_ | refine p2 ?_ | refine p3 ?_ | refine p4 ?_)
        have hA := shL_Hl h1
        have hB := shL_Hl h2
        have hAl := hA.len
        have hBl := hB.len
        refine GO (right_rt a hA.sh) rfl ?_
        refine GO (labels_rt a hA) rfl ?_
        refine p1 ?_ (by simp)
        refine GO (lcompare_rt a b) rfl ?_
        refine GO (refCompare_rt a b (by omega) (by omega)) rfl ?_
        have hr := cmpF_is.rng a b
        refine p1 ?_ (by simp; repeat' split <;> omega)
        refine GO (ltext_rt a hA) rfl ?_
        refine GO (refText_rt a hA) rfl ?_
        refine p1 ?_ (by simp)
        refine GO (get_rt a name) rfl ?_
        refine GO (tell_rt a name) rfl ?_
        refine p1 ?_ (by simp)
        refine GO (lname_rt name) rfl ?_
        refine GO (refName_rt name (by omega)) rfl ?_
        refine p1 ?_ (by simp)
        refine FRZ 0 rfl ?_
        refine GO (lonly_rt a [name, ⟨#[98]⟩] (by omega) (by simp)) rfl ?_
        refine FRZ 1 rfl ?_
        refine GO (refOnly_rt a [name, ⟨#[98]⟩] (by omega) (by simp)) rfl ?_
        refine GO (sameL_rt (onlyF a [name, ⟨#[98]⟩]) (onlyF a [name, ⟨#[98]⟩])) rfl ?_
        refine ⟨?_, rfl⟩
        show decide _ = true
        exact decide_eq_true ((cmpF_is.eq0 _ _).2 rfl)
end Go.Proofs.YtfagagfokmlgiaaDoor
