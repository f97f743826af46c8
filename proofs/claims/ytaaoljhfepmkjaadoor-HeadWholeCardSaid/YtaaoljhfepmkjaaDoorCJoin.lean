/-
  Contracts: how many samples there are; series of both, in order (package raingaugekeep).
-/
import Derived.Test.YtaaoljhfepmkjaaDoorCBMerge
import Derived.Test.YtaaoljhfepmkjaaDoorCLab2
import Derived.Test.YtaaoljhfepmkjaaDoorPGnA
namespace Go.Proofs.YtaaoljhfepmkjaaDoor
open Go.GK Go.PL Go.RowKit
set_option maxRecDepth 100000
theorem count_rt (l : List Ser) (hl : l.length ≤ 1000000) (ht : tot l ≤ 1000000000) : Rt pg 10 [ses l] (gi (tot l)) := by
  refine Rt.of pg_ok Tryd.func10 rfl Tryd.ntmps10 rfl Tryd.results10 Tryd.call10 fun H0 S0 w0 h0 g0 => ?_
  have hll : (l.map se).length = l.length := by simp
  refine JK.loop (α := Nat) (fun i => ⟨[(0, ses l), (3, gi (tot (l.take i))), (4, gi i)], [], 0⟩) (fun i => i ≤ l.length) (fun i => l.length - i) 0 id ?_ (Nat.zero_le _) ?_
  · exact ⟨⟨rfl, rfl, rfl, trivial⟩, trivial, rfl⟩
  · intro i hi
    refine V ?_
    by_cases hlt : i < l.length
    · have hst := tot_snoc l i hlt
      have hle := tot_take l (i + 1)
      have hsl : (l[i].samples.map sm).length = l[i].samples.length := by simp
      refine p1 ?_ (decide_eq_true (by omega))
      refine ix (h := ?_)
      refine ⟨i + 1, id, ⟨⟨rfl, ?_, succ_gi (by omega), trivial⟩, trivial, rfl⟩, hlt, by show l.length - (i + 1) < l.length - i; omega⟩
      exact congrArg (fun i => some (gi i)) (by rw [wrap_id (by omega) (by omega)]; omega)
    · refine p2 ?_ (decide_eq_false (by omega))
      obtain rfl : i = l.length := by omega
      refine V ?_
      rw [List.take_length]
      exact ⟨rfl, rfl⟩
theorem joined_rt (a b : List Ser) (ha : a.length ≤ 100000) (hb : b.length ≤ 100000) (hsa : ∀ x ∈ a, x.samples.length ≤ 3000) (hsb : ∀ x ∈ b, x.samples.length ≤ 3000) : Rt pg 14 [ses a, ses b] (ses (mergeL mgS a b)) := by
  refine Rt.of pg_ok Tryd.func14 rfl Tryd.ntmps14 rfl Tryd.results14 Tryd.call14 fun H0 S0 w0 h0 g0 => ?_
  refine JK.ownNil 5 38 2 rfl ?_
  refine JK.loopE (α := List Ser × List Ser × List Ser) (β := Unit) (fun x => ⟨[(0, ses x.2.1), (1, ses x.2.2), (5, .o 0)], [(0, .row 38 2 (x.1.map se))], 1⟩)
    (fun x => x.1 ++ mergeL mgS x.2.1 x.2.2 = mergeL mgS a b ∧ x.1.length + x.2.1.length + x.2.2.length ≤ 200000 ∧ (∀ z ∈ x.2.1, z.samples.length ≤ 3000) ∧ ∀ z ∈ x.2.2, z.samples.length ≤ 3000) (fun x => x.2.1.length + x.2.2.length) (fun _ => ⟨[(5, .o 0)], [(0, .row 38 2 ((mergeL mgS a b).map se))], 1⟩) (fun _ => True) ([], a, b) id ?_ ⟨rfl, by simp; omega, hsa, hsb⟩ ?_ ?_
  · exact ⟨⟨rfl, rfl, rfl, trivial⟩, ⟨rfl, trivial⟩, rfl⟩
  · rintro ⟨out, a, b⟩ ⟨hR, hlen, hsa, hsb⟩
    simp only at hlen hR hsa hsb
    refine V ?_
    cases a with
    | nil => cases b with
      | nil =>
        repeat (first | refine p1 ?_ | refine p2 ?_ | refine p3 ?_ | refine p4 ?_)
        rw [mergeL_nil', List.append_nil] at hR
        subst hR
        exact ⟨(), id, ⟨⟨rfl, trivial⟩, ⟨rfl, trivial⟩, rfl⟩, trivial⟩
      | cons y b =>
        simp only [List.length_cons, List.length_nil] at hlen
        rw [mergeL_nil'] at hR
        have hB : decide (((List.map se (y :: b)).length : Int) > 0) = true := decide_eq_true (by rw [List.length_map, List.length_cons]; omega)
        repeat (first | refine p1 ?_ | refine p2 ?_ | refine p3 ?_ | refine p4 ?_)
        refine DRAW [0] true (tk [0, 1, 2, 3, 6, 7] ++ al [4, 5] ++ tk [8, 9]) (by kernel_rfl) ?_
        refine ix (i := 0) (hk := Nat.zero_lt_succ _) (h := ?_)
        refine ⟨by omega, by simp <;> omega, by omega, ?_⟩
        refine ⟨by simp only [List.length_map, List.length_cons, List.length_nil]; omega, ?_⟩
        refine V ?_
        refine ⟨(out ++ [y], [], b), fun _ => 2, ⟨⟨rfl, tail_se y b, rfl, trivial⟩, ⟨congrArg (fun r => some (Res.row 38 2 r)) (by rw [List.map_append]; rfl), trivial⟩, rfl⟩, ⟨?_, ?_, hsa, fun z hz => hsb z (by simp [hz])⟩, ?_⟩
        · rw [← hR, mergeL_nil']; simp
        · simp only [List.length_append, List.length_cons, List.length_nil]; omega
        · simp only [List.length_cons, List.length_nil]; omega
    | cons x a =>
      have hA : decide (((List.map se (x :: a)).length : Int) > 0) = true := decide_eq_true (by rw [List.length_map, List.length_cons]; omega)
      have hA0 : (((List.map se (x :: a)).length : Int) == 0) = false := beq_false_of_ne (by rw [List.length_map, List.length_cons]; omega)
      have hx1 := hsa x (by simp)
      cases b with
      | nil =>
        simp only [List.length_cons, List.length_nil] at hlen
        rw [mergeL_nil] at hR
        repeat (first | refine p1 ?_ | refine p2 ?_ | refine p3 ?_ | refine p4 ?_)
        refine DRAW [0] true (tk [0, 1, 2, 3, 6, 7] ++ al [4, 5] ++ tk [8, 9]) (by kernel_rfl) ?_
        refine ix (i := 0) (hk := Nat.zero_lt_succ _) (h := ?_)
        refine ⟨by omega, by simp <;> omega, by omega, ?_⟩
        refine ⟨by simp only [List.length_map, List.length_cons, List.length_nil]; omega, ?_⟩
        refine V ?_
        refine ⟨(out ++ [x], a, []), fun _ => 2, ⟨⟨tail_se x a, rfl, rfl, trivial⟩, ⟨congrArg (fun r => some (Res.row 38 2 r)) (by rw [List.map_append]; rfl), trivial⟩, rfl⟩, ⟨?_, ?_, fun z hz => hsa z (by simp [hz]), hsb⟩, ?_⟩
        · rw [← hR, mergeL_nil]; simp
        · simp only [List.length_append, List.length_cons, List.length_nil]; omega
        · simp only [List.length_cons, List.length_nil]; omega
      | cons y b =>
        have hy1 := hsb y (by simp)
        simp only [List.length_cons] at hlen
        have hB0 : (((List.map se (y :: b)).length : Int) == 0) = false := beq_false_of_ne (by rw [List.length_map, List.length_cons]; omega)
        rw [mergeL_cons] at hR
        repeat (first | refine p1 ?_ | refine p2 ?_ | refine p3 ?_ | refine p4 ?_)
        refine DRAW [] false (tk [0, 1, 2, 3, 4, 5, 6, 7]) (by kernel_rfl) ?_
        refine ix (i := 0) (hk := Nat.zero_lt_succ _) (h := ?_)
        refine ix (i := 0) (hk := Nat.zero_lt_succ _) (h := ?_)
        refine RGO 8 true (tk [9]) (lcompare_rt x.labels y.labels) rfl rfl (by kernel_rfl) ?_
        refine V ?_
        by_cases h1 : cmpF x.labels y.labels < 0
        · rw [if_pos h1] at hR
          refine p1 ?_ (decide_eq_true h1)
          refine DRAW [0] true (tk [0, 1, 2, 3, 6, 7] ++ al [4, 5] ++ tk [8, 9]) (by kernel_rfl) ?_
          refine ix (i := 0) (hk := Nat.zero_lt_succ _) (h := ?_)
          refine ⟨by omega, by simp <;> omega, by omega, ?_⟩
          refine ⟨by simp only [List.length_map, List.length_cons, List.length_nil]; omega, ?_⟩
          refine V ?_
          refine ⟨(out ++ [x], a, y :: b), fun _ => 2, ⟨⟨tail_se x a, rfl, rfl, trivial⟩, ⟨congrArg (fun r => some (Res.row 38 2 r)) (by rw [List.map_append]; rfl), trivial⟩, rfl⟩, ⟨?_, ?_, fun z hz => hsa z (by simp [hz]), hsb⟩, ?_⟩
          · rw [← hR]; simp
          · simp only [List.length_append, List.length_cons, List.length_nil]; omega
          · simp only [List.length_cons]; omega
        rw [if_neg h1] at hR
        refine p2 ?_ (decide_eq_false h1)
        by_cases h2 : cmpF x.labels y.labels = 0
        · rw [if_pos h2] at hR
          have hxy : x.labels = y.labels := (cmpF_is.eq0 _ _).1 h2
          refine p2 ?_ (decide_eq_false (by omega))
          refine DRAW [0] false (tk [0, 1, 2, 3, 4, 5, 6, 7, 8, 9, 10, 11, 12]) (by kernel_rfl) ?_
          refine ix (i := 0) (hk := Nat.zero_lt_succ _) (h := ?_)
          refine ix (i := 0) (hk := Nat.zero_lt_succ _) (h := ?_)
          refine ix (i := 0) (hk := Nat.zero_lt_succ _) (h := ?_)
          refine RGO 13 true (al [14, 15, 16] ++ tk [17]) (cmerge3_rt x.samples y.samples hx1 hy1) rfl rfl (by kernel_rfl) ?_
          refine ⟨by simp only [List.length_map, List.length_cons, List.length_nil]; omega, ?_⟩
          refine V ?_
          refine ⟨by kernel_rfl, ?_⟩
          refine ⟨by omega, by simp <;> omega, by omega, ?_⟩
          refine ⟨by omega, by simp <;> omega, by omega, ?_⟩
          refine ⟨(out ++ [⟨y.labels, mgS x.samples y.samples⟩], a, b), fun _ => 2, ⟨⟨tail_se x a, tail_se y b, rfl, trivial⟩, ⟨congrArg (fun r => some (Res.row 38 2 r)) (by rw [List.map_append, ← hxy]; rfl), trivial⟩, rfl⟩, ⟨?_, ?_, fun z hz => hsa z (by simp [hz]), fun z hz => hsb z (by simp [hz])⟩, ?_⟩
          · rw [← hR]; simp
          · simp only [List.length_append, List.length_cons, List.length_nil]; omega
          · simp only [List.length_cons]; omega
        · rw [if_neg h2] at hR
          refine p1 ?_ (decide_eq_true (by omega))
          refine DRAW [0] true (tk [0, 1, 2, 3, 6, 7] ++ al [4, 5] ++ tk [8, 9]) (by kernel_rfl) ?_
          refine ix (i := 0) (hk := Nat.zero_lt_succ _) (h := ?_)
          refine ⟨by omega, by simp <;> omega, by omega, ?_⟩
          refine ⟨by simp only [List.length_map, List.length_cons, List.length_nil]; omega, ?_⟩
          refine V ?_
          refine ⟨(out ++ [y], x :: a, b), fun _ => 2, ⟨⟨rfl, tail_se y b, rfl, trivial⟩, ⟨congrArg (fun r => some (Res.row 38 2 r)) (by rw [List.map_append]; rfl), trivial⟩, rfl⟩, ⟨?_, ?_, hsa, fun z hz => hsb z (by simp [hz])⟩, ?_⟩
          · rw [← hR]; simp
          · simp only [List.length_append, List.length_cons, List.length_nil]; omega
          · simp only [List.length_cons]; omega
  · rintro _ _
    refine FRZ 0 rfl ?_
    exact ⟨rfl, rfl⟩
end Go.Proofs.YtaaoljhfepmkjaaDoor
