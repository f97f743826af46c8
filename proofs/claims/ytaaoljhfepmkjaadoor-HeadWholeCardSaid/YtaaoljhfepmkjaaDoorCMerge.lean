/-
  Contracts: chunk.Merge.
-/
import Derived.Test.YtaaoljhfepmkjaaDoorCSm
import Derived.Test.YtaaoljhfepmkjaaDoorPSets
namespace Go.Proofs.YtaaoljhfepmkjaaDoor
open Go.GK Go.PL
set_option maxRecDepth 100000
theorem mergeC_rt (a b R : List Sm) (ha : a.length ≤ 100000) (hb : b.length ≤ 100000) (hR : ∀ n, a.length + b.length ≤ n → mergeS n [] a b = R) : Rt pg 32 [.sl 2 (a.map sm), .sl 2 (b.map sm)] (.sl 2 (R.map sm)) := by
  refine Rt.of pg_ok Tryd.func32 rfl Tryd.ntmps32 rfl Tryd.results32 Tryd.call32 fun H0 S0 w0 h0 g0 => ?_
  refine JK.ownNil 5 42 2 rfl ?_
  refine JK.loopE (α := List Sm × List Sm × List Sm) (β := Unit) (fun x => ⟨[(0, .sl 2 (x.2.1.map sm)), (1, .sl 2 (x.2.2.map sm)), (5, .o 0)], [(0, .row 42 2 (x.1.map sm))], 1⟩)
    (fun x => (∀ n, x.2.1.length + x.2.2.length ≤ n → mergeS n x.1 x.2.1 x.2.2 = R) ∧ x.1.length + x.2.1.length + x.2.2.length ≤ 200000) (fun x => x.2.1.length + x.2.2.length) (fun _ => ⟨[(5, .o 0)], [(0, .row 42 2 (R.map sm))], 1⟩) (fun _ => True) ([], a, b) id ?_ ⟨hR, by simp; omega⟩ ?_ ?_
  · exact ⟨⟨rfl, rfl, rfl, trivial⟩, ⟨rfl, trivial⟩, rfl⟩
  · rintro ⟨out, a, b⟩ ⟨hR, hlen⟩
    simp only at hlen hR
    refine V ?_
    cases a with
    | nil => cases b with
      | nil =>
        repeat (first | refine p1 ?_ | refine p2 ?_ | refine p3 ?_ | refine p4 ?_ | refine ⟨by kernel_rfl, ?_⟩)
        have : out = R := hR 0 (Nat.le_refl _)
        subst this
        exact ⟨(), id, ⟨⟨rfl, trivial⟩, ⟨rfl, trivial⟩, rfl⟩, trivial⟩
      | cons y b =>
        simp only [List.length_cons, List.length_nil] at hlen
        have hB : decide (((List.map sm (y :: b)).length : Int) > 0) = true := decide_eq_true (by rw [List.length_map, List.length_cons]; omega)
        have hB0 : (((List.map sm (y :: b)).length : Int) == 0) = false := beq_false_of_ne (by rw [List.length_map, List.length_cons]; omega)
        repeat (first | refine p1 ?_ | refine p2 ?_ | refine p3 ?_ | refine p4 ?_ | refine ⟨by kernel_rfl, ?_⟩)
        refine DRAW [0] true (tk [0, 1, 2, 3, 6, 7] ++ al [4, 5] ++ tk [8, 9]) (by kernel_rfl) ?_
        refine ix (i := 0) (hk := Nat.zero_lt_succ _) (h := ?_)
        refine ⟨by omega, by simp <;> omega, by omega, ?_⟩
        refine ⟨by simp only [List.length_map, List.length_cons, List.length_nil]; omega, ?_⟩
        refine V ?_
        refine ⟨(out ++ [y], [], b), fun _ => 2, ⟨⟨rfl, tail_map 2 sm y b, rfl, trivial⟩, ⟨congrArg (fun r => some (Res.row 42 2 r)) (by rw [List.map_append]; rfl), trivial⟩, rfl⟩, ⟨fun n hn => ?_, ?_⟩, ?_⟩
        · rw [← hR (n + 1) (by simp only [List.length_cons, List.length_nil] at hn ⊢; omega)]
          rfl
        · simp only [List.length_append, List.length_cons, List.length_nil]; omega
        · simp only [List.length_cons, List.length_nil]; omega
    | cons x a => cases b with
      | nil =>
        simp only [List.length_cons, List.length_nil] at hlen
        have hA : decide (((List.map sm (x :: a)).length : Int) > 0) = true := decide_eq_true (by rw [List.length_map, List.length_cons]; omega)
        repeat (first | refine p1 ?_ | refine p2 ?_ | refine p3 ?_ | refine p4 ?_ | refine ⟨by kernel_rfl, ?_⟩)
        refine DRAW [0] true (tk [0, 1, 2, 3, 6, 7] ++ al [4, 5] ++ tk [8, 9]) (by kernel_rfl) ?_
        refine ix (i := 0) (hk := Nat.zero_lt_succ _) (h := ?_)
        refine ⟨by omega, by simp <;> omega, by omega, ?_⟩
        refine ⟨by simp only [List.length_map, List.length_cons, List.length_nil]; omega, ?_⟩
        refine V ?_
        refine ⟨(out ++ [x], a, []), fun _ => 2, ⟨⟨tail_map 2 sm x a, rfl, rfl, trivial⟩, ⟨congrArg (fun r => some (Res.row 42 2 r)) (by rw [List.map_append]; rfl), trivial⟩, rfl⟩, ⟨fun n hn => ?_, ?_⟩, ?_⟩
        · rw [← hR (n + 1) (by simp only [List.length_cons, List.length_nil] at hn ⊢; omega)]
          rfl
        · simp only [List.length_append, List.length_cons, List.length_nil]; omega
        · simp only [List.length_cons, List.length_nil]; omega
      | cons y b =>
        simp only [List.length_cons] at hlen
        have hA : decide (((List.map sm (x :: a)).length : Int) > 0) = true := decide_eq_true (by rw [List.length_map, List.length_cons]; omega)
        have hB : decide (((List.map sm (y :: b)).length : Int) > 0) = true := decide_eq_true (by rw [List.length_map, List.length_cons]; omega)
        have hB0 : (((List.map sm (y :: b)).length : Int) == 0) = false := beq_false_of_ne (by rw [List.length_map, List.length_cons]; omega)
        repeat (first | refine p1 ?_ | refine p2 ?_ | refine p3 ?_ | refine p4 ?_ | refine ⟨by kernel_rfl, ?_⟩)
        refine ix (i := 0) (hk := Nat.zero_lt_succ _) (h := ?_)
        refine ix (i := 0) (hk := Nat.zero_lt_succ _) (h := ?_)
        by_cases h : x.time < y.time
        · refine p1 ?_ (decide_eq_true h)
          refine DRAW [0] true (tk [0, 1, 2, 3, 6, 7] ++ al [4, 5] ++ tk [8, 9]) (by kernel_rfl) ?_
          refine ix (i := 0) (hk := Nat.zero_lt_succ _) (h := ?_)
          refine ⟨by omega, by simp <;> omega, by omega, ?_⟩
          refine ⟨by simp only [List.length_map, List.length_cons, List.length_nil]; omega, ?_⟩
          refine V ?_
          refine ⟨(out ++ [x], a, y :: b), fun _ => 2, ⟨⟨tail_map 2 sm x a, rfl, rfl, trivial⟩, ⟨congrArg (fun r => some (Res.row 42 2 r)) (by rw [List.map_append]; rfl), trivial⟩, rfl⟩, ⟨fun n hn => ?_, ?_⟩, ?_⟩
          · rw [← hR (n + 1) (by simp only [List.length_cons] at hn ⊢; omega)]
            rw [mergeS, if_pos h]
          · simp only [List.length_append, List.length_cons, List.length_nil]; omega
          · simp only [List.length_cons]; omega
        · refine p2 ?_ (decide_eq_false h)
          repeat (first | refine p1 ?_ | refine p2 ?_ | refine p3 ?_ | refine p4 ?_ | refine ⟨by kernel_rfl, ?_⟩)
          refine ix (i := 0) (hk := Nat.zero_lt_succ _) (h := ?_)
          refine ix (i := 0) (hk := Nat.zero_lt_succ _) (h := ?_)
          by_cases he : x.time = y.time
          · refine p1 ?_ (beq_iff_eq.2 he)
            refine ⟨by omega, by simp <;> omega, by omega, ?_⟩
            refine DRAW [0] true (tk [0, 1, 2, 3, 6, 7] ++ al [4, 5] ++ tk [8, 9]) (by kernel_rfl) ?_
            refine ix (i := 0) (hk := Nat.zero_lt_succ _) (h := ?_)
            refine ⟨by omega, by simp <;> omega, by omega, ?_⟩
            refine ⟨by simp only [List.length_map, List.length_cons, List.length_nil]; omega, ?_⟩
            refine V ?_
            refine ⟨(out ++ [y], a, b), fun _ => 2, ⟨⟨tail_map 2 sm x a, tail_map 2 sm y b, rfl, trivial⟩, ⟨congrArg (fun r => some (Res.row 42 2 r)) (by rw [List.map_append]; rfl), trivial⟩, rfl⟩, ⟨fun n hn => ?_, ?_⟩, ?_⟩
            · rw [← mergeS_fuel n _ _ _ hn, ← hR (n + 2) (by simp only [List.length_cons] at hn ⊢; omega)]
              rw [mergeS, if_neg h, if_pos he]
            · simp only [List.length_append, List.length_cons, List.length_nil]; omega
            · simp only [List.length_cons]; omega
          · refine p2 ?_ (beq_false_of_ne he)
            refine DRAW [0] true (tk [0, 1, 2, 3, 6, 7] ++ al [4, 5] ++ tk [8, 9]) (by kernel_rfl) ?_
            refine ix (i := 0) (hk := Nat.zero_lt_succ _) (h := ?_)
            refine ⟨by omega, by simp <;> omega, by omega, ?_⟩
            refine ⟨by simp only [List.length_map, List.length_cons, List.length_nil]; omega, ?_⟩
            refine V ?_
            refine ⟨(out ++ [y], x :: a, b), fun _ => 2, ⟨⟨rfl, tail_map 2 sm y b, rfl, trivial⟩, ⟨congrArg (fun r => some (Res.row 42 2 r)) (by rw [List.map_append]; rfl), trivial⟩, rfl⟩, ⟨fun n hn => ?_, ?_⟩, ?_⟩
            · rw [← hR (n + 1) (by simp only [List.length_cons] at hn ⊢; omega)]
              rw [mergeS, if_neg h, if_neg he]
            · simp only [List.length_append, List.length_cons, List.length_nil]; omega
            · simp only [List.length_cons]; omega
  · rintro _ _
    refine FRZ 0 rfl ?_
    exact ⟨rfl, rfl⟩
end Go.Proofs.YtaaoljhfepmkjaaDoor
