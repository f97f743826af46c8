/-
  Contracts: block.Merge.
-/
import Derived.Test.YtcdnilijfnfkbaaCGnA
import Derived.Test.YtcdnilijfnfkbaaCMerge
import Derived.Test.YtcdnilijfnfkbaaPGnA
namespace Go.Proofs.Ytcdnilijfnfkbaa
open Go.GK Go.PL Go.RowKit
set_option maxRecDepth 100000
theorem cmerge_rt (a b : List Sm) (ha : a.length ≤ 1000) (hb : b.length ≤ 1000) : Rt pg 33 [sms a, sms b] (sms (mgS a b)) :=
  mergeC_rt a b (mgS a b) ha hb (fun _ h => mergeS_mg h)
theorem cmerge_nil (b : List Sm) (hb : b.length ≤ 1000) : Rt pg 33 [.v (.slice none 0 0), sms b] (sms b) := by
  have h := cmerge_rt [] b (by simp) hb
  rw [mgS_nil'] at h
  exact Rq.nl (pre := []) (suf := [sms b]) (z := 2) h
theorem tail_se (y : Ser) (l : List Ser) : some (GV.sl 2 ((((y :: l).map se).take (((y :: l).map se).length : Int).toNat).drop (1 : Int).toNat)) = some (ses l) := tail_map 2 se y l
def SmlS (l : List Ser) : Prop := ∀ x ∈ l, x.samples.length ≤ 1000 ∧ x.labels.length ≤ 1000
theorem bmerge_rt (a b : List Ser) (ha : a.length ≤ 100000) (hb : b.length ≤ 100000) (hsa : SmlS a) (hsb : SmlS b) : Rt pg 12 [ses a, ses b] (ses (mergeL mgS a b)) := by
  refine Rt.of pg_ok Try.func12 rfl Try.ntmps12 rfl Try.results12 Try.call12 fun H0 S0 w0 h0 g0 => ?_
  refine JK.ownNil 5 44 2 rfl ?_
  refine JK.loopE (α := List Ser × List Ser × List Ser) (β := Unit) (fun x => ⟨[(0, ses x.2.1), (1, ses x.2.2), (5, .o 0)], [(0, .row 44 2 (x.1.map se))], 1⟩)
    (fun x => x.1 ++ mergeL mgS x.2.1 x.2.2 = mergeL mgS a b ∧ x.1.length + x.2.1.length + x.2.2.length ≤ 200000 ∧ SmlS x.2.1 ∧ SmlS x.2.2) (fun x => x.2.1.length + x.2.2.length) (fun _ => ⟨[(5, .o 0)], [(0, .row 44 2 ((mergeL mgS a b).map se))], 1⟩) (fun _ => True) ([], a, b) id ?_ ⟨rfl, by simp; omega, hsa, hsb⟩ ?_ ?_
  · exact ⟨⟨rfl, rfl, rfl, trivial⟩, ⟨rfl, trivial⟩, rfl⟩
  · rintro ⟨out, a, b⟩ ⟨hR, hlen, hsa, hsb⟩
    simp only at hlen hR hsa hsb
    refine V ?_
    cases a with
    | nil => cases b with
      | nil =>
        repeat (first | refine p1 ?_ | refine p2 ?_ | refine p3 ?_ | refine p4 ?_)
        rw [mergeL_nil', List.append_nil] at hR
        subst hR
        exact ⟨(), id, ⟨⟨rfl, trivial⟩, ⟨rfl, trivial⟩, rfl⟩, trivial⟩
      | cons y b =>
        obtain ⟨hy1, hy2⟩ := hsb y (by simp)
        simp only [List.length_cons, List.length_nil] at hlen
        rw [mergeL_nil'] at hR
        have hB : decide (((List.map se (y :: b)).length : Int) > 0) = true := decide_eq_true (by rw [List.length_map, List.length_cons]; omega)
        repeat (first | refine p1 ?_ | refine p2 ?_ | refine p3 ?_ | refine p4 ?_)
        refine DRAW [1] false (tk [0, 1, 2, 3, 4, 6, 7, 8, 9, 12, 13] ++ al [5]) (by kernel_rfl) ?_
        refine ix (i := 0) (hk := Nat.zero_lt_succ _) (h := ?_)
        refine ix (i := 0) (hk := Nat.zero_lt_succ _) (h := ?_)
        refine ⟨by omega, by simp <;> omega, by omega, ?_⟩
        refine RGO 10 true (al [11, 14] ++ tk [15]) (cmerge_nil y.samples hy1) rfl rfl (by kernel_rfl) ?_
        refine V ?_
        refine FZB 1 rfl rfl ?_
        refine DRAW [0] false (tk [0, 1, 2, 4, 5]) (by kernel_rfl) ?_
        refine RGO 3 false (tk []) (cloneLb_rt y.labels (by omega)) rfl rfl (by kernel_rfl) ?_
        refine RGO 6 true (al [7, 8, 9] ++ tk [10]) (cloneSm_rt y.samples (by omega)) rfl rfl (by kernel_rfl) ?_
        refine ⟨by simp only [List.length_map, List.length_cons, List.length_nil]; omega, ?_⟩
        refine V ?_
        refine ⟨(out ++ [⟨y.labels, y.samples⟩], [], b), fun _ => 3, ⟨⟨rfl, tail_se y b, rfl, trivial⟩, ⟨congrArg (fun r => some (Res.row 44 2 r)) (by rw [List.map_append]; rfl), trivial⟩, rfl⟩, ⟨?_, ?_, hsa, (fun z hz => hsb z (by simp [hz]))⟩, ?_⟩
        · rw [← hR, mergeL_nil']; simp
        · simp only [List.length_append, List.length_cons, List.length_nil]; omega
        · simp only [List.length_cons, List.length_nil]; omega
    | cons x a =>
      obtain ⟨hx1, hx2⟩ := hsa x (by simp)
      have hA : decide (((List.map se (x :: a)).length : Int) > 0) = true := decide_eq_true (by rw [List.length_map, List.length_cons]; omega)
      have hA0 : (((List.map se (x :: a)).length : Int) == 0) = false := beq_false_of_ne (by rw [List.length_map, List.length_cons]; omega)
      cases b with
      | nil =>
        simp only [List.length_cons, List.length_nil] at hlen
        rw [mergeL_nil] at hR
        repeat (first | refine p1 ?_ | refine p2 ?_ | refine p3 ?_ | refine p4 ?_)
        refine DRAW [1] true (tk [0, 1, 2, 3, 4] ++ al [5] ++ tk [6]) (by kernel_rfl) ?_
        refine ix (i := 0) (hk := Nat.zero_lt_succ _) (h := ?_)
        refine ⟨by omega, by simp <;> omega, by omega, ?_⟩
        refine V ?_
        repeat (first | refine p1 ?_ | refine p2 ?_ | refine p3 ?_ | refine p4 ?_)
        refine FZB 1 rfl rfl ?_
        refine DRAW [0] false (tk [0, 1, 2, 4, 5]) (by kernel_rfl) ?_
        refine RGO 3 false (tk []) (cloneLb_rt x.labels (by omega)) rfl rfl (by kernel_rfl) ?_
        refine RGO 6 true (al [7, 8, 9] ++ tk [10]) (cloneSm_rt x.samples (by omega)) rfl rfl (by kernel_rfl) ?_
        refine ⟨by simp only [List.length_map, List.length_cons, List.length_nil]; omega, ?_⟩
        refine V ?_
        refine ⟨(out ++ [⟨x.labels, x.samples⟩], a, []), fun _ => 3, ⟨⟨tail_se x a, rfl, rfl, trivial⟩, ⟨congrArg (fun r => some (Res.row 44 2 r)) (by rw [List.map_append]; rfl), trivial⟩, rfl⟩, ⟨?_, ?_, (fun z hz => hsa z (by simp [hz])), hsb⟩, ?_⟩
        · rw [← hR, mergeL_nil]; simp
        · simp only [List.length_append, List.length_cons, List.length_nil]; omega
        · simp only [List.length_cons, List.length_nil]; omega
      | cons y b =>
        obtain ⟨hy1, hy2⟩ := hsb y (by simp)
        simp only [List.length_cons] at hlen
        have hB : decide (((List.map se (y :: b)).length : Int) > 0) = true := decide_eq_true (by rw [List.length_map, List.length_cons]; omega)
        rw [mergeL_cons] at hR
        repeat (first | refine p1 ?_ | refine p2 ?_ | refine p3 ?_ | refine p4 ?_)
        refine DRAW [] false (tk [0, 1, 2, 3, 4, 5, 6, 7]) (by kernel_rfl) ?_
        refine ix (i := 0) (hk := Nat.zero_lt_succ _) (h := ?_)
        refine ix (i := 0) (hk := Nat.zero_lt_succ _) (h := ?_)
        refine RGO 8 true (tk [9]) (lcompare_rt x.labels y.labels) rfl rfl (by kernel_rfl) ?_
        refine V ?_
        by_cases h1 : cmpF x.labels y.labels < 0
        · rw [if_pos h1] at hR
          refine p1 ?_ (decide_eq_true (by omega))
          refine DRAW [1] true (tk [0, 1, 2, 3, 4] ++ al [5] ++ tk [6]) (by kernel_rfl) ?_
          refine ix (i := 0) (hk := Nat.zero_lt_succ _) (h := ?_)
          refine ⟨by omega, by simp <;> omega, by omega, ?_⟩
          refine V ?_
          refine p2 ?_ (decide_eq_false (by omega))
          refine FZB 1 rfl rfl ?_
          refine DRAW [0] false (tk [0, 1, 2, 4, 5]) (by kernel_rfl) ?_
          refine RGO 3 false (tk []) (cloneLb_rt x.labels (by omega)) rfl rfl (by kernel_rfl) ?_
          refine RGO 6 true (al [7, 8, 9] ++ tk [10]) (cloneSm_rt x.samples (by omega)) rfl rfl (by kernel_rfl) ?_
          refine ⟨by simp only [List.length_map, List.length_cons, List.length_nil]; omega, ?_⟩
          refine V ?_
          refine ⟨(out ++ [⟨x.labels, x.samples⟩], a, (y :: b)), fun _ => 3, ⟨⟨tail_se x a, rfl, rfl, trivial⟩, ⟨congrArg (fun r => some (Res.row 44 2 r)) (by rw [List.map_append]; rfl), trivial⟩, rfl⟩, ⟨?_, ?_, (fun z hz => hsa z (by simp [hz])), hsb⟩, ?_⟩
          · rw [← hR]; simp
          · simp only [List.length_append, List.length_cons, List.length_nil]; omega
          · simp only [List.length_cons]; omega
        rw [if_neg h1] at hR
        by_cases h2 : cmpF x.labels y.labels = 0
        · rw [if_pos h2] at hR
          have hml := mgS_len x.samples y.samples
          refine p1 ?_ (decide_eq_true (by omega))
          refine DRAW [1] true (tk [0, 1, 2, 3, 4] ++ al [5] ++ tk [6]) (by kernel_rfl) ?_
          refine ix (i := 0) (hk := Nat.zero_lt_succ _) (h := ?_)
          refine ⟨by omega, by simp <;> omega, by omega, ?_⟩
          refine V ?_
          refine p1 ?_ (decide_eq_true (by omega))
          refine DRAW [1] false (tk [0, 1, 2, 3, 4, 6, 7, 8, 9, 12, 13] ++ al [5]) (by kernel_rfl) ?_
          refine ix (i := 0) (hk := Nat.zero_lt_succ _) (h := ?_)
          refine ix (i := 0) (hk := Nat.zero_lt_succ _) (h := ?_)
          refine ⟨by omega, by simp <;> omega, by omega, ?_⟩
          refine RGO 10 true (al [11, 14] ++ tk [15]) (cmerge_rt x.samples y.samples hx1 hy1) rfl rfl (by kernel_rfl) ?_
          refine V ?_
          refine FZB 1 rfl rfl ?_
          refine DRAW [0] false (tk [0, 1, 2, 4, 5]) (by kernel_rfl) ?_
          refine RGO 3 false (tk []) (cloneLb_rt y.labels (by omega)) rfl rfl (by kernel_rfl) ?_
          refine RGO 6 true (al [7, 8, 9] ++ tk [10]) (cloneSm_rt (mgS x.samples y.samples) (by omega)) rfl rfl (by kernel_rfl) ?_
          refine ⟨by simp only [List.length_map, List.length_cons, List.length_nil]; omega, ?_⟩
          refine V ?_
          refine ⟨(out ++ [⟨y.labels, mgS x.samples y.samples⟩], a, b), fun _ => 3, ⟨⟨tail_se x a, tail_se y b, rfl, trivial⟩, ⟨congrArg (fun r => some (Res.row 44 2 r)) (by rw [List.map_append]; rfl), trivial⟩, rfl⟩, ⟨?_, ?_, (fun z hz => hsa z (by simp [hz])), (fun z hz => hsb z (by simp [hz]))⟩, ?_⟩
          · rw [← hR]; simp
          · simp only [List.length_append, List.length_cons, List.length_nil]; omega
          · simp only [List.length_cons]; omega
        rw [if_neg h2] at hR
        refine p2 ?_ (decide_eq_false (by omega))
        refine p1 ?_ (decide_eq_true (by omega))
        refine DRAW [1] false (tk [0, 1, 2, 3, 4, 6, 7, 8, 9, 12, 13] ++ al [5]) (by kernel_rfl) ?_
        refine ix (i := 0) (hk := Nat.zero_lt_succ _) (h := ?_)
        refine ix (i := 0) (hk := Nat.zero_lt_succ _) (h := ?_)
        refine ⟨by omega, by simp <;> omega, by omega, ?_⟩
        refine RGO 10 true (al [11, 14] ++ tk [15]) (cmerge_nil y.samples hy1) rfl rfl (by kernel_rfl) ?_
        refine V ?_
        refine FZB 1 rfl rfl ?_
        refine DRAW [0] false (tk [0, 1, 2, 4, 5]) (by kernel_rfl) ?_
        refine RGO 3 false (tk []) (cloneLb_rt y.labels (by omega)) rfl rfl (by kernel_rfl) ?_
        refine RGO 6 true (al [7, 8, 9] ++ tk [10]) (cloneSm_rt y.samples (by omega)) rfl rfl (by kernel_rfl) ?_
        refine ⟨by simp only [List.length_map, List.length_cons, List.length_nil]; omega, ?_⟩
        refine V ?_
        refine ⟨(out ++ [⟨y.labels, y.samples⟩], (x :: a), b), fun _ => 3, ⟨⟨rfl, tail_se y b, rfl, trivial⟩, ⟨congrArg (fun r => some (Res.row 44 2 r)) (by rw [List.map_append]; rfl), trivial⟩, rfl⟩, ⟨?_, ?_, hsa, (fun z hz => hsb z (by simp [hz]))⟩, ?_⟩
        · rw [← hR]; simp
        · simp only [List.length_append, List.length_cons, List.length_nil]; omega
        · simp only [List.length_cons]; omega
  · rintro _ _
    refine FRZ 0 rfl ?_
    exact ⟨rfl, rfl⟩
end Go.Proofs.Ytcdnilijfnfkbaa
