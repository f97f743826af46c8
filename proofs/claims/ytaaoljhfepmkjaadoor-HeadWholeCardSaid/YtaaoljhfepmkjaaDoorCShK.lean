/-
  Contracts: series that are short, and the same; a number that is picked (package raingaugekeep).
-/
import Derived.Test.YtaaoljhfepmkjaaDoorCShS
import Derived.Test.YtaaoljhfepmkjaaDoorCLabLaws2
import Derived.Test.YtaaoljhfepmkjaaDoorCSameK
import Derived.Test.YtaaoljhfepmkjaaDoorCPick
namespace Go.Proofs.YtaaoljhfepmkjaaDoor
open Go.GK Go.PL Go.RowKit
set_option maxRecDepth 100000
theorem shortS_rt (l : List Ser) : Rt pg 6 [ses l] (.b (shS l)) := by
  refine Rt.of pg_ok Tryd.func6 rfl Tryd.ntmps6 rfl Tryd.results6 Tryd.call6 fun H0 S0 w0 h0 g0 => ?_
  have hll : (l.map se).length = l.length := by simp
  unfold shS
  by_cases hl : l.length ≤ 20
  · refine p2 ?_
    refine JK.loop (α := Nat) (fun i => ⟨[(0, ses l), (3, gi i)], [], 0⟩) (fun i => i ≤ l.length ∧ ∀ j, j < i → badS l j = false) (fun i => l.length - i) 0 id ?_ ⟨Nat.zero_le _, fun j hj => absurd hj (by omega)⟩ ?_
    · exact ⟨⟨rfl, rfl, trivial⟩, trivial, rfl⟩
    · rintro i ⟨hi, hgood⟩
      refine V ?_
      by_cases hlt : i < l.length
      · have hg := badS_at hlt
        have hbad : (!shL l[i].labels || decide (60 < l[i].samples.length)) = true → (decide (l.length ≤ 20) && !anyB l.length (badS l)) = false := fun h => by rw [anyB_true hlt (by rw [hg]; exact h)]; simp
        have hnext : (!shL l[i].labels || decide (60 < l[i].samples.length)) = false → ∀ j, j < i + 1 → badS l j = false := fun h j hj => by
          rcases Nat.lt_succ_iff_lt_or_eq.1 hj with h1 | h1
          · exact hgood j h1
          · subst h1; rw [hg]; exact h
        refine p1 ?_ (decide_eq_true (by omega))
        refine ix (h := ?_)
        have hsm : (l[i].samples.map sm).length = l[i].samples.length := by simp
        rcases tf (shL l[i].labels) with h1 | h1
        · refine GO ((kshortL_rt l[i].labels).bt h1) rfl ?_
          repeat (first | refine p1 ?_ | refine p2 ?_ | refine p3 ?_ | refine p4 ?_)
          refine ix (h := ?_)
          by_cases h2 : 60 < l[i].samples.length
          · refine p1 ?_ (decide_eq_true (by omega))
            exact ⟨(hbad (by rw [decide_eq_true h2, Bool.or_true])).symm, rfl⟩
          · refine p2 ?_ (decide_eq_false (by omega))
            exact ⟨i + 1, id, ⟨⟨rfl, succ_gi (by omega), trivial⟩, trivial, rfl⟩, ⟨hlt, hnext (by rw [decide_eq_false h2, h1]; rfl)⟩, by show l.length - (i + 1) < l.length - i; omega⟩
        · refine GO ((kshortL_rt l[i].labels).bt h1) rfl ?_
          repeat (first | refine p1 ?_ | refine p2 ?_ | refine p3 ?_ | refine p4 ?_)
          exact ⟨(hbad (by rw [h1]; rfl)).symm, rfl⟩
      · refine p2 ?_ (decide_eq_false (by omega))
        refine V ?_
        obtain rfl : i = l.length := by omega
        exact ⟨by rw [anyB_false hgood, decide_eq_true hl]; rfl, rfl⟩
  · refine p1 ?_
    exact ⟨by rw [decide_eq_false hl]; rfl, rfl⟩
theorem sameSeriesK_rt (l : List Ser) : Rt pg 9 [ses l, ses l] (.b true) := by
  refine Rt.of pg_ok Tryd.func9 rfl Tryd.ntmps9 rfl Tryd.results9 Tryd.call9 fun H0 S0 w0 h0 g0 => ?_
  refine p2 ?_ (by simp)
  refine JK.len 0 rfl fun hlen _ => ?_
  have hlen' : l.length ≤ 9223372036854775807 := by simpa [maxLen] using hlen
  refine JK.loop (α := Nat) (fun i => ⟨[(0, ses l), (1, ses l), (5, gi i)], [], 0⟩) (fun i => i ≤ l.length) (fun i => l.length - i) 0 id ?_ (Nat.zero_le _) ?_
  · exact ⟨⟨rfl, rfl, rfl, trivial⟩, trivial, rfl⟩
  · intro i hi
    refine V ?_
    by_cases h : i < l.length
    · refine p1 ?_ (decide_eq_true (by simp only [List.length_map]; omega))
      have hc := lcompare_rt l[i].labels l[i].labels
      rw [show cmpF l[i].labels l[i].labels = 0 from (cmpF_is.eq0 _ _).2 rfl] at hc
      refine DRAW [] false (tk [0, 1, 2, 3, 4, 5, 6, 7, 8, 9]) (by kernel_rfl) ?_
      refine ix (h := ?_)
      refine ix (h := ?_)
      refine RGO 10 false (tk [11, 12, 13, 14, 15, 16, 17, 18, 19, 20, 21, 22]) hc rfl rfl (by kernel_rfl) ?_
      repeat (first | refine p1 ?_ | refine p2 ?_ | refine p3 ?_ | refine p4 ?_)
      refine ix (h := ?_)
      refine ix (h := ?_)
      refine RGO 23 true (tk [24, 25]) ((Rq.old Tryd.call26 (sameSK_ct l[i].samples l[i].samples)).bt (d := true) (decide_eq_true rfl)) rfl rfl (by kernel_rfl) ?_
      refine V ?_
      exact ⟨i + 1, id, ⟨⟨rfl, rfl, succ_gi (by omega), trivial⟩, trivial, rfl⟩, h, by show l.length - (i + 1) < l.length - i; omega⟩
    · refine p2 ?_ (decide_eq_false (by simp only [List.length_map]; omega))
      refine V ?_
      exact ⟨rfl, rfl⟩
end Go.Proofs.YtaaoljhfepmkjaaDoor
