/-
  Contracts: whether series are the same (of the same ones).
-/
import Derived.Test.YtcdnilijfnfkbaaCTkA
import Derived.Test.YtcdnilijfnfkbaaCRefLab2
import Derived.Test.YtcdnilijfnfkbaaCSameL
namespace Go.Proofs.Ytcdnilijfnfkbaa
open Go.GK Go.PL Go.RowKit
set_option maxRecDepth 100000
theorem sameSeriesL_rt (l : List Ser) : Rt pg 10 [ses l, ses l] (.b true) := by
  refine Rt.of pg_ok Try.func10 rfl Try.ntmps10 rfl Try.results10 Try.call10 fun H0 S0 w0 h0 g0 => ?_
  refine p2 ?_ (by simp)
  refine JK.len 0 rfl fun hlen _ => ?_
  have hlen' : l.length ≤ 9223372036854775807 := by simpa [maxLen] using hlen
  refine JK.loop (α := Nat) (fun i => ⟨[(0, ses l), (1, ses l), (5, gi i)], [], 0⟩) (fun i => i ≤ l.length) (fun i => l.length - i) 0 id ?_ (Nat.zero_le _) ?_
  · exact ⟨⟨rfl, rfl, rfl, trivial⟩, trivial, rfl⟩
  · intro i hi
    refine V ?_
    by_cases h : i < l.length
    · refine p1 ?_ (decide_eq_true (by simp only [List.length_map]; omega))
      refine DRAW [] false (tk [0, 1, 2, 3, 4, 5, 6, 7, 8, 9]) (by kernel_rfl) ?_
      refine ix (h := ?_)
      refine ix (h := ?_)
      refine RGO 10 false (tk [11, 12, 13, 14, 15, 16, 17, 18, 19, 20, 21, 22]) ((sameL_rt l[i].labels l[i].labels).bt (d := true) (decide_eq_true ((cmpF_is.eq0 _ _).2 rfl))) rfl rfl (by kernel_rfl) ?_
      refine ix (h := ?_)
      refine ix (h := ?_)
      refine RGO 23 true (tk [24, 25]) ((Rq.old Try.call24 (sameSL_ct l[i].samples l[i].samples)).bt (d := true) (decide_eq_true rfl)) rfl rfl (by kernel_rfl) ?_
      refine V ?_
      exact ⟨i + 1, id, ⟨⟨rfl, rfl, succ_gi (by omega), trivial⟩, trivial, rfl⟩, h, by show l.length - (i + 1) < l.length - i; omega⟩
    · refine p2 ?_ (decide_eq_false (by simp only [List.length_map]; omega))
      refine V ?_
      exact ⟨rfl, rfl⟩
theorem sameNil_rt : Rt pg 10 [.v (.slice none 0 0), .v (.slice none 0 0)] (.b true) :=
  Rq.nl (pre := []) (z := 2) (suf := [.v (.slice none 0 0)]) (Rq.nl (pre := [.sl 2 []]) (z := 2) (suf := []) (sameSeriesL_rt []))
end Go.Proofs.Ytcdnilijfnfkbaa
