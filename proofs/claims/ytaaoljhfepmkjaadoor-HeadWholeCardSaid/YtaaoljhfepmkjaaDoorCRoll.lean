/-
  Contracts: package roll.
-/
import Derived.Test.YtaaoljhfepmkjaaDoorCSm
namespace Go.Proofs.YtaaoljhfepmkjaaDoor
open Go.GK Go.PL
set_option maxRecDepth 100000

theorem upF_snoc (l : List Sm) (s : Int) (i : Nat) (h : i < l.length) : upF (l.take (i + 1)) s = addF (upF (l.take i) s) (oneF s l[i]) := by
  rw [List.take_succ_eq_append_getElem h, upF_snoc']
theorem addF_len (l : List Bk) (b : Bk) : (addF l b).length ≤ l.length + 1 := by
  unfold addF
  split
  · split <;> simp
  · simp
theorem addsF_len (l : List Bk) : (addsF [] l).length ≤ l.length := by
  refine snoc_ind (P := fun l => (addsF [] l).length ≤ l.length) (by simp [addsF]) (fun l x ih => ?_) l
  rw [addsF_snoc]
  have := addF_len (addsF [] l) x
  simp
  omega
theorem upF_len (l : List Sm) (s : Int) : (upF l s).length ≤ l.length := by
  have := addsF_len (l.map (oneF s))
  simpa [upF] using this
theorem widerF_snoc (l : List Bk) (s : Int) (i : Nat) (h : i < l.length) : widerF (l.take (i + 1)) s = addF (widerF (l.take i) s) (widen s l[i]) := by
  unfold widerF
  rw [List.take_succ_eq_append_getElem h, List.map_append]
  exact addsF_snoc _ _ _
theorem widerF_len (l : List Bk) (s : Int) : (widerF l s).length ≤ l.length := by
  have := addsF_len (l.map (widen s))
  simpa [widerF] using this
end Go.Proofs.YtaaoljhfepmkjaaDoor
