/-
  Contracts: block.Merge.
-/
import Derived.Test.YtaaoljhfepmkjaaDoorCGnA
import Derived.Test.YtaaoljhfepmkjaaDoorCMerge
import Derived.Test.YtaaoljhfepmkjaaDoorPGnA
namespace Go.Proofs.YtaaoljhfepmkjaaDoor
open Go.GK Go.PL Go.RowKit
set_option maxRecDepth 100000
theorem cmerge3_rt (a b : List Sm) (ha : a.length ≤ 3000) (hb : b.length ≤ 3000) : Rt pg 32 [sms a, sms b] (sms (mgS a b)) :=
  mergeC_rt a b (mgS a b) (by omega) (by omega) (fun _ h => mergeS_mg h)
theorem cmerge_rt (a b : List Sm) (ha : a.length ≤ 1000) (hb : b.length ≤ 1000) : Rt pg 32 [sms a, sms b] (sms (mgS a b)) :=
  mergeC_rt a b (mgS a b) (by omega) (by omega) (fun _ h => mergeS_mg h)
theorem cmerge_nil (b : List Sm) (hb : b.length ≤ 1000) : Rt pg 32 [.v (.slice none 0 0), sms b] (sms b) := by
  have h := cmerge_rt [] b (by simp) hb
  rw [mgS_nil'] at h
  exact Rq.nl (pre := []) (suf := [sms b]) (z := 2) h
theorem tail_se (y : Ser) (l : List Ser) : some (GV.sl 2 ((((y :: l).map se).take (((y :: l).map se).length : Int).toNat).drop (1 : Int).toNat)) = some (ses l) := tail_map 2 se y l
def SmlS (l : List Ser) : Prop := ∀ x ∈ l, x.samples.length ≤ 1000 ∧ x.labels.length ≤ 1000
end Go.Proofs.YtaaoljhfepmkjaaDoor
