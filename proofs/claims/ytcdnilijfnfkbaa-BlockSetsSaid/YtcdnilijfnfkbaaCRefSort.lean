/-
  Contracts: the document's series, in order.
-/
import Derived.Test.YtcdnilijfnfkbaaCStab6
import Derived.Test.YtcdnilijfnfkbaaCRefLab2
namespace Go.Proofs.Ytcdnilijfnfkbaa
open Go.GK Go.PL Go.RowKit
set_option maxRecDepth 100000
/-- Series with labels not too many for this world. -/
abbrev SerB := {x : Ser // x.labels.length ≤ 1000000}
abbrev seB (x : SerB) : List GV := se x.1
def ltB (x y : SerB) : Bool := decide (cmpF x.1.labels y.1.labels < 0)
theorem wo_ltB : WO ltB where
  asym x y h := by
    have := cmpF_is.anti x.1.labels y.1.labels
    simp only [ltB, decide_eq_true_eq, decide_eq_false_iff_not] at *
    omega
  ntrans x y z h1 h2 := by
    simp only [ltB, decide_eq_false_iff_not] at *
    have a1 := cmpF_is.anti x.1.labels y.1.labels
    have a2 := cmpF_is.anti y.1.labels z.1.labels
    have a3 := cmpF_is.anti x.1.labels z.1.labels
    have r1 := cmpF_is.rng x.1.labels y.1.labels
    have r2 := cmpF_is.rng y.1.labels z.1.labels
    have r3 := cmpF_is.rng x.1.labels z.1.labels
    by_cases e1 : cmpF x.1.labels y.1.labels = 0
    · rw [(cmpF_is.eq0 _ _).1 e1]; omega
    · by_cases e2 : cmpF y.1.labels z.1.labels = 0
      · rw [← (cmpF_is.eq0 _ _).1 e2]; omega
      · have := cmpF_is.trans x.1.labels y.1.labels z.1.labels (by omega) (by omega)
        omega
theorem less_hf (l : List SerB) (i j : Nat) (x y : SerB) (_ : l.length < 1099511627776) (hi : l[i]? = some x) (hj : l[j]? = some y) : Hf pg 51 2 [gi i, gi j, .p 1 0] (sgm seB 2 44 22 l) (fun G σ n => G = .b (ltB x y) ∧ σ = sgm seB 2 44 22 l ∧ n = 2) := by
  have hi1 := (List.getElem?_eq_some_iff.1 hi).1
  have hj1 := (List.getElem?_eq_some_iff.1 hj).1
  have hll : (l.map seB).length = l.length := by simp
  refine Hf.of pg_ok Try.func51 rfl Try.ntmps51 rfl Try.results51 Try.call51 fun H0 S0 w0 h0 g0 => ?_
  refine DRAW [] false (tk [0, 1, 2, 3, 4, 5, 6, 7, 8, 9]) (by kernel_rfl) ?_
  refine ⟨by omega, by omega, ?_⟩
  refine ⟨seB x, by rw [Int.toNat_natCast, List.getElem?_map, hi]; rfl, ?_⟩
  refine ⟨by omega, by omega, ?_⟩
  refine ⟨seB y, by rw [Int.toNat_natCast, List.getElem?_map, hj]; rfl, ?_⟩
  refine RGO 10 true (tk [11, 12]) (refCompare_rt x.1.labels y.1.labels x.2 y.2) rfl rfl (by kernel_rfl) ?_
  refine V ?_
  exact ⟨rfl, rfl, rfl⟩
theorem serie_info : ∃ ie : TypeInfo, pg.P.info? 44 = some ie ∧ ie.size = 2 ∧ ∀ w, (isAgg 44).run pg.P w = .ok true w := ⟨serE, by kernel_rfl, by kernel_rfl, fun _ => by kernel_rfl⟩
theorem series_se : SE seB 2 44 22 51 73 ltB where
  less := less_hf
  swx := ⟨false, fun args W => run_callFunc_extern Try.func73 (by kernel_rfl) (by kernel_rfl) (by kernel_rfl) (e := Extern.ReflectliteSwapper.swap false) (by kernel_rfl) args W⟩
  ie := serie_info
end Go.Proofs.Ytcdnilijfnfkbaa
