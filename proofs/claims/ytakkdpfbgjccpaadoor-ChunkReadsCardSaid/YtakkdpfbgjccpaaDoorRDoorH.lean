/-
  What the rows of this seat have in common: the table of sizes is laid, and the library's handle of the type error.
-/
import Derived.Test.YtakkdpfbgjccpaaDoorCPg
import Derived.Test.YtakkdpfbgjccpaaDoorGK19
import Derived.Test.YtakkdpfbgjccpaaDoorCErr
import Derived.Test.YtakkdpfbgjccpaaDoorRows
import Derived.ProofKit
import Derived.LaidMore
import Derived.LaidHandle
import Derived.OpenShut
import Derived.Stop.Joined
namespace Go.Proofs.YtakkdpfbgjccpaaDoor
open Go.GK Go.ChangeShapes Go.WideShapes Go.RowKit

theorem own : ownKnob Tryd.prog.godebug = none := by kernel_rfl
theorem laidOut : laidOutB Tryd.prog = true := by kernel_rfl
theorem gSizes : Tryd.prog.globalNamed "raingauge/bits.sizes" = some 0 := by kernel_rfl
theorem tSizes : (Tryd.prog.globals[0]?).map (·.type) = some 89 := by kernel_rfl
theorem gErr : Tryd.prog.globalNamed "errors.errorType" = some 2 := by kernel_rfl
theorem rtErr : (Tryd.prog.cutTypes.find? (·.1 == "internal/reflectlite.rtype")).map (·.2) = some 149 := by kernel_rfl
theorem oneRow : ((List.range 215).filter fun t => Tryd.prog.rowNamed t [101, 114, 114, 111, 114]) = [37] := by kernel_rfl
theorem typesSize : Tryd.prog.types.size = 215 := by kernel_rfl

theorem handle_ok {W : World} (h : handlesMet Tryd.prog [("errors.errorType", Rows.laid_errors_errorType)] W) : W.cell? ⟨2, 0, none⟩ = some rtV := by
  obtain ⟨name, u, ty, e1, e2, e3, e4, e5⟩ := h _ (List.mem_singleton.2 rfl)
  have en : name = [101, 114, 114, 111, 114] := (Option.some.inj e1).symm
  subst en
  obtain rfl := Option.some.inj (rtErr.symm.trans e2)
  have hm : ty ∈ (List.range 215).filter fun t => Tryd.prog.rowNamed t [101, 114, 114, 111, 114] := List.mem_filter.2 ⟨List.mem_range.2 (by rw [← typesSize]; exact e3), e4⟩
  rw [oneRow] at hm
  obtain rfl := List.mem_singleton.1 hm
  have hh : typeHandle Tryd.prog 37 = .pointer (some ⟨3, 37, none⟩) := by kernel_rfl
  rw [hh] at e5
  simpa using World.var?_cell gErr e5 0

theorem gl_ok {W : World} (hL : laidMetH Tryd.prog [("errors.errorType", Rows.laid_errors_errorType), ("raingauge/bits.sizes", Rows.laid_raingauge_bits_sizes)] W) : ∀ H : Hid, H.ro = roOf W → GlOk pg H := by
  have hL' : laidMet Tryd.prog [("raingauge/bits.sizes", Rows.laid_raingauge_bits_sizes)] W ∧ handlesMet Tryd.prog [("errors.errorType", Rows.laid_errors_errorType)] W := hL
  obtain ⟨h, hE⟩ := hL'
  have hE' := handle_ok hE
  obtain ⟨ps, ⟨g0, t0, cs0, f0, p0, q0, hg0, ht0, hv0, hd0, _, _⟩, _, _⟩ := h
  obtain rfl := Option.some.inj (gSizes.symm.trans hg0)
  obtain rfl := Option.some.inj (tSizes.symm.trans ht0)
  have hcs := arr_ints (P := Tryd.prog) (e := 3) (n := 7) (k := .i64) (zs := [0, 4, 7, 12, 20, 32, 64]) (by kernel_rfl) (by kernel_rfl) (by kernel_rfl) rfl (by kernel_rfl) hd0
  intro H hro g gv hg
  have hg' : GK.look gl g = some gv := hg
  unfold gl at hg'
  unfold GK.look at hg'
  cases hb : Nat.beq 0 g with
  | false =>
    rw [hb] at hg'
    simp only [cond_false] at hg'
    unfold GK.look at hg'
    cases hb2 : Nat.beq 2 g with
    | false => rw [hb2] at hg'; simp [GK.look] at hg'
    | true =>
      rw [hb2] at hg'
      have := beq_eq hb2
      subst this
      simp only [cond_true, Option.some.injEq] at hg'
      subst hg'
      exact gl_one hro hE'
  | true =>
    rw [hb] at hg'
    have := beq_eq hb
    subst this
    simp only [cond_true, Option.some.injEq] at hg'
    subst hg'
    refine gl_ints hro fun i => ?_
    rw [World.var?_cell hg0 hv0 i, ← hcs]
    simp
end Go.Proofs.YtakkdpfbgjccpaaDoor
