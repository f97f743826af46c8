/-
  What the rows of this seat have in common: the library's handle of the type error is laid.
-/
import Derived.Test.YtbapgglhpbbonaaDoorCPg
import Derived.Test.YtbapgglhpbbonaaDoorGKg
import Derived.Test.YtbapgglhpbbonaaDoorCErr
import Derived.Test.YtbapgglhpbbonaaDoorRows
import Derived.ProofKit
import Derived.LaidMore
import Derived.LaidHandle
import Derived.OpenShut
import Derived.Stop.Joined
namespace Go.Proofs.YtbapgglhpbbonaaDoor
open Go.GK Go.ChangeShapes Go.WideShapes Go.RowKit

theorem own : ownKnob Tryd.prog.godebug = none := by kernel_rfl
theorem laidOut : laidOutB Tryd.prog = true := by kernel_rfl
theorem gErr : Tryd.prog.globalNamed "errors.errorType" = some 0 := by kernel_rfl
theorem rtErr : (Tryd.prog.cutTypes.find? (·.1 == "internal/reflectlite.rtype")).map (·.2) = some 120 := by kernel_rfl
theorem oneRow : ((List.range 184).filter fun t => Tryd.prog.rowNamed t [101, 114, 114, 111, 114]) = [31] := by kernel_rfl
theorem typesSize : Tryd.prog.types.size = 184 := by kernel_rfl

theorem handle_ok {W : World} (h : handlesMet Tryd.prog [("errors.errorType", Rows.laid_errors_errorType)] W) : W.cell? ⟨0, 0, none⟩ = some rtV := by
  obtain ⟨name, u, ty, e1, e2, e3, e4, e5⟩ := h _ (List.mem_singleton.2 rfl)
  have en : name = [101, 114, 114, 111, 114] := (Option.some.inj e1).symm
  subst en
  obtain rfl := Option.some.inj (rtErr.symm.trans e2)
  have hm : ty ∈ (List.range 184).filter fun t => Tryd.prog.rowNamed t [101, 114, 114, 111, 114] := List.mem_filter.2 ⟨List.mem_range.2 (by rw [← typesSize]; exact e3), e4⟩
  rw [oneRow] at hm
  obtain rfl := List.mem_singleton.1 hm
  have hh : typeHandle Tryd.prog 31 = .pointer (some ⟨1, 31, none⟩) := by kernel_rfl
  rw [hh] at e5
  simpa using World.var?_cell gErr e5 0

theorem gl_ok {W : World} (hL : laidMetH Tryd.prog [("errors.errorType", Rows.laid_errors_errorType)] W) : ∀ H : Hid, H.ro = roOf W → GlOk pg H := by
  have hL' : laidMet Tryd.prog [] W ∧ handlesMet Tryd.prog [("errors.errorType", Rows.laid_errors_errorType)] W := hL
  have hE' := handle_ok hL'.2
  intro H hro g gv hg
  have hg' : GK.look gl g = some gv := hg
  unfold gl at hg'
  unfold GK.look at hg'
  cases hb2 : Nat.beq 0 g with
  | false => rw [hb2] at hg'; simp [GK.look] at hg'
  | true =>
    rw [hb2] at hg'
    have := beq_eq hb2
    subst this
    simp only [cond_true, Option.some.injEq] at hg'
    subst hg'
    exact gl_one hro hE'
end Go.Proofs.YtbapgglhpbbonaaDoor
