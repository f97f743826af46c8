/-
  What the row of this seat has: of what is laid the library's handle of the type error is read.
-/
import Derived.Test.YtaaoljhfepmkjaaDoorCPg
import Derived.Test.YtaaoljhfepmkjaaDoorGKg
import Derived.Test.YtaaoljhfepmkjaaDoorCErr
import Derived.Test.YtaaoljhfepmkjaaDoorRows
import Derived.ProofKit
import Derived.LaidMore
import Derived.LaidHandle
import Derived.LaidSub
import Derived.Lay
import Derived.ChangeSame
import Derived.OpenShut
import Derived.Stop.Joined
namespace Go.Proofs.YtaaoljhfepmkjaaDoor
open Go.GK Go.ChangeShapes Go.WideShapes Go.RowKit

abbrev rowLaid : List (String × DataW Unit) := [("unicode/utf8.acceptRanges", Rows.laid_unicode_utf8_acceptRanges), ("errors.errorType", Rows.laid_errors_errorType), ("unicode/utf8.first", Rows.laid_unicode_utf8_first)]
theorem own : ownKnob Tryd.prog.godebug = none := by kernel_rfl
theorem laidOut : laidOutB Tryd.prog = true := by kernel_rfl
theorem gErr : Tryd.prog.globalNamed "errors.errorType" = some 0 := by kernel_rfl
theorem rtErr : (Tryd.prog.cutTypes.find? (·.1 == "internal/reflectlite.rtype")).map (·.2) = some 96 := by kernel_rfl
theorem oneRow : ((List.range 160).filter fun t => Tryd.prog.rowNamed t [101, 114, 114, 111, 114]) = [30] := by kernel_rfl
theorem typesSize : Tryd.prog.types.size = 160 := by kernel_rfl

theorem handle_ok {W : World} (h : handlesMet Tryd.prog [("errors.errorType", Rows.laid_errors_errorType)] W) : W.cell? ⟨0, 0, none⟩ = some rtV := by
  obtain ⟨name, u, ty, e1, e2, e3, e4, e5⟩ := h _ (List.mem_singleton.2 rfl)
  have en : name = [101, 114, 114, 111, 114] := (Option.some.inj e1).symm
  subst en
  obtain rfl := Option.some.inj (rtErr.symm.trans e2)
  have hm : ty ∈ (List.range 160).filter fun t => Tryd.prog.rowNamed t [101, 114, 114, 111, 114] := List.mem_filter.2 ⟨List.mem_range.2 (by rw [← typesSize]; exact e3), e4⟩
  rw [oneRow] at hm
  obtain rfl := List.mem_singleton.1 hm
  have hh : typeHandle Tryd.prog 30 = .pointer (some ⟨4, 30, none⟩) := by kernel_rfl
  rw [hh] at e5
  simpa using World.var?_cell gErr e5 0

theorem gl_okH {W : World} (hL : laidMetH Tryd.prog rowLaid W) : ∀ H : Hid, H.ro = roOf W → GlOk pg H := by
  have hL' : laidMet Tryd.prog [("unicode/utf8.acceptRanges", Rows.laid_unicode_utf8_acceptRanges), ("unicode/utf8.first", Rows.laid_unicode_utf8_first)] W ∧ handlesMet Tryd.prog [("errors.errorType", Rows.laid_errors_errorType)] W := hL
  have hE' := handle_ok hL'.2
  intro H hro g gv hg
  have hg' : GK.look gl g = some gv := hg
  unfold gl at hg'
  unfold GK.look at hg'
  cases hb2 : Nat.beq 0 g with
  | false => rw [hb2] at hg'; simp [GK.look] at hg'
  | true =>
    rw [hb2] at hg'
    have := beq_eq hb2
    subst this
    simp only [cond_true, Option.some.injEq] at hg'
    subst hg'
    exact gl_one hro hE'
/-- What is listed, but the handle. -/
abbrev plainLaid : List (String × DataW Unit) := [("unicode/utf8.acceptRanges", Rows.laid_unicode_utf8_acceptRanges), ("unicode/utf8.first", Rows.laid_unicode_utf8_first)]
noncomputable def wit (os : Os) : World := (World.doorLaid Tryd.prog 400 os).layVars Tryd.prog plainLaid
theorem wit_os (os : Os) : (wit os).os = os := World.layVars_os _ _ _
theorem wit_fits (os : Os) : (World.doorLaid Tryd.prog 400 os).layFits Tryd.prog plainLaid [] = true := by kernel_rfl
theorem wit_ifaces (os : Os) : (World.doorLaid Tryd.prog 400 os).layIfaces Tryd.prog plainLaid (wit os) = true := by kernel_rfl
theorem wit_handle (os : Os) (args : Array Value) : (rowLaid.filter fun x => x.2.handleName?.isSome).all (handleAtB Tryd.prog ((wit os).forCall (fun _ _ => 0) ⟨#[], args, []⟩).memory) = true := by kernel_rfl
theorem wit_shaped (os : Os) (args : Array Value) : ((wit os).forCall (fun _ _ => 0) ⟨#[], args, []⟩).Shaped Tryd.prog := World.shaped_of_ZipB (by kernel_rfl) (by kernel_rfl)
theorem wit_met (os : Os) (args : Array Value) : laidMetH Tryd.prog rowLaid ((wit os).forCall (fun _ _ => 0) ⟨#[], args, []⟩).memory := by
  have e1 : (plainLaid.filter fun x => (plainLaid.map (·.1)).contains x.1) = plainLaid := List.filter_eq_self.2 fun x hx => List.contains_iff_mem.2 (List.mem_map.2 ⟨x, hx, rfl⟩)
  have e2 : (plainLaid.filter fun x => !(plainLaid.map (·.1)).contains x.1) = [] := List.filter_eq_nil_iff.2 fun x hx => by rw [List.contains_iff_mem.2 (List.mem_map.2 ⟨x, hx, rfl⟩)]; simp
  have h : laidMet Tryd.prog plainLaid (wit os) := laidMet_layVars (w0 := World.doorLaid Tryd.prog 400 os) (plainLaid.map (·.1)) [] (by rw [e1]; rfl) (by rw [e1]; exact wit_fits os) (by rw [e1]; exact wit_ifaces os) (by rw [e2]; exact LaidIn.none)
  have h' : laidMet Tryd.prog plainLaid ((wit os).forCall (fun _ _ => 0) ⟨#[], args, []⟩).memory := h.of_heap (by simp [World.memory, World.forCall, Input.heap])
  exact laidMetH_of_parts h' (wit_handle os args)
end Go.Proofs.YtaaoljhfepmkjaaDoor
