/-
  What the rows of this seat have in common: of what is laid the table of sizes is read; the world that holds what is laid.
-/
import Derived.Test.YtcdnilijfnfkbaaDoorCPg
import Derived.Test.YtcdnilijfnfkbaaDoorRows
import Derived.ProofKit
import Derived.LaidMore
import Derived.LaidSub
import Derived.Lay
import Derived.OpenShut
import Derived.Stop.Joined
namespace Go.Proofs.YtcdnilijfnfkbaaDoor
open Go.GK Go.ChangeShapes Go.WideShapes Go.RowKit

abbrev rowLaid : List (String × DataW Unit) := [("unicode/utf8.acceptRanges", Rows.laid_unicode_utf8_acceptRanges), ("raingauge/bits.sizes", Rows.laid_raingauge_bits_sizes), ("unicode/utf8.first", Rows.laid_unicode_utf8_first)]
theorem own : ownKnob Tryd.prog.godebug = none := by kernel_rfl
theorem laidOut : laidOutB Tryd.prog = true := by kernel_rfl
theorem laid_met (os : Os) (args : Array Value) : laidMetH Tryd.prog rowLaid ((World.laidAll Tryd.prog os rowLaid).forCall (fun _ _ => 0) ⟨#[], args, []⟩).memory := by
  rw [MakeChecks.laidMetH_plain _ _ _ (by kernel_rfl)]
  exact laidMet_laidAll _ (by kernel_rfl) (by kernel_rfl)
theorem gSizes : Tryd.prog.globalNamed "raingauge/bits.sizes" = some 1 := by kernel_rfl
theorem tSizes : (Tryd.prog.globals[1]?).map (·.type) = some 129 := by kernel_rfl
theorem gl_ok {W : World} (h : laidMet Tryd.prog [("raingauge/bits.sizes", Rows.laid_raingauge_bits_sizes)] W) : ∀ H : Hid, H.ro = roOf W → GlOk pg H := by
  obtain ⟨ps, ⟨g0, t0, cs0, f0, p0, q0, hg0, ht0, hv0, hd0, _, _⟩, _, _⟩ := h
  obtain rfl := Option.some.inj (gSizes.symm.trans hg0)
  obtain rfl := Option.some.inj (tSizes.symm.trans ht0)
  have hcs := arr_ints (P := Tryd.prog) (e := 3) (n := 7) (k := .i64) (zs := [0, 4, 7, 12, 20, 32, 64]) (by kernel_rfl) (by kernel_rfl) (by kernel_rfl) rfl (by kernel_rfl) hd0
  intro H hro g gv hg
  have hg' : GK.look gl g = some gv := hg
  unfold gl at hg'
  unfold GK.look at hg'
  cases hb : Nat.beq 1 g with
  | false => rw [hb] at hg'; simp [GK.look] at hg'
  | true =>
    rw [hb] at hg'
    have := beq_eq hb
    subst this
    simp only [cond_true, Option.some.injEq] at hg'
    subst hg'
    refine gl_ints hro fun i => ?_
    rw [World.var?_cell hg0 hv0 i, ← hcs]
    simp
theorem gl_okH {W : World} (h : laidMetH Tryd.prog rowLaid W) : ∀ H : Hid, H.ro = roOf W → GlOk pg H := by
  rw [MakeChecks.laidMetH_plain _ _ _ (by kernel_rfl)] at h
  exact gl_ok (h.filter fun x => x.1 == "raingauge/bits.sizes")
end Go.Proofs.YtcdnilijfnfkbaaDoor
