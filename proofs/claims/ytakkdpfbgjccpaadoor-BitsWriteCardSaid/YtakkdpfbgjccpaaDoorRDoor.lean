/-
  What the rows of this seat have in common: the table of sizes is laid.
-/
import Derived.Test.YtakkdpfbgjccpaaDoorCPg
import Derived.Test.YtakkdpfbgjccpaaDoorRows
import Derived.ProofKit
import Derived.LaidMore
import Derived.OpenShut
import Derived.Stop.Joined
namespace Go.Proofs.YtakkdpfbgjccpaaDoor
open Go.GK Go.ChangeShapes Go.WideShapes Go.RowKit

theorem own : ownKnob Tryd.prog.godebug = none := by kernel_rfl
theorem laidOut : laidOutB Tryd.prog = true := by kernel_rfl
theorem gSizes : Tryd.prog.globalNamed "raingauge/bits.sizes" = some 0 := by kernel_rfl
theorem tSizes : (Tryd.prog.globals[0]?).map (·.type) = some 89 := by kernel_rfl
theorem gl_ok {W : World} (h : laidMet Tryd.prog [("raingauge/bits.sizes", Rows.laid_raingauge_bits_sizes)] W) : ∀ H : Hid, H.ro = roOf W → GlOk pg H := by
  obtain ⟨ps, ⟨g0, t0, cs0, f0, p0, q0, hg0, ht0, hv0, hd0, _, _⟩, _, _⟩ := h
  obtain rfl := Option.some.inj (gSizes.symm.trans hg0)
  obtain rfl := Option.some.inj (tSizes.symm.trans ht0)
  have hcs := arr_ints (P := Tryd.prog) (e := 3) (n := 7) (k := .i64) (zs := [0, 4, 7, 12, 20, 32, 64]) (by kernel_rfl) (by kernel_rfl) (by kernel_rfl) rfl (by kernel_rfl) hd0
  intro H hro g gv hg
  have hg' : GK.look gl g = some gv := hg
  unfold gl at hg'
  unfold GK.look at hg'
  cases hb : Nat.beq 0 g with
  | false => rw [hb] at hg'; simp [GK.look] at hg'
  | true =>
    rw [hb] at hg'
    have := beq_eq hb
    subst this
    simp only [cond_true, Option.some.injEq] at hg'
    subst hg'
    refine gl_ints hro fun i => ?_
    rw [World.var?_cell hg0 hv0 i, ← hcs]
    simp
end Go.Proofs.YtakkdpfbgjccpaaDoor
