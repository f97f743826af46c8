/-
  The ghost machine: contracts weakened.
-/
import Derived.Test.YtfagagfokmlgiaaGK8s
namespace Go.GK
open Go.RowKit

section
variable {p : Pg}

/-- What a contract promises, said anew: of what is left, some things, under other numbers. -/
theorem Ct.weak {f : FuncId} {n0 : Nat} {args : List GV} {σ : Heap} {Q Q' : GV → Heap → Nat → Prop} (h : Ct p f n0 args σ Q)
    (hQ : ∀ g σ' n', Q g σ' n' → ∃ (r : Nat → Nat) (g0 : GV) (τ : Heap) (m : Nat), Q' g0 τ m ∧ g = ren r g0 ∧ leσ r τ σ' ∧ (idb m g0 && idbH m τ && distB (hids r τ) && fixB r n0 && Nat.ble n0 m) = true) : Ct p f n0 args σ Q' := by
  intro H us w hn hg hc hs
  refine Calls.mono (h H us w hn hg hc hs) (fun e w' he => ?_)
  obtain ⟨u, g, H', σ', rfl, hi, hs', hfr, hq⟩ := he
  obtain ⟨r, g0, τ, m, hq', rfl, hl, hchk⟩ := hQ g σ' _ hq
  obtain ⟨h1, h2, h3, h4, h5⟩ := and5 hchk
  obtain ⟨hsat, hbl⟩ := hs'.part hl h2 h3
  have hfix := fixB_fix h4
  have hm := Nat.le_of_ble_eq_true h5
  refine ⟨u, g0, H'.via r m, τ, rfl, ren_back hi h1, hsat, ?_, hq'⟩
  refine ⟨hfr.os, hfr.tape, hfr.output, hfr.size, hfr.keep, fun b hb => ?_, hfr.fro, ⟨by rw [hn]; exact hm, hfr.le.ro, fun i hi => ?_, fun i hi => ?_⟩⟩
  · obtain ⟨x, hx, _, hbx⟩ := hbl b hb
    exact hfr.own b (List.mem_flatMap.2 ⟨x, hx, hbx⟩)
  · show H'.bl (r i) = _
    rw [hfix i (by omega)]
    exact hfr.le.bl i hi
  · show H'.sv (r i) = _
    rw [hfix i (by omega)]
    exact hfr.le.sv i hi

/-- .. of what is left nothing is of use. -/
def Val (x : GV → Prop) (g : GV) (σ : Heap) (n : Nat) : Prop := x g ∧ σ = [] ∧ n = 0

theorem Ct.val {f : FuncId} {args : List GV} {σ : Heap} {x : GV → Prop} (h : Ct p f 0 args σ fun g _ _ => x g ∧ idb 0 g = true) : Ct p f 0 args σ (Val x) :=
  h.weak fun g σ' n' hq => ⟨id, g, [], 0, ⟨hq.1, rfl, rfl⟩, (ren_id g).symm, trivial, by simp [hq.2, idbH, hids, distB, fixB]⟩
end
end Go.GK
