/-
  The ghost machine: contracts of calls that only hand back a value and leave all that was as it was.
-/
import Derived.Test.YtfagagfokmlgiaaGK16
namespace Go.GK
open Go.RowKit

section
variable {p : Pg}

theorem cells_vals {H : Hid} {vs : List Value} {us : Array Value} (h : Cells H (vs.map .v) us) : us = vs.toArray := by
  obtain ⟨hl, hi⟩ := h
  refine Array.ext (by simpa using hl.symm) (fun i h1 h2 => ?_)
  have h2' : i < vs.length := by simpa using h2
  have := (hi i (.v vs[i]) (by simp [h2'])).inv_v
  rw [Array.getD, dif_pos h1] at this
  simpa using this

theorem Fr.of_below {H : Hid} {w w' : World} (hb : Below w.heap.size w w') : Fr H [] w H [] w' :=
  ⟨hb.os, hb.tape, hb.output, hb.size, fun b h _ => hb.block b h, fun _ h => (List.not_mem_nil h).elim, fun _ h1 h2 => (h2 h1).elim, Hid.le.refl H⟩

theorem Ct.of_below {f : FuncId} (vs : List Value) (g : Value) (h : ∀ w, Calls p.P f vs.toArray w fun e w' => e = .returned g ∧ Below w.heap.size w w') : Ct p f 0 (vs.map .v) [] (Val fun x => x = .v g) := by
  intro H us w hn hg hc hs
  rw [cells_vals hc]
  refine Calls.mono (h w) (fun e w' he => ?_)
  obtain ⟨rfl, hb⟩ := he
  exact ⟨g, .v g, H, [], rfl, .ro (.v g), hs.below hb, Fr.of_below hb, rfl, rfl, hn⟩
end
end Go.GK
