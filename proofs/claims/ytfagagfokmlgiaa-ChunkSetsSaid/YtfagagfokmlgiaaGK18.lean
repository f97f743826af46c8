/-
  The ghost machine: a contract of a call that sets one cell of an own block, told by its world.
-/
import Derived.Test.YtfagagfokmlgiaaGK17
namespace Go.GK
open Go.RowKit

section
variable {p : Pg}

/-- A package-level variable's one cell. -/
theorem GlOk.cell {H : Hid} {σ : Heap} {w : World} (hg : GlOk p H) (hs : Sat H σ w) {g : Nat} {x : Value} (h : look p.gl g = some (.r [.v x])) : w.cell? ⟨g, 0, none⟩ = some x := by
  have h1 := hg g _ h
  cases h1 with
  | r us h1 h2 =>
    have e := h1 0 (.v x) rfl
    have e2 := h2 0 (.v x) rfl
    cases e2
    rw [show (⟨g, 0, none⟩ : Addr).add 0 = ⟨g, 0, none⟩ from rfl] at e
    rw [roCell_cell hs.ro e]

theorem Ct.set1 {f : FuncId} {t1 t2 ty : TypeId} (m old x r : Value) {G : World → Prop} (hG : ∀ (H : Hid) (σ : Heap) (w : World), GlOk p H → Sat H σ w → G w)
    (h : ∀ t w, G w → w.cell? t = some old → w.frozen? t = false → Calls p.P f #[.iface t1 m, .iface t2 (.pointer (some t))] w fun e w' => e = .returned r ∧ ∃ w5, Below w.heap.size w w5 ∧ w' = w5.setCell t x) :
    Ct p f 1 [.ifc t1 (.v m), .ifc t2 (.p 0 0)] [(0, .blk ty [.v old])] (fun g σ n => g = .v r ∧ σ = [(0, .blk ty [.v x])] ∧ n = 1) := by
  intro H us w hn hg hc hs
  obtain ⟨hl, hi⟩ := hc
  have hu : us = #[.iface t1 m, .iface t2 (.pointer (some ⟨H.bl 0, 0, none⟩))] := by
    have h0 := hi 0 _ rfl
    have h1 := hi 1 _ rfl
    obtain ⟨u0, e0, i0⟩ := h0.inv_ifc
    obtain ⟨u1, e1, i1⟩ := h1.inv_ifc
    have e2 := i0.inv_v
    have e3 := i1.inv_p
    refine Array.ext (by simpa using hl.symm) (fun i h1 h2 => ?_)
    have h2' : i < 2 := by simpa using h2
    have eg : ∀ j (hj : j < us.size), us.getD j undef = us[j] := fun j hj => by rw [Array.getD, dif_pos hj]; rfl
    match i, h2' with
    | 0, _ => rw [← eg 0 h1, e0, e2]; rfl
    | 1, _ => rw [← eg 1 h1, e1, e3.1]; rfl
  subst hu
  have hb := hs.holds (0, .blk ty [.v old]) (by simp)
  obtain ⟨cs, hh, hl2, hi2⟩ := hb
  have hcs : cs = #[old] := by
    have := cells_vals (vs := [old]) (us := cs) ⟨hl2, hi2⟩
    simpa using this
  subst hcs
  have hid : (0 : Nat) < H.n := hs.ids (0, .blk ty [.v old]) (by simp)
  refine Calls.mono (h ⟨H.bl 0, 0, none⟩ w (hG H _ w hg hs) (by unfold World.cell?; rw [hh]; rfl) (by unfold World.frozen?; rw [hh]; rfl)) (fun e w' he => ?_)
  obtain ⟨rfl, w5, hb5, rfl⟩ := he
  have hs5 := hs.below hb5
  have hlt : H.bl 0 < w.heap.size := (Array.getElem?_eq_some_iff.1 hh).1
  have hh5 : w5.heap[H.bl 0]? = some (.cells #[old] ty (0, 0)) := by rw [hb5.block _ hlt]; exact hh
  have hset : (w5.setCell ⟨H.bl 0, 0, none⟩ x).heap[H.bl 0]? = some (.cells #[x] ty (0, 0)) := by
    simp only [World.setCell, Array.getElem?_modify, if_true, hh5]
    rfl
  have hoth : ∀ b, b ≠ H.bl 0 → (w5.setCell ⟨H.bl 0, 0, none⟩ x).heap[b]? = w5.heap[b]? := fun b hb => Below.heap_setCell _ _ _ _ hb
  refine ⟨r, .v r, H, [(0, .blk ty [.v x])], rfl, .ro (.v r), ⟨fun b o hr => ?_, ?_, by simp [blks, blocks], ?_, by simpa using hid⟩, ?_, rfl, rfl, hn⟩
  · rw [hoth b (fun e => ?_)]
    · exact hs5.ro b o hr
    · have := hs.free (H.bl 0) (by simp [blks, blocks])
      rw [← e, hr] at this
      cases this
  · intro y hy
    simp only [List.mem_singleton] at hy
    subst hy
    refine ⟨#[x], hset, rfl, fun j g hj => ?_⟩
    cases j with
    | zero => simp at hj; subst hj; exact .ro (.v x)
    | succ j => simp at hj
  · intro b hb
    exact hs.free b (by simpa [blks, blocks] using hb)
  · refine ⟨hb5.os, hb5.tape, hb5.output, ?_, fun b h1 h2 => ?_, fun b hb => .inl (by simpa [blks, blocks] using hb), fun b h1 h2 => (h2 h1).elim, Hid.le.refl H⟩
    · have := hb5.size
      simpa [World.setCell] using this
    · rw [hoth b (fun e => h2 (by simp [blks, blocks, e]))]
      exact hb5.block b h1
end
end Go.GK
