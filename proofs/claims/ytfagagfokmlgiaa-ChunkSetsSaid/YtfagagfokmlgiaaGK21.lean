/-
  The ghost machine: contracts of library functions that are given values and a slice of values.
-/
import Derived.Test.YtfagagfokmlgiaaGK20
namespace Go.GK
open Go.RowKit
section
variable {p : Pg}

theorem Rt.calls {f : FuncId} (hc : ∀ a w, (callFunc f a).run p.P w = .ok (.enter f a) w) (vs : List Value) (g : Value) (h : ∀ w, Calls p.P f vs.toArray w fun e w' => e = .returned g ∧ Below w.heap.size w w') : Rt p f (vs.map .v) (.v g) :=
  ⟨hc, fun H us w hn hg hcs hs => (Ct.of_below vs g h H us w hn hg hcs hs).mono fun _ _ ⟨u, g', H', σ', e', hi', hs', hfr, hv, r⟩ => ⟨u, g', H', σ', e', hi', hs', hfr, ⟨hv, by rw [hv]; rfl⟩, r⟩⟩

/-- What a slice of values is in a world. -/
structure SlAt (w : World) (A : Option Addr) (c : Nat) (xs : List Value) : Prop where
  cap : xs.length ≤ c
  max : c ≤ maxLen
  at_ : xs = [] ∨ ∃ b o, A = some ⟨b, o, none⟩ ∧ b < w.heap.size ∧ ∀ (j : Nat) (x : Value), xs[j]? = some x → w.cell? ⟨b, o + j, none⟩ = some x

theorem SlAt.of {ro : Nat → Option Obj} {w : World} (hro : ∀ b o, ro b = some o → w.heap[b]? = some o) {xs : List Value} {u : Value} (h : IsR ro (.sl 1 (xs.map fun x => [.v x])) u) : ∃ A c, u = .slice A xs.length c ∧ SlAt w A c xs := by
  obtain ⟨A, c, us, rfl, hlc, hcm, _, hne⟩ := h.inv_sl
  simp only [List.length_map] at hlc ⊢
  refine ⟨A, c, rfl, ⟨hlc, hcm, ?_⟩⟩
  cases xs with
  | nil => exact .inl rfl
  | cons x0 r =>
    obtain ⟨⟨b, o, sp⟩, rfl, h1, h2, _⟩ := hne (by simp)
    refine .inr ?_
    have h00 := h1 0 [.v x0] rfl 0 (.v x0) rfl
    have hsp : sp = none := by
      have : ({ block := b, off := o, spot := sp } : Addr).add (0 * 1 + 0) = ⟨b, o, sp⟩ := by simp [Addr.add]
      rw [this] at h00
      unfold roCell at h00
      split at h00
      · split at h00
        · cases h00
        · rename_i hs; simpa using hs
      · cases h00
    subst hsp
    have hcell := roCell_cell hro h00
    refine ⟨b, o, rfl, ?_, fun j x hj => ?_⟩
    · have := World.block_lt_of_cell? w _ hcell
      rwa [addr_add_block] at this
    · have hr : ((x0 :: r).map fun x => [GV.v x])[j]? = some [.v x] := by rw [List.getElem?_map, hj]; rfl
      have e1 := roCell_cell hro (h1 j [.v x] hr 0 (.v x) rfl)
      have e2 := h2 j [.v x] hr 0 (.v x) rfl
      cases e2
      rw [addr_add_none] at e1
      simpa using e1

theorem Rt.slice {f : FuncId} (hc : ∀ a w, (callFunc f a).run p.P w = .ok (.enter f a) w) (xs vs : List Value) (g : Value) (h : ∀ (A : Option Addr) (c : Nat) (w : World), SlAt w A c xs → Calls p.P f (#[.slice A xs.length c] ++ vs.toArray) w fun e w' => e = .returned g ∧ Below w.heap.size w w') :
    Rt p f (.sl 1 (xs.map fun x => [.v x]) :: vs.map .v) (.v g) := by
  refine ⟨hc, fun H us w hn hg hcs hs => ?_⟩
  obtain ⟨hl, hi⟩ := hcs
  have h0 : us.size = vs.length + 1 := by rw [← hl]; simp
  obtain ⟨A, c, hu0, hat⟩ := SlAt.of hs.ro (hi 0 _ rfl).inv_sl
  have hus : us = #[.slice A xs.length c] ++ vs.toArray := by
    apply Array.ext_getElem?
    intro i
    cases i with
    | zero =>
      have : us[0]? = some (us.getD 0 undef) := by simp [Array.getD, h0]
      rw [this, hu0]
      simp
    | succ i =>
      by_cases hlt : i < vs.length
      · have h1 := (hi (i + 1) (.v vs[i]) (by simp [hlt])).inv_v
        have : us[i + 1]? = some (us.getD (i + 1) undef) := by simp [Array.getD, h0, hlt]
        rw [this, h1]
        simp [hlt]
      · rw [Array.getElem?_eq_none (by omega), Array.getElem?_eq_none (by simp; omega)]
  rw [hus]
  refine (h A c w hat).mono ?_
  rintro e w' ⟨rfl, hb⟩
  exact ⟨g, .v g, H, [], rfl, .ro (.v g), hs.below hb, Fr.below (Fr.refl _ _ _) hb, ⟨rfl, rfl⟩, rfl, hn⟩
end
end Go.GK
