/-
  The ghost machine: loops with a stated end.
-/
import Derived.Test.YtfagagfokmlgiaaGK14
namespace Go.GK
open Go.RowKit

section
variable {cx : Cx} {T : Post}

/-- What a round of a loop comes to, where what holds behind the loop is stated: 'E'. -/
def roundE {α β : Type} (cx : Cx) (T : Post) (k : List It) (id : Nat) (I : α → St) (pre : α → Prop) (m : α → Nat) (E : β → St) (q : β → Prop) (x : α) : Post := fun e s =>
  match e with
  | .normal => ∃ (y : α) (f : Nat → Nat), Le cx.n0 f (I y) s ∧ pre y ∧ m y < m x
  | .exit j => bif Nat.beq j id then ∃ (y : β) (f : Nat → Nat), Le cx.n0 f (E y) s ∧ q y else outT cx T k (.exit j) s
  | e => outT cx T k e s

/-- A LOOP with a stated end: all ways out of it by its own block come to 'E'. -/
theorem JK.loopE {α β : Type} {c : Code} {id : Nat} {k : List It} {s : St} (I : α → St) (pre : α → Prop) (m : α → Nat) (E : β → St) (q : β → Prop) (x0 : α) (f0 : Nat → Nat) (h0 : Le cx.n0 f0 (I x0) s) (hp : pre x0)
    (body : ∀ x, pre x → JK cx (roundE cx T (.blk id :: k) id I pre m E q x) [.code c] (I x)) (hE : ∀ y, q y → JK cx T k (E y)) : JK cx T (.code (.loop c) :: .blk id :: k) s := by
  intro H a w hg hs ha
  obtain ⟨H1, hg1, hs1, ha1⟩ := GK.weaken hg hs ha h0
  refine wp_loop_ghost (fun n a w => ∃ H x, GlOk cx.pg H ∧ Sim cx H (I x) w ∧ ActOk cx H (I x).ρ a ∧ pre x ∧ m x = n) (m x0) ⟨H1, x0, hg1, hs1, ha1, hp, rfl⟩ ?_
  rintro n a w ⟨H, x, hg, hs, ha, hpx, rfl⟩
  have hb := body x hpx H a w hg hs ha
  have hgx : ∀ {H' : Hid}, Hid.le cx.H0 H' → GlOk cx.pg H' := fun hle => cx.g0.mono hle
  refine Code.wp_mono (fun e a' w' hq => ?_) hb
  obtain ⟨H', s', hs', ha', hT⟩ := hq
  cases e with
  | normal =>
    obtain ⟨y, f, hl, hpy, hm⟩ := hT
    obtain ⟨H2, hg2, hs2, ha2⟩ := GK.weaken (hgx hs'.fr.le) hs' ha' hl
    exact ⟨m y, hm, H2, y, hg2, hs2, ha2, hpy, rfl⟩
  | exit j =>
    simp only [roundE] at hT
    cases hj : Nat.beq j id with
    | false =>
      rw [hj] at hT
      exact cont_out (hgx hs'.fr.le) hs' ha' hT
    | true =>
      rw [hj] at hT
      have := beq_eq hj
      subst this
      obtain ⟨y, f, hl, hy⟩ := hT
      obtain ⟨H2, hg2, hs2, ha2⟩ := GK.weaken (hgx hs'.fr.le) hs' ha' hl
      show cont _ _ (.blk j :: k) (.exit j) a' w'
      simp only [cont, if_true]
      exact hE y hy H2 a' w' hg2 hs2 ha2
  | goto l => exact cont_out (hgx hs'.fr.le) hs' ha' hT
  | ret => exact cont_out (hgx hs'.fr.le) hs' ha' hT
  | panic ch => exact cont_out (hgx hs'.fr.le) hs' ha' hT
  | outgrown => exact cont_out (hgx hs'.fr.le) hs' ha' hT

/-- Where ways meet: what is left is proved once, from 'E' on. -/
theorem JK.meet {β : Type} {k : List It} {s : St} (E : β → St) (q : β → Prop) (hE : ∀ y, q y → JK cx T k (E y)) (h : ∃ (y : β) (f : Nat → Nat), Le cx.n0 f (E y) s ∧ q y) : JK cx T k s := by
  obtain ⟨y, f, hl, hy⟩ := h
  exact (hE y hy).weaken f (E y) hl
end
end Go.GK
