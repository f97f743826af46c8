/-
  The ghost machine: nil slices as own rows and as rows that nobody writes; what is known of lengths.
-/
import Derived.Test.YtfagagfokmlgiaaGK11
namespace Go.GK
open Go.RowKit

section
variable {cx : Cx} {T : Post}

theorem EnvOk.cons {H : Hid} {ρ : Env} {a : Act} (h : EnvOk H ρ a) {t : Nat} {g : GV} (hg : Is H g (a.tmps.getD t undef)) : EnvOk H ((t, g) :: ρ) a := by
  intro x g' hx
  unfold look at hx
  cases hb : Nat.beq t x with
  | true => rw [hb] at hx; have := beq_eq hb; subst this; simp at hx; subst hx; exact hg
  | false => rw [hb] at hx; exact h x g' (by simpa using hx)

/-- A nil slice is an own row without elements. -/
theorem JK.ownNil {k : List It} {s : St} (t ty sz : Nat) (hl : look s.ρ t = some (.v (.slice none 0 0))) (h : nfN (s.n + 1) fun m => JK cx T k ⟨(t, .o s.n) :: s.ρ, (s.n, .row ty sz []) :: s.σ, m⟩) : JK cx T k s := by
  rw [nfN_eq] at h
  refine JK.upd _ (fun H a w hg hs ha => ?_) h
  have hle := H.le_more 0 (.slice none 0 0)
  have hv : a.tmps.getD t undef = .slice none 0 0 := (ha.env t _ hl).inv_v
  have e : (H.more 0 (.slice none 0 0)).sv s.n = .slice none 0 0 := by simp [Hid.more, hs.n]
  refine ⟨H.more 0 (.slice none 0 0), hg.mono hle, hs.grow hle rfl (by simp [Hid.more, hs.n]) (Below.refl _ _) ?_ (by simp [blocks, e, Value.ownBlock]) (by simp [blocks, e, Value.ownBlock]) _, ⟨((ha.mono hle).env).cons ?_, ha.size, ha.defers⟩⟩
  · exact ⟨[], ⟨by simp, .inl ⟨e, rfl⟩⟩, ⟨by simp, by simp, by simp, by simp⟩⟩
  · rw [hv]
    exact .o (by simp [Hid.more, hs.n]) e rfl

/-- A nil slice is one that nobody writes. -/
theorem JK.roNil {k : List It} {s : St} (t sz : Nat) (hl : look s.ρ t = some (.v (.slice none 0 0))) (h : JK cx T k ⟨(t, .sl sz []) :: s.ρ, s.σ, s.n⟩) : JK cx T k s := by
  refine JK.upd _ (fun H a w hg hs ha => ⟨H, hg, hs.ρ _, ⟨ha.env.cons ?_, ha.size, ha.defers⟩⟩) h
  rw [(ha.env t _ hl).inv_v]
  exact .ro .slnil

theorem IsR.sl_len {ro : Nat → Option Obj} {sz : Nat} {rows : List (List GV)} {u : Value} (h : IsR ro (.sl sz rows) u) : rows.length ≤ maxLen ∧ ∀ row ∈ rows, row.length = sz := by
  cases h with
  | slnil => simp
  | sl us h0 hc hm h1 h2 h3 => exact ⟨Nat.le_trans hc hm, h0⟩

theorem JK.len {k : List It} {s : St} (t : Nat) {sz : Nat} {rows : List (List GV)} (hl : look s.ρ t = some (.sl sz rows)) (h : rows.length ≤ maxLen → (∀ row ∈ rows, row.length = sz) → JK cx T k s) : JK cx T k s := fun H a w hg hs ha => by
  have := ha.env t _ hl
  cases this with
  | ro hr => exact h hr.sl_len.1 hr.sl_len.2 H a w hg hs ha

theorem JK.lenOwn {k : List It} {s : St} (id : Nat) {ty sz : Nat} {rows : List (List GV)} (hl : hlook s.σ id = some (.row ty sz rows)) (h : rows.length ≤ maxLen → (∀ row ∈ rows, row.length = sz) → JK cx T k s) : JK cx T k s := fun H a w hg hs ha => by
  obtain ⟨xs, ⟨_, hor⟩, hrow⟩ := hs.sat.holds _ (hlook_mem hl)
  refine h ?_ hrow.each H a w hg hs ha
  rcases hor with ⟨_, hn⟩ | ⟨g, cap, cur, _, _, _, hcap, hmax, _⟩
  · rw [hn]; simp
  · exact Nat.le_trans hcap hmax

/-- The same of arguments. -/
theorem Ct.len {p : Pg} {f : FuncId} {n0 : Nat} {args : List GV} {σ : Heap} {Q : GV → Heap → Nat → Prop} (j : Nat) {sz : Nat} {rows : List (List GV)} (hj : args[j]? = some (.sl sz rows)) (h : rows.length ≤ maxLen → (∀ row ∈ rows, row.length = sz) → Ct p f n0 args σ Q) : Ct p f n0 args σ Q := fun H us w hn hg hc hs => by
  have := hc.2 j _ hj
  cases this with
  | ro hr => exact h hr.sl_len.1 hr.sl_len.2 H us w hn hg hc hs

/-- A bool is handed back. -/
theorem Ct.bool {p : Pg} {f : FuncId} {args : List GV} {σ : Heap} {c : Bool} (h : Ct p f 0 args σ fun g _ _ => g = .v (.bool c) ∨ g = .b c) : Ct p f 0 args σ (Val fun g => g = .b c) := fun H us w hn hg hc hs => by
  refine Calls.mono (h H us w hn hg hc hs) (fun e w' he => ?_)
  obtain ⟨u, g, H', σ', rfl, hi, hs', hfr, hq⟩ := he
  have hu : u = .bool c := by
    rcases hq with rfl | rfl
    · exact hi.inv_v
    · exact hi.inv_b
  subst hu
  have hpart := hs'.part (f := id) (n := 0) (τ := []) trivial rfl rfl
  refine ⟨_, .b c, H'.via id 0, [], rfl, .ro (.b c), hpart.1, ⟨hfr.os, hfr.tape, hfr.output, hfr.size, hfr.keep, by simp [blks], hfr.fro, ⟨by rw [hn]; exact Nat.le_refl _, hfr.le.ro, fun i hi => by omega, fun i hi => by omega⟩⟩, rfl, rfl, rfl⟩
end
end Go.GK
