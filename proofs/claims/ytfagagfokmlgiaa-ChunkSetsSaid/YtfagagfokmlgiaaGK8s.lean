/-
  The ghost machine: a region that draws its order, walked in one order.
-/
import Derived.Test.YtfagagfokmlgiaaGK8r
namespace Go.GK
open Go.RowKit

def eqB : List Nat → List Nat → Bool
  | [], [] => true
  | x :: xs, y :: ys => Nat.beq x y && eqB xs ys
  | _, _ => false

theorem eqB_eq : ∀ {xs ys : List Nat}, eqB xs ys = true → xs = ys
  | [], [], _ => rfl
  | x :: xs, y :: ys, h => by
    simp only [eqB, Bool.and_eq_true] at h
    rw [beq_eq h.1, eqB_eq h.2]
  | [], _ :: _, h => by simp [eqB] at h
  | _ :: _, [], h => by simp [eqB] at h

/-- The order may be walked: what only reads is taken when it may come up; all else is the only one that may. 'e': to the region's end. -/
def ordB (ops : List Oper) (e : Bool) : List (Nat × Bool) → List Bool → Bool
  | [], listed => bif e then (Region.ready .any ops.toArray listed.toArray).isEmpty else true
  | (i, l) :: r, listed => match ops[i]? with
    | some o => (bif isPure o.op && !l then (Region.ready .any ops.toArray listed.toArray).contains i && Region.free .any ops.toArray listed.toArray i else eqB (Region.ready .any ops.toArray listed.toArray) [i]) && ordB ops e r (listed.set i true)
    | none => false

def rvc (cx : Cx) (T : Post) (ops : List Oper) (k : List It) (σs : Heap) (e : Bool) : List (Nat × Bool) → Nat → List Bool → Env → St → Prop
  | [], fuel, listed, ρq, s => bif e then (match s with | ⟨ρ, σ, m⟩ => nfH (σ ++ σs) fun σ => JK cx T k ⟨ρ, σ, m⟩) else RA cx T ops k σs ρq fuel listed s
  | _ :: _, 0, _, _, _ => False
  | (i, l) :: r, fuel + 1, listed, ρq, s => match s with
    | ⟨ρ, σ, m⟩ => match ops[i]? with
      | some o => bif isPure o.op && !l then
          guardVC ops ρq o.guard (fun ρq' => pv cx.pg ρq' σs o.op fun g => nf g fun g => dput cx.N ρ o.dst g fun ρ' => nfE (eput ρq' o.dst g) fun ρq => rvc cx T ops k σs e r fuel (listed.set i true) ρq ⟨ρ', σ, m⟩)
            (fun ρq' => dput cx.N ρ o.dst (.v undef) fun ρ' => nfE (eput ρq' o.dst (.v undef)) fun ρq => rvc cx T ops k σs e r fuel (listed.set i true) ρq ⟨ρ', σ, m⟩)
        else bif gdOk ops ρ o.guard then bif isPure o.op then
          pv cx.pg ρ (σ ++ σs) o.op fun g => nf g fun g => dput cx.N ρ o.dst g fun ρ' => nfE (qput ρq o.dst g) fun ρq => rvc cx T ops k σs e r fuel (listed.set i true) ρq ⟨ρ', σ, m⟩
          else
          goVC cx false ⟨ρ, σ, m⟩ o (fun s' => nfE (qput ρq o.dst (match s'.ρ with | (_, g) :: _ => g | [] => .v undef)) fun ρq => rvc cx T ops k σs e r fuel (listed.set i true) ρq s') (fun _ => False) ρ
        else bif gdNo ops ρ o.guard then dput cx.N ρ o.dst (.v undef) fun ρ' => nfE (eput ρq o.dst (.v undef)) fun ρq => rvc cx T ops k σs e r fuel (listed.set i true) ρq ⟨ρ', σ, m⟩
        else False
      | none => False

section
variable {cx : Cx} {T : Post}

theorem RA.skip {ops : List Oper} {k : List It} {σs : Heap} {ρq : Env} {fuel : Nat} {listed : List Bool} {s : St} (i : Nat) {o : Oper} (hi : ops[i]? = some o) (hr : Region.ready .any ops.toArray listed.toArray = [i]) (hgd : gdNo ops s.ρ o.guard = true)
    (h : dput cx.N s.ρ o.dst (.v undef) fun ρ' => RA cx T ops k σs (eput ρq o.dst (.v undef)) fuel (listed.set i true) { s with ρ := ρ' }) : RA cx T ops k σs ρq (fuel + 1) listed s := by
  intro n0 H0 S0 w0 h0 g0 hσ hap hfree hlink H a w hs ha hq
  refine wpAnyH_all hr (by simp) (fun j hj => ?_)
  have hji : j = i := by simpa using hj
  subst hji
  unfold wpOp
  have hi' : ops.toArray[j]? = some o := by simpa using hi
  rw [hi']
  simp only
  have hw := gdNo_wanted (o := o) ha.env hgd
  rw [if_neg (by simp [hw])]
  have hlt := dput_lt h
  obtain ⟨ρ', ha', hra⟩ := ha.dput (u := undef) (.ro (.v undef)) h
  rw [set_list]
  refine ⟨hs.keeps, hra n0 H0 S0 w0 h0 g0 hσ hap hfree hlink H (a.put o.dst undef) w (hs.ρ ρ') ha' ?_⟩
  exact EnvOk.at_eput hq (fun d hd => by rw [ha.size]; exact hlt d hd) (.ro (.v undef))

theorem RA.run {ops : List Oper} {k : List It} {σs : Heap} {e : Bool} (hp : cx.pg.Ok) (hsel : Region.noSelect ops.toArray = true) (hT : ∀ ch s, ¬ T (.panic ch) s) : ∀ (order : List (Nat × Bool)) {fuel : Nat} {listed : List Bool} {ρq : Env} {s : St}, ordB ops e order listed = true → rvc cx T ops k σs e order fuel listed ρq s → RA cx T ops k σs ρq fuel listed s
  | [], fuel, listed, ρq, s, hB, h => by
    simp only [rvc] at h
    cases e with
    | true =>
      simp only [ordB, cond_true, List.isEmpty_iff] at hB
      simp only [cond_true, nfH_eq] at h
      exact RA.done hB h
    | false => exact h
  | (i, l) :: r, 0, _, _, _, _, h => by simp only [rvc] at h
  | (i, l) :: r, fuel + 1, listed, ρq, s, hB, h => by
    obtain ⟨ρ, σ, m⟩ := s
    simp only [rvc, nfE_eq, nf_eq] at h
    simp only [ordB] at hB
    cases hi : ops[i]? with
    | none => rw [hi] at h; exact h.elim
    | some o =>
      rw [hi] at h hB
      simp only [Bool.and_eq_true] at hB h
      obtain ⟨hB1, hB2⟩ := hB
      have ih : ∀ ρq' s', rvc cx T ops k σs e r fuel (listed.set i true) ρq' s' → RA cx T ops k σs ρq' fuel (listed.set i true) s' := fun ρq' s' h' => RA.run hp hsel hT r hB2 h'
      cases hpu : (isPure o.op && !l) with
      | true =>
        rw [hpu] at h hB1
        simp only [cond_true, Bool.and_eq_true] at h hB1
        exact RA.take i hp hi hsel hB1.2 hB1.1 hT ih h
      | false =>
        rw [hpu] at h hB1
        simp only [cond_false] at h hB1
        cases hgd : gdOk ops ρ o.guard with
        | false =>
          rw [hgd] at h
          cases hgn : gdNo ops ρ o.guard with
          | false => rw [hgn] at h; exact h.elim
          | true =>
            rw [hgn] at h
            refine RA.skip i hi (eqB_eq hB1) hgn ?_
            revert h
            cases o.dst with
            | none => exact fun h => ih _ _ h
            | some d =>
              simp only [dput, cond_true, cond_false]
              cases Nat.blt d cx.N with
              | false => exact fun h => h
              | true => simp only [cond_true, nf_eq]; exact fun h => ih _ _ h
        | true =>
          rw [hgd] at h
          cases hpp : isPure o.op with
          | true =>
            rw [hpp] at h
            exact RA.read i hp hi (eqB_eq hB1) hgd ih h
          | false =>
            rw [hpp] at h
            exact RA.mem i hp hi (eqB_eq hB1) hgd hpp ih h
end
/-- Taken as soon as they may come up; taken as the only ones that may. -/
abbrev tk (l : List Nat) : List (Nat × Bool) := l.map (·, false)
abbrev al (l : List Nat) : List (Nat × Bool) := l.map (·, true)
end Go.GK
