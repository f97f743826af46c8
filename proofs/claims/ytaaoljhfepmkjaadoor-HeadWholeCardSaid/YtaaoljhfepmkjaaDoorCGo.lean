/-
  Rules: calls that have own things, what stands behind them not told as conditions yet; so many steps; a map's lookup.
-/
import Derived.Test.YtaaoljhfepmkjaaDoorCPg
import Derived.Test.YtaaoljhfepmkjaaDoorGKh
namespace Go.Proofs.YtaaoljhfepmkjaaDoor
open Go.GK Go.RowKit
section
variable {N n0 : Nat} {H0 : Hid} {S0 : List Nat} {w0 : World} {h0 : H0.n = n0} {g0 : GlOk pg H0} {T : Post} {k : List It} {s : St}
/-- A call with own things; what comes behind it is not told as conditions yet. -/
theorem GOJ {all : List Oper} {o : Oper} {rest : List Oper} {f : FuncId} {m : Nat} {cargs gs : List GV} {σc : Heap} {Q : GV → Heap → Nat → Prop} (hr : Hf pg f m cargs σc Q) (r : Nat → Nat) (hk : callG pg all s.ρ o = some (f, gs)) (hargs : gs = renL r cargs) (hσ : leσ r σc s.σ)
    (chk : (idbL m cargs && idbH m σc && distB (hids r σc)) = true) (hrn : ∀ i, i < m → r i < s.n)
    (h : ∀ g σ' n', Q g σ' n' → nf (ren (sh r m s.n) g) fun g => nfH (renH (sh r m s.n) σ' ++ hrest (hids r σc) s.σ) fun σ => nfN (s.n + (n' - m)) fun n => dputV N s.ρ o.dst g fun ρ' => JK ⟨pg, N, n0, H0, S0, w0, h0, g0⟩ T (.ops false all rest :: k) ⟨ρ', σ, n⟩) :
    JK ⟨pg, N, n0, H0, S0, w0, h0, g0⟩ T (.ops false all (o :: rest) :: k) s := by
  obtain ⟨fo, args, ts, first, caps, gs', ho, hgd, hf, he, hargs'⟩ := callG_spec hk
  refine JK.call hr.ct hr.call r ho hgd hf he (hargs'.trans hargs) hσ chk hrn (fun g σ' n' hq => ?_)
  have := h g σ' n' hq
  simp only [dputV_eq] at this
  exact this
/-- So many steps. -/
theorem VM (n : Nat) (h : vc ⟨pg, N, n0, H0, S0, w0, h0, g0⟩ T n k s) : JK ⟨pg, N, n0, H0, S0, w0, h0, g0⟩ T k s := vc_sound pg_ok n k s h
end
/-- A call that has own things, in a region that draws. -/
theorem RGOH {N n0 : Nat} {H0 : Hid} {S0 : List Nat} {w0 : World} {h0 : H0.n = n0} {g0 : GlOk pg H0} {T : Post} {k : List It} {s : St} {ops : List Oper} {σs : Heap} {ρq : Env} {fuel : Nat} {listed : List Bool} (i : Nat) (e : Bool) (order : List (Nat × Bool)) {o : Oper} {f : FuncId} {m : Nat} {cargs gs : List GV} {σc : Heap} {Q : GV → Heap → Nat → Prop} (hr : Hf pg f m cargs σc Q) (r : Nat → Nat) (hi : ops[i]? = some o) (hk : callG pg ops s.ρ o = some (f, gs)) (hargs : gs = renL r cargs) (hσ : leσ r σc s.σ)
    (chk : (idbL m cargs && idbH m σc && distB (hids r σc)) = true) (hrn : ∀ i, i < m → r i < s.n)
    (hB : (Region.noSelect ops.toArray && eqB (Region.ready .any ops.toArray listed.toArray) [i] && ordB ops e order (listed.set i true)) = true)
    (h : ∀ g σ' n', Q g σ' n' → nf (ren (sh r m s.n) g) fun g => nfH (renH (sh r m s.n) σ' ++ hrest (hids r σc) s.σ) fun σ => nfN (s.n + (n' - m)) fun n => nfE (qput ρq o.dst g) fun ρq => dputV N s.ρ o.dst g fun ρ' => rvc ⟨pg, N, n0, H0, S0, w0, h0, g0⟩ T ops k σs e order fuel (listed.set i true) ρq ⟨ρ', σ, n⟩) (hT : ∀ ch s, ¬ T (.panic ch) s := by intro _ _ h; exact h) : RA ⟨pg, N, n0, H0, S0, w0, h0, g0⟩ T ops k σs ρq (fuel + 1) listed s := by
  simp only [Bool.and_eq_true] at hB
  exact RA.goH i order e pg_ok hB.1.1 hT hr r hi hk hargs hσ chk hrn (by simp only [hB.1.2, hB.2, Bool.and_self]) h
/-- A function of values, as one that may have own things. -/
theorem _root_.Go.GK.Rq.hf {f : FuncId} {args : List GV} {G : GV} (h : Rt pg f args G) : Hf pg f 0 args [] (fun g σ n => g = G ∧ σ = [] ∧ n = 0) :=
  ⟨h.call, fun H us w hn hg hcs hs => (h.ct H us w hn hg hcs hs).mono fun _ _ ⟨u, g, H', σ', e, hi, hs', hfr, ⟨hq, _⟩, h1, h2⟩ => ⟨u, g, H', σ', e, hi, hs', hfr, hq, h1, h2⟩⟩
theorem lkS {K1 : GV → Prop} {K2 : Prop} {es : List (Value × GV)} {k : Value} {x : GV} (h : mfind k es = some x) (h1 : K1 x) : (∀ g, mfind k es = some g → K1 g) ∧ (mfind k es = none → K2) := ⟨fun g hg => by rw [h] at hg; cases hg; exact h1, fun hg => by rw [h] at hg; cases hg⟩
theorem lkN {K1 : GV → Prop} {K2 : Prop} {es : List (Value × GV)} {k : Value} (h : mfind k es = none) (h2 : K2) : (∀ g, mfind k es = some g → K1 g) ∧ (mfind k es = none → K2) := ⟨fun g hg => (by rw [h] at hg; cases hg), fun _ => h2⟩
theorem r1_lt {b n : Nat} (h : Nat.blt b n = true) : ∀ i, i < 1 → r1 0 b i < n := fun i hi => by
  obtain rfl : i = 0 := by omega
  rw [Nat.blt_eq] at h
  exact h
theorem id_lt {a n : Nat} (h : Nat.ble a n = true) : ∀ i, i < a → id i < n := fun _ hi => Nat.lt_of_lt_of_le hi (Nat.le_of_ble_eq_true h)
end Go.Proofs.YtaaoljhfepmkjaaDoor
