/-
  The ghost machine: a call to which own slices are lent, within a region that draws its order.
-/
import Derived.Test.YtfagagfokmlgiaaGK22
namespace Go.GK
open Go.RowKit
section
variable {cx : Cx} {T : Post}

theorem call_wpB {o : Oper} {s : St} {fo : Operand} {args : Array Operand} {ts : Array TypeId} {f : FuncId} {first caps gs : List GV} {cargs : List GV} {Q : GV → Heap → Nat → Prop}
    (hct : Ct cx.pg f 0 cargs [] Q) (hcall : ∀ as w, (callFunc f as).run cx.pg.P w = .ok (.enter f as) w)
    (ho : o.op = .call { callee := .value fo, args := args, argTypes := ts }) {ρ : Env} (hf : ev cx.pg ρ fo = some (.fn (.func f) first caps)) (he : evs cx.pg ρ args.toList = some gs) {σ0 : Heap}
    (hl : lents σ0 (first ++ gs ++ caps) cargs) (hQ : ∀ g σ' n', Q g σ' n' → (idb 0 g && roFree g) = true)
    {H : Hid} {a : Act} {w : World} (hg : GlOk cx.pg H) (hs : Sim cx H s w) (hsat : Sat H σ0 w) (ha : EnvOk H ρ a) {K : Act → World → Prop} {Q' : Exit → Act → World → Prop}
    (hK : ∀ (u : Value) (g : GV) (w' : World) (σ' : Heap) (n' : Nat), Is H g u → Q g σ' n' → Sim cx H s w' → K (a.put o.dst u) w') : o.wp cx.pg.P a w K Q' := by
  obtain ⟨us, hc, hex⟩ := execOp_call (ts := ts) hg ha hf he hcall
  let Hb : Hid := ⟨fun b => w.heap[b]?, fun _ => 0, fun _ => .bool false, 0⟩
  obtain ⟨hlen, hlent⟩ := lents_spec hl
  have hcb : Cells Hb cargs us := ⟨by rw [← hlen]; exact hc.1, fun j c hj => by
    obtain ⟨g, hgj, hl⟩ := hlent j c hj
    exact lent_is hsat (fun _ => rfl) hl (hc.2 j g hgj)⟩
  have hgb : GlOk cx.pg Hb := fun g gv hgv => (hg g gv hgv).mono (fun b o hb => hs.sat.ro b o hb)
  unfold Oper.wp
  rw [hex o ho w, Oper.upon_enter]
  refine (hct Hb us w rfl hgb hcb ⟨fun b o h => h, by simp, by simp [blks], by simp [blks], by simp⟩).mono ?_
  rintro e w' ⟨u, g, H', σ', rfl, hi, hs', hfr, hq⟩
  have hbel : Below w.heap.size w w' := ⟨hfr.os, hfr.tape, hfr.output, hfr.size, fun b hb => hfr.keep b hb (by simp [blks])⟩
  have hchk := hQ g σ' _ hq
  simp only [Bool.and_eq_true] at hchk
  exact hK u g w' σ' _ (hi.free hchk.1 hchk.2) hq (hs.below hbel)

theorem RA.goB {ops : List Oper} {k : List It} {σs : Heap} {ρq : Env} {fuel : Nat} {listed : List Bool} {s : St} (i : Nat) (order : List (Nat × Bool)) (e : Bool) {o : Oper} {f : FuncId} {cargs gs : List GV} {G : GV} (hp : cx.pg.Ok) (hsel : Region.noSelect ops.toArray = true) (hT : ∀ ch s, ¬ T (.panic ch) s) (hr : Rt cx.pg f cargs G) (hi : ops[i]? = some o) (hk : callG cx.pg ops s.ρ o = some (f, gs)) (hl : lents (s.σ ++ σs) gs cargs) (hfree : roFree G = true)
    (hB : (eqB (Region.ready .any ops.toArray listed.toArray) [i] && ordB ops e order (listed.set i true)) = true)
    (h : dputV cx.N s.ρ o.dst G fun ρ' => nfE (qput ρq o.dst G) fun ρq => rvc cx T ops k σs e order fuel (listed.set i true) ρq ⟨ρ', s.σ, s.n⟩) : RA cx T ops k σs ρq (fuel + 1) listed s := by
  obtain ⟨fo, args, ts, first, caps, gs', ho', hgd, hf, he, hargs⟩ := callG_spec hk
  simp only [Bool.and_eq_true] at hB
  refine RA.only_of i hi (eqB_eq hB.1) hgd fun m0 H0 S0 w0 h0 g0 H a w K Q' hg hs ha hsat hK => ?_
  refine call_wpB (cx := ⟨cx.pg, cx.N, m0, H0, S0, w0, h0, g0⟩) hr.ct hr.call ho' hf he (σ0 := s.σ ++ σs) (by rw [hargs]; exact hl) (fun g σ' n' hq => ?_) hg hs hsat ha.env fun u g w' σ' n' hiu hq hsim => ?_
  · obtain ⟨⟨rfl, h1⟩, _, _⟩ := hq
    simp [h1, hfree]
  · obtain ⟨⟨rfl, _⟩, _, _⟩ := hq
    simp only [nfE_eq] at h
    rw [dputV_eq] at h
    have hlt := dput_lt h
    obtain ⟨ρ', ha', hra⟩ := ha.dput hiu h
    exact hK H u g w' s ρ' (Hid.le.refl H) hiu (hsim.ρ ρ') ha' hlt (RA.run hp hsel hT order hB.2 hra)
end
end Go.GK
