/-
  The ghost machine: functions that hand back a value, calls of them in one step, the end of a range over a map.
-/
import Derived.Test.YtihakhdinkkdmaaGreatDoorK05
import Derived.Test.YtihakhdinkkdmaaGreatDoorProg
import Derived.KernelRfl
import Derived.Lib.Bytealg
import Derived.Laws.Strings
import Derived.Shelf.Strings.OnBuilder
import Derived.Shelf.Strings.Trim
import Derived.Shelf.Small.Strs
import Derived.Shelf.LaysM
import Derived.Shelf.LaysC
import Derived.Shelf.Strings.SlTrimAscii
import Derived.Shelf.Strings.Prefix
import Derived.Lib.SlTrimSet
namespace Go.GK
open Go.RowKit

mutual
def eqG : GV → GV → Prop
  | .b c, .v (.bool d) => d = c
  | .b c, .b d => d = c
  | .v (.bool c), .b d => d = c
  | .tup xs, .tup ys => eqGs xs ys
  | x, y => y = x
def eqGs : List GV → List GV → Prop
  | [], [] => True
  | x :: xs, y :: ys => eqG x y ∧ eqGs xs ys
  | _, _ => False
end

mutual
theorem eqG_is {H : Hid} : ∀ {x y : GV} {u : Value}, eqG x y → Is H y u → Is H x u
  | .tup xs, .tup ys, u, h, hi => by
    simp only [eqG] at h
    obtain ⟨us, rfl, hl, hi⟩ := hi.inv_tup
    obtain ⟨h1, h2⟩ := eqGs_is xs ys h hi
    exact .tup (by rw [h1]; exact hl) h2
  | .b c, y, u, h, hi => by
    cases y with
    | v x =>
      cases x with
      | bool d => simp only [eqG] at h; subst h; have := hi.inv_v; subst this; exact .ro (.b _)
      | _ => simp only [eqG] at h; cases h
    | b d => simp only [eqG] at h; subst h; exact hi
    | _ => simp only [eqG] at h; cases h
  | .v x, y, u, h, hi => by
    cases x with
    | bool c =>
      cases y with
      | b d => simp only [eqG] at h; subst h; have := hi.inv_b; subst this; exact .ro (.v _)
      | v z => simp only [eqG] at h; rw [← h]; exact hi
      | _ => simp only [eqG] at h; cases h
    | _ => simp only [eqG] at h; rw [← h]; exact hi
  | .tup xs, .v _, _, h, hi | .tup xs, .b _, _, h, hi | .tup xs, .p _ _, _, h, hi | .tup xs, .e _ _ _ _, _, h, hi | .tup xs, .o _, _, h, hi | .tup xs, .r _, _, h, hi | .tup xs, .sl _ _, _, h, hi | .tup xs, .agg _, _, h, hi | .tup xs, .fn _ _ _, _, h, hi | .tup xs, .ifc _ _, _, h, hi => by simp only [eqG] at h; cases h
  | .p _ _, y, _, h, hi | .e _ _ _ _, y, _, h, hi | .o _, y, _, h, hi | .r _, y, _, h, hi | .sl _ _, y, _, h, hi | .agg _, y, _, h, hi | .fn _ _ _, y, _, h, hi | .ifc _ _, y, _, h, hi => by simp only [eqG] at h; rw [← h]; exact hi
theorem eqGs_is {H : Hid} {F : Nat → Value} : ∀ (xs ys : List GV), eqGs xs ys → (∀ (j : Nat) (g : GV), ys[j]? = some g → Is H g (F j)) → xs.length = ys.length ∧ ∀ (j : Nat) (g : GV), xs[j]? = some g → Is H g (F j)
  | [], [], _, _ => ⟨rfl, fun j g hj => by simp at hj⟩
  | x :: xs, y :: ys, h, hi => by
    simp only [eqGs] at h
    obtain ⟨h1, h2⟩ := eqGs_is (F := fun j => F (j + 1)) xs ys h.2 (fun j g hj => hi (j + 1) g (by simpa using hj))
    refine ⟨by simp [h1], fun j g hj => ?_⟩
    cases j with
    | zero => simp at hj; subst hj; exact eqG_is h.1 (hi 0 y rfl)
    | succ j => exact h2 j g (by simpa using hj)
  | [], _ :: _, h, _ => by simp [eqGs] at h
  | _ :: _, [], h, _ => by simp [eqGs] at h
end

mutual
theorem eqG_idb : ∀ {x y : GV}, eqG x y → idb 0 y = true → idb 0 x = true
  | .tup xs, .tup ys, h, hi => by
    simp only [eqG] at h
    simp only [idb] at hi ⊢
    exact eqGs_idb xs ys h hi
  | .b c, y, _, _ => rfl
  | .v x, y, _, _ => rfl
  | .tup xs, .v _, h, hi | .tup xs, .b _, h, hi | .tup xs, .p _ _, h, hi | .tup xs, .e _ _ _ _, h, hi | .tup xs, .o _, h, hi | .tup xs, .r _, h, hi | .tup xs, .sl _ _, h, hi | .tup xs, .agg _, h, hi | .tup xs, .fn _ _ _, h, hi | .tup xs, .ifc _ _, h, hi => by simp only [eqG] at h; cases h
  | .p _ _, y, h, hi | .e _ _ _ _, y, h, hi | .o _, y, h, hi | .r _, y, h, hi | .sl _ _, y, h, hi | .agg _, y, h, hi | .fn _ _ _, y, h, hi | .ifc _ _, y, h, hi => by simp only [eqG] at h; rw [← h]; exact hi
theorem eqGs_idb : ∀ (xs ys : List GV), eqGs xs ys → idbL 0 ys = true → idbL 0 xs = true
  | [], [], _, _ => rfl
  | x :: xs, y :: ys, h, hi => by
    simp only [eqGs] at h
    simp only [idbL, Bool.and_eq_true] at hi ⊢
    exact ⟨eqG_idb h.1 hi.1, eqGs_idb xs ys h.2 hi.2⟩
  | [], _ :: _, h, _ => by simp [eqGs] at h
  | _ :: _, [], h, _ => by simp [eqGs] at h
end

mutual
theorem ren_none (f : Nat → Nat) : ∀ {g : GV}, idb 0 g = true → ren f g = g
  | .v _, _ | .b _, _ | .r _, _ | .sl _ _, _ => rfl
  | .p _ _, h | .e _ _ _ _, h | .o _, h => by simp [idb] at h
  | .agg cs, h => by simp only [idb] at h; simp only [ren, renL_none f cs h]
  | .tup cs, h => by simp only [idb] at h; simp only [ren, renL_none f cs h]
  | .fn g aas cs, h => by simp only [idb, Bool.and_eq_true] at h; simp only [ren, renL_none f aas h.1, renL_none f cs h.2]
  | .ifc t x, h => by simp only [idb] at h; simp only [ren, ren_none f h]
theorem renL_none (f : Nat → Nat) : ∀ (l : List GV), idbL 0 l = true → renL f l = l
  | [], _ => rfl
  | g :: r, h => by simp only [idbL, Bool.and_eq_true] at h; simp only [renL, ren_none f h.1, renL_none f r h.2]
end

structure Rq (p : Pg) (f : FuncId) (args : List GV) (Q : GV → Prop) : Prop where
  call : ∀ aas w, (callFunc f aas).run p.P w = .ok (.enter f aas) w
  ct : Ct p f 0 args [] (Val fun g => Q g ∧ idb 0 g = true)
abbrev Rt (p : Pg) (f : FuncId) (args : List GV) (G : GV) : Prop := Rq p f args (· = G)

theorem Rq.of {p : Pg} {f : FuncId} {fn : Func} {c : Code} {N : Nat} {args : List GV} {Q : GV → Prop} (hp : p.Ok) (hf : p.P.funcs[f]? = some fn) (hb : fn.body = some c) (hN : fn.ntmps = N) (hl : Nat.ble args.length N = true) {rs : Array ResultVar} (hr : fn.results = rs)
    (hc : ∀ aas w, (callFunc f aas).run p.P w = .ok (.enter f aas) w)
    (h : ∀ (H0 : Hid) (S0 : List Nat) (w0 : World) (h0 : H0.n = 0) (g0 : GlOk p H0), vc ⟨p, N, 0, H0, S0, w0, h0, g0⟩ (retT p rs.toList fun g _ _ => Q g ∧ idb 0 g = true) 400 [.code c] ⟨argEnv 0 args, [], 0⟩) : Rq p f args Q :=
  ⟨hc, Ct.weak (Ct.of_JK hp hf hb hN hl hr fun H0 S0 w0 h0 g0 => vc_sound hp 400 _ _ (h H0 S0 w0 h0 g0)) fun g σ' n' hq => ⟨id, g, [], 0, ⟨hq, rfl, rfl⟩, (ren_id g).symm, trivial, by simp [hq.2, idbH, hids, distB, fixB]⟩⟩

theorem Rt.of {p : Pg} {f : FuncId} {fn : Func} {c : Code} {N : Nat} {args : List GV} {G : GV} (hp : p.Ok) (hf : p.P.funcs[f]? = some fn) (hb : fn.body = some c) (hN : fn.ntmps = N) (hl : Nat.ble args.length N = true) {rs : Array ResultVar} (hr : fn.results = rs)
    (hc : ∀ aas w, (callFunc f aas).run p.P w = .ok (.enter f aas) w)
    (h : ∀ (H0 : Hid) (S0 : List Nat) (w0 : World) (h0 : H0.n = 0) (g0 : GlOk p H0), vc ⟨p, N, 0, H0, S0, w0, h0, g0⟩ (retT p rs.toList fun g _ _ => eqG G g ∧ idb 0 g = true) 400 [.code c] ⟨argEnv 0 args, [], 0⟩) : Rt p f args G := by
  refine ⟨hc, fun H us w hn hg hcs hs => ?_⟩
  refine ((Rq.of (Q := eqG G) hp hf hb hN hl hr hc h).ct H us w hn hg hcs hs).mono ?_
  rintro e w' ⟨u, g, H', σ', rfl, hi, hs', hfr, hq, h1, h2⟩
  exact ⟨u, G, H', σ', rfl, eqG_is hq.1 hi, hs', hfr, ⟨rfl, eqG_idb hq.1 hq.2⟩, h1, h2⟩

theorem Rq.mono {p : Pg} {f : FuncId} {args : List GV} {Q Q' : GV → Prop} (h : Rq p f args Q) (hq : ∀ g, Q g → Q' g) : Rq p f args Q' :=
  ⟨h.call, fun H us w hn hg hcs hs => (h.ct H us w hn hg hcs hs).mono fun _ _ ⟨u, g, H', σ', e, hi, hs', hfr, hv, r⟩ => ⟨u, g, H', σ', e, hi, hs', hfr, ⟨hq g hv.1, hv.2⟩, r⟩⟩

def callG (p : Pg) (all : List Oper) (ρ : Env) (o : Oper) : Option (FuncId × List GV) :=
  bif gdOk all ρ o.guard then (match o.op with
    | .call { callee := .value fo, args := args, .. } => (match ev p ρ fo, evs p ρ args.toList with
      | some (.fn (.func f) first caps), some gs => some (f, first ++ gs ++ caps)
      | _, _ => none)
    | _ => none) else none

theorem hrest_nil : ∀ σ : Heap, hrest [] σ = σ
  | [] => rfl
  | (id, x) :: r => by simp [hrest, memB, hrest_nil r]

def dputV (N : Nat) (ρ : Env) : Option Nat → GV → (Env → Prop) → Prop
  | some d, g, K => bif Nat.blt d N then K ((d, g) :: ρ) else False
  | none, _, K => K ρ
theorem dputV_eq (N : Nat) (ρ : Env) (d : Option Nat) (g : GV) (K : Env → Prop) : dputV N ρ d g K = dput N ρ d g K := by
  cases d <;> simp [dputV, dput, nf_eq]

section
variable {cx : Cx} {T : Post}

theorem callG_spec {p : Pg} {all : List Oper} {ρ : Env} {o : Oper} {f : FuncId} {cargs : List GV} (h : callG p all ρ o = some (f, cargs)) :
    ∃ fo args ts first caps gs, o.op = .call { callee := .value fo, args := args, argTypes := ts } ∧ gdOk all ρ o.guard = true ∧ ev p ρ fo = some (.fn (.func f) first caps) ∧ evs p ρ args.toList = some gs ∧ first ++ gs ++ caps = cargs := by
  unfold callG at h
  cases hg : gdOk all ρ o.guard with
  | false => rw [hg] at h; cases h
  | true =>
    rw [hg] at h
    simp only [cond_true] at h
    split at h
    · rename_i fo args ts ho
      split at h
      · rename_i f' first caps gs h1 h2
        simp only [Option.some.injEq, Prod.mk.injEq] at h
        obtain ⟨rfl, rfl⟩ := h
        exact ⟨fo, args, ts, first, caps, gs, ho, rfl, h1, h2, rfl⟩
      · cases h
    · cases h

theorem JK.goQ {all : List Oper} {o : Oper} {rest : List Oper} {k : List It} {s : St} {f : FuncId} {cargs : List GV} {Q : GV → Prop} (hp : cx.pg.Ok) (hr : Rq cx.pg f cargs Q) (hk : callG cx.pg all s.ρ o = some (f, cargs)) (hb : idbL 0 cargs = true)
    (h : ∀ g, Q g → dputV cx.N s.ρ o.dst g fun ρ' => vc cx T 400 (.ops false all rest :: k) ⟨ρ', s.σ, s.n⟩) : JK cx T (.ops false all (o :: rest) :: k) s := by
  obtain ⟨fo, args, ts, first, caps, gs, ho, hgd, hf, he, hargs⟩ := callG_spec hk
  intro H a w hg hs ha
  have hw := gdOk_wanted (o := o) ha.env hgd
  show wpList _ _ _ _ _ _
  unfold wpList
  rw [if_pos hw]
  refine .inl (call_wp (r := id) (n0 := 0) (σc := []) hr.ct hr.call ho hf he (by rw [renL_id]; exact hargs) trivial (by simp [hb, idbH, hids, distB]) (by simp) hg hs ha.env fun H'' u g σ' n' w' hle hi hQ hsim => ?_)
  obtain ⟨⟨hq, hidb⟩, rfl, rfl⟩ := hQ
  have hd := h g hq
  rw [dputV_eq] at hd
  rw [ren_none _ hidb] at hi
  have e : hrest (hids id []) s.σ = s.σ := hrest_nil s.σ
  simp only [renH, List.nil_append, e] at hsim
  obtain ⟨ρ', ha', hJ⟩ := (ha.mono hle).dput hi hd
  exact vc_sound hp 400 _ _ hJ H'' (a.put o.dst u) w' (hg.mono hle) (hsim ρ') ha'

theorem JK.go {all : List Oper} {o : Oper} {rest : List Oper} {k : List It} {s : St} {f : FuncId} {cargs : List GV} {G : GV} (hp : cx.pg.Ok) (hr : Rt cx.pg f cargs G) (hk : callG cx.pg all s.ρ o = some (f, cargs)) (hb : idbL 0 cargs = true)
    (h : dputV cx.N s.ρ o.dst G fun ρ' => vc cx T 400 (.ops false all rest :: k) ⟨ρ', s.σ, s.n⟩) : JK cx T (.ops false all (o :: rest) :: k) s :=
  JK.goQ hp hr hk hb fun g hg => by subst hg; exact h

theorem JK.goB {all : List Oper} {o : Oper} {rest : List Oper} {k : List It} {s : St} {f : FuncId} {cargs gs : List GV} {G : GV} (hp : cx.pg.Ok) (hr : Rt cx.pg f cargs G) (hk : callG cx.pg all s.ρ o = some (f, gs)) (hl : lents s.σ gs cargs) (hfree : roFree G = true)
    (h : dputV cx.N s.ρ o.dst G fun ρ' => vc cx T 400 (.ops false all rest :: k) ⟨ρ', s.σ, s.n⟩) : JK cx T (.ops false all (o :: rest) :: k) s := by
  obtain ⟨fo, args, ts, first, caps, gs', ho, hgd, hf, he, hargs⟩ := callG_spec hk
  refine JK.callB hr.ct hr.call ho hgd hf he (by rw [hargs]; exact hl) (fun g σ' n' hq => ?_) (fun g σ' n' hq => ?_)
  · obtain ⟨⟨rfl, h1⟩, _, _⟩ := hq
    simp [h1, hfree]
  · obtain ⟨⟨rfl, h1⟩, _, _⟩ := hq
    rw [nf_eq, ← dputV_eq]
    revert h
    cases o.dst with
    | none => exact fun h => vc_sound hp 400 _ _ h
    | some d =>
      simp only [dputV]
      cases Nat.blt d cx.N with
      | false => exact fun h => h
      | true => exact fun h => vc_sound hp 400 _ _ h


structure Hf (p : Pg) (f : FuncId) (n0 : Nat) (args : List GV) (σ : Heap) (Q : GV → Heap → Nat → Prop) : Prop where
  call : ∀ aas w, (callFunc f aas).run p.P w = .ok (.enter f aas) w
  ct : Ct p f n0 args σ Q

theorem Hf.of {p : Pg} {f : FuncId} {fn : Func} {c : Code} {n0 N : Nat} {args : List GV} {σ : Heap} {Q : GV → Heap → Nat → Prop} (hp : p.Ok) (hf : p.P.funcs[f]? = some fn) (hb : fn.body = some c) (hN : fn.ntmps = N) (hl : Nat.ble args.length N = true) {rs : Array ResultVar} (hr : fn.results = rs)
    (hc : ∀ aas w, (callFunc f aas).run p.P w = .ok (.enter f aas) w)
    (h : ∀ (H0 : Hid) (S0 : List Nat) (w0 : World) (h0 : H0.n = n0) (g0 : GlOk p H0), vc ⟨p, N, n0, H0, S0, w0, h0, g0⟩ (retT p rs.toList Q) 400 [.code c] ⟨argEnv 0 args, σ, n0⟩) : Hf p f n0 args σ Q :=
  ⟨hc, Ct.of_JK hp hf hb hN hl hr fun H0 S0 w0 h0 g0 => vc_sound hp 400 _ _ (h H0 S0 w0 h0 g0)⟩

theorem Hf.weak {p : Pg} {f : FuncId} {n0 : Nat} {args : List GV} {σ : Heap} {Q Q' : GV → Heap → Nat → Prop} (h : Hf p f n0 args σ Q)
    (hQ : ∀ g σ' n', Q g σ' n' → ∃ (r : Nat → Nat) (g0 : GV) (τ : Heap) (m : Nat), Q' g0 τ m ∧ g = ren r g0 ∧ leσ r τ σ' ∧ (idb m g0 && idbH m τ && distB (hids r τ) && fixB r n0 && Nat.ble n0 m) = true) : Hf p f n0 args σ Q' :=
  ⟨h.call, h.ct.weak hQ⟩

theorem JK.goH {all : List Oper} {o : Oper} {rest : List Oper} {k : List It} {s : St} {f : FuncId} {n0 : Nat} {cargs gs : List GV} {σc : Heap} {Q : GV → Heap → Nat → Prop} (hp : cx.pg.Ok) (hr : Hf cx.pg f n0 cargs σc Q) (r : Nat → Nat) (hk : callG cx.pg all s.ρ o = some (f, gs)) (hargs : gs = renL r cargs) (hσ : leσ r σc s.σ)
    (chk : (idbL n0 cargs && idbH n0 σc && distB (hids r σc)) = true) (hrn : ∀ i, i < n0 → r i < s.n)
    (h : ∀ g σ' n', Q g σ' n' → nf (ren (sh r n0 s.n) g) fun g => nfH (renH (sh r n0 s.n) σ' ++ hrest (hids r σc) s.σ) fun σ => nfN (s.n + (n' - n0)) fun n => dput cx.N s.ρ o.dst g fun ρ' => vc cx T 400 (.ops false all rest :: k) ⟨ρ', σ, n⟩) :
    JK cx T (.ops false all (o :: rest) :: k) s := by
  obtain ⟨fo, args, ts, first, caps, gs', ho, hgd, hf, he, hargs'⟩ := callG_spec hk
  refine JK.call hr.ct hr.call r ho hgd hf he (hargs'.trans hargs) hσ chk hrn (fun g σ' n' hq => ?_)
  have := h g σ' n' hq
  rw [nf_eq, nfH_eq, nfN_eq] at this ⊢
  have key : ∀ {d : Option Nat} {g : GV} {K K' : Env → Prop}, (∀ ρ, K ρ → K' ρ) → dput cx.N s.ρ d g K → dput cx.N s.ρ d g K' := by
    intro d g K K' hKK h
    cases d with
    | none => exact hKK _ h
    | some d =>
      simp only [dput, nf_eq] at h ⊢
      cases hb : Nat.blt d cx.N with
      | false => rw [hb] at h; exact h
      | true => rw [hb] at h; exact hKK _ h
  exact key (fun ρ hv => vc_sound hp 400 _ _ hv) this

def isCall (o : Op) : Bool := match o with
  | .call { callee := .value _, .. } => true
  | .call { callee := .invoke _ _, .. } => true
  | _ => false

theorem RA.goA {ops : List Oper} {k : List It} {σs : Heap} {ρq : Env} {fuel : Nat} {listed : List Bool} {s : St} (i : Nat) (order : List (Nat × Bool)) (e : Bool) {o : Oper} {f : FuncId} {cargs : List GV} {G : GV} (hp : cx.pg.Ok) (hsel : Region.noSelect ops.toArray = true) (hT : ∀ ch s, ¬ T (.panic ch) s) (hr : Rt cx.pg f cargs G) (hi : ops[i]? = some o) (hk : callG cx.pg ops s.ρ o = some (f, cargs)) (hb : idbL 0 cargs = true)
    (hB : (eqB (Region.ready .any ops.toArray listed.toArray) [i] && ordB ops e order (listed.set i true)) = true)
    (h : dputV cx.N s.ρ o.dst G fun ρ' => nfE (qput ρq o.dst G) fun ρq => rvc cx T ops k σs e order fuel (listed.set i true) ρq ⟨ρ', s.σ, s.n⟩) : RA cx T ops k σs ρq (fuel + 1) listed s := by
  obtain ⟨fo, args, ts, first, caps, gs, ho', hgd, hf, he, hargs⟩ := callG_spec hk
  simp only [Bool.and_eq_true] at hB
  refine RA.call (n0 := 0) (r := id) (σc := []) i hr.ct hr.call hi (eqB_eq hB.1) hgd ho' hf he (by rw [renL_id]; exact hargs) trivial (by simp [hb, idbH, hids, distB]) (by simp) ?_
  rintro g σ' n' ⟨⟨rfl, hidb⟩, rfl, rfl⟩
  rw [nf_eq, nfH_eq, nfN_eq, nfE_eq]
  rw [ren_none _ hidb, ← dputV_eq]
  simp only [nfE_eq] at h
  have e1 : renH (sh id 0 s.n) [] ++ hrest (hids id []) s.σ = s.σ := by rw [show hids id [] = [] from rfl, hrest_nil]; rfl
  rw [e1]
  revert h
  cases o.dst with
  | none => exact fun h => RA.run hp hsel hT order hB.2 h
  | some d =>
    simp only [dputV]
    cases Nat.blt d cx.N with
    | false => exact fun h => h
    | true => exact fun h => RA.run hp hsel hT order hB.2 h

theorem RA.skipA {ops : List Oper} {k : List It} {σs : Heap} {ρq : Env} {fuel : Nat} {listed : List Bool} {s : St} (i : Nat) (order : List (Nat × Bool)) (e : Bool) {o : Oper} (hp : cx.pg.Ok) (hsel : Region.noSelect ops.toArray = true) (hT : ∀ ch s, ¬ T (.panic ch) s) (hi : ops[i]? = some o) (hgd : gdNo ops s.ρ o.guard = true)
    (hB : (eqB (Region.ready .any ops.toArray listed.toArray) [i] && ordB ops e order (listed.set i true)) = true)
    (h : dputV cx.N s.ρ o.dst (.v undef) fun ρ' => nfE (eput ρq o.dst (.v undef)) fun ρq => rvc cx T ops k σs e order fuel (listed.set i true) ρq ⟨ρ', s.σ, s.n⟩) : RA cx T ops k σs ρq (fuel + 1) listed s := by
  simp only [Bool.and_eq_true] at hB
  refine RA.skip i hi (eqB_eq hB.1) hgd ?_
  rw [← dputV_eq]
  simp only [nfE_eq] at h
  revert h
  cases o.dst with
  | none => exact fun h => RA.run hp hsel hT order hB.2 h
  | some d =>
    simp only [dputV]
    cases Nat.blt d cx.N with
    | false => exact fun h => h
    | true => exact fun h => RA.run hp hsel hT order hB.2 h
end
end Go.GK
/-
  The ghost machine: contracts of library functions that are given values and a slice of values.
-/
namespace Go.GK
open Go.RowKit
section
variable {p : Pg}

theorem Rt.calls {f : FuncId} (hc : ∀ a w, (callFunc f a).run p.P w = .ok (.enter f a) w) (vs : List Value) (g : Value) (h : ∀ w, Calls p.P f vs.toArray w fun e w' => e = .returned g ∧ Below w.heap.size w w') : Rt p f (vs.map .v) (.v g) :=
  ⟨hc, fun H us w hn hg hcs hs => (Ct.of_below vs g h H us w hn hg hcs hs).mono fun _ _ ⟨u, g', H', σ', e', hi', hs', hfr, hv, r⟩ => ⟨u, g', H', σ', e', hi', hs', hfr, ⟨hv, by rw [hv]; rfl⟩, r⟩⟩

structure SlAt (w : World) (A : Option Addr) (c : Nat) (xs : List Value) : Prop where
  cap : xs.length ≤ c
  max : c ≤ maxLen
  at_ : xs = [] ∨ ∃ b o, A = some ⟨b, o, none⟩ ∧ b < w.heap.size ∧ ∀ (j : Nat) (x : Value), xs[j]? = some x → w.cell? ⟨b, o + j, none⟩ = some x

theorem SlAt.of {ro : Nat → Option Obj} {w : World} (hro : ∀ b o, ro b = some o → w.heap[b]? = some o) {xs : List Value} {u : Value} (h : IsR ro (.sl 1 (xs.map fun x => [.v x])) u) : ∃ A c, u = .slice A xs.length c ∧ SlAt w A c xs := by
  obtain ⟨A, c, us, rfl, hlc, hcm, _, hne⟩ := h.inv_sl
  simp only [List.length_map] at hlc ⊢
  refine ⟨A, c, rfl, ⟨hlc, hcm, ?_⟩⟩
  cases xs with
  | nil => exact .inl rfl
  | cons x0 r =>
    obtain ⟨⟨b, o, sp⟩, rfl, h1, h2, _⟩ := hne (by simp)
    refine .inr ?_
    have h00 := h1 0 [.v x0] rfl 0 (.v x0) rfl
    have hsp : sp = none := by
      have : ({ block := b, off := o, spot := sp } : Addr).add (0 * 1 + 0) = ⟨b, o, sp⟩ := by simp [Addr.add]
      rw [this] at h00
      unfold roCell at h00
      split at h00
      · split at h00
        · cases h00
        · rename_i hs; simpa using hs
      · cases h00
    subst hsp
    have hcell := roCell_cell hro h00
    refine ⟨b, o, rfl, ?_, fun j x hj => ?_⟩
    · have := World.block_lt_of_cell? w _ hcell
      rwa [addr_add_block] at this
    · have hr : ((x0 :: r).map fun x => [GV.v x])[j]? = some [.v x] := by rw [List.getElem?_map, hj]; rfl
      have e1 := roCell_cell hro (h1 j [.v x] hr 0 (.v x) rfl)
      have e2 := h2 j [.v x] hr 0 (.v x) rfl
      cases e2
      rw [addr_add_none] at e1
      simpa using e1

theorem Rt.slice {f : FuncId} (hc : ∀ a w, (callFunc f a).run p.P w = .ok (.enter f a) w) (xs vs : List Value) (g : Value) (h : ∀ (A : Option Addr) (c : Nat) (w : World), SlAt w A c xs → Calls p.P f (#[.slice A xs.length c] ++ vs.toArray) w fun e w' => e = .returned g ∧ Below w.heap.size w w') :
    Rt p f (.sl 1 (xs.map fun x => [.v x]) :: vs.map .v) (.v g) := by
  refine ⟨hc, fun H us w hn hg hcs hs => ?_⟩
  obtain ⟨hl, hi⟩ := hcs
  have h0 : us.size = vs.length + 1 := by rw [← hl]; simp
  obtain ⟨A, c, hu0, hat⟩ := SlAt.of hs.ro (hi 0 _ rfl).inv_sl
  have hus : us = #[.slice A xs.length c] ++ vs.toArray := by
    apply Array.ext_getElem?
    intro i
    cases i with
    | zero =>
      have : us[0]? = some (us.getD 0 undef) := by simp [Array.getD, h0]
      rw [this, hu0]
      simp
    | succ i =>
      by_cases hlt : i < vs.length
      · have h1 := (hi (i + 1) (.v vs[i]) (by simp [hlt])).inv_v
        have : us[i + 1]? = some (us.getD (i + 1) undef) := by simp [Array.getD, h0, hlt]
        rw [this, h1]
        simp [hlt]
      · rw [Array.getElem?_eq_none (by omega), Array.getElem?_eq_none (by simp; omega)]
  rw [hus]
  refine (h A c w hat).mono ?_
  rintro e w' ⟨rfl, hb⟩
  exact ⟨g, .v g, H, [], rfl, .ro (.v g), hs.below hb, Fr.below (Fr.refl _ _ _) hb, ⟨rfl, rfl⟩, rfl, hn⟩
end
end Go.GK
/-
  The ghost machine: an own variable that is written no more.
-/
namespace Go.GK
open Go.RowKit

mutual
def fzb (id : Nat) (cs0 : List GV) : GV → GV
  | .o j => .o j
  | .agg cs => .agg (fzbL id cs0 cs)
  | .tup cs => .tup (fzbL id cs0 cs)
  | .fn f aas cs => .fn f (fzbL id cs0 aas) (fzbL id cs0 cs)
  | .ifc t x => .ifc t (fzb id cs0 x)
  | .v x => .v x
  | .b c => .b c
  | .p j off => bif Nat.beq j id then .r (cs0.drop off) else .p j off
  | .e j z i off => .e j z i off
  | .r cs => .r cs
  | .sl z r => .sl z r
def fzbL (id : Nat) (cs0 : List GV) : List GV → List GV
  | [] => []
  | g :: r => fzb id cs0 g :: fzbL id cs0 r
end

def fzbE (id : Nat) (cs0 : List GV) : Env → Env
  | [] => []
  | (t, g) :: r => (t, fzb id cs0 g) :: fzbE id cs0 r

def fzbR (id : Nat) (cs0 : List GV) : Res → Res
  | .blk ty cs => .blk ty (fzbL id cs0 cs)
  | .row ty z rs => .row ty z rs
  | .ob o => .ob o
  | .ln sz n => .ln sz n
  | .sub i z lo n => .sub i z lo n
  | .mp kd es => .mp kd (es.map fun x => (x.1, fzb id cs0 x.2))
  | .mr kd es left cur => .mr kd (es.map fun x => (x.1, fzb id cs0 x.2)) left cur
  | .itr m => .itr m
  | .me kd es k st => .me kd (es.map fun x => (x.1, fzb id cs0 x.2)) k st
  | .mre kd es left cur k st => .mre kd (es.map fun x => (x.1, fzb id cs0 x.2)) left cur k st
  | .ab A => .ab A

def fzbH (id : Nat) (cs0 : List GV) : Heap → Heap
  | [] => []
  | (j, x) :: r => (j, fzbR id cs0 x) :: fzbH id cs0 r

theorem fzbL_get (id : Nat) (cs0 : List GV) : ∀ (l : List GV) (j : Nat), (fzbL id cs0 l)[j]? = (l[j]?).map (fzb id cs0)
  | [], j => by simp [fzbL]
  | g :: r, 0 => by simp [fzbL]
  | g :: r, j + 1 => by simp [fzbL, fzbL_get id cs0 r j]
theorem fzbL_len (id : Nat) (cs0 : List GV) : ∀ (l : List GV), (fzbL id cs0 l).length = l.length
  | [] => rfl
  | _ :: r => by simp [fzbL, fzbL_len id cs0 r]

theorem fzbE_look (id : Nat) (cs0 : List GV) : ∀ (ρ : Env) (t : Nat), look (fzbE id cs0 ρ) t = (look ρ t).map (fzb id cs0)
  | [], t => rfl
  | (s, g) :: r, t => by
    simp only [fzbE, look]
    cases Nat.beq s t with
    | true => rfl
    | false => exact fzbE_look id cs0 r t

theorem fzbH_mem {id : Nat} {cs0 : List GV} : ∀ {σ : Heap} {x : Nat × Res}, x ∈ fzbH id cs0 σ → ∃ y ∈ σ, x = (y.1, fzbR id cs0 y.2)
  | [], _, h => by simp [fzbH] at h
  | (j, y) :: r, x, h => by
    simp only [fzbH, List.mem_cons] at h
    rcases h with rfl | h
    · exact ⟨_, List.mem_cons_self, rfl⟩
    · obtain ⟨z, hz, e⟩ := fzbH_mem h
      exact ⟨z, List.mem_cons_of_mem _ hz, e⟩

theorem fzbH_blks {H H' : Hid} (e1 : H'.bl = H.bl) (e2 : H'.sv = H.sv) {id : Nat} {cs0 : List GV} : ∀ (σ : Heap), blks H' (fzbH id cs0 σ) = blks H σ
  | [] => rfl
  | (j, y) :: r => by
    simp only [fzbH, blks_cons, fzbH_blks e1 e2 r]
    congr 1
    cases y <;> simp [fzbR, blocks, e1, e2]

theorem Is.fzb {H H' : Hid} (hro : ∀ b o, H.ro b = some o → H'.ro b = some o) (e1 : H'.bl = H.bl) (e2 : H'.sv = H.sv) (e3 : H'.n = H.n) {id : Nat} {cs0 : List GV} (hs : ∀ off, IsR H'.ro (.r (cs0.drop off)) (.pointer (some ⟨H.bl id, off, none⟩))) {g : GV} {u : Value} (h : Is H g u) : Is H' (GK.fzb id cs0 g) u := by
  have hle : H.le H' := ⟨Nat.le_of_eq e3.symm, hro, fun i _ => by rw [e1], fun i _ => by rw [e2]⟩
  have hL : ∀ {cs : List GV} {us : Array Value}, (∀ (j : Nat) (g : GV), cs[j]? = some g → Is H' (GK.fzb id cs0 g) (us.getD j undef)) → ∀ (j : Nat) (g : GV), (fzbL id cs0 cs)[j]? = some g → Is H' g (us.getD j undef) := by
    intro cs us hh j g hj
    rw [fzbL_get] at hj
    cases hc : cs[j]? with
    | none => rw [hc] at hj; cases hj
    | some x => rw [hc] at hj; simp at hj; subst hj; exact hh j x hc
  induction h with
  | ro hr =>
    have hR : ∀ {g : GV} {u : Value}, IsR H.ro g u → Is H' (GK.fzb id cs0 g) u := by
      intro g u hr
      induction hr with
      | v x => exact .ro (.v x)
      | b c => exact .ro (.b c)
      | r us h1 h2 _ => exact .ro ((IsR.r us h1 h2).mono hro)
      | slnil => exact .ro .slnil
      | sl us h0 hc hm h1 h2 h3 _ => exact .ro ((IsR.sl us h0 hc hm h1 h2 h3).mono hro)
      | agg hl _ ih => exact .agg (by rw [fzbL_len]; exact hl) (hL ih)
      | tup hl _ ih => exact .tup (by rw [fzbL_len]; exact hl) (hL ih)
      | fn hl _ hl' _ ih ih' => exact .fn (by rw [fzbL_len]; exact hl) (hL ih) (by rw [fzbL_len]; exact hl') (hL ih')
      | ifc _ ih => exact .ifc ih
    exact hR hr
  | @p j off hid =>
    simp only [GK.fzb]
    cases hb : Nat.beq j id with
    | true =>
      have := beq_eq hb
      subst this
      exact .ro (hs off)
    | false => exact (Is.p hid).mono hle
  | e hid hs => exact (Is.e hid hs).mono hle
  | o hid hsj how => exact (Is.o hid hsj how).mono hle
  | agg hl _ ih => exact .agg (by rw [fzbL_len]; exact hl) (hL ih)
  | tup hl _ ih => exact .tup (by rw [fzbL_len]; exact hl) (hL ih)
  | fn hl _ hl' _ ih ih' => exact .fn (by rw [fzbL_len]; exact hl) (hL ih) (by rw [fzbL_len]; exact hl') (hL ih')
  | ifc _ ih => exact .ifc ih

theorem esIs_fzb {H H' : Hid} {id : Nat} {cs0 : List GV} (hf : ∀ {g : GV} {u : Value}, Is H g u → Is H' (GK.fzb id cs0 g) u) : ∀ {es : List (Value × GV)} {l : List MapEntry}, esIs H es l → esIs H' (es.map fun x => (x.1, GK.fzb id cs0 x.2)) l
  | [], [], _ => trivial
  | (_, _) :: r, _ :: _, h => ⟨h.1, hf h.2.1, esIs_fzb hf (es := r) h.2.2⟩
  | [], _ :: _, h => h.elim
  | _ :: _, [], h => h.elim
theorem MapOk.fzb {H H' : Hid} {id : Nat} {cs0 : List GV} (hf : ∀ {g : GV} {u : Value}, Is H g u → Is H' (GK.fzb id cs0 g) u) {kd : Option IntKind} {es : List (Value × GV)} {arr : Array MapEntry} {clock : Nat} (h : MapOk H kd es arr clock) : MapOk H' kd (es.map fun x => (x.1, GK.fzb id cs0 x.2)) arr clock :=
  ⟨esIs_fzb hf h.is, h.sorts, h.st⟩


section
variable {cx : Cx} {T : Post}
theorem JK.freezeB {k : List It} {s : St} (id : Nat) {ty : Nat} {cs0 : List GV} (hl : hlook s.σ id = some (.blk ty cs0)) (hb0 : idbL 0 cs0 = true) (h : nfH (fzbH id cs0 (hdel s.σ id)) fun σ => JK cx T k ⟨fzbE id cs0 s.ρ, σ, s.n⟩) : JK cx T k s := by
  rw [nfH_eq] at h
  refine JK.upd _ (fun H a w hg hs ha => ?_) h
  obtain ⟨l1, l2, e1, e2, _⟩ := hlook_split hl
  have hmem := hlook_mem hl
  obtain ⟨us, hwb, hlen0, his0⟩ := hs.sat.holds _ hmem
  let ro' : Nat → Option Obj := fun b => if H.bl id = b then w.heap[b]? else H.ro b
  have hfree : ∀ b, H.bl id = b → H.ro b = none := fun b hb => hs.sat.free b (List.mem_flatMap.2 ⟨_, hmem, by simp [blocks, hb]⟩)
  have hro : ∀ b o, H.ro b = some o → ro' b = some o := by
    intro b o ho
    show (if _ then _ else _) = _
    rw [if_neg (fun hb => by rw [hfree b hb] at ho; cases ho)]
    exact ho
  let H' : Hid := { H with ro := ro' }
  have hle : H.le H' := ⟨Nat.le_refl _, hro, fun _ _ => rfl, fun _ _ => rfl⟩
  have hsl : ∀ off, IsR ro' (.r (cs0.drop off)) (.pointer (some ⟨H.bl id, off, none⟩)) := fun off => by
    refine .r (fun j => us.getD (off + j) undef) (fun j g hj => ?_) (fun j g hj => ?_)
    · rw [List.getElem?_drop] at hj
      have hlt : off + j < us.size := by rw [← hlen0]; exact (List.getElem?_eq_some_iff.1 hj).1
      rw [addr_add_none]
      unfold roCell
      have hr : ro' (H.bl id) = some (.cells us ty (0, 0)) := by
        show (if H.bl id = H.bl id then w.heap[H.bl id]? else _) = _
        rw [if_pos rfl]; exact hwb
      simp only [hr, Option.isSome_none, Bool.false_eq_true, if_false]
      simp [Array.getD, hlt]
    · rw [List.getElem?_drop] at hj
      exact ((his0 _ g hj).toR (idbL_get hb0 hj)).mono hro
  have hfz : ∀ {g : GV} {u : Value}, Is H g u → Is H' (fzb id cs0 g) u := fun hi => Is.fzb (H' := H') hro rfl rfl rfl hsl hi
  have hfr := hs.fr
  have hnd := hs.sat.nodup
  have hbl : blks H' (fzbH id cs0 (hdel s.σ id)) = blks H (l1 ++ l2) := by rw [e2]; exact fzbH_blks rfl rfl _
  rw [e1, blks_append, blks_cons] at hnd
  have n1 := List.nodup_append.1 hnd
  have n2 := List.nodup_append.1 n1.2.1
  have hin : ∀ b ∈ blks H (l1 ++ l2), b ∈ blks H s.σ := fun b hb => by
    rw [e1, blks_append, blks_cons]
    rw [blks_append] at hb
    rcases List.mem_append.1 hb with h1 | h1 <;> simp [h1]
  have hnin : ∀ b ∈ blks H (l1 ++ l2), H.bl id ≠ b := fun b hb hc => by
    have hc' : b ∈ blocks H (id, .blk ty cs0) := by simp [blocks, hc]
    rw [blks_append] at hb
    rcases List.mem_append.1 hb with h1 | h1
    · exact n1.2.2 b h1 b (by simp [hc']) rfl
    · exact n2.2.2 b hc' b h1 rfl
  refine ⟨H', hg.up hro, ⟨hs.n, ⟨fun b o ho => ?_, fun x hx => ?_, ?_, fun b hb => ?_, fun x hx => ?_⟩, ?_⟩, ⟨fun t g hlk => ?_, ha.size, ha.defers⟩⟩
  · have ho' : (if H.bl id = b then w.heap[b]? else H.ro b) = some o := ho
    split at ho'
    · exact ho'
    · exact hs.sat.ro b o ho'
  · obtain ⟨y, hy, rfl⟩ := fzbH_mem hx
    rw [e2] at hy
    have hy' : y ∈ s.σ := by
      rw [e1]
      rcases List.mem_append.1 hy with h1 | h1 <;> simp [h1]
    have hh := hs.sat.holds y hy'
    obtain ⟨j, r⟩ := y
    cases r with
    | blk ty cs =>
      obtain ⟨us, hw, hlen, hi⟩ := hh
      refine ⟨us, hw, by rw [fzbL_len]; exact hlen, fun j g hj => ?_⟩
      rw [fzbL_get] at hj
      cases hc : cs[j]? with
      | none => rw [hc] at hj; cases hj
      | some x => rw [hc] at hj; simp at hj; subst hj; exact hfz (hi j x hc)
    | row ty z rs => obtain ⟨ys, h1, h2⟩ := hh; exact ⟨ys, h1, h2.mono hro⟩
    | ob o => exact hh
    | ln z n => exact hh
    | sub i z lo n => exact hh
    | mp kd es =>
      obtain ⟨b, arr, clock, h1, h2, h3⟩ := hh
      exact ⟨b, arr, clock, h1, h2, h3.fzb hfz⟩
    | mr kd es left cur =>
      obtain ⟨b, arr, clock, seen, h1, h2, h3, h4, h5⟩ := hh
      exact ⟨b, arr, clock, seen, h1, h2, h3, h4.fzb hfz, h5⟩
    | itr m => exact hh
    | me kd es k st =>
      obtain ⟨h0, b, arr, clock, h1, h2, h3, h4⟩ := hh
      exact ⟨h0, b, arr, clock, h1, h2, h3.fzb hfz, h4⟩
    | ab A => exact A.mono _ _ _ _ _ hro hh
    | mre kd es left cur k st =>
      obtain ⟨h0, b, arr, clock, seen, h1, h2, h3, h4, h5⟩ := hh
      exact ⟨h0, b, arr, clock, seen, h1, h2, h3, h4.fzb hfz, h5⟩
  · rw [hbl, blks_append]
    exact List.nodup_append.2 ⟨n1.1, n2.2.1, fun b hb c hc e => n1.2.2 b hb c (by simp [hc]) e⟩
  · rw [hbl] at hb
    show (if _ then _ else _) = _
    rw [if_neg (hnin b hb)]
    exact hs.sat.free b (hin b hb)
  · obtain ⟨y, hy, rfl⟩ := fzbH_mem hx
    rw [e2] at hy
    refine hs.sat.ids y ?_
    rw [e1]
    rcases List.mem_append.1 hy with h1 | h1 <;> simp [h1]
  · refine ⟨hfr.os, hfr.tape, hfr.output, hfr.size, hfr.keep, fun b hb => ?_, fun b h1 h2 => ?_, hfr.le.trans hle⟩
    · rw [hbl] at hb
      exact hfr.own b (hin b hb)
    · have h2' : (if H.bl id = b then w.heap[b]? else H.ro b) ≠ none := h2
      split at h2'
      · rename_i hb
        exact hfr.own b (List.mem_flatMap.2 ⟨_, hmem, by simp [blocks, hb]⟩)
      · exact hfr.fro b h1 h2'
  · rw [fzbE_look] at hlk
    cases hc : look s.ρ t with
    | none => rw [hc] at hlk; cases hlk
    | some x => rw [hc] at hlk; simp at hlk; subst hlk; exact hfz (ha.env t x hc)
end
end Go.GK
/-
  The ghost machine: a call to which own slices are lent, within a region that draws its order.
-/
namespace Go.GK
open Go.RowKit
section
variable {cx : Cx} {T : Post}

theorem call_wpB {o : Oper} {s : St} {fo : Operand} {args : Array Operand} {ts : Array TypeId} {f : FuncId} {first caps gs : List GV} {cargs : List GV} {Q : GV → Heap → Nat → Prop}
    (hct : Ct cx.pg f 0 cargs [] Q) (hcall : ∀ aas w, (callFunc f aas).run cx.pg.P w = .ok (.enter f aas) w)
    (ho : o.op = .call { callee := .value fo, args := args, argTypes := ts }) {ρ : Env} (hf : ev cx.pg ρ fo = some (.fn (.func f) first caps)) (he : evs cx.pg ρ args.toList = some gs) {σ0 : Heap}
    (hl : lents σ0 (first ++ gs ++ caps) cargs) (hQ : ∀ g σ' n', Q g σ' n' → (idb 0 g && roFree g) = true)
    {H : Hid} {a : Act} {w : World} (hg : GlOk cx.pg H) (hs : Sim cx H s w) (hsat : Sat H σ0 w) (ha : EnvOk H ρ a) {K : Act → World → Prop} {Q' : Exit → Act → World → Prop}
    (hK : ∀ (u : Value) (g : GV) (w' : World) (σ' : Heap) (n' : Nat), Is H g u → Q g σ' n' → Sim cx H s w' → K (a.put o.dst u) w') : o.wp cx.pg.P a w K Q' := by
  obtain ⟨us, hc, hex⟩ := execOp_call (ts := ts) hg ha hf he hcall
  let Hb : Hid := ⟨fun b => w.heap[b]?, fun _ => 0, fun _ => .bool false, 0⟩
  obtain ⟨hlen, hlent⟩ := lents_spec hl
  have hcb : Cells Hb cargs us := ⟨by rw [← hlen]; exact hc.1, fun j c hj => by
    obtain ⟨g, hgj, hl⟩ := hlent j c hj
    exact lent_is hsat (fun _ => rfl) hl (hc.2 j g hgj)⟩
  have hgb : GlOk cx.pg Hb := ⟨fun g gv hgv => (hg g gv hgv).mono (fun b o hb => hsat.ro b o hb), fun g cs hgc => by
    obtain ⟨c, ty, fz, e, hz⟩ := hg.ex g cs hgc
    exact ⟨c, ty, fz, hsat.ro _ _ e, hz⟩⟩
  unfold Oper.wp
  rw [hex o ho w, Oper.upon_enter]
  refine (hct Hb us w rfl hgb hcb ⟨fun b o h => h, by simp, by simp [blks], by simp [blks], by simp⟩).mono ?_
  rintro e w' ⟨u, g, H', σ', rfl, hi, hs', hfr, hq⟩
  have hbel : Below w.heap.size w w' := ⟨hfr.os, hfr.tape, hfr.output, hfr.size, fun b hb => hfr.keep b hb (by simp [blks])⟩
  have hchk := hQ g σ' _ hq
  simp only [Bool.and_eq_true] at hchk
  exact hK u g w' σ' _ (hi.free hchk.1 hchk.2) hq (hs.below hbel)

theorem RA.goB {ops : List Oper} {k : List It} {σs : Heap} {ρq : Env} {fuel : Nat} {listed : List Bool} {s : St} (i : Nat) (order : List (Nat × Bool)) (e : Bool) {o : Oper} {f : FuncId} {cargs gs : List GV} {G : GV} (hp : cx.pg.Ok) (hsel : Region.noSelect ops.toArray = true) (hT : ∀ ch s, ¬ T (.panic ch) s) (hr : Rt cx.pg f cargs G) (hi : ops[i]? = some o) (hk : callG cx.pg ops s.ρ o = some (f, gs)) (hl : lents (s.σ ++ σs) gs cargs) (hfree : roFree G = true)
    (hB : (eqB (Region.ready .any ops.toArray listed.toArray) [i] && ordB ops e order (listed.set i true)) = true)
    (h : dputV cx.N s.ρ o.dst G fun ρ' => nfE (qput ρq o.dst G) fun ρq => rvc cx T ops k σs e order fuel (listed.set i true) ρq ⟨ρ', s.σ, s.n⟩) : RA cx T ops k σs ρq (fuel + 1) listed s := by
  obtain ⟨fo, args, ts, first, caps, gs', ho', hgd, hf, he, hargs⟩ := callG_spec hk
  simp only [Bool.and_eq_true] at hB
  refine RA.only_of i hi (eqB_eq hB.1) hgd fun m0 H0 S0 w0 h0 g0 H a w K Q' hg hs ha hsat hK => ?_
  refine call_wpB (cx := ⟨cx.pg, cx.N, m0, H0, S0, w0, h0, g0⟩) hr.ct hr.call ho' hf he (σ0 := s.σ ++ σs) (by rw [hargs]; exact hl) (fun g σ' n' hq => ?_) hg hs hsat ha.env fun u g w' σ' n' hiu hq hsim => ?_
  · obtain ⟨⟨rfl, h1⟩, _, _⟩ := hq
    simp [h1, hfree]
  · obtain ⟨⟨rfl, _⟩, _, _⟩ := hq
    simp only [nfE_eq] at h
    rw [dputV_eq] at h
    have hlt := dput_lt h
    obtain ⟨ρ', ha', hra⟩ := ha.dput hiu h
    exact hK H u g w' s ρ' (Hid.le.refl H) hiu (hsim.ρ ρ') ha' hlt (RA.run hp hsel hT order hB.2 hra)
end
end Go.GK
/-
  The program of this seat, and its types, as the ghost machine takes them.
-/
namespace Go.Proofs.YtihakhdinkkdmaaGreatDoor
open Go.GK
def tyTab : TT := [
  (1, ⟨1, 8, false, [.nilFunc], .other, none⟩),
  (2, ⟨1, 8, false, [.int .i64 0], .int .i64, none⟩),
  (3, ⟨1, 8, false, [.int .i64 0], .int .i64, none⟩),
  (4, ⟨1, 1, false, [.bool false], .bool, none⟩),
  (5, ⟨1, 1, false, [.int .u8 0], .int .u8, none⟩),
  (6, ⟨1, 1, false, [.int .u8 0], .int .u8, none⟩),
  (9, ⟨1, 16, false, [.string .empty], .str, none⟩),
  (12, ⟨1, 8, false, [.int .u64 0], .int .u64, none⟩),
  (13, ⟨2, 24, true, [.string .empty, .int .u64 0], .struct [(0, 1, false), (1, 1, false)], none⟩),
  (20, ⟨1, 16, false, [.nilIface], .iface false, none⟩),
  (21, ⟨1, 4, false, [.int .i32 0], .int .i32, none⟩),
  (22, ⟨1, 8, false, [.pointer none], .ptr, none⟩),
  (23, ⟨1, 8, false, [.int .i64 0], .int .i64, none⟩),
  (24, ⟨2, 16, true, [.int .i64 0, .int .i64 0], .struct [(0, 1, false), (1, 1, false)], none⟩),
  (25, ⟨2, 16, true, [.int .i64 0, .int .i64 0], .struct [(0, 1, false), (1, 1, false)], some [.int, .int]⟩),
  (27, ⟨1, 8, false, [.nilFunc], .other, none⟩),
  (28, ⟨1, 16, false, [.nilIface], .iface true, none⟩),
  (29, ⟨1, 16, false, [.nilIface], .iface true, none⟩),
  (31, ⟨1, 8, false, [.nilFunc], .other, none⟩),
  (32, ⟨1, 8, false, [.nilFunc], .other, none⟩),
  (33, ⟨1, 8, false, [.nilFunc], .other, none⟩),
  (34, ⟨1, 8, false, [.nilFunc], .other, none⟩),
  (35, ⟨1, 8, false, [.nilFunc], .other, none⟩),
  (36, ⟨1, 24, false, [.slice none 0 0], .slice 77, none⟩),
  (38, ⟨1, 8, false, [.nilFunc], .other, none⟩),
  (40, ⟨1, 8, false, [.nilFunc], .other, none⟩),
  (41, ⟨1, 8, false, [.nilFunc], .other, none⟩),
  (42, ⟨1, 8, false, [.nilFunc], .other, none⟩),
  (43, ⟨1, 8, false, [.nilFunc], .other, none⟩),
  (44, ⟨1, 24, false, [.slice none 0 0], .slice 52, none⟩),
  (46, ⟨1, 8, false, [.nilFunc], .other, none⟩),
  (47, ⟨1, 8, false, [.pointer none], .ptr, none⟩),
  (48, ⟨3, 40, true, [.slice none 0 0, .int .i64 0, .int .i64 0], .struct [(0, 1, false), (1, 2, true)], none⟩),
  (49, ⟨3, 40, true, [.slice none 0 0, .int .i64 0, .int .i64 0], .struct [(0, 1, false), (1, 2, true)], none⟩),
  (50, ⟨1, 8, false, [.nilFunc], .other, none⟩),
  (51, ⟨3, 32, true, [.int .i64 0, .string .empty, .int .i64 0], .struct [(0, 1, false), (1, 1, false), (2, 1, false)], none⟩),
  (52, ⟨3, 32, true, [.int .i64 0, .string .empty, .int .i64 0], .struct [(0, 1, false), (1, 1, false), (2, 1, false)], some [.int, .str, .int]⟩),
  (53, ⟨1, 8, false, [.nilFunc], .other, none⟩),
  (54, ⟨1, 8, false, [.nilFunc], .other, none⟩),
  (55, ⟨1, 24, false, [.slice none 0 0], .slice 63, none⟩),
  (57, ⟨1, 8, false, [.nilFunc], .other, none⟩),
  (58, ⟨1, 8, false, [.nilFunc], .other, none⟩),
  (59, ⟨1, 8, false, [.pointer none], .ptr, none⟩),
  (60, ⟨1, 24, true, [.slice none 0 0], .struct [(0, 1, false)], none⟩),
  (61, ⟨1, 24, true, [.slice none 0 0], .struct [(0, 1, false)], none⟩),
  (62, ⟨3, 32, true, [.int .i64 0, .string .empty, .int .i64 0], .struct [(0, 1, false), (1, 1, false), (2, 1, false)], none⟩),
  (63, ⟨3, 32, true, [.int .i64 0, .string .empty, .int .i64 0], .struct [(0, 1, false), (1, 1, false), (2, 1, false)], some [.int, .str, .int]⟩),
  (65, ⟨1, 8, false, [.nilFunc], .other, none⟩),
  (66, ⟨1, 24, false, [.slice none 0 0], .slice 9, none⟩),
  (67, ⟨7, 88, true, [.int .i64 0, .int .i64 0, .slice none 0 0, .int .i64 0, .slice none 0 0, .pointer none, .pointer none], .struct [(0, 1, false), (1, 1, false), (2, 1, false), (3, 1, false), (4, 1, false), (5, 1, false), (6, 1, false)], none⟩),
  (68, ⟨7, 88, true, [.int .i64 0, .int .i64 0, .slice none 0 0, .int .i64 0, .slice none 0 0, .pointer none, .pointer none], .struct [(0, 1, false), (1, 1, false), (2, 1, false), (3, 1, false), (4, 1, false), (5, 1, false), (6, 1, false)], none⟩),
  (69, ⟨1, 8, false, [.nilFunc], .other, none⟩),
  (70, ⟨1, 8, false, [.nilFunc], .other, none⟩),
  (71, ⟨5, 80, true, [.string .empty, .string .empty, .string .empty, .string .empty, .string .empty], .array 5 9, none⟩),
  (72, ⟨4, 64, true, [.string .empty, .string .empty, .string .empty, .string .empty], .array 4 9, none⟩),
  (73, ⟨1, 8, false, [.nilFunc], .other, none⟩),
  (74, ⟨2, 32, true, [.string .empty, .string .empty], .array 2 9, none⟩),
  (75, ⟨1, 8, false, [.nilFunc], .other, none⟩),
  (76, ⟨3, 40, true, [.string .empty, .int .i64 0, .string .empty], .struct [(0, 1, false), (1, 1, false), (2, 1, false)], none⟩),
  (77, ⟨3, 40, true, [.string .empty, .int .i64 0, .string .empty], .struct [(0, 1, false), (1, 1, false), (2, 1, false)], some [.str, .int, .str]⟩),
  (78, ⟨1, 8, false, [.nilFunc], .other, none⟩),
  (79, ⟨15, 240, true, [.string .empty, .string .empty, .string .empty, .string .empty, .string .empty, .string .empty, .string .empty, .string .empty, .string .empty, .string .empty, .string .empty, .string .empty, .string .empty, .string .empty, .string .empty], .array 15 9, none⟩),
  (80, ⟨1, 8, false, [.nilFunc], .other, none⟩),
  (81, ⟨1, 8, false, [.nilFunc], .other, none⟩),
  (82, ⟨1, 8, false, [.nilFunc], .other, none⟩),
  (83, ⟨1, 8, false, [.nilFunc], .other, none⟩),
  (84, ⟨1, 8, false, [.nilFunc], .other, none⟩),
  (85, ⟨1, 8, false, [.pointer none], .ptr, none⟩),
  (86, ⟨2, 16, true, [.int .i64 0, .int .i64 0], .struct [(0, 1, false), (1, 1, false)], some [.int, .int]⟩),
  (87, ⟨1, 16, true, [.nilIface], .struct [(0, 1, false)], none⟩),
  (88, ⟨1, 16, true, [.nilIface], .struct [(0, 1, false)], none⟩),
  (90, ⟨1, 8, false, [.nilFunc], .other, none⟩),
  (92, ⟨1, 16, false, [.nilIface], .iface true, none⟩),
  (94, ⟨1, 8, false, [.nilFunc], .other, none⟩),
  (95, ⟨1, 8, false, [.nilFunc], .other, none⟩),
  (96, ⟨1, 8, false, [.pointer none], .ptr, none⟩),
  (97, ⟨1, 24, false, [.slice none 0 0], .slice 5, none⟩),
  (98, ⟨2, 32, true, [.pointer none, .slice none 0 0], .struct [(0, 1, false), (1, 1, false)], none⟩),
  (99, ⟨2, 32, true, [.pointer none, .slice none 0 0], .struct [(0, 1, false), (1, 1, false)], none⟩),
  (100, ⟨1, 8, false, [.nilFunc], .other, none⟩),
  (102, ⟨1, 8, false, [.nilFunc], .other, none⟩),
  (103, ⟨1, 8, false, [.nilFunc], .other, none⟩),
  (104, ⟨1, 8, false, [.nilFunc], .other, none⟩),
  (105, ⟨1, 8, false, [.nilFunc], .other, none⟩),
  (106, ⟨1, 8, false, [.nilFunc], .other, none⟩),
  (107, ⟨1, 8, false, [.nilFunc], .other, none⟩),
  (108, ⟨1, 8, false, [.nilFunc], .other, none⟩),
  (109, ⟨1, 8, false, [.nilFunc], .other, none⟩),
  (110, ⟨1, 8, false, [.nilFunc], .other, none⟩),
  (111, ⟨1, 8, false, [.pointer none], .ptr, none⟩),
  (112, ⟨24, 24, true, [.int .u8 0, .int .u8 0, .int .u8 0, .int .u8 0, .int .u8 0, .int .u8 0, .int .u8 0, .int .u8 0, .int .u8 0, .int .u8 0, .int .u8 0, .int .u8 0, .int .u8 0, .int .u8 0, .int .u8 0, .int .u8 0, .int .u8 0, .int .u8 0, .int .u8 0, .int .u8 0, .int .u8 0, .int .u8 0, .int .u8 0, .int .u8 0], .array 24 5, none⟩),
  (113, ⟨1, 8, false, [.int .u64 0], .int .u64, none⟩),
  (114, ⟨1, 8, false, [.nilFunc], .other, none⟩),
  (115, ⟨1, 8, false, [.nilFunc], .other, none⟩),
  (117, ⟨1, 8, false, [.nilFunc], .other, none⟩),
  (118, ⟨1, 8, false, [.pointer none], .ptr, none⟩),
  (119, ⟨1, 8, false, [.nilFunc], .other, none⟩),
  (120, ⟨1, 8, false, [.nilFunc], .other, none⟩),
  (121, ⟨1, 8, false, [.nilFunc], .other, none⟩),
  (122, ⟨1, 8, false, [.nilFunc], .other, none⟩),
  (126, ⟨1, 8, false, [.nilFunc], .other, none⟩),
  (127, ⟨1, 8, false, [.nilFunc], .other, none⟩),
  (128, ⟨1, 8, false, [.pointer none], .ptr, none⟩),
  (130, ⟨1, 8, false, [.int .u64 0], .int .u64, none⟩),
  (137, ⟨1, 1, false, [.int .u8 0], .int .u8, none⟩),
  (141, ⟨1, 8, false, [.nilFunc], .other, none⟩),
  (142, ⟨20, 160, true, [.int .u64 0, .int .u64 0, .int .u64 0, .int .u64 0, .int .u64 0, .int .u64 0, .int .u64 0, .int .u64 0, .int .u64 0, .int .u64 0, .int .u64 0, .int .u64 0, .int .u64 0, .int .u64 0, .int .u64 0, .int .u64 0, .int .u64 0, .int .u64 0, .int .u64 0, .int .u64 0], .array 20 113, none⟩),
  (143, ⟨1, 4, false, [.int .u32 0], .int .u32, none⟩),
  (145, ⟨1, 8, false, [.nilFunc], .other, none⟩),
  (146, ⟨1, 8, false, [.int .u64 0], .int .u64, none⟩),
  (147, ⟨1, 8, false, [.nilFunc], .other, none⟩),
  (149, ⟨1, 8, false, [.nilFunc], .other, none⟩),
  (150, ⟨1, 8, false, [.nilFunc], .other, none⟩),
  (152, ⟨1, 8, false, [.nilFunc], .other, none⟩),
  (153, ⟨1, 8, false, [.nilFunc], .other, none⟩),
  (155, ⟨1, 8, false, [.nilFunc], .other, none⟩),
  (162, ⟨1, 16, false, [.nilIface], .iface true, none⟩),
  (164, ⟨1, 8, false, [.nilFunc], .other, none⟩),
  (165, ⟨1, 16, false, [.nilIface], .iface true, none⟩),
  (166, ⟨1, 24, false, [.slice none 0 0], .slice 29, none⟩),
  (167, ⟨1, 8, false, [.nilFunc], .other, none⟩),
  (168, ⟨1, 8, false, [.nilFunc], .other, none⟩),
  (169, ⟨1, 8, false, [.nilFunc], .other, none⟩),
  (170, ⟨1, 8, false, [.nilFunc], .other, none⟩),
  (171, ⟨32, 32, true, [.int .u8 0, .int .u8 0, .int .u8 0, .int .u8 0, .int .u8 0, .int .u8 0, .int .u8 0, .int .u8 0, .int .u8 0, .int .u8 0, .int .u8 0, .int .u8 0, .int .u8 0, .int .u8 0, .int .u8 0, .int .u8 0, .int .u8 0, .int .u8 0, .int .u8 0, .int .u8 0, .int .u8 0, .int .u8 0, .int .u8 0, .int .u8 0, .int .u8 0, .int .u8 0, .int .u8 0, .int .u8 0, .int .u8 0, .int .u8 0, .int .u8 0, .int .u8 0], .array 32 5, none⟩),
  (174, ⟨2, 2, true, [.int .u8 0, .int .u8 0], .struct [(0, 1, false), (1, 1, false)], none⟩),
  (175, ⟨2, 2, true, [.int .u8 0, .int .u8 0], .struct [(0, 1, false), (1, 1, false)], some [.int, .int]⟩),
  (176, ⟨32, 32, true, [.int .u8 0, .int .u8 0, .int .u8 0, .int .u8 0, .int .u8 0, .int .u8 0, .int .u8 0, .int .u8 0, .int .u8 0, .int .u8 0, .int .u8 0, .int .u8 0, .int .u8 0, .int .u8 0, .int .u8 0, .int .u8 0, .int .u8 0, .int .u8 0, .int .u8 0, .int .u8 0, .int .u8 0, .int .u8 0, .int .u8 0, .int .u8 0, .int .u8 0, .int .u8 0, .int .u8 0, .int .u8 0, .int .u8 0, .int .u8 0, .int .u8 0, .int .u8 0], .array 16 175, none⟩),
  (177, ⟨1, 8, false, [.nilFunc], .other, none⟩),
  (178, ⟨1, 8, false, [.int .i64 0], .int .i64, none⟩),
  (180, ⟨1, 8, false, [.nilFunc], .other, none⟩),
  (181, ⟨1, 8, false, [.pointer none], .ptr, none⟩),
  (182, ⟨1, 8, false, [.nilFunc], .other, none⟩),
  (183, ⟨1, 8, false, [.nilFunc], .other, none⟩),
  (184, ⟨1, 8, false, [.nilFunc], .other, none⟩),
  (185, ⟨1, 8, false, [.nilFunc], .other, none⟩),
  (186, ⟨3, 48, true, [.string .empty, .string .empty, .nilIface], .struct [(0, 1, false), (1, 1, false), (2, 1, false)], none⟩),
  (187, ⟨3, 48, true, [.string .empty, .string .empty, .nilIface], .struct [(0, 1, false), (1, 1, false), (2, 1, false)], none⟩),
  (188, ⟨1, 8, false, [.nilFunc], .other, none⟩),
  (189, ⟨1, 8, false, [.pointer none], .ptr, none⟩),
  (190, ⟨1, 16, true, [.string .empty], .struct [(0, 1, false)], none⟩),
  (191, ⟨1, 16, true, [.string .empty], .struct [(0, 1, false)], some [.str]⟩),
  (197, ⟨1, 8, false, [.nilFunc], .other, none⟩),
  (199, ⟨1, 1, false, [.int .u8 0], .int .u8, none⟩),
  (201, ⟨1, 4, false, [.int .i32 0], .int .i32, none⟩),
  (202, ⟨1, 4, false, [.int .i32 0], .int .i32, none⟩),
  (205, ⟨1, 8, false, [.nilFunc], .other, none⟩),
  (211, ⟨1, 2, false, [.int .u16 0], .int .u16, none⟩),
  (215, ⟨1, 4, false, [.int .i32 0], .int .i32, none⟩),
  (218, ⟨1, 8, false, [.pointer none], .ptr, none⟩)]


def gl : Env := [(0, .r [.v (.int .i64 0), .v (.int .i64 (-1))]), (2, .r [.v (.string ⟨#[33, 61]⟩), .v (.string ⟨#[94, 61]⟩), .v (.string ⟨#[33, 94]⟩), .v (.string ⟨#[61]⟩), .v (.string ⟨#[123]⟩), .v (.string ⟨#[125]⟩), .v (.string ⟨#[91]⟩), .v (.string ⟨#[93]⟩), .v (.string ⟨#[40]⟩), .v (.string ⟨#[41]⟩), .v (.string ⟨#[44]⟩), .v (.string ⟨#[43]⟩), .v (.string ⟨#[45]⟩), .v (.string ⟨#[42]⟩), .v (.string ⟨#[47]⟩)]), (1, .r [.v (.string ⟨#[61]⟩), .v (.string ⟨#[33, 61]⟩), .v (.string ⟨#[94, 61]⟩), .v (.string ⟨#[33, 94]⟩)]), (3, .r [.v (.string ⟨#[99, 111, 117, 110, 116]⟩), .v (.string ⟨#[115, 117, 109]⟩), .v (.string ⟨#[109, 105, 110]⟩), .v (.string ⟨#[109, 97, 120]⟩), .v (.string ⟨#[100, 101, 108, 116, 97]⟩)]), (4, .r [.v (.string ⟨#[116, 111, 116, 97, 108]⟩), .v (.string ⟨#[108, 101, 97, 115, 116]⟩), .v (.string ⟨#[109, 111, 115, 116]⟩), .v (.string ⟨#[109, 97, 110, 121]⟩)]), (13, .r [.ifc 189 (.r [.v (.string ⟨#[118, 97, 108, 117, 101, 32, 111, 117, 116, 32, 111, 102, 32, 114, 97, 110, 103, 101]⟩)])]), (12, .r [.ifc 189 (.r [.v (.string ⟨#[105, 110, 118, 97, 108, 105, 100, 32, 115, 121, 110, 116, 97, 120]⟩)])]), (6, .r [.v (.int .u64 1), .v (.int .u64 10), .v (.int .u64 100), .v (.int .u64 1000), .v (.int .u64 10000), .v (.int .u64 100000), .v (.int .u64 1000000), .v (.int .u64 10000000), .v (.int .u64 100000000), .v (.int .u64 1000000000), .v (.int .u64 10000000000), .v (.int .u64 100000000000), .v (.int .u64 1000000000000), .v (.int .u64 10000000000000), .v (.int .u64 100000000000000), .v (.int .u64 1000000000000000), .v (.int .u64 10000000000000000), .v (.int .u64 100000000000000000), .v (.int .u64 1000000000000000000), .v (.int .u64 10000000000000000000)]), (5, .r [.v (.iface 157 (.agg #[.pointer (some ⟨14, 29, none⟩)]))])]
noncomputable def pg : Pg := ⟨Tryz.prog, tyTab, gl⟩
theorem pg_ok : pg.Ok := Pg.ok_of (by kernel_rfl) (by kernel_rfl)
abbrev gi (x : Int) : GV := .v (.int .i64 x)
theorem wrap_id {x : Int} (h : -9223372036854775808 ≤ x) (h' : x ≤ 9223372036854775807) : IntKind.i64.wrap x = x := by rw [IntKind.wrap_i64]; omega
theorem succ_gi {i : Nat} (h : i < 9223372036854775807) : some (gi (IntKind.i64.wrap (i + 1 : Int))) = some (gi ((i + 1 : Nat) : Int)) := by
  rw [wrap_id (by omega) (by omega)]
  rfl
theorem tail_map {α : Type} (z : Nat) (f : α → List GV) (y : α) (l : List α) : some (GV.sl z ((((y :: l).map f).take (((y :: l).map f).length : Int).toNat).drop (1 : Int).toNat)) = some (GV.sl z (l.map f)) := by
  simp only [Int.toNat_natCast, List.take_length]
  rfl
theorem idx {α : Type} {f : α → List GV} {l : List α} {i : Int} {K : List GV → Prop} (k : Nat) (hi : i = k) (hk : k < l.length) (h : K (f l[k])) : ∃ row, 0 ≤ i ∧ (l.map f)[i.toNat]? = some row ∧ K row := by
  subst hi
  exact ⟨f l[k], by omega, by simp [hk], h⟩
theorem cut_lo {α : Type} (f : α → List GV) (l : List α) (k : Nat) : ((l.map f).take (k : Int).toNat).drop (0 : Int).toNat = (l.take k).map f := by simp
theorem cut_hi {α : Type} (f : α → List GV) (l : List α) (k : Nat) : ((l.map f).take ((l.map f).length : Int).toNat).drop (k : Int).toNat = (l.drop k).map f := by
  simp only [Int.toNat_natCast, List.take_length]
  simp
theorem ons_mk {x : Option GV} {g : GV} {K : GV → Prop} (h : x = some g) (k : K g) : ons x K := by subst h; exact k
abbrev gs (s : ByteArray) : GV := .v (.string s)
def rr (a b : Nat) : Nat → Nat := fun i => bif Nat.beq i 0 then a else b
theorem rr_lt {a b n : Nat} (ha : Nat.blt a n = true) (hb : Nat.blt b n = true) : ∀ i, i < 2 → rr a b i < n := fun i _ => by
  rw [Nat.blt_eq] at ha hb
  unfold rr
  cases Nat.beq i 0 <;> assumption
def r1 (a b : Nat) : Nat → Nat := fun i => bif Nat.beq i a then b else i
theorem pos {c : Bool} {A B : Prop} (h : c = true) (k : A) : (c = true → A) ∧ (c = false → B) := ⟨fun _ => k, fun e => absurd (h.symm.trans e) (by decide)⟩
theorem neg {c : Bool} {A B : Prop} (h : c = false) (k : B) : (c = true → A) ∧ (c = false → B) := ⟨fun e => absurd (h.symm.trans e) (by decide), fun _ => k⟩
theorem pos' {c : Bool} {A B : Prop} (h : c = true) (k : B) : (c = false → A) ∧ (c = true → B) := ⟨fun e => absurd (h.symm.trans e) (by decide), fun _ => k⟩
theorem neg' {c : Bool} {A B : Prop} (h : c = false) (k : A) : (c = false → A) ∧ (c = true → B) := ⟨fun _ => k, fun e => absurd (h.symm.trans e) (by decide)⟩
theorem tf (c : Bool) : c = true ∨ c = false := by cases c <;> simp
theorem p1 {c : Bool} {A B : Prop} (k : A) (h : c = true := by first | with_reducible rfl | with_reducible assumption | rfl | exact decide_eq_true (by omega) | (simp; omega)) : (c = true → A) ∧ (c = false → B) := pos h k
theorem p2 {c : Bool} {A B : Prop} (k : B) (h : c = false := by first | with_reducible rfl | with_reducible assumption | rfl | exact decide_eq_false (by omega) | (simp; omega)) : (c = true → A) ∧ (c = false → B) := neg h k
theorem p3 {c : Bool} {A B : Prop} (k : B) (h : c = true := by first | with_reducible rfl | with_reducible assumption | rfl | exact decide_eq_true (by omega) | (simp; omega)) : (c = false → A) ∧ (c = true → B) := pos' h k
theorem p4 {c : Bool} {A B : Prop} (k : A) (h : c = false := by first | with_reducible rfl | with_reducible assumption | rfl | exact decide_eq_false (by omega) | (simp; omega)) : (c = false → A) ∧ (c = true → B) := neg' h k
theorem ix {α : Type} {f : α → List GV} {l : List α} {i : Nat} {K : List GV → Prop} (hk : i < l.length := by omega) (h : K (f (l[i]'hk))) : ∃ row, 0 ≤ (i : Int) ∧ (l.map f)[((i : Nat) : Int).toNat]? = some row ∧ K row := ⟨f l[i], by omega, by simp [hk], h⟩
theorem sx {s : ByteArray} {i : Nat} {K : UInt8 → Prop} (hk : i < s.size := by omega) (h : K (s[i]'hk)) : ∃ b, 0 ≤ (i : Int) ∧ s[((i : Nat) : Int).toNat]? = some b ∧ K b := ⟨s[i], by omega, by rw [Int.toNat_natCast]; exact getElem?_pos s i hk, h⟩

section
variable {N n0 : Nat} {H0 : Hid} {S0 : List Nat} {w0 : World} {h0 : H0.n = n0} {g0 : GlOk pg H0} {T : Post} {k : List It} {s : St}
theorem V (h : vc ⟨pg, N, n0, H0, S0, w0, h0, g0⟩ T 400 k s) : JK ⟨pg, N, n0, H0, S0, w0, h0, g0⟩ T k s := vc_sound pg_ok 400 k s h
theorem GO {all : List Oper} {o : Oper} {rest : List Oper} {f : FuncId} {cargs : List GV} {G : GV} (hr : Rt pg f cargs G) (hk : callG pg all s.ρ o = some (f, cargs))
    (h : dputV N s.ρ o.dst G fun ρ' => vc ⟨pg, N, n0, H0, S0, w0, h0, g0⟩ T 400 (.ops false all rest :: k) ⟨ρ', s.σ, s.n⟩) (hb : idbL 0 cargs = true := by rfl) : JK ⟨pg, N, n0, H0, S0, w0, h0, g0⟩ T (.ops false all (o :: rest) :: k) s := JK.go pg_ok hr hk hb h
theorem GOQ {all : List Oper} {o : Oper} {rest : List Oper} {f : FuncId} {cargs : List GV} {Q : GV → Prop} (hr : Rq pg f cargs Q) (hk : callG pg all s.ρ o = some (f, cargs))
    (h : ∀ g, Q g → dputV N s.ρ o.dst g fun ρ' => vc ⟨pg, N, n0, H0, S0, w0, h0, g0⟩ T 400 (.ops false all rest :: k) ⟨ρ', s.σ, s.n⟩) (hb : idbL 0 cargs = true := by rfl) : JK ⟨pg, N, n0, H0, S0, w0, h0, g0⟩ T (.ops false all (o :: rest) :: k) s := JK.goQ pg_ok hr hk hb h
theorem GOB {all : List Oper} {o : Oper} {rest : List Oper} {f : FuncId} {cargs gs : List GV} {G : GV} (hr : Rt pg f cargs G) (hk : callG pg all s.ρ o = some (f, gs)) (hl : lents s.σ gs cargs)
    (h : dputV N s.ρ o.dst G fun ρ' => vc ⟨pg, N, n0, H0, S0, w0, h0, g0⟩ T 400 (.ops false all rest :: k) ⟨ρ', s.σ, s.n⟩) (hf : roFree G = true := by rfl) : JK ⟨pg, N, n0, H0, S0, w0, h0, g0⟩ T (.ops false all (o :: rest) :: k) s := JK.goB pg_ok hr hk hl hf h
theorem GOH {all : List Oper} {o : Oper} {rest : List Oper} {f : FuncId} {m : Nat} {cargs gs : List GV} {σc : Heap} {Q : GV → Heap → Nat → Prop} (hr : Hf pg f m cargs σc Q) (r : Nat → Nat) (hk : callG pg all s.ρ o = some (f, gs)) (hargs : gs = renL r cargs) (hσ : leσ r σc s.σ)
    (chk : (idbL m cargs && idbH m σc && distB (hids r σc)) = true) (hrn : ∀ i, i < m → r i < s.n)
    (h : ∀ g σ' n', Q g σ' n' → nf (ren (sh r m s.n) g) fun g => nfH (renH (sh r m s.n) σ' ++ hrest (hids r σc) s.σ) fun σ => nfN (s.n + (n' - m)) fun n => dput N s.ρ o.dst g fun ρ' => vc ⟨pg, N, n0, H0, S0, w0, h0, g0⟩ T 400 (.ops false all rest :: k) ⟨ρ', σ, n⟩) :
    JK ⟨pg, N, n0, H0, S0, w0, h0, g0⟩ T (.ops false all (o :: rest) :: k) s := JK.goH pg_ok hr r hk hargs hσ chk hrn h
theorem FZB (id : Nat) {ty : Nat} {cs0 : List GV} (hl : hlook s.σ id = some (.blk ty cs0)) (hb0 : idbL 0 cs0 = true) (h : nfH (fzbH id cs0 (hdel s.σ id)) fun σ => nfE (fzbE id cs0 s.ρ) fun ρ => vc ⟨pg, N, n0, H0, S0, w0, h0, g0⟩ T 400 k ⟨ρ, σ, s.n⟩) : JK ⟨pg, N, n0, H0, S0, w0, h0, g0⟩ T k s := by
  rw [nfH_eq, nfE_eq] at h
  refine JK.freezeB id hl hb0 ?_
  rw [nfH_eq]
  exact V h
theorem FRZ (id : Nat) {ty sz : Nat} {rows : List (List GV)} (hl : hlook s.σ id = some (.row ty sz rows)) (h : nfH (frzH id sz rows (hdel s.σ id)) fun σ => nfE (frzE id sz rows s.ρ) fun ρ => vc ⟨pg, N, n0, H0, S0, w0, h0, g0⟩ T 400 k ⟨ρ, σ, s.n⟩) : JK ⟨pg, N, n0, H0, S0, w0, h0, g0⟩ T k s := by
  rw [nfH_eq, nfE_eq] at h
  refine JK.freeze id hl ?_
  rw [nfH_eq]
  exact V h
theorem DRAW {id : Nat} {ops : Array Oper} (M : List Nat) (e : Bool) (order : List (Nat × Bool)) (hB : (Region.noSelect ops && ordB ops.toList e order (List.replicate ops.toList.length false)) = true)
    (h : rvc ⟨pg, N, n0, H0, S0, w0, h0, g0⟩ T ops.toList k (hrest M s.σ ++ lns (hsel M s.σ)) e order ops.toList.length (List.replicate ops.toList.length false) s.ρ ⟨s.ρ, hsel M s.σ, s.n⟩) (hT : ∀ ch s, ¬ T (.panic ch) s := by intro _ _ h; exact h) : JK ⟨pg, N, n0, H0, S0, w0, h0, g0⟩ T (.code (.region id ops true) :: k) s := by
  simp only [Bool.and_eq_true] at hB
  exact JK.draw M pg_ok (RA.run pg_ok hB.1 hT order hB.2 h)
theorem RGO {ops : List Oper} {σs : Heap} {ρq : Env} {fuel : Nat} {listed : List Bool} (i : Nat) (e : Bool) (order : List (Nat × Bool)) {o : Oper} {f : FuncId} {cargs : List GV} {G : GV} (hr : Rt pg f cargs G) (hi : ops[i]? = some o) (hk : callG pg ops s.ρ o = some (f, cargs))
    (hB : (Region.noSelect ops.toArray && eqB (Region.ready .any ops.toArray listed.toArray) [i] && ordB ops e order (listed.set i true)) = true)
    (h : dputV N s.ρ o.dst G fun ρ' => nfE (qput ρq o.dst G) fun ρq => rvc ⟨pg, N, n0, H0, S0, w0, h0, g0⟩ T ops k σs e order fuel (listed.set i true) ρq ⟨ρ', s.σ, s.n⟩) (hb : idbL 0 cargs = true := by rfl) (hT : ∀ ch s, ¬ T (.panic ch) s := by intro _ _ h; exact h) : RA ⟨pg, N, n0, H0, S0, w0, h0, g0⟩ T ops k σs ρq (fuel + 1) listed s := by
  simp only [Bool.and_eq_true] at hB
  exact RA.goA i order e pg_ok hB.1.1 hT hr hi hk hb (by simp only [hB.1.2, hB.2, Bool.and_self]) h
theorem RGOB {ops : List Oper} {σs : Heap} {ρq : Env} {fuel : Nat} {listed : List Bool} (i : Nat) (e : Bool) (order : List (Nat × Bool)) {o : Oper} {f : FuncId} {cargs gs : List GV} {G : GV} (hr : Rt pg f cargs G) (hi : ops[i]? = some o) (hk : callG pg ops s.ρ o = some (f, gs)) (hl : lents (s.σ ++ σs) gs cargs)
    (hB : (Region.noSelect ops.toArray && eqB (Region.ready .any ops.toArray listed.toArray) [i] && ordB ops e order (listed.set i true)) = true)
    (h : dputV N s.ρ o.dst G fun ρ' => nfE (qput ρq o.dst G) fun ρq => rvc ⟨pg, N, n0, H0, S0, w0, h0, g0⟩ T ops k σs e order fuel (listed.set i true) ρq ⟨ρ', s.σ, s.n⟩) (hfree : roFree G = true := by rfl) (hT : ∀ ch s, ¬ T (.panic ch) s := by intro _ _ h; exact h) : RA ⟨pg, N, n0, H0, S0, w0, h0, g0⟩ T ops k σs ρq (fuel + 1) listed s := by
  simp only [Bool.and_eq_true] at hB
  exact RA.goB i order e pg_ok hB.1.1 hT hr hi hk hl hfree (by simp only [hB.1.2, hB.2, Bool.and_self]) h
theorem RSKIP {ops : List Oper} {σs : Heap} {ρq : Env} {fuel : Nat} {listed : List Bool} (i : Nat) (e : Bool) (order : List (Nat × Bool)) {o : Oper} (hi : ops[i]? = some o) (hgd : gdNo ops s.ρ o.guard = true)
    (hB : (Region.noSelect ops.toArray && eqB (Region.ready .any ops.toArray listed.toArray) [i] && ordB ops e order (listed.set i true)) = true)
    (h : dputV N s.ρ o.dst (.v undef) fun ρ' => nfE (eput ρq o.dst (.v undef)) fun ρq => rvc ⟨pg, N, n0, H0, S0, w0, h0, g0⟩ T ops k σs e order fuel (listed.set i true) ρq ⟨ρ', s.σ, s.n⟩) (hT : ∀ ch s, ¬ T (.panic ch) s := by intro _ _ h; exact h) : RA ⟨pg, N, n0, H0, S0, w0, h0, g0⟩ T ops k σs ρq (fuel + 1) listed s := by
  simp only [Bool.and_eq_true] at hB
  exact RA.skipA i order e pg_ok hB.1.1 hT hi hgd (by simp only [hB.1.2, hB.2, Bool.and_self]) h
end
theorem _root_.Go.GK.Rq.bt {f : FuncId} {args : List GV} {c : Bool} (h : Rt pg f args (.b c)) {d : Bool} (e : c = d) : Rt pg f args (.v (.bool d)) :=
  ⟨h.call, fun H us w hn hg hcs hs => (h.ct H us w hn hg hcs hs).mono fun _ _ ⟨u, g, H', σ', e', hi, hs', hfr, ⟨hv, _⟩, r⟩ => ⟨u, .v (.bool d), H', σ', e', by subst hv; subst e; have := hi.inv_b; subst this; exact .ro (.v _), hs', hfr, ⟨rfl, rfl⟩, r⟩⟩
theorem _root_.Go.GK.Rq.old {f : FuncId} {args : List GV} {G : GV} (hc : ∀ a w, (callFunc f a).run pg.P w = .ok (.enter f a) w) (h : Ct pg f 0 args [] (Val fun g => g = G)) (hi : idb 0 G = true := by rfl) : Rt pg f args G :=
  ⟨hc, fun H us w hn hg hcs hs => (h H us w hn hg hcs hs).mono fun _ _ ⟨u, g, H', σ', e', hi', hs', hfr, hv, r⟩ => ⟨u, g, H', σ', e', hi', hs', hfr, ⟨hv, by rw [hv]; exact hi⟩, r⟩⟩
theorem _root_.Go.GK.Rq.nl {f : FuncId} {pre suf : List GV} {z : Nat} {Q : GV → Prop} (h : Rq pg f (pre ++ .sl z [] :: suf) Q) : Rq pg f (pre ++ .v (.slice none 0 0) :: suf) Q :=
  ⟨h.call, fun H us w hn hg hcs hs => h.ct H us w hn hg ⟨by rw [← hcs.1]; simp, fun j g hj => by
    by_cases hjp : j = pre.length
    · subst hjp
      rw [List.getElem?_append_right (Nat.le_refl _), Nat.sub_self] at hj
      cases hj
      have := (hcs.2 pre.length (.v (.slice none 0 0)) (by rw [List.getElem?_append_right (Nat.le_refl _), Nat.sub_self]; rfl)).inv_v
      rw [this]
      exact .ro .slnil
    · refine hcs.2 j g ?_
      by_cases hlt : j < pre.length
      · rw [List.getElem?_append_left hlt] at hj ⊢; exact hj
      · rw [List.getElem?_append_right (by omega)] at hj ⊢
        obtain ⟨k, hk⟩ : ∃ k, j - pre.length = k + 1 := ⟨j - pre.length - 1, by omega⟩
        rw [hk] at hj ⊢; exact hj⟩ hs⟩
theorem noP {p : Pg} {rs : List ResultVar} {Q : GV → Heap → Nat → Prop} : ∀ ch s, ¬ retT p rs Q (.panic ch) s := fun _ _ h => h
end Go.Proofs.YtihakhdinkkdmaaGreatDoor
/-
  Plain laws: comparisons that tell -1, 0, 1; lists one by one; strings. No program is in sight.
-/
namespace Go.PL
open Go Go.GK

structure IsC {α : Type} (f : α → α → Int) : Prop where
  rng : ∀ a b, f a b = -1 ∨ f a b = 0 ∨ f a b = 1
  anti : ∀ a b, f b a = -f a b
  eq0 : ∀ a b, f a b = 0 ↔ a = b
  trans : ∀ a b c, f a b = -1 → f b c = -1 → f a c = -1

theorem IsC.self {α : Type} {f : α → α → Int} (h : IsC f) (a : α) : f a a = 0 := (h.eq0 a a).2 rfl
theorem IsC.gt {α : Type} {f : α → α → Int} (h : IsC f) {a b : α} (x : f a b = 1) : f b a = -1 := by rw [h.anti, x]

def lexC {α : Type} (f : α → α → Int) : List α → List α → Int
  | [], [] => 0
  | [], _ :: _ => -1
  | _ :: _, [] => 1
  | a :: aas, b :: bs => if f a b = 0 then lexC f aas bs else f a b

theorem lexC_is {α : Type} {f : α → α → Int} (h : IsC f) : IsC (lexC f) := by
  refine ⟨?_, ?_, ?_, ?_⟩
  · intro a
    induction a with
    | nil => intro b; cases b <;> simp [lexC]
    | cons x a ih =>
      intro b
      cases b with
      | nil => simp [lexC]
      | cons y b =>
        simp only [lexC]
        split
        · exact ih b
        · exact h.rng x y
  · intro a
    induction a with
    | nil => intro b; cases b <;> simp [lexC]
    | cons x a ih =>
      intro b
      cases b with
      | nil => simp [lexC]
      | cons y b =>
        simp only [lexC, h.anti x y]
        by_cases e : f x y = 0
        · rw [if_pos (by rw [e]; rfl), if_pos e]; exact ih b
        · rw [if_neg (by omega), if_neg e]
  · intro a
    induction a with
    | nil => intro b; cases b <;> simp [lexC]
    | cons x a ih =>
      intro b
      cases b with
      | nil => simp [lexC]
      | cons y b =>
        simp only [lexC]
        by_cases e : f x y = 0
        · rw [if_pos e, ih b, (h.eq0 x y).1 e]
          simp
        · rw [if_neg e]
          refine ⟨fun k => (e k).elim, fun k => ?_⟩
          injection k with k1 k2
          exact (e ((h.eq0 x y).2 k1)).elim
  · intro a
    induction a with
    | nil =>
      intro b c
      cases c with
      | nil => cases b <;> simp [lexC]
      | cons z c => intro _ _; rfl
    | cons x a ih =>
      intro b c h1 h2
      cases b with
      | nil => simp [lexC] at h1
      | cons y b =>
        cases c with
        | nil => simp [lexC] at h2
        | cons z c =>
          simp only [lexC] at h1 h2 ⊢
          by_cases e1 : f x y = 0
          · rw [if_pos e1] at h1
            have := (h.eq0 x y).1 e1
            subst this
            by_cases e2 : f x z = 0
            · rw [if_pos e2] at h2 ⊢
              exact ih b c h1 h2
            · rw [if_neg e2] at h2 ⊢
              exact h2
          · rw [if_neg e1] at h1
            by_cases e2 : f y z = 0
            · have := (h.eq0 y z).1 e2
              subst this
              rw [if_neg e1]; exact h1
            · rw [if_neg e2] at h2
              have := h.trans x y z h1 h2
              rw [if_neg (by omega)]; exact this

def thenC {α β : Type} (f : α → α → Int) (g : β → β → Int) (a b : α × β) : Int := if f a.1 b.1 = 0 then g a.2 b.2 else f a.1 b.1
theorem thenC_is {α β : Type} {f : α → α → Int} {g : β → β → Int} (hf : IsC f) (hg : IsC g) : IsC (thenC f g) := by
  refine ⟨fun a b => ?_, fun a b => ?_, fun a b => ?_, fun a b c h1 h2 => ?_⟩
  · unfold thenC; split
    · exact hg.rng _ _
    · exact hf.rng _ _
  · unfold thenC
    rw [hf.anti a.1 b.1]
    by_cases e : f a.1 b.1 = 0
    · rw [if_pos (by omega), if_pos e]; exact hg.anti _ _
    · rw [if_neg (by omega), if_neg e]
  · unfold thenC
    obtain ⟨a1, a2⟩ := a
    obtain ⟨b1, b2⟩ := b
    by_cases e : f a1 b1 = 0
    · have e1 := (hf.eq0 a1 b1).1 e
      subst e1
      simp only [e, if_true, hg.eq0, Prod.mk.injEq, true_and]
    · simp only [e, if_false, Prod.mk.injEq, false_iff]
      exact fun k => e ((hf.eq0 _ _).2 k.1)
  · unfold thenC at h1 h2 ⊢
    obtain ⟨a1, a2⟩ := a
    obtain ⟨b1, b2⟩ := b
    obtain ⟨c1, c2⟩ := c
    simp only at h1 h2 ⊢
    by_cases e1 : f a1 b1 = 0
    · rw [if_pos e1] at h1
      have := (hf.eq0 _ _).1 e1
      subst this
      by_cases e2 : f a1 c1 = 0
      · rw [if_pos e2] at h2 ⊢; exact hg.trans _ _ _ h1 h2
      · rw [if_neg e2] at h2 ⊢; exact h2
    · rw [if_neg e1] at h1
      by_cases e2 : f b1 c1 = 0
      · have := (hf.eq0 _ _).1 e2
        subst this
        rw [if_neg e1]; exact h1
      · rw [if_neg e2] at h2
        have := hf.trans _ _ _ h1 h2
        rw [if_neg (by omega)]; exact this

def cmpU (a b : UInt8) : Int := if a < b then -1 else if b < a then 1 else 0
theorem cmpU_is : IsC cmpU := by
  refine ⟨fun a b => ?_, fun a b => ?_, fun a b => ?_, fun a b c h1 h2 => ?_⟩
  · unfold cmpU
    split
    · exact .inl rfl
    · split
      · exact .inr (.inr rfl)
      · exact .inr (.inl rfl)
  · unfold cmpU
    simp only [UInt8.lt_iff_toNat_lt]
    repeat' split <;> first | rfl | omega
  · unfold cmpU
    simp only [UInt8.lt_iff_toNat_lt, ← UInt8.toNat_inj]
    split
    · exact ⟨fun h => by simp at h, fun h => by omega⟩
    · split
      · exact ⟨fun h => by simp at h, fun h => by omega⟩
      · exact ⟨fun _ => by omega, fun _ => rfl⟩
  · unfold cmpU at h1 h2 ⊢
    simp only [UInt8.lt_iff_toNat_lt] at h1 h2 ⊢
    have h1' : a.toNat < b.toNat := by
      by_cases h : a.toNat < b.toNat
      · exact h
      · rw [if_neg h] at h1; split at h1 <;> simp at h1
    have h2' : b.toNat < c.toNat := by
      by_cases h : b.toNat < c.toNat
      · exact h
      · rw [if_neg h] at h2; split at h2 <;> simp at h2
    rw [if_pos (by omega)]

theorem cmpBytes (a b : List UInt8) : Lib.compareBytes a b = lexC cmpU a b := by
  induction a generalizing b with
  | nil => cases b <;> rfl
  | cons x a ih =>
    cases b with
    | nil => rfl
    | cons y b =>
      simp only [Lib.compareBytes, lexC, ih]
      unfold cmpU
      by_cases h1 : x < y
      · simp [h1]
      · by_cases h2 : y < x
        · simp [h1, h2]
        · simp [h1, h2]

def cmpS (a b : ByteArray) : Int := lexC cmpU a.data.toList b.data.toList
theorem ba_inj {a b : ByteArray} (h : a.data.toList = b.data.toList) : a = b := ByteArray.ext (by simpa using h)
theorem cmpS_is : IsC cmpS := by
  have h := lexC_is cmpU_is
  exact ⟨fun a b => h.rng _ _, fun a b => h.anti _ _, fun a b => ⟨fun e => ba_inj ((h.eq0 _ _).1 e), fun e => by rw [e]; exact (h.eq0 _ _).2 rfl⟩, fun a b c => h.trans _ _ _⟩

abbrev sEq (a b : ByteArray) : Bool := a.toList == b.toList
abbrev sLt (a b : ByteArray) : Bool := Op.bytesLess a.toList b.toList
theorem sEq_iff {a b : ByteArray} : sEq a b = true ↔ a = b := by
  unfold sEq
  rw [ByteArray.toList_eq, ByteArray.toList_eq, beq_iff_eq]
  exact ⟨ba_inj, fun e => by rw [e]⟩
theorem sEq_self (a : ByteArray) : sEq a a = true := sEq_iff.2 rfl
theorem sEq_false {a b : ByteArray} : sEq a b = false ↔ a ≠ b := by
  rw [← Bool.not_eq_true, ne_eq, sEq_iff]
theorem bytesLess_cmp : ∀ (a b : List UInt8), Op.bytesLess a b = decide (lexC cmpU a b = -1)
  | [], [] => rfl
  | [], _ :: _ => rfl
  | _ :: _, [] => rfl
  | x :: a, y :: b => by
    simp only [Op.bytesLess, lexC, bytesLess_cmp a b]
    unfold cmpU
    by_cases h1 : x < y
    · simp [h1]
    · by_cases h2 : y < x
      · have : x ≠ y := fun e => by subst e; exact h1 h2
        simp [h1, h2, this]
      · have : x = y := by
          rw [← UInt8.toNat_inj]
          rw [UInt8.lt_iff_toNat_lt] at h1 h2
          omega
        simp [this]
theorem sLt_cmp (a b : ByteArray) : sLt a b = decide (cmpS a b = -1) := by
  unfold sLt cmpS
  rw [ByteArray.toList_eq, ByteArray.toList_eq, bytesLess_cmp]
theorem sLt_iff {a b : ByteArray} : sLt a b = true ↔ cmpS a b = -1 := by rw [sLt_cmp, decide_eq_true_iff]
end Go.PL
/-
  Plain laws: labels and matchers. No program is in sight.
-/
namespace Go.PL
open Go Go.GK

structure Lb where
  name : ByteArray
  value : ByteArray
structure Mt where
  name : ByteArray
  op : Int
  value : ByteArray
instance : Inhabited Lb := ⟨⟨⟨#[]⟩, ⟨#[]⟩⟩⟩
instance : Inhabited Mt := ⟨⟨⟨#[]⟩, 0, ⟨#[]⟩⟩⟩

def anyB (n : Nat) (p : Nat → Bool) : Bool := (List.range n).any p
theorem anyB_true {n i : Nat} {p : Nat → Bool} (h : i < n) (hp : p i = true) : anyB n p = true := List.any_eq_true.2 ⟨i, List.mem_range.2 h, hp⟩
theorem anyB_false {n : Nat} {p : Nat → Bool} (h : ∀ i, i < n → p i = false) : anyB n p = false := by
  unfold anyB
  rw [List.any_eq_false]
  intro x hx
  rw [h x (List.mem_range.1 hx)]
  decide
theorem anyB_get {n : Nat} {p : Nat → Bool} (h : anyB n p = false) (i : Nat) (hi : i < n) : p i = false := by
  cases hp : p i with
  | false => rfl
  | true => rw [anyB_true hi hp] at h; cases h
theorem anyB_ex {n : Nat} {p : Nat → Bool} (h : anyB n p = true) : ∃ i, i < n ∧ p i = true := by
  obtain ⟨i, hi, hp⟩ := List.any_eq_true.1 h
  exact ⟨i, List.mem_range.1 hi, hp⟩
theorem anyB_congr {n : Nat} {p q : Nat → Bool} (h : ∀ i, i < n → p i = q i) : anyB n p = anyB n q := by
  unfold anyB
  rw [Bool.eq_iff_iff, List.any_eq_true, List.any_eq_true]
  refine ⟨fun ⟨i, hi, hp⟩ => ⟨i, hi, ?_⟩, fun ⟨i, hi, hp⟩ => ⟨i, hi, ?_⟩⟩
  · rw [← h i (List.mem_range.1 hi)]; exact hp
  · rw [h i (List.mem_range.1 hi)]; exact hp

def letB (c : UInt8) : Bool := decide (97 ≤ c.toNat ∧ c.toNat ≤ 122) || (decide (65 ≤ c.toNat ∧ c.toNat ≤ 90) || decide (c.toNat = 95))
def digB (c : UInt8) : Bool := decide (48 ≤ c.toNat ∧ c.toNat ≤ 57)
def nbad (s : ByteArray) (i : Nat) : Bool := match s[i]? with
  | some c => !letB c && (i == 0 || !digB c)
  | none => false
def nameF (s : ByteArray) : Bool := !anyB s.size (nbad s) && decide (1 ≤ s.size ∧ s.size ≤ 24)
def vbad (s : ByteArray) (i : Nat) : Bool := match s[i]? with
  | some c => decide (c.toNat < 32) || (decide (126 < c.toNat) || (decide (c.toNat = 34) || decide (c.toNat = 92)))
  | none => false
def valueF (s : ByteArray) : Bool := !anyB s.size (vbad s) && decide (s.size ≤ 24)

def lbad (l : List Lb) (i : Nat) : Bool :=
  !nameF (l.getD i default).name || (!valueF (l.getD i default).value || (sEq (l.getD i default).value ⟨#[]⟩ || (decide (0 < i) && !sLt (l.getD (i - 1) default).name (l.getD i default).name)))
def rightF (l : List Lb) : Bool := !anyB l.length (lbad l) && decide (1 ≤ l.length ∧ l.length ≤ 8)

def lgetF (l : List Lb) (n : ByteArray) : ByteArray := match l with
  | [] => ⟨#[]⟩
  | x :: r => if sEq x.name n = true then x.value else lgetF r n

def cmpL1 (a b : Lb) : Int := thenC cmpS cmpS (a.name, a.value) (b.name, b.value)
def cmpF (a b : List Lb) : Int := lexC cmpL1 a b
theorem cmpL1_is : IsC cmpL1 := by
  have h := thenC_is cmpS_is cmpS_is
  refine ⟨fun a b => h.rng _ _, fun a b => h.anti _ _, fun a b => ?_, fun a b c => h.trans _ _ _⟩
  rw [cmpL1, h.eq0]
  obtain ⟨a1, a2⟩ := a
  obtain ⟨b1, b2⟩ := b
  simp
theorem cmpF_is : IsC cmpF := lexC_is cmpL1_is

def bs (l : List UInt8) : ByteArray := ⟨l.toArray⟩
theorem bs_app (a b : List UInt8) : bs a ++ bs b = bs (a ++ b) := by
  refine ByteArray.ext ?_
  rw [ByteArray.data_append]
  simp [bs]
theorem bs_data (s : ByteArray) : bs s.data.toList = s := ByteArray.ext (by simp [bs])
theorem data_bs (l : List UInt8) : (bs l).data.toList = l := by simp [bs]
theorem bs_size (l : List UInt8) : (bs l).size = l.length := by show l.toArray.size = _; simp
theorem size_data (s : ByteArray) : s.data.toList.length = s.size := Array.length_toList

def itemF (x : Lb) : List UInt8 := x.name.data.toList ++ ([61, 34] ++ (x.value.data.toList ++ [34]))
def textF (l : List Lb) : ByteArray := bs ([123] ++ (([44] : List UInt8).intercalate (l.map itemF) ++ [125]))

def onlyF (l : List Lb) (names : List ByteArray) : List Lb := l.filter fun x => names.any fun n => sEq n x.name

def mbad (m : Mt) : Bool := !nameF m.name || (!valueF m.value || !decide (0 ≤ m.op ∧ m.op ≤ 3))
def askedF (l : List Mt) : Bool := !anyB l.length (fun i => mbad (l.getD i default)) && decide (l.length ≤ 8)
def prefF (s p : ByteArray) : Bool := decide (p.size ≤ s.size) && sEq (s.extract 0 p.size) p
def loneF (l : List Lb) (m : Mt) : Bool :=
  if m.op = 0 then sEq (lgetF l m.name) m.value else if m.op = 1 then !sEq (lgetF l m.name) m.value else if m.op = 2 then prefF (lgetF l m.name) m.value else !prefF (lgetF l m.name) m.value
def allF (l : List Lb) (m : List Mt) : Bool := m.all (loneF l)

theorem data_take (s : ByteArray) (n : Nat) : (s.extract 0 n).data.toList = s.data.toList.take n := by
  rw [ByteArray.data_extract, Array.toList_extract]
  rfl
theorem prefF_iff {s p : ByteArray} : prefF s p = true ↔ p.data.toList <+: s.data.toList := by
  unfold prefF
  rw [Bool.and_eq_true, decide_eq_true_iff, sEq_iff, List.prefix_iff_eq_take, size_data]
  constructor
  · rintro ⟨h1, h2⟩
    rw [← data_take, h2]
  · intro h
    have h1 := congrArg List.length h
    rw [List.length_take, size_data, size_data] at h1
    refine ⟨by omega, ba_inj ?_⟩
    rw [data_take]
    exact h.symm
end Go.PL
/-
  DERIVED: THE SHELF's CONTRACTS AT THIS DUMP, IN PLAIN WORDS (tools/lay-plain.mjs out of 'TryzShelf.lean', which tools/lay-shelf.mjs wrote): THE SAME DECLARATIONS UNDER THE SAME NAMES: 'import', 'namespace', 'open', 'def', 'theorem' AND NOTHING ELSE: no command of the shelf's: FOR A HAND-IN. Each laying: the table of numbers ('.._ren') and one theorem, a field a fact of the dump's own or the kernel's comparison; each contract: ONE APPLICATION.
-/
namespace Go.Proofs
open Go.Shelf
def Tryz.lays156_ren : Go.Shelf.Ren := ⟨fun | 156 => 28 | 165 => 47 | 166 => 48 | 169 => 49 | 240 => 72 | 241 => 73 | 276 => 96 | 277 => 97 | n => n, fun | 31 => 66 | 9 => 9 | 3 => 3 | 4 => 4 | 0 => 0 | 20 => 20 | 72 => 99 | 76 => 101 | 70 => 96 | 37 => 97 | 75 => 29 | 127 => 118 | 164 => 129 | 5 => 5 | 80 => 103 | n => n, fun | n => n⟩
theorem Tryz.lays156 : Go.Proofs.Lays.n156 Tryz.prog Tryz.lays156_ren := {
  mixed := by kernel_rfl
  f156 := Tryz.func28.trans (congrArg some (by kernel_rfl))
  f165 := Tryz.func47.trans (congrArg some (by kernel_rfl))
  f166 := Tryz.func48.trans (congrArg some (by kernel_rfl))
  f169 := Tryz.func49.trans (congrArg some (by kernel_rfl))
  f240 := Tryz.func72.trans (congrArg some (by kernel_rfl))
  f241 := Tryz.func73.trans (congrArg some (by kernel_rfl))
  f276 := Tryz.func96.trans (congrArg some (by kernel_rfl))
  f277 := Tryz.func97.trans (congrArg some (by kernel_rfl))
  t0 := Tryz.underlying0
  a0 := Tryz.isAgg0
  z0 := Tryz.sizeOf0
  v0 := Tryz.zeroValue0
  t3 := Tryz.underlying3
  a3 := Tryz.isAgg3
  z3 := Tryz.sizeOf3
  v3 := Tryz.zeroValue3
  t4 := Tryz.underlying4
  a4 := Tryz.isAgg4
  z4 := Tryz.sizeOf4
  v4 := Tryz.zeroValue4
  t9 := Tryz.underlying9
  a9 := Tryz.isAgg9
  z9 := Tryz.sizeOf9
  v9 := Tryz.zeroValue9
  t20 := Tryz.underlying20
  a20 := Tryz.isAgg20
  z20 := Tryz.sizeOf20
  v20 := Tryz.zeroValue20
  t31 := Tryz.underlying66
  a31 := Tryz.isAgg66
  z31 := Tryz.sizeOf66
  v31 := Tryz.zeroValue66
  t37 := Tryz.underlying97
  a37 := Tryz.isAgg97
  z37 := Tryz.sizeOf97
  v37 := Tryz.zeroValue97
  t70 := Tryz.underlying96
  a70 := Tryz.isAgg96
  z70 := Tryz.sizeOf96
  v70 := Tryz.zeroValue96
  t72 := Tryz.underlying99
  a72 := Tryz.isAgg99
  z72 := Tryz.sizeOf99
  v72 := Tryz.zeroValue99
  t75 := Tryz.underlying29
  a75 := Tryz.isAgg29
  z75 := Tryz.sizeOf29
  v75 := Tryz.zeroValue29
  t76 := Tryz.underlying101
  a76 := Tryz.isAgg101
  z76 := Tryz.sizeOf101
  v76 := Tryz.zeroValue101
  t127 := Tryz.underlying118
  a127 := Tryz.isAgg118
  z127 := Tryz.sizeOf118
  v127 := Tryz.zeroValue118
  t164 := Tryz.underlying129
  a164 := Tryz.isAgg129
  z164 := Tryz.sizeOf129
  v164 := Tryz.zeroValue129 }
theorem Tryz.Builder_Extra_156 : Builder.Extra Tryz.prog Tryz.lays156_ren := {
  sizeBuilder := by kernel_rfl
  liesBuilder := by kernel_rfl
  t5 := Tryz.underlying5
  a5 := Tryz.isAgg5
  z5 := Tryz.sizeOf5
  v5 := Tryz.zeroValue5
  infoByte := by kernel_rfl
  cellsByte := by kernel_rfl
  sizeByte := by kernel_rfl
  neB5 := by decide }
open Go.RowKit in
theorem Tryz.strings_Join_none (a : Option Addr) (c : Nat) (sep : ByteArray) (w : World) :
    Calls Tryz.prog 28 #[.slice a 0 c, .string sep] w fun e w' => e = .returned (.string ⟨#[]⟩) ∧ w' = w := Any.strings_Join_none Tryz.lays156 Tryz.Builder_Extra_156 a c sep w
open Go.RowKit in
theorem Tryz.strings_Join (bk o c : Nat) (xs : List ByteArray) (sep : ByteArray) (w : World) (hcells : ∀ (j : Nat) x, xs[j]? = some x → w.cell? ⟨bk, o + j, none⟩ = some (.string x)) (hbk : bk < w.heap.size) (hN : xs.length ≤ 140737488355328) (hcap : xs.length ≤ c) (hlen : (Lib.join (xs.map (·.data.toList)) sep.data.toList).length ≤ 140737488355328) :
    Calls Tryz.prog 28 #[.slice (some ⟨bk, o, none⟩) xs.length c, .string sep] w fun e w' => e = .returned (.string ⟨(Lib.join (xs.map (·.data.toList)) sep.data.toList).toArray⟩) ∧ Below w.heap.size w w' := Any.strings_Join Tryz.lays156 Tryz.Builder_Extra_156 bk o c xs sep w hcells hbk hN hcap hlen
def Tryz.lays161_ren : Go.Shelf.Ren := ⟨fun | 161 => 64 | 231 => 81 | 227 => 82 | 233 => 83 | 235 => 84 | 228 => 100 | 197 => 101 | 151 => 102 | 260 => 112 | 152 => 113 | 137 => 40 | 119 => 117 | 224 => 118 | 225 => 119 | 217 => 65 | 266 => 85 | n => n, fun | 9 => 9 | 4 => 4 | 3 => 3 | 5 => 5 | 117 => 125 | 116 => 124 | 0 => 0 | 124 => 128 | 105 => 151 | 21 => 21 | 119 => 173 | 46 => 146 | 139 => 176 | 138 => 175 | n => n, fun | 3 => 10 | 4 => 11 | n => n⟩
theorem Tryz.lays161 : Go.Proofs.Lays.n161 Tryz.prog Tryz.lays161_ren := {
  mixed := by kernel_rfl
  f119 := Tryz.func117.trans (congrArg some (by kernel_rfl))
  f137 := Tryz.func40.trans (congrArg some (by kernel_rfl))
  f151 := Tryz.func102.trans (congrArg some (by kernel_rfl))
  f152 := Tryz.func113.trans (congrArg some (by kernel_rfl))
  f161 := Tryz.func64.trans (congrArg some (by kernel_rfl))
  f197 := Tryz.func101.trans (congrArg some (by kernel_rfl))
  f217 := Tryz.func65.trans (congrArg some (by kernel_rfl))
  f224 := Tryz.func118.trans (congrArg some (by kernel_rfl))
  f225 := Tryz.func119.trans (congrArg some (by kernel_rfl))
  f227 := Tryz.func82.trans (congrArg some (by kernel_rfl))
  f228 := Tryz.func100.trans (congrArg some (by kernel_rfl))
  f231 := Tryz.func81.trans (congrArg some (by kernel_rfl))
  f233 := Tryz.func83.trans (congrArg some (by kernel_rfl))
  f235 := Tryz.func84.trans (congrArg some (by kernel_rfl))
  f260 := Tryz.func112.trans (congrArg some (by kernel_rfl))
  f266 := Tryz.func85.trans (congrArg some (by kernel_rfl))
  t0 := Tryz.underlying0
  a0 := Tryz.isAgg0
  z0 := Tryz.sizeOf0
  v0 := Tryz.zeroValue0
  t3 := Tryz.underlying3
  a3 := Tryz.isAgg3
  z3 := Tryz.sizeOf3
  v3 := Tryz.zeroValue3
  t4 := Tryz.underlying4
  a4 := Tryz.isAgg4
  z4 := Tryz.sizeOf4
  v4 := Tryz.zeroValue4
  t5 := Tryz.underlying5
  a5 := Tryz.isAgg5
  z5 := Tryz.sizeOf5
  v5 := Tryz.zeroValue5
  t9 := Tryz.underlying9
  a9 := Tryz.isAgg9
  z9 := Tryz.sizeOf9
  v9 := Tryz.zeroValue9
  t21 := Tryz.underlying21
  a21 := Tryz.isAgg21
  z21 := Tryz.sizeOf21
  v21 := Tryz.zeroValue21
  t46 := Tryz.underlying146
  a46 := Tryz.isAgg146
  z46 := Tryz.sizeOf146
  v46 := Tryz.zeroValue146
  t105 := Tryz.underlying151
  a105 := Tryz.isAgg151
  z105 := Tryz.sizeOf151
  v105 := Tryz.zeroValue151
  t116 := Tryz.underlying124
  a116 := Tryz.isAgg124
  z116 := Tryz.sizeOf124
  t117 := Tryz.underlying125
  a117 := Tryz.isAgg125
  z117 := Tryz.sizeOf125
  v117 := Tryz.zeroValue125
  t119 := Tryz.underlying173
  a119 := Tryz.isAgg173
  z119 := Tryz.sizeOf173
  t124 := Tryz.underlying128
  a124 := Tryz.isAgg128
  z124 := Tryz.sizeOf128
  v124 := Tryz.zeroValue128
  t138 := Tryz.underlying175
  a138 := Tryz.isAgg175
  z138 := Tryz.sizeOf175
  v138 := Tryz.zeroValue175
  t139 := Tryz.underlying176
  a139 := Tryz.isAgg176
  z139 := Tryz.sizeOf176
  v139 := Tryz.zeroValue176
  g3 := by kernel_rfl
  g4 := by kernel_rfl }
open Go.RowKit in
theorem Tryz.strings_TrimLeft_one (s : ByteArray) (c : UInt8) (hc : c.toNat < 128) (w : World) :
    Calls Tryz.prog 64 #[.string s, .string ⟨#[c]⟩] w fun e w' => e = .returned (.string ⟨(Lib.trimLeftB s.data.toList c).toArray⟩) ∧ w' = w := Any.strings_TrimLeft_one Tryz.lays161 s c hc w
def Tryz.lays160_ren : Go.Shelf.Ren := ⟨fun | 160 => 99 | 232 => 109 | 231 => 81 | 227 => 82 | 234 => 110 | 233 => 83 | 236 => 111 | 235 => 84 | 228 => 100 | 271 => 116 | 151 => 102 | 197 => 101 | 120 => 125 | 152 => 113 | 260 => 112 | 137 => 40 | 119 => 117 | 224 => 118 | 225 => 119 | 217 => 65 | 266 => 85 | n => n, fun | 9 => 9 | 4 => 4 | 3 => 3 | 5 => 5 | 117 => 125 | 116 => 124 | 0 => 0 | 124 => 128 | 21 => 21 | 105 => 151 | 46 => 146 | 119 => 173 | 139 => 176 | 138 => 175 | n => n, fun | 3 => 10 | 4 => 11 | n => n⟩
theorem Tryz.lays160 : Go.Proofs.Lays.n160 Tryz.prog Tryz.lays160_ren := {
  mixed := by kernel_rfl
  f119 := Tryz.func117.trans (congrArg some (by kernel_rfl))
  f120 := Tryz.func125.trans (congrArg some (by kernel_rfl))
  f137 := Tryz.func40.trans (congrArg some (by kernel_rfl))
  f151 := Tryz.func102.trans (congrArg some (by kernel_rfl))
  f152 := Tryz.func113.trans (congrArg some (by kernel_rfl))
  f160 := Tryz.func99.trans (congrArg some (by kernel_rfl))
  f197 := Tryz.func101.trans (congrArg some (by kernel_rfl))
  f217 := Tryz.func65.trans (congrArg some (by kernel_rfl))
  f224 := Tryz.func118.trans (congrArg some (by kernel_rfl))
  f225 := Tryz.func119.trans (congrArg some (by kernel_rfl))
  f227 := Tryz.func82.trans (congrArg some (by kernel_rfl))
  f228 := Tryz.func100.trans (congrArg some (by kernel_rfl))
  f231 := Tryz.func81.trans (congrArg some (by kernel_rfl))
  f232 := Tryz.func109.trans (congrArg some (by kernel_rfl))
  f233 := Tryz.func83.trans (congrArg some (by kernel_rfl))
  f234 := Tryz.func110.trans (congrArg some (by kernel_rfl))
  f235 := Tryz.func84.trans (congrArg some (by kernel_rfl))
  f236 := Tryz.func111.trans (congrArg some (by kernel_rfl))
  f260 := Tryz.func112.trans (congrArg some (by kernel_rfl))
  f266 := Tryz.func85.trans (congrArg some (by kernel_rfl))
  f271 := Tryz.func116.trans (congrArg some (by kernel_rfl))
  t0 := Tryz.underlying0
  a0 := Tryz.isAgg0
  z0 := Tryz.sizeOf0
  v0 := Tryz.zeroValue0
  t3 := Tryz.underlying3
  a3 := Tryz.isAgg3
  z3 := Tryz.sizeOf3
  v3 := Tryz.zeroValue3
  t4 := Tryz.underlying4
  a4 := Tryz.isAgg4
  z4 := Tryz.sizeOf4
  v4 := Tryz.zeroValue4
  t5 := Tryz.underlying5
  a5 := Tryz.isAgg5
  z5 := Tryz.sizeOf5
  v5 := Tryz.zeroValue5
  t9 := Tryz.underlying9
  a9 := Tryz.isAgg9
  z9 := Tryz.sizeOf9
  v9 := Tryz.zeroValue9
  t21 := Tryz.underlying21
  a21 := Tryz.isAgg21
  z21 := Tryz.sizeOf21
  v21 := Tryz.zeroValue21
  t46 := Tryz.underlying146
  a46 := Tryz.isAgg146
  z46 := Tryz.sizeOf146
  v46 := Tryz.zeroValue146
  t105 := Tryz.underlying151
  a105 := Tryz.isAgg151
  z105 := Tryz.sizeOf151
  v105 := Tryz.zeroValue151
  t116 := Tryz.underlying124
  a116 := Tryz.isAgg124
  z116 := Tryz.sizeOf124
  t117 := Tryz.underlying125
  a117 := Tryz.isAgg125
  z117 := Tryz.sizeOf125
  v117 := Tryz.zeroValue125
  t119 := Tryz.underlying173
  a119 := Tryz.isAgg173
  z119 := Tryz.sizeOf173
  t124 := Tryz.underlying128
  a124 := Tryz.isAgg128
  z124 := Tryz.sizeOf128
  v124 := Tryz.zeroValue128
  t138 := Tryz.underlying175
  a138 := Tryz.isAgg175
  z138 := Tryz.sizeOf175
  v138 := Tryz.zeroValue175
  t139 := Tryz.underlying176
  a139 := Tryz.isAgg176
  z139 := Tryz.sizeOf176
  v139 := Tryz.zeroValue176
  g3 := by kernel_rfl
  g4 := by kernel_rfl }
open Go.RowKit in
theorem Tryz.strings_Trim_one (s : ByteArray) (c : UInt8) (hc : c.toNat < 128) (w : World) (hs : s.size ≤ 9223372036854775807) :
    Calls Tryz.prog 99 #[.string s, .string ⟨#[c]⟩] w fun e w' => e = .returned (.string ⟨(Lib.trimB s.data.toList c).toArray⟩) ∧ (w' = w ∨ w' = w.drew) := Any.strings_Trim_one Tryz.lays160 s c hc w hs
def Tryz.lays137_ren : Go.Shelf.Ren := ⟨fun | 137 => 40 | 217 => 65 | 266 => 85 | n => n, fun | 9 => 9 | 5 => 5 | 3 => 3 | n => n, fun | n => n⟩
theorem Tryz.lays137 : Go.Proofs.Lays.n137 Tryz.prog Tryz.lays137_ren := {
  mixed := by kernel_rfl
  f137 := Tryz.func40.trans (congrArg some (by kernel_rfl))
  f217 := Tryz.func65.trans (congrArg some (by kernel_rfl))
  f266 := Tryz.func85.trans (congrArg some (by kernel_rfl))
  t3 := Tryz.underlying3
  a3 := Tryz.isAgg3
  z3 := Tryz.sizeOf3
  v3 := Tryz.zeroValue3
  t5 := Tryz.underlying5
  a5 := Tryz.isAgg5
  z5 := Tryz.sizeOf5
  v5 := Tryz.zeroValue5
  t9 := Tryz.underlying9
  a9 := Tryz.isAgg9
  z9 := Tryz.sizeOf9
  v9 := Tryz.zeroValue9 }
open Go.RowKit in
theorem Tryz.strings_IndexByte (s : ByteArray) (c : Int) (w : World) :
    Calls Tryz.prog 40 #[.string s, .int .u8 c] w fun e w' => e = .returned (.int .i64 (Lib.indexByte s.data.toList c.toNat.toUInt8)) ∧ w' = w := Any.strings_IndexByte Tryz.lays137 s c w
end Go.Proofs
/-
  Contracts of Go's library on strings: IndexByte, Trim, Compare, Join, HasPrefix; cmp.Compare, cmp.Or of ints; slices.Index, Contains of strings.
-/
namespace Go.Proofs.YtihakhdinkkdmaaGreatDoor
open Go.GK Go.PL Go.RowKit
set_option maxRecDepth 100000
abbrev gb (c : UInt8) : GV := .v (.int .u8 (c.toNat : Int))

theorem indexByte_rt (s : ByteArray) (c : UInt8) : Rt pg 40 [gs s, gb c] (gi (Lib.indexByte s.data.toList c)) :=
  Rt.calls Tryz.call40 [.string s, .int .u8 c.toNat] _ fun w => (Tryz.strings_IndexByte s c.toNat w).mono fun e w' ⟨he, hw⟩ => ⟨by rw [he]; simp, by rw [hw]; exact Below.refl _ _⟩
theorem trim_rt (s t : ByteArray) (hs : s.size ≤ 1000000) (ht : t.size ≤ 1000) (ha : t.data.toList.all (fun b => decide (b.toNat < 128)) = true) : Rt pg 99 [gs s, gs t] (gs (bs (Lib.trimS s.data.toList t.data.toList))) :=
  Rt.calls Tryz.call99 [.string s, .string t] _ fun w => (Any.strings_Trim_laid Tryz.lays160 (by kernel_rfl) s t w (by omega) (by omega) (fun _ b hb => of_decide_eq_true (List.all_eq_true.1 ha b (List.mem_of_getElem? hb)))).mono fun e w' ⟨he, hw⟩ => ⟨he, hw⟩
theorem join_rt (xs : List ByteArray) (sep : ByteArray) (hlen : (Lib.join (xs.map (·.data.toList)) sep.data.toList).length ≤ 140737488355328) (hx : xs.length ≤ 140737488355328) : Rt pg 28 [.sl 1 (xs.map fun x => [gs x]), gs sep] (gs (bs (Lib.join (xs.map (·.data.toList)) sep.data.toList))) := by
  have := Rt.slice (p := pg) Tryz.call28 (xs.map .string) [.string sep] (.string (bs (Lib.join (xs.map (·.data.toList)) sep.data.toList))) fun A c w hat => by
    rw [List.length_map]
    rcases hat.at_ with h | ⟨b, o, rfl, hb, hc⟩
    · have : xs = [] := List.map_eq_nil_iff.1 h
      subst this
      exact (Tryz.strings_Join_none A c sep w).mono fun e w' ⟨he, hw⟩ => ⟨by rw [he]; rfl, by rw [hw]; exact Below.refl _ _⟩
    · exact (Tryz.strings_Join b o c xs sep w (fun j x hj => hc j _ (by rw [List.getElem?_map, hj]; rfl)) hb hx (by have := hat.cap; rwa [List.length_map] at this) hlen)
  rw [List.map_map] at this
  exact this
theorem slitePrefix_rt (s p : ByteArray) : Rt pg 61 [gs s, gs p] (.b (prefF s p)) := by
  refine Rt.of pg_ok Tryz.func61 rfl Tryz.ntmps61 rfl Tryz.results61 Tryz.call61 fun H0 S0 w0 h0 g0 => ?_
  unfold prefF
  by_cases h : p.size ≤ s.size
  · refine p1 ?_
    refine ⟨by omega, by omega, by omega, ?_⟩
    exact ⟨by simp [h]; rfl, rfl⟩
  · refine p2 ?_
    exact ⟨by simp [h]; rfl, rfl⟩
theorem hasPrefix_rt (s p : ByteArray) : Rt pg 34 [gs s, gs p] (.b (prefF s p)) := by
  refine Rt.of pg_ok Tryz.func34 rfl Tryz.ntmps34 rfl Tryz.results34 Tryz.call34 fun H0 S0 w0 h0 g0 => ?_
  refine GO (slitePrefix_rt s p) rfl ?_
  exact ⟨rfl, rfl⟩
def sgnF (x y : Int) : Int := if x < y then -1 else if y < x then 1 else 0
def conS (l : List ByteArray) (x : ByteArray) : Bool := l.any fun y => sEq x y
end Go.Proofs.YtihakhdinkkdmaaGreatDoor
/-
  Plain laws: what may be a name, by the library's words. No program is in sight.
-/
namespace Go.PL
open Go Go.GK

def lettL : List UInt8 := [97, 98, 99, 100, 101, 102, 103, 104, 105, 106, 107, 108, 109, 110, 111, 112, 113, 114, 115, 116, 117, 118, 119, 120, 121, 122, 65, 66, 67, 68, 69, 70, 71, 72, 73, 74, 75, 76, 77, 78, 79, 80, 81, 82, 83, 84, 85, 86, 87, 88, 89, 90, 95]
def digL : List UInt8 := [48, 49, 50, 51, 52, 53, 54, 55, 56, 57]

theorem u8_all {p : UInt8 → Bool} (h : ∀ n : Fin 256, p (UInt8.ofNat n.val) = true) (c : UInt8) : p c = true := by
  have := h ⟨c.toNat, c.toNat_lt⟩
  simpa using this
theorem lett_iff (c : UInt8) : decide (0 ≤ Lib.indexByte lettL c) = letB c := by
  have := u8_all (p := fun c => decide (0 ≤ Lib.indexByte lettL c) == letB c) (by decide +kernel) c
  simpa using this
theorem word_iff (c : UInt8) : (lettL ++ digL).contains c = (letB c || digB c) := by
  have := u8_all (p := fun c => (lettL ++ digL).contains c == (letB c || digB c)) (by decide +kernel) c
  simpa using this

theorem dropWhile_nil {α : Type} (p : α → Bool) (l : List α) : l.dropWhile p = [] ↔ ∀ x ∈ l, p x = true := by
  induction l with
  | nil => simp
  | cons a l ih =>
    simp only [List.dropWhile_cons]
    cases h : p a with
    | true => simp [ih, h]
    | false => simp [h]
theorem dropWhile_mem {α : Type} (p : α → Bool) : ∀ (l : List α) (x : α), x ∈ l → x ∈ l.dropWhile p ∨ p x = true
  | a :: l, x, h => by
    simp only [List.dropWhile_cons]
    cases hp : p a with
    | true =>
      rcases List.mem_cons.1 h with rfl | h
      · exact .inr hp
      · exact dropWhile_mem p l x h
    | false => exact .inl h
theorem trim_nil (l cs : List UInt8) : Lib.trimS l cs = [] ↔ ∀ x ∈ l, cs.contains x = true := by
  unfold Lib.trimS Lib.trimLeftS Lib.trimRightS
  rw [dropWhile_nil]
  constructor
  · intro h x hx
    rcases dropWhile_mem (cs.contains ·) l.reverse x (List.mem_reverse.2 hx) with h1 | h1
    · exact h x (List.mem_reverse.2 h1)
    · exact h1
  · intro h x hx
    refine h x ?_
    have := (List.dropWhile_sublist (l := l.reverse) (cs.contains ·)).subset (List.mem_reverse.1 hx)
    exact List.mem_reverse.1 this

theorem ba_get (s : ByteArray) (i : Nat) : s[i]? = s.data.toList[i]? := by
  by_cases h : i < s.size
  · rw [getElem?_pos s i h, List.getElem?_eq_getElem (by rw [size_data]; exact h)]
    rfl
  · rw [getElem?_neg s i h, List.getElem?_eq_none (by rw [size_data]; omega)]

theorem nbad_some {s : ByteArray} {i : Nat} (h : i < s.size) : nbad s i = (!letB s[i] && (i == 0 || !digB s[i])) := by
  unfold nbad
  rw [getElem?_pos s i h]

theorem name_prog (s : ByteArray) (h0 : 1 ≤ s.size) (h1 : s.size ≤ 24) : nameF s = (letB (s[0]'h0) && decide (Lib.trimS s.data.toList (lettL ++ digL) = [])) := by
  unfold nameF
  rw [decide_eq_true (p := 1 ≤ s.size ∧ s.size ≤ 24) ⟨h0, h1⟩, Bool.and_true, Bool.eq_iff_iff, Bool.not_eq_true', Bool.and_eq_true, decide_eq_true_iff, trim_nil]
  constructor
  · intro h
    have h2 := anyB_get h
    have h3 := h2 0 h0
    rw [nbad_some h0] at h3
    refine ⟨by simpa using h3, fun x hx => ?_⟩
    obtain ⟨i, hi, rfl⟩ := List.getElem_of_mem hx
    rw [size_data] at hi
    have h4 := h2 i hi
    rw [nbad_some hi] at h4
    rw [word_iff]
    have e : s.data.toList[i] = s[i] := rfl
    rw [e]
    revert h4
    cases letB s[i] <;> cases digB s[i] <;> simp
  · rintro ⟨h2, h3⟩
    refine anyB_false fun i hi => ?_
    rw [nbad_some hi]
    have h4 := h3 s[i] (List.getElem_mem (l := s.data.toList) (by rw [size_data]; exact hi))
    rw [word_iff] at h4
    by_cases hi0 : i = 0
    · subst hi0; rw [h2]; rfl
    · have : (i == 0) = false := by simpa using hi0
      rw [this]
      revert h4
      cases letB s[i] <;> cases digB s[i] <;> simp
theorem nameF_no {s : ByteArray} (h : ¬ (1 ≤ s.size ∧ s.size ≤ 24)) : nameF s = false := by
  unfold nameF
  rw [decide_eq_false h, Bool.and_false]
end Go.PL
/-
  Contracts: package label: names, values, labels.
-/
namespace Go.Proofs.YtihakhdinkkdmaaGreatDoor
open Go.GK Go.PL Go.RowKit
set_option maxRecDepth 100000
abbrev lb (x : Lb) : List GV := [gs x.name, gs x.value]
abbrev mt (x : Mt) : List GV := [gs x.name, gi x.op, gs x.value]

theorem empty_iff (s : ByteArray) : sEq s ⟨#[]⟩ = decide (s.size = 0) := by
  rw [Bool.eq_iff_iff, sEq_iff, decide_eq_true_iff]
  exact ⟨fun e => by rw [e]; rfl, fun h => ba_inj (List.eq_nil_of_length_eq_zero (by rw [size_data]; exact h))⟩

theorem name_rt (s : ByteArray) : Rt pg 79 [gs s] (.b (nameF s)) := by
  refine Rt.of pg_ok Tryz.func79 rfl Tryz.ntmps79 rfl Tryz.results79 Tryz.call79 fun H0 S0 w0 h0 g0 => ?_
  have he := empty_iff s
  by_cases h0 : s.size = 0
  · rw [decide_eq_true h0] at he
    rw [nameF_no (by omega)]
    refine p2 ?_ (show (!sEq s ⟨#[]⟩) = false by rw [he]; rfl)
    exact ⟨rfl, rfl⟩
  · rw [decide_eq_false h0] at he
    refine p1 ?_ (show (!sEq s ⟨#[]⟩) = true by rw [he]; rfl)
    by_cases h1 : s.size ≤ 24
    · refine p1 ?_
      rw [name_prog s (by omega) h1]
      refine sx (i := 0) (h := ?_)
      refine GO (indexByte_rt ⟨lettL.toArray⟩ s[0]) rfl ?_
      have e : decide (0 ≤ Lib.indexByte lettL s[0]) = letB s[0] := lett_iff _
      cases hl : letB s[0] with
      | false =>
        rw [hl] at e
        refine p2 ?_ e
        exact ⟨rfl, rfl⟩
      | true =>
        rw [hl] at e
        refine p1 ?_ e
        refine GO (trim_rt s ⟨(lettL ++ digL).toArray⟩ (by omega) (by decide) (by decide)) rfl ?_
        refine ⟨?_, rfl⟩
        show sEq _ ⟨#[]⟩ = _
        rw [Bool.true_and, Bool.eq_iff_iff, sEq_iff, decide_eq_true_iff]
        refine ⟨fun h => ?_, fun h => ?_⟩
        · have := congrArg (fun b : ByteArray => b.data.toList) h
          simpa only [data_bs] using this
        · exact congrArg bs h
    · rw [nameF_no (by omega)]
      refine p2 ?_
      exact ⟨rfl, rfl⟩
theorem lname_rt (s : ByteArray) : Rt pg 76 [gs s] (.b (nameF s)) := by
  refine Rt.of pg_ok Tryz.func76 rfl Tryz.ntmps76 rfl Tryz.results76 Tryz.call76 fun H0 S0 w0 h0 g0 => ?_
  refine GO (name_rt s) rfl ?_
  exact ⟨rfl, rfl⟩

theorem vbad_some {s : ByteArray} {i : Nat} (h : i < s.size) : vbad s i = (decide (s[i].toNat < 32) || (decide (126 < s[i].toNat) || (decide (s[i].toNat = 34) || decide (s[i].toNat = 92)))) := by
  unfold vbad
  rw [getElem?_pos s i h]
theorem value_rt (s : ByteArray) (hs : s.size < 4611686018427387904) : Rt pg 80 [gs s] (.b (valueF s)) := by
  refine Rt.of pg_ok Tryz.func80 rfl Tryz.ntmps80 rfl Tryz.results80 Tryz.call80 fun H0 S0 w0 h0 g0 => ?_
  refine JK.loop (α := Nat) (fun i => ⟨[(0, gs s), (5, gi s.size), (6, gi i)], [], 0⟩) (fun i => i ≤ s.size ∧ ∀ j, j < i → vbad s j = false) (fun i => s.size - i) 0 id ?_ ⟨Nat.zero_le _, fun j hj => absurd hj (by omega)⟩ ?_
  · exact ⟨⟨rfl, rfl, rfl, trivial⟩, trivial, rfl⟩
  · rintro i ⟨hi, hgood⟩
    refine V ?_
    by_cases hlt : i < s.size
    · have hv := vbad_some hlt
      have hbad : vbad s i = true → valueF s = false := fun h => by unfold valueF; rw [anyB_true hlt h]; rfl
      have hnext : vbad s i = false → ∀ j, j < i + 1 → vbad s j = false := fun h j hj => by
        rcases Nat.lt_succ_iff_lt_or_eq.1 hj with h1 | h1
        · exact hgood j h1
        · subst h1; exact h
      by_cases h1 : s[i].toNat < 32 <;> by_cases h2 : 126 < s[i].toNat <;> by_cases h3 : s[i].toNat = 34 <;> by_cases h4 : s[i].toNat = 92 <;>
        simp only [h1, h2, h3, h4, decide_true, decide_false, Bool.true_or, Bool.or_true, Bool.or_false] at hv <;>
        (repeat (first | refine p1 ?_ | refine p2 ?_ | refine p3 ?_ | refine p4 ?_ | refine sx (h := ?_))) <;>
        first | exact ⟨(hbad hv).symm, rfl⟩ | exact ⟨i + 1, id, ⟨⟨rfl, rfl, succ_gi (by omega), trivial⟩, trivial, rfl⟩, ⟨hlt, hnext hv⟩, by show s.size - (i + 1) < s.size - i; omega⟩
    · refine p2 ?_
      refine V ?_
      obtain rfl : i = s.size := by omega
      refine ⟨?_, rfl⟩
      unfold valueF
      rw [anyB_false hgood]
      show decide _ = _
      simp only [Bool.not_false, Bool.true_and, decide_eq_decide]
      omega

theorem lbad_at {l : List Lb} {i : Nat} (h : i < l.length) : lbad l i = (!nameF l[i].name || (!valueF l[i].value || (sEq l[i].value ⟨#[]⟩ || (decide (0 < i) && !sLt (l[i - 1]'(by omega)).name l[i].name)))) := by
  unfold lbad
  have e1 : ∀ j (hj : j < l.length), l.getD j default = l[j] := fun j hj => by simp [hj]
  rw [e1 i h, e1 (i - 1) (by omega)]
def Sh (l : List Lb) : Prop := ∀ x ∈ l, x.value.size < 4611686018427387904
end Go.Proofs.YtihakhdinkkdmaaGreatDoor
/-
  Contracts: package label: order, text, matchers.
-/
namespace Go.Proofs.YtihakhdinkkdmaaGreatDoor
open Go.GK Go.PL Go.RowKit
set_option maxRecDepth 100000
theorem lexC_len {α : Type} (f : α → α → Int) (hf : ∀ a b, f a b = 0 ↔ a = b) : ∀ (a b : List α), (∀ i, i < min a.length b.length → a[i]? = b[i]?) → lexC f a b = sgnF a.length b.length
  | [], [], _ => rfl
  | [], _ :: _, _ => by simp [lexC, sgnF]
  | _ :: _, [], _ => by simp [lexC, sgnF]; omega
  | x :: a, y :: b, h => by
    have h0 := h 0 (by simp)
    simp at h0
    have ih := lexC_len f hf a b (fun i hi => by have := h (i + 1) (by simp at hi ⊢; omega); simpa using this)
    simp only [lexC, (hf x y).2 h0, if_true, ih, sgnF, List.length_cons]
    repeat' split <;> omega
theorem lexC_at {α : Type} (f : α → α → Int) (hf : ∀ a b, f a b = 0 ↔ a = b) : ∀ (a b : List α) (i : Nat) (x y : α), (∀ j, j < i → a[j]? = b[j]?) → a[i]? = some x → b[i]? = some y → f x y ≠ 0 → lexC f a b = f x y
  | [], b, i, x, y, _, hx, _, _ => by simp at hx
  | _ :: _, [], i, x, y, _, _, hy, _ => by simp at hy
  | u :: a, v :: b, 0, x, y, _, hx, hy, hn => by
    simp at hx hy
    subst hx; subst hy
    simp only [lexC, if_neg hn]
  | u :: a, v :: b, i + 1, x, y, h, hx, hy, hn => by
    have h0 := h 0 (by omega)
    simp at h0
    simp only [lexC, (hf u v).2 h0, if_true]
    exact lexC_at f hf a b i x y (fun j hj => by have := h (j + 1) (by omega); simpa using this) (by simpa using hx) (by simpa using hy) hn
theorem cmpL1_or (x y : Lb) : cmpL1 x y = if cmpS x.name y.name = 0 then cmpS x.value y.value else cmpS x.name y.name := rfl
structure Hl (l : List Lb) : Prop where
  len : l.length ≤ 1000
  name : ∀ x ∈ l, x.name.size ≤ 1000
  value : ∀ x ∈ l, x.value.size ≤ 1000
theorem item_len {l : List Lb} (h : Hl l) : ∀ x ∈ l, (itemF x).length ≤ 2003 := fun x hx => by
  have h1 := h.name x hx
  have h2 := h.value x hx
  simp only [itemF, List.length_append, size_data, List.length_cons, List.length_nil]
  omega
theorem inter_len {l : List (List UInt8)} {m : Nat} (h : ∀ x ∈ l, x.length ≤ m) : (([44] : List UInt8).intercalate l).length ≤ l.length * (m + 1) := by
  have key : ∀ (l : List (List UInt8)), (∀ x ∈ l, x.length ≤ m) → (([44] : List UInt8).intercalate l).length ≤ l.length * (m + 1) := by
    intro l
    induction l with
    | nil => intro _; simp [List.intercalate]
    | cons a l ih =>
      intro h
      have h1 := h a List.mem_cons_self
      have h2 := ih (fun x hx => h x (List.mem_cons_of_mem _ hx))
      cases l with
      | nil => simp [List.intercalate]; omega
      | cons b l =>
        have e : ([44] : List UInt8).intercalate (a :: b :: l) = a ++ ([44] ++ ([44] : List UInt8).intercalate (b :: l)) := by simp [List.intercalate]
        rw [e]
        simp only [List.length_append, List.length_cons, List.length_nil, Nat.add_mul] at h2 ⊢
        omega
  exact key l h
theorem inter_snoc (l : List (List UInt8)) (x : List UInt8) : ([44] : List UInt8).intercalate (l ++ [x]) = if l = [] then x else ([44] : List UInt8).intercalate l ++ ([44] ++ x) := by
  induction l with
  | nil => simp [List.intercalate]
  | cons a l ih =>
    cases l with
    | nil => simp [List.intercalate]
    | cons b l =>
      have e : ∀ r, r ≠ [] → ([44] : List UInt8).intercalate (a :: r) = a ++ ([44] ++ ([44] : List UInt8).intercalate r) := fun r hr => by
        cases r with
        | nil => exact (hr rfl).elim
        | cons c r => simp [List.intercalate]
      rw [List.cons_append, e _ (by simp), ih, if_neg (by simp), if_neg (by simp), e _ (by simp)]
      simp
theorem ba_app (a b : ByteArray) : (a ++ b).data.toList = a.data.toList ++ b.data.toList := by rw [ByteArray.data_append]; simp
theorem bs_size' (l : List UInt8) : (bs l).size = l.length := bs_size l
theorem app_size (a b : ByteArray) : (a ++ b).size = a.size + b.size := ByteArray.size_append
end Go.Proofs.YtihakhdinkkdmaaGreatDoor
/-
  Contracts: package label: Only; matchers.
-/
namespace Go.Proofs.YtihakhdinkkdmaaGreatDoor
open Go.GK Go.PL Go.RowKit
set_option maxRecDepth 100000
theorem only_snoc (l : List Lb) (ns : List ByteArray) (i : Nat) (h : i < l.length) : onlyF (l.take (i + 1)) ns = onlyF (l.take i) ns ++ if conS ns l[i].name = true then [l[i]] else [] := by
  have e : (ns.any fun n => sEq n l[i].name) = conS ns l[i].name := by
    unfold conS
    congr 1
    funext y
    rw [Bool.eq_iff_iff, sEq_iff, sEq_iff]
    exact ⟨fun h => h.symm, fun h => h.symm⟩
  unfold onlyF
  rw [List.take_succ_eq_append_getElem h, List.filter_append]
  congr 1
  rw [List.filter_cons, e]
  rfl
theorem only_len (l : List Lb) (ns : List ByteArray) : (onlyF l ns).length ≤ l.length := List.length_filter_le _ _
def Sm2 (l : List Mt) : Prop := ∀ x ∈ l, x.value.size < 4611686018427387904
theorem asked1_rt (m : Mt) (hm : m.value.size < 4611686018427387904) : Rt pg 78 [.agg (mt m)] (.b (mbad m)) := by
  refine Rt.of pg_ok Tryz.func78 rfl Tryz.ntmps78 rfl Tryz.results78 Tryz.call78 fun H0 S0 w0 h0 g0 => ?_
  have hval := value_rt m.value hm
  unfold mbad
  cases h1 : nameF m.name with
  | false =>
    refine GO ((name_rt m.name).bt h1) rfl ?_
    exact ⟨rfl, rfl⟩
  | true =>
    refine GO ((name_rt m.name).bt h1) rfl ?_
    cases h2 : valueF m.value with
    | false =>
      refine GO (hval.bt h2) rfl ?_
      exact ⟨rfl, rfl⟩
    | true =>
      refine GO (hval.bt h2) rfl ?_
      by_cases h3 : m.op < 0
      · repeat (first | refine p1 ?_ | refine p2 ?_ | refine p3 ?_ | refine p4 ?_)
        exact ⟨by rw [decide_eq_false (by omega : ¬ (0 ≤ m.op ∧ m.op ≤ 3))]; rfl, rfl⟩
      · repeat (first | refine p1 ?_ | refine p2 ?_ | refine p3 ?_ | refine p4 ?_)
        refine ⟨?_, rfl⟩
        show decide (m.op > 3) = !decide (0 ≤ m.op ∧ m.op ≤ 3)
        by_cases h4 : m.op ≤ 3
        · rw [decide_eq_true (by omega : 0 ≤ m.op ∧ m.op ≤ 3), decide_eq_false (by omega)]; rfl
        · rw [decide_eq_false (by omega : ¬ (0 ≤ m.op ∧ m.op ≤ 3)), decide_eq_true (by omega)]; rfl

theorem idxFunc_rt (l : List Mt) (f : FuncId) (caps : List GV) (hcaps : idbL 0 caps = true) (p : Mt → Bool) (hf : ∀ x ∈ l, Rt pg f (.agg (mt x) :: caps) (.b (p x))) (n : Nat) (hn : n ≤ l.length) (h1 : ∀ i (h : i < l.length), i < n → p l[i] = false) (h2 : ∀ h : n < l.length, p l[n] = true) (hl : l.length < 4611686018427387904) :
    Rt pg 98 [.sl 3 (l.map mt), .fn (.func f) [] caps] (gi (if n < l.length then n else -1)) := by
  refine Rt.of pg_ok Tryz.func98 rfl Tryz.ntmps98 rfl Tryz.results98 Tryz.call98 fun H0 S0 w0 h0 g0 => ?_
  have hll : (l.map mt).length = l.length := by simp
  refine JK.loop (α := Nat) (fun i => ⟨[(0, .sl 3 (l.map mt)), (1, .fn (.func f) [] caps), (7, gi (l.map mt).length), (8, gi i)], [], 0⟩) (fun i => i ≤ n) (fun i => n - i) 0 id ?_ (Nat.zero_le _) ?_
  · exact ⟨⟨rfl, by simp only [ren, renL, renL_id]; rfl, rfl, rfl, trivial⟩, trivial, by simp [idbE, idb, idbL, hcaps, idbH, hids, distB, fixB]⟩
  · intro i hi
    refine V ?_
    by_cases hlt : i < l.length
    · refine p1 ?_
      refine ix (h := ?_)
      have hp := hf l[i] (List.getElem_mem hlt)
      by_cases hin : i < n
      · refine GO (hp.bt (h1 i hlt hin)) rfl ?_ (by simp [idbL, hcaps]; rfl)
        exact ⟨i + 1, id, ⟨⟨rfl, by simp only [ren, renL, renL_id]; rfl, rfl, succ_gi (by omega), trivial⟩, trivial, by simp [idbE, idb, idbL, hcaps, idbH, hids, distB, fixB]⟩, hin, by show n - (i + 1) < n - i; omega⟩
      · have hin' : i = n := by omega
        subst hin'
        refine GO (hp.bt (h2 hlt)) rfl ?_ (by simp [idbL, hcaps]; rfl)
        exact ⟨by rw [if_pos hlt]; rfl, rfl⟩
    · refine p2 ?_
      refine V ?_
      exact ⟨by rw [if_neg (by omega)]; rfl, rfl⟩
theorem first_ix {α : Type} (l : List α) (p : α → Bool) : ∃ n, n ≤ l.length ∧ (∀ i (h : i < l.length), i < n → p l[i] = false) ∧ (∀ h : n < l.length, p l[n] = true) ∧ l.any p = decide (n < l.length) := by
  induction l with
  | nil => exact ⟨0, Nat.le_refl _, fun i h => absurd h (by simp), fun h => absurd h (by simp), by simp⟩
  | cons a l ih =>
    cases hp : p a with
    | true => exact ⟨0, Nat.zero_le _, fun i h h' => absurd h' (by omega), fun _ => hp, by simp [hp]⟩
    | false =>
      obtain ⟨n, h1, h2, h3, h4⟩ := ih
      refine ⟨n + 1, by simpa using h1, fun i h h' => ?_, fun h => ?_, by simp [hp, h4]⟩
      · cases i with
        | zero => exact hp
        | succ i => exact h2 i (by simpa using h) (by omega)
      · exact h3 (by simpa using h)
theorem conFunc_rt (l : List Mt) (f : FuncId) (caps : List GV) (hcaps : idbL 0 caps = true) (p : Mt → Bool) (hf : ∀ x ∈ l, Rt pg f (.agg (mt x) :: caps) (.b (p x))) (hl : l.length < 4611686018427387904) :
    Rt pg 77 [.sl 3 (l.map mt), .fn (.func f) [] caps] (.b (l.any p)) := by
  refine Rt.of pg_ok Tryz.func77 rfl Tryz.ntmps77 rfl Tryz.results77 Tryz.call77 fun H0 S0 w0 h0 g0 => ?_
  obtain ⟨n, h1, h2, h3, h4⟩ := first_ix l p
  refine GO (idxFunc_rt l f caps hcaps p hf n h1 h2 h3 hl) rfl ?_ (by simp [idbL, idb, hcaps])
  refine ⟨?_, rfl⟩
  rw [h4]
  show decide _ = _
  split
  · rename_i h; rw [decide_eq_true h]; exact decide_eq_true (by omega)
  · rename_i h; rw [decide_eq_false h]; rfl
theorem any_anyB {α : Type} [Inhabited α] (l : List α) (p : α → Bool) : l.any p = anyB l.length (fun i => p (l.getD i default)) := by
  obtain ⟨n, h1, h2, h3, h4⟩ := first_ix l p
  rw [h4]
  by_cases h : n < l.length
  · rw [decide_eq_true h, anyB_true h]; simpa [h] using h3 h
  · rw [decide_eq_false h, anyB_false]
    intro i hi
    have := h2 i hi (by omega)
    simpa [hi] using this
theorem lasked_rt (l : List Mt) (hm : Sm2 l) : Rt pg 60 [.sl 3 (l.map mt)] (.b (askedF l)) := by
  refine Rt.of pg_ok Tryz.func60 rfl Tryz.ntmps60 rfl Tryz.results60 Tryz.call60 fun H0 S0 w0 h0 g0 => ?_
  have hll : (l.map mt).length = l.length := by simp
  unfold askedF
  by_cases h : l.length ≤ 8
  · refine p1 ?_
    refine GO (conFunc_rt l 78 [] rfl mbad (fun x hx => asked1_rt x (hm x hx)) (by omega)) rfl ?_
    refine ⟨?_, rfl⟩
    rw [decide_eq_true h, Bool.and_true, ← any_anyB l mbad]
    rfl
  · refine p2 ?_
    exact ⟨by rw [decide_eq_false h, Bool.and_false]; rfl, rfl⟩
end Go.Proofs.YtihakhdinkkdmaaGreatDoor
