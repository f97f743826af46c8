/-
  The ghost machine: functions that hand back a value, calls of them in one step, the end of a range over a map.
-/
import Derived.Test.YtfagagfokmlgiaaGK19
import Derived.Test.YtfagagfokmlgiaaGK16
namespace Go.GK
open Go.RowKit

mutual
/-- The same, but for how a bool is told. -/
def eqG : GV → GV → Prop
  | .b c, .v (.bool d) => d = c
  | .b c, .b d => d = c
  | .v (.bool c), .b d => d = c
  | .tup xs, .tup ys => eqGs xs ys
  | x, y => y = x
def eqGs : List GV → List GV → Prop
  | [], [] => True
  | x :: xs, y :: ys => eqG x y ∧ eqGs xs ys
  | _, _ => False
end

mutual
theorem eqG_is {H : Hid} : ∀ {x y : GV} {u : Value}, eqG x y → Is H y u → Is H x u
  | .tup xs, .tup ys, u, h, hi => by
    simp only [eqG] at h
    obtain ⟨us, rfl, hl, hi⟩ := hi.inv_tup
    obtain ⟨h1, h2⟩ := eqGs_is xs ys h hi
    exact .tup (by rw [h1]; exact hl) h2
  | .b c, y, u, h, hi => by
    cases y with
    | v x =>
      cases x with
      | bool d => simp only [eqG] at h; subst h; have := hi.inv_v; subst this; exact .ro (.b _)
      | _ => simp only [eqG] at h; cases h
    | b d => simp only [eqG] at h; subst h; exact hi
    | _ => simp only [eqG] at h; cases h
  | .v x, y, u, h, hi => by
    cases x with
    | bool c =>
      cases y with
      | b d => simp only [eqG] at h; subst h; have := hi.inv_b; subst this; exact .ro (.v _)
      | v z => simp only [eqG] at h; rw [← h]; exact hi
      | _ => simp only [eqG] at h; cases h
    | _ => simp only [eqG] at h; rw [← h]; exact hi
  | .tup xs, .v _, _, h, hi | .tup xs, .b _, _, h, hi | .tup xs, .p _ _, _, h, hi | .tup xs, .e _ _ _ _, _, h, hi | .tup xs, .o _, _, h, hi | .tup xs, .r _, _, h, hi | .tup xs, .sl _ _, _, h, hi | .tup xs, .agg _, _, h, hi | .tup xs, .fn _ _ _, _, h, hi | .tup xs, .ifc _ _, _, h, hi => by simp only [eqG] at h; cases h
  | .p _ _, y, _, h, hi | .e _ _ _ _, y, _, h, hi | .o _, y, _, h, hi | .r _, y, _, h, hi | .sl _ _, y, _, h, hi | .agg _, y, _, h, hi | .fn _ _ _, y, _, h, hi | .ifc _ _, y, _, h, hi => by simp only [eqG] at h; rw [← h]; exact hi
theorem eqGs_is {H : Hid} {F : Nat → Value} : ∀ (xs ys : List GV), eqGs xs ys → (∀ (j : Nat) (g : GV), ys[j]? = some g → Is H g (F j)) → xs.length = ys.length ∧ ∀ (j : Nat) (g : GV), xs[j]? = some g → Is H g (F j)
  | [], [], _, _ => ⟨rfl, fun j g hj => by simp at hj⟩
  | x :: xs, y :: ys, h, hi => by
    simp only [eqGs] at h
    obtain ⟨h1, h2⟩ := eqGs_is (F := fun j => F (j + 1)) xs ys h.2 (fun j g hj => hi (j + 1) g (by simpa using hj))
    refine ⟨by simp [h1], fun j g hj => ?_⟩
    cases j with
    | zero => simp at hj; subst hj; exact eqG_is h.1 (hi 0 y rfl)
    | succ j => exact h2 j g (by simpa using hj)
  | [], _ :: _, h, _ => by simp [eqGs] at h
  | _ :: _, [], h, _ => by simp [eqGs] at h
end

mutual
theorem eqG_idb : ∀ {x y : GV}, eqG x y → idb 0 y = true → idb 0 x = true
  | .tup xs, .tup ys, h, hi => by
    simp only [eqG] at h
    simp only [idb] at hi ⊢
    exact eqGs_idb xs ys h hi
  | .b c, y, _, _ => rfl
  | .v x, y, _, _ => rfl
  | .tup xs, .v _, h, hi | .tup xs, .b _, h, hi | .tup xs, .p _ _, h, hi | .tup xs, .e _ _ _ _, h, hi | .tup xs, .o _, h, hi | .tup xs, .r _, h, hi | .tup xs, .sl _ _, h, hi | .tup xs, .agg _, h, hi | .tup xs, .fn _ _ _, h, hi | .tup xs, .ifc _ _, h, hi => by simp only [eqG] at h; cases h
  | .p _ _, y, h, hi | .e _ _ _ _, y, h, hi | .o _, y, h, hi | .r _, y, h, hi | .sl _ _, y, h, hi | .agg _, y, h, hi | .fn _ _ _, y, h, hi | .ifc _ _, y, h, hi => by simp only [eqG] at h; rw [← h]; exact hi
theorem eqGs_idb : ∀ (xs ys : List GV), eqGs xs ys → idbL 0 ys = true → idbL 0 xs = true
  | [], [], _, _ => rfl
  | x :: xs, y :: ys, h, hi => by
    simp only [eqGs] at h
    simp only [idbL, Bool.and_eq_true] at hi ⊢
    exact ⟨eqG_idb h.1 hi.1, eqGs_idb xs ys h.2 hi.2⟩
  | [], _ :: _, h, _ => by simp [eqGs] at h
  | _ :: _, [], h, _ => by simp [eqGs] at h
end

mutual
theorem ren_none (f : Nat → Nat) : ∀ {g : GV}, idb 0 g = true → ren f g = g
  | .v _, _ | .b _, _ | .r _, _ | .sl _ _, _ => rfl
  | .p _ _, h | .e _ _ _ _, h | .o _, h => by simp [idb] at h
  | .agg cs, h => by simp only [idb] at h; simp only [ren, renL_none f cs h]
  | .tup cs, h => by simp only [idb] at h; simp only [ren, renL_none f cs h]
  | .fn g as cs, h => by simp only [idb, Bool.and_eq_true] at h; simp only [ren, renL_none f as h.1, renL_none f cs h.2]
  | .ifc t x, h => by simp only [idb] at h; simp only [ren, ren_none f h]
theorem renL_none (f : Nat → Nat) : ∀ (l : List GV), idbL 0 l = true → renL f l = l
  | [], _ => rfl
  | g :: r, h => by simp only [idbL, Bool.and_eq_true] at h; simp only [renL, ren_none f h.1, renL_none f r h.2]
end

/-- A FUNCTION that is given values, and hands back one of which Q holds; nothing else is changed. -/
structure Rq (p : Pg) (f : FuncId) (args : List GV) (Q : GV → Prop) : Prop where
  call : ∀ as w, (callFunc f as).run p.P w = .ok (.enter f as) w
  ct : Ct p f 0 args [] (Val fun g => Q g ∧ idb 0 g = true)
/-- .. and hands back this. -/
abbrev Rt (p : Pg) (f : FuncId) (args : List GV) (G : GV) : Prop := Rq p f args (· = G)

theorem Rq.of {p : Pg} {f : FuncId} {fn : Func} {c : Code} {N : Nat} {args : List GV} {Q : GV → Prop} (hp : p.Ok) (hf : p.P.funcs[f]? = some fn) (hb : fn.body = some c) (hN : fn.ntmps = N) (hl : Nat.ble args.length N = true) {rs : Array ResultVar} (hr : fn.results = rs)
    (hc : ∀ as w, (callFunc f as).run p.P w = .ok (.enter f as) w)
    (h : ∀ (H0 : Hid) (S0 : List Nat) (w0 : World) (h0 : H0.n = 0) (g0 : GlOk p H0), vc ⟨p, N, 0, H0, S0, w0, h0, g0⟩ (retT p rs.toList fun g _ _ => Q g ∧ idb 0 g = true) 400 [.code c] ⟨argEnv 0 args, [], 0⟩) : Rq p f args Q :=
  ⟨hc, Ct.weak (Ct.of_JK hp hf hb hN hl hr fun H0 S0 w0 h0 g0 => vc_sound hp 400 _ _ (h H0 S0 w0 h0 g0)) fun g σ' n' hq => ⟨id, g, [], 0, ⟨hq, rfl, rfl⟩, (ren_id g).symm, trivial, by simp [hq.2, idbH, hids, distB, fixB]⟩⟩

theorem Rt.of {p : Pg} {f : FuncId} {fn : Func} {c : Code} {N : Nat} {args : List GV} {G : GV} (hp : p.Ok) (hf : p.P.funcs[f]? = some fn) (hb : fn.body = some c) (hN : fn.ntmps = N) (hl : Nat.ble args.length N = true) {rs : Array ResultVar} (hr : fn.results = rs)
    (hc : ∀ as w, (callFunc f as).run p.P w = .ok (.enter f as) w)
    (h : ∀ (H0 : Hid) (S0 : List Nat) (w0 : World) (h0 : H0.n = 0) (g0 : GlOk p H0), vc ⟨p, N, 0, H0, S0, w0, h0, g0⟩ (retT p rs.toList fun g _ _ => eqG G g ∧ idb 0 g = true) 400 [.code c] ⟨argEnv 0 args, [], 0⟩) : Rt p f args G := by
  refine ⟨hc, fun H us w hn hg hcs hs => ?_⟩
  refine ((Rq.of (Q := eqG G) hp hf hb hN hl hr hc h).ct H us w hn hg hcs hs).mono ?_
  rintro e w' ⟨u, g, H', σ', rfl, hi, hs', hfr, hq, h1, h2⟩
  exact ⟨u, G, H', σ', rfl, eqG_is hq.1 hi, hs', hfr, ⟨rfl, eqG_idb hq.1 hq.2⟩, h1, h2⟩

theorem Rq.mono {p : Pg} {f : FuncId} {args : List GV} {Q Q' : GV → Prop} (h : Rq p f args Q) (hq : ∀ g, Q g → Q' g) : Rq p f args Q' :=
  ⟨h.call, fun H us w hn hg hcs hs => (h.ct H us w hn hg hcs hs).mono fun _ _ ⟨u, g, H', σ', e, hi, hs', hfr, hv, r⟩ => ⟨u, g, H', σ', e, hi, hs', hfr, ⟨hq g hv.1, hv.2⟩, r⟩⟩

/-- Callee and arguments of a call that comes up. -/
def callG (p : Pg) (all : List Oper) (ρ : Env) (o : Oper) : Option (FuncId × List GV) :=
  bif gdOk all ρ o.guard then (match o.op with
    | .call { callee := .value fo, args := args, .. } => (match ev p ρ fo, evs p ρ args.toList with
      | some (.fn (.func f) first caps), some gs => some (f, first ++ gs ++ caps)
      | _, _ => none)
    | _ => none) else none

theorem hrest_nil : ∀ σ : Heap, hrest [] σ = σ
  | [] => rfl
  | (id, x) :: r => by simp [hrest, memB, hrest_nil r]

def dputV (N : Nat) (ρ : Env) : Option Nat → GV → (Env → Prop) → Prop
  | some d, g, K => bif Nat.blt d N then K ((d, g) :: ρ) else False
  | none, _, K => K ρ
theorem dputV_eq (N : Nat) (ρ : Env) (d : Option Nat) (g : GV) (K : Env → Prop) : dputV N ρ d g K = dput N ρ d g K := by
  cases d <;> simp [dputV, dput, nf_eq]

section
variable {cx : Cx} {T : Post}

theorem callG_spec {p : Pg} {all : List Oper} {ρ : Env} {o : Oper} {f : FuncId} {cargs : List GV} (h : callG p all ρ o = some (f, cargs)) :
    ∃ fo args ts first caps gs, o.op = .call { callee := .value fo, args := args, argTypes := ts } ∧ gdOk all ρ o.guard = true ∧ ev p ρ fo = some (.fn (.func f) first caps) ∧ evs p ρ args.toList = some gs ∧ first ++ gs ++ caps = cargs := by
  unfold callG at h
  cases hg : gdOk all ρ o.guard with
  | false => rw [hg] at h; cases h
  | true =>
    rw [hg] at h
    simp only [cond_true] at h
    split at h
    · rename_i fo args ts ho
      split at h
      · rename_i f' first caps gs h1 h2
        simp only [Option.some.injEq, Prod.mk.injEq] at h
        obtain ⟨rfl, rfl⟩ := h
        exact ⟨fo, args, ts, first, caps, gs, ho, rfl, h1, h2, rfl⟩
      · cases h
    · cases h

/-- A CALL of a function that is given values. -/
theorem JK.goQ {all : List Oper} {o : Oper} {rest : List Oper} {k : List It} {s : St} {f : FuncId} {cargs : List GV} {Q : GV → Prop} (hp : cx.pg.Ok) (hr : Rq cx.pg f cargs Q) (hk : callG cx.pg all s.ρ o = some (f, cargs)) (hb : idbL 0 cargs = true)
    (h : ∀ g, Q g → dputV cx.N s.ρ o.dst g fun ρ' => vc cx T 400 (.ops false all rest :: k) ⟨ρ', s.σ, s.n⟩) : JK cx T (.ops false all (o :: rest) :: k) s := by
  obtain ⟨fo, args, ts, first, caps, gs, ho, hgd, hf, he, hargs⟩ := callG_spec hk
  intro H a w hg hs ha
  have hw := gdOk_wanted (o := o) ha.env hgd
  show wpList _ _ _ _ _ _
  unfold wpList
  rw [if_pos hw]
  refine .inl (call_wp (r := id) (n0 := 0) (σc := []) hr.ct hr.call ho hf he (by rw [renL_id]; exact hargs) trivial (by simp [hb, idbH, hids, distB]) (by simp) hg hs ha.env fun H'' u g σ' n' w' hle hi hQ hsim => ?_)
  obtain ⟨⟨hq, hidb⟩, rfl, rfl⟩ := hQ
  have hd := h g hq
  rw [dputV_eq] at hd
  rw [ren_none _ hidb] at hi
  have e : hrest (hids id []) s.σ = s.σ := hrest_nil s.σ
  simp only [renH, List.nil_append, e] at hsim
  obtain ⟨ρ', ha', hJ⟩ := (ha.mono hle).dput hi hd
  exact vc_sound hp 400 _ _ hJ H'' (a.put o.dst u) w' (hg.mono hle) (hsim ρ') ha'

theorem JK.go {all : List Oper} {o : Oper} {rest : List Oper} {k : List It} {s : St} {f : FuncId} {cargs : List GV} {G : GV} (hp : cx.pg.Ok) (hr : Rt cx.pg f cargs G) (hk : callG cx.pg all s.ρ o = some (f, cargs)) (hb : idbL 0 cargs = true)
    (h : dputV cx.N s.ρ o.dst G fun ρ' => vc cx T 400 (.ops false all rest :: k) ⟨ρ', s.σ, s.n⟩) : JK cx T (.ops false all (o :: rest) :: k) s :=
  JK.goQ hp hr hk hb fun g hg => by subst hg; exact h

/-- A CALL to which own slices are lent. -/
theorem JK.goB {all : List Oper} {o : Oper} {rest : List Oper} {k : List It} {s : St} {f : FuncId} {cargs gs : List GV} {G : GV} (hp : cx.pg.Ok) (hr : Rt cx.pg f cargs G) (hk : callG cx.pg all s.ρ o = some (f, gs)) (hl : lents s.σ gs cargs) (hfree : roFree G = true)
    (h : dputV cx.N s.ρ o.dst G fun ρ' => vc cx T 400 (.ops false all rest :: k) ⟨ρ', s.σ, s.n⟩) : JK cx T (.ops false all (o :: rest) :: k) s := by
  obtain ⟨fo, args, ts, first, caps, gs', ho, hgd, hf, he, hargs⟩ := callG_spec hk
  refine JK.callB hr.ct hr.call ho hgd hf he (by rw [hargs]; exact hl) (fun g σ' n' hq => ?_) (fun g σ' n' hq => ?_)
  · obtain ⟨⟨rfl, h1⟩, _, _⟩ := hq
    simp [h1, hfree]
  · obtain ⟨⟨rfl, h1⟩, _, _⟩ := hq
    rw [nf_eq, ← dputV_eq]
    revert h
    cases o.dst with
    | none => exact fun h => vc_sound hp 400 _ _ h
    | some d =>
      simp only [dputV]
      cases Nat.blt d cx.N with
      | false => exact fun h => h
      | true => exact fun h => vc_sound hp 400 _ _ h


/-- A call with own things: what it is given, and what it leaves. -/
structure Hf (p : Pg) (f : FuncId) (n0 : Nat) (args : List GV) (σ : Heap) (Q : GV → Heap → Nat → Prop) : Prop where
  call : ∀ as w, (callFunc f as).run p.P w = .ok (.enter f as) w
  ct : Ct p f n0 args σ Q

theorem Hf.of {p : Pg} {f : FuncId} {fn : Func} {c : Code} {n0 N : Nat} {args : List GV} {σ : Heap} {Q : GV → Heap → Nat → Prop} (hp : p.Ok) (hf : p.P.funcs[f]? = some fn) (hb : fn.body = some c) (hN : fn.ntmps = N) (hl : Nat.ble args.length N = true) {rs : Array ResultVar} (hr : fn.results = rs)
    (hc : ∀ as w, (callFunc f as).run p.P w = .ok (.enter f as) w)
    (h : ∀ (H0 : Hid) (S0 : List Nat) (w0 : World) (h0 : H0.n = n0) (g0 : GlOk p H0), vc ⟨p, N, n0, H0, S0, w0, h0, g0⟩ (retT p rs.toList Q) 400 [.code c] ⟨argEnv 0 args, σ, n0⟩) : Hf p f n0 args σ Q :=
  ⟨hc, Ct.of_JK hp hf hb hN hl hr fun H0 S0 w0 h0 g0 => vc_sound hp 400 _ _ (h H0 S0 w0 h0 g0)⟩

theorem Hf.weak {p : Pg} {f : FuncId} {n0 : Nat} {args : List GV} {σ : Heap} {Q Q' : GV → Heap → Nat → Prop} (h : Hf p f n0 args σ Q)
    (hQ : ∀ g σ' n', Q g σ' n' → ∃ (r : Nat → Nat) (g0 : GV) (τ : Heap) (m : Nat), Q' g0 τ m ∧ g = ren r g0 ∧ leσ r τ σ' ∧ (idb m g0 && idbH m τ && distB (hids r τ) && fixB r n0 && Nat.ble n0 m) = true) : Hf p f n0 args σ Q' :=
  ⟨h.call, h.ct.weak hQ⟩

theorem JK.goH {all : List Oper} {o : Oper} {rest : List Oper} {k : List It} {s : St} {f : FuncId} {n0 : Nat} {cargs gs : List GV} {σc : Heap} {Q : GV → Heap → Nat → Prop} (hp : cx.pg.Ok) (hr : Hf cx.pg f n0 cargs σc Q) (r : Nat → Nat) (hk : callG cx.pg all s.ρ o = some (f, gs)) (hargs : gs = renL r cargs) (hσ : leσ r σc s.σ)
    (chk : (idbL n0 cargs && idbH n0 σc && distB (hids r σc)) = true) (hrn : ∀ i, i < n0 → r i < s.n)
    (h : ∀ g σ' n', Q g σ' n' → nf (ren (sh r n0 s.n) g) fun g => nfH (renH (sh r n0 s.n) σ' ++ hrest (hids r σc) s.σ) fun σ => nfN (s.n + (n' - n0)) fun n => dput cx.N s.ρ o.dst g fun ρ' => vc cx T 400 (.ops false all rest :: k) ⟨ρ', σ, n⟩) :
    JK cx T (.ops false all (o :: rest) :: k) s := by
  obtain ⟨fo, args, ts, first, caps, gs', ho, hgd, hf, he, hargs'⟩ := callG_spec hk
  refine JK.call hr.ct hr.call r ho hgd hf he (hargs'.trans hargs) hσ chk hrn (fun g σ' n' hq => ?_)
  have := h g σ' n' hq
  rw [nf_eq, nfH_eq, nfN_eq] at this ⊢
  have key : ∀ {d : Option Nat} {g : GV} {K K' : Env → Prop}, (∀ ρ, K ρ → K' ρ) → dput cx.N s.ρ d g K → dput cx.N s.ρ d g K' := by
    intro d g K K' hKK h
    cases d with
    | none => exact hKK _ h
    | some d =>
      simp only [dput, nf_eq] at h ⊢
      cases hb : Nat.blt d cx.N with
      | false => rw [hb] at h; exact h
      | true => rw [hb] at h; exact hKK _ h
  exact key (fun ρ hv => vc_sound hp 400 _ _ hv) this

/-! regions that draw their order -/
def isCall (o : Op) : Bool := match o with
  | .call { callee := .value _, .. } => true
  | .call { callee := .invoke _ _, .. } => true
  | _ => false

theorem RA.goA {ops : List Oper} {k : List It} {σs : Heap} {ρq : Env} {fuel : Nat} {listed : List Bool} {s : St} (i : Nat) (order : List (Nat × Bool)) (e : Bool) {o : Oper} {f : FuncId} {cargs : List GV} {G : GV} (hp : cx.pg.Ok) (hsel : Region.noSelect ops.toArray = true) (hT : ∀ ch s, ¬ T (.panic ch) s) (hr : Rt cx.pg f cargs G) (hi : ops[i]? = some o) (hk : callG cx.pg ops s.ρ o = some (f, cargs)) (hb : idbL 0 cargs = true)
    (hB : (eqB (Region.ready .any ops.toArray listed.toArray) [i] && ordB ops e order (listed.set i true)) = true)
    (h : dputV cx.N s.ρ o.dst G fun ρ' => nfE (qput ρq o.dst G) fun ρq => rvc cx T ops k σs e order fuel (listed.set i true) ρq ⟨ρ', s.σ, s.n⟩) : RA cx T ops k σs ρq (fuel + 1) listed s := by
  obtain ⟨fo, args, ts, first, caps, gs, ho', hgd, hf, he, hargs⟩ := callG_spec hk
  simp only [Bool.and_eq_true] at hB
  refine RA.call (n0 := 0) (r := id) (σc := []) i hr.ct hr.call hi (eqB_eq hB.1) hgd ho' hf he (by rw [renL_id]; exact hargs) trivial (by simp [hb, idbH, hids, distB]) (by simp) ?_
  rintro g σ' n' ⟨⟨rfl, hidb⟩, rfl, rfl⟩
  rw [nf_eq, nfH_eq, nfN_eq, nfE_eq]
  rw [ren_none _ hidb, ← dputV_eq]
  simp only [nfE_eq] at h
  have e1 : renH (sh id 0 s.n) [] ++ hrest (hids id []) s.σ = s.σ := by rw [show hids id [] = [] from rfl, hrest_nil]; rfl
  rw [e1]
  revert h
  cases o.dst with
  | none => exact fun h => RA.run hp hsel hT order hB.2 h
  | some d =>
    simp only [dputV]
    cases Nat.blt d cx.N with
    | false => exact fun h => h
    | true => exact fun h => RA.run hp hsel hT order hB.2 h

theorem RA.skipA {ops : List Oper} {k : List It} {σs : Heap} {ρq : Env} {fuel : Nat} {listed : List Bool} {s : St} (i : Nat) (order : List (Nat × Bool)) (e : Bool) {o : Oper} (hp : cx.pg.Ok) (hsel : Region.noSelect ops.toArray = true) (hT : ∀ ch s, ¬ T (.panic ch) s) (hi : ops[i]? = some o) (hgd : gdNo ops s.ρ o.guard = true)
    (hB : (eqB (Region.ready .any ops.toArray listed.toArray) [i] && ordB ops e order (listed.set i true)) = true)
    (h : dputV cx.N s.ρ o.dst (.v undef) fun ρ' => nfE (eput ρq o.dst (.v undef)) fun ρq => rvc cx T ops k σs e order fuel (listed.set i true) ρq ⟨ρ', s.σ, s.n⟩) : RA cx T ops k σs ρq (fuel + 1) listed s := by
  simp only [Bool.and_eq_true] at hB
  refine RA.skip i hi (eqB_eq hB.1) hgd ?_
  rw [← dputV_eq]
  simp only [nfE_eq] at h
  revert h
  cases o.dst with
  | none => exact fun h => RA.run hp hsel hT order hB.2 h
  | some d =>
    simp only [dputV]
    cases Nat.blt d cx.N with
    | false => exact fun h => h
    | true => exact fun h => RA.run hp hsel hT order hB.2 h
end
end Go.GK
