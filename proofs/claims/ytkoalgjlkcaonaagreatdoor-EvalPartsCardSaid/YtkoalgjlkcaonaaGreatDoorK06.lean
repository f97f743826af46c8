/-
  The ghost machine: functions that hand back a value, calls of them in one step, the end of a range over a map.
-/
import Derived.Test.YtkoalgjlkcaonaaGreatDoorK05
import Derived.Test.YtkoalgjlkcaonaaGreatDoorProg
import Derived.KernelRfl
import Derived.Lib.Bytealg
import Derived.Laws.Strings
import Derived.Shelf.Strings.Trim
import Derived.Shelf.Small.Strs
import Derived.Shelf.LaysM
import Derived.Shelf.LaysC
import Derived.Shelf.Strings.SlTrimAscii
import Derived.Shelf.Strings.Prefix
import Derived.Lib.SlTrimSet
set_option linter.unusedSimpArgs false
namespace Go.GK
open Go.RowKit

mutual
def eqG : GV → GV → Prop
  | .b c, .v (.bool d) => d = c
  | .b c, .b d => d = c
  | .v (.bool c), .b d => d = c
  | .tup xs, .tup ys => eqGs xs ys
  | x, y => y = x
def eqGs : List GV → List GV → Prop
  | [], [] => True
  | x :: xs, y :: ys => eqG x y ∧ eqGs xs ys
  | _, _ => False
end

mutual
theorem eqG_is {H : Hid} : ∀ {x y : GV} {u : Value}, eqG x y → Is H y u → Is H x u
  | .tup xs, .tup ys, u, h, hi => by
    simp only [eqG] at h
    obtain ⟨us, rfl, hl, hi⟩ := hi.inv_tup
    obtain ⟨h1, h2⟩ := eqGs_is xs ys h hi
    exact .tup (by rw [h1]; exact hl) h2
  | .b c, y, u, h, hi => by
    cases y with
    | v x =>
      cases x with
      | bool d => simp only [eqG] at h; subst h; have := hi.inv_v; subst this; exact .ro (.b _)
      | _ => simp only [eqG] at h; cases h
    | b d => simp only [eqG] at h; subst h; exact hi
    | _ => simp only [eqG] at h; cases h
  | .v x, y, u, h, hi => by
    cases x with
    | bool c =>
      cases y with
      | b d => simp only [eqG] at h; subst h; have := hi.inv_b; subst this; exact .ro (.v _)
      | v z => simp only [eqG] at h; rw [← h]; exact hi
      | _ => simp only [eqG] at h; cases h
    | _ => simp only [eqG] at h; rw [← h]; exact hi
  | .tup xs, .v _, _, h, hi | .tup xs, .b _, _, h, hi | .tup xs, .p _ _, _, h, hi | .tup xs, .e _ _ _ _, _, h, hi | .tup xs, .o _, _, h, hi | .tup xs, .r _, _, h, hi | .tup xs, .sl _ _, _, h, hi | .tup xs, .agg _, _, h, hi | .tup xs, .fn _ _ _, _, h, hi | .tup xs, .ifc _ _, _, h, hi => by simp only [eqG] at h; cases h
  | .p _ _, y, _, h, hi | .e _ _ _ _, y, _, h, hi | .o _, y, _, h, hi | .r _, y, _, h, hi | .sl _ _, y, _, h, hi | .agg _, y, _, h, hi | .fn _ _ _, y, _, h, hi | .ifc _ _, y, _, h, hi => by simp only [eqG] at h; rw [← h]; exact hi
theorem eqGs_is {H : Hid} {F : Nat → Value} : ∀ (xs ys : List GV), eqGs xs ys → (∀ (j : Nat) (g : GV), ys[j]? = some g → Is H g (F j)) → xs.length = ys.length ∧ ∀ (j : Nat) (g : GV), xs[j]? = some g → Is H g (F j)
  | [], [], _, _ => ⟨rfl, fun j g hj => by simp at hj⟩
  | x :: xs, y :: ys, h, hi => by
    simp only [eqGs] at h
    obtain ⟨h1, h2⟩ := eqGs_is (F := fun j => F (j + 1)) xs ys h.2 (fun j g hj => hi (j + 1) g (by simpa using hj))
    refine ⟨by simp [h1], fun j g hj => ?_⟩
    cases j with
    | zero => simp at hj; subst hj; exact eqG_is h.1 (hi 0 y rfl)
    | succ j => exact h2 j g (by simpa using hj)
  | [], _ :: _, h, _ => by simp [eqGs] at h
  | _ :: _, [], h, _ => by simp [eqGs] at h
end

mutual
theorem eqG_idb : ∀ {x y : GV}, eqG x y → idb 0 y = true → idb 0 x = true
  | .tup xs, .tup ys, h, hi => by
    simp only [eqG] at h
    simp only [idb] at hi ⊢
    exact eqGs_idb xs ys h hi
  | .b c, y, _, _ => rfl
  | .v x, y, _, _ => rfl
  | .tup xs, .v _, h, hi | .tup xs, .b _, h, hi | .tup xs, .p _ _, h, hi | .tup xs, .e _ _ _ _, h, hi | .tup xs, .o _, h, hi | .tup xs, .r _, h, hi | .tup xs, .sl _ _, h, hi | .tup xs, .agg _, h, hi | .tup xs, .fn _ _ _, h, hi | .tup xs, .ifc _ _, h, hi => by simp only [eqG] at h; cases h
  | .p _ _, y, h, hi | .e _ _ _ _, y, h, hi | .o _, y, h, hi | .r _, y, h, hi | .sl _ _, y, h, hi | .agg _, y, h, hi | .fn _ _ _, y, h, hi | .ifc _ _, y, h, hi => by simp only [eqG] at h; rw [← h]; exact hi
theorem eqGs_idb : ∀ (xs ys : List GV), eqGs xs ys → idbL 0 ys = true → idbL 0 xs = true
  | [], [], _, _ => rfl
  | x :: xs, y :: ys, h, hi => by
    simp only [eqGs] at h
    simp only [idbL, Bool.and_eq_true] at hi ⊢
    exact ⟨eqG_idb h.1 hi.1, eqGs_idb xs ys h.2 hi.2⟩
  | [], _ :: _, h, _ => by simp [eqGs] at h
  | _ :: _, [], h, _ => by simp [eqGs] at h
end

mutual
theorem ren_none (f : Nat → Nat) : ∀ {g : GV}, idb 0 g = true → ren f g = g
  | .v _, _ | .b _, _ | .r _, _ | .sl _ _, _ => rfl
  | .p _ _, h | .e _ _ _ _, h | .o _, h => by simp [idb] at h
  | .agg cs, h => by simp only [idb] at h; simp only [ren, renL_none f cs h]
  | .tup cs, h => by simp only [idb] at h; simp only [ren, renL_none f cs h]
  | .fn g aas cs, h => by simp only [idb, Bool.and_eq_true] at h; simp only [ren, renL_none f aas h.1, renL_none f cs h.2]
  | .ifc t x, h => by simp only [idb] at h; simp only [ren, ren_none f h]
theorem renL_none (f : Nat → Nat) : ∀ (l : List GV), idbL 0 l = true → renL f l = l
  | [], _ => rfl
  | g :: r, h => by simp only [idbL, Bool.and_eq_true] at h; simp only [renL, ren_none f h.1, renL_none f r h.2]
end

structure Rq (p : Pg) (f : FuncId) (args : List GV) (Q : GV → Prop) : Prop where
  call : ∀ aas w, (callFunc f aas).run p.P w = .ok (.enter f aas) w
  ct : Ct p f 0 args [] (Val fun g => Q g ∧ idb 0 g = true)
abbrev Rt (p : Pg) (f : FuncId) (args : List GV) (G : GV) : Prop := Rq p f args (· = G)

theorem Rq.of {p : Pg} {f : FuncId} {fn : Func} {c : Code} {N : Nat} {args : List GV} {Q : GV → Prop} (hp : p.Ok) (hf : p.P.funcs[f]? = some fn) (hb : fn.body = some c) (hN : fn.ntmps = N) (hl : Nat.ble args.length N = true) {rs : Array ResultVar} (hr : fn.results = rs)
    (hc : ∀ aas w, (callFunc f aas).run p.P w = .ok (.enter f aas) w)
    (h : ∀ (H0 : Hid) (S0 : List Nat) (w0 : World) (h0 : H0.n = 0) (g0 : GlOk p H0), vc ⟨p, N, 0, H0, S0, w0, h0, g0⟩ (retT p rs.toList fun g _ _ => Q g ∧ idb 0 g = true) 400 [.code c] ⟨argEnv 0 args, [], 0⟩) : Rq p f args Q :=
  ⟨hc, Ct.weak (Ct.of_JK hp hf hb hN hl hr fun H0 S0 w0 h0 g0 => vc_sound hp 400 _ _ (h H0 S0 w0 h0 g0)) fun g σ' n' hq => ⟨id, g, [], 0, ⟨hq, rfl, rfl⟩, (ren_id g).symm, trivial, by simp [hq.2, idbH, hids, distB, fixB]⟩⟩

theorem Rt.of {p : Pg} {f : FuncId} {fn : Func} {c : Code} {N : Nat} {args : List GV} {G : GV} (hp : p.Ok) (hf : p.P.funcs[f]? = some fn) (hb : fn.body = some c) (hN : fn.ntmps = N) (hl : Nat.ble args.length N = true) {rs : Array ResultVar} (hr : fn.results = rs)
    (hc : ∀ aas w, (callFunc f aas).run p.P w = .ok (.enter f aas) w)
    (h : ∀ (H0 : Hid) (S0 : List Nat) (w0 : World) (h0 : H0.n = 0) (g0 : GlOk p H0), vc ⟨p, N, 0, H0, S0, w0, h0, g0⟩ (retT p rs.toList fun g _ _ => eqG G g ∧ idb 0 g = true) 400 [.code c] ⟨argEnv 0 args, [], 0⟩) : Rt p f args G := by
  refine ⟨hc, fun H us w hn hg hcs hs => ?_⟩
  refine ((Rq.of (Q := eqG G) hp hf hb hN hl hr hc h).ct H us w hn hg hcs hs).mono ?_
  rintro e w' ⟨u, g, H', σ', rfl, hi, hs', hfr, hq, h1, h2⟩
  exact ⟨u, G, H', σ', rfl, eqG_is hq.1 hi, hs', hfr, ⟨rfl, eqG_idb hq.1 hq.2⟩, h1, h2⟩

theorem Rq.mono {p : Pg} {f : FuncId} {args : List GV} {Q Q' : GV → Prop} (h : Rq p f args Q) (hq : ∀ g, Q g → Q' g) : Rq p f args Q' :=
  ⟨h.call, fun H us w hn hg hcs hs => (h.ct H us w hn hg hcs hs).mono fun _ _ ⟨u, g, H', σ', e, hi, hs', hfr, hv, r⟩ => ⟨u, g, H', σ', e, hi, hs', hfr, ⟨hq g hv.1, hv.2⟩, r⟩⟩

def callG (p : Pg) (all : List Oper) (ρ : Env) (o : Oper) : Option (FuncId × List GV) :=
  bif gdOk all ρ o.guard then (match o.op with
    | .call { callee := .value fo, args := args, .. } => (match ev p ρ fo, evs p ρ args.toList with
      | some (.fn (.func f) first caps), some gs => some (f, first ++ gs ++ caps)
      | _, _ => none)
    | _ => none) else none

theorem hrest_nil : ∀ σ : Heap, hrest [] σ = σ
  | [] => rfl
  | (id, x) :: r => by simp [hrest, memB, hrest_nil r]

def dputV (N : Nat) (ρ : Env) : Option Nat → GV → (Env → Prop) → Prop
  | some d, g, K => bif Nat.blt d N then K ((d, g) :: ρ) else False
  | none, _, K => K ρ
theorem dputV_eq (N : Nat) (ρ : Env) (d : Option Nat) (g : GV) (K : Env → Prop) : dputV N ρ d g K = dput N ρ d g K := by
  cases d <;> simp [dputV, dput, nf_eq]

section
variable {cx : Cx} {T : Post}

theorem callG_spec {p : Pg} {all : List Oper} {ρ : Env} {o : Oper} {f : FuncId} {cargs : List GV} (h : callG p all ρ o = some (f, cargs)) :
    ∃ fo args ts first caps gs, o.op = .call { callee := .value fo, args := args, argTypes := ts } ∧ gdOk all ρ o.guard = true ∧ ev p ρ fo = some (.fn (.func f) first caps) ∧ evs p ρ args.toList = some gs ∧ first ++ gs ++ caps = cargs := by
  unfold callG at h
  cases hg : gdOk all ρ o.guard with
  | false => rw [hg] at h; cases h
  | true =>
    rw [hg] at h
    simp only [cond_true] at h
    split at h
    · rename_i fo args ts ho
      split at h
      · rename_i f' first caps gs h1 h2
        simp only [Option.some.injEq, Prod.mk.injEq] at h
        obtain ⟨rfl, rfl⟩ := h
        exact ⟨fo, args, ts, first, caps, gs, ho, rfl, h1, h2, rfl⟩
      · cases h
    · cases h

theorem JK.goQ {all : List Oper} {o : Oper} {rest : List Oper} {k : List It} {s : St} {f : FuncId} {cargs : List GV} {Q : GV → Prop} (hp : cx.pg.Ok) (hr : Rq cx.pg f cargs Q) (hk : callG cx.pg all s.ρ o = some (f, cargs)) (hb : idbL 0 cargs = true)
    (h : ∀ g, Q g → dputV cx.N s.ρ o.dst g fun ρ' => vc cx T 400 (.ops false all rest :: k) ⟨ρ', s.σ, s.n⟩) : JK cx T (.ops false all (o :: rest) :: k) s := by
  obtain ⟨fo, args, ts, first, caps, gs, ho, hgd, hf, he, hargs⟩ := callG_spec hk
  intro H a w hg hs ha
  have hw := gdOk_wanted (o := o) ha.env hgd
  show wpList _ _ _ _ _ _
  unfold wpList
  rw [if_pos hw]
  refine .inl (call_wp (r := id) (n0 := 0) (σc := []) hr.ct hr.call ho hf he (by rw [renL_id]; exact hargs) trivial (by simp [hb, idbH, hids, distB]) (by simp) hg hs ha.env fun H'' u g σ' n' w' hle hi hQ hsim => ?_)
  obtain ⟨⟨hq, hidb⟩, rfl, rfl⟩ := hQ
  have hd := h g hq
  rw [dputV_eq] at hd
  rw [ren_none _ hidb] at hi
  have e : hrest (hids id []) s.σ = s.σ := hrest_nil s.σ
  simp only [renH, List.nil_append, e] at hsim
  obtain ⟨ρ', ha', hJ⟩ := (ha.mono hle).dput hi hd
  exact vc_sound hp 400 _ _ hJ H'' (a.put o.dst u) w' (hg.mono hle) (hsim ρ') ha'

theorem JK.go {all : List Oper} {o : Oper} {rest : List Oper} {k : List It} {s : St} {f : FuncId} {cargs : List GV} {G : GV} (hp : cx.pg.Ok) (hr : Rt cx.pg f cargs G) (hk : callG cx.pg all s.ρ o = some (f, cargs)) (hb : idbL 0 cargs = true)
    (h : dputV cx.N s.ρ o.dst G fun ρ' => vc cx T 400 (.ops false all rest :: k) ⟨ρ', s.σ, s.n⟩) : JK cx T (.ops false all (o :: rest) :: k) s :=
  JK.goQ hp hr hk hb fun g hg => by subst hg; exact h

theorem JK.goB {all : List Oper} {o : Oper} {rest : List Oper} {k : List It} {s : St} {f : FuncId} {cargs gs : List GV} {G : GV} (hp : cx.pg.Ok) (hr : Rt cx.pg f cargs G) (hk : callG cx.pg all s.ρ o = some (f, gs)) (hl : lents s.σ gs cargs) (hfree : roFree G = true)
    (h : dputV cx.N s.ρ o.dst G fun ρ' => vc cx T 400 (.ops false all rest :: k) ⟨ρ', s.σ, s.n⟩) : JK cx T (.ops false all (o :: rest) :: k) s := by
  obtain ⟨fo, args, ts, first, caps, gs', ho, hgd, hf, he, hargs⟩ := callG_spec hk
  refine JK.callB hr.ct hr.call ho hgd hf he (by rw [hargs]; exact hl) (fun g σ' n' hq => ?_) (fun g σ' n' hq => ?_)
  · obtain ⟨⟨rfl, h1⟩, _, _⟩ := hq
    simp [h1, hfree]
  · obtain ⟨⟨rfl, h1⟩, _, _⟩ := hq
    rw [nf_eq, ← dputV_eq]
    revert h
    cases o.dst with
    | none => exact fun h => vc_sound hp 400 _ _ h
    | some d =>
      simp only [dputV]
      cases Nat.blt d cx.N with
      | false => exact fun h => h
      | true => exact fun h => vc_sound hp 400 _ _ h


structure Hf (p : Pg) (f : FuncId) (n0 : Nat) (args : List GV) (σ : Heap) (Q : GV → Heap → Nat → Prop) : Prop where
  call : ∀ aas w, (callFunc f aas).run p.P w = .ok (.enter f aas) w
  ct : Ct p f n0 args σ Q

theorem Hf.of {p : Pg} {f : FuncId} {fn : Func} {c : Code} {n0 N : Nat} {args : List GV} {σ : Heap} {Q : GV → Heap → Nat → Prop} (hp : p.Ok) (hf : p.P.funcs[f]? = some fn) (hb : fn.body = some c) (hN : fn.ntmps = N) (hl : Nat.ble args.length N = true) {rs : Array ResultVar} (hr : fn.results = rs)
    (hc : ∀ aas w, (callFunc f aas).run p.P w = .ok (.enter f aas) w)
    (h : ∀ (H0 : Hid) (S0 : List Nat) (w0 : World) (h0 : H0.n = n0) (g0 : GlOk p H0), vc ⟨p, N, n0, H0, S0, w0, h0, g0⟩ (retT p rs.toList Q) 400 [.code c] ⟨argEnv 0 args, σ, n0⟩) : Hf p f n0 args σ Q :=
  ⟨hc, Ct.of_JK hp hf hb hN hl hr fun H0 S0 w0 h0 g0 => vc_sound hp 400 _ _ (h H0 S0 w0 h0 g0)⟩

theorem Hf.weak {p : Pg} {f : FuncId} {n0 : Nat} {args : List GV} {σ : Heap} {Q Q' : GV → Heap → Nat → Prop} (h : Hf p f n0 args σ Q)
    (hQ : ∀ g σ' n', Q g σ' n' → ∃ (r : Nat → Nat) (g0 : GV) (τ : Heap) (m : Nat), Q' g0 τ m ∧ g = ren r g0 ∧ leσ r τ σ' ∧ (idb m g0 && idbH m τ && distB (hids r τ) && fixB r n0 && Nat.ble n0 m) = true) : Hf p f n0 args σ Q' :=
  ⟨h.call, h.ct.weak hQ⟩

theorem JK.goH {all : List Oper} {o : Oper} {rest : List Oper} {k : List It} {s : St} {f : FuncId} {n0 : Nat} {cargs gs : List GV} {σc : Heap} {Q : GV → Heap → Nat → Prop} (hp : cx.pg.Ok) (hr : Hf cx.pg f n0 cargs σc Q) (r : Nat → Nat) (hk : callG cx.pg all s.ρ o = some (f, gs)) (hargs : gs = renL r cargs) (hσ : leσ r σc s.σ)
    (chk : (idbL n0 cargs && idbH n0 σc && distB (hids r σc)) = true) (hrn : ∀ i, i < n0 → r i < s.n)
    (h : ∀ g σ' n', Q g σ' n' → nf (ren (sh r n0 s.n) g) fun g => nfH (renH (sh r n0 s.n) σ' ++ hrest (hids r σc) s.σ) fun σ => nfN (s.n + (n' - n0)) fun n => dput cx.N s.ρ o.dst g fun ρ' => vc cx T 400 (.ops false all rest :: k) ⟨ρ', σ, n⟩) :
    JK cx T (.ops false all (o :: rest) :: k) s := by
  obtain ⟨fo, args, ts, first, caps, gs', ho, hgd, hf, he, hargs'⟩ := callG_spec hk
  refine JK.call hr.ct hr.call r ho hgd hf he (hargs'.trans hargs) hσ chk hrn (fun g σ' n' hq => ?_)
  have := h g σ' n' hq
  rw [nf_eq, nfH_eq, nfN_eq] at this ⊢
  have key : ∀ {d : Option Nat} {g : GV} {K K' : Env → Prop}, (∀ ρ, K ρ → K' ρ) → dput cx.N s.ρ d g K → dput cx.N s.ρ d g K' := by
    intro d g K K' hKK h
    cases d with
    | none => exact hKK _ h
    | some d =>
      simp only [dput, nf_eq] at h ⊢
      cases hb : Nat.blt d cx.N with
      | false => rw [hb] at h; exact h
      | true => rw [hb] at h; exact hKK _ h
  exact key (fun ρ hv => vc_sound hp 400 _ _ hv) this

theorem RA.goA {ops : List Oper} {k : List It} {σs : Heap} {ρq : Env} {fuel : Nat} {listed : List Bool} {s : St} (i : Nat) (order : List (Nat × Bool)) (e : Bool) {o : Oper} {f : FuncId} {cargs : List GV} {G : GV} (hp : cx.pg.Ok) (hsel : Region.noSelect ops.toArray = true) (hT : ∀ ch s, ¬ T (.panic ch) s) (hr : Rt cx.pg f cargs G) (hi : ops[i]? = some o) (hk : callG cx.pg ops s.ρ o = some (f, cargs)) (hb : idbL 0 cargs = true)
    (hB : (eqB (Region.ready .any ops.toArray listed.toArray) [i] && ordB ops e order (listed.set i true)) = true)
    (h : dputV cx.N s.ρ o.dst G fun ρ' => nfE (qput ρq o.dst G) fun ρq => rvc cx T ops k σs e order fuel (listed.set i true) ρq ⟨ρ', s.σ, s.n⟩) : RA cx T ops k σs ρq (fuel + 1) listed s := by
  obtain ⟨fo, args, ts, first, caps, gs, ho', hgd, hf, he, hargs⟩ := callG_spec hk
  simp only [Bool.and_eq_true] at hB
  refine RA.call (n0 := 0) (r := id) (σc := []) i hr.ct hr.call hi (eqB_eq hB.1) hgd ho' hf he (by rw [renL_id]; exact hargs) trivial (by simp [hb, idbH, hids, distB]) (by simp) ?_
  rintro g σ' n' ⟨⟨rfl, hidb⟩, rfl, rfl⟩
  rw [nf_eq, nfH_eq, nfN_eq, nfE_eq]
  rw [ren_none _ hidb, ← dputV_eq]
  simp only [nfE_eq] at h
  have e1 : renH (sh id 0 s.n) [] ++ hrest (hids id []) s.σ = s.σ := by rw [show hids id [] = [] from rfl, hrest_nil]; rfl
  rw [e1]
  revert h
  cases o.dst with
  | none => exact fun h => RA.run hp hsel hT order hB.2 h
  | some d =>
    simp only [dputV]
    cases Nat.blt d cx.N with
    | false => exact fun h => h
    | true => exact fun h => RA.run hp hsel hT order hB.2 h

theorem RA.skipA {ops : List Oper} {k : List It} {σs : Heap} {ρq : Env} {fuel : Nat} {listed : List Bool} {s : St} (i : Nat) (order : List (Nat × Bool)) (e : Bool) {o : Oper} (hp : cx.pg.Ok) (hsel : Region.noSelect ops.toArray = true) (hT : ∀ ch s, ¬ T (.panic ch) s) (hi : ops[i]? = some o) (hgd : gdNo ops s.ρ o.guard = true)
    (hB : (eqB (Region.ready .any ops.toArray listed.toArray) [i] && ordB ops e order (listed.set i true)) = true)
    (h : dputV cx.N s.ρ o.dst (.v undef) fun ρ' => nfE (eput ρq o.dst (.v undef)) fun ρq => rvc cx T ops k σs e order fuel (listed.set i true) ρq ⟨ρ', s.σ, s.n⟩) : RA cx T ops k σs ρq (fuel + 1) listed s := by
  simp only [Bool.and_eq_true] at hB
  refine RA.skip i hi (eqB_eq hB.1) hgd ?_
  rw [← dputV_eq]
  simp only [nfE_eq] at h
  revert h
  cases o.dst with
  | none => exact fun h => RA.run hp hsel hT order hB.2 h
  | some d =>
    simp only [dputV]
    cases Nat.blt d cx.N with
    | false => exact fun h => h
    | true => exact fun h => RA.run hp hsel hT order hB.2 h
end
end Go.GK
/-
  The ghost machine: contracts of library functions that are given values and a slice of values.
-/
namespace Go.GK
open Go.RowKit
section
variable {p : Pg}

theorem Rt.calls {f : FuncId} (hc : ∀ a w, (callFunc f a).run p.P w = .ok (.enter f a) w) (vs : List Value) (g : Value) (h : ∀ w, Calls p.P f vs.toArray w fun e w' => e = .returned g ∧ Below w.heap.size w w') : Rt p f (vs.map .v) (.v g) :=
  ⟨hc, fun H us w hn hg hcs hs => (Ct.of_below vs g h H us w hn hg hcs hs).mono fun _ _ ⟨u, g', H', σ', e', hi', hs', hfr, hv, r⟩ => ⟨u, g', H', σ', e', hi', hs', hfr, ⟨hv, by rw [hv]; rfl⟩, r⟩⟩

structure SlAt (w : World) (A : Option Addr) (c : Nat) (xs : List Value) : Prop where
  cap : xs.length ≤ c
  max : c ≤ maxLen
  at_ : xs = [] ∨ ∃ b o, A = some ⟨b, o, none⟩ ∧ b < w.heap.size ∧ ∀ (j : Nat) (x : Value), xs[j]? = some x → w.cell? ⟨b, o + j, none⟩ = some x

theorem SlAt.of {ro : Nat → Option Obj} {w : World} (hro : ∀ b o, ro b = some o → w.heap[b]? = some o) {xs : List Value} {u : Value} (h : IsR ro (.sl 1 (xs.map fun x => [.v x])) u) : ∃ A c, u = .slice A xs.length c ∧ SlAt w A c xs := by
  obtain ⟨A, c, us, rfl, hlc, hcm, _, hne⟩ := h.inv_sl
  simp only [List.length_map] at hlc ⊢
  refine ⟨A, c, rfl, ⟨hlc, hcm, ?_⟩⟩
  cases xs with
  | nil => exact .inl rfl
  | cons x0 r =>
    obtain ⟨⟨b, o, sp⟩, rfl, h1, h2, _⟩ := hne (by simp)
    refine .inr ?_
    have h00 := h1 0 [.v x0] rfl 0 (.v x0) rfl
    have hsp : sp = none := by
      have : ({ block := b, off := o, spot := sp } : Addr).add (0 * 1 + 0) = ⟨b, o, sp⟩ := by simp [Addr.add]
      rw [this] at h00
      unfold roCell at h00
      split at h00
      · split at h00
        · cases h00
        · rename_i hs; simpa using hs
      · cases h00
    subst hsp
    have hcell := roCell_cell hro h00
    refine ⟨b, o, rfl, ?_, fun j x hj => ?_⟩
    · have := World.block_lt_of_cell? w _ hcell
      rwa [addr_add_block] at this
    · have hr : ((x0 :: r).map fun x => [GV.v x])[j]? = some [.v x] := by rw [List.getElem?_map, hj]; rfl
      have e1 := roCell_cell hro (h1 j [.v x] hr 0 (.v x) rfl)
      have e2 := h2 j [.v x] hr 0 (.v x) rfl
      cases e2
      rw [addr_add_none] at e1
      simpa using e1

theorem Rt.slice {f : FuncId} (hc : ∀ a w, (callFunc f a).run p.P w = .ok (.enter f a) w) (xs vs : List Value) (g : Value) (h : ∀ (A : Option Addr) (c : Nat) (w : World), SlAt w A c xs → Calls p.P f (#[.slice A xs.length c] ++ vs.toArray) w fun e w' => e = .returned g ∧ Below w.heap.size w w') :
    Rt p f (.sl 1 (xs.map fun x => [.v x]) :: vs.map .v) (.v g) := by
  refine ⟨hc, fun H us w hn hg hcs hs => ?_⟩
  obtain ⟨hl, hi⟩ := hcs
  have h0 : us.size = vs.length + 1 := by rw [← hl]; simp
  obtain ⟨A, c, hu0, hat⟩ := SlAt.of hs.ro (hi 0 _ rfl).inv_sl
  have hus : us = #[.slice A xs.length c] ++ vs.toArray := by
    apply Array.ext_getElem?
    intro i
    cases i with
    | zero =>
      have : us[0]? = some (us.getD 0 undef) := by simp [Array.getD, h0]
      rw [this, hu0]
      simp
    | succ i =>
      by_cases hlt : i < vs.length
      · have h1 := (hi (i + 1) (.v vs[i]) (by simp [hlt])).inv_v
        have : us[i + 1]? = some (us.getD (i + 1) undef) := by simp [Array.getD, h0, hlt]
        rw [this, h1]
        simp [hlt]
      · rw [Array.getElem?_eq_none (by omega), Array.getElem?_eq_none (by simp; omega)]
  rw [hus]
  refine (h A c w hat).mono ?_
  rintro e w' ⟨rfl, hb⟩
  exact ⟨g, .v g, H, [], rfl, .ro (.v g), hs.below hb, Fr.below (Fr.refl _ _ _) hb, ⟨rfl, rfl⟩, rfl, hn⟩
end
end Go.GK
/-
  The ghost machine: an own variable that is written no more.
-/
namespace Go.GK
open Go.RowKit

mutual
def fzb (id : Nat) (cs0 : List GV) : GV → GV
  | .o j => .o j
  | .agg cs => .agg (fzbL id cs0 cs)
  | .tup cs => .tup (fzbL id cs0 cs)
  | .fn f aas cs => .fn f (fzbL id cs0 aas) (fzbL id cs0 cs)
  | .ifc t x => .ifc t (fzb id cs0 x)
  | .v x => .v x
  | .b c => .b c
  | .p j off => bif Nat.beq j id then .r (cs0.drop off) else .p j off
  | .e j z i off => .e j z i off
  | .r cs => .r cs
  | .sl z r => .sl z r
def fzbL (id : Nat) (cs0 : List GV) : List GV → List GV
  | [] => []
  | g :: r => fzb id cs0 g :: fzbL id cs0 r
end

def fzbE (id : Nat) (cs0 : List GV) : Env → Env
  | [] => []
  | (t, g) :: r => (t, fzb id cs0 g) :: fzbE id cs0 r

def fzbR (id : Nat) (cs0 : List GV) : Res → Res
  | .blk ty cs => .blk ty (fzbL id cs0 cs)
  | .row ty z rs => .row ty z rs
  | .ob o => .ob o
  | .ln sz n => .ln sz n
  | .sub i z lo n => .sub i z lo n
  | .mp kd es => .mp kd (es.map fun x => (x.1, fzb id cs0 x.2))
  | .mr kd es left cur => .mr kd (es.map fun x => (x.1, fzb id cs0 x.2)) left cur
  | .itr m => .itr m
  | .me kd es k st => .me kd (es.map fun x => (x.1, fzb id cs0 x.2)) k st
  | .mre kd es left cur k st => .mre kd (es.map fun x => (x.1, fzb id cs0 x.2)) left cur k st
  | .ab A => .ab A

def fzbH (id : Nat) (cs0 : List GV) : Heap → Heap
  | [] => []
  | (j, x) :: r => (j, fzbR id cs0 x) :: fzbH id cs0 r

theorem fzbL_get (id : Nat) (cs0 : List GV) : ∀ (l : List GV) (j : Nat), (fzbL id cs0 l)[j]? = (l[j]?).map (fzb id cs0)
  | [], j => by simp [fzbL]
  | g :: r, 0 => by simp [fzbL]
  | g :: r, j + 1 => by simp [fzbL, fzbL_get id cs0 r j]
theorem fzbL_len (id : Nat) (cs0 : List GV) : ∀ (l : List GV), (fzbL id cs0 l).length = l.length
  | [] => rfl
  | _ :: r => by simp [fzbL, fzbL_len id cs0 r]

theorem fzbE_look (id : Nat) (cs0 : List GV) : ∀ (ρ : Env) (t : Nat), look (fzbE id cs0 ρ) t = (look ρ t).map (fzb id cs0)
  | [], t => rfl
  | (s, g) :: r, t => by
    simp only [fzbE, look]
    cases Nat.beq s t with
    | true => rfl
    | false => exact fzbE_look id cs0 r t

theorem fzbH_mem {id : Nat} {cs0 : List GV} : ∀ {σ : Heap} {x : Nat × Res}, x ∈ fzbH id cs0 σ → ∃ y ∈ σ, x = (y.1, fzbR id cs0 y.2)
  | [], _, h => by simp [fzbH] at h
  | (j, y) :: r, x, h => by
    simp only [fzbH, List.mem_cons] at h
    rcases h with rfl | h
    · exact ⟨_, List.mem_cons_self, rfl⟩
    · obtain ⟨z, hz, e⟩ := fzbH_mem h
      exact ⟨z, List.mem_cons_of_mem _ hz, e⟩

theorem fzbH_blks {H H' : Hid} (e1 : H'.bl = H.bl) (e2 : H'.sv = H.sv) {id : Nat} {cs0 : List GV} : ∀ (σ : Heap), blks H' (fzbH id cs0 σ) = blks H σ
  | [] => rfl
  | (j, y) :: r => by
    simp only [fzbH, blks_cons, fzbH_blks e1 e2 r]
    congr 1
    cases y <;> simp [fzbR, blocks, e1, e2]

theorem Is.fzb {H H' : Hid} (hro : ∀ b o, H.ro b = some o → H'.ro b = some o) (e1 : H'.bl = H.bl) (e2 : H'.sv = H.sv) (e3 : H'.n = H.n) {id : Nat} {cs0 : List GV} (hs : ∀ off, IsR H'.ro (.r (cs0.drop off)) (.pointer (some ⟨H.bl id, off, none⟩))) {g : GV} {u : Value} (h : Is H g u) : Is H' (GK.fzb id cs0 g) u := by
  have hle : H.le H' := ⟨Nat.le_of_eq e3.symm, hro, fun i _ => by rw [e1], fun i _ => by rw [e2]⟩
  have hL : ∀ {cs : List GV} {us : Array Value}, (∀ (j : Nat) (g : GV), cs[j]? = some g → Is H' (GK.fzb id cs0 g) (us.getD j undef)) → ∀ (j : Nat) (g : GV), (fzbL id cs0 cs)[j]? = some g → Is H' g (us.getD j undef) := by
    intro cs us hh j g hj
    rw [fzbL_get] at hj
    cases hc : cs[j]? with
    | none => rw [hc] at hj; cases hj
    | some x => rw [hc] at hj; simp at hj; subst hj; exact hh j x hc
  induction h with
  | ro hr =>
    have hR : ∀ {g : GV} {u : Value}, IsR H.ro g u → Is H' (GK.fzb id cs0 g) u := by
      intro g u hr
      induction hr with
      | v x => exact .ro (.v x)
      | b c => exact .ro (.b c)
      | r us h1 h2 _ => exact .ro ((IsR.r us h1 h2).mono hro)
      | slnil => exact .ro .slnil
      | sl us h0 hc hm h1 h2 h3 _ => exact .ro ((IsR.sl us h0 hc hm h1 h2 h3).mono hro)
      | agg hl _ ih => exact .agg (by rw [fzbL_len]; exact hl) (hL ih)
      | tup hl _ ih => exact .tup (by rw [fzbL_len]; exact hl) (hL ih)
      | fn hl _ hl' _ ih ih' => exact .fn (by rw [fzbL_len]; exact hl) (hL ih) (by rw [fzbL_len]; exact hl') (hL ih')
      | ifc _ ih => exact .ifc ih
    exact hR hr
  | @p j off hid =>
    simp only [GK.fzb]
    cases hb : Nat.beq j id with
    | true =>
      have := beq_eq hb
      subst this
      exact .ro (hs off)
    | false => exact (Is.p hid).mono hle
  | e hid hs => exact (Is.e hid hs).mono hle
  | o hid hsj how => exact (Is.o hid hsj how).mono hle
  | agg hl _ ih => exact .agg (by rw [fzbL_len]; exact hl) (hL ih)
  | tup hl _ ih => exact .tup (by rw [fzbL_len]; exact hl) (hL ih)
  | fn hl _ hl' _ ih ih' => exact .fn (by rw [fzbL_len]; exact hl) (hL ih) (by rw [fzbL_len]; exact hl') (hL ih')
  | ifc _ ih => exact .ifc ih

theorem esIs_fzb {H H' : Hid} {id : Nat} {cs0 : List GV} (hf : ∀ {g : GV} {u : Value}, Is H g u → Is H' (GK.fzb id cs0 g) u) : ∀ {es : List (Value × GV)} {l : List MapEntry}, esIs H es l → esIs H' (es.map fun x => (x.1, GK.fzb id cs0 x.2)) l
  | [], [], _ => trivial
  | (_, _) :: r, _ :: _, h => ⟨h.1, hf h.2.1, esIs_fzb hf (es := r) h.2.2⟩
  | [], _ :: _, h => h.elim
  | _ :: _, [], h => h.elim
theorem MapOk.fzb {H H' : Hid} {id : Nat} {cs0 : List GV} (hf : ∀ {g : GV} {u : Value}, Is H g u → Is H' (GK.fzb id cs0 g) u) {kd : Option IntKind} {es : List (Value × GV)} {arr : Array MapEntry} {clock : Nat} (h : MapOk H kd es arr clock) : MapOk H' kd (es.map fun x => (x.1, GK.fzb id cs0 x.2)) arr clock :=
  ⟨esIs_fzb hf h.is, h.sorts, h.st⟩


section
variable {cx : Cx} {T : Post}
theorem JK.freezeB {k : List It} {s : St} (id : Nat) {ty : Nat} {cs0 : List GV} (hl : hlook s.σ id = some (.blk ty cs0)) (hb0 : idbL 0 cs0 = true) (h : nfH (fzbH id cs0 (hdel s.σ id)) fun σ => JK cx T k ⟨fzbE id cs0 s.ρ, σ, s.n⟩) : JK cx T k s := by
  rw [nfH_eq] at h
  refine JK.upd _ (fun H a w hg hs ha => ?_) h
  obtain ⟨l1, l2, e1, e2, _⟩ := hlook_split hl
  have hmem := hlook_mem hl
  obtain ⟨us, hwb, hlen0, his0⟩ := hs.sat.holds _ hmem
  let ro' : Nat → Option Obj := fun b => if H.bl id = b then w.heap[b]? else H.ro b
  have hfree : ∀ b, H.bl id = b → H.ro b = none := fun b hb => hs.sat.free b (List.mem_flatMap.2 ⟨_, hmem, by simp [blocks, hb]⟩)
  have hro : ∀ b o, H.ro b = some o → ro' b = some o := by
    intro b o ho
    show (if _ then _ else _) = _
    rw [if_neg (fun hb => by rw [hfree b hb] at ho; cases ho)]
    exact ho
  let H' : Hid := { H with ro := ro' }
  have hle : H.le H' := ⟨Nat.le_refl _, hro, fun _ _ => rfl, fun _ _ => rfl⟩
  have hsl : ∀ off, IsR ro' (.r (cs0.drop off)) (.pointer (some ⟨H.bl id, off, none⟩)) := fun off => by
    refine .r (fun j => us.getD (off + j) undef) (fun j g hj => ?_) (fun j g hj => ?_)
    · rw [List.getElem?_drop] at hj
      have hlt : off + j < us.size := by rw [← hlen0]; exact (List.getElem?_eq_some_iff.1 hj).1
      rw [addr_add_none]
      unfold roCell
      have hr : ro' (H.bl id) = some (.cells us ty (0, 0)) := by
        show (if H.bl id = H.bl id then w.heap[H.bl id]? else _) = _
        rw [if_pos rfl]; exact hwb
      simp only [hr, Option.isSome_none, Bool.false_eq_true, if_false]
      simp [Array.getD, hlt]
    · rw [List.getElem?_drop] at hj
      exact ((his0 _ g hj).toR (idbL_get hb0 hj)).mono hro
  have hfz : ∀ {g : GV} {u : Value}, Is H g u → Is H' (fzb id cs0 g) u := fun hi => Is.fzb (H' := H') hro rfl rfl rfl hsl hi
  have hfr := hs.fr
  have hnd := hs.sat.nodup
  have hbl : blks H' (fzbH id cs0 (hdel s.σ id)) = blks H (l1 ++ l2) := by rw [e2]; exact fzbH_blks rfl rfl _
  rw [e1, blks_append, blks_cons] at hnd
  have n1 := List.nodup_append.1 hnd
  have n2 := List.nodup_append.1 n1.2.1
  have hin : ∀ b ∈ blks H (l1 ++ l2), b ∈ blks H s.σ := fun b hb => by
    rw [e1, blks_append, blks_cons]
    rw [blks_append] at hb
    rcases List.mem_append.1 hb with h1 | h1 <;> simp [h1]
  have hnin : ∀ b ∈ blks H (l1 ++ l2), H.bl id ≠ b := fun b hb hc => by
    have hc' : b ∈ blocks H (id, .blk ty cs0) := by simp [blocks, hc]
    rw [blks_append] at hb
    rcases List.mem_append.1 hb with h1 | h1
    · exact n1.2.2 b h1 b (by simp [hc']) rfl
    · exact n2.2.2 b hc' b h1 rfl
  refine ⟨H', hg.up hro, ⟨hs.n, ⟨fun b o ho => ?_, fun x hx => ?_, ?_, fun b hb => ?_, fun x hx => ?_⟩, ?_⟩, ⟨fun t g hlk => ?_, ha.size, ha.defers⟩⟩
  · have ho' : (if H.bl id = b then w.heap[b]? else H.ro b) = some o := ho
    split at ho'
    · exact ho'
    · exact hs.sat.ro b o ho'
  · obtain ⟨y, hy, rfl⟩ := fzbH_mem hx
    rw [e2] at hy
    have hy' : y ∈ s.σ := by
      rw [e1]
      rcases List.mem_append.1 hy with h1 | h1 <;> simp [h1]
    have hh := hs.sat.holds y hy'
    obtain ⟨j, r⟩ := y
    cases r with
    | blk ty cs =>
      obtain ⟨us, hw, hlen, hi⟩ := hh
      refine ⟨us, hw, by rw [fzbL_len]; exact hlen, fun j g hj => ?_⟩
      rw [fzbL_get] at hj
      cases hc : cs[j]? with
      | none => rw [hc] at hj; cases hj
      | some x => rw [hc] at hj; simp at hj; subst hj; exact hfz (hi j x hc)
    | row ty z rs => obtain ⟨ys, h1, h2⟩ := hh; exact ⟨ys, h1, h2.mono hro⟩
    | ob o => exact hh
    | ln z n => exact hh
    | sub i z lo n => exact hh
    | mp kd es =>
      obtain ⟨b, arr, clock, h1, h2, h3⟩ := hh
      exact ⟨b, arr, clock, h1, h2, h3.fzb hfz⟩
    | mr kd es left cur =>
      obtain ⟨b, arr, clock, seen, h1, h2, h3, h4, h5⟩ := hh
      exact ⟨b, arr, clock, seen, h1, h2, h3, h4.fzb hfz, h5⟩
    | itr m => exact hh
    | me kd es k st =>
      obtain ⟨h0, b, arr, clock, h1, h2, h3, h4⟩ := hh
      exact ⟨h0, b, arr, clock, h1, h2, h3.fzb hfz, h4⟩
    | ab A => exact A.mono _ _ _ _ _ hro hh
    | mre kd es left cur k st =>
      obtain ⟨h0, b, arr, clock, seen, h1, h2, h3, h4, h5⟩ := hh
      exact ⟨h0, b, arr, clock, seen, h1, h2, h3, h4.fzb hfz, h5⟩
  · rw [hbl, blks_append]
    exact List.nodup_append.2 ⟨n1.1, n2.2.1, fun b hb c hc e => n1.2.2 b hb c (by simp [hc]) e⟩
  · rw [hbl] at hb
    show (if _ then _ else _) = _
    rw [if_neg (hnin b hb)]
    exact hs.sat.free b (hin b hb)
  · obtain ⟨y, hy, rfl⟩ := fzbH_mem hx
    rw [e2] at hy
    refine hs.sat.ids y ?_
    rw [e1]
    rcases List.mem_append.1 hy with h1 | h1 <;> simp [h1]
  · refine ⟨hfr.os, hfr.tape, hfr.output, hfr.size, hfr.keep, fun b hb => ?_, fun b h1 h2 => ?_, hfr.le.trans hle⟩
    · rw [hbl] at hb
      exact hfr.own b (hin b hb)
    · have h2' : (if H.bl id = b then w.heap[b]? else H.ro b) ≠ none := h2
      split at h2'
      · rename_i hb
        exact hfr.own b (List.mem_flatMap.2 ⟨_, hmem, by simp [blocks, hb]⟩)
      · exact hfr.fro b h1 h2'
  · rw [fzbE_look] at hlk
    cases hc : look s.ρ t with
    | none => rw [hc] at hlk; cases hlk
    | some x => rw [hc] at hlk; simp at hlk; subst hlk; exact hfz (ha.env t x hc)
end
end Go.GK
/-
  The ghost machine: a call to which own slices are lent, within a region that draws its order.
-/
namespace Go.GK
open Go.RowKit
section
variable {cx : Cx} {T : Post}

theorem call_wpB {o : Oper} {s : St} {fo : Operand} {args : Array Operand} {ts : Array TypeId} {f : FuncId} {first caps gs : List GV} {cargs : List GV} {Q : GV → Heap → Nat → Prop}
    (hct : Ct cx.pg f 0 cargs [] Q) (hcall : ∀ aas w, (callFunc f aas).run cx.pg.P w = .ok (.enter f aas) w)
    (ho : o.op = .call { callee := .value fo, args := args, argTypes := ts }) {ρ : Env} (hf : ev cx.pg ρ fo = some (.fn (.func f) first caps)) (he : evs cx.pg ρ args.toList = some gs) {σ0 : Heap}
    (hl : lents σ0 (first ++ gs ++ caps) cargs) (hQ : ∀ g σ' n', Q g σ' n' → (idb 0 g && roFree g) = true)
    {H : Hid} {a : Act} {w : World} (hg : GlOk cx.pg H) (hs : Sim cx H s w) (hsat : Sat H σ0 w) (ha : EnvOk H ρ a) {K : Act → World → Prop} {Q' : Exit → Act → World → Prop}
    (hK : ∀ (u : Value) (g : GV) (w' : World) (σ' : Heap) (n' : Nat), Is H g u → Q g σ' n' → Sim cx H s w' → K (a.put o.dst u) w') : o.wp cx.pg.P a w K Q' := by
  obtain ⟨us, hc, hex⟩ := execOp_call (ts := ts) hg ha hf he hcall
  let Hb : Hid := ⟨fun b => w.heap[b]?, fun _ => 0, fun _ => .bool false, 0⟩
  obtain ⟨hlen, hlent⟩ := lents_spec hl
  have hcb : Cells Hb cargs us := ⟨by rw [← hlen]; exact hc.1, fun j c hj => by
    obtain ⟨g, hgj, hl⟩ := hlent j c hj
    exact lent_is hsat (fun _ => rfl) hl (hc.2 j g hgj)⟩
  have hgb : GlOk cx.pg Hb := ⟨fun g gv hgv => (hg g gv hgv).mono (fun b o hb => hsat.ro b o hb), fun g cs hgc => by
    obtain ⟨c, ty, fz, e, hz⟩ := hg.ex g cs hgc
    exact ⟨c, ty, fz, hsat.ro _ _ e, hz⟩⟩
  unfold Oper.wp
  rw [hex o ho w, Oper.upon_enter]
  refine (hct Hb us w rfl hgb hcb ⟨fun b o h => h, by simp, by simp [blks], by simp [blks], by simp⟩).mono ?_
  rintro e w' ⟨u, g, H', σ', rfl, hi, hs', hfr, hq⟩
  have hbel : Below w.heap.size w w' := ⟨hfr.os, hfr.tape, hfr.output, hfr.size, fun b hb => hfr.keep b hb (by simp [blks])⟩
  have hchk := hQ g σ' _ hq
  simp only [Bool.and_eq_true] at hchk
  exact hK u g w' σ' _ (hi.free hchk.1 hchk.2) hq (hs.below hbel)

theorem RA.goB {ops : List Oper} {k : List It} {σs : Heap} {ρq : Env} {fuel : Nat} {listed : List Bool} {s : St} (i : Nat) (order : List (Nat × Bool)) (e : Bool) {o : Oper} {f : FuncId} {cargs gs : List GV} {G : GV} (hp : cx.pg.Ok) (hsel : Region.noSelect ops.toArray = true) (hT : ∀ ch s, ¬ T (.panic ch) s) (hr : Rt cx.pg f cargs G) (hi : ops[i]? = some o) (hk : callG cx.pg ops s.ρ o = some (f, gs)) (hl : lents (s.σ ++ σs) gs cargs) (hfree : roFree G = true)
    (hB : (eqB (Region.ready .any ops.toArray listed.toArray) [i] && ordB ops e order (listed.set i true)) = true)
    (h : dputV cx.N s.ρ o.dst G fun ρ' => nfE (qput ρq o.dst G) fun ρq => rvc cx T ops k σs e order fuel (listed.set i true) ρq ⟨ρ', s.σ, s.n⟩) : RA cx T ops k σs ρq (fuel + 1) listed s := by
  obtain ⟨fo, args, ts, first, caps, gs', ho', hgd, hf, he, hargs⟩ := callG_spec hk
  simp only [Bool.and_eq_true] at hB
  refine RA.only_of i hi (eqB_eq hB.1) hgd fun m0 H0 S0 w0 h0 g0 H a w K Q' hg hs ha hsat hK => ?_
  refine call_wpB (cx := ⟨cx.pg, cx.N, m0, H0, S0, w0, h0, g0⟩) hr.ct hr.call ho' hf he (σ0 := s.σ ++ σs) (by rw [hargs]; exact hl) (fun g σ' n' hq => ?_) hg hs hsat ha.env fun u g w' σ' n' hiu hq hsim => ?_
  · obtain ⟨⟨rfl, h1⟩, _, _⟩ := hq
    simp [h1, hfree]
  · obtain ⟨⟨rfl, _⟩, _, _⟩ := hq
    simp only [nfE_eq] at h
    rw [dputV_eq] at h
    have hlt := dput_lt h
    obtain ⟨ρ', ha', hra⟩ := ha.dput hiu h
    exact hK H u g w' s ρ' (Hid.le.refl H) hiu (hsim.ρ ρ') ha' hlt (RA.run hp hsel hT order hB.2 hra)
end
end Go.GK
/-
  The program of this seat, and its types, as the ghost machine takes them.
-/
namespace Go.Proofs.YtkoalgjlkcaonaaGreatDoor
open Go.GK
def tyTab : TT := [
  (1, ⟨1, 8, false, [.nilFunc], .other, none⟩),
  (2, ⟨1, 8, false, [.int .i64 0], .int .i64, none⟩),
  (3, ⟨1, 8, false, [.int .i64 0], .int .i64, none⟩),
  (4, ⟨1, 1, false, [.bool false], .bool, none⟩),
  (5, ⟨1, 1, false, [.int .u8 0], .int .u8, none⟩),
  (6, ⟨1, 1, false, [.int .u8 0], .int .u8, none⟩),
  (9, ⟨1, 16, false, [.string .empty], .str, none⟩),
  (12, ⟨1, 8, false, [.int .u64 0], .int .u64, none⟩),
  (13, ⟨2, 24, true, [.string .empty, .int .u64 0], .struct [(0, 1, false), (1, 1, false)], none⟩),
  (20, ⟨1, 16, false, [.nilIface], .iface false, none⟩),
  (21, ⟨1, 4, false, [.int .i32 0], .int .i32, none⟩),
  (22, ⟨1, 24, false, [.slice none 0 0], .slice 31, none⟩),
  (23, ⟨1, 8, false, [.nilFunc], .other, none⟩),
  (24, ⟨1, 8, false, [.nilFunc], .other, none⟩),
  (25, ⟨1, 8, false, [.nilFunc], .other, none⟩),
  (26, ⟨3, 40, true, [.int .i64 0, .int .i64 0, .slice none 0 0], .struct [(0, 1, false), (1, 1, false), (2, 1, false)], none⟩),
  (27, ⟨3, 40, true, [.int .i64 0, .int .i64 0, .slice none 0 0], .struct [(0, 1, false), (1, 1, false), (2, 1, false)], none⟩),
  (28, ⟨1, 24, false, [.slice none 0 0], .slice 95, none⟩),
  (29, ⟨1, 24, false, [.slice none 0 0], .slice 33, none⟩),
  (30, ⟨2, 48, true, [.slice none 0 0, .slice none 0 0], .struct [(0, 1, false), (1, 1, false)], none⟩),
  (31, ⟨2, 48, true, [.slice none 0 0, .slice none 0 0], .struct [(0, 1, false), (1, 1, false)], none⟩),
  (32, ⟨2, 16, true, [.int .i64 0, .int .i64 0], .struct [(0, 1, false), (1, 1, false)], none⟩),
  (33, ⟨2, 16, true, [.int .i64 0, .int .i64 0], .struct [(0, 1, false), (1, 1, false)], some [.int, .int]⟩),
  (34, ⟨1, 24, false, [.slice none 0 0], .slice 47, none⟩),
  (36, ⟨1, 8, false, [.nilFunc], .other, none⟩),
  (37, ⟨1, 8, false, [.nilFunc], .other, none⟩),
  (38, ⟨1, 8, false, [.nilFunc], .other, none⟩),
  (39, ⟨1, 8, false, [.nilFunc], .other, none⟩),
  (40, ⟨1, 24, false, [.slice none 0 0], .slice 116, none⟩),
  (41, ⟨1, 16, false, [.nilIface], .iface true, none⟩),
  (42, ⟨1, 16, false, [.nilIface], .iface true, none⟩),
  (44, ⟨1, 8, false, [.nilFunc], .other, none⟩),
  (45, ⟨3, 48, true, [.string .empty, .string .empty, .string .empty], .array 3 9, none⟩),
  (46, ⟨2, 32, true, [.slice none 0 0, .int .i64 0], .struct [(0, 1, false), (1, 1, false)], none⟩),
  (47, ⟨2, 32, true, [.slice none 0 0, .int .i64 0], .struct [(0, 1, false), (1, 1, false)], none⟩),
  (48, ⟨1, 8, false, [.nilFunc], .other, none⟩),
  (49, ⟨1, 8, false, [.nilFunc], .other, none⟩),
  (50, ⟨3, 40, true, [.int .i64 0, .int .i64 0, .slice none 0 0], .struct [(0, 1, false), (1, 1, false), (2, 1, false)], none⟩),
  (51, ⟨3, 40, true, [.int .i64 0, .int .i64 0, .slice none 0 0], .struct [(0, 1, false), (1, 1, false), (2, 1, false)], none⟩),
  (52, ⟨1, 8, false, [.pointer none], .ptr, none⟩),
  (53, ⟨1, 8, false, [.int .i64 0], .int .i64, none⟩),
  (54, ⟨2, 16, true, [.int .i64 0, .int .i64 0], .struct [(0, 1, false), (1, 1, false)], none⟩),
  (55, ⟨2, 16, true, [.int .i64 0, .int .i64 0], .struct [(0, 1, false), (1, 1, false)], some [.int, .int]⟩),
  (57, ⟨1, 8, false, [.nilFunc], .other, none⟩),
  (59, ⟨1, 8, false, [.nilFunc], .other, none⟩),
  (60, ⟨1, 8, false, [.nilFunc], .other, none⟩),
  (61, ⟨1, 8, false, [.nilFunc], .other, none⟩),
  (62, ⟨2, 32, true, [.slice none 0 0, .bool false], .struct [(0, 1, false), (1, 1, false)], none⟩),
  (63, ⟨2, 32, true, [.slice none 0 0, .bool false], .struct [(0, 1, false), (1, 1, false)], none⟩),
  (65, ⟨1, 8, false, [.nilFunc], .other, none⟩),
  (66, ⟨1, 8, false, [.nilFunc], .other, none⟩),
  (67, ⟨1, 8, false, [.nilFunc], .other, none⟩),
  (68, ⟨1, 8, false, [.nilFunc], .other, none⟩),
  (70, ⟨1, 8, false, [.nilFunc], .other, none⟩),
  (71, ⟨1, 8, false, [.nilFunc], .other, none⟩),
  (72, ⟨1, 24, false, [.slice none 0 0], .slice 9, none⟩),
  (73, ⟨7, 88, true, [.int .i64 0, .int .i64 0, .slice none 0 0, .int .i64 0, .slice none 0 0, .pointer none, .pointer none], .struct [(0, 1, false), (1, 1, false), (2, 1, false), (3, 1, false), (4, 1, false), (5, 1, false), (6, 1, false)], none⟩),
  (74, ⟨7, 88, true, [.int .i64 0, .int .i64 0, .slice none 0 0, .int .i64 0, .slice none 0 0, .pointer none, .pointer none], .struct [(0, 1, false), (1, 1, false), (2, 1, false), (3, 1, false), (4, 1, false), (5, 1, false), (6, 1, false)], none⟩),
  (75, ⟨1, 8, false, [.nilFunc], .other, none⟩),
  (76, ⟨1, 8, false, [.nilFunc], .other, none⟩),
  (77, ⟨1, 8, false, [.nilFunc], .other, none⟩),
  (78, ⟨1, 8, false, [.nilFunc], .other, none⟩),
  (79, ⟨1, 8, false, [.nilFunc], .other, none⟩),
  (80, ⟨1, 8, false, [.nilFunc], .other, none⟩),
  (81, ⟨1, 24, false, [.slice none 0 0], .slice 90, none⟩),
  (83, ⟨1, 8, false, [.nilFunc], .other, none⟩),
  (84, ⟨1, 8, false, [.nilFunc], .other, none⟩),
  (85, ⟨1, 8, false, [.pointer none], .ptr, none⟩),
  (86, ⟨1, 24, true, [.slice none 0 0], .struct [(0, 1, false)], none⟩),
  (87, ⟨1, 24, true, [.slice none 0 0], .struct [(0, 1, false)], none⟩),
  (88, ⟨1, 8, false, [.nilFunc], .other, none⟩),
  (89, ⟨3, 32, true, [.int .i64 0, .string .empty, .int .i64 0], .struct [(0, 1, false), (1, 1, false), (2, 1, false)], none⟩),
  (90, ⟨3, 32, true, [.int .i64 0, .string .empty, .int .i64 0], .struct [(0, 1, false), (1, 1, false), (2, 1, false)], some [.int, .str, .int]⟩),
  (91, ⟨1, 8, false, [.nilFunc], .other, none⟩),
  (92, ⟨1, 8, false, [.nilFunc], .other, none⟩),
  (93, ⟨1, 8, false, [.nilFunc], .other, none⟩),
  (94, ⟨2, 32, true, [.string .empty, .string .empty], .struct [(0, 1, false), (1, 1, false)], none⟩),
  (95, ⟨2, 32, true, [.string .empty, .string .empty], .struct [(0, 1, false), (1, 1, false)], some [.str, .str]⟩),
  (96, ⟨1, 8, false, [.nilFunc], .other, none⟩),
  (97, ⟨1, 24, false, [.slice none 0 0], .slice 105, none⟩),
  (99, ⟨1, 8, false, [.nilFunc], .other, none⟩),
  (100, ⟨1, 8, false, [.pointer none], .ptr, none⟩),
  (101, ⟨3, 40, true, [.slice none 0 0, .int .i64 0, .int .i64 0], .struct [(0, 1, false), (1, 2, true)], none⟩),
  (102, ⟨3, 40, true, [.slice none 0 0, .int .i64 0, .int .i64 0], .struct [(0, 1, false), (1, 2, true)], none⟩),
  (103, ⟨1, 8, false, [.nilFunc], .other, none⟩),
  (104, ⟨3, 32, true, [.int .i64 0, .string .empty, .int .i64 0], .struct [(0, 1, false), (1, 1, false), (2, 1, false)], none⟩),
  (105, ⟨3, 32, true, [.int .i64 0, .string .empty, .int .i64 0], .struct [(0, 1, false), (1, 1, false), (2, 1, false)], some [.int, .str, .int]⟩),
  (106, ⟨1, 8, false, [.nilFunc], .other, none⟩),
  (108, ⟨1, 8, false, [.nilFunc], .other, none⟩),
  (109, ⟨1, 8, false, [.nilFunc], .other, none⟩),
  (110, ⟨1, 8, false, [.nilFunc], .other, none⟩),
  (111, ⟨1, 8, false, [.nilFunc], .other, none⟩),
  (112, ⟨1, 8, false, [.nilFunc], .other, none⟩),
  (114, ⟨1, 8, false, [.nilFunc], .other, none⟩),
  (115, ⟨3, 40, true, [.string .empty, .int .i64 0, .string .empty], .struct [(0, 1, false), (1, 1, false), (2, 1, false)], none⟩),
  (116, ⟨3, 40, true, [.string .empty, .int .i64 0, .string .empty], .struct [(0, 1, false), (1, 1, false), (2, 1, false)], some [.str, .int, .str]⟩),
  (117, ⟨1, 8, false, [.nilFunc], .other, none⟩),
  (118, ⟨4, 4, true, [.bool false, .bool false, .bool false, .bool false], .array 4 4, none⟩),
  (119, ⟨2, 32, true, [.slice none 0 0, .bool false], .struct [(0, 1, false), (1, 1, false)], none⟩),
  (120, ⟨2, 32, true, [.slice none 0 0, .bool false], .struct [(0, 1, false), (1, 1, false)], none⟩),
  (122, ⟨1, 8, false, [.nilFunc], .other, none⟩),
  (123, ⟨1, 8, false, [.nilFunc], .other, none⟩),
  (124, ⟨1, 8, false, [.nilFunc], .other, none⟩),
  (125, ⟨1, 8, false, [.nilFunc], .other, none⟩),
  (126, ⟨1, 8, false, [.nilFunc], .other, none⟩),
  (127, ⟨15, 240, true, [.string .empty, .string .empty, .string .empty, .string .empty, .string .empty, .string .empty, .string .empty, .string .empty, .string .empty, .string .empty, .string .empty, .string .empty, .string .empty, .string .empty, .string .empty], .array 15 9, none⟩),
  (128, ⟨1, 8, false, [.nilFunc], .other, none⟩),
  (129, ⟨1, 8, false, [.pointer none], .ptr, none⟩),
  (130, ⟨2, 16, true, [.int .i64 0, .int .i64 0], .struct [(0, 1, false), (1, 1, false)], some [.int, .int]⟩),
  (131, ⟨1, 16, true, [.nilIface], .struct [(0, 1, false)], none⟩),
  (132, ⟨1, 16, true, [.nilIface], .struct [(0, 1, false)], none⟩),
  (134, ⟨1, 8, false, [.nilFunc], .other, none⟩),
  (135, ⟨1, 8, false, [.nilFunc], .other, none⟩),
  (136, ⟨1, 8, false, [.nilFunc], .other, none⟩),
  (137, ⟨4, 64, true, [.string .empty, .string .empty, .string .empty, .string .empty], .array 4 9, none⟩),
  (138, ⟨1, 8, false, [.nilFunc], .other, none⟩),
  (139, ⟨1, 8, false, [.nilFunc], .other, none⟩),
  (140, ⟨1, 24, false, [.slice none 0 0], .slice 3, none⟩),
  (141, ⟨1, 8, false, [.nilFunc], .other, none⟩),
  (142, ⟨1, 8, false, [.nilFunc], .other, none⟩),
  (143, ⟨1, 8, false, [.nilFunc], .other, none⟩),
  (144, ⟨1, 8, false, [.nilFunc], .other, none⟩),
  (145, ⟨1, 8, false, [.nilFunc], .other, none⟩),
  (147, ⟨1, 16, false, [.nilIface], .iface true, none⟩),
  (149, ⟨1, 8, false, [.nilFunc], .other, none⟩),
  (150, ⟨1, 8, false, [.nilFunc], .other, none⟩),
  (151, ⟨1, 8, false, [.nilFunc], .other, none⟩),
  (152, ⟨1, 8, false, [.nilFunc], .other, none⟩),
  (153, ⟨1, 8, false, [.int .u64 0], .int .u64, none⟩),
  (154, ⟨1, 8, false, [.nilFunc], .other, none⟩),
  (155, ⟨1, 8, false, [.nilFunc], .other, none⟩),
  (156, ⟨1, 8, false, [.nilFunc], .other, none⟩),
  (157, ⟨1, 8, false, [.nilFunc], .other, none⟩),
  (158, ⟨1, 8, false, [.nilFunc], .other, none⟩),
  (159, ⟨1, 8, false, [.nilFunc], .other, none⟩),
  (160, ⟨1, 8, false, [.nilFunc], .other, none⟩),
  (164, ⟨1, 8, false, [.nilFunc], .other, none⟩),
  (165, ⟨1, 8, false, [.nilFunc], .other, none⟩),
  (166, ⟨1, 8, false, [.pointer none], .ptr, none⟩),
  (167, ⟨1, 8, false, [.nilFunc], .other, none⟩),
  (168, ⟨1, 8, false, [.nilFunc], .other, none⟩),
  (169, ⟨1, 8, false, [.pointer none], .ptr, none⟩),
  (171, ⟨1, 8, false, [.int .u64 0], .int .u64, none⟩),
  (175, ⟨1, 8, false, [.nilFunc], .other, none⟩),
  (176, ⟨1, 8, false, [.nilFunc], .other, none⟩),
  (177, ⟨1, 8, false, [.nilFunc], .other, none⟩),
  (178, ⟨2, 16, true, [.nilFunc, .nilFunc], .struct [(0, 1, false), (1, 1, false)], none⟩),
  (179, ⟨2, 16, true, [.nilFunc, .nilFunc], .struct [(0, 1, false), (1, 1, false)], none⟩),
  (180, ⟨1, 8, false, [.nilFunc], .other, none⟩),
  (182, ⟨1, 8, false, [.nilFunc], .other, none⟩),
  (184, ⟨1, 8, false, [.nilFunc], .other, none⟩),
  (185, ⟨1, 8, false, [.nilFunc], .other, none⟩),
  (186, ⟨1, 8, false, [.nilFunc], .other, none⟩),
  (187, ⟨1, 8, false, [.nilFunc], .other, none⟩),
  (188, ⟨1, 8, false, [.nilFunc], .other, none⟩),
  (190, ⟨1, 8, false, [.nilFunc], .other, none⟩),
  (191, ⟨1, 8, false, [.nilFunc], .other, none⟩),
  (192, ⟨5, 80, true, [.string .empty, .string .empty, .string .empty, .string .empty, .string .empty], .array 5 9, none⟩),
  (196, ⟨1, 1, false, [.int .u8 0], .int .u8, none⟩),
  (203, ⟨1, 8, false, [.nilFunc], .other, none⟩),
  (204, ⟨1, 8, false, [.nilFunc], .other, none⟩),
  (205, ⟨1, 8, false, [.nilFunc], .other, none⟩),
  (206, ⟨1, 8, false, [.int .u64 0], .int .u64, none⟩),
  (207, ⟨1, 8, false, [.nilFunc], .other, none⟩),
  (208, ⟨1, 8, false, [.nilFunc], .other, none⟩),
  (210, ⟨1, 8, false, [.nilFunc], .other, none⟩),
  (214, ⟨1, 16, false, [.nilIface], .iface true, none⟩),
  (216, ⟨1, 8, false, [.nilFunc], .other, none⟩),
  (217, ⟨1, 16, false, [.nilIface], .iface true, none⟩),
  (218, ⟨1, 24, false, [.slice none 0 0], .slice 42, none⟩),
  (219, ⟨1, 8, false, [.nilFunc], .other, none⟩),
  (220, ⟨1, 8, false, [.nilFunc], .other, none⟩),
  (222, ⟨2, 2, true, [.int .u8 0, .int .u8 0], .struct [(0, 1, false), (1, 1, false)], none⟩),
  (223, ⟨2, 2, true, [.int .u8 0, .int .u8 0], .struct [(0, 1, false), (1, 1, false)], some [.int, .int]⟩),
  (224, ⟨32, 32, true, [.int .u8 0, .int .u8 0, .int .u8 0, .int .u8 0, .int .u8 0, .int .u8 0, .int .u8 0, .int .u8 0, .int .u8 0, .int .u8 0, .int .u8 0, .int .u8 0, .int .u8 0, .int .u8 0, .int .u8 0, .int .u8 0, .int .u8 0, .int .u8 0, .int .u8 0, .int .u8 0, .int .u8 0, .int .u8 0, .int .u8 0, .int .u8 0, .int .u8 0, .int .u8 0, .int .u8 0, .int .u8 0, .int .u8 0, .int .u8 0, .int .u8 0, .int .u8 0], .array 16 223, none⟩),
  (225, ⟨1, 8, false, [.nilFunc], .other, none⟩),
  (226, ⟨1, 8, false, [.nilFunc], .other, none⟩),
  (227, ⟨1, 8, false, [.nilFunc], .other, none⟩),
  (228, ⟨1, 8, false, [.nilFunc], .other, none⟩),
  (229, ⟨1, 8, false, [.int .i64 0], .int .i64, none⟩),
  (231, ⟨1, 8, false, [.nilFunc], .other, none⟩),
  (232, ⟨1, 8, false, [.pointer none], .ptr, none⟩),
  (233, ⟨1, 8, false, [.nilFunc], .other, none⟩),
  (234, ⟨1, 8, false, [.nilFunc], .other, none⟩),
  (235, ⟨1, 8, false, [.nilFunc], .other, none⟩),
  (236, ⟨1, 24, false, [.slice none 0 0], .slice 5, none⟩),
  (237, ⟨1, 8, false, [.nilFunc], .other, none⟩),
  (238, ⟨3, 48, true, [.string .empty, .string .empty, .nilIface], .struct [(0, 1, false), (1, 1, false), (2, 1, false)], none⟩),
  (239, ⟨3, 48, true, [.string .empty, .string .empty, .nilIface], .struct [(0, 1, false), (1, 1, false), (2, 1, false)], none⟩),
  (240, ⟨1, 8, false, [.nilFunc], .other, none⟩),
  (241, ⟨1, 8, false, [.pointer none], .ptr, none⟩),
  (242, ⟨1, 8, false, [.pointer none], .ptr, none⟩),
  (243, ⟨1, 16, true, [.string .empty], .struct [(0, 1, false)], none⟩),
  (244, ⟨1, 16, true, [.string .empty], .struct [(0, 1, false)], some [.str]⟩),
  (245, ⟨1, 8, false, [.nilFunc], .other, none⟩),
  (246, ⟨24, 24, true, [.int .u8 0, .int .u8 0, .int .u8 0, .int .u8 0, .int .u8 0, .int .u8 0, .int .u8 0, .int .u8 0, .int .u8 0, .int .u8 0, .int .u8 0, .int .u8 0, .int .u8 0, .int .u8 0, .int .u8 0, .int .u8 0, .int .u8 0, .int .u8 0, .int .u8 0, .int .u8 0, .int .u8 0, .int .u8 0, .int .u8 0, .int .u8 0], .array 24 5, none⟩),
  (247, ⟨1, 8, false, [.nilFunc], .other, none⟩),
  (248, ⟨1, 8, false, [.nilFunc], .other, none⟩),
  (250, ⟨1, 8, false, [.nilFunc], .other, none⟩),
  (251, ⟨1, 8, false, [.nilFunc], .other, none⟩),
  (252, ⟨20, 160, true, [.int .u64 0, .int .u64 0, .int .u64 0, .int .u64 0, .int .u64 0, .int .u64 0, .int .u64 0, .int .u64 0, .int .u64 0, .int .u64 0, .int .u64 0, .int .u64 0, .int .u64 0, .int .u64 0, .int .u64 0, .int .u64 0, .int .u64 0, .int .u64 0, .int .u64 0, .int .u64 0], .array 20 153, none⟩),
  (253, ⟨1, 4, false, [.int .u32 0], .int .u32, none⟩),
  (255, ⟨1, 8, false, [.nilFunc], .other, none⟩),
  (256, ⟨1, 8, false, [.nilFunc], .other, none⟩),
  (257, ⟨32, 32, true, [.int .u8 0, .int .u8 0, .int .u8 0, .int .u8 0, .int .u8 0, .int .u8 0, .int .u8 0, .int .u8 0, .int .u8 0, .int .u8 0, .int .u8 0, .int .u8 0, .int .u8 0, .int .u8 0, .int .u8 0, .int .u8 0, .int .u8 0, .int .u8 0, .int .u8 0, .int .u8 0, .int .u8 0, .int .u8 0, .int .u8 0, .int .u8 0, .int .u8 0, .int .u8 0, .int .u8 0, .int .u8 0, .int .u8 0, .int .u8 0, .int .u8 0, .int .u8 0], .array 32 5, none⟩),
  (265, ⟨1, 1, false, [.int .u8 0], .int .u8, none⟩),
  (267, ⟨1, 4, false, [.int .i32 0], .int .i32, none⟩),
  (268, ⟨1, 4, false, [.int .i32 0], .int .i32, none⟩),
  (271, ⟨1, 8, false, [.nilFunc], .other, none⟩),
  (277, ⟨1, 2, false, [.int .u16 0], .int .u16, none⟩),
  (281, ⟨1, 4, false, [.int .i32 0], .int .i32, none⟩),
  (284, ⟨1, 8, false, [.pointer none], .ptr, none⟩)]


def gl : Env := [(1, .r [.v (.string ⟨#[33, 61]⟩), .v (.string ⟨#[94, 61]⟩), .v (.string ⟨#[33, 94]⟩), .v (.string ⟨#[61]⟩), .v (.string ⟨#[123]⟩), .v (.string ⟨#[125]⟩), .v (.string ⟨#[91]⟩), .v (.string ⟨#[93]⟩), .v (.string ⟨#[40]⟩), .v (.string ⟨#[41]⟩), .v (.string ⟨#[44]⟩), .v (.string ⟨#[43]⟩), .v (.string ⟨#[45]⟩), .v (.string ⟨#[42]⟩), .v (.string ⟨#[47]⟩)]), (2, .r [.v (.string ⟨#[61]⟩), .v (.string ⟨#[33, 61]⟩), .v (.string ⟨#[94, 61]⟩), .v (.string ⟨#[33, 94]⟩)]), (4, .r [.v (.string ⟨#[99, 111, 117, 110, 116]⟩), .v (.string ⟨#[115, 117, 109]⟩), .v (.string ⟨#[109, 105, 110]⟩), .v (.string ⟨#[109, 97, 120]⟩), .v (.string ⟨#[100, 101, 108, 116, 97]⟩)]), (5, .r [.v (.string ⟨#[116, 111, 116, 97, 108]⟩), .v (.string ⟨#[108, 101, 97, 115, 116]⟩), .v (.string ⟨#[109, 111, 115, 116]⟩), .v (.string ⟨#[109, 97, 110, 121]⟩)]), (10, .r [.ifc 242 (.r [.v (.string ⟨#[118, 97, 108, 117, 101, 32, 111, 117, 116, 32, 111, 102, 32, 114, 97, 110, 103, 101]⟩)])]), (9, .r [.ifc 242 (.r [.v (.string ⟨#[105, 110, 118, 97, 108, 105, 100, 32, 115, 121, 110, 116, 97, 120]⟩)])]), (11, .r [.v (.int .u64 1), .v (.int .u64 10), .v (.int .u64 100), .v (.int .u64 1000), .v (.int .u64 10000), .v (.int .u64 100000), .v (.int .u64 1000000), .v (.int .u64 10000000), .v (.int .u64 100000000), .v (.int .u64 1000000000), .v (.int .u64 10000000000), .v (.int .u64 100000000000), .v (.int .u64 1000000000000), .v (.int .u64 10000000000000), .v (.int .u64 100000000000000), .v (.int .u64 1000000000000000), .v (.int .u64 10000000000000000), .v (.int .u64 100000000000000000), .v (.int .u64 1000000000000000000), .v (.int .u64 10000000000000000000)])]
noncomputable def pg : Pg := ⟨Tryz.prog, tyTab, gl⟩
theorem pg_ok : pg.Ok := Pg.ok_of (by kernel_rfl) (by kernel_rfl)
abbrev gi (x : Int) : GV := .v (.int .i64 x)
theorem wrap_id {x : Int} (h : -9223372036854775808 ≤ x) (h' : x ≤ 9223372036854775807) : IntKind.i64.wrap x = x := by rw [IntKind.wrap_i64]; omega
theorem succ_gi {i : Nat} (h : i < 9223372036854775807) : some (gi (IntKind.i64.wrap (i + 1 : Int))) = some (gi ((i + 1 : Nat) : Int)) := by
  rw [wrap_id (by omega) (by omega)]
  rfl
theorem tail_map {α : Type} (z : Nat) (f : α → List GV) (y : α) (l : List α) : some (GV.sl z ((((y :: l).map f).take (((y :: l).map f).length : Int).toNat).drop (1 : Int).toNat)) = some (GV.sl z (l.map f)) := by
  simp only [Int.toNat_natCast, List.take_length]
  rfl
theorem idx {α : Type} {f : α → List GV} {l : List α} {i : Int} {K : List GV → Prop} (k : Nat) (hi : i = k) (hk : k < l.length) (h : K (f l[k])) : ∃ row, 0 ≤ i ∧ (l.map f)[i.toNat]? = some row ∧ K row := by
  subst hi
  exact ⟨f l[k], by omega, by simp [hk], h⟩
theorem ons_mk {x : Option GV} {g : GV} {K : GV → Prop} (h : x = some g) (k : K g) : ons x K := by subst h; exact k
abbrev gs (s : ByteArray) : GV := .v (.string s)
def rr (a b : Nat) : Nat → Nat := fun i => bif Nat.beq i 0 then a else b
theorem rr_lt {a b n : Nat} (ha : Nat.blt a n = true) (hb : Nat.blt b n = true) : ∀ i, i < 2 → rr a b i < n := fun i _ => by
  rw [Nat.blt_eq] at ha hb
  unfold rr
  cases Nat.beq i 0 <;> assumption
def r1 (a b : Nat) : Nat → Nat := fun i => bif Nat.beq i a then b else i
theorem pos {c : Bool} {A B : Prop} (h : c = true) (k : A) : (c = true → A) ∧ (c = false → B) := ⟨fun _ => k, fun e => absurd (h.symm.trans e) (by decide)⟩
theorem neg {c : Bool} {A B : Prop} (h : c = false) (k : B) : (c = true → A) ∧ (c = false → B) := ⟨fun e => absurd (h.symm.trans e) (by decide), fun _ => k⟩
theorem pos' {c : Bool} {A B : Prop} (h : c = true) (k : B) : (c = false → A) ∧ (c = true → B) := ⟨fun e => absurd (h.symm.trans e) (by decide), fun _ => k⟩
theorem neg' {c : Bool} {A B : Prop} (h : c = false) (k : A) : (c = false → A) ∧ (c = true → B) := ⟨fun _ => k, fun e => absurd (h.symm.trans e) (by decide)⟩
theorem tf (c : Bool) : c = true ∨ c = false := by cases c <;> simp
theorem p1 {c : Bool} {A B : Prop} (k : A) (h : c = true := by first | with_reducible rfl | with_reducible assumption | rfl | exact decide_eq_true (by omega) | (simp; omega)) : (c = true → A) ∧ (c = false → B) := pos h k
theorem p2 {c : Bool} {A B : Prop} (k : B) (h : c = false := by first | with_reducible rfl | with_reducible assumption | rfl | exact decide_eq_false (by omega) | (simp; omega)) : (c = true → A) ∧ (c = false → B) := neg h k
theorem p3 {c : Bool} {A B : Prop} (k : B) (h : c = true := by first | with_reducible rfl | with_reducible assumption | rfl | exact decide_eq_true (by omega) | (simp; omega)) : (c = false → A) ∧ (c = true → B) := pos' h k
theorem p4 {c : Bool} {A B : Prop} (k : A) (h : c = false := by first | with_reducible rfl | with_reducible assumption | rfl | exact decide_eq_false (by omega) | (simp; omega)) : (c = false → A) ∧ (c = true → B) := neg' h k
theorem ix {α : Type} {f : α → List GV} {l : List α} {i : Nat} {K : List GV → Prop} (hk : i < l.length := by omega) (h : K (f (l[i]'hk))) : ∃ row, 0 ≤ (i : Int) ∧ (l.map f)[((i : Nat) : Int).toNat]? = some row ∧ K row := ⟨f l[i], by omega, by simp [hk], h⟩
theorem sx {s : ByteArray} {i : Nat} {K : UInt8 → Prop} (hk : i < s.size := by omega) (h : K (s[i]'hk)) : ∃ b, 0 ≤ (i : Int) ∧ s[((i : Nat) : Int).toNat]? = some b ∧ K b := ⟨s[i], by omega, by rw [Int.toNat_natCast]; exact getElem?_pos s i hk, h⟩

section
variable {N n0 : Nat} {H0 : Hid} {S0 : List Nat} {w0 : World} {h0 : H0.n = n0} {g0 : GlOk pg H0} {T : Post} {k : List It} {s : St}
theorem V (h : vc ⟨pg, N, n0, H0, S0, w0, h0, g0⟩ T 400 k s) : JK ⟨pg, N, n0, H0, S0, w0, h0, g0⟩ T k s := vc_sound pg_ok 400 k s h
theorem GO {all : List Oper} {o : Oper} {rest : List Oper} {f : FuncId} {cargs : List GV} {G : GV} (hr : Rt pg f cargs G) (hk : callG pg all s.ρ o = some (f, cargs))
    (h : dputV N s.ρ o.dst G fun ρ' => vc ⟨pg, N, n0, H0, S0, w0, h0, g0⟩ T 400 (.ops false all rest :: k) ⟨ρ', s.σ, s.n⟩) (hb : idbL 0 cargs = true := by rfl) : JK ⟨pg, N, n0, H0, S0, w0, h0, g0⟩ T (.ops false all (o :: rest) :: k) s := JK.go pg_ok hr hk hb h
theorem GOQ {all : List Oper} {o : Oper} {rest : List Oper} {f : FuncId} {cargs : List GV} {Q : GV → Prop} (hr : Rq pg f cargs Q) (hk : callG pg all s.ρ o = some (f, cargs))
    (h : ∀ g, Q g → dputV N s.ρ o.dst g fun ρ' => vc ⟨pg, N, n0, H0, S0, w0, h0, g0⟩ T 400 (.ops false all rest :: k) ⟨ρ', s.σ, s.n⟩) (hb : idbL 0 cargs = true := by rfl) : JK ⟨pg, N, n0, H0, S0, w0, h0, g0⟩ T (.ops false all (o :: rest) :: k) s := JK.goQ pg_ok hr hk hb h
theorem GOB {all : List Oper} {o : Oper} {rest : List Oper} {f : FuncId} {cargs gs : List GV} {G : GV} (hr : Rt pg f cargs G) (hk : callG pg all s.ρ o = some (f, gs)) (hl : lents s.σ gs cargs)
    (h : dputV N s.ρ o.dst G fun ρ' => vc ⟨pg, N, n0, H0, S0, w0, h0, g0⟩ T 400 (.ops false all rest :: k) ⟨ρ', s.σ, s.n⟩) (hf : roFree G = true := by rfl) : JK ⟨pg, N, n0, H0, S0, w0, h0, g0⟩ T (.ops false all (o :: rest) :: k) s := JK.goB pg_ok hr hk hl hf h
theorem GOH {all : List Oper} {o : Oper} {rest : List Oper} {f : FuncId} {m : Nat} {cargs gs : List GV} {σc : Heap} {Q : GV → Heap → Nat → Prop} (hr : Hf pg f m cargs σc Q) (r : Nat → Nat) (hk : callG pg all s.ρ o = some (f, gs)) (hargs : gs = renL r cargs) (hσ : leσ r σc s.σ)
    (chk : (idbL m cargs && idbH m σc && distB (hids r σc)) = true) (hrn : ∀ i, i < m → r i < s.n)
    (h : ∀ g σ' n', Q g σ' n' → nf (ren (sh r m s.n) g) fun g => nfH (renH (sh r m s.n) σ' ++ hrest (hids r σc) s.σ) fun σ => nfN (s.n + (n' - m)) fun n => dput N s.ρ o.dst g fun ρ' => vc ⟨pg, N, n0, H0, S0, w0, h0, g0⟩ T 400 (.ops false all rest :: k) ⟨ρ', σ, n⟩) :
    JK ⟨pg, N, n0, H0, S0, w0, h0, g0⟩ T (.ops false all (o :: rest) :: k) s := JK.goH pg_ok hr r hk hargs hσ chk hrn h
theorem FZB (id : Nat) {ty : Nat} {cs0 : List GV} (hl : hlook s.σ id = some (.blk ty cs0)) (hb0 : idbL 0 cs0 = true) (h : nfH (fzbH id cs0 (hdel s.σ id)) fun σ => nfE (fzbE id cs0 s.ρ) fun ρ => vc ⟨pg, N, n0, H0, S0, w0, h0, g0⟩ T 400 k ⟨ρ, σ, s.n⟩) : JK ⟨pg, N, n0, H0, S0, w0, h0, g0⟩ T k s := by
  rw [nfH_eq, nfE_eq] at h
  refine JK.freezeB id hl hb0 ?_
  rw [nfH_eq]
  exact V h
theorem FRZ (id : Nat) {ty sz : Nat} {rows : List (List GV)} (hl : hlook s.σ id = some (.row ty sz rows)) (h : nfH (frzH id sz rows (hdel s.σ id)) fun σ => nfE (frzE id sz rows s.ρ) fun ρ => vc ⟨pg, N, n0, H0, S0, w0, h0, g0⟩ T 400 k ⟨ρ, σ, s.n⟩) : JK ⟨pg, N, n0, H0, S0, w0, h0, g0⟩ T k s := by
  rw [nfH_eq, nfE_eq] at h
  refine JK.freeze id hl ?_
  rw [nfH_eq]
  exact V h
theorem DRAW {id : Nat} {ops : Array Oper} (M : List Nat) (e : Bool) (order : List (Nat × Bool)) (hB : (Region.noSelect ops && ordB ops.toList e order (List.replicate ops.toList.length false)) = true)
    (h : rvc ⟨pg, N, n0, H0, S0, w0, h0, g0⟩ T ops.toList k (hrest M s.σ ++ lns (hsel M s.σ)) e order ops.toList.length (List.replicate ops.toList.length false) s.ρ ⟨s.ρ, hsel M s.σ, s.n⟩) (hT : ∀ ch s, ¬ T (.panic ch) s := by intro _ _ h; exact h) : JK ⟨pg, N, n0, H0, S0, w0, h0, g0⟩ T (.code (.region id ops true) :: k) s := by
  simp only [Bool.and_eq_true] at hB
  exact JK.draw M pg_ok (RA.run pg_ok hB.1 hT order hB.2 h)
theorem RGO {ops : List Oper} {σs : Heap} {ρq : Env} {fuel : Nat} {listed : List Bool} (i : Nat) (e : Bool) (order : List (Nat × Bool)) {o : Oper} {f : FuncId} {cargs : List GV} {G : GV} (hr : Rt pg f cargs G) (hi : ops[i]? = some o) (hk : callG pg ops s.ρ o = some (f, cargs))
    (hB : (Region.noSelect ops.toArray && eqB (Region.ready .any ops.toArray listed.toArray) [i] && ordB ops e order (listed.set i true)) = true)
    (h : dputV N s.ρ o.dst G fun ρ' => nfE (qput ρq o.dst G) fun ρq => rvc ⟨pg, N, n0, H0, S0, w0, h0, g0⟩ T ops k σs e order fuel (listed.set i true) ρq ⟨ρ', s.σ, s.n⟩) (hb : idbL 0 cargs = true := by rfl) (hT : ∀ ch s, ¬ T (.panic ch) s := by intro _ _ h; exact h) : RA ⟨pg, N, n0, H0, S0, w0, h0, g0⟩ T ops k σs ρq (fuel + 1) listed s := by
  simp only [Bool.and_eq_true] at hB
  exact RA.goA i order e pg_ok hB.1.1 hT hr hi hk hb (by simp only [hB.1.2, hB.2, Bool.and_self]) h
theorem RGOB {ops : List Oper} {σs : Heap} {ρq : Env} {fuel : Nat} {listed : List Bool} (i : Nat) (e : Bool) (order : List (Nat × Bool)) {o : Oper} {f : FuncId} {cargs gs : List GV} {G : GV} (hr : Rt pg f cargs G) (hi : ops[i]? = some o) (hk : callG pg ops s.ρ o = some (f, gs)) (hl : lents (s.σ ++ σs) gs cargs)
    (hB : (Region.noSelect ops.toArray && eqB (Region.ready .any ops.toArray listed.toArray) [i] && ordB ops e order (listed.set i true)) = true)
    (h : dputV N s.ρ o.dst G fun ρ' => nfE (qput ρq o.dst G) fun ρq => rvc ⟨pg, N, n0, H0, S0, w0, h0, g0⟩ T ops k σs e order fuel (listed.set i true) ρq ⟨ρ', s.σ, s.n⟩) (hfree : roFree G = true := by rfl) (hT : ∀ ch s, ¬ T (.panic ch) s := by intro _ _ h; exact h) : RA ⟨pg, N, n0, H0, S0, w0, h0, g0⟩ T ops k σs ρq (fuel + 1) listed s := by
  simp only [Bool.and_eq_true] at hB
  exact RA.goB i order e pg_ok hB.1.1 hT hr hi hk hl hfree (by simp only [hB.1.2, hB.2, Bool.and_self]) h
theorem RSKIP {ops : List Oper} {σs : Heap} {ρq : Env} {fuel : Nat} {listed : List Bool} (i : Nat) (e : Bool) (order : List (Nat × Bool)) {o : Oper} (hi : ops[i]? = some o) (hgd : gdNo ops s.ρ o.guard = true)
    (hB : (Region.noSelect ops.toArray && eqB (Region.ready .any ops.toArray listed.toArray) [i] && ordB ops e order (listed.set i true)) = true)
    (h : dputV N s.ρ o.dst (.v undef) fun ρ' => nfE (eput ρq o.dst (.v undef)) fun ρq => rvc ⟨pg, N, n0, H0, S0, w0, h0, g0⟩ T ops k σs e order fuel (listed.set i true) ρq ⟨ρ', s.σ, s.n⟩) (hT : ∀ ch s, ¬ T (.panic ch) s := by intro _ _ h; exact h) : RA ⟨pg, N, n0, H0, S0, w0, h0, g0⟩ T ops k σs ρq (fuel + 1) listed s := by
  simp only [Bool.and_eq_true] at hB
  exact RA.skipA i order e pg_ok hB.1.1 hT hi hgd (by simp only [hB.1.2, hB.2, Bool.and_self]) h
end
theorem _root_.Go.GK.Rq.bt {f : FuncId} {args : List GV} {c : Bool} (h : Rt pg f args (.b c)) {d : Bool} (e : c = d) : Rt pg f args (.v (.bool d)) :=
  ⟨h.call, fun H us w hn hg hcs hs => (h.ct H us w hn hg hcs hs).mono fun _ _ ⟨u, g, H', σ', e', hi, hs', hfr, ⟨hv, _⟩, r⟩ => ⟨u, .v (.bool d), H', σ', e', by subst hv; subst e; have := hi.inv_b; subst this; exact .ro (.v _), hs', hfr, ⟨rfl, rfl⟩, r⟩⟩
theorem _root_.Go.GK.Rq.old {f : FuncId} {args : List GV} {G : GV} (hc : ∀ a w, (callFunc f a).run pg.P w = .ok (.enter f a) w) (h : Ct pg f 0 args [] (Val fun g => g = G)) (hi : idb 0 G = true := by rfl) : Rt pg f args G :=
  ⟨hc, fun H us w hn hg hcs hs => (h H us w hn hg hcs hs).mono fun _ _ ⟨u, g, H', σ', e', hi', hs', hfr, hv, r⟩ => ⟨u, g, H', σ', e', hi', hs', hfr, ⟨hv, by rw [hv]; exact hi⟩, r⟩⟩
end Go.Proofs.YtkoalgjlkcaonaaGreatDoor
/-
  Plain laws: comparisons that tell -1, 0, 1; lists one by one; strings. No program is in sight.
-/
namespace Go.PL
open Go Go.GK

structure IsC {α : Type} (f : α → α → Int) : Prop where
  rng : ∀ a b, f a b = -1 ∨ f a b = 0 ∨ f a b = 1
  anti : ∀ a b, f b a = -f a b
  eq0 : ∀ a b, f a b = 0 ↔ a = b
  trans : ∀ a b c, f a b = -1 → f b c = -1 → f a c = -1

def lexC {α : Type} (f : α → α → Int) : List α → List α → Int
  | [], [] => 0
  | [], _ :: _ => -1
  | _ :: _, [] => 1
  | a :: aas, b :: bs => if f a b = 0 then lexC f aas bs else f a b

theorem lexC_is {α : Type} {f : α → α → Int} (h : IsC f) : IsC (lexC f) := by
  refine ⟨?_, ?_, ?_, ?_⟩
  · intro a
    induction a with
    | nil => intro b; cases b <;> simp [lexC]
    | cons x a ih =>
      intro b
      cases b with
      | nil => simp [lexC]
      | cons y b =>
        simp only [lexC]
        split
        · exact ih b
        · exact h.rng x y
  · intro a
    induction a with
    | nil => intro b; cases b <;> simp [lexC]
    | cons x a ih =>
      intro b
      cases b with
      | nil => simp [lexC]
      | cons y b =>
        simp only [lexC, h.anti x y]
        by_cases e : f x y = 0
        · rw [if_pos (by rw [e]; rfl), if_pos e]; exact ih b
        · rw [if_neg (by omega), if_neg e]
  · intro a
    induction a with
    | nil => intro b; cases b <;> simp [lexC]
    | cons x a ih =>
      intro b
      cases b with
      | nil => simp [lexC]
      | cons y b =>
        simp only [lexC]
        by_cases e : f x y = 0
        · rw [if_pos e, ih b, (h.eq0 x y).1 e]
          simp
        · rw [if_neg e]
          refine ⟨fun k => (e k).elim, fun k => ?_⟩
          injection k with k1 k2
          exact (e ((h.eq0 x y).2 k1)).elim
  · intro a
    induction a with
    | nil =>
      intro b c
      cases c with
      | nil => cases b <;> simp [lexC]
      | cons z c => intro _ _; rfl
    | cons x a ih =>
      intro b c h1 h2
      cases b with
      | nil => simp [lexC] at h1
      | cons y b =>
        cases c with
        | nil => simp [lexC] at h2
        | cons z c =>
          simp only [lexC] at h1 h2 ⊢
          by_cases e1 : f x y = 0
          · rw [if_pos e1] at h1
            have := (h.eq0 x y).1 e1
            subst this
            by_cases e2 : f x z = 0
            · rw [if_pos e2] at h2 ⊢
              exact ih b c h1 h2
            · rw [if_neg e2] at h2 ⊢
              exact h2
          · rw [if_neg e1] at h1
            by_cases e2 : f y z = 0
            · have := (h.eq0 y z).1 e2
              subst this
              rw [if_neg e1]; exact h1
            · rw [if_neg e2] at h2
              have := h.trans x y z h1 h2
              rw [if_neg (by omega)]; exact this

def thenC {α β : Type} (f : α → α → Int) (g : β → β → Int) (a b : α × β) : Int := if f a.1 b.1 = 0 then g a.2 b.2 else f a.1 b.1
theorem thenC_is {α β : Type} {f : α → α → Int} {g : β → β → Int} (hf : IsC f) (hg : IsC g) : IsC (thenC f g) := by
  refine ⟨fun a b => ?_, fun a b => ?_, fun a b => ?_, fun a b c h1 h2 => ?_⟩
  · unfold thenC; split
    · exact hg.rng _ _
    · exact hf.rng _ _
  · unfold thenC
    rw [hf.anti a.1 b.1]
    by_cases e : f a.1 b.1 = 0
    · rw [if_pos (by omega), if_pos e]; exact hg.anti _ _
    · rw [if_neg (by omega), if_neg e]
  · unfold thenC
    obtain ⟨a1, a2⟩ := a
    obtain ⟨b1, b2⟩ := b
    by_cases e : f a1 b1 = 0
    · have e1 := (hf.eq0 a1 b1).1 e
      subst e1
      simp only [e, if_true, hg.eq0, Prod.mk.injEq, true_and]
    · simp only [e, if_false, Prod.mk.injEq, false_iff]
      exact fun k => e ((hf.eq0 _ _).2 k.1)
  · unfold thenC at h1 h2 ⊢
    obtain ⟨a1, a2⟩ := a
    obtain ⟨b1, b2⟩ := b
    obtain ⟨c1, c2⟩ := c
    simp only at h1 h2 ⊢
    by_cases e1 : f a1 b1 = 0
    · rw [if_pos e1] at h1
      have := (hf.eq0 _ _).1 e1
      subst this
      by_cases e2 : f a1 c1 = 0
      · rw [if_pos e2] at h2 ⊢; exact hg.trans _ _ _ h1 h2
      · rw [if_neg e2] at h2 ⊢; exact h2
    · rw [if_neg e1] at h1
      by_cases e2 : f b1 c1 = 0
      · have := (hf.eq0 _ _).1 e2
        subst this
        rw [if_neg e1]; exact h1
      · rw [if_neg e2] at h2
        have := hf.trans _ _ _ h1 h2
        rw [if_neg (by omega)]; exact this

def cmpU (a b : UInt8) : Int := if a < b then -1 else if b < a then 1 else 0
theorem cmpU_is : IsC cmpU := by
  refine ⟨fun a b => ?_, fun a b => ?_, fun a b => ?_, fun a b c h1 h2 => ?_⟩
  · unfold cmpU
    split
    · exact .inl rfl
    · split
      · exact .inr (.inr rfl)
      · exact .inr (.inl rfl)
  · unfold cmpU
    simp only [UInt8.lt_iff_toNat_lt]
    repeat' split <;> first | rfl | omega
  · unfold cmpU
    simp only [UInt8.lt_iff_toNat_lt, ← UInt8.toNat_inj]
    split
    · exact ⟨fun h => by simp at h, fun h => by omega⟩
    · split
      · exact ⟨fun h => by simp at h, fun h => by omega⟩
      · exact ⟨fun _ => by omega, fun _ => rfl⟩
  · unfold cmpU at h1 h2 ⊢
    simp only [UInt8.lt_iff_toNat_lt] at h1 h2 ⊢
    have h1' : a.toNat < b.toNat := by
      by_cases h : a.toNat < b.toNat
      · exact h
      · rw [if_neg h] at h1; split at h1 <;> simp at h1
    have h2' : b.toNat < c.toNat := by
      by_cases h : b.toNat < c.toNat
      · exact h
      · rw [if_neg h] at h2; split at h2 <;> simp at h2
    rw [if_pos (by omega)]

theorem cmpBytes (a b : List UInt8) : Lib.compareBytes a b = lexC cmpU a b := by
  induction a generalizing b with
  | nil => cases b <;> rfl
  | cons x a ih =>
    cases b with
    | nil => rfl
    | cons y b =>
      simp only [Lib.compareBytes, lexC, ih]
      unfold cmpU
      by_cases h1 : x < y
      · simp [h1]
      · by_cases h2 : y < x
        · simp [h1, h2]
        · simp [h1, h2]

def cmpS (a b : ByteArray) : Int := lexC cmpU a.data.toList b.data.toList
theorem ba_inj {a b : ByteArray} (h : a.data.toList = b.data.toList) : a = b := ByteArray.ext (by simpa using h)
theorem cmpS_is : IsC cmpS := by
  have h := lexC_is cmpU_is
  exact ⟨fun a b => h.rng _ _, fun a b => h.anti _ _, fun a b => ⟨fun e => ba_inj ((h.eq0 _ _).1 e), fun e => by rw [e]; exact (h.eq0 _ _).2 rfl⟩, fun a b c => h.trans _ _ _⟩

abbrev sEq (a b : ByteArray) : Bool := a.toList == b.toList
abbrev sLt (a b : ByteArray) : Bool := Op.bytesLess a.toList b.toList
theorem sEq_iff {a b : ByteArray} : sEq a b = true ↔ a = b := by
  unfold sEq
  rw [ByteArray.toList_eq, ByteArray.toList_eq, beq_iff_eq]
  exact ⟨ba_inj, fun e => by rw [e]⟩
end Go.PL
/-
  Plain laws: labels and matchers. No program is in sight.
-/
namespace Go.PL
open Go Go.GK

structure Lb where
  name : ByteArray
  value : ByteArray
structure Mt where
  name : ByteArray
  op : Int
  value : ByteArray
instance : Inhabited Lb := ⟨⟨⟨#[]⟩, ⟨#[]⟩⟩⟩
instance : Inhabited Mt := ⟨⟨⟨#[]⟩, 0, ⟨#[]⟩⟩⟩

def anyB (n : Nat) (p : Nat → Bool) : Bool := (List.range n).any p
theorem anyB_true {n i : Nat} {p : Nat → Bool} (h : i < n) (hp : p i = true) : anyB n p = true := List.any_eq_true.2 ⟨i, List.mem_range.2 h, hp⟩
theorem anyB_false {n : Nat} {p : Nat → Bool} (h : ∀ i, i < n → p i = false) : anyB n p = false := by
  unfold anyB
  rw [List.any_eq_false]
  intro x hx
  rw [h x (List.mem_range.1 hx)]
  decide
theorem anyB_get {n : Nat} {p : Nat → Bool} (h : anyB n p = false) (i : Nat) (hi : i < n) : p i = false := by
  cases hp : p i with
  | false => rfl
  | true => rw [anyB_true hi hp] at h; cases h
def letB (c : UInt8) : Bool := decide (97 ≤ c.toNat ∧ c.toNat ≤ 122) || (decide (65 ≤ c.toNat ∧ c.toNat ≤ 90) || decide (c.toNat = 95))
def digB (c : UInt8) : Bool := decide (48 ≤ c.toNat ∧ c.toNat ≤ 57)
def nbad (s : ByteArray) (i : Nat) : Bool := match s[i]? with
  | some c => !letB c && (i == 0 || !digB c)
  | none => false
def nameF (s : ByteArray) : Bool := !anyB s.size (nbad s) && decide (1 ≤ s.size ∧ s.size ≤ 24)
def vbad (s : ByteArray) (i : Nat) : Bool := match s[i]? with
  | some c => decide (c.toNat < 32) || (decide (126 < c.toNat) || (decide (c.toNat = 34) || decide (c.toNat = 92)))
  | none => false
def valueF (s : ByteArray) : Bool := !anyB s.size (vbad s) && decide (s.size ≤ 24)

def lbad (l : List Lb) (i : Nat) : Bool :=
  !nameF (l.getD i default).name || (!valueF (l.getD i default).value || (sEq (l.getD i default).value ⟨#[]⟩ || (decide (0 < i) && !sLt (l.getD (i - 1) default).name (l.getD i default).name)))
def rightF (l : List Lb) : Bool := !anyB l.length (lbad l) && decide (1 ≤ l.length ∧ l.length ≤ 8)

def lgetF (l : List Lb) (n : ByteArray) : ByteArray := match l with
  | [] => ⟨#[]⟩
  | x :: r => if sEq x.name n = true then x.value else lgetF r n

def cmpL1 (a b : Lb) : Int := thenC cmpS cmpS (a.name, a.value) (b.name, b.value)
def cmpF (a b : List Lb) : Int := lexC cmpL1 a b
theorem cmpL1_is : IsC cmpL1 := by
  have h := thenC_is cmpS_is cmpS_is
  refine ⟨fun a b => h.rng _ _, fun a b => h.anti _ _, fun a b => ?_, fun a b c => h.trans _ _ _⟩
  rw [cmpL1, h.eq0]
  obtain ⟨a1, a2⟩ := a
  obtain ⟨b1, b2⟩ := b
  simp
theorem cmpF_is : IsC cmpF := lexC_is cmpL1_is

def bs (l : List UInt8) : ByteArray := ⟨l.toArray⟩
theorem data_bs (l : List UInt8) : (bs l).data.toList = l := by simp [bs]
theorem size_data (s : ByteArray) : s.data.toList.length = s.size := Array.length_toList

def onlyF (l : List Lb) (names : List ByteArray) : List Lb := l.filter fun x => names.any fun n => sEq n x.name

def mbad (m : Mt) : Bool := !nameF m.name || (!valueF m.value || !decide (0 ≤ m.op ∧ m.op ≤ 3))
def askedF (l : List Mt) : Bool := !anyB l.length (fun i => mbad (l.getD i default)) && decide (l.length ≤ 8)
def prefF (s p : ByteArray) : Bool := decide (p.size ≤ s.size) && sEq (s.extract 0 p.size) p
def loneF (l : List Lb) (m : Mt) : Bool :=
  if m.op = 0 then sEq (lgetF l m.name) m.value else if m.op = 1 then !sEq (lgetF l m.name) m.value else if m.op = 2 then prefF (lgetF l m.name) m.value else !prefF (lgetF l m.name) m.value
def allF (l : List Lb) (m : List Mt) : Bool := m.all (loneF l)

theorem data_take (s : ByteArray) (n : Nat) : (s.extract 0 n).data.toList = s.data.toList.take n := by
  rw [ByteArray.data_extract, Array.toList_extract]
  rfl
end Go.PL
/-
  DERIVED: THE SHELF's CONTRACTS AT THIS DUMP, IN PLAIN WORDS (tools/lay-plain.mjs out of 'TryzShelf.lean', which tools/lay-shelf.mjs wrote): THE SAME DECLARATIONS UNDER THE SAME NAMES: 'import', 'namespace', 'open', 'def', 'theorem' AND NOTHING ELSE: no command of the shelf's: FOR A HAND-IN. Each laying: the table of numbers ('.._ren') and one theorem, a field a fact of the dump's own or the kernel's comparison; each contract: ONE APPLICATION.
-/
namespace Go.Proofs
open Go.Shelf
def Tryz.lays161_ren : Go.Shelf.Ren := ⟨fun | 161 => 109 | 231 => 102 | 227 => 104 | 233 => 105 | 235 => 107 | 228 => 136 | 197 => 137 | 151 => 138 | 260 => 159 | 152 => 160 | 137 => 67 | 119 => 169 | 224 => 170 | 225 => 171 | 217 => 101 | 266 => 135 | n => n, fun | 9 => 9 | 4 => 4 | 3 => 3 | 5 => 5 | 117 => 163 | 116 => 162 | 0 => 0 | 124 => 166 | 105 => 189 | 21 => 21 | 119 => 221 | 46 => 206 | 139 => 224 | 138 => 223 | n => n, fun | 3 => 7 | 4 => 8 | n => n⟩
theorem Tryz.lays161 : Go.Proofs.Lays.n161 Tryz.prog Tryz.lays161_ren := {
  mixed := by kernel_rfl
  f119 := Tryz.func169.trans (congrArg some (by kernel_rfl))
  f137 := Tryz.func67.trans (congrArg some (by kernel_rfl))
  f151 := Tryz.func138.trans (congrArg some (by kernel_rfl))
  f152 := Tryz.func160.trans (congrArg some (by kernel_rfl))
  f161 := Tryz.func109.trans (congrArg some (by kernel_rfl))
  f197 := Tryz.func137.trans (congrArg some (by kernel_rfl))
  f217 := Tryz.func101.trans (congrArg some (by kernel_rfl))
  f224 := Tryz.func170.trans (congrArg some (by kernel_rfl))
  f225 := Tryz.func171.trans (congrArg some (by kernel_rfl))
  f227 := Tryz.func104.trans (congrArg some (by kernel_rfl))
  f228 := Tryz.func136.trans (congrArg some (by kernel_rfl))
  f231 := Tryz.func102.trans (congrArg some (by kernel_rfl))
  f233 := Tryz.func105.trans (congrArg some (by kernel_rfl))
  f235 := Tryz.func107.trans (congrArg some (by kernel_rfl))
  f260 := Tryz.func159.trans (congrArg some (by kernel_rfl))
  f266 := Tryz.func135.trans (congrArg some (by kernel_rfl))
  t0 := Tryz.underlying0
  a0 := Tryz.isAgg0
  z0 := Tryz.sizeOf0
  v0 := Tryz.zeroValue0
  t3 := Tryz.underlying3
  a3 := Tryz.isAgg3
  z3 := Tryz.sizeOf3
  v3 := Tryz.zeroValue3
  t4 := Tryz.underlying4
  a4 := Tryz.isAgg4
  z4 := Tryz.sizeOf4
  v4 := Tryz.zeroValue4
  t5 := Tryz.underlying5
  a5 := Tryz.isAgg5
  z5 := Tryz.sizeOf5
  v5 := Tryz.zeroValue5
  t9 := Tryz.underlying9
  a9 := Tryz.isAgg9
  z9 := Tryz.sizeOf9
  v9 := Tryz.zeroValue9
  t21 := Tryz.underlying21
  a21 := Tryz.isAgg21
  z21 := Tryz.sizeOf21
  v21 := Tryz.zeroValue21
  t46 := Tryz.underlying206
  a46 := Tryz.isAgg206
  z46 := Tryz.sizeOf206
  v46 := Tryz.zeroValue206
  t105 := Tryz.underlying189
  a105 := Tryz.isAgg189
  z105 := Tryz.sizeOf189
  v105 := Tryz.zeroValue189
  t116 := Tryz.underlying162
  a116 := Tryz.isAgg162
  z116 := Tryz.sizeOf162
  t117 := Tryz.underlying163
  a117 := Tryz.isAgg163
  z117 := Tryz.sizeOf163
  v117 := Tryz.zeroValue163
  t119 := Tryz.underlying221
  a119 := Tryz.isAgg221
  z119 := Tryz.sizeOf221
  t124 := Tryz.underlying166
  a124 := Tryz.isAgg166
  z124 := Tryz.sizeOf166
  v124 := Tryz.zeroValue166
  t138 := Tryz.underlying223
  a138 := Tryz.isAgg223
  z138 := Tryz.sizeOf223
  v138 := Tryz.zeroValue223
  t139 := Tryz.underlying224
  a139 := Tryz.isAgg224
  z139 := Tryz.sizeOf224
  v139 := Tryz.zeroValue224
  g3 := by kernel_rfl
  g4 := by kernel_rfl }
def Tryz.lays160_ren : Go.Shelf.Ren := ⟨fun | 160 => 68 | 232 => 103 | 231 => 102 | 227 => 104 | 234 => 106 | 233 => 105 | 236 => 108 | 235 => 107 | 228 => 136 | 271 => 139 | 151 => 138 | 197 => 137 | 120 => 161 | 152 => 160 | 260 => 159 | 137 => 67 | 119 => 169 | 224 => 170 | 225 => 171 | 217 => 101 | 266 => 135 | n => n, fun | 9 => 9 | 4 => 4 | 3 => 3 | 5 => 5 | 117 => 163 | 116 => 162 | 0 => 0 | 124 => 166 | 21 => 21 | 105 => 189 | 46 => 206 | 119 => 221 | 139 => 224 | 138 => 223 | n => n, fun | 3 => 7 | 4 => 8 | n => n⟩
theorem Tryz.lays160 : Go.Proofs.Lays.n160 Tryz.prog Tryz.lays160_ren := {
  mixed := by kernel_rfl
  f119 := Tryz.func169.trans (congrArg some (by kernel_rfl))
  f120 := Tryz.func161.trans (congrArg some (by kernel_rfl))
  f137 := Tryz.func67.trans (congrArg some (by kernel_rfl))
  f151 := Tryz.func138.trans (congrArg some (by kernel_rfl))
  f152 := Tryz.func160.trans (congrArg some (by kernel_rfl))
  f160 := Tryz.func68.trans (congrArg some (by kernel_rfl))
  f197 := Tryz.func137.trans (congrArg some (by kernel_rfl))
  f217 := Tryz.func101.trans (congrArg some (by kernel_rfl))
  f224 := Tryz.func170.trans (congrArg some (by kernel_rfl))
  f225 := Tryz.func171.trans (congrArg some (by kernel_rfl))
  f227 := Tryz.func104.trans (congrArg some (by kernel_rfl))
  f228 := Tryz.func136.trans (congrArg some (by kernel_rfl))
  f231 := Tryz.func102.trans (congrArg some (by kernel_rfl))
  f232 := Tryz.func103.trans (congrArg some (by kernel_rfl))
  f233 := Tryz.func105.trans (congrArg some (by kernel_rfl))
  f234 := Tryz.func106.trans (congrArg some (by kernel_rfl))
  f235 := Tryz.func107.trans (congrArg some (by kernel_rfl))
  f236 := Tryz.func108.trans (congrArg some (by kernel_rfl))
  f260 := Tryz.func159.trans (congrArg some (by kernel_rfl))
  f266 := Tryz.func135.trans (congrArg some (by kernel_rfl))
  f271 := Tryz.func139.trans (congrArg some (by kernel_rfl))
  t0 := Tryz.underlying0
  a0 := Tryz.isAgg0
  z0 := Tryz.sizeOf0
  v0 := Tryz.zeroValue0
  t3 := Tryz.underlying3
  a3 := Tryz.isAgg3
  z3 := Tryz.sizeOf3
  v3 := Tryz.zeroValue3
  t4 := Tryz.underlying4
  a4 := Tryz.isAgg4
  z4 := Tryz.sizeOf4
  v4 := Tryz.zeroValue4
  t5 := Tryz.underlying5
  a5 := Tryz.isAgg5
  z5 := Tryz.sizeOf5
  v5 := Tryz.zeroValue5
  t9 := Tryz.underlying9
  a9 := Tryz.isAgg9
  z9 := Tryz.sizeOf9
  v9 := Tryz.zeroValue9
  t21 := Tryz.underlying21
  a21 := Tryz.isAgg21
  z21 := Tryz.sizeOf21
  v21 := Tryz.zeroValue21
  t46 := Tryz.underlying206
  a46 := Tryz.isAgg206
  z46 := Tryz.sizeOf206
  v46 := Tryz.zeroValue206
  t105 := Tryz.underlying189
  a105 := Tryz.isAgg189
  z105 := Tryz.sizeOf189
  v105 := Tryz.zeroValue189
  t116 := Tryz.underlying162
  a116 := Tryz.isAgg162
  z116 := Tryz.sizeOf162
  t117 := Tryz.underlying163
  a117 := Tryz.isAgg163
  z117 := Tryz.sizeOf163
  v117 := Tryz.zeroValue163
  t119 := Tryz.underlying221
  a119 := Tryz.isAgg221
  z119 := Tryz.sizeOf221
  t124 := Tryz.underlying166
  a124 := Tryz.isAgg166
  z124 := Tryz.sizeOf166
  v124 := Tryz.zeroValue166
  t138 := Tryz.underlying223
  a138 := Tryz.isAgg223
  z138 := Tryz.sizeOf223
  v138 := Tryz.zeroValue223
  t139 := Tryz.underlying224
  a139 := Tryz.isAgg224
  z139 := Tryz.sizeOf224
  v139 := Tryz.zeroValue224
  g3 := by kernel_rfl
  g4 := by kernel_rfl }
def Tryz.lays106_ren : Go.Shelf.Ren := ⟨fun | 106 => 40 | 213 => 79 | 265 => 112 | n => n, fun | 9 => 9 | 3 => 3 | n => n, fun | n => n⟩
theorem Tryz.lays106 : Go.Proofs.Lays.n106 Tryz.prog Tryz.lays106_ren := {
  mixed := by kernel_rfl
  f106 := Tryz.func40.trans (congrArg some (by kernel_rfl))
  f213 := Tryz.func79.trans (congrArg some (by kernel_rfl))
  f265 := Tryz.func112.trans (congrArg some (by kernel_rfl))
  t3 := Tryz.underlying3
  a3 := Tryz.isAgg3
  z3 := Tryz.sizeOf3
  v3 := Tryz.zeroValue3
  t9 := Tryz.underlying9
  a9 := Tryz.isAgg9
  z9 := Tryz.sizeOf9
  v9 := Tryz.zeroValue9 }
open Go.RowKit in
theorem Tryz.strings_Compare (a b : ByteArray) (w : World) :
    Calls Tryz.prog 40 #[.string a, .string b] w fun e w' => e = .returned (.int .i64 (Lib.compareBytes a.data.toList b.data.toList)) ∧ w' = w := Any.strings_Compare Tryz.lays106 a b w
def Tryz.lays137_ren : Go.Shelf.Ren := ⟨fun | 137 => 67 | 217 => 101 | 266 => 135 | n => n, fun | 9 => 9 | 5 => 5 | 3 => 3 | n => n, fun | n => n⟩
theorem Tryz.lays137 : Go.Proofs.Lays.n137 Tryz.prog Tryz.lays137_ren := {
  mixed := by kernel_rfl
  f137 := Tryz.func67.trans (congrArg some (by kernel_rfl))
  f217 := Tryz.func101.trans (congrArg some (by kernel_rfl))
  f266 := Tryz.func135.trans (congrArg some (by kernel_rfl))
  t3 := Tryz.underlying3
  a3 := Tryz.isAgg3
  z3 := Tryz.sizeOf3
  v3 := Tryz.zeroValue3
  t5 := Tryz.underlying5
  a5 := Tryz.isAgg5
  z5 := Tryz.sizeOf5
  v5 := Tryz.zeroValue5
  t9 := Tryz.underlying9
  a9 := Tryz.isAgg9
  z9 := Tryz.sizeOf9
  v9 := Tryz.zeroValue9 }
open Go.RowKit in
theorem Tryz.strings_IndexByte (s : ByteArray) (c : Int) (w : World) :
    Calls Tryz.prog 67 #[.string s, .int .u8 c] w fun e w' => e = .returned (.int .i64 (Lib.indexByte s.data.toList c.toNat.toUInt8)) ∧ w' = w := Any.strings_IndexByte Tryz.lays137 s c w
end Go.Proofs
/-
  Contracts of Go's library on strings: IndexByte, Trim, Compare, Join, HasPrefix; cmp.Compare, cmp.Or of ints; slices.Index, Contains of strings.
-/
namespace Go.Proofs.YtkoalgjlkcaonaaGreatDoor
open Go.GK Go.PL Go.RowKit
set_option maxRecDepth 100000
abbrev gb (c : UInt8) : GV := .v (.int .u8 (c.toNat : Int))

theorem indexByte_rt (s : ByteArray) (c : UInt8) : Rt pg 67 [gs s, gb c] (gi (Lib.indexByte s.data.toList c)) :=
  Rt.calls Tryz.call67 [.string s, .int .u8 c.toNat] _ fun w => (Tryz.strings_IndexByte s c.toNat w).mono fun e w' ⟨he, hw⟩ => ⟨by rw [he]; simp, by rw [hw]; exact Below.refl _ _⟩
theorem compare_rt (a b : ByteArray) : Rt pg 40 [gs a, gs b] (gi (cmpS a b)) :=
  Rt.calls Tryz.call40 [.string a, .string b] _ fun w => (Tryz.strings_Compare a b w).mono fun e w' ⟨he, hw⟩ => ⟨by rw [he, cmpBytes]; rfl, by rw [hw]; exact Below.refl _ _⟩
theorem trim_rt (s t : ByteArray) (hs : s.size ≤ 1000000) (ht : t.size ≤ 1000) (ha : t.data.toList.all (fun b => decide (b.toNat < 128)) = true) : Rt pg 68 [gs s, gs t] (gs (bs (Lib.trimS s.data.toList t.data.toList))) :=
  Rt.calls Tryz.call68 [.string s, .string t] _ fun w => (Any.strings_Trim_laid Tryz.lays160 (by kernel_rfl) s t w (by omega) (by omega) (fun _ b hb => of_decide_eq_true (List.all_eq_true.1 ha b (List.mem_of_getElem? hb)))).mono fun e w' ⟨he, hw⟩ => ⟨he, hw⟩
theorem slitePrefix_rt (s p : ByteArray) : Rt pg 110 [gs s, gs p] (.b (prefF s p)) := by
  refine Rt.of pg_ok Tryz.func110 rfl Tryz.ntmps110 rfl Tryz.results110 Tryz.call110 fun H0 S0 w0 h0 g0 => ?_
  unfold prefF
  by_cases h : p.size ≤ s.size
  · refine p1 ?_
    refine ⟨by omega, by omega, by omega, ?_⟩
    exact ⟨by simp [h]; rfl, rfl⟩
  · refine p2 ?_
    exact ⟨by simp [h]; rfl, rfl⟩
theorem hasPrefix_rt (s p : ByteArray) : Rt pg 70 [gs s, gs p] (.b (prefF s p)) := by
  refine Rt.of pg_ok Tryz.func70 rfl Tryz.ntmps70 rfl Tryz.results70 Tryz.call70 fun H0 S0 w0 h0 g0 => ?_
  refine GO (slitePrefix_rt s p) rfl ?_
  exact ⟨rfl, rfl⟩
theorem isNaN_rt (x : Int) : Rt pg 80 [gi x] (.v (.bool false)) := by
  refine Rt.of pg_ok Tryz.func80 rfl Tryz.ntmps80 rfl Tryz.results80 Tryz.call80 fun H0 S0 w0 h0 g0 => ?_
  exact ⟨by simp; rfl, rfl⟩
def sgnF (x y : Int) : Int := if x < y then -1 else if y < x then 1 else 0
theorem cmpInt_rt (x y : Int) : Rt pg 41 [gi x, gi y] (gi (sgnF x y)) := by
  refine Rt.of pg_ok Tryz.func41 rfl Tryz.ntmps41 rfl Tryz.results41 Tryz.call41 fun H0 S0 w0 h0 g0 => ?_
  refine GO (isNaN_rt x) rfl ?_
  refine GO (isNaN_rt y) rfl ?_
  unfold sgnF
  by_cases h1 : x < y
  · refine p1 ?_
    exact ⟨by simp [h1]; rfl, rfl⟩
  · refine p2 ?_
    by_cases h2 : y < x
    · refine p1 ?_
      exact ⟨by simp [h1, h2]; rfl, rfl⟩
    · refine p2 ?_
      exact ⟨by simp [h1, h2]; rfl, rfl⟩
theorem idx_str_rt (l : List ByteArray) (x : ByteArray) (n : Nat) (hn : n ≤ l.length) (h1 : ∀ i, i < n → sEq x (l.getD i ⟨#[]⟩) = false) (h2 : n < l.length → sEq x (l.getD n ⟨#[]⟩) = true) (hl : l.length < 4611686018427387904) :
    Rt pg 167 [.sl 1 (l.map fun x => [gs x]), gs x] (gi (if n < l.length then n else -1)) := by
  refine Rt.of pg_ok Tryz.func167 rfl Tryz.ntmps167 rfl Tryz.results167 Tryz.call167 fun H0 S0 w0 h0 g0 => ?_
  refine JK.loop (α := Nat) (fun i => ⟨[(0, .sl 1 (l.map fun x => [gs x])), (1, gs x), (7, gi (l.map fun x => [gs x]).length), (8, gi i)], [], 0⟩) (fun i => i ≤ n) (fun i => n - i) 0 id ?_ (Nat.zero_le _) ?_
  · exact ⟨⟨rfl, rfl, rfl, rfl, trivial⟩, trivial, rfl⟩
  · intro i hi
    refine V ?_
    have hlen : (l.map fun x => [gs x]).length = l.length := by simp
    by_cases hlt : i < l.length
    · have hg : l.getD i ⟨#[]⟩ = l[i] := by simp [hlt]
      refine p1 ?_
      refine ix (h := ?_)
      by_cases hin : i < n
      · have := h1 i hin
        rw [hg] at this
        refine p2 ?_
        exact ⟨i + 1, id, ⟨⟨rfl, rfl, rfl, succ_gi (by omega), trivial⟩, trivial, rfl⟩, hin, by show n - (i + 1) < n - i; omega⟩
      · have hin' : i = n := by omega
        subst hin'
        have := h2 hlt
        rw [hg] at this
        refine p1 ?_
        exact ⟨by rw [if_pos hlt]; rfl, rfl⟩
    · refine p2 ?_
      refine V ?_
      exact ⟨by rw [if_neg (by omega)]; rfl, rfl⟩
def conS (l : List ByteArray) (x : ByteArray) : Bool := l.any fun y => sEq x y
theorem conS_rt (l : List ByteArray) (x : ByteArray) (hl : l.length < 4611686018427387904) : Rt pg 156 [.sl 1 (l.map fun x => [gs x]), gs x] (.b (conS l x)) := by
  refine Rt.of pg_ok Tryz.func156 rfl Tryz.ntmps156 rfl Tryz.results156 Tryz.call156 fun H0 S0 w0 h0 g0 => ?_
  by_cases h : ∃ n, n < l.length ∧ sEq x (l.getD n ⟨#[]⟩) = true
  · obtain ⟨m, hm⟩ := h
    have hw : ∃ n, (n < l.length ∧ sEq x (l.getD n ⟨#[]⟩) = true) ∧ ∀ i, i < n → ¬ (i < l.length ∧ sEq x (l.getD i ⟨#[]⟩) = true) := by
      induction m using Nat.strongRecOn with
      | ind m ih =>
        by_cases hex : ∃ i, i < m ∧ i < l.length ∧ sEq x (l.getD i ⟨#[]⟩) = true
        · obtain ⟨i, h1, h2⟩ := hex; exact ih i h1 h2
        · exact ⟨m, hm, fun i hi hc => hex ⟨i, hi, hc⟩⟩
    obtain ⟨n, ⟨h1, h2⟩, h3⟩ := hw
    refine GO (idx_str_rt l x n (by omega) (fun i hi => by have := h3 i hi; cases hc : sEq x (l.getD i ⟨#[]⟩) with | false => rfl | true => exact (this ⟨by omega, hc⟩).elim) (fun _ => h2) hl) rfl ?_
    refine ⟨?_, rfl⟩
    have hc : conS l x = true := by
      unfold conS
      rw [List.any_eq_true]
      exact ⟨l[n], List.getElem_mem h1, by simpa [h1] using h2⟩
    show _ = conS l x
    rw [hc, if_pos h1]
    exact decide_eq_true (by omega)
  · refine GO (idx_str_rt l x l.length (Nat.le_refl _) (fun i hi => by cases hc : sEq x (l.getD i ⟨#[]⟩) with | false => rfl | true => exact (h ⟨i, hi, hc⟩).elim) (fun hlt => absurd hlt (Nat.lt_irrefl _)) hl) rfl ?_
    refine ⟨?_, rfl⟩
    have hc : conS l x = false := by
      unfold conS
      rw [List.any_eq_false]
      intro y hy he
      obtain ⟨i, hi, e⟩ := List.getElem_of_mem hy
      exact h ⟨i, hi, by simpa [hi, e] using he⟩
    show _ = conS l x
    rw [hc, if_neg (Nat.lt_irrefl _)]
    rfl
end Go.Proofs.YtkoalgjlkcaonaaGreatDoor
/-
  Plain laws: what may be a name, by the library's words. No program is in sight.
-/
namespace Go.PL
open Go Go.GK

def lettL : List UInt8 := [97, 98, 99, 100, 101, 102, 103, 104, 105, 106, 107, 108, 109, 110, 111, 112, 113, 114, 115, 116, 117, 118, 119, 120, 121, 122, 65, 66, 67, 68, 69, 70, 71, 72, 73, 74, 75, 76, 77, 78, 79, 80, 81, 82, 83, 84, 85, 86, 87, 88, 89, 90, 95]
def digL : List UInt8 := [48, 49, 50, 51, 52, 53, 54, 55, 56, 57]

theorem u8_all {p : UInt8 → Bool} (h : ∀ n : Fin 256, p (UInt8.ofNat n.val) = true) (c : UInt8) : p c = true := by
  have := h ⟨c.toNat, c.toNat_lt⟩
  simpa using this
theorem lett_iff (c : UInt8) : decide (0 ≤ Lib.indexByte lettL c) = letB c := by
  have := u8_all (p := fun c => decide (0 ≤ Lib.indexByte lettL c) == letB c) (by decide +kernel) c
  simpa using this
theorem word_iff (c : UInt8) : (lettL ++ digL).contains c = (letB c || digB c) := by
  have := u8_all (p := fun c => (lettL ++ digL).contains c == (letB c || digB c)) (by decide +kernel) c
  simpa using this

theorem dropWhile_nil {α : Type} (p : α → Bool) (l : List α) : l.dropWhile p = [] ↔ ∀ x ∈ l, p x = true := by
  induction l with
  | nil => simp
  | cons a l ih =>
    simp only [List.dropWhile_cons]
    cases h : p a with
    | true => simp [ih, h]
    | false => simp [h]
theorem dropWhile_mem {α : Type} (p : α → Bool) : ∀ (l : List α) (x : α), x ∈ l → x ∈ l.dropWhile p ∨ p x = true
  | a :: l, x, h => by
    simp only [List.dropWhile_cons]
    cases hp : p a with
    | true =>
      rcases List.mem_cons.1 h with rfl | h
      · exact .inr hp
      · exact dropWhile_mem p l x h
    | false => exact .inl h
theorem trim_nil (l cs : List UInt8) : Lib.trimS l cs = [] ↔ ∀ x ∈ l, cs.contains x = true := by
  unfold Lib.trimS Lib.trimLeftS Lib.trimRightS
  rw [dropWhile_nil]
  constructor
  · intro h x hx
    rcases dropWhile_mem (cs.contains ·) l.reverse x (List.mem_reverse.2 hx) with h1 | h1
    · exact h x (List.mem_reverse.2 h1)
    · exact h1
  · intro h x hx
    refine h x ?_
    have := (List.dropWhile_sublist (l := l.reverse) (cs.contains ·)).subset (List.mem_reverse.1 hx)
    exact List.mem_reverse.1 this

theorem nbad_some {s : ByteArray} {i : Nat} (h : i < s.size) : nbad s i = (!letB s[i] && (i == 0 || !digB s[i])) := by
  unfold nbad
  rw [getElem?_pos s i h]

theorem name_prog (s : ByteArray) (h0 : 1 ≤ s.size) (h1 : s.size ≤ 24) : nameF s = (letB (s[0]'h0) && decide (Lib.trimS s.data.toList (lettL ++ digL) = [])) := by
  unfold nameF
  rw [decide_eq_true (p := 1 ≤ s.size ∧ s.size ≤ 24) ⟨h0, h1⟩, Bool.and_true, Bool.eq_iff_iff, Bool.not_eq_true', Bool.and_eq_true, decide_eq_true_iff, trim_nil]
  constructor
  · intro h
    have h2 := anyB_get h
    have h3 := h2 0 h0
    rw [nbad_some h0] at h3
    refine ⟨by simpa using h3, fun x hx => ?_⟩
    obtain ⟨i, hi, rfl⟩ := List.getElem_of_mem hx
    rw [size_data] at hi
    have h4 := h2 i hi
    rw [nbad_some hi] at h4
    rw [word_iff]
    have e : s.data.toList[i] = s[i] := rfl
    rw [e]
    revert h4
    cases letB s[i] <;> cases digB s[i] <;> simp
  · rintro ⟨h2, h3⟩
    refine anyB_false fun i hi => ?_
    rw [nbad_some hi]
    have h4 := h3 s[i] (List.getElem_mem (l := s.data.toList) (by rw [size_data]; exact hi))
    rw [word_iff] at h4
    by_cases hi0 : i = 0
    · subst hi0; rw [h2]; rfl
    · have : (i == 0) = false := by simpa using hi0
      rw [this]
      revert h4
      cases letB s[i] <;> cases digB s[i] <;> simp
theorem nameF_no {s : ByteArray} (h : ¬ (1 ≤ s.size ∧ s.size ≤ 24)) : nameF s = false := by
  unfold nameF
  rw [decide_eq_false h, Bool.and_false]
end Go.PL
/-
  Contracts: package label: names, values, labels.
-/
namespace Go.Proofs.YtkoalgjlkcaonaaGreatDoor
open Go.GK Go.PL Go.RowKit
set_option maxRecDepth 100000
abbrev lb (x : Lb) : List GV := [gs x.name, gs x.value]
abbrev mt (x : Mt) : List GV := [gs x.name, gi x.op, gs x.value]

theorem empty_iff (s : ByteArray) : sEq s ⟨#[]⟩ = decide (s.size = 0) := by
  rw [Bool.eq_iff_iff, sEq_iff, decide_eq_true_iff]
  exact ⟨fun e => by rw [e]; rfl, fun h => ba_inj (List.eq_nil_of_length_eq_zero (by rw [size_data]; exact h))⟩

theorem name_rt (s : ByteArray) : Rt pg 33 [gs s] (.b (nameF s)) := by
  refine Rt.of pg_ok Tryz.func33 rfl Tryz.ntmps33 rfl Tryz.results33 Tryz.call33 fun H0 S0 w0 h0 g0 => ?_
  have he := empty_iff s
  by_cases h0 : s.size = 0
  · rw [decide_eq_true h0] at he
    rw [nameF_no (by omega)]
    refine p2 ?_ (show (!sEq s ⟨#[]⟩) = false by rw [he]; rfl)
    exact ⟨rfl, rfl⟩
  · rw [decide_eq_false h0] at he
    refine p1 ?_ (show (!sEq s ⟨#[]⟩) = true by rw [he]; rfl)
    by_cases h1 : s.size ≤ 24
    · refine p1 ?_
      rw [name_prog s (by omega) h1]
      refine sx (i := 0) (h := ?_)
      refine GO (indexByte_rt ⟨lettL.toArray⟩ s[0]) rfl ?_
      have e : decide (0 ≤ Lib.indexByte lettL s[0]) = letB s[0] := lett_iff _
      cases hl : letB s[0] with
      | false =>
        rw [hl] at e
        refine p2 ?_ e
        exact ⟨rfl, rfl⟩
      | true =>
        rw [hl] at e
        refine p1 ?_ e
        refine GO (trim_rt s ⟨(lettL ++ digL).toArray⟩ (by omega) (by decide) (by decide)) rfl ?_
        refine ⟨?_, rfl⟩
        show sEq _ ⟨#[]⟩ = _
        rw [Bool.true_and, Bool.eq_iff_iff, sEq_iff, decide_eq_true_iff]
        refine ⟨fun h => ?_, fun h => ?_⟩
        · have := congrArg (fun b : ByteArray => b.data.toList) h
          simpa only [data_bs] using this
        · exact congrArg bs h
    · rw [nameF_no (by omega)]
      refine p2 ?_
      exact ⟨rfl, rfl⟩
theorem lname_rt (s : ByteArray) : Rt pg 11 [gs s] (.b (nameF s)) := by
  refine Rt.of pg_ok Tryz.func11 rfl Tryz.ntmps11 rfl Tryz.results11 Tryz.call11 fun H0 S0 w0 h0 g0 => ?_
  refine GO (name_rt s) rfl ?_
  exact ⟨rfl, rfl⟩

theorem vbad_some {s : ByteArray} {i : Nat} (h : i < s.size) : vbad s i = (decide (s[i].toNat < 32) || (decide (126 < s[i].toNat) || (decide (s[i].toNat = 34) || decide (s[i].toNat = 92)))) := by
  unfold vbad
  rw [getElem?_pos s i h]
theorem value_rt (s : ByteArray) (hs : s.size < 4611686018427387904) : Rt pg 66 [gs s] (.b (valueF s)) := by
  refine Rt.of pg_ok Tryz.func66 rfl Tryz.ntmps66 rfl Tryz.results66 Tryz.call66 fun H0 S0 w0 h0 g0 => ?_
  refine JK.loop (α := Nat) (fun i => ⟨[(0, gs s), (5, gi s.size), (6, gi i)], [], 0⟩) (fun i => i ≤ s.size ∧ ∀ j, j < i → vbad s j = false) (fun i => s.size - i) 0 id ?_ ⟨Nat.zero_le _, fun j hj => absurd hj (by omega)⟩ ?_
  · exact ⟨⟨rfl, rfl, rfl, trivial⟩, trivial, rfl⟩
  · rintro i ⟨hi, hgood⟩
    refine V ?_
    by_cases hlt : i < s.size
    · have hv := vbad_some hlt
      have hbad : vbad s i = true → valueF s = false := fun h => by unfold valueF; rw [anyB_true hlt h]; rfl
      have hnext : vbad s i = false → ∀ j, j < i + 1 → vbad s j = false := fun h j hj => by
        rcases Nat.lt_succ_iff_lt_or_eq.1 hj with h1 | h1
        · exact hgood j h1
        · subst h1; exact h
      by_cases h1 : s[i].toNat < 32 <;> by_cases h2 : 126 < s[i].toNat <;> by_cases h3 : s[i].toNat = 34 <;> by_cases h4 : s[i].toNat = 92 <;>
        simp only [h1, h2, h3, h4, decide_true, decide_false, Bool.true_or, Bool.or_true, Bool.or_false] at hv <;>
        (repeat (first | refine p1 ?_ | refine p2 ?_ | refine p3 ?_ | refine p4 ?_ | refine sx (h := ?_))) <;>
        first | exact ⟨(hbad hv).symm, rfl⟩ | exact ⟨i + 1, id, ⟨⟨rfl, rfl, succ_gi (by omega), trivial⟩, trivial, rfl⟩, ⟨hlt, hnext hv⟩, by show s.size - (i + 1) < s.size - i; omega⟩
    · refine p2 ?_
      refine V ?_
      obtain rfl : i = s.size := by omega
      refine ⟨?_, rfl⟩
      unfold valueF
      rw [anyB_false hgood]
      show decide _ = _
      simp only [Bool.not_false, Bool.true_and, decide_eq_decide]
      omega

theorem lbad_at {l : List Lb} {i : Nat} (h : i < l.length) : lbad l i = (!nameF l[i].name || (!valueF l[i].value || (sEq l[i].value ⟨#[]⟩ || (decide (0 < i) && !sLt (l[i - 1]'(by omega)).name l[i].name)))) := by
  unfold lbad
  have e1 : ∀ j (hj : j < l.length), l.getD j default = l[j] := fun j hj => by simp [hj]
  rw [e1 i h, e1 (i - 1) (by omega)]
def Sh (l : List Lb) : Prop := ∀ x ∈ l, x.value.size < 4611686018427387904
theorem right_rt (l : List Lb) (hs : Sh l) : Rt pg 31 [.sl 2 (l.map lb)] (.b (rightF l)) := by
  refine Rt.of pg_ok Tryz.func31 rfl Tryz.ntmps31 rfl Tryz.results31 Tryz.call31 fun H0 S0 w0 h0 g0 => ?_
  refine JK.len 0 rfl fun hlen _ => ?_
  have hlen' : l.length ≤ 9223372036854775807 := by simpa [maxLen] using hlen
  refine JK.loop (α := Nat) (fun i => ⟨[(0, .sl 2 (l.map lb)), (5, .sl 2 (l.map lb)), (6, gi (l.map lb).length), (7, gi i)], [], 0⟩) (fun i => i ≤ l.length ∧ ∀ j, j < i → lbad l j = false) (fun i => l.length - i) 0 id ?_ ⟨Nat.zero_le _, fun j hj => absurd hj (by omega)⟩ ?_
  · exact ⟨⟨rfl, rfl, rfl, rfl, trivial⟩, trivial, rfl⟩
  · rintro i ⟨hi, hgood⟩
    refine V ?_
    have hll : (l.map lb).length = l.length := by simp
    by_cases hlt : i < l.length
    · have hv := lbad_at hlt
      have hbad : lbad l i = true → rightF l = false := fun h => by unfold rightF; rw [anyB_true hlt h]; rfl
      have hnext : lbad l i = false → ∀ j, j < i + 1 → lbad l j = false := fun h j hj => by
        rcases Nat.lt_succ_iff_lt_or_eq.1 hj with h1 | h1
        · exact hgood j h1
        · subst h1; exact h
      refine p1 ?_
      refine ix (h := ?_)
      refine DRAW [] false (tk [0, 1]) (by kernel_rfl) ?_
      have hval := value_rt l[i].value (hs l[i] (List.getElem_mem hlt))
      cases h1 : nameF l[i].name with
      | false =>
        refine RGO 2 false (tk [3, 4, 5, 6]) ((name_rt l[i].name).bt h1) rfl rfl (by kernel_rfl) ?_
        refine RSKIP 7 true (tk [8, 9, 10, 11, 12, 13, 14, 15, 16, 17, 18, 19, 20, 21, 22, 23, 24, 25, 26, 27, 28, 29]) rfl rfl (by kernel_rfl) ?_
        refine V ?_
        exact ⟨(hbad (by rw [hv, h1]; rfl)).symm, rfl⟩
      | true =>
        refine RGO 2 false (tk [3, 4, 5, 6]) ((name_rt l[i].name).bt h1) rfl rfl (by kernel_rfl) ?_
        cases h2 : valueF l[i].value with
        | false =>
          refine RGO 7 true (tk [8, 9, 10, 11, 12, 13, 14, 15, 16, 17, 18, 19, 20, 21, 22, 23, 24, 25, 26, 27, 28, 29]) (hval.bt h2) rfl rfl (by kernel_rfl) ?_
          refine V ?_
          exact ⟨(hbad (by rw [hv, h1, h2]; rfl)).symm, rfl⟩
        | true =>
          refine RGO 7 true (tk [8, 9, 10, 11, 12, 13, 14, 15, 16, 17, 18, 19, 20, 21, 22, 23, 24, 25, 26, 27, 28, 29]) (hval.bt h2) rfl rfl (by kernel_rfl) ?_
          rw [h1, h2] at hv
          cases h3 : sEq l[i].value ⟨#[]⟩ with
          | true =>
            repeat (first | refine p1 ?_ | refine p2 ?_ | refine p3 ?_ | refine p4 ?_ | refine V ?_)
            exact ⟨(hbad (by rw [hv, h3]; rfl)).symm, rfl⟩
          | false =>
            rw [h3] at hv
            by_cases h4 : 0 < i
            · have ew : IntKind.i64.wrap ((i : Int) - 1) = ((i - 1 : Nat) : Int) := by rw [wrap_id (by omega) (by omega)]; omega
              cases h5 : sLt (l[i - 1]'(by omega)).name l[i].name with
              | false =>
                have h5' : (!sLt (l[i - 1]'(by omega)).name l[i].name) = true := by rw [h5]; rfl
                repeat (first | refine p1 ?_ | refine p2 ?_ | refine p3 ?_ | refine p4 ?_ | refine V ?_ | refine idx (i - 1) ew (by omega) ?_)
                exact ⟨(hbad (by rw [hv, h5, decide_eq_true h4]; rfl)).symm, rfl⟩
              | true =>
                have h5' : (!sLt (l[i - 1]'(by omega)).name l[i].name) = false := by rw [h5]; rfl
                repeat (first | refine p1 ?_ | refine p2 ?_ | refine p3 ?_ | refine p4 ?_ | refine V ?_ | refine idx (i - 1) ew (by omega) ?_)
                exact ⟨i + 1, id, ⟨⟨rfl, rfl, rfl, succ_gi (by omega), trivial⟩, trivial, rfl⟩, ⟨hlt, hnext (by rw [hv, h5, decide_eq_true h4]; rfl)⟩, by show l.length - (i + 1) < l.length - i; omega⟩
            · repeat (first | refine p1 ?_ | refine p2 ?_ | refine p3 ?_ | refine p4 ?_ | refine V ?_)
              exact ⟨i + 1, id, ⟨⟨rfl, rfl, rfl, succ_gi (by omega), trivial⟩, trivial, rfl⟩, ⟨hlt, hnext (by rw [hv, decide_eq_false h4]; rfl)⟩, by show l.length - (i + 1) < l.length - i; omega⟩
    · refine p2 ?_
      refine V ?_
      obtain rfl : i = l.length := by omega
      unfold rightF
      rw [anyB_false hgood]
      by_cases h1 : 1 ≤ l.length
      · refine p1 ?_
        refine ⟨?_, rfl⟩
        show decide _ = _
        simp only [Bool.not_false, Bool.true_and, decide_eq_decide]
        omega
      · refine p2 ?_
        refine ⟨?_, rfl⟩
        rw [decide_eq_false (by omega : ¬ (1 ≤ l.length ∧ l.length ≤ 8))]
        rfl
theorem get_rt (l : List Lb) (n : ByteArray) : Rt pg 134 [.sl 2 (l.map lb), gs n] (gs (lgetF l n)) := by
  refine Rt.of pg_ok Tryz.func134 rfl Tryz.ntmps134 rfl Tryz.results134 Tryz.call134 fun H0 S0 w0 h0 g0 => ?_
  refine JK.len 0 rfl fun hlen _ => ?_
  have hlen' : l.length ≤ 9223372036854775807 := by simpa [maxLen] using hlen
  refine JK.loop (α := Nat) (fun i => ⟨[(1, gs n), (7, .sl 2 (l.map lb)), (8, gi (l.map lb).length), (9, gi i)], [], 0⟩) (fun i => i ≤ l.length ∧ lgetF (l.drop i) n = lgetF l n) (fun i => l.length - i) 0 id ?_ ⟨Nat.zero_le _, rfl⟩ ?_
  · exact ⟨⟨rfl, rfl, rfl, rfl, trivial⟩, trivial, rfl⟩
  · rintro i ⟨hi, hgood⟩
    refine V ?_
    have hll : (l.map lb).length = l.length := by simp
    by_cases hlt : i < l.length
    · rw [List.drop_eq_getElem_cons hlt] at hgood
      refine p1 ?_
      refine ix (h := ?_)
      cases h1 : sEq l[i].name n with
      | true =>
        refine p1 ?_ h1
        exact ⟨by rw [← hgood, lgetF, if_pos h1]; rfl, rfl⟩
      | false =>
        refine p2 ?_ h1
        exact ⟨i + 1, id, ⟨⟨rfl, rfl, rfl, succ_gi (by omega), trivial⟩, trivial, rfl⟩, ⟨hlt, by rw [← hgood, lgetF, if_neg (by rw [h1]; decide)]⟩, by show l.length - (i + 1) < l.length - i; omega⟩
    · refine p2 ?_
      refine V ?_
      obtain rfl : i = l.length := by omega
      rw [List.drop_length] at hgood
      exact ⟨by rw [← hgood]; rfl, rfl⟩
theorem or_rt (a b : Int) : Rt pg 39 [.sl 1 [[gi a], [gi b]]] (gi (if a = 0 then b else a)) := by
  refine Rt.of pg_ok Tryz.func39 rfl Tryz.ntmps39 rfl Tryz.results39 Tryz.call39 fun H0 S0 w0 h0 g0 => ?_
  refine JK.loop (α := Nat) (fun i => ⟨[(3, gi 0), (6, .sl 1 [[gi a], [gi b]]), (7, gi 2), (8, gi i)], [], 0⟩) (fun i => i ≤ 2 ∧ (0 < i → a = 0) ∧ (1 < i → b = 0)) (fun i => 2 - i) 0 id ?_ ⟨by omega, by omega, by omega⟩ ?_
  · exact ⟨⟨rfl, rfl, rfl, rfl, trivial⟩, trivial, rfl⟩
  · rintro i ⟨hi, h1, h2⟩
    match i, hi, h1, h2 with
    | 0, _, _, _ =>
      refine V ?_
      refine p1 ?_
      refine ⟨[gi a], by decide, rfl, ?_⟩
      by_cases h : a = 0
      · refine p2 ?_
        exact ⟨1, id, ⟨⟨rfl, rfl, rfl, rfl, trivial⟩, trivial, rfl⟩, ⟨by omega, fun _ => h, by omega⟩, by show 2 - 1 < 2; omega⟩
      · refine p1 ?_
        exact ⟨by rw [if_neg h]; rfl, rfl⟩
    | 1, _, h1, _ =>
      refine V ?_
      refine p1 ?_
      have ha := h1 (by omega)
      refine ⟨[gi b], by decide, rfl, ?_⟩
      by_cases h : b = 0
      · refine p2 ?_
        exact ⟨2, id, ⟨⟨rfl, rfl, rfl, rfl, trivial⟩, trivial, rfl⟩, ⟨by omega, fun _ => ha, fun _ => h⟩, by show 2 - 2 < 2 - 1; omega⟩
      · refine p1 ?_
        exact ⟨by rw [if_pos ha]; rfl, rfl⟩
    | 2, _, h1, h2 =>
      refine V ?_
      refine p2 ?_
      refine V ?_
      exact ⟨by rw [if_pos (h1 (by omega)), h2 (by omega)]; rfl, rfl⟩
end Go.Proofs.YtkoalgjlkcaonaaGreatDoor
/-
  Contracts: package label: order, text, matchers.
-/
namespace Go.Proofs.YtkoalgjlkcaonaaGreatDoor
open Go.GK Go.PL Go.RowKit
set_option maxRecDepth 100000
theorem lexC_len {α : Type} (f : α → α → Int) (hf : ∀ a b, f a b = 0 ↔ a = b) : ∀ (a b : List α), (∀ i, i < min a.length b.length → a[i]? = b[i]?) → lexC f a b = sgnF a.length b.length
  | [], [], _ => rfl
  | [], _ :: _, _ => by simp [lexC, sgnF]
  | _ :: _, [], _ => by simp [lexC, sgnF]; omega
  | x :: a, y :: b, h => by
    have h0 := h 0 (by simp)
    simp at h0
    have ih := lexC_len f hf a b (fun i hi => by have := h (i + 1) (by simp at hi ⊢; omega); simpa using this)
    simp only [lexC, (hf x y).2 h0, if_true, ih, sgnF, List.length_cons]
    repeat' split <;> omega
theorem lexC_at {α : Type} (f : α → α → Int) (hf : ∀ a b, f a b = 0 ↔ a = b) : ∀ (a b : List α) (i : Nat) (x y : α), (∀ j, j < i → a[j]? = b[j]?) → a[i]? = some x → b[i]? = some y → f x y ≠ 0 → lexC f a b = f x y
  | [], b, i, x, y, _, hx, _, _ => by simp at hx
  | _ :: _, [], i, x, y, _, _, hy, _ => by simp at hy
  | u :: a, v :: b, 0, x, y, _, hx, hy, hn => by
    simp at hx hy
    subst hx; subst hy
    simp only [lexC, if_neg hn]
  | u :: a, v :: b, i + 1, x, y, h, hx, hy, hn => by
    have h0 := h 0 (by omega)
    simp at h0
    simp only [lexC, (hf u v).2 h0, if_true]
    exact lexC_at f hf a b i x y (fun j hj => by have := h (j + 1) (by omega); simpa using this) (by simpa using hx) (by simpa using hy) hn
theorem cmpL1_or (x y : Lb) : cmpL1 x y = if cmpS x.name y.name = 0 then cmpS x.value y.value else cmpS x.name y.name := rfl
theorem lcompare_rt (a b : List Lb) : Rt pg 13 [.sl 2 (a.map lb), .sl 2 (b.map lb)] (gi (cmpF a b)) := by
  refine Rt.of pg_ok Tryz.func13 rfl Tryz.ntmps13 rfl Tryz.results13 Tryz.call13 fun H0 S0 w0 h0 g0 => ?_
  refine JK.len 0 rfl fun hlen _ => ?_
  have hlen' : a.length ≤ 9223372036854775807 := by simpa [maxLen] using hlen
  have hla : (a.map lb).length = a.length := by simp
  have hlb : (b.map lb).length = b.length := by simp
  refine JK.loop (α := Nat) (fun i => ⟨[(0, .sl 2 (a.map lb)), (1, .sl 2 (b.map lb)), (11, gi (min a.length b.length : Nat)), (12, gi i)], [], 0⟩) (fun i => i ≤ min a.length b.length ∧ ∀ j, j < i → a[j]? = b[j]?) (fun i => min a.length b.length - i) 0 id ?_ ⟨Nat.zero_le _, fun j hj => absurd hj (by omega)⟩ ?_
  · refine ⟨⟨rfl, rfl, ?_, rfl, trivial⟩, trivial, rfl⟩
    show some (gi (if ((b.map lb).length : Int) < (a.map lb).length then ((b.map lb).length : Int) else (a.map lb).length)) = some (gi (min a.length b.length : Nat))
    congr 2
    split <;> omega
  · rintro i ⟨hi, hgood⟩
    refine V ?_
    by_cases hlt : i < min a.length b.length
    · have ha : i < a.length := by omega
      have hb : i < b.length := by omega
      refine p1 ?_
      refine DRAW [] false (tk [0, 1, 2, 3, 4, 5, 6, 7, 8, 9, 11, 12, 13, 14, 15, 16, 17, 18, 19, 20]) (by kernel_rfl) ?_
      repeat refine ix (h := ?_)
      refine RGO 10 false [] (compare_rt a[i].name b[i].name) rfl rfl (by kernel_rfl) ?_
      refine RGO 21 false (al [22]) (compare_rt a[i].value b[i].value) rfl rfl (by kernel_rfl) ?_
      refine RGOB 23 true (tk [24]) (or_rt (cmpS a[i].name b[i].name) (cmpS a[i].value b[i].value)) rfl rfl ⟨⟨rfl, rfl⟩, trivial⟩ (by kernel_rfl) ?_
      refine V ?_
      have hc := cmpL1_or a[i] b[i]
      by_cases h : cmpL1 a[i] b[i] = 0
      · refine p2 ?_ (by rw [← hc, h]; rfl)
        exact ⟨i + 1, id, ⟨⟨rfl, rfl, rfl, succ_gi (by omega), trivial⟩, trivial, rfl⟩, ⟨hlt, fun j hj => by
          rcases Nat.lt_succ_iff_lt_or_eq.1 hj with h1 | h1
          · exact hgood j h1
          · subst h1
            rw [List.getElem?_eq_getElem ha, List.getElem?_eq_getElem hb, (cmpL1_is.eq0 _ _).1 h]⟩, by show min a.length b.length - (i + 1) < min a.length b.length - i; omega⟩
      · refine p1 ?_ (by rw [← hc]; simpa using h)
        refine ⟨?_, rfl⟩
        show gi _ = gi _
        rw [← hc, cmpF, lexC_at cmpL1 cmpL1_is.eq0 a b i a[i] b[i] hgood (List.getElem?_eq_getElem ha) (List.getElem?_eq_getElem hb) h]
    · refine p2 ?_
      refine V ?_
      refine GO (cmpInt_rt _ _) rfl ?_
      refine ⟨?_, rfl⟩
      show gi _ = gi _
      rw [hla, hlb, cmpF, lexC_len cmpL1 cmpL1_is.eq0 a b (fun j hj => hgood j (by omega))]

structure Hl (l : List Lb) : Prop where
  len : l.length ≤ 1000
  name : ∀ x ∈ l, x.name.size ≤ 1000
  value : ∀ x ∈ l, x.value.size ≤ 1000
end Go.Proofs.YtkoalgjlkcaonaaGreatDoor
