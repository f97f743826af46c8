/-
  The ghost machine: a region that draws its order: of two operations that may come up at once, one may be a call of values, or may read own things.
-/
import Derived.Test.YtpenlenmpigomaaGreatDoorK07
import Derived.Test.YtpenlenmpigomaaGreatDoorK08
import Derived.Test.YtpenlenmpigomaaGreatDoorK06
import Derived.Lib.SlicesCompact
import Derived.Shelf.Sort.Plain
import Derived.Shelf.Slices.CompactI
import Derived.Shelf.Slices.SearchI
import Derived.Shelf.Slices.In.SortNone
import Derived.Shelf.Slices.Empties
import Derived.Test.YtpenlenmpigomaaGreatDoorProg
import Derived.Sort.OwnSortedInts
namespace Go.GK
open Go.RowKit
section
variable {cx : Cx} {T : Post}
/-- .. that reads own things. -/
theorem Stp.read {ops : List Oper} {k : List It} {σs : Heap} {ρq : Env} {fuel : Nat} {listed : List Bool} {s : St} (i : Nat) {o : Oper} (hp : cx.pg.Ok) (hi : ops[i]? = some o) (hgd : gdOk ops s.ρ o.guard = true)
    (h : pv cx.pg s.ρ (s.σ ++ σs) o.op fun g => nf g fun g => dput cx.N s.ρ o.dst g fun ρ' => nfE (qput ρq o.dst g) fun ρq => RA cx T ops k σs ρq fuel (listed.set i true) ⟨ρ', s.σ, s.n⟩) : Stp cx T ops k σs ρq fuel listed s i o := by
  refine ⟨hi, hgd, fun n0 H0 S0 w0 h0 g0 H a w K Q' hg hs ha hsat hK => ?_⟩
  obtain ⟨u, g, hrun, hiu, hk⟩ := pv_sound hp hg ha.env hsat h
  simp only [nf_eq, nfE_eq] at hk
  have hlt := dput_lt hk
  refine upon_value_wp (u := u) (.inl (hrun w (Agr.refl hsat) o rfl)) ?_
  obtain ⟨ρ', ha', hra⟩ := ha.dput hiu hk
  exact hK H u g w s ρ' (Hid.le.refl H) hiu (hs.ρ _) ha' hlt hra
/-- .. that is a call of values. -/
theorem Stp.rt {ops : List Oper} {k : List It} {σs : Heap} {ρq : Env} {fuel : Nat} {listed : List Bool} {s : St} (i : Nat) {o : Oper} {f : FuncId} {cargs : List GV} {G : GV} (hr : Rt cx.pg f cargs G) (hi : ops[i]? = some o) (hk : callG cx.pg ops s.ρ o = some (f, cargs)) (hb : idbL 0 cargs = true)
    (h : dputV cx.N s.ρ o.dst G fun ρ' => nfE (qput ρq o.dst G) fun ρq => RA cx T ops k σs ρq fuel (listed.set i true) ⟨ρ', s.σ, s.n⟩) : Stp cx T ops k σs ρq fuel listed s i o := by
  obtain ⟨fo, args, ts, first, caps, gs, ho', hgd, hf, he, hargs⟩ := callG_spec hk
  refine ⟨hi, hgd, fun m0 H0 S0 w0 h0 g0 H a w K Q' hg hs ha _ hK => ?_⟩
  refine call_wp (cx := ⟨cx.pg, cx.N, m0, H0, S0, w0, h0, g0⟩) hr.ct hr.call id ho' hf he (by rw [renL_id]; exact hargs) (σc := []) trivial (by simp [hb, idbH, hids, distB]) (by simp) hg hs ha.env fun H'' u g σ' n' w' hle hiu hQ hsim => ?_
  obtain ⟨⟨rfl, hidb⟩, rfl, rfl⟩ := hQ
  have e1 : renH (sh id 0 s.n) [] ++ hrest (hids id []) s.σ = s.σ := by rw [show hids id [] = [] from rfl, hrest_nil]; rfl
  rw [ren_none _ hidb] at hiu
  rw [e1] at hsim
  rw [dputV_eq] at h
  simp only [nfE_eq] at h
  have hlt := dput_lt h
  obtain ⟨ρ', ha', hra⟩ := (ha.mono hle).dput hiu h
  exact hK H'' u _ w' ⟨ρ', _, _⟩ ρ' hle hiu (hsim ρ') ha' hlt hra
end
end Go.GK
/-
  The ghost machine: an own row is written no more, in a region that draws.
-/
namespace Go.GK
open Go.RowKit
section
variable {cx : Cx} {T : Post}
theorem Sim.freeze {s : St} {H : Hid} {a : Act} {w : World} (id : Nat) {ty sz : Nat} {rows : List (List GV)} (hl : hlook s.σ id = some (.row ty sz rows)) (hg : GlOk cx.pg H) (hs : Sim cx H s w) (ha : ActOk cx H s.ρ a) :
    ∃ ro' : Nat → Option Obj, GlOk cx.pg { H with ro := ro' } ∧ Sim cx { H with ro := ro' } ⟨frzE id sz rows s.ρ, frzH id sz rows (hdel s.σ id), s.n⟩ w ∧ ActOk cx { H with ro := ro' } (frzE id sz rows s.ρ) a := by
  obtain ⟨l1, l2, e1, e2, _⟩ := hlook_split hl
  have hmem := hlook_mem hl
  obtain ⟨xs, hown, hrow⟩ := hs.sat.holds _ hmem
  let ro' : Nat → Option Obj := fun b => if (H.sv id).ownBlock = some b then w.heap[b]? else H.ro b
  have hfree : ∀ b, (H.sv id).ownBlock = some b → H.ro b = none := fun b hb => hs.sat.free b (List.mem_flatMap.2 ⟨_, hmem, by simp [blocks, hb]⟩)
  have hro : ∀ b o, H.ro b = some o → ro' b = some o := by
    intro b o ho
    show (if _ then _ else _) = _
    rw [if_neg (fun hb => by rw [hfree b hb] at ho; cases ho)]
    exact ho
  let H' : Hid := { H with ro := ro' }
  have hle : H.le H' := ⟨Nat.le_refl _, hro, fun _ _ => rfl, fun _ _ => rfl⟩
  have hsl : IsR ro' (.sl sz rows) (H.sv id) := hrow.sl hro hown (fun b hb => by show (if _ then _ else _) = _; rw [if_pos hb])
  have hfz : ∀ {g : GV} {u : Value}, Is H g u → Is H' (frz id sz rows g) u := fun hi => Is.frz (H' := H') hro rfl rfl rfl hsl hi
  have hfr := hs.fr
  have hnd := hs.sat.nodup
  have hbl : blks H' (frzH id sz rows (hdel s.σ id)) = blks H (l1 ++ l2) := by rw [e2]; exact frzH_blks rfl rfl _
  rw [e1, blks_append, blks_cons] at hnd
  have n1 := List.nodup_append.1 hnd
  have n2 := List.nodup_append.1 n1.2.1
  have hin : ∀ b ∈ blks H (l1 ++ l2), b ∈ blks H s.σ := fun b hb => by
    rw [e1, blks_append, blks_cons]
    rw [blks_append] at hb
    rcases List.mem_append.1 hb with h1 | h1 <;> simp [h1]
  have hnin : ∀ b ∈ blks H (l1 ++ l2), (H.sv id).ownBlock ≠ some b := fun b hb hc => by
    have hc' : b ∈ blocks H (id, .row ty sz rows) := by simp [blocks, hc]
    rw [blks_append] at hb
    rcases List.mem_append.1 hb with h1 | h1
    · exact n1.2.2 b h1 b (by simp [hc']) rfl
    · exact n2.2.2 b hc' b h1 rfl
  refine ⟨ro', fun g gv hgv => (hg g gv hgv).mono hro, ⟨hs.n, ⟨fun b o ho => ?_, fun x hx => ?_, ?_, fun b hb => ?_, fun x hx => ?_⟩, ?_⟩, ⟨fun t g hlk => ?_, ha.size, ha.defers⟩⟩
  · have ho' : (if (H.sv id).ownBlock = some b then w.heap[b]? else H.ro b) = some o := ho
    split at ho'
    · exact ho'
    · exact hs.sat.ro b o ho'
  · obtain ⟨y, hy, rfl⟩ := frzH_mem hx
    rw [e2] at hy
    have hy' : y ∈ s.σ := by
      rw [e1]
      rcases List.mem_append.1 hy with h1 | h1 <;> simp [h1]
    have hh := hs.sat.holds y hy'
    obtain ⟨j, r⟩ := y
    cases r with
    | blk ty cs =>
      obtain ⟨us, hw, hlen, hi⟩ := hh
      refine ⟨us, hw, by rw [frzL_len]; exact hlen, fun j g hj => ?_⟩
      rw [frzL_get] at hj
      cases hc : cs[j]? with
      | none => rw [hc] at hj; cases hj
      | some x => rw [hc] at hj; simp at hj; subst hj; exact hfz (hi j x hc)
    | row ty z rs => obtain ⟨ys, h1, h2⟩ := hh; exact ⟨ys, h1, h2.mono hro⟩
    | ob o => exact hh
    | ln z n => exact hh
    | sub i z lo n => exact hh
    | mp kd es =>
      obtain ⟨b, arr, clock, h1, h2, h3⟩ := hh
      exact ⟨b, arr, clock, h1, h2, h3.frz hfz⟩
    | mr kd es left cur =>
      obtain ⟨b, arr, clock, seen, h1, h2, h3, h4, h5⟩ := hh
      exact ⟨b, arr, clock, seen, h1, h2, h3, h4.frz hfz, h5⟩
    | itr m => exact hh
    | me kd es k st =>
      obtain ⟨h0, b, arr, clock, h1, h2, h3, h4⟩ := hh
      exact ⟨h0, b, arr, clock, h1, h2, h3.frz hfz, h4⟩
    | ab A => exact A.mono _ _ _ _ _ hro hh
    | mre kd es left cur k st =>
      obtain ⟨h0, b, arr, clock, seen, h1, h2, h3, h4, h5⟩ := hh
      exact ⟨h0, b, arr, clock, seen, h1, h2, h3, h4.frz hfz, h5⟩
  · rw [hbl, blks_append]
    exact List.nodup_append.2 ⟨n1.1, n2.2.1, fun b hb c hc e => n1.2.2 b hb c (by simp [hc]) e⟩
  · rw [hbl] at hb
    show (if _ then _ else _) = _
    rw [if_neg (hnin b hb)]
    exact hs.sat.free b (hin b hb)
  · obtain ⟨y, hy, rfl⟩ := frzH_mem hx
    rw [e2] at hy
    refine hs.sat.ids y ?_
    rw [e1]
    rcases List.mem_append.1 hy with h1 | h1 <;> simp [h1]
  · refine ⟨hfr.os, hfr.tape, hfr.output, hfr.size, hfr.keep, fun b hb => ?_, fun b h1 h2 => ?_, hfr.le.trans hle⟩
    · rw [hbl] at hb
      exact hfr.own b (hin b hb)
    · have h2' : (if (H.sv id).ownBlock = some b then w.heap[b]? else H.ro b) ≠ none := h2
      split at h2'
      · rename_i hb
        exact hfr.own b (List.mem_flatMap.2 ⟨_, hmem, by simp [blocks, hb]⟩)
      · exact hfr.fro b h1 h2'
  · rw [frzE_look] at hlk
    cases hc : look s.ρ t with
    | none => rw [hc] at hlk; cases hlk
    | some x => rw [hc] at hlk; simp at hlk; subst hlk; exact hfz (ha.env t x hc)
/-- .. in a region that draws. -/
theorem RA.freeze {ops : List Oper} {k : List It} {σs : Heap} {ρq : Env} {fuel : Nat} {listed : List Bool} {s : St} (id : Nat) {ty sz : Nat} {rows : List (List GV)} (hl : hlook s.σ id = some (.row ty sz rows))
    (h : nfH (frzH id sz rows (hdel s.σ id)) fun σ => nfE (frzE id sz rows s.ρ) fun ρ => RA cx T ops k σs ρq fuel listed ⟨ρ, σ, s.n⟩) : RA cx T ops k σs ρq fuel listed s := by
  rw [nfH_eq, nfE_eq] at h
  intro n0 H0 S0 w0 h0 g0 hσ hap hfree hlink H a w hs ha hq
  have hg : GlOk cx.pg H := cx.g0.mono (hlink H s w hs).fr.le
  obtain ⟨ro', _, hs', ha'⟩ := Sim.freeze (cx := ⟨cx.pg, cx.N, n0, H0, S0, w0, h0, g0⟩) id hl hg hs ⟨ha.env, ha.size, ha.defers⟩
  exact h n0 H0 S0 w0 h0 g0 hσ hap hfree hlink { H with ro := ro' } a w hs' ⟨ha'.env, ha'.size, ha'.defers⟩ hq
end
end Go.GK
/-
  The ghost machine: a region that draws its order: three operations may come up at once.
-/
namespace Go.GK
open Go.RowKit
section
variable {cx : Cx} {T : Post}
theorem RA.three {ops : List Oper} {k : List It} {σs : Heap} {ρq : Env} {fuel : Nat} {listed : List Bool} {s : St} (i j l : Nat) {oi oj ol : Oper} (hr : Region.ready .any ops.toArray listed.toArray = [i, j, l])
    (hi : Stp cx T ops k σs ρq fuel listed s i oi) (hj : Stp cx T ops k σs ρq fuel listed s j oj) (hl : Stp cx T ops k σs ρq fuel listed s l ol) : RA cx T ops k σs ρq (fuel + 1) listed s := by
  have one : ∀ {q : Nat} {o : Oper}, Stp cx T ops k σs ρq fuel listed s q o → ∀ (n0 : Nat) (H0 : Hid) (S0 : List Nat) (w0 : World) (h0 : H0.n = n0) (g0 : GlOk cx.pg H0), Sat H0 σs w0 → (∀ b ∈ blks H0 σs, b ∉ S0) → (∀ b ∈ S0, H0.ro b = none) →
      (∀ H s' w', Sim ⟨cx.pg, cx.N, n0, H0, S0, w0, h0, g0⟩ H s' w' → Sim cx H ⟨s'.ρ, s'.σ ++ σs, s'.n⟩ w') →
      ∀ H a w, Sim ⟨cx.pg, cx.N, n0, H0, S0, w0, h0, g0⟩ H s w → ActOk cx H s.ρ a → EnvOk (H.at H0.ro) ρq a →
      wpOp cx.pg.P ops.toArray (cont cx.pg.P (post cx T) k) q (fun a w => Held S0 w0 w ∧ wpAnyH cx.pg.P .any ops.toArray (cont cx.pg.P (post cx T) k) (Held S0 w0) fuel (listed.toArray.setIfInBounds q true) a w) a w := by
    intro q o hst n0 H0 S0 w0 h0 g0 hσ hap hfree hlink H a w hs ha hq
    obtain ⟨hq', hgd, h⟩ := hst
    unfold wpOp
    have hi' : ops.toArray[q]? = some o := by simpa using hq'
    rw [hi']
    simp only
    have hw := gdOk_wanted (o := o) ha.env hgd
    rw [if_pos hw]
    refine .inl (h n0 H0 S0 w0 h0 g0 H a w _ _ (g0.mono hs.fr.le) hs ha (hlink H s w hs).sat fun H' u g w' s' ρ' hle hi hs' ha' hd hra => ?_)
    rw [set_list]
    refine ⟨hs'.keeps, hra n0 H0 S0 w0 h0 g0 hσ hap hfree hlink H' (a.put o.dst u) w' hs' ha' ?_⟩
    exact EnvOk.at_put (H := H) hq hle (fun d hdd => by rw [ha.size]; exact hd d hdd) hi
  intro n0 H0 S0 w0 h0 g0 hσ hap hfree hlink H a w hs ha hq
  refine wpAnyH_all hr (by simp) (fun q hq' => ?_)
  rcases List.mem_cons.1 hq' with rfl | hq'
  · exact one hi n0 H0 S0 w0 h0 g0 hσ hap hfree hlink H a w hs ha hq
  rcases List.mem_cons.1 hq' with rfl | hq'
  · exact one hj n0 H0 S0 w0 h0 g0 hσ hap hfree hlink H a w hs ha hq
  · obtain rfl := List.mem_singleton.1 hq'
    exact one hl n0 H0 S0 w0 h0 g0 hσ hap hfree hlink H a w hs ha hq
end
end Go.GK
/-
  The ghost machine: cells of an own block that are told otherwise (a nil slice as an empty one).
-/
namespace Go.GK
open Go.RowKit
inductive SubV : List GV → List GV → Prop
  | nil : SubV [] []
  | cons {x y : GV} {xs ys : List GV} (h : Sub x y) (t : SubV xs ys) : SubV (x :: xs) (y :: ys)
theorem SubV.is {H : Hid} {F : Nat → Value} : ∀ {xs ys : List GV}, SubV xs ys → (∀ j g, ys[j]? = some g → Is H g (F j)) → xs.length = ys.length ∧ ∀ j g, xs[j]? = some g → Is H g (F j)
  | [], [], _, _ => ⟨_root_.rfl, fun j x h => by simp at h⟩
  | _ :: _, _ :: _, .cons h t, hF => by
    obtain ⟨h1, h2⟩ := SubV.is (F := fun j => F (j + 1)) t fun j g hj => hF (j + 1) g (by simpa using hj)
    refine ⟨by simp [h1], fun j x hx => ?_⟩
    cases j with
    | zero => simp at hx; subst hx; exact h (hF 0 _ (by simp))
    | succ j => exact h2 j x (by simpa using hx)
section
variable {cx : Cx} {T : Post}
/-- Cells of an own block are told otherwise. -/
theorem JK.subBlk {k : List It} {s : St} (id : Nat) {ty : Nat} {cs : List GV} (cs' : List GV) (hl : hlook s.σ id = some (.blk ty cs)) (he : SubV cs' cs) (h : nfH (hset s.σ id (.blk ty cs')) fun σ => JK cx T k ⟨s.ρ, σ, s.n⟩) : JK cx T k s := by
  rw [nfH_eq] at h
  refine JK.upd ⟨s.ρ, hset s.σ id (.blk ty cs'), s.n⟩ (fun H a w hg hs ha => ⟨H, hg, ?_, ha⟩) h
  obtain ⟨us', hw, hlen, his⟩ := hs.sat.holds _ (hlook_mem hl)
  obtain ⟨e4, e5⟩ := he.is (F := fun j => us'.getD j undef) his
  exact hs.put (y := .blk ty cs') (w' := w) hl rfl rfl rfl rfl (Nat.le_refl _) (fun _ _ _ => rfl) ⟨us', hw, by rw [e4]; exact hlen, e5⟩ s.ρ
/-- Of two operations that may come up at once, one may be a call that has own things. -/
theorem Stp.hf {ops : List Oper} {k : List It} {σs : Heap} {ρq : Env} {fuel : Nat} {listed : List Bool} {s : St} (i : Nat) {o : Oper} {f : FuncId} {m : Nat} {cargs gs : List GV} {σc : Heap} {Q : GV → Heap → Nat → Prop} (hr : Hf cx.pg f m cargs σc Q) (r : Nat → Nat) (hi : ops[i]? = some o) (hk : callG cx.pg ops s.ρ o = some (f, gs)) (hargs : gs = renL r cargs) (hσ : leσ r σc s.σ)
    (chk : (idbL m cargs && idbH m σc && distB (hids r σc)) = true) (hrn : ∀ i, i < m → r i < s.n)
    (h : ∀ g σ' n', Q g σ' n' → nf (ren (sh r m s.n) g) fun g => nfH (renH (sh r m s.n) σ' ++ hrest (hids r σc) s.σ) fun σ => nfN (s.n + (n' - m)) fun n => dputV cx.N s.ρ o.dst g fun ρ' => nfE (qput ρq o.dst g) fun ρq => RA cx T ops k σs ρq fuel (listed.set i true) ⟨ρ', σ, n⟩) : Stp cx T ops k σs ρq fuel listed s i o := by
  obtain ⟨fo, args, ts, first, caps, gs', ho', hgd, hf, he, hargs'⟩ := callG_spec hk
  refine ⟨hi, hgd, fun m0 H0 S0 w0 h0 g0 H a w K Q' hg hs ha _ hK => ?_⟩
  refine call_wp (cx := ⟨cx.pg, cx.N, m0, H0, S0, w0, h0, g0⟩) hr.ct hr.call r ho' hf he (hargs'.trans hargs) (σc := σc) hσ chk hrn hg hs ha.env fun H'' u g σ' n' w' hle hiu hQ hsim => ?_
  have h := h g σ' n' hQ
  simp only [nf_eq, nfH_eq, nfN_eq] at h
  rw [dputV_eq] at h
  simp only [nfE_eq] at h
  have hlt := dput_lt h
  obtain ⟨ρ', ha', hra⟩ := (ha.mono hle).dput hiu h
  exact hK H'' u _ w' ⟨ρ', _, _⟩ ρ' hle hiu (hsim ρ') ha' hlt hra
end
end Go.GK
/-
  The ghost machine: own maps of own things, in a number that is not fixed: one is taken out, and given back; all are written no more.
-/
namespace Go.GK
open Go.RowKit

/-- A family of own things. -/
structure Fam (α : Type) where
  D : α → List Nat → Abs
  fpE : ∀ a f, (D a f).fp = f
  ow : ∀ a f ro b v w, (D a f).P ro b v w → GK.ow v = true
/-- Some of a family, by their handles. -/
def bagP {α : Type} (F : Fam α) (ro : Nat → Option Obj) (w : World) : List (α × Value) → List Nat → Prop
  | [], f => f = []
  | (a, u) :: r, f => ∃ b f1 f2, f = f1 ++ f2 ∧ (F.D a f1).P ro b u w ∧ bagP F ro w r f2
section
variable {α : Type} {F : Fam α} {ro ro' : Nat → Option Obj} {w w' : World}
theorem bagP_lt : ∀ {l : List (α × Value)} {f : List Nat}, bagP F ro w l f → ∀ c ∈ f, c < w.heap.size
  | [], f, h, c, hc => by rw [show f = [] from h] at hc; cases hc
  | (a, u) :: r, f, h, c, hc => by
    obtain ⟨b, f1, f2, rfl, h1, h2⟩ := h
    rcases List.mem_append.1 hc with hc | hc
    · exact (F.D a f1).ex _ _ _ _ h1 c (by rw [F.fpE]; exact hc)
    · exact bagP_lt h2 c hc
theorem bagP_congr : ∀ {l : List (α × Value)} {f : List Nat}, (∀ c ∈ f, w'.heap[c]? = w.heap[c]?) → bagP F ro w l f → bagP F ro w' l f
  | [], f, _, h => h
  | (a, u) :: r, f, hc, h => by
    obtain ⟨b, f1, f2, rfl, h1, h2⟩ := h
    exact ⟨b, f1, f2, rfl, (F.D a f1).congr _ _ _ _ _ (fun c h => hc c (List.mem_append.2 (.inl (by rw [F.fpE] at h; exact h)))) h1, bagP_congr (fun c h => hc c (List.mem_append.2 (.inr h))) h2⟩
theorem bagP_mono (hro : ∀ c o, ro c = some o → ro' c = some o) : ∀ {l : List (α × Value)} {f : List Nat}, bagP F ro w l f → bagP F ro' w l f
  | [], _, h => h
  | (a, u) :: r, f, h => by
    obtain ⟨b, f1, f2, rfl, h1, h2⟩ := h
    exact ⟨b, f1, f2, rfl, (F.D a f1).mono _ _ _ _ _ hro h1, bagP_mono hro h2⟩
theorem bagP_split {a : α} {u : Value} {l2 : List (α × Value)} : ∀ {l1 : List (α × Value)} {f : List Nat}, bagP F ro w (l1 ++ (a, u) :: l2) f → ∃ b f1 f2, f.Perm (f1 ++ f2) ∧ (F.D a f1).P ro b u w ∧ bagP F ro w (l1 ++ l2) f2
  | [], f, h => by
    obtain ⟨b, f1, f2, rfl, h1, h2⟩ := h
    exact ⟨b, f1, f2, .refl _, h1, h2⟩
  | (a', u') :: r, f, h => by
    obtain ⟨b', g1, g2, rfl, h1, h2⟩ := h
    obtain ⟨b, f1, f2, hp, h3, h4⟩ := bagP_split (l1 := r) h2
    refine ⟨b, f1, g1 ++ f2, ?_, h3, b', g1, f2, rfl, h1, h4⟩
    refine (hp.append_left g1).trans ?_
    rw [← List.append_assoc, ← List.append_assoc]
    exact List.perm_append_comm.append_right f2
theorem bagP_join {a : α} {u : Value} {b : Nat} {f1 : List Nat} {l2 : List (α × Value)} (h1 : (F.D a f1).P ro b u w) : ∀ {l1 : List (α × Value)} {f2 : List Nat}, bagP F ro w (l1 ++ l2) f2 → ∃ f, f.Perm (f1 ++ f2) ∧ bagP F ro w (l1 ++ (a, u) :: l2) f
  | [], f2, h => ⟨f1 ++ f2, .refl _, b, f1, f2, rfl, h1, h⟩
  | (a', u') :: r, f2, h => by
    obtain ⟨b', g1, g2, rfl, h3, h4⟩ := h
    obtain ⟨f, hp, h5⟩ := bagP_join h1 (l1 := r) h4
    refine ⟨g1 ++ f, ?_, b', g1, f, rfl, h3, h5⟩
    refine (hp.append_left g1).trans ?_
    rw [← List.append_assoc, ← List.append_assoc]
    exact List.perm_append_comm.append_right g2
end
def bag {α : Type} (F : Fam α) (l : List (α × Value)) (f : List Nat) : Abs where
  P := fun ro _ _ w => bagP F ro w l f
  fp := f
  ex := fun _ _ _ _ h => bagP_lt h
  congr := fun _ _ _ _ _ hc h => bagP_congr hc h
  mono := fun _ _ _ _ _ hro h => bagP_mono hro h

/-- A map's entries, as they lie. -/
def MapV (kd : Option IntKind) (kvs : List (Value × Value)) (arr : Array MapEntry) (clock : Nat) : Prop :=
  (arr.toList.map fun e => (e.key, e.val)) = kvs ∧ (∀ e ∈ arr.toList, sortB kd e.key = true) ∧ MapKept.Stamped arr clock
abbrev er {α : Type} (x : Value × α × Value) : Value × α := (x.1, x.2.1)
abbrev kv {α : Type} (x : Value × α × Value) : Value × Value := (x.1, x.2.2)
abbrev mE {α : Type} (l : List (Value × α × Value)) : List (Value × GV) := l.map fun x => (x.1, GV.v x.2.2)
theorem esIs_kv {α : Type} {H : Hid} : ∀ {l : List (Value × α × Value)} {es : List MapEntry}, (es.map fun e => (e.key, e.val)) = l.map kv → esIs H (mE l) es
  | [], [], _ => trivial
  | x :: r, e :: s, h => by
    simp only [List.map_cons, List.cons.injEq, Prod.mk.injEq] at h
    exact ⟨h.1.1, by rw [h.1.2]; exact .ro (.v _), esIs_kv h.2⟩
  | [], _ :: _, h => by simp at h
  | _ :: _, [], h => by simp at h
theorem kv_esIs {α : Type} {H : Hid} : ∀ {l : List (Value × α × Value)} {es : List MapEntry}, esIs H (mE l) es → (es.map fun e => (e.key, e.val)) = l.map kv
  | [], [], _ => rfl
  | x :: r, e :: s, h => by
    obtain ⟨h1, h2, h3⟩ := h
    simp only [List.map_cons, List.cons.injEq, Prod.mk.injEq]
    exact ⟨⟨h1, h2.inv_v⟩, kv_esIs h3⟩
  | [], _ :: _, h => h.elim
  | _ :: _, [], h => h.elim
theorem esIs_app {H : Hid} : ∀ {a b : List (Value × GV)} {es : List MapEntry}, esIs H (a ++ b) es ↔ ∃ e1 e2, es = e1 ++ e2 ∧ esIs H a e1 ∧ esIs H b e2
  | [], b, es => ⟨fun h => ⟨[], es, rfl, trivial, h⟩, fun ⟨e1, e2, he, h1, h2⟩ => by
    cases e1 with
    | nil => rw [he]; exact h2
    | cons _ _ => exact h1.elim⟩
  | (k, g) :: r, b, [] => ⟨fun h => h.elim, fun ⟨e1, e2, he, h1, h2⟩ => by
    cases e1 with
    | nil => exact h1.elim
    | cons _ _ => cases he⟩
  | (k, g) :: r, b, e :: s => by
    constructor
    · rintro ⟨h1, h2, h3⟩
      obtain ⟨e1, e2, rfl, h4, h5⟩ := esIs_app.1 h3
      exact ⟨e :: e1, e2, rfl, ⟨h1, h2, h4⟩, h5⟩
    · rintro ⟨e1, e2, he, h1, h2⟩
      cases e1 with
      | nil => exact h1.elim
      | cons x y =>
        cases he
        exact ⟨h1.1, h1.2.1, esIs_app.2 ⟨y, e2, rfl, h1.2.2, h2⟩⟩
/-- An own map whose entries are own things of a family. -/
def mapP {α : Type} (F : Fam α) (kd : Option IntKind) (l : List (Value × α)) (f : List Nat) (ro : Nat → Option Obj) (v : Value) (w : World) : Prop :=
  ∃ (l' : List (Value × α × Value)) (b : Nat) (arr : Array MapEntry) (clock : Nat) (f2 : List Nat), l'.map er = l ∧ v = .map (some b) ∧ f = b :: f2 ∧ w.heap[b]? = some (.map arr clock) ∧ MapV kd (l'.map kv) arr clock ∧ bagP F ro w (l'.map (·.2)) f2
def mapA {α : Type} (F : Fam α) (kd : Option IntKind) (l : List (Value × α)) (f : List Nat) : Abs where
  P := fun ro _ v w => mapP F kd l f ro v w
  fp := f
  ex := fun _ _ _ w h c hc => by
    obtain ⟨l', b, arr, clock, f2, _, _, rfl, h1, _, h2⟩ := h
    rcases List.mem_cons.1 hc with rfl | hc
    · rcases Nat.lt_or_ge c w.heap.size with h | h
      · exact h
      · rw [Array.getElem?_eq_none h] at h1; cases h1
    · exact bagP_lt h2 c hc
  congr := fun _ _ _ _ _ hc h => by
    obtain ⟨l', b, arr, clock, f2, e1, e2, rfl, h1, h3, h2⟩ := h
    exact ⟨l', b, arr, clock, f2, e1, e2, rfl, by rw [hc b (by simp)]; exact h1, h3, bagP_congr (fun c h => hc c (by simp [h])) h2⟩
  mono := fun _ _ _ _ _ hro h => by
    obtain ⟨l', b, arr, clock, f2, e1, e2, e3, h1, h3, h2⟩ := h
    exact ⟨l', b, arr, clock, f2, e1, e2, e3, h1, h3, bagP_mono hro h2⟩
def mapF {α : Type} (F : Fam α) (kd : Option IntKind) : Fam (List (Value × α)) where
  D := mapA F kd
  fpE := fun _ _ => rfl
  ow := fun a f ro b v w h => by
    obtain ⟨l', b, arr, clock, f2, _, rfl, _⟩ := h
    rfl
section
variable {cx : Cx} {T : Post} {k : List It} {s : St}
/-- Some own things instead of others, over the same blocks. -/
theorem Sim.swap {H : Hid} {w : World} (hs : Sim cx H s w) (H' : Hid) (hle : H.le H') (hro : H'.ro = H.ro) {old keep : Heap} (new : Heap) (hp : s.σ.Perm (old ++ keep)) (hh : ∀ x ∈ new, holds H' w x) (hid : ∀ x ∈ new, x.1 < H'.n) (hb : (blks H' new).Perm (blks H old)) (ρ' : Env) : Sim cx H' ⟨ρ', new ++ keep, H'.n⟩ w := by
  have hk : ∀ x ∈ keep, x ∈ s.σ := fun x hx => hp.mem_iff.2 (by simp [hx])
  have hkb : blks H' keep = blks H keep := blks_le hle fun x hx => hs.sat.ids x (hk x hx)
  have hall : (blks H' (new ++ keep)).Perm (blks H s.σ) := by
    rw [blks_append, hkb]
    refine (hb.append_right _).trans ?_
    rw [← blks_append]
    exact (List.Perm.flatMap_right (blocks H) hp).symm
  refine ⟨rfl, ⟨?_, fun x hx => ?_, hall.nodup_iff.2 hs.sat.nodup, fun b hb => ?_, fun x hx => ?_⟩, ?_⟩
  · rw [hro]; exact hs.sat.ro
  · rcases List.mem_append.1 hx with hx | hx
    · exact hh x hx
    · exact holds_le hle (hs.sat.ids x (hk x hx)) (hs.sat.holds x (hk x hx))
  · rw [hro]; exact hs.sat.free b (hall.mem_iff.1 hb)
  · rcases List.mem_append.1 hx with hx | hx
    · exact hid x hx
    · exact Nat.lt_of_lt_of_le (hs.sat.ids x (hk x hx)) hle.n
  · have hf := hs.fr
    exact ⟨hf.os, hf.tape, hf.output, hf.size, hf.keep, fun c hc => hf.own c (hall.mem_iff.1 hc), fun b h1 h2 => hf.fro b h1 (by rw [hro] at h2; exact h2), hf.le.trans hle⟩
theorem hlook_perm {σ : Heap} {id : Nat} {x : Res} (h : hlook σ id = some x) : σ.Perm ((id, x) :: hdel σ id) := by
  obtain ⟨l1, l2, e1, e2, _⟩ := hlook_split h
  rw [e1, ← e1, e2, e1]
  exact List.perm_middle
/-- Hidden things, and some more. -/
def Hid.plus (H : Hid) (n : Nat) (bl : Nat → Nat) (sv : Nat → Value) : Hid := ⟨H.ro, fun i => if i < H.n then H.bl i else bl (i - H.n), fun i => if i < H.n then H.sv i else sv (i - H.n), H.n + n⟩
theorem Hid.plus_le (H : Hid) (n : Nat) (bl : Nat → Nat) (sv : Nat → Value) : H.le (H.plus n bl sv) := ⟨by show H.n ≤ H.n + n; omega, fun _ _ h => h, fun i hi => if_pos hi, fun i hi => if_pos hi⟩
theorem Hid.plus_bl (H : Hid) (n : Nat) (bl : Nat → Nat) (sv : Nat → Value) (i : Nat) : (H.plus n bl sv).bl (H.n + i) = bl i := by
  show (if H.n + i < H.n then _ else bl (H.n + i - H.n)) = _
  rw [if_neg (by omega), Nat.add_sub_cancel_left]
theorem Hid.plus_sv (H : Hid) (n : Nat) (bl : Nat → Nat) (sv : Nat → Value) (i : Nat) : (H.plus n bl sv).sv (H.n + i) = sv i := by
  show (if H.n + i < H.n then _ else sv (H.n + i - H.n)) = _
  rw [if_neg (by omega), Nat.add_sub_cancel_left]
/-- A map is opened: its entries as they lie, and the bag of what they are. -/
theorem JK.mopen {α : Type} {F : Fam α} {kd : Option IntKind} {l : List (Value × α)} {f : List Nat} (X : Nat) (hl : hlook s.σ X = some (.ab (mapA F kd l f)))
    (h : ∀ (l' : List (Value × α × Value)) (f2 : List Nat), l'.map er = l → nfN s.n fun R => nfN (s.n + 1) fun n => nfH (hdel s.σ X) fun σ => JK cx T k ⟨s.ρ, (X, .mp kd (mE l')) :: (R, .ab (bag F (l'.map (·.2)) f2)) :: σ, n⟩) : JK cx T k s := by
  intro H a w hg hs ha
  obtain ⟨l', b, arr, clock, f2, e1, e2, rfl, h1, h3, h2⟩ := hs.sat.holds _ (hlook_mem hl)
  have h := h l' f2 e1
  simp only [nfN_eq, nfH_eq] at h
  have hX : X < H.n := hs.sat.ids _ (hlook_mem hl)
  have hle := H.plus_le 1 (fun _ => 0) (fun _ => undef)
  have hsv := hle.sv X hX
  have hn := hs.n
  have hnn : (H.plus 1 (fun _ => 0) (fun _ => undef)).n = s.n + 1 := by rw [← hn]; rfl
  have hrr : (H.plus 1 (fun _ => 0) (fun _ => undef)).ro = H.ro := rfl
  generalize H.plus 1 (fun _ => 0) (fun _ => undef) = H' at hle hsv hnn hrr
  have hsw := Sim.swap hs H' hle hrr [(X, .mp kd (mE l')), (s.n, .ab (bag F (l'.map (·.2)) f2))] (old := [(X, .ab (mapA F kd l (b :: f2)))]) (hlook_perm hl) ?_ ?_ ?_ s.ρ
  · rw [hnn] at hsw
    exact h H' a w (fun g gv hgv => (hg g gv hgv).mono (fun _ _ h => by rw [hrr]; exact h)) hsw (ha.mono hle)
  · intro x hx
    rcases List.mem_cons.1 hx with rfl | hx
    · exact ⟨b, arr, clock, hsv.trans e2, h1, esIs_kv h3.1, h3.2.1, h3.2.2⟩
    · rw [List.mem_singleton.1 hx]
      show bagP F H'.ro w _ f2
      rw [hrr]
      exact h2
  · intro x hx
    rcases List.mem_cons.1 hx with rfl | hx
    · exact Nat.lt_of_lt_of_le hX hle.n
    · rw [List.mem_singleton.1 hx]
      show s.n < H'.n
      omega
  · have hbv : mapBlk (H'.sv X) = [b] := by rw [hsv, e2]; rfl
    show (mapBlk (H'.sv X) ++ (f2 ++ [])).Perm ((b :: f2) ++ [])
    rw [hbv]
    simp
/-- .. and shut. -/
theorem JK.mclose {α : Type} {F : Fam α} {kd : Option IntKind} {l' : List (Value × α × Value)} {f2 : List Nat} (X R : Nat) (hl : hlook s.σ X = some (.mp kd (mE l'))) (hr : hlook (hdel s.σ X) R = some (.ab (bag F (l'.map (·.2)) f2)))
    (h : ∀ (f : List Nat), nfH (hdel (hdel s.σ X) R) fun σ => JK cx T k ⟨s.ρ, (X, .ab (mapA F kd (l'.map er) f)) :: σ, s.n⟩) : JK cx T k s := by
  intro H a w hg hs ha
  have hp : s.σ.Perm ([(X, .mp kd (mE l')), (R, .ab (bag F (l'.map (·.2)) f2))] ++ hdel (hdel s.σ X) R) := (hlook_perm hl).trans ((hlook_perm hr).cons _)
  obtain ⟨b, arr, clock, e2, h1, hm⟩ := hs.sat.holds _ (hlook_mem hl)
  have hb2 : bagP F H.ro w (l'.map (·.2)) f2 := hs.sat.holds _ (hp.mem_iff.2 (by simp : (R, Res.ab (bag F (l'.map (·.2)) f2)) ∈ _))
  have h := h (b :: f2)
  simp only [nfH_eq] at h
  have hX : X < H.n := hs.sat.ids _ (hlook_mem hl)
  have hn := hs.n
  have hsw := Sim.swap hs H (Hid.le.refl H) rfl [(X, .ab (mapA F kd (l'.map er) (b :: f2)))] hp ?_ ?_ ?_ s.ρ
  · rw [hn] at hsw
    exact h H a w hg hsw ha
  · intro x hx
    rw [List.mem_singleton.1 hx]
    exact ⟨l', b, arr, clock, f2, rfl, e2, rfl, h1, ⟨kv_esIs hm.is, hm.sorts, hm.st⟩, hb2⟩
  · intro x hx
    rw [List.mem_singleton.1 hx]
    exact hX
  · have hbv : mapBlk (H.sv X) = [b] := by rw [e2]; rfl
    show ((b :: f2) ++ []).Perm (mapBlk (H.sv X) ++ (f2 ++ []))
    rw [hbv]
    simp
/-- An own map of nothing yet. -/
theorem JK.mnew {α : Type} (F : Fam α) {kd : Option IntKind} (X : Nat) (hl : hlook s.σ X = some (.mp kd []))
    (h : ∀ (f : List Nat), nfH (hdel s.σ X) fun σ => JK cx T k ⟨s.ρ, (X, .ab (mapA F kd [] f)) :: σ, s.n⟩) : JK cx T k s := by
  intro H a w hg hs ha
  obtain ⟨b, arr, clock, e2, h1, hm⟩ := hs.sat.holds _ (hlook_mem hl)
  have h := h [b]
  simp only [nfH_eq] at h
  have hX : X < H.n := hs.sat.ids _ (hlook_mem hl)
  have hn := hs.n
  have hsw := Sim.swap hs H (Hid.le.refl H) rfl [(X, .ab (mapA F kd [] [b]))] (old := [(X, .mp kd [])]) (hlook_perm hl) ?_ ?_ ?_ s.ρ
  · rw [hn] at hsw
    exact h H a w hg hsw ha
  · intro x hx
    rw [List.mem_singleton.1 hx]
    exact ⟨[], b, arr, clock, [], rfl, e2, rfl, h1, ⟨kv_esIs (l := ([] : List (Value × α × Value))) hm.is, hm.sorts, hm.st⟩, rfl⟩
  · intro x hx
    rw [List.mem_singleton.1 hx]
    exact hX
  · have hbv : mapBlk (H.sv X) = [b] := by rw [e2]; rfl
    show ([b] ++ []).Perm (mapBlk (H.sv X) ++ [])
    rw [hbv]
/-- One entry is taken out. -/
theorem JK.focus {α : Type} {F : Fam α} {kd : Option IntKind} {l1 l2 : List (Value × α)} {key : Value} {x : α} {f : List Nat} (X : Nat) (hl : hlook s.σ X = some (.ab (mapA F kd (l1 ++ (key, x) :: l2) f)))
    (h : ∀ (m1 m2 : List (Value × α × Value)) (f1 f2 : List Nat), m1.map er = l1 → m2.map er = l2 → nfN s.n fun Y => nfN (s.n + 1) fun R => nfN (s.n + 2) fun n => nfH (hdel s.σ X) fun σ => JK cx T k ⟨s.ρ, (X, .mp kd (mE m1 ++ (key, .o Y) :: mE m2)) :: (Y, .ab (F.D x f1)) :: (R, .ab (bag F ((m1 ++ m2).map (·.2)) f2)) :: σ, n⟩) : JK cx T k s := by
  intro H a w hg hs ha
  obtain ⟨l', b, arr, clock, f', e1, e2, rfl, h1, h3, h2⟩ := hs.sat.holds _ (hlook_mem hl)
  obtain ⟨m1, m3, rfl, rfl, hm3⟩ := List.map_eq_append_iff.1 e1
  obtain ⟨z, m2, rfl, hz, rfl⟩ := List.map_eq_cons_iff.1 hm3
  obtain ⟨key', x', u⟩ := z
  simp only [er, Prod.mk.injEq] at hz
  obtain ⟨hz1, hz2⟩ := hz
  replace hz1 := hz1.symm
  replace hz2 := hz2.symm
  subst hz1
  subst hz2
  rw [List.map_append, List.map_cons] at h2
  obtain ⟨b', f1, f2, hpf, hD, hbag⟩ := bagP_split h2
  have h := h m1 m2 f1 f2 rfl rfl
  simp only [nfN_eq, nfH_eq] at h
  have hX : X < H.n := hs.sat.ids _ (hlook_mem hl)
  have hle := H.plus_le 2 (fun i => if i = 0 then b' else 0) (fun i => if i = 0 then u else undef)
  have hsv := hle.sv X hX
  have hn := hs.n
  have hb0 : (H.plus 2 (fun i => if i = 0 then b' else 0) (fun i => if i = 0 then u else undef)).bl s.n = b' := by rw [← hn]; exact H.plus_bl _ _ _ 0
  have hv0 : (H.plus 2 (fun i => if i = 0 then b' else 0) (fun i => if i = 0 then u else undef)).sv s.n = u := by rw [← hn]; exact H.plus_sv _ _ _ 0
  have hnn : (H.plus 2 (fun i => if i = 0 then b' else 0) (fun i => if i = 0 then u else undef)).n = s.n + 2 := by rw [← hn]; rfl
  have hrr : (H.plus 2 (fun i => if i = 0 then b' else 0) (fun i => if i = 0 then u else undef)).ro = H.ro := rfl
  generalize H.plus 2 (fun i => if i = 0 then b' else 0) (fun i => if i = 0 then u else undef) = H' at hle hsv hb0 hv0 hnn hrr
  have hsw := Sim.swap hs H' hle hrr [(X, .mp kd (mE m1 ++ (key, .o s.n) :: mE m2)), (s.n, .ab (F.D x f1)), (s.n + 1, .ab (bag F ((m1 ++ m2).map (·.2)) f2))] (old := [(X, .ab (mapA F kd (m1.map er ++ (key, x) :: m2.map er) (b :: f')))]) (hlook_perm hl) ?_ ?_ ?_ s.ρ
  · rw [hnn] at hsw
    exact h H' a w (fun g gv hgv => (hg g gv hgv).mono (fun _ _ h => by rw [hrr]; exact h)) hsw (ha.mono hle)
  · intro y hy
    simp only [List.mem_cons, List.not_mem_nil, or_false] at hy
    rcases hy with rfl | rfl | rfl
    · refine ⟨b, arr, clock, hsv.trans e2, h1, ?_, h3.2.1, h3.2.2⟩
      have h0 := h3.1
      rw [List.map_append, List.map_cons] at h0
      obtain ⟨c1, c3, hc, hc1, hc3⟩ := List.map_eq_append_iff.1 h0
      obtain ⟨e, c2, rfl, he, hc2⟩ := List.map_eq_cons_iff.1 hc3
      rw [hc]
      simp only [Prod.mk.injEq] at he
      refine esIs_app.2 ⟨c1, e :: c2, rfl, esIs_kv hc1, he.1, .o (by rw [hnn]; omega) (by rw [hv0]; exact he.2.symm) (by rw [he.2]; exact F.ow _ _ _ _ _ _ hD), esIs_kv hc2⟩
    · show (F.D x f1).P H'.ro (H'.bl s.n) (H'.sv s.n) w
      rw [hb0, hv0, hrr]
      exact hD
    · show bagP F H'.ro w _ f2
      rw [hrr, List.map_append]
      exact hbag
  · intro y hy
    simp only [List.mem_cons, List.not_mem_nil, or_false] at hy
    rcases hy with rfl | rfl | rfl
    · exact Nat.lt_of_lt_of_le hX hle.n
    · show s.n < H'.n
      omega
    · show s.n + 1 < H'.n
      omega
  · have hbv : mapBlk (H'.sv X) = [b] := by rw [hsv, e2]; rfl
    show (mapBlk (H'.sv X) ++ ((F.D x f1).fp ++ (f2 ++ []))).Perm ((b :: f') ++ [])
    rw [hbv, F.fpE]
    simp only [List.append_nil, List.singleton_append]
    exact hpf.symm.cons b
/-- .. and given back. -/
theorem JK.unfocus {α : Type} {F : Fam α} {kd : Option IntKind} {m1 m2 : List (Value × α × Value)} {key : Value} {x : α} {f1 f2 : List Nat} (X Y R : Nat) (hl : hlook s.σ X = some (.mp kd (mE m1 ++ (key, .o Y) :: mE m2))) (hy : hlook (hdel s.σ X) Y = some (.ab (F.D x f1)))
    (hr : hlook (hdel (hdel s.σ X) Y) R = some (.ab (bag F ((m1 ++ m2).map (·.2)) f2)))
    (h : ∀ (f : List Nat), nfH (hdel (hdel (hdel s.σ X) Y) R) fun σ => JK cx T k ⟨s.ρ, (X, .ab (mapA F kd (m1.map er ++ (key, x) :: m2.map er) f)) :: σ, s.n⟩) : JK cx T k s := by
  intro H a w hg hs ha
  have hp : s.σ.Perm ([(X, .mp kd (mE m1 ++ (key, .o Y) :: mE m2)), (Y, .ab (F.D x f1)), (R, .ab (bag F ((m1 ++ m2).map (·.2)) f2))] ++ hdel (hdel (hdel s.σ X) Y) R) :=
    (hlook_perm hl).trans (((hlook_perm hy).trans ((hlook_perm hr).cons _)).cons _)
  obtain ⟨b, arr, clock, e2, h1, hm⟩ := hs.sat.holds _ (hlook_mem hl)
  have hD : (F.D x f1).P H.ro (H.bl Y) (H.sv Y) w := hs.sat.holds _ (hp.mem_iff.2 (by simp : (Y, Res.ab (F.D x f1)) ∈ _))
  have hb2 : bagP F H.ro w ((m1 ++ m2).map (·.2)) f2 := hs.sat.holds _ (hp.mem_iff.2 (by simp : (R, Res.ab (bag F ((m1 ++ m2).map (·.2)) f2)) ∈ _))
  rw [List.map_append] at hb2
  obtain ⟨f, hpf, hbag⟩ := bagP_join hD hb2
  have h := h (b :: f)
  simp only [nfH_eq] at h
  have hX : X < H.n := hs.sat.ids _ (hlook_mem hl)
  have hn := hs.n
  have hsw := Sim.swap hs H (Hid.le.refl H) rfl [(X, .ab (mapA F kd (m1.map er ++ (key, x) :: m2.map er) (b :: f)))] hp ?_ ?_ ?_ s.ρ
  · rw [hn] at hsw
    exact h H a w hg hsw ha
  · intro z hz
    rw [List.mem_singleton.1 hz]
    refine ⟨m1 ++ (key, x, H.sv Y) :: m2, b, arr, clock, f, by simp, e2, rfl, h1, ⟨?_, hm.sorts, hm.st⟩, by rw [List.map_append, List.map_cons]; exact hbag⟩
    obtain ⟨c1, c3, hc, hc1, hc3⟩ := esIs_app.1 hm.is
    rw [hc]
    cases c3 with
    | nil => exact hc3.elim
    | cons e c2 =>
      obtain ⟨q1, q2, q3⟩ := hc3
      have q4 : e.val = H.sv Y := by
        cases q2 with
        | ro h => cases h
        | o _ h _ => exact h.symm
      rw [List.map_append, List.map_cons, List.map_append, List.map_cons, kv_esIs hc1, kv_esIs q3, q1, q4]
  · intro z hz
    rw [List.mem_singleton.1 hz]
    exact hX
  · have hbv : mapBlk (H.sv X) = [b] := by rw [e2]; rfl
    show ((b :: f) ++ []).Perm (mapBlk (H.sv X) ++ ((F.D x f1).fp ++ (f2 ++ [])))
    rw [hbv, F.fpE]
    simp only [List.append_nil, List.singleton_append]
    exact hpf.cons b
end
end Go.GK
/-
  The ghost machine: own maps of own maps of own rows; all of them written no more.
-/
namespace Go.GK
open Go.RowKit

abbrev iRow (l : List Int) : List (List GV) := l.map fun i => [GV.v (.int .i64 i)]
/-- Own rows of numbers. -/
def rowF (ty : Nat) : Fam (List Int) where
  D := fun l f => pack 1 [(0, .row ty 1 (iRow l))] f
  fpE := fun _ _ => rfl
  ow := fun a f ro b v w h => by
    obtain ⟨Hl, _, _, rfl, _, h1, _, _⟩ := h
    obtain ⟨xs, ⟨_, ho⟩, _⟩ := h1 _ (List.mem_singleton.2 rfl)
    rcases ho with ⟨h, _⟩ | ⟨g, cap, cur, h, _⟩ <;> rw [h] <;> rfl
/-- Maps of own rows, and of rows that nobody writes. -/
def ownF (ty : Nat) : Fam (List (Value × List Int)) := mapF (rowF ty) none
abbrev roE (l : List (Value × List Int)) : List (Value × GV) := l.map fun x => (x.1, GV.sl 1 (iRow x.2))
def roF : Fam (List (Value × List Int)) where
  D := fun l f => pack 1 [(0, .mp none (roE l))] f
  fpE := fun _ _ => rfl
  ow := fun a f ro b v w h => by
    obtain ⟨Hl, _, _, rfl, _, h1, _, _⟩ := h
    obtain ⟨b, arr, clock, h, _⟩ := h1 _ (List.mem_singleton.2 rfl)
    rw [h]
    rfl

/-- One of a family, written no more, is one of another. -/
def Frz {α : Type} (F G : Fam α) : Prop := ∀ a f ro b v (w : World), (F.D a f).P ro b v w → ∃ f' z b', (f' ++ z).Perm f ∧ ∀ ro' : Nat → Option Obj, (∀ c o, ro c = some o → ro' c = some o) → (∀ c ∈ z, ro' c = w.heap[c]?) → (G.D a f').P ro' b' v w
theorem bag_frz {α : Type} {F G : Fam α} (hF : Frz F G) {ro : Nat → Option Obj} {w : World} : ∀ {l : List (α × Value)} {f : List Nat}, bagP F ro w l f → ∃ f' z, (f' ++ z).Perm f ∧ ∀ ro' : Nat → Option Obj, (∀ c o, ro c = some o → ro' c = some o) → (∀ c ∈ z, ro' c = w.heap[c]?) → bagP G ro' w l f'
  | [], f, h => ⟨[], [], by rw [show f = [] from h]; exact .refl _, fun _ _ _ => rfl⟩
  | (a, u) :: r, f, h => by
    obtain ⟨b, f1, f2, rfl, h1, h2⟩ := h
    obtain ⟨g1, z1, b1, p1, k1⟩ := hF a f1 ro b u w h1
    obtain ⟨g2, z2, p2, k2⟩ := bag_frz hF h2
    refine ⟨g1 ++ g2, z1 ++ z2, ?_, fun ro' hro hz => ⟨b1, g1, g2, rfl, k1 ro' hro fun c hc => hz c (by simp [hc]), k2 ro' hro fun c hc => hz c (by simp [hc])⟩⟩
    refine List.Perm.trans ?_ (p1.append p2)
    rw [List.append_assoc, List.append_assoc]
    refine List.Perm.append_left g1 ?_
    rw [← List.append_assoc, ← List.append_assoc]
    exact List.perm_append_comm.append_right z2
theorem map_frz {α : Type} {F G : Fam α} (hF : Frz F G) (kd : Option IntKind) : Frz (mapF F kd) (mapF G kd) := by
  intro l f ro b v w h
  obtain ⟨l', bm, arr, clock, f2, e1, e2, rfl, h1, h3, h2⟩ := h
  obtain ⟨f', z, hp, hk⟩ := bag_frz hF h2
  exact ⟨bm :: f', z, b, by simpa using hp, fun ro' hro hz => ⟨l', bm, arr, clock, f', e1, e2, rfl, h1, h3, hk ro' hro hz⟩⟩
theorem rows_frz {ty : Nat} {ro : Nat → Option Obj} {w : World} : ∀ {m : List (Value × List Int × Value)} {es : List MapEntry} {f : List Nat}, bagP (rowF ty) ro w (m.map (·.2)) f → (es.map fun e => (e.key, e.val)) = m.map kv → ∀ H' : Hid, (∀ c o, ro c = some o → H'.ro c = some o) → (∀ c ∈ f, H'.ro c = w.heap[c]?) → esIs H' (roE (m.map er)) es
  | [], [], _, _, _, _, _, _ => trivial
  | x :: r, e :: s, f, h, he, H', hro, hz => by
    obtain ⟨b, f1, f2, rfl, h1, h2⟩ := h
    simp only [List.map_cons, List.cons.injEq, Prod.mk.injEq] at he
    obtain ⟨Hl, _, _, hv, hr, hh, _, hf⟩ := h1
    obtain ⟨xs, hown, hrow⟩ := hh _ (List.mem_singleton.2 rfl)
    refine ⟨he.1.1, ?_, rows_frz h2 he.2 H' hro fun c hc => hz c (by simp [hc])⟩
    rw [he.1.2]
    refine .ro (hrow.sl (fun c o hc => hro c o (hr c o hc)) (w := w) (ty := ty) ?_ fun c hc => hz c ?_)
    · rw [← hv]; exact hown
    · rw [← hf]
      refine List.mem_append.2 (.inl ?_)
      show c ∈ (Hl.sv 0).ownBlock.toList ++ []
      rw [hv, hc]
      simp
  | [], _ :: _, _, _, he, _, _, _ => by simp at he
  | _ :: _, [], _, _, he, _, _, _ => by simp at he
theorem own_frz (ty : Nat) : Frz (ownF ty) roF := by
  intro l f ro b v w h
  obtain ⟨l', bm, arr, clock, f2, rfl, e2, rfl, h1, h3, h2⟩ := h
  refine ⟨[bm], f2, b, by simp, fun ro' hro hz => ⟨⟨ro', fun _ => b, fun _ => v, 1⟩, rfl, rfl, rfl, fun _ _ h => h, fun x hx => ?_, fun x hx => ?_, ?_⟩⟩
  · rw [List.mem_singleton.1 hx]
    exact ⟨bm, arr, clock, e2, h1, rows_frz h2 h3.1 ⟨ro', fun _ => b, fun _ => v, 1⟩ hro hz, h3.2.1, h3.2.2⟩
  · rw [List.mem_singleton.1 hx]
    exact Nat.zero_lt_one
  · show mapBlk v ++ [] = [bm]
    rw [e2]
    rfl
section
variable {cx : Cx} {T : Post} {k : List It} {s : St}
/-- OWN THINGS TOLD BY A FAMILY ARE WRITTEN NO MORE. -/
theorem JK.frzF {α : Type} {F G : Fam α} (hF : Frz F G) {a : α} {f : List Nat} (X : Nat) (hl : hlook s.σ X = some (.ab (F.D a f))) (hb : ∀ f ro b b' v w, (G.D a f).P ro b v w → (G.D a f).P ro b' v w)
    (h : ∀ f', nfH (hdel s.σ X) fun σ => JK cx T k ⟨s.ρ, (X, .ab (G.D a f')) :: σ, s.n⟩) : JK cx T k s := by
  intro H ac w hg hs ha
  have hp := hlook_perm hl
  have hD : (F.D a f).P H.ro (H.bl X) (H.sv X) w := hs.sat.holds _ (hlook_mem hl)
  obtain ⟨f', z, b', hpf, hk⟩ := hF a f _ _ _ _ hD
  have h := h f'
  simp only [nfH_eq] at h
  have hbl : (blks H s.σ).Perm ((f' ++ z) ++ blks H (hdel s.σ X)) := by
    refine (List.Perm.flatMap_right (blocks H) hp).trans ?_
    show ((F.D a f).fp ++ blks H (hdel s.σ X)).Perm _
    rw [F.fpE]
    exact hpf.symm.append_right _
  have hnd := hbl.nodup_iff.1 hs.sat.nodup
  have hfree : ∀ c ∈ z, H.ro c = none := fun c hc => hs.sat.free c (hbl.mem_iff.2 (by simp [hc]))
  let ro' : Nat → Option Obj := fun c => if c ∈ z then w.heap[c]? else H.ro c
  have hro : ∀ c o, H.ro c = some o → ro' c = some o := fun c o ho => by
    show (if _ then _ else _) = _
    rw [if_neg fun hc => by rw [hfree c hc] at ho; cases ho]
    exact ho
  let H' : Hid := { H with ro := ro' }
  have hle : H.le H' := ⟨Nat.le_refl _, hro, fun _ _ => rfl, fun _ _ => rfl⟩
  have hkeep : ∀ x ∈ hdel s.σ X, x ∈ s.σ := fun x hx => hp.mem_iff.2 (by simp [hx])
  have hkb : blks H' (hdel s.σ X) = blks H (hdel s.σ X) := blks_le hle fun x hx => hs.sat.ids x (hkeep x hx)
  have hnew : blks H' ((X, .ab (G.D a f')) :: hdel s.σ X) = f' ++ blks H (hdel s.σ X) := by
    rw [blks_cons, hkb]
    show (G.D a f').fp ++ _ = _
    rw [G.fpE]
  have hin : ∀ c ∈ f' ++ blks H (hdel s.σ X), c ∈ blks H s.σ ∧ c ∉ z := fun c hc => by
    refine ⟨hbl.mem_iff.2 ?_, fun hz => ?_⟩
    · rcases List.mem_append.1 hc with h | h <;> simp [h]
    · have n1 := List.nodup_append.1 hnd
      have n2 := List.nodup_append.1 n1.1
      rcases List.mem_append.1 hc with h | h
      · exact n2.2.2 c h c hz rfl
      · exact n1.2.2 c (by simp [hz]) c h rfl
  refine h H' ac w (fun g gv hgv => (hg g gv hgv).mono hro) ⟨hs.n, ⟨fun c o ho => ?_, fun x hx => ?_, ?_, fun c hc => ?_, fun x hx => ?_⟩, ?_⟩ (ha.mono hle)
  · have ho' : (if c ∈ z then w.heap[c]? else H.ro c) = some o := ho
    split at ho'
    · exact ho'
    · exact hs.sat.ro c o ho'
  · rcases List.mem_cons.1 hx with rfl | hx
    · exact hb _ _ _ _ _ _ (hk ro' hro fun c hc => if_pos hc)
    · exact holds_le hle (hs.sat.ids x (hkeep x hx)) (hs.sat.holds x (hkeep x hx))
  · rw [hnew]
    have n1 := List.nodup_append.1 hnd
    exact List.nodup_append.2 ⟨(List.nodup_append.1 n1.1).1, n1.2.1, fun c hc d hd => n1.2.2 c (by simp [hc]) d hd⟩
  · rw [hnew] at hc
    show (if c ∈ z then w.heap[c]? else H.ro c) = none
    rw [if_neg (hin c hc).2]
    exact hs.sat.free c (hin c hc).1
  · rcases List.mem_cons.1 hx with rfl | hx
    · exact hs.sat.ids (X, .ab (F.D a f)) (hlook_mem hl)
    · exact hs.sat.ids x (hkeep x hx)
  · have hfr := hs.fr
    refine ⟨hfr.os, hfr.tape, hfr.output, hfr.size, hfr.keep, fun c hc => ?_, fun c h1 h2 => ?_, hfr.le.trans hle⟩
    · rw [hnew] at hc
      exact hfr.own c (hin c hc).1
    · have h2' : (if c ∈ z then w.heap[c]? else H.ro c) ≠ none := h2
      split at h2'
      · rename_i hc
        exact hfr.own c (hbl.mem_iff.2 (by simp [hc]))
      · exact hfr.fro c h1 h2'
/-- An index is written no more. -/
theorem JK.frzIx {ty : Nat} {l : List (Value × List (Value × List Int))} {f : List Nat} (X : Nat) (hl : hlook s.σ X = some (.ab (mapA (ownF ty) none l f)))
    (h : ∀ f', nfH (hdel s.σ X) fun σ => JK cx T k ⟨s.ρ, (X, .ab (mapA roF none l f')) :: σ, s.n⟩) : JK cx T k s :=
  JK.frzF (F := mapF (ownF ty) none) (G := mapF roF none) (map_frz (own_frz ty) none) X hl (fun _ _ _ _ _ _ h => h) h
end
end Go.GK
/-
  The ghost machine: maps whose entries lie as they lie: what is found, and put.
-/
namespace Go.GK
open Go.RowKit
theorem vkey_str {a b : ByteArray} : vkey (.string a) (.string b) = true ↔ a = b := by
  constructor
  · intro h
    have := vkey_eq (kd := none) rfl rfl h
    injection this
  · rintro rfl
    exact vkey_refl (kd := none) rfl
theorem vkey_no {a b : ByteArray} (h : a ≠ b) : vkey (.string a) (.string b) = false := by
  cases hv : vkey (.string a) (.string b) with
  | false => rfl
  | true => exact absurd (vkey_str.1 hv) h
theorem mfind_skip {k : Value} {b : List (Value × GV)} : ∀ {a : List (Value × GV)}, (∀ y ∈ a, vkey k y.1 = false) → mfind k (a ++ b) = mfind k b
  | [], _ => rfl
  | (k', g) :: r, h => by
    show mfind k ((k', g) :: (r ++ b)) = _
    rw [mfind, if_neg (by rw [h (k', g) (by simp)]; decide), mfind_skip (a := r) fun y hy => h y (by simp [hy])]
theorem mput_skip {k : Value} {g : GV} {b : List (Value × GV)} : ∀ {a : List (Value × GV)}, (∀ y ∈ a, vkey k y.1 = false) → mput k g (a ++ b) = a ++ mput k g b
  | [], _ => rfl
  | (k', g') :: r, h => by
    show mput k g ((k', g') :: (r ++ b)) = _
    rw [mput, if_neg (by rw [h (k', g') (by simp)]; decide), mput_skip (a := r) fun y hy => h y (by simp [hy])]
    rfl
section
variable {α : Type} {s : ByteArray} {m m1 m2 : List (Value × α × Value)} {g g' : GV}
/-- The keys of entries, as texts. -/
def NoKey {α : Type} (s : ByteArray) (m : List (Value × α × Value)) : Prop := ∀ x ∈ m, ∃ t, x.1 = .string t ∧ s ≠ t
theorem NoKey.vk (h : NoKey s m) : ∀ y ∈ mE m, vkey (.string s) y.1 = false := fun y hy => by
  obtain ⟨x, hx, rfl⟩ := List.mem_map.1 hy
  obtain ⟨t, e, hn⟩ := h x hx
  show vkey _ x.1 = false
  rw [e]
  exact vkey_no hn
theorem find_mid (h : NoKey s m1) : mfind (.string s) (mE m1 ++ (.string s, g) :: mE m2) = some g := by
  rw [mfind_skip h.vk, mfind, if_pos (vkey_str.2 rfl)]
theorem find_no (h : NoKey s m) : mfind (.string s) (mE m) = none := by
  have := mfind_skip (b := []) h.vk
  rw [List.append_nil] at this
  rw [this]
  rfl
theorem put_mid (h : NoKey s m1) : mput (.string s) g (mE m1 ++ (.string s, g') :: mE m2) = mE m1 ++ (.string s, g) :: mE m2 := by
  rw [mput_skip h.vk, mput, if_pos (vkey_str.2 rfl)]
theorem put_no (h : NoKey s m) : mput (.string s) g (mE m) = mE m ++ (.string s, g) :: mE ([] : List (Value × α × Value)) := by
  have := mput_skip (g := g) (b := []) h.vk
  rw [List.append_nil] at this
  rw [this]
  rfl
theorem mE_ren (f : Nat → Nat) : ∀ m : List (Value × α × Value), renM f (mE m) = mE m
  | [] => rfl
  | x :: r => by
    show (x.1, GV.v x.2.2) :: renM f (mE r) = (x.1, GV.v x.2.2) :: mE r
    rw [mE_ren f r]
theorem mE_idb (n : Nat) : ∀ m : List (Value × α × Value), idbM n (mE m) = true
  | [] => rfl
  | x :: r => by
    show idbM n ((x.1, GV.v x.2.2) :: mE r) = true
    rw [idbM, mE_idb n r]
    rfl
theorem renM_app (f : Nat → Nat) (a b : List (Value × GV)) : renM f (a ++ b) = renM f a ++ renM f b := by unfold renM; rw [List.map_append]
theorem idbM_app (n : Nat) : ∀ a b : List (Value × GV), idbM n (a ++ b) = (idbM n a && idbM n b)
  | [], b => rfl
  | x :: r, b => by
    show idbM n (x :: (r ++ b)) = _
    rw [idbM, idbM, idbM_app n r b, Bool.and_assoc]
theorem mid_idb {n Y : Nat} {k : Value} : idbM n (mE m1 ++ (k, GV.o Y) :: mE m2) = Nat.blt Y n := by
  rw [idbM_app, mE_idb, idbM, mE_idb]
  simp [idb]
theorem end_idb {n Y : Nat} {k : Value} : idbM n (mE m1 ++ [(k, GV.o Y)]) = Nat.blt Y n := by
  have := mid_idb (n := n) (Y := Y) (k := k) (m1 := m1) (m2 := ([] : List (Value × α × Value)))
  exact this
theorem mid_ren {f : Nat → Nat} {Y : Nat} {k : Value} : renM f (mE m1 ++ (k, GV.o Y) :: mE m2) = mE m1 ++ (k, GV.o (f Y)) :: mE m2 := by
  rw [renM_app, mE_ren]
  have : renM f ((k, GV.o Y) :: mE m2) = (k, GV.o (f Y)) :: renM f (mE m2) := rfl
  rw [this, mE_ren]
end
section
variable {cx : Cx} {T : Post} {k : List It} {s : St}
/-- A packed map. -/
theorem JK.unpackM {kd : Option IntKind} {es : List (Value × GV)} {fp : List Nat} (id : Nat) (hl : hlook s.σ id = some (.ab (GK.pack 1 [(0, .mp kd es)] fp))) (he : ∀ f, renM f es = es)
    (h : nfH (hdel s.σ id) fun σ => nfN (s.n + 1) fun m => JK cx T k ⟨s.ρ, (id, .mp kd es) :: σ, m⟩) : JK cx T k s := by
  refine JK.unpack id hl ?_
  rw [nfH_eq, nfN_eq] at h ⊢
  have e : renH (upf id s.n) [(0, .mp kd es)] = [(id, .mp kd es)] := by
    show [(upf id s.n 0, Res.mp kd (renM _ es))] = _
    rw [he]
    rfl
  rw [e]
  exact h
/-- A bag of nothing. -/
theorem JK.bag0 {α : Type} (F : Fam α) (h : nfN s.n fun R => nfN (s.n + 1) fun n => nfH s.σ fun σ => JK cx T k ⟨s.ρ, (R, .ab (bag F [] [])) :: σ, n⟩) : JK cx T k s := by
  intro H a w hg hs ha
  simp only [nfN_eq, nfH_eq] at h
  have hle := H.plus_le 1 (fun _ => 0) (fun _ => undef)
  have hn := hs.n
  have hnn : (H.plus 1 (fun _ => 0) (fun _ => undef)).n = s.n + 1 := by rw [← hn]; rfl
  have hrr : (H.plus 1 (fun _ => 0) (fun _ => undef)).ro = H.ro := rfl
  generalize H.plus 1 (fun _ => 0) (fun _ => undef) = H' at hle hnn hrr
  have hsw := Sim.swap hs H' hle hrr [(s.n, .ab (bag F [] []))] (old := []) (.refl _) (fun x hx => by rw [List.mem_singleton.1 hx]; rfl) (fun x hx => by
    rw [List.mem_singleton.1 hx]
    show s.n < H'.n
    omega) (.refl _) s.ρ
  rw [hnn] at hsw
  exact h H' a w (fun g gv hgv => (hg g gv hgv).mono (fun _ _ h => by rw [hrr]; exact h)) hsw (ha.mono hle)
end
end Go.GK
/-
  Contracts: package index: a new one.
-/
namespace Go.Proofs.YtpenlenmpigomaaGreatDoor
open Go.GK Go.PL Go.RowKit
set_option maxRecDepth 100000
abbrev ks' (s : ByteArray) : Value := .string s
abbrev enc1 (M : In1) : List (Value × List Int) := M.map fun y => (Value.string y.1, y.2)
abbrev encI (L : Ix) : List (Value × List (Value × List Int)) := L.map fun x => (Value.string x.1, enc1 x.2)
abbrev ownI : Fam (List (Value × List Int)) := ownF 3
abbrev lss (S : List (List Lb)) : GV := .sl 1 (S.map fun s => [.sl 2 (s.map lb)])
/-- An index that is no more written. -/
abbrev IX (S : List (List Lb)) (f : List Nat) : Heap := [(0, .blk 59 [gi S.length, .o 1]), (1, .ab (mapA roF none (encI (ixF S)) f))]
theorem noKey1 {s : ByteArray} {M : In1} {m : List (Value × List Int × Value)} (hm : m.map er = enc1 M) (h : s ∉ keysA M) : NoKey s m := fun x hx => by
  have : er x ∈ enc1 M := by rw [← hm]; exact List.mem_map_of_mem hx
  obtain ⟨y, hy, e⟩ := List.mem_map.1 this
  refine ⟨y.1, (congrArg Prod.fst e).symm, fun e' => h ?_⟩
  rw [e']
  exact List.mem_map_of_mem hy
theorem noKeyI {s : ByteArray} {L : Ix} {m : List (Value × List (Value × List Int) × Value)} (hm : m.map er = encI L) (h : s ∉ keysA L) : NoKey s m := fun x hx => by
  have : er x ∈ encI L := by rw [← hm]; exact List.mem_map_of_mem hx
  obtain ⟨y, hy, e⟩ := List.mem_map.1 this
  refine ⟨y.1, (congrArg Prod.fst e).symm, fun e' => h ?_⟩
  rw [e']
  exact List.mem_map_of_mem hy
theorem encI_mid (l1 l2 : Ix) (n : ByteArray) (M : In1) : encI (l1 ++ (n, M) :: l2) = encI l1 ++ (Value.string n, enc1 M) :: encI l2 := by simp [encI]
theorem enc1_mid (l1 l2 : In1) (n : ByteArray) (r : List Int) : enc1 (l1 ++ (n, r) :: l2) = enc1 l1 ++ (Value.string n, r) :: enc1 l2 := by simp [enc1]
theorem iRow_snoc (r : List Int) (i : Nat) : iRow r ++ [[GV.v (.int .i64 (i : Int))]] = iRow (r ++ [(i : Int)]) := by simp [iRow]
/-- What a new index is. -/
def NewQ (S : List (List Lb)) (g : GV) (σ : Heap) (n : Nat) : Prop :=
  ((∀ s ∈ S, rightF s = true) ∧ ∃ f, g = .tup [.p 0 0, .v .nilIface] ∧ σ = IX S f ∧ n = 2) ∨
  (∃ i, ∃ _ : i < S.length, (∀ j (h : j < S.length), j < i → rightF S[j] = true) ∧ rightF S[i] = false ∧ g = .tup [.v (.pointer none), .ifc 60 (.r [gi 1, gi i])] ∧ σ = [] ∧ n = 0)
theorem new_hf (S : List (List Lb)) (hS : ∀ s ∈ S, Sh s ∧ s.length ≤ 1000000) (hl : S.length ≤ 1000000) : Hf pg 7 0 [lss S] [] (NewQ S) := by
  refine Hf.weak (Q := fun g σ _ => ((∀ s ∈ S, rightF s = true) ∧ ∃ f, g = .tup [.p 1 0, .v .nilIface] ∧ hlook σ 1 = some (.blk 59 [gi S.length, .o 0]) ∧ hlook σ 0 = some (.ab (mapA roF none (encI (ixF S)) f))) ∨
    (∃ i, ∃ _ : i < S.length, (∀ j (h : j < S.length), j < i → rightF S[j] = true) ∧ rightF S[i] = false ∧ g = .tup [.v (.pointer none), .ifc 60 (.r [gi 1, gi i])])) (Hf.ofJ pg_ok Tryz.func7 rfl Tryz.ntmps7 rfl Tryz.results7 Tryz.call7 fun H0 S0 w0 h0 g0 => ?_) ?_
  · have hll : (S.map fun s => [GV.sl 2 (s.map lb)]).length = S.length := by simp
    refine VM 14 ?_
    refine JK.mnew ownI 0 rfl fun f0 => ?_
    refine V ?_
    refine JK.loopE (α := Nat × List Nat) (β := List Nat) (fun z => ⟨[(4, .p 1 0), (14, lss S), (15, gi S.length), (16, gi z.1)], [(1, .blk 59 [gi S.length, .o 0]), (0, .ab (mapA ownI none (encI (ixF (S.take z.1))) z.2))], 2⟩) (fun z => z.1 ≤ S.length ∧ ∀ j (h : j < S.length), j < z.1 → rightF S[j] = true) (fun z => S.length - z.1)
      (fun f => ⟨[(4, .p 1 0)], [(1, .blk 59 [gi S.length, .o 0]), (0, .ab (mapA ownI none (encI (ixF S)) f))], 2⟩) (fun _ => ∀ s ∈ S, rightF s = true) (0, f0) id ?_ ⟨Nat.zero_le _, fun j _ h => absurd h (Nat.not_lt_zero _)⟩ ?_ ?_
    · exact ⟨⟨rfl, rfl, congrArg (fun n : Nat => some (gi n)) hll, rfl, trivial⟩, ⟨by rw [← hll]; rfl, rfl, trivial⟩, rfl⟩
    · rintro ⟨i, f⟩ ⟨hi, hok⟩
      simp only at hi hok
      refine V ?_
      by_cases hlt : i < S.length
      · obtain ⟨hsh, hsl⟩ := hS S[i] (List.getElem_mem hlt)
        refine p1 ?_ (decide_eq_true (by dsimp only; omega))
        refine ix (h := ?_)
        rcases tf (rightF S[i]) with hr | hr
        · refine GO ((right_rt S[i] hsh).bt hr) rfl ?_
          have hlj : (S[i].map lb).length = S[i].length := by simp
          refine JK.loopE (α := Nat × List Nat) (β := List Nat) (fun z => ⟨[(4, .p 1 0), (14, lss S), (15, gi S.length), (16, gi i), (5, gi i), (28, .sl 2 (S[i].map lb)), (29, gi S[i].length), (30, gi z.1)], [(1, .blk 59 [gi S.length, .o 0]), (0, .ab (mapA ownI none (encI ((S[i].take z.1).foldl (addI i) (ixF (S.take i)))) z.2))], 2⟩) (fun z => z.1 ≤ S[i].length) (fun z => S[i].length - z.1)
            (fun f => ⟨[(4, .p 1 0), (14, lss S), (15, gi S.length), (16, gi i)], [(1, .blk 59 [gi S.length, .o 0]), (0, .ab (mapA ownI none (encI (ixF (S.take (i + 1)))) f))], 2⟩) (fun _ => True) (0, f) id ?_ (Nat.zero_le _) ?_ ?_
          · exact ⟨⟨rfl, rfl, rfl, rfl, rfl, rfl, congrArg (fun n : Nat => some (gi n)) hlj, rfl, trivial⟩, ⟨rfl, rfl, trivial⟩, rfl⟩
          · rintro ⟨j, f⟩ hj
            replace hj : j ≤ S[i].length := hj
            refine VM 16 ?_
            by_cases hjl : j < S[i].length
            · refine p1 ?_ (decide_eq_true (by dsimp only; omega))
              refine ix (h := ?_)
              refine JK.freezeB 2 rfl rfl ?_
              have hstep : (S[i].take (j + 1)).foldl (addI i) (ixF (S.take i)) = addI i ((S[i].take j).foldl (addI i) (ixF (S.take i))) S[i][j] := by
                rw [List.take_succ_eq_append_getElem hjl, List.foldl_append]
                rfl
              have hrows : RowsLe 1000001000000 ((S[i].take j).foldl (addI i) (ixF (S.take i))) := fun x hx y hy => by
                have h1 := ixF_rows 1000000 (S.take i) fun s hs => (hS s (List.mem_of_mem_take hs)).2
                have h2 := RowsLe.fold (i := i) (l := S[i].take j) h1 x hx y hy
                simp only [List.length_take] at h2
                have h3 : min i S.length * 1000000 ≤ 1000000 * 1000000 := Nat.mul_le_mul_right _ (by omega)
                omega
              generalize (S[i].take j).foldl (addI i) (ixF (S.take i)) = L at hstep hrows
              by_cases hn : S[i][j].name ∈ keysA L
              · obtain ⟨l1, M, l2, hL, hn1⟩ := splitA hn
                have hX : some (Res.ab (mapA ownI none (encI L) f)) = some (Res.ab (mapA ownI none (encI l1 ++ (Value.string S[i][j].name, enc1 M) :: encI l2) f)) := by rw [hL, encI_mid]
                by_cases hv : S[i][j].value ∈ keysA M
                · obtain ⟨k1, r, k2, hM, hv1⟩ := splitA hv
                  refine JK.focus (F := ownI) (kd := none) (l1 := encI l1) (l2 := encI l2) (key := .string S[i][j].name) (x := enc1 M) 0 hX fun m1 m2 f1 f2 hm1 hm2 => ?_
                  refine JK.focus (F := rowF 3) (kd := none) (l1 := enc1 k1) (l2 := enc1 k2) (key := .string S[i][j].value) (x := r) (f := f1) 3 (congrArg (fun q => some (Res.ab (mapA (rowF 3) none q f1))) (by rw [hM, enc1_mid])) fun q1 q2 g1 g2 hq1 hq2 => ?_
                  refine JK.unpack 5 (n := 1) (τ := [(0, .row 3 1 (iRow r))]) (fp := g1) rfl ?_
                  refine V ?_
                  refine ⟨by kernel_rfl, ?_⟩
                  refine lkS (find_mid (noKeyI hm1 hn1)) ?_
                  refine p2 ?_
                  refine JK.drawJ [3, 5] ⟨[(4, .p 1 0), (14, lss S), (15, gi S.length), (16, gi i), (5, gi i), (28, .sl 2 (S[i].map lb)), (29, gi S[i].length), (30, gi j)], [(1, .blk 59 [gi S.length, .o 0]), (0, .mp none (mE m1 ++ (Value.string S[i][j].name, .o 3) :: mE m2)), (3, .mp none (mE q1 ++ (Value.string S[i][j].value, .o 5) :: mE q2)), (5, .row 3 1 (iRow (r ++ [(i : Int)]))), (4, .ab (bag ownI ((m1 ++ m2).map (·.2)) f2)), (6, .ab (bag (rowF 3) ((q1 ++ q2).map (·.2)) g2))], 7⟩ pg_ok ?_ (fun hk => ?_)
                  · refine JK.pack (fun _ => 5) 1 5 [(0, .row 3 1 (iRow (r ++ [(i : Int)])))] ⟨rfl, trivial⟩ rfl fun g1 => ?_
                    refine JK.unfocus (F := rowF 3) (kd := none) (m1 := q1) (m2 := q2) (x := r ++ [(i : Int)]) (f1 := g1) (f2 := g2) 3 5 6 rfl rfl rfl fun f1 => ?_
                    refine JK.unfocus (F := ownI) (kd := none) (m1 := m1) (m2 := m2) (x := q1.map er ++ (Value.string S[i][j].value, r ++ [(i : Int)]) :: q2.map er) (f1 := f1) (f2 := f2) 0 3 4 rfl rfl rfl fun f' => ?_
                    refine V ?_
                    refine ⟨(j + 1, f'), id, ⟨⟨rfl, rfl, rfl, rfl, rfl, rfl, rfl, succ_gi (by omega), trivial⟩, ⟨rfl, ?_, trivial⟩, rfl⟩, hjl, by show S[i].length - (j + 1) < S[i].length - j; omega⟩
                    refine congrArg (fun q => some (Res.ab (mapA ownI none q f'))) ?_
                    rw [hstep, hm1, hm2, hq1, hq2, ← enc1_mid, ← encI_mid, hL, hM]
                    unfold addI
                    rw [modA_old hn1, modA_old hv1]
                  · refine RA.run (cx := ⟨pg, _, _, _, _, _, _, _⟩) pg_ok (by kernel_rfl) (by intro _ _ h; exact h) (tk [0, 1, 2, 3, 4, 5, 6, 7, 8, 9, 10, 11, 12, 13, 14, 15, 16, 17, 19]) (e := false) (by kernel_rfl) ?_
                    refine lkS (find_mid (noKeyI hm1 hn1)) ?_
                    refine lkS (find_mid (noKeyI hm1 hn1)) ?_
                    have hrl : ((iRow r).length + 1) * 8 ≤ 140737488355328 := by
                      have := hrows (S[i][j].name, M) (by rw [hL]; simp) (S[i][j].value, r) (by rw [hM]; simp)
                      simp only [iRow, List.length_map] at this ⊢
                      omega
                    refine RA.both 18 20 (eqB_eq (by kernel_rfl)) (Stp.read 18 pg_ok rfl rfl ?_) (Stp.mem 20 pg_ok rfl rfl rfl ?_)
                    · refine lkS (find_mid (noKey1 hq1 hv1)) ?_
                      refine RA.run (cx := ⟨pg, _, _, _, _, _, _, _⟩) pg_ok (by kernel_rfl) (by intro _ _ h; exact h) (al [20, 21, 22]) (e := false) (by kernel_rfl) ?_
                      refine ⟨hrl, ?_⟩
                      refine RA.endJ (r1 5 9) (by kernel_rfl) hk ⟨⟨rfl, rfl, rfl, rfl, rfl, rfl, rfl, rfl, trivial⟩, ⟨rfl, congrArg (fun q => some (Res.mp none q)) (mid_ren (f := r1 5 9) (Y := 3)).symm, congrArg (fun q => some (Res.mp none q)) ((put_mid (noKey1 hq1 hv1)).trans (mid_ren (f := r1 5 9) (Y := 5)).symm), congrArg (fun q => some (Res.row 3 1 q)) (iRow_snoc r i), rfl, rfl, trivial⟩, ?_⟩
                      simp [idbE, idb, idbL, idbH, idbR, hids, distB, fixB, memB, mid_idb, end_idb]; try decide
                    · refine RA.run (cx := ⟨pg, _, _, _, _, _, _, _⟩) pg_ok (by kernel_rfl) (by intro _ _ h; exact h) (al [18, 21, 22]) (e := false) (by kernel_rfl) ?_
                      refine lkS (find_mid (noKey1 hq1 hv1)) ?_
                      refine ⟨hrl, ?_⟩
                      refine RA.endJ (r1 5 9) (by kernel_rfl) hk ⟨⟨rfl, rfl, rfl, rfl, rfl, rfl, rfl, rfl, trivial⟩, ⟨rfl, congrArg (fun q => some (Res.mp none q)) (mid_ren (f := r1 5 9) (Y := 3)).symm, congrArg (fun q => some (Res.mp none q)) ((put_mid (noKey1 hq1 hv1)).trans (mid_ren (f := r1 5 9) (Y := 5)).symm), congrArg (fun q => some (Res.row 3 1 q)) (iRow_snoc r i), rfl, rfl, trivial⟩, ?_⟩
                      simp [idbE, idb, idbL, idbH, idbR, hids, distB, fixB, memB, mid_idb, end_idb]; try decide
                · refine JK.focus (F := ownI) (kd := none) (l1 := encI l1) (l2 := encI l2) (key := .string S[i][j].name) (x := enc1 M) 0 hX fun m1 m2 f1 f2 hm1 hm2 => ?_
                  refine JK.mopen (F := rowF 3) (kd := none) (l := enc1 M) (f := f1) 3 rfl fun q g2 hq => ?_
                  refine V ?_
                  refine ⟨by kernel_rfl, ?_⟩
                  refine lkS (find_mid (noKeyI hm1 hn1)) ?_
                  refine p2 ?_
                  refine JK.drawJ [3] ⟨[(4, .p 1 0), (14, lss S), (15, gi S.length), (16, gi i), (5, gi i), (28, .sl 2 (S[i].map lb)), (29, gi S[i].length), (30, gi j)], [(1, .blk 59 [gi S.length, .o 0]), (0, .mp none (mE m1 ++ (Value.string S[i][j].name, .o 3) :: mE m2)), (3, .mp none (mE q ++ (Value.string S[i][j].value, .o 2) :: mE ([] : List (Value × List Int × Value)))), (2, .row 3 1 (iRow [(i : Int)])), (4, .ab (bag ownI ((m1 ++ m2).map (·.2)) f2)), (5, .ab (bag (rowF 3) (q.map (·.2)) g2))], 6⟩ pg_ok ?_ (fun hk => ?_)
                  · refine JK.pack (fun _ => 2) 1 2 [(0, .row 3 1 (iRow [(i : Int)]))] ⟨rfl, trivial⟩ rfl fun g1 => ?_
                    refine JK.unfocus (F := rowF 3) (kd := none) (m1 := q) (m2 := []) (x := [(i : Int)]) (f1 := g1) (f2 := g2) 3 2 5 rfl rfl (congrArg (fun q' : List (Value × List Int × Value) => some (Res.ab (bag (rowF 3) (q'.map Prod.snd) g2))) (List.append_nil q).symm) fun f1 => ?_
                    refine JK.unfocus (F := ownI) (kd := none) (m1 := m1) (m2 := m2) (x := q.map er ++ (Value.string S[i][j].value, [(i : Int)]) :: List.map er ([] : List (Value × List Int × Value))) (f1 := f1) (f2 := f2) 0 3 4 rfl rfl rfl fun f' => ?_
                    refine V ?_
                    refine ⟨(j + 1, f'), id, ⟨⟨rfl, rfl, rfl, rfl, rfl, rfl, rfl, succ_gi (by omega), trivial⟩, ⟨rfl, ?_, trivial⟩, rfl⟩, hjl, by show S[i].length - (j + 1) < S[i].length - j; omega⟩
                    refine congrArg (fun q => some (Res.ab (mapA ownI none q f'))) ?_
                    have e : enc1 (M ++ [(S[i][j].value, [(i : Int)])]) = enc1 M ++ (Value.string S[i][j].value, [(i : Int)]) :: List.map er ([] : List (Value × List Int × Value)) := by simp [enc1]
                    rw [hstep, hm1, hm2, hq, ← e, ← encI_mid, hL]
                    unfold addI
                    rw [modA_old hn1, modA_new hv]
                    rfl
                  · refine RA.run (cx := ⟨pg, _, _, _, _, _, _, _⟩) pg_ok (by kernel_rfl) (by intro _ _ h; exact h) (tk [0, 1, 2, 3, 4, 5, 6, 7, 8, 9, 10, 11, 12, 13, 14, 15, 16, 17, 19]) (e := false) (by kernel_rfl) ?_
                    refine lkS (find_mid (noKeyI hm1 hn1)) ?_
                    refine lkS (find_mid (noKeyI hm1 hn1)) ?_
                    refine RA.both 18 20 (eqB_eq (by kernel_rfl)) (Stp.read 18 pg_ok rfl rfl ?_) (Stp.mem 20 pg_ok rfl rfl rfl ?_)
                    · refine lkN (find_no (noKey1 hq hv)) ?_
                      refine RA.run (cx := ⟨pg, _, _, _, _, _, _, _⟩) pg_ok (by kernel_rfl) (by intro _ _ h; exact h) (al [20, 21, 22]) (e := false) (by kernel_rfl) ?_
                      refine ⟨by simp, ?_⟩
                      refine RA.endJ (r1 2 7) (by kernel_rfl) hk ⟨⟨rfl, rfl, rfl, rfl, rfl, rfl, rfl, rfl, trivial⟩, ⟨rfl, congrArg (fun q => some (Res.mp none q)) (mid_ren (f := r1 2 7) (Y := 3)).symm, congrArg (fun q => some (Res.mp none q)) ((put_no (noKey1 hq hv)).trans (mid_ren (f := r1 2 7) (Y := 2) (m2 := ([] : List (Value × List Int × Value)))).symm), rfl, rfl, rfl, trivial⟩, ?_⟩
                      simp [idbE, idb, idbL, idbH, idbR, hids, distB, fixB, memB, mid_idb, end_idb]; try decide
                    · refine RA.run (cx := ⟨pg, _, _, _, _, _, _, _⟩) pg_ok (by kernel_rfl) (by intro _ _ h; exact h) (al [18, 21, 22]) (e := false) (by kernel_rfl) ?_
                      refine lkN (find_no (noKey1 hq hv)) ?_
                      refine ⟨by simp, ?_⟩
                      refine RA.endJ (r1 2 7) (by kernel_rfl) hk ⟨⟨rfl, rfl, rfl, rfl, rfl, rfl, rfl, rfl, trivial⟩, ⟨rfl, congrArg (fun q => some (Res.mp none q)) (mid_ren (f := r1 2 7) (Y := 3)).symm, congrArg (fun q => some (Res.mp none q)) ((put_no (noKey1 hq hv)).trans (mid_ren (f := r1 2 7) (Y := 2) (m2 := ([] : List (Value × List Int × Value)))).symm), rfl, rfl, rfl, trivial⟩, ?_⟩
                      simp [idbE, idb, idbL, idbH, idbR, hids, distB, fixB, memB, mid_idb, end_idb]; try decide
              · refine JK.mopen (F := ownI) (kd := none) (l := encI L) (f := f) 0 rfl fun m f2 hm => ?_
                refine V ?_
                refine ⟨by kernel_rfl, ?_⟩
                refine lkN (find_no (noKeyI hm hn)) ?_
                refine p1 ?_
                refine DRAW [0] true (tk [0, 1, 2, 3, 4, 5] ++ al [6, 7]) (by kernel_rfl) ?_
                have hfind := (congrArg (mfind (Value.string S[i][j].name)) (put_no (noKeyI hm hn))).trans (find_mid (g := .o 4) (m2 := ([] : List (Value × List (Value × List Int) × Value))) (noKeyI hm hn))
                refine JK.drawJ [4] ⟨[(4, .p 1 0), (14, lss S), (15, gi S.length), (16, gi i), (5, gi i), (28, .sl 2 (S[i].map lb)), (29, gi S[i].length), (30, gi j)], [(1, .blk 59 [gi S.length, .o 0]), (0, .mp none (mE m ++ (Value.string S[i][j].name, .o 4) :: mE ([] : List (Value × List (Value × List Int) × Value)))), (4, .mp none [(Value.string S[i][j].value, .o 2)]), (2, .row 3 1 (iRow [(i : Int)])), (3, .ab (bag ownI (m.map (·.2)) f2))], 5⟩ pg_ok ?_ (fun hk => ?_)
                · refine JK.pack (fun _ => 2) 1 2 [(0, .row 3 1 (iRow [(i : Int)]))] ⟨rfl, trivial⟩ rfl fun g1 => ?_
                  refine JK.bag0 (rowF 3) ?_
                  refine JK.unfocus (F := rowF 3) (kd := none) (m1 := []) (m2 := []) (x := [(i : Int)]) (f1 := g1) (f2 := []) 4 2 5 rfl rfl rfl fun f1 => ?_
                  refine JK.unfocus (F := ownI) (kd := none) (m1 := m) (m2 := []) (x := [(Value.string S[i][j].value, [(i : Int)])]) (f1 := f1) (f2 := f2) 0 4 3 rfl rfl (congrArg (fun q' : List (Value × List (Value × List Int) × Value) => some (Res.ab (bag ownI (q'.map Prod.snd) f2))) (List.append_nil m).symm) fun f' => ?_
                  refine V ?_
                  refine ⟨(j + 1, f'), id, ⟨⟨rfl, rfl, rfl, rfl, rfl, rfl, rfl, succ_gi (by omega), trivial⟩, ⟨rfl, ?_, trivial⟩, rfl⟩, hjl, by show S[i].length - (j + 1) < S[i].length - j; omega⟩
                  refine congrArg (fun q => some (Res.ab (mapA ownI none q f'))) ?_
                  have e : encI (L ++ [(S[i][j].name, [(S[i][j].value, [(i : Int)])])]) = encI L ++ (Value.string S[i][j].name, [(Value.string S[i][j].value, [(i : Int)])]) :: List.map er ([] : List (Value × List (Value × List Int) × Value)) := by simp [encI, enc1]
                  rw [hstep, hm, ← e]
                  unfold addI
                  rw [modA_new hn]
                  rfl
                · refine RA.run (cx := ⟨pg, _, _, _, _, _, _, _⟩) pg_ok (by kernel_rfl) (by intro _ _ h; exact h) (tk [0, 1, 2, 3, 4, 5, 6, 7, 8, 9, 10, 11, 12, 13, 14, 15, 16, 17, 19]) (e := false) (by kernel_rfl) ?_
                  refine lkS hfind ?_
                  refine lkS hfind ?_
                  refine RA.both 18 20 (eqB_eq (by kernel_rfl)) (Stp.read 18 pg_ok rfl rfl ?_) (Stp.mem 20 pg_ok rfl rfl rfl ?_)
                  · refine lkN rfl ?_
                    refine RA.run (cx := ⟨pg, _, _, _, _, _, _, _⟩) pg_ok (by kernel_rfl) (by intro _ _ h; exact h) (al [20, 21, 22]) (e := false) (by kernel_rfl) ?_
                    refine ⟨by simp, ?_⟩
                    refine RA.endJ (r1 2 6) (by kernel_rfl) hk ⟨⟨rfl, rfl, rfl, rfl, rfl, rfl, rfl, rfl, trivial⟩, ⟨rfl, congrArg (fun q => some (Res.mp none q)) ((put_no (noKeyI hm hn)).trans (mid_ren (f := r1 2 6) (Y := 4) (m2 := ([] : List (Value × List (Value × List Int) × Value)))).symm), rfl, rfl, rfl, trivial⟩, ?_⟩
                    simp [idbE, idb, idbL, idbH, idbR, idbM, hids, distB, fixB, memB, mid_idb, end_idb]; try decide
                  · refine RA.run (cx := ⟨pg, _, _, _, _, _, _, _⟩) pg_ok (by kernel_rfl) (by intro _ _ h; exact h) (al [18, 21, 22]) (e := false) (by kernel_rfl) ?_
                    refine lkN rfl ?_
                    refine ⟨by simp, ?_⟩
                    refine RA.endJ (r1 2 6) (by kernel_rfl) hk ⟨⟨rfl, rfl, rfl, rfl, rfl, rfl, rfl, rfl, trivial⟩, ⟨rfl, congrArg (fun q => some (Res.mp none q)) ((put_no (noKeyI hm hn)).trans (mid_ren (f := r1 2 6) (Y := 4) (m2 := ([] : List (Value × List (Value × List Int) × Value)))).symm), rfl, rfl, rfl, trivial⟩, ?_⟩
                    simp [idbE, idb, idbL, idbH, idbR, idbM, hids, distB, fixB, memB, mid_idb, end_idb]; try decide
            · refine p2 ?_ (decide_eq_false (by dsimp only; omega))
              obtain rfl : j = S[i].length := by omega
              refine ⟨f, id, ⟨⟨rfl, rfl, rfl, rfl, trivial⟩, ⟨rfl, ?_, trivial⟩, rfl⟩, trivial⟩
              rw [ixF_take S i hlt]
              simp only [List.take_length]
              rfl
          · rintro f _
            refine V ?_
            refine ⟨(i + 1, f), id, ⟨⟨rfl, rfl, rfl, succ_gi (by omega), trivial⟩, ⟨rfl, rfl, trivial⟩, rfl⟩, ⟨hlt, fun j h h2 => ?_⟩, by simp only; omega⟩
            rcases Nat.lt_succ_iff_lt_or_eq.1 h2 with h3 | rfl
            · exact hok j h h3
            · exact hr
        · refine GOJ (Rq.hf ((right_rt S[i] hsh).bt hr)) id rfl rfl trivial rfl (fun _ h => absurd h (Nat.not_lt_zero _)) ?_
          rintro _ _ _ ⟨rfl, rfl, rfl⟩
          refine VM 8 ?_
          refine FZB 2 rfl rfl ?_
          exact .inr ⟨i, hlt, hok, hr, rfl⟩
      · refine p2 ?_ (decide_eq_false (by dsimp only; omega))
        obtain rfl : i = S.length := by omega
        refine ⟨f, id, ⟨⟨rfl, trivial⟩, ⟨rfl, ?_, trivial⟩, rfl⟩, fun s hs => ?_⟩
        · simp only [List.take_length]; rfl
        · obtain ⟨j, hj, rfl⟩ := List.getElem_of_mem hs
          exact hok j hj hj
    · rintro f hall
      refine JK.frzIx 0 rfl fun f' => ?_
      refine V ?_
      exact .inl ⟨hall, f', rfl, rfl, rfl⟩
  · rintro g σ n (⟨hall, f, rfl, h1, h2⟩ | ⟨i, hi, h1, h2, rfl⟩)
    · exact ⟨fun i => bif Nat.beq i 0 then 1 else 0, .tup [.p 0 0, .v .nilIface], IX S f, 2, .inl ⟨hall, f, rfl, rfl, rfl⟩, rfl, ⟨h1, h2, trivial⟩, rfl⟩
    · exact ⟨id, _, [], 0, .inr ⟨i, hi, h1, h2, rfl, rfl, rfl⟩, rfl, trivial, rfl⟩
end Go.Proofs.YtpenlenmpigomaaGreatDoor
/-
  Plain laws: numbers that stand in order, each left once. No program is in sight.
-/
namespace Go.PL
open Go Go.GK Go.Lib
theorem compact_sorted (l : List Int) (h : l.Pairwise (· ≤ ·)) : Ris (compact l) ∧ ∀ z, z ∈ compact l ↔ z ∈ l := by
  suffices hm : ∀ m, m ≤ l.length → Ris (compactUpTo l.toArray m) ∧ ∀ z, z ∈ compactUpTo l.toArray m ↔ z ∈ l.take m by
    have := hm l.length (Nat.le_refl _)
    rw [List.take_length] at this
    exact this
  intro m
  induction m with
  | zero => intro _; exact ⟨by simp [compactUpTo], by simp [compactUpTo]⟩
  | succ m ih =>
    intro hm
    have hlt : m < l.length := hm
    obtain ⟨h1, h2⟩ := ih (by omega)
    have hg : ∀ j (hj : j < l.length), l.toArray[j]! = l[j] := fun j hj => by simp [hj]
    rw [compactUpTo_succ, List.take_succ_eq_append_getElem hlt]
    by_cases hk : keeps l.toArray m = true
    · rw [if_pos hk, hg m hlt]
      refine ⟨List.pairwise_append.2 ⟨h1, List.pairwise_singleton _ _, fun a ha b hb => ?_⟩, fun z => by rw [List.mem_append, List.mem_append, h2]⟩
      rw [List.mem_singleton.1 hb]
      obtain ⟨j, hj, rfl⟩ := List.getElem_of_mem ((h2 a).1 ha)
      rw [List.length_take] at hj
      rw [List.getElem_take]
      have hle := List.pairwise_iff_getElem.1 h
      cases m with
      | zero => omega
      | succ q =>
        have h3 : l[q] ≠ l[q + 1] := by
          unfold keeps at hk
          rw [decide_eq_true_iff] at hk
          rcases hk with hk | hk
          · omega
          · rw [Nat.add_sub_cancel, hg q (by omega), hg (q + 1) hlt] at hk
            exact fun e => hk e.symm
        have h4 : l[q] ≤ l[q + 1] := hle q (q + 1) (by omega) hlt (by omega)
        have h5 : l[j] ≤ l[q] := by
          by_cases e : j = q
          · subst e; exact Int.le_refl _
          · exact hle j q (by omega) (by omega) (by omega)
        omega
    · rw [if_neg hk, List.append_nil]
      refine ⟨h1, fun z => ?_⟩
      rw [h2, List.mem_append, List.mem_singleton]
      refine ⟨.inl, fun hz => hz.elim id fun e => ?_⟩
      cases m with
      | zero => exact absurd (by simp [keeps]) hk
      | succ q =>
        have h3 : l[q] = l[q + 1] := by
          unfold keeps at hk
          rw [decide_eq_true_iff, not_or, Decidable.not_not] at hk
          have := hk.2
          rw [Nat.add_sub_cancel, hg q (by omega), hg (q + 1) hlt] at this
          exact this.symm
        rw [e, ← h3, List.mem_iff_getElem]
        exact ⟨q, by rw [List.length_take]; omega, by simp⟩
theorem compact_le (l : List Int) : (compact l).length ≤ l.length := by
  unfold compact compactUpTo
  rw [List.length_map]
  exact Nat.le_trans (List.length_filter_le _ _) (by simp)
/-- Those of either. -/
def orF (a b : List Int) : List Int := compact ((a ++ b).mergeSort fun x y => decide (x ≤ y))
theorem orF_is (a b : List Int) : IsOr a b (orF a b) := by
  have hs : ((a ++ b).mergeSort fun x y => decide (x ≤ y)).Pairwise (· ≤ ·) := by
    have := List.pairwise_mergeSort (le := fun x y : Int => decide (x ≤ y)) (fun a b c h1 h2 => by simp at h1 h2 ⊢; omega) (fun a b => by simp; omega) (a ++ b)
    exact this.imp fun h => by simpa using h
  obtain ⟨h1, h2⟩ := compact_sorted _ hs
  exact ⟨h1, fun z => by unfold orF; rw [h2, List.mem_mergeSort, List.mem_append]⟩
theorem orF_up (N : Nat) (p q : Nat → Bool) : orF (upL N p) (upL N q) = upL N fun i => p i || q i := or_up (orF_is _ _)
theorem orF_len (a b : List Int) : (orF a b).length ≤ a.length + b.length := by
  unfold orF compact compactUpTo
  rw [List.length_map]
  refine Nat.le_trans (List.length_filter_le _ _) ?_
  simp
end Go.PL
/-
  DERIVED: THE SHELF's CONTRACTS AT THIS DUMP, IN PLAIN WORDS (tools/lay-plain.mjs out of 'TryzShelf.lean', which tools/lay-shelf.mjs wrote): THE SAME DECLARATIONS UNDER THE SAME NAMES: 'import', 'namespace', 'open', 'def', 'theorem' AND NOTHING ELSE: no command of the shelf's: FOR A HAND-IN. Each laying: the table of numbers ('.._ren') and one theorem, a field a fact of the dump's own or the kernel's comparison; each contract: ONE APPLICATION.
-/
namespace Go.Proofs
open Go.Shelf
def Tryz.lays189_ren : Go.Shelf.Ren := ⟨fun | 189 => 60 | 125 => 36 | 257 => 84 | 128 => 55 | 129 => 56 | 294 => 95 | 295 => 96 | 296 => 97 | 297 => 98 | 298 => 99 | 299 => 100 | 216 => 81 | 300 => 101 | 301 => 102 | 328 => 106 | 329 => 76 | 330 => 77 | 331 => 107 | 332 => 108 | 215 => 94 | 343 => 112 | n => n, fun | 28 => 45 | 3 => 3 | 46 => 81 | 0 => 0 | 51 => 99 | 53 => 101 | 4 => 4 | 183 => 92 | 182 => 91 | 131 => 96 | 5 => 5 | 9 => 9 | 218 => 127 | 222 => 131 | 228 => 153 | 229 => 154 | n => n, fun | n => n⟩
theorem Tryz.lays189 : Go.Proofs.Lays.n189 Tryz.prog Tryz.lays189_ren := {
  mixed := by kernel_rfl
  f125 := Tryz.func36.trans (congrArg some (by kernel_rfl))
  f128 := Tryz.func55.trans (congrArg some (by kernel_rfl))
  f129 := Tryz.func56.trans (congrArg some (by kernel_rfl))
  f189 := Tryz.func60.trans (congrArg some (by kernel_rfl))
  f215 := Tryz.func94.trans (congrArg some (by kernel_rfl))
  f216 := Tryz.func81.trans (congrArg some (by kernel_rfl))
  f257 := Tryz.func84.trans (congrArg some (by kernel_rfl))
  f294 := Tryz.func95.trans (congrArg some (by kernel_rfl))
  f295 := Tryz.func96.trans (congrArg some (by kernel_rfl))
  f296 := Tryz.func97.trans (congrArg some (by kernel_rfl))
  f297 := Tryz.func98.trans (congrArg some (by kernel_rfl))
  f298 := Tryz.func99.trans (congrArg some (by kernel_rfl))
  f299 := Tryz.func100.trans (congrArg some (by kernel_rfl))
  f300 := Tryz.func101.trans (congrArg some (by kernel_rfl))
  f301 := Tryz.func102.trans (congrArg some (by kernel_rfl))
  f328 := Tryz.func106.trans (congrArg some (by kernel_rfl))
  f329 := Tryz.func76.trans (congrArg some (by kernel_rfl))
  f330 := Tryz.func77.trans (congrArg some (by kernel_rfl))
  f331 := Tryz.func107.trans (congrArg some (by kernel_rfl))
  f332 := Tryz.func108.trans (congrArg some (by kernel_rfl))
  f343 := Tryz.func112.trans (congrArg some (by kernel_rfl))
  t0 := Tryz.underlying0
  a0 := Tryz.isAgg0
  z0 := Tryz.sizeOf0
  v0 := Tryz.zeroValue0
  t3 := Tryz.underlying3
  a3 := Tryz.isAgg3
  z3 := Tryz.sizeOf3
  v3 := Tryz.zeroValue3
  t4 := Tryz.underlying4
  a4 := Tryz.isAgg4
  z4 := Tryz.sizeOf4
  v4 := Tryz.zeroValue4
  t5 := Tryz.underlying5
  a5 := Tryz.isAgg5
  z5 := Tryz.sizeOf5
  v5 := Tryz.zeroValue5
  t9 := Tryz.underlying9
  a9 := Tryz.isAgg9
  z9 := Tryz.sizeOf9
  v9 := Tryz.zeroValue9
  t28 := Tryz.underlying45
  a28 := Tryz.isAgg45
  z28 := Tryz.sizeOf45
  v28 := Tryz.zeroValue45
  t46 := Tryz.underlying81
  a46 := Tryz.isAgg81
  z46 := Tryz.sizeOf81
  v46 := Tryz.zeroValue81
  t51 := Tryz.underlying99
  a51 := Tryz.isAgg99
  z51 := Tryz.sizeOf99
  v51 := Tryz.zeroValue99
  t53 := Tryz.underlying101
  a53 := Tryz.isAgg101
  z53 := Tryz.sizeOf101
  v53 := Tryz.zeroValue101
  t131 := Tryz.underlying96
  a131 := Tryz.isAgg96
  z131 := Tryz.sizeOf96
  v131 := Tryz.zeroValue96
  t182 := Tryz.underlying91
  a182 := Tryz.isAgg91
  z182 := Tryz.sizeOf91
  v182 := Tryz.zeroValue91
  t183 := Tryz.underlying92
  a183 := Tryz.isAgg92
  z183 := Tryz.sizeOf92
  v183 := Tryz.zeroValue92
  t218 := Tryz.underlying127
  a218 := Tryz.isAgg127
  z218 := Tryz.sizeOf127
  v218 := Tryz.zeroValue127
  t222 := Tryz.underlying131
  a222 := Tryz.isAgg131
  z222 := Tryz.sizeOf131
  v222 := Tryz.zeroValue131
  t228 := Tryz.underlying153
  a228 := Tryz.isAgg153
  z228 := Tryz.sizeOf153
  v228 := Tryz.zeroValue153
  t229 := Tryz.underlying154
  a229 := Tryz.isAgg154
  z229 := Tryz.sizeOf154
  v229 := Tryz.zeroValue154 }
open Go.Sort Go.RowKit in
theorem Tryz.slices_Sort_int (blk off cap : Nat) (zs : List Int) (w : World) (hH : Holds (Value.int .i64) w blk off zs.toArray) (hblk : blk < w.heap.size) (hsz : zs.length < 4611686018427387904) :
    Calls Tryz.prog 60 #[.slice (some ⟨blk, off, none⟩) zs.length cap] w fun e w' =>
      e = .returned (.tuple #[]) ∧ ∃ n os, w' = grow (putRow (Value.int .i64) (Sort.ahead w n) blk off (zs.mergeSort fun x y => decide (x ≤ y)).toArray) os := Any.slices_Sort_int Tryz.lays189 blk off cap zs w hH hblk hsz
def Tryz.laysNm220_ren : Go.Shelf.Ren := ⟨fun | 20 => 61 | n => n, fun | 22 => 45 | 3 => 3 | 4 => 4 | 0 => 0 | n => n, fun | n => n⟩
theorem Tryz.laysNm220 : Go.Proofs.Lays2.n20 Tryz.prog Tryz.laysNm220_ren := {
  mixed := by kernel_rfl
  f20 := Tryz.func61.trans (congrArg some (by kernel_rfl))
  t0 := Tryz.underlying0
  a0 := Tryz.isAgg0
  z0 := Tryz.sizeOf0
  v0 := Tryz.zeroValue0
  t3 := Tryz.underlying3
  a3 := Tryz.isAgg3
  z3 := Tryz.sizeOf3
  v3 := Tryz.zeroValue3
  t4 := Tryz.underlying4
  a4 := Tryz.isAgg4
  z4 := Tryz.sizeOf4
  v4 := Tryz.zeroValue4
  t22 := Tryz.underlying45
  a22 := Tryz.isAgg45
  z22 := Tryz.sizeOf45
  v22 := Tryz.zeroValue45
  i3 := by kernel_rfl }
open Go.RowKit Go.Lib Go.Sort in
/-- slices.Compact at []int: "Compact replaces consecutive runs of equal elements with a single copy. This is like the uniq command found on Unix. Compact modifies the contents of the slice s and returns the modified slice, which may have a smaller length. Compact zeroes the elements between the new length and the original length. The result preserves the nilness of s.": IT RETURNS THE SLICE CUT TO 'Lib.compact zs'; ITS CELLS HOLD 'Lib.compact zs', THEN ZERO VALUES up to the old length; all else is as it was, but for the count of draws. IN THE WORDS OF slices.Sort's CONTRACT ('Holds', 'putRow'): so the everyday 'slices.Sort(xs); xs = slices.Compact(xs)' goes from the one contract to the other. It asks 'zs.length ≤ cap' (every slice's: the reslicing 's[:k]' looks at it). Length 0, nil: '.._empty'. (LAID: no walk: one application.) -/
theorem Tryz.slices_Compact_int (blk off cap : Nat) (zs : List Int) (w : World) (hH : Holds (Value.int .i64) w blk off zs.toArray) (hsz : zs.length ≤ 9223372036854775807) (hcap : zs.length ≤ cap) :
    Calls Tryz.prog 61 #[.slice (some ⟨blk, off, none⟩) zs.length cap] w fun e w' => e = .returned (.slice (some ⟨blk, off, none⟩) (Lib.compact zs).length cap) ∧ ∃ q, w' = putRow (Value.int .i64) (Sort.ahead w q) blk off (Lib.compact zs ++ List.replicate (zs.length - (Lib.compact zs).length) 0).toArray := Any.slices_Compact_int Tryz.laysNm220 blk off cap zs w hH hsz hcap
open Go.RowKit Go.Lib Go.Sort in
/-- The same at a slice of length 0, a nil one too: it comes back as it is. (LAID: no walk: one application.) -/
theorem Tryz.slices_Compact_int_empty (a : Option Addr) (cap : Nat) (w : World) :
    Calls Tryz.prog 61 #[.slice a 0 cap] w fun e w' => e = .returned (.slice a 0 cap) ∧ w' = w := Any.slices_Compact_int_empty Tryz.laysNm220 a cap w
def Tryz.laysNm225_ren : Go.Shelf.Ren := ⟨fun | 25 => 58 | 31 => 81 | 32 => 82 | 37 => 94 | n => n, fun | 22 => 45 | 3 => 3 | 4 => 4 | 40 => 81 | 0 => 0 | n => n, fun | n => n⟩
theorem Tryz.laysNm225 : Go.Proofs.Lays2.n25 Tryz.prog Tryz.laysNm225_ren := {
  mixed := by kernel_rfl
  f25 := Tryz.func58.trans (congrArg some (by kernel_rfl))
  f31 := Tryz.func81.trans (congrArg some (by kernel_rfl))
  f32 := Tryz.func82.trans (congrArg some (by kernel_rfl))
  f37 := Tryz.func94.trans (congrArg some (by kernel_rfl))
  t0 := Tryz.underlying0
  a0 := Tryz.isAgg0
  z0 := Tryz.sizeOf0
  v0 := Tryz.zeroValue0
  t3 := Tryz.underlying3
  a3 := Tryz.isAgg3
  z3 := Tryz.sizeOf3
  v3 := Tryz.zeroValue3
  t4 := Tryz.underlying4
  a4 := Tryz.isAgg4
  z4 := Tryz.sizeOf4
  v4 := Tryz.zeroValue4
  t22 := Tryz.underlying45
  a22 := Tryz.isAgg45
  z22 := Tryz.sizeOf45
  v22 := Tryz.zeroValue45
  t40 := Tryz.underlying81
  a40 := Tryz.isAgg81
  z40 := Tryz.sizeOf81
  v40 := Tryz.zeroValue81 }
open Go.RowKit Go.Lib in
/-- slices.BinarySearch at []int: "BinarySearch searches for target in a sorted slice and returns the earliest position where target is found, or the position where target would appear in the sort order; it also returns a bool saying whether the target is really found in the slice. The slice must be sorted in increasing order.": OF A SORTED SLICE IT RETURNS how many elements are less than the target, and whether the target is among the elements; the world is as it was but for the count of draws. 'zs': what the cells behind the slice's address hold; 'zs.take n': its elements. (Of a slice that is not sorted: no contract here.) (LAID: no walk: one application.) -/
theorem Tryz.slices_BinarySearch_int (b off n c : Nat) (zs : List Int) (x : Int) (w : World) (hz : n ≤ zs.length) (hbig : n < 4611686018427387904) (hc : ∀ j, j < zs.length → w.cell? ⟨b, off + j, none⟩ = some (.int .i64 (zs.getD j 0))) (hs : (zs.take n).Pairwise (· ≤ ·)) :
    Calls Tryz.prog 58 #[.slice (some ⟨b, off, none⟩) n c, .int .i64 x] w fun e w' => e = .returned (.tuple #[.int .i64 ((zs.take n).countP (· < x) : Nat), .bool ((zs.take n).contains x)]) ∧ ∃ q, w' = w.drewN q := Any.slices_BinarySearch_int Tryz.laysNm225 b off n c zs x w hz hbig hc hs
open Go.RowKit Go.Sort in
/-- .. and plain. (LAID: no walk: one application.) -/
theorem Tryz.slices_Sort_int_none (p : Option Addr) (cap : Nat) (w : World) :
    Calls Tryz.prog 60 #[.slice p 0 cap] w fun e w' => e = .returned (.tuple #[]) ∧ w' = w := Any.slices_Sort_int_none Tryz.lays189 p cap w
open Go.RowKit Go.Lib in
/-- slices.BinarySearch at []int of no element: position 0, not found; the world is as it was. (LAID: no walk: one application.) -/
theorem Tryz.slices_BinarySearch_int_empty (a : Option Addr) (c : Nat) (x : Int) (w : World) :
    Calls Tryz.prog 58 #[.slice a 0 c, .int .i64 x] w fun e w' => e = .returned (.tuple #[.int .i64 0, .bool false]) ∧ w' = w := Any.slices_BinarySearch_int_empty Tryz.laysNm225 a c x w
end Go.Proofs
/-
  Contracts: slices of numbers: Grow, Concat, Sort, Compact, BinarySearch, Contains.
-/
namespace Go.Proofs.YtpenlenmpigomaaGreatDoor
open Go.GK Go.PL Go.RowKit Go.Sort Go.Lib
set_option maxRecDepth 100000
abbrev ils (l : List Int) : GV := .sl 1 (iRow l)
theorem iRow_len (l : List Int) : (iRow l).length = l.length := by simp [iRow]
theorem growI_hf (n : Nat) (hn : n ≤ 1000000) : Hf pg 83 0 [.v (.slice none 0 0), gi n] [] (fun g σ m => g = .o 0 ∧ σ = [(0, .row 3 1 [])] ∧ m = 1) := by
  refine Hf.weak (Q := fun g σ _ => ∃ id : Nat, g = .o id ∧ hlook σ id = some (.row 3 1 [])) (Hf.ofJ pg_ok Tryz.func83 rfl Tryz.ntmps83 rfl Tryz.results83 Tryz.call83 fun H0 S0 w0 h0 g0 => ?_) ?_
  · refine VM 17 ?_
    refine p2 ?_ (decide_eq_false (by omega))
    refine JK.capNil pg_ok rfl rfl rfl rfl rfl ?_
    have hw : IntKind.i64.wrap ((n : Int) - IntKind.i64.wrap (0 - ((0 : Nat) : Int))) = (n : Int) := by
      rw [wrap_id (x := 0 - ((0 : Nat) : Int)) (by omega) (by omega), wrap_id (by omega) (by omega)]; omega
    by_cases h0 : n = 0
    · refine VM 14 ?_
      refine p2 ?_ (decide_eq_false (by rw [hw]; omega))
      refine JK.ownNil 0 3 1 rfl ?_
      refine V ?_
      exact ⟨_, rfl, rfl⟩
    · refine VM 15 ?_
      refine p1 ?_ (decide_eq_true (by rw [hw]; omega))
      refine JK.capNil pg_ok rfl rfl rfl rfl rfl ?_
      refine VM 2 ?_
      refine ⟨rfl, rfl, ?_⟩
      refine JK.appendZ (n := n) (sz := 1) (kn := .i64) pg_ok rfl rfl rfl rfl (by kernel_rfl) rfl rfl (by omega) rfl rfl (by exact congrArg (fun i => some (gi i)) hw) (by omega) (by dsimp only; omega) (by omega) (fun zs hz => ?_)
      refine VM 2 ?_
      refine JK.cutO pg_ok rfl rfl rfl rfl rfl rfl rfl rfl rfl rfl (by omega) (by omega) ?_
      refine V ?_
      exact ⟨_, rfl, rfl⟩
  · rintro G σ n ⟨id, rfl, h⟩
    exact ⟨r1 0 id, .o 0, [(0, .row 3 1 [])], 1, ⟨rfl, rfl, rfl⟩, rfl, ⟨h, trivial⟩, rfl⟩
theorem flatI_step {α : Type} (L : List (List α)) (i : Nat) (h : i < L.length) : (L.take (i + 1)).flatten = (L.take i).flatten ++ L[i] := by
  rw [List.take_succ_eq_append_getElem h, List.flatten_append]
  simp
theorem flatI_len {α : Type} (L : List (List α)) (i : Nat) : (L.take i).flatten.length ≤ L.flatten.length := by
  conv => rhs; rw [← List.take_append_drop i L, List.flatten_append, List.length_append]
  omega
theorem concatI_hf (L : List (List Int)) (hl : L.length ≤ 1000) (hs : L.flatten.length ≤ 1000000) :
    Hf pg 59 1 [.o 0] [(0, .row 45 1 (L.map fun s => [ils s]))] (fun g σ n => g = .o 1 ∧ σ = [(1, .row 3 1 (iRow L.flatten)), (0, .row 45 1 (L.map fun s => [ils s]))] ∧ n = 2) := by
  refine Hf.weak (Q := fun g σ _ => g = .o 1 ∧ hlook σ 1 = some (.row 3 1 (iRow L.flatten)) ∧ hlook σ 0 = some (.row 45 1 (L.map fun s => [ils s]))) (Hf.of pg_ok Tryz.func59 rfl Tryz.ntmps59 rfl Tryz.results59 Tryz.call59 fun H0 S0 w0 h0 g0 => ?_) ?_
  · have hll : (L.map fun s => [ils s]).length = L.length := by simp
    refine JK.loopE (α := Nat) (β := Unit) (fun i => ⟨[(0, .o 0), (3, gi (L.take i).flatten.length), (9, .o 0), (10, gi (L.map fun s => [ils s]).length), (11, gi i)], [(0, .row 45 1 (L.map fun s => [ils s]))], 1⟩) (fun i => i ≤ L.length) (fun i => L.length - i)
      (fun _ => ⟨[(0, .o 0), (3, gi L.flatten.length)], [(0, .row 45 1 (L.map fun s => [ils s]))], 1⟩) (fun _ => True) 0 id ?_ (Nat.zero_le _) ?_ ?_
    · exact ⟨⟨rfl, rfl, rfl, rfl, rfl, trivial⟩, ⟨rfl, trivial⟩, rfl⟩
    · rintro i hi
      replace hi : i ≤ L.length := hi
      refine V ?_
      by_cases hlt : i < L.length
      · have hst := flatI_step L i (by omega)
        have hle := flatI_len L (i + 1)
        rw [hst, List.length_append] at hle
        refine p1 ?_ (decide_eq_true (by omega))
        refine ⟨by omega, by omega, ?_⟩
        refine ⟨[ils L[i]], by simp [hlt], ?_⟩
        have hsl := iRow_len L[i]
        refine p2 ?_ (decide_eq_false (by rw [wrap_id (by omega) (by omega)]; omega))
        refine ⟨i + 1, id, ⟨⟨rfl, ?_, rfl, rfl, succ_gi (by omega), trivial⟩, ⟨rfl, trivial⟩, rfl⟩, hlt, by show L.length - (i + 1) < L.length - i; omega⟩
        exact congrArg (fun i => some (gi i)) (by rw [wrap_id (by omega) (by omega), hst, List.length_append, hsl]; omega)
      · refine p2 ?_ (decide_eq_false (by omega))
        obtain rfl : i = L.length := by omega
        rw [List.take_length]
        exact ⟨(), id, ⟨⟨rfl, rfl, trivial⟩, ⟨rfl, trivial⟩, rfl⟩, trivial⟩
    · rintro _ _
      refine V ?_
      refine GOH (growI_hf L.flatten.length hs) id rfl rfl trivial rfl (fun _ h => absurd h (Nat.not_lt_zero _)) ?_
      rintro _ _ _ ⟨rfl, rfl, rfl⟩
      refine JK.loopE (α := Nat) (β := Unit) (fun i => ⟨[(0, .o 0), (6, .o 1), (25, .o 0), (26, gi (L.map fun s => [ils s]).length), (27, gi i)], [(1, .row 3 1 (iRow (L.take i).flatten)), (0, .row 45 1 (L.map fun s => [ils s]))], 2⟩) (fun i => i ≤ L.length) (fun i => L.length - i)
        (fun _ => ⟨[(6, .o 1)], [(1, .row 3 1 (iRow L.flatten)), (0, .row 45 1 (L.map fun s => [ils s]))], 2⟩) (fun _ => True) 0 id ?_ (Nat.zero_le _) ?_ ?_
      · exact ⟨⟨rfl, rfl, rfl, rfl, rfl, trivial⟩, ⟨rfl, rfl, trivial⟩, rfl⟩
      · rintro i hi
        replace hi : i ≤ L.length := hi
        refine V ?_
        by_cases hlt : i < L.length
        · have hst := flatI_step L i (by omega)
          have hle := flatI_len L (i + 1)
          rw [hst, List.length_append] at hle
          have hsl := iRow_len L[i]
          have hsf := iRow_len (L.take i).flatten
          refine p1 ?_ (decide_eq_true (by omega))
          refine ⟨by omega, by omega, ?_⟩
          refine ⟨[ils L[i]], by simp [hlt], ?_⟩
          refine ⟨by dsimp only; omega, ?_⟩
          refine ⟨i + 1, r1 1 2, ⟨⟨rfl, rfl, rfl, rfl, succ_gi (by omega), trivial⟩, ⟨?_, rfl, trivial⟩, rfl⟩, hlt, by show L.length - (i + 1) < L.length - i; omega⟩
          refine congrArg (fun r => some (Res.row 3 1 r)) ?_
          rw [hst]
          show _ = iRow (_ ++ _)
          unfold iRow
          rw [List.map_append]
        · refine p2 ?_ (decide_eq_false (by omega))
          obtain rfl : i = L.length := by omega
          rw [List.take_length]
          exact ⟨(), id, ⟨⟨rfl, trivial⟩, ⟨rfl, rfl, trivial⟩, rfl⟩, trivial⟩
      · rintro _ _
        refine V ?_
        exact ⟨rfl, rfl, rfl⟩
  · rintro g σ n ⟨rfl, h1, h2⟩
    exact ⟨id, _, [(1, .row 3 1 (iRow L.flatten)), (0, .row 45 1 (L.map fun s => [ils s]))], 2, ⟨rfl, rfl, rfl⟩, (ren_id _).symm, ⟨h1, h2, trivial⟩, rfl⟩
theorem row_ints {ro : Nat → Option Obj} {L : List Int} {xs : List Value} (h : RowOk ro 1 (iRow L) xs) : xs = L.map (Value.int .i64) := by
  have hl := h.len
  simp only [iRow, List.length_map, Nat.mul_one] at hl
  refine List.ext_getElem? fun i => ?_
  by_cases hi : i < L.length
  · obtain ⟨u, h1, h2⟩ := h.is i [gi L[i]] (by simp [iRow, hi]) 0 (gi L[i]) rfl
    rw [Nat.mul_one, Nat.add_zero] at h1
    cases h2
    rw [h1]
    simp [hi]
  · rw [List.getElem?_eq_none (by omega), List.getElem?_eq_none (by simp; omega)]
theorem rowOk_ints (ro : Nat → Option Obj) (L : List Int) : RowOk ro 1 (iRow L) (L.map (Value.int .i64)) := by
  refine ⟨by simp [iRow], fun row hr => ?_, fun i row hr j g hj => ?_, fun u hu => ?_⟩
  · obtain ⟨x, _, rfl⟩ := List.mem_map.1 hr
    rfl
  · rw [List.getElem?_map] at hr
    cases hx : L[i]? with
    | none => rw [hx] at hr; cases hr
    | some x =>
      rw [hx] at hr
      cases hr
      cases j with
      | zero => simp at hj; subst hj; exact ⟨.int .i64 x, by simp [hx], .v _⟩
      | succ j => simp at hj
  · obtain ⟨x, _, rfl⟩ := List.mem_map.1 hu
    rfl
abbrev sortI (L : List Int) : List Int := L.mergeSort fun x y => decide (x ≤ y)
theorem arg1 {H : Hid} {us : Array Value} (h : Cells H [.o 0] us) : us = #[H.sv 0] := by
  obtain ⟨hul, hi⟩ := h
  have hi0 := (hi 0 (.o 0) rfl).inv_o
  refine Array.ext (by simpa using hul.symm) (fun i h3 h4 => ?_)
  have h5 : i = 0 := by have : i < 1 := by simpa using h4
                        omega
  subst h5
  have := hi0.1
  rw [Array.getD, dif_pos h3] at this
  simpa using this
/-- A row of numbers, written anew in its place. -/
theorem turnI {H : Hid} {L M : List Int} {w : World} (hs : Sat H [(0, .row 3 1 (iRow L))] w) {gb cap n : Nat} {cur : Array Value} {os : Array Obj} {d : List Int} (hv : H.sv 0 = .slice (some ⟨gb, 0, none⟩) L.length cap) (hgb : w.heap[gb]? = some (.cells cur 3 (0, 0)))
    (hnc : L.length ≤ cap) (hcm : cap ≤ maxLen) (hcz : cur.size = cap * 1) (hd : d.length = L.length) (hM : M.length ≤ L.length) (hMd : d.take M.length = M) {H' : Hid} (hle : H.le H') (hro : H'.ro = H.ro) (id : Nat) (hid : id < H'.n) (hsv : H'.sv id = .slice (some ⟨gb, 0, none⟩) M.length cap) :
    Sat H' [(id, .row 3 1 (iRow M))] (grow (putRow (Value.int .i64) (Sort.ahead w n) gb 0 d.toArray) os) ∧ Fr H (blks H [(0, .row 3 1 (iRow L))]) w H' (blks H' [(id, .row 3 1 (iRow M))]) (grow (putRow (Value.int .i64) (Sort.ahead w n) gb 0 d.toArray) os) := by
  have hb0 : blks H [(0, .row 3 1 (iRow L))] = [gb] := by simp [blks, blocks, hv, Value.ownBlock]
  have hb1 : blks H' [(id, .row 3 1 (iRow M))] = [gb] := by simp [blks, blocks, hsv, Value.ownBlock]
  have hglt : gb < w.heap.size := (Array.getElem?_eq_some_iff.1 hgb).1
  have hfree := hs.free gb (by rw [hb0]; simp)
  refine ⟨⟨fun b o hr => ?_, fun x hx => ?_, by rw [hb1]; simp, fun b hb => ?_, fun x hx => ?_⟩, ?_⟩
  · rw [hro] at hr
    have hbo := hs.ro b o hr
    have hne : b ≠ gb := fun e => by rw [← e, hr] at hfree; cases hfree
    rw [← hbo]
    exact (grownBy_sortedI (w := w) (g := gb) (n := n) (os := os) _).block b (Array.getElem?_eq_some_iff.1 hbo).1 (fun e => hne (Option.some.inj e))
  · rw [List.mem_singleton.1 hx]
    refine ⟨M.map (Value.int .i64), ?_, rowOk_ints _ _⟩
    show World.ownsRow _ _ _ _ (H'.sv id) _ _
    rw [hsv, iRow_len]
    refine ⟨by simp, .inr ⟨gb, cap, _, rfl, Nat.zero_le _, heap_sortedI _ hgb, by omega, hcm, by simp [putCells, hcz], ?_⟩⟩
    have h1 := take_putCellsI cur d (by omega)
    have h2 := congrArg (List.take M.length) h1
    rw [List.take_take, Nat.min_eq_left (by omega), ← List.map_take, hMd] at h2
    rw [Nat.mul_one]
    exact h2
  · rw [hb1] at hb
    rw [List.mem_singleton.1 hb, hro]
    exact hfree
  · rw [List.mem_singleton.1 hx]
    exact hid
  · rw [hb0, hb1]
    refine ⟨rfl, rfl, rfl, ?_, fun b hb hnb => ?_, fun b hb => .inl hb, fun b h1 h2 => absurd h1 (by rw [hro] at h2; exact h2), hle⟩
    · rw [size_grow, show (putRow (Value.int .i64) (Sort.ahead w n) gb 0 _).heap.size = w.heap.size from Go.Sort.size_putRow _ _ _ _ _]
      omega
    · refine (grownBy_sortedI (w := w) (g := gb) (n := n) (os := os) _).block b hb fun e => hnb ?_
      rw [Option.some.inj e]
      simp
theorem sortI_hf (L : List Int) (hL : L.length < 4611686018427387904) : Hf pg 60 1 [.o 0] [(0, .row 3 1 (iRow L))] fun g σ' n' => g = .tup [] ∧ σ' = [(0, .row 3 1 (iRow (sortI L)))] ∧ n' = 1 := by
  refine ⟨Tryz.call60, fun H us w hn hg hcs hs => ?_⟩
  rw [arg1 hcs]
  obtain ⟨xs, hown, hrow⟩ := hs.holds (0, .row 3 1 (iRow L)) (by simp)
  have hxs := row_ints hrow
  obtain ⟨hxl, hcase⟩ := hown
  rcases hcase with ⟨hv, hn0⟩ | ⟨gb, cap, cur, hv, _, hgb, hnc, hcm, hcz, htk⟩
  · have hL0 : L = [] := by
      have : (iRow L).length = 0 := hn0
      simpa [iRow] using this
    subst hL0
    rw [hv]
    refine (Tryz.slices_Sort_int_none none 0 w).mono ?_
    rintro _ w' ⟨rfl, hw⟩
    have hw2 : w' = w := hw
    rw [hw2, show sortI [] = [] by simp [sortI]]
    exact ⟨_, .tup [], H, _, rfl, .tup rfl (fun j g h => by simp at h), hs, Fr.refl _ _ _, rfl, rfl, hn⟩
  · simp only [iRow, List.length_map, Nat.mul_one] at hxl hnc hcz htk hv
    have hglt : gb < w.heap.size := (Array.getElem?_eq_some_iff.1 hgb).1
    have hH : Holds (Value.int .i64) w gb 0 L.toArray := holds_of_blockI hgb (by rw [htk, hxs])
    rw [hv]
    refine (Tryz.slices_Sort_int gb 0 cap L w hH hglt hL).mono ?_
    rintro _ w' ⟨rfl, n, os, rfl⟩
    have ht := turnI hs (M := sortI L) (d := sortI L) (n := n) (os := os) hv hgb hnc hcm (by rw [Nat.mul_one]; exact hcz) (by simp [sortI]) (by simp [sortI]) List.take_length (Hid.le.refl H) rfl 0 (by omega) (by rw [hv]; simp [sortI])
    exact ⟨_, .tup [], H, _, rfl, .tup rfl (fun j g h => by simp at h), ht.1, ht.2, rfl, rfl, hn⟩
theorem compactI_hf (L : List Int) (hL : L.length < 4611686018427387904) : Hf pg 61 1 [.o 0] [(0, .row 3 1 (iRow L))] fun g σ' n' => g = .o 1 ∧ σ' = [(1, .row 3 1 (iRow (compact L)))] ∧ n' = 2 := by
  refine ⟨Tryz.call61, fun H us w hn hg hcs hs => ?_⟩
  rw [arg1 hcs]
  obtain ⟨xs, hown, hrow⟩ := hs.holds (0, .row 3 1 (iRow L)) (by simp)
  have hxs := row_ints hrow
  obtain ⟨hxl, hcase⟩ := hown
  rcases hcase with ⟨hv, hn0⟩ | ⟨gb, cap, cur, hv, _, hgb, hnc, hcm, hcz, htk⟩
  · have hL0 : L = [] := by
      have : (iRow L).length = 0 := hn0
      simpa [iRow] using this
    subst hL0
    rw [hv]
    refine (Tryz.slices_Compact_int_empty none 0 w).mono ?_
    rintro _ w' ⟨rfl, hw⟩
    have hw2 : w' = w := hw
    rw [hw2, show compact ([] : List Int) = [] from rfl]
    have hle := H.plus_le 1 (fun _ => 0) (fun _ => H.sv 0)
    have h1 : (H.plus 1 (fun _ => 0) (fun _ => H.sv 0)).sv 1 = H.sv 0 := by rw [← hn]; exact H.plus_sv _ _ _ 0
    have h2 : (H.plus 1 (fun _ => 0) (fun _ => H.sv 0)).n = 2 := by show H.n + 1 = 2; omega
    have h3 : (H.plus 1 (fun _ => 0) (fun _ => H.sv 0)).ro = H.ro := rfl
    generalize H.plus 1 (fun _ => 0) (fun _ => H.sv 0) = H' at hle h1 h2 h3
    have hb0 : blks H [(0, .row 3 1 (iRow []))] = [] := by simp [blks, blocks, hv, Value.ownBlock]
    have hb1 : blks H' [(1, .row 3 1 (iRow []))] = [] := by simp [blks, blocks, h1, hv, Value.ownBlock]
    refine ⟨_, .o 1, H', _, rfl, .o (by omega) (by rw [h1, hv]) rfl, ⟨by rw [h3]; exact hs.ro, fun x hx => ?_, by rw [hb1]; simp, by rw [hb1]; simp, fun x hx => ?_⟩, ?_, rfl, rfl, h2⟩
    · rw [List.mem_singleton.1 hx]
      refine ⟨[], ?_, rowOk_ints _ _⟩
      show World.ownsRow _ _ _ _ (H'.sv 1) _ _
      rw [h1, hv]
      exact ⟨rfl, .inl ⟨rfl, rfl⟩⟩
    · rw [List.mem_singleton.1 hx]; show 1 < H'.n; omega
    · rw [hb0, hb1]
      exact ⟨rfl, rfl, rfl, Nat.le_refl _, fun _ _ _ => rfl, fun b hb => .inl hb, fun b h1 h2 => absurd h1 (by rw [h3] at h2; exact h2), hle⟩
  · simp only [iRow, List.length_map, Nat.mul_one] at hxl hnc hcz htk hv
    have hglt : gb < w.heap.size := (Array.getElem?_eq_some_iff.1 hgb).1
    have hH : Holds (Value.int .i64) w gb 0 L.toArray := holds_of_blockI hgb (by rw [htk, hxs])
    rw [hv]
    refine (Tryz.slices_Compact_int gb 0 cap L w hH (by omega) hnc).mono ?_
    rintro _ w' ⟨rfl, q, rfl⟩
    have hle := H.plus_le 1 (fun _ => 0) (fun _ => .slice (some ⟨gb, 0, none⟩) (compact L).length cap)
    have h1 : (H.plus 1 (fun _ => 0) (fun _ => .slice (some ⟨gb, 0, none⟩) (compact L).length cap)).sv 1 = .slice (some ⟨gb, 0, none⟩) (compact L).length cap := by rw [← hn]; exact H.plus_sv _ _ _ 0
    have h2 : (H.plus 1 (fun _ => 0) (fun _ => .slice (some ⟨gb, 0, none⟩) (compact L).length cap)).n = 2 := by show H.n + 1 = 2; omega
    have h3 : (H.plus 1 (fun _ => 0) (fun _ => .slice (some ⟨gb, 0, none⟩) (compact L).length cap)).ro = H.ro := rfl
    generalize H.plus 1 (fun _ => 0) (fun _ => .slice (some ⟨gb, 0, none⟩) (compact L).length cap) = H' at hle h1 h2 h3
    have hcl := compact_le L
    have ht := turnI hs (M := compact L) (d := compact L ++ List.replicate (L.length - (compact L).length) 0) (n := q) (os := #[]) hv hgb hnc hcm (by rw [Nat.mul_one]; exact hcz) (by simp; omega) hcl (by simp) hle h3 1 (by omega) h1
    rw [show ∀ W : World, grow W #[] = W from fun W => by simp [grow]] at ht
    exact ⟨_, .o 1, H', _, rfl, .o (by omega) h1 rfl, ht.1, ht.2, rfl, rfl, h2⟩
theorem cells_of {w : World} {A : Option Addr} {c : Nat} {L : List Int} (h : SlAt w A c (L.map (Value.int .i64))) : L = [] ∨ ∃ b o, A = some ⟨b, o, none⟩ ∧ ∀ j, j < L.length → w.cell? ⟨b, o + j, none⟩ = some (.int .i64 (L.getD j 0)) := by
  rcases h.at_ with h | ⟨b, o, h1, _, h2⟩
  · exact .inl (by simpa using h)
  · refine .inr ⟨b, o, h1, fun j hj => h2 j _ ?_⟩
    simp [hj]
theorem iRow_v (L : List Int) : iRow L = (L.map (Value.int .i64)).map fun x => [GV.v x] := by simp [iRow]
theorem binSearch_rt (L : List Int) (x : Int) (hL : L.length < 4611686018427387904) (hs : L.Pairwise (· ≤ ·)) : Rt pg 58 [ils L, gi x] (.tup [gi (L.countP (· < x) : Nat), .v (.bool (L.contains x))]) := by
  refine Rq.mono (Rq.sub (Q' := fun g => g = .tup [gi (L.countP (· < x) : Nat), .v (.bool (L.contains x))]) (Q := fun g => g = .v (.tuple #[.int .i64 (L.countP (· < x) : Nat), .bool (L.contains x)])) ?_ ?_) fun _ h => h
  · show Rq pg _ [.sl 1 (iRow L), gi x] _
    rw [iRow_v]
    refine Rt.slice Tryz.call58 (L.map (Value.int .i64)) [.int .i64 x] _ fun A c w hat => ?_
    have hln : (L.map (Value.int .i64)).length = L.length := by simp
    rw [hln]
    rcases cells_of hat with rfl | ⟨b, o, rfl, hc⟩
    · refine (Tryz.slices_BinarySearch_int_empty A c x w).mono ?_
      rintro _ w' ⟨rfl, hw⟩
      have hw : w' = w := hw
      subst hw
      exact ⟨rfl, Below.refl _ _⟩
    · refine (Tryz.slices_BinarySearch_int b o L.length c L x w (Nat.le_refl _) hL hc (by rw [List.take_length]; exact hs)).mono ?_
      rintro _ w' ⟨rfl, q, rfl⟩
      rw [List.take_length]
      exact ⟨rfl, Go.below_drewN (Below.refl _ _) q⟩
  · rintro g rfl
    refine ⟨_, fun {H u} h => ?_, rfl, rfl⟩
    rw [h.inv_v]
    refine .tup rfl fun j g hj => ?_
    match j, hj with
    | 0, hj => cases hj; exact .ro (.v _)
    | 1, hj => cases hj; exact .ro (.v _)
    | j + 2, hj => simp at hj
end Go.Proofs.YtpenlenmpigomaaGreatDoor
