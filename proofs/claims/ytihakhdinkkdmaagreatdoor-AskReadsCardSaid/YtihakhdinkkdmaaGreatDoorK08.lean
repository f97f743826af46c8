/-
  The ghost machine: two elements of an own row change places, by the function that reflectlite.Swapper hands out.
-/
import Derived.Test.YtihakhdinkkdmaaGreatDoorK07
import Derived.Lib.ReflectliteSwap
import Derived.Lib.AppendZerosOnto
namespace Go.GK
open Go.RowKit
theorem setCells_row (g : Nat) (t : TypeId) : ∀ (vs : List Value) (o : Nat) (cur : Array Value) (w : World), w.heap[g]? = some (.cells cur t (0, 0)) → o + vs.length ≤ cur.size →
    w.setCells g o vs = w.setRow g (cur.toList.take o ++ vs ++ cur.toList.drop (o + vs.length)).toArray
  | [], o, cur, w, hg, _ => by
    simp only [World.setCells, List.append_nil, List.length_nil, Nat.add_zero, List.take_append_drop, Array.toArray_toList]
    exact (setRow_self w g cur t (0, 0) hg).symm
  | v :: r, o, cur, w, hg, hl => by
    simp only [List.length_cons] at hl
    rw [World.setCells, setCell_eq_setRow w g o cur t (0, 0) v hg, setCells_row g t r (o + 1) (cur.setIfInBounds o v) (w.setRow g (cur.setIfInBounds o v)) (setRow_heap w g cur _ t _ hg) (by simp; omega), setRow_setRow]
    have e := list_seg_step cur.toList o v r (by simp; omega)
    simp only [Array.toList_setIfInBounds]
    rw [e]
    rfl
theorem RowOk.one1 {ro : Nat → Option Obj} {sz : Nat} {row : List GV} {vs : List Value} (hl : vs.length = sz) (hr : row.length = sz) (his : ∀ (j : Nat) (g : GV), row[j]? = some g → ∃ u, vs[j]? = some u ∧ IsR ro g u) (h1 : ∀ u ∈ vs, u.oneCell' = true) : RowOk ro sz [row] vs := by
  refine ⟨by simp [hl], fun r h => by rw [List.mem_singleton.1 h]; exact hr, fun i r hir j g hj => ?_, h1⟩
  cases i with
  | zero =>
    simp at hir
    subst hir
    simpa using his j g hj
  | succ i => simp at hir
theorem RowOk.put {ro : Nat → Option Obj} {sz : Nat} {rows : List (List GV)} {xs : List Value} (h : RowOk ro sz rows xs) {i : Nat} (hi : i < rows.length) {row : List GV} {vs : List Value} (hl : vs.length = sz) (hr : row.length = sz) (his : ∀ (j : Nat) (g : GV), row[j]? = some g → ∃ u, vs[j]? = some u ∧ IsR ro g u) (h1 : ∀ u ∈ vs, u.oneCell' = true) :
    RowOk ro sz (rows.set i row) (xs.take (i * sz) ++ vs ++ xs.drop (i * sz + vs.length)) := by
  have e : rows.set i row = rows.take i ++ [row] ++ rows.drop (i + 1) := by
    rw [List.set_eq_take_append_cons_drop, if_pos hi]
    simp
  have e2 : i * sz + vs.length = (i + 1) * sz := by rw [hl, Nat.add_mul, Nat.one_mul]
  rw [e, e2]
  exact ((h.take i).append (.one1 hl hr his h1)).append (h.drop (i + 1))
theorem ownsRow_put {w : World} {e sz : Nat} {g n cap : Nat} {cur : Array Value} {xs vs : List Value} {i : Nat} (hgc : w.heap[g]? = some (.cells cur e (0, 0))) (hn : n ≤ cap) (hcs : cur.size = cap * sz) (htk : cur.toList.take (n * sz) = xs) (hi : i < n) (hl : vs.length = sz) :
    ∃ cur' : Array Value, w.setCells g (0 + i * sz) vs = w.setRow g cur' ∧ (w.setRow g cur').heap[g]? = some (.cells cur' e (0, 0)) ∧ cur'.size = cap * sz ∧ cur'.toList.take (n * sz) = xs.take (i * sz) ++ vs ++ xs.drop (i * sz + vs.length) := by
  have h1 : (i + 1) * sz ≤ n * sz := Nat.mul_le_mul_right sz hi
  have h2 : n * sz ≤ cap * sz := Nat.mul_le_mul_right sz hn
  have h3 : (i + 1) * sz = i * sz + sz := by rw [Nat.add_mul, Nat.one_mul]
  have hcl : cur.toList.length = cap * sz := by simpa using hcs
  refine ⟨(cur.toList.take (i * sz) ++ vs ++ cur.toList.drop (i * sz + vs.length)).toArray, ?_, setRow_heap w g cur _ e _ hgc, ?_, ?_⟩
  · rw [Nat.zero_add]
    exact setCells_row g e vs (i * sz) cur w hgc (by rw [hl, hcs]; omega)
  · rw [List.size_toArray, List.length_append, List.length_append, List.length_take, List.length_drop, hcl, hl, Nat.min_eq_left (by omega)]
    omega
  · have := mid_take cur.toList vs (i * sz) (n * sz) (by rw [hl]; omega) (by rw [hcl]; exact h2)
    rw [htk] at this
    exact this
section
variable {cx : Cx} {T : Post}
theorem JK.swapX {all : List Oper} {o : Oper} {rest : List Oper} {k : List It} {s : St} {f : FuncId} {gS : Bool} (hx : ∀ args W, (callFunc f args).run cx.pg.P W = ((Extern.ReflectliteSwapper.swap gS args).run cx.pg.P W).andThen fun v w' => .ok (.value v) w')
    {e : TypeId} {ie : TypeInfo} (hie : cx.pg.P.info? e = some ie) (hagg : ∀ w, (isAgg e).run cx.pg.P w = .ok true w) {id sz : Nat} {rows : List (List GV)} {i j : Nat} {r1 r2 : List GV} (hsz : ie.size = sz)
    (hk : callG cx.pg all s.ρ o = some (f, [.v (.int .i64 (i : Int)), .v (.int .i64 (j : Int)), .o id, .v (typeHandle cx.pg.P e)])) (hl : hlook s.σ id = some (.row e sz rows)) (hi : rows[i]? = some r1) (hj : rows[j]? = some r2)
    (h : dputV cx.N s.ρ o.dst (.tup []) fun ρ' => nfH (hset s.σ id (.row e sz ((rows.set i r2).set j r1))) fun σ' => JK cx T (.ops false all rest :: k) ⟨ρ', σ', s.n⟩) : JK cx T (.ops false all (o :: rest) :: k) s := by
  rw [dputV_eq] at h
  obtain ⟨fo, args, ts, first, caps, gs, ho, hgd, hf, he, hargs⟩ := callG_spec hk
  intro H a w hg hs ha
  have hw := gdOk_wanted (o := o) ha.env hgd
  obtain ⟨fs, cs, hv, hfl, hfi, hcl, hci⟩ := (ev_is hg ha.env hf).inv_fn
  have hc : Cells H (first ++ gs ++ caps) (fs ++ args.map a.eval ++ cs) := cells_app (cells_app ⟨hfl, hfi⟩ (evs_cells hg ha.env he)) ⟨hcl, hci⟩
  rw [hargs] at hc
  generalize hus : fs ++ args.map a.eval ++ cs = us at hc
  have g0 := (hc.2 0 _ rfl).inv_v
  have g1 := (hc.2 1 _ rfl).inv_v
  obtain ⟨g2, hid⟩ := (hc.2 2 _ rfl).inv_o
  have g3 := (hc.2 3 _ rfl).inv_v
  have hue : us = #[.int .i64 (i : Int), .int .i64 (j : Int), H.sv id, typeHandle cx.pg.P e] := by
    have h4 : us.size = 4 := hc.1.symm
    apply Array.ext
    · exact h4
    · intro q h5 h6
      have hq : us[q] = us.getD q undef := by simp [Array.getD, h5]
      rw [hq]
      match q, h6 with
      | 0, _ => exact g0
      | 1, _ => exact g1
      | 2, _ => exact g2
      | 3, _ => exact g3
  obtain ⟨xs, hown, hrow⟩ := hs.sat.holds _ (hlook_mem hl)
  have hin : i < rows.length := (List.getElem?_eq_some_iff.1 hi).1
  have hjn : j < rows.length := (List.getElem?_eq_some_iff.1 hj).1
  have hxl : xs.length = rows.length * sz := by simpa using hown.1
  rcases hown.2 with ⟨_, hn⟩ | ⟨g, cap, cur, hsv, _, hgc, hnc, hcm, hcs, htk⟩
  · omega
  have seg : ∀ q, q < rows.length → q * sz + sz ≤ rows.length * sz := fun q hq => by
    have := Nat.mul_le_mul_right sz (show q + 1 ≤ rows.length from hq)
    rwa [Nat.add_mul, Nat.one_mul] at this
  have hcapm : rows.length * sz ≤ cap * sz := Nat.mul_le_mul_right sz hnc
  have hcurx : ∀ t (ht : t < xs.length), cur[t]? = some xs[t] := by
    intro t ht
    have h1 : (cur.toList.take (rows.length * sz))[t]? = some xs[t] := by rw [htk, List.getElem?_eq_getElem ht]
    rw [List.getElem?_take, if_pos (by omega)] at h1
    simpa using h1
  have hcell : ∀ q, q < rows.length → ∀ u v, ((xs.drop (q * sz)).take sz)[u]? = some v → w.cell? ⟨g, 0 + q * sz + u, none⟩ = some v := by
    intro q hq u v huv
    rw [List.getElem?_take] at huv
    split at huv
    · rename_i hu
      rw [List.getElem?_drop] at huv
      obtain ⟨h1, h2⟩ := List.getElem?_eq_some_iff.1 huv
      simp only [World.cell?, hgc, Nat.zero_add]
      rw [if_neg (by simp), hcurx _ h1, h2]
    · cases huv
  have hfr : ∀ q u, w.frozen? ⟨g, 0 + q * sz + u, none⟩ = false := fun q u => by simp [World.frozen?, hgc]
  have hlen : ∀ q, q < rows.length → ((xs.drop (q * sz)).take sz).length = sz := fun q hq => by
    have := seg q hq
    rw [List.length_take, List.length_drop, hxl]; omega
  have hone : ∀ q, ∀ v ∈ (xs.drop (q * sz)).take sz, v.oneCell' = true := fun q v hv => hrow.one v (List.mem_of_mem_drop (List.mem_of_mem_take hv))
  have his : ∀ q r, rows[q]? = some r → ∀ (t : Nat) (gv : GV), r[t]? = some gv → ∃ u, ((xs.drop (q * sz)).take sz)[t]? = some u ∧ IsR H.ro gv u := fun q r hqr t gv ht => by
    obtain ⟨u, h1, h2⟩ := hrow.is q r hqr t gv ht
    have hts : t < sz := by rw [← hrow.each r (List.mem_of_getElem? hqr)]; exact (List.getElem?_eq_some_iff.1 ht).1
    exact ⟨u, by rw [List.getElem?_take, if_pos hts, List.getElem?_drop]; exact h1, h2⟩
  have hsw := Lib.run_swap_cells (P := cx.pg.P) gS e ie hie hagg g 0 rows.length cap i j hin hjn ((xs.drop (i * sz)).take sz) ((xs.drop (j * sz)).take sz) (by rw [hsz]; exact hlen i hin) (by rw [hsz]; exact hlen j hjn) (hone i) (hone j) w
    (by rw [hsz]; exact hcell i hin) (by rw [hsz]; exact hcell j hjn) (fun u _ => by rw [hsz]; exact hfr i u) (fun u _ => by rw [hsz]; exact hfr j u)
  rw [hsz] at hsw
  have e1 : rows[i]? = some r1 := hi
  have r1l := hrow.each r1 (List.mem_of_getElem? hi)
  have r2l := hrow.each r2 (List.mem_of_getElem? hj)
  obtain ⟨cur1, k1, k2, k3, k4⟩ := ownsRow_put (i := i) hgc hnc hcs htk hin (hlen j hjn)
  obtain ⟨cur2, m1, m2, m3, m4⟩ := ownsRow_put (i := j) k2 hnc k3 k4 hjn (hlen i hin)
  rw [k1, m1] at hsw
  have hR1 := hrow.put hin (hlen j hjn) r2l (his j r2 hj) (hone j)
  have hR2 := hR1.put (i := j) (by simpa using hjn) (hlen i hin) r1l (his i r1 hi) (hone i)
  have hrun : (execOp a.eval o).run cx.pg.P w = .ok (.value (.tuple #[])) ((w.setRow g cur1).setRow g cur2) := by
    simp only [execOp, ho, resolve, hv, Deferred.ofValue, Sem.run_bind, Sem.run_pure, Result.andThen_ok, invoke, hx]
    rw [hus, hue, hsv, hsw]
    rfl
  have hh : GK.holds H ((w.setRow g cur1).setRow g cur2) (id, .row e sz ((rows.set i r2).set j r1)) := by
    refine ⟨_, ?_, hR2⟩
    have hl2 : ((rows.set i r2).set j r1).length = rows.length := by simp
    rw [hl2]
    refine ⟨?_, .inr ⟨g, cap, cur2, hsv, Nat.zero_le _, m2, hnc, hcm, m3, m4⟩⟩
    have := hR2.len
    rwa [hl2] at this
  obtain ⟨ρ', ha', hJ⟩ := ha.dput (u := .tuple #[]) (.tup rfl (fun j g h => by simp at h)) h
  rw [nfH_eq] at hJ
  have hput := hs.put (y := .row e sz ((rows.set i r2).set j r1)) (w' := (w.setRow g cur1).setRow g cur2) hl rfl rfl rfl rfl (by simp) (fun b hb hnb => by
    have hbg : b ≠ g := fun e => hnb (by subst e; simp [blocks, hsv, Value.ownBlock])
    rw [setRow_other _ g b _ hbg, setRow_other _ g b _ hbg]) hh ρ'
  exact wpList_run hw hrun (hJ _ (a.put o.dst _) _ hg hput ha')
end
end Go.GK
/-
  The ghost machine: a region that draws its order: a struct that is built of values may be built as soon as it may be.
-/
namespace Go.GK
open Go.RowKit
mutual
theorem fzb_none (id : Nat) (cs0 : List GV) : ∀ {g : GV}, idb 0 g = true → fzb id cs0 g = g
  | .v _, _ | .b _, _ | .r _, _ | .sl _ _, _ => rfl
  | .p _ _, h | .e _ _ _ _, h | .o _, h => by simp [idb] at h
  | .agg cs, h => by simp only [idb] at h; simp only [fzb, fzbL_none id cs0 cs h]
  | .tup cs, h => by simp only [idb] at h; simp only [fzb, fzbL_none id cs0 cs h]
  | .fn g ks cs, h => by simp only [idb, Bool.and_eq_true] at h; simp only [fzb, fzbL_none id cs0 ks h.1, fzbL_none id cs0 cs h.2]
  | .ifc t x, h => by simp only [idb] at h; simp only [fzb, fzb_none id cs0 h]
theorem fzbL_none (id : Nat) (cs0 : List GV) : ∀ (l : List GV), idbL 0 l = true → fzbL id cs0 l = l
  | [], _ => rfl
  | g :: r, h => by simp only [idbL, Bool.and_eq_true] at h; simp only [fzbL, fzb_none id cs0 h.1, fzbL_none id cs0 r h.2]
end
mutual
theorem frz_none (id sz : Nat) (rows : List (List GV)) : ∀ {g : GV}, idb 0 g = true → frz id sz rows g = g
  | .v _, _ | .b _, _ | .r _, _ | .sl _ _, _ => rfl
  | .p _ _, h | .e _ _ _ _, h | .o _, h => by simp [idb] at h
  | .agg cs, h => by simp only [idb] at h; simp only [frz, frzL_none id sz rows cs h]
  | .tup cs, h => by simp only [idb] at h; simp only [frz, frzL_none id sz rows cs h]
  | .fn g ks cs, h => by simp only [idb, Bool.and_eq_true] at h; simp only [frz, frzL_none id sz rows ks h.1, frzL_none id sz rows cs h.2]
  | .ifc t x, h => by simp only [idb] at h; simp only [frz, frz_none id sz rows h]
theorem frzL_none (id sz : Nat) (rows : List (List GV)) : ∀ (l : List GV), idbL 0 l = true → frzL id sz rows l = l
  | [], _ => rfl
  | g :: r, h => by simp only [idbL, Bool.and_eq_true] at h; simp only [frzL, frz_none id sz rows h.1, frzL_none id sz rows r h.2]
end
theorem run_build_all {p : Pg} {H : Hid} {t : Nat} {ti : TI} (hti : TyOk p.P t ti) {fs : List (Nat × Nat × Bool)} (hd : ti.d = .struct fs) {gs : List (Nat × GV)} {vs : Array (Nat × Value)} {cs : List GV} (hl : gs.length = vs.size)
    (hi : ∀ (j : Nat) i g, gs[j]? = some (i, g) → ∃ v, vs.toList[j]? = some (i, v) ∧ Is H g v) (hf : gfill fs gs (ti.zero.map .v) = some cs) : ∃ us, (∀ w, (Instr.build t vs).run p.P w = .ok (.agg us) w) ∧ Cells H cs us := by
  have hd' := hti.d
  rw [hd] at hd'
  obtain ⟨fields, hu, hfs, hin⟩ := hd'
  obtain ⟨it, z, hit, hsz, _, hz, hzc, hzl⟩ := hti.info
  have hzcell : Cells H (ti.zero.map .v) z.cells := by
    have := cells_vs (H := H) ti.zero
    rw [← hzc] at this
    simpa [← hzc] using this
  have hplaces : ∃ places, fields.toList.mapM (fun f => (p.P.info? f.type).map fun i => (f.offset, i.size)) = some places ∧ ∀ (i off sz : Nat) (ag : Bool), fs[i]? = some (off, sz, ag) → places[i]? = some (off, sz) := by
    have key : ∀ (l : List Field), (∀ f ∈ l, (p.P.info? f.type).isSome = true ∧ (p.P.underlying f.type).isSome = true) → l.mapM (fun f => (p.P.info? f.type).map fun i => (f.offset, i.size)) = some (l.map fun f => (f.offset, p.P.cellsOf f.type)) := by
      intro l
      induction l with
      | nil => intro _; rfl
      | cons f l ih =>
        intro h
        obtain ⟨i, hi⟩ := Option.isSome_iff_exists.1 (h f List.mem_cons_self).1
        have := ih (fun g hg => h g (List.mem_cons_of_mem _ hg))
        simp [List.mapM_cons, hi, this, Program.cellsOf]
    refine ⟨_, key _ hin, fun i off sz ag hfi => ?_⟩
    have := hfs i
    rw [hfi] at this
    simp only [List.getElem?_map]
    rw [Array.getElem?_toList]
    cases hff : fields[i]? with
    | none => rw [hff] at this; cases this
    | some f =>
      rw [hff] at this
      simp only [Option.map_some, Option.some.injEq, Prod.mk.injEq] at this ⊢
      exact ⟨this.1.symm, this.2.1.symm⟩
  obtain ⟨places, hpl, hpp⟩ := hplaces
  obtain ⟨us, hus, hc⟩ := fill_is (place := (places.toArray[·]?)) (places := fs) (by simpa using hpp) (gs := gs) (vs := vs.toList) (by simpa using hl) hi hzcell hf
  refine ⟨us, fun w => run_build w t vs us ?_, hc⟩
  unfold Program.built
  simp only [hit, hu, hz, hpl]
  exact hus

section
variable {cx : Cx} {T : Post}
theorem RA.takeB {ops : List Oper} {k : List It} {σs : Heap} {ρq : Env} {fuel : Nat} {listed : List Bool} {s : St} (i : Nat) {o : Oper} {t : TypeId} {parts : Array (Nat × Operand)} {ti : TI} {fs : List (Nat × Nat × Bool)} {gs : List (Nat × GV)} {cs : List GV} (hp : cx.pg.Ok) (hi : ops[i]? = some o) (ho : o.op = .build t parts) (hgd : o.guard = none)
    (ht : tget cx.pg.tt t = some ti) (hd : ti.d = .struct fs) (hps : evp cx.pg ρq parts.toList = some gs) (hc : gfill fs gs (ti.zero.map .v) = some cs)
    (hB : (Region.noSelect ops.toArray && Region.free .any ops.toArray listed.toArray i && (Region.ready .any ops.toArray listed.toArray).contains i) = true) (hT : ∀ ch s, ¬ T (.panic ch) s)
    (h : dputV cx.N s.ρ o.dst (.agg cs) fun ρ' => RA cx T ops k σs (eput ρq o.dst (.agg cs)) fuel (listed.set i true) { s with ρ := ρ' }) : RA cx T ops k σs ρq (fuel + 1) listed s := by
  rw [dputV_eq] at h
  simp only [Bool.and_eq_true] at hB
  obtain ⟨⟨hsel, hf⟩, hr⟩ := hB
  intro n0 H0 S0 w0 h0 g0 hσ hap hfree hlink H a w hs ha hq
  have hpan : ∀ c a w v, cont cx.pg.P (post cx T) k (.panic c) (a.put o.dst v) w → cont cx.pg.P (post cx T) k (.panic c) a w := fun c a w v hc => by
    rw [cont_panic] at hc
    obtain ⟨_, s', _, _, ht⟩ := hc
    exact (hT c s' ht).elim
  obtain ⟨hl, hi2⟩ := evp_is (GlOk.at g0) hq hps
  obtain ⟨us, hrun, hcs⟩ := run_build_all (hp.tt _ _ ht) hd (vs := parts.map fun x => (x.1, a.eval x.2)) (by simpa using hl) (by simpa using hi2) hc
  have hiu : Is (H.at H0.ro) (.agg cs) (.agg us) := .agg hcs.1 hcs.2
  have hiu' : Is H (.agg cs) (.agg us) := hiu.mono (show (H.at H0.ro).le H from ⟨Nat.le_refl _, fun b o ho => hs.fr.le.ro b o ho, fun _ _ => rfl, fun _ _ => rfl⟩)
  have hlt := dput_lt h
  obtain ⟨ρ', ha', hra⟩ := ha.dput hiu' h
  have hw : Region.wanted o (yielded ops.toArray a.tmps) = true := wanted_none hgd
  refine wpAnyH_take (by simpa using hi) hsel hf hr (fun c a w => hpan c a w (.agg us)) (.inl ⟨hw, fun w' _ => ?_⟩) hs.keeps ?_
  · simp only [execOp, ho, Sem.run_bind, hrun, Result.andThen_ok]
    rfl
  · rw [set_list]
    refine hra n0 H0 S0 w0 h0 g0 hσ hap hfree hlink H (a.put o.dst (.agg us)) w (hs.ρ ρ') ha' ?_
    exact EnvOk.at_eput hq (fun d hd => by rw [ha.size]; exact hlt d hd) hiu
end
end Go.GK
/-
  The ghost machine: a slice grown from nothing (slices.Grow of nil); a copy of elements of any size.
-/
namespace Go.GK
open Go.RowKit
section
variable {cx : Cx} {T : Post}
theorem JK.capNil {all : List Oper} {o : Oper} {rest : List Oper} {k : List It} {s : St} {x : Operand} {t e : TypeId} {ti : TI} (hp : cx.pg.Ok) (ho : o.op = .call { callee := .builtin .cap, args := #[x], argTypes := #[t] }) (hgd : gdOk all s.ρ o.guard = true)
    (ht : tget cx.pg.tt t = some ti) (htd : ti.d = .slice e) (hx : ev cx.pg s.ρ x = some (.v (.slice none 0 0)))
    (h : dput cx.N s.ρ o.dst (.v (.int .i64 0)) fun ρ' => JK cx T (.ops false all rest :: k) ⟨ρ', s.σ, s.n⟩) : JK cx T (.ops false all (o :: rest) :: k) s := by
  intro H a w hg hs ha
  have hw := gdOk_wanted (o := o) ha.env hgd
  have hu : cx.pg.P.underlying t = some (.slice e) := by have := (hp.tt _ _ ht).d; rw [htd] at this; exact this
  have hxv := (ev_is hg ha.env hx).inv_v
  have hrun : (execOp a.eval o).run cx.pg.P w = .ok (.value (.int .i64 0)) w := by
    obtain ⟨q, hq⟩ := run_builtin (p := cx.pg) (a := a) rfl o ho w
    rw [hq]
    simp [builtin, hxv, Builtin.cap_, run_under hu, goInt]
  obtain ⟨ρ', ha', hJ⟩ := ha.dput (u := .int .i64 0) (.ro (.v _)) h
  exact wpList_run hw hrun (hJ _ (a.put o.dst _) w hg (hs.ρ ρ') ha')
theorem JK.appendZ {all : List Oper} {o : Oper} {rest : List Oper} {k : List It} {s : St} {x y : Operand} {t tn e : TypeId} {ti tie : TI} {kn kq : IntKind} {n sz : Nat} (hp : cx.pg.Ok) (ho : o.op = .call { callee := .builtin .append, args := #[x, y], argTypes := #[t, tn] }) (hgd : gdOk all s.ρ o.guard = true)
    (ht : tget cx.pg.tt t = some ti) (htd : ti.d = .slice e) (htn : cx.pg.P.underlying tn = some (.int kn)) (hte : tget cx.pg.tt e = some tie) (hsz : tie.sz = sz) (h0 : 0 < sz) (hone : tie.zero.all (·.oneCell') = true)
    (hx : ev cx.pg s.ρ x = some (.v (.slice none 0 0))) (hy : ev cx.pg s.ρ y = some (.v (.int kq (n : Int)))) (hn : 0 < n) (hb : n * tie.by_ ≤ 140737488355328) (hm : n ≤ 140737488355328)
    (h : ∀ zs : List (List GV), zs.length = n → nfN (s.n + 1) fun m => dput cx.N s.ρ o.dst (.o s.n) fun ρ' => JK cx T (.ops false all rest :: k) ⟨ρ', (s.n, .row e sz zs) :: s.σ, m⟩) : JK cx T (.ops false all (o :: rest) :: k) s := by
  intro H a w hg hs ha
  have hw := gdOk_wanted (o := o) ha.env hgd
  have hu : cx.pg.P.underlying t = some (.slice e) := by have := (hp.tt _ _ ht).d; rw [htd] at this; exact this
  obtain ⟨i, z, hi, hisz, hiby, hiz, hzc, hzl⟩ := (hp.tt _ _ hte).info
  have hzsz : z.cells.size = sz := by rw [← Array.length_toList, hzc, hzl, hsz]
  have hzone : ∀ v ∈ z.cells.toList, v.oneCell' = true := by rw [hzc]; exact List.all_eq_true.1 hone
  have hxv := (ev_is hg ha.env hx).inv_v
  have hyv := (ev_is hg ha.env hy).inv_v
  have hr := Lib.run_append_grow_zeros (P := cx.pg.P) w t tn o.type e i z kq kn hu htn hi hiz none 0 0 [] (run_firstCells_none w.drew i.size 0 0 0) n hn (by rw [hisz, hsz]; exact h0) (by omega) (by omega) (by rw [hiby]; omega) (by rw [hiby, Nat.zero_add]; exact growslice_fits (by omega) hb)
  rw [Nat.zero_add] at hr
  have hge := grownCap_ge w n 0 e
  have hgm : grownCap w n 0 e ≤ maxLen := grownCap_le_maxLen w n 0 e (by unfold maxLen; omega)
  let zc := (Builtin.zeroCells z.cells n).toList
  have hzcl : zc.length = n * sz := by simp [zc, Builtin.zeroCells, hzsz]
  have hzco : ∀ v ∈ zc, v.oneCell' = true := by
    intro v hv
    simp only [zc, Builtin.zeroCells, Array.toList_map, List.mem_map] at hv
    obtain ⟨q, hq, rfl⟩ := hv
    have hq' : q < n * z.cells.size := by simpa using hq
    have hpos : 0 < z.cells.size := by omega
    have hlt := Nat.mod_lt q hpos
    rw [getElem!_pos z.cells _ hlt]
    exact hzone _ (by simp)
  obtain ⟨zs, hzs, hzr⟩ := RowOk.vals H.ro sz n zc hzcl hzco
  have hj := h zs hzs
  rw [nfN_eq] at hj
  have hown : (w.drew.alloc (.cells (([] : List Value).toArray ++ Builtin.zeroCells z.cells n ++ Builtin.zeroCells z.cells (grownCap w n 0 e - n)) e)).ownsRow 0 e sz (.slice (some ⟨w.heap.size, 0, none⟩) n (grownCap w n 0 e)) n zc := by
    refine ⟨hzcl, .inr ⟨w.heap.size, grownCap w n 0 e, _, rfl, Nat.zero_le _, heap_alloc_new w.drew _, hge, hgm, ?_, ?_⟩⟩
    · simp only [Array.size_append, List.size_toArray, List.length_nil, size_zeroCells, hzsz, Nat.zero_add, ← Nat.add_mul]
      congr 1
      omega
    · have : (([] : List Value).toArray ++ Builtin.zeroCells z.cells n ++ Builtin.zeroCells z.cells (grownCap w n 0 e - n)).toList = zc ++ (Builtin.zeroCells z.cells (grownCap w n 0 e - n)).toList := by simp [zc]
      rw [this, ← hzcl, List.take_left]
  obtain ⟨H', hle, hiu, hsim⟩ := hs.regrown (e := e) (sz := sz) (ud := .slice none 0 0) (u := .slice (some ⟨w.heap.size, 0, none⟩) n (grownCap w n 0 e)) (rows := []) (news := zs) (xs := []) (ys := zc) (σ' := s.σ) (w' := w.drew.alloc (.cells (([] : List Value).toArray ++ Builtin.zeroCells z.cells n ++ Builtin.zeroCells z.cells (grownCap w n 0 e - n)) e))
    (by rw [List.length_nil, Nat.zero_add, hzs, List.nil_append]; exact hown) .nil hzr (by simp [Value.ownBlock]) (fun x hx => hx) hs.sat.nodup (by simp [Value.ownBlock])
    ⟨rfl, rfl, rfl, by simp, fun k hk _ => by first | exact heap_alloc_old w.drew _ k hk | exact heap_alloc_old w.drew _ hk⟩ (.inr rfl) s.ρ
  have hrun : (execOp a.eval o).run cx.pg.P w = .ok (.value (.slice (some ⟨w.heap.size, 0, none⟩) n (grownCap w n 0 e))) (w.drew.alloc (.cells (([] : List Value).toArray ++ Builtin.zeroCells z.cells n ++ Builtin.zeroCells z.cells (grownCap w n 0 e - n)) e)) := by
    obtain ⟨q, hq⟩ := run_builtin (p := cx.pg) (a := a) rfl o ho w
    rw [hq]
    simp only [List.map_toArray, List.map_cons, List.map_nil, builtin, hxv, hyv, Sem.run_bind, hr]
    rfl
  obtain ⟨ρ', ha', hJ⟩ := (ha.mono hle).dput (u := .slice (some ⟨w.heap.size, 0, none⟩) n (grownCap w n 0 e)) hiu hj
  rw [List.nil_append] at hsim
  exact wpList_run hw hrun (hJ _ (a.put o.dst _) _ (hg.mono hle) (hsim.ρ ρ') ha')
end
section
variable {P : Program}
theorem run_copy_k (w : World) (dT sT ty elem : TypeId) (k b o dLen dCap : Nat) (a : Addr) (sLen sCap n : Nat) (cs : List Value)
    (hu : P.underlying dT = some (.slice elem)) (hs : (P.info? elem).map (·.size) = some k) (hn : n = Nat.min sLen dLen) (hl : cs.length = n * k)
    (hsrc : ∀ j v, cs[j]? = some v → w.cell? (a.add j) = some v) (hc : ∀ j, j < cs.length → (w.cell? ⟨b, o + j, none⟩).isSome = true) (hf : ∀ j, j < cs.length → w.frozen? ⟨b, o + j, none⟩ = false) (h1 : ∀ v ∈ cs, v.oneCell' = true) :
    (Builtin.copy_ #[dT, sT] ty #[.slice (some ⟨b, o, none⟩) dLen dCap, .slice (some a) sLen sCap]).run P w = .ok (goInt n) (w.setCells b o cs) := by
  have hld := run_loadCells_list (P := P) w a cs hsrc
  have hst := run_storeCells_cells (P := P) b o cs 0 w (by simpa using hc) (by simpa using hf) h1
  cases hq : P.info? elem with
  | none => simp [hq] at hs
  | some i =>
    have hi : i.size = k := by simpa [hq] using hs
    simp [Builtin.copy_, run_underlying hu, Builtin.lenOf, Builtin.firstCells, sizeOf, typeInfo, hq, hi, ← hn, ← hl, hld, hst]
end
end Go.GK
/-
  The ghost machine: slices.Insert of one element of two cells into an own slice, by what a raw walk says of it.
-/
namespace Go.GK
open Go.RowKit
theorem ins_take1 (A vs : List Value) {p q m : Nat} (hv : vs.length = m) (hpq : p ≤ q) (hl : q + m ≤ A.length) :
    ((A.take (p + m) ++ (A.take q).drop p ++ A.drop (p + m + ((A.take q).drop p).length)).take p ++ vs ++ (A.take (p + m) ++ (A.take q).drop p ++ A.drop (p + m + ((A.take q).drop p).length)).drop (p + vs.length)).take (q + m) = (A.take q).take p ++ vs ++ (A.take q).drop p := by
  have e1 : ((A.take q).drop p).length = q - p := by simp; omega
  have e2 : (A.take (p + m)).length = p + m := by simp; omega
  rw [e1, hv]
  have a1 : (A.take (p + m) ++ (A.take q).drop p ++ A.drop (p + m + (q - p))).take p = A.take p := by
    rw [List.append_assoc, List.take_append_of_le_length (by omega), List.take_take, Nat.min_eq_left (by omega)]
  have a2 : (A.take (p + m) ++ (A.take q).drop p ++ A.drop (p + m + (q - p))).drop (p + m) = (A.take q).drop p ++ A.drop (p + m + (q - p)) := by
    rw [List.append_assoc, List.drop_left' e2]
  have a3 : (A.take q).take p = A.take p := by rw [List.take_take, Nat.min_eq_left hpq]
  rw [a1, a2, a3, ← List.append_assoc, List.take_left' (by simp; omega)]
theorem ins_take2 (R vs D : List Value) {p q m : Nat} (hv : vs.length = m) (hd : D.length = q - p) (hpq : p ≤ q) (hl : q + m ≤ R.length) :
    ((R.take p ++ vs ++ R.drop (p + vs.length)).take (p + m) ++ D ++ (R.take p ++ vs ++ R.drop (p + vs.length)).drop (p + m + D.length)).take (q + m) = R.take p ++ vs ++ D := by
  have a1 : (R.take p ++ vs ++ R.drop (p + vs.length)).take (p + m) = R.take p ++ vs := List.take_left' (by simp [hv]; omega)
  rw [a1, List.take_left' (by simp [hv, hd]; omega)]
def InsSays (P : Program) (f : FuncId) (e : TypeId) : Prop :=
  ∀ (v : Value) (n i vb vc : Nat) (xs vs : List Value) (vcur : Array Value) (w : World), w.ownsRow 0 e 2 v n xs → i ≤ n → n < 1000000 → w.heap[vb]? = some (.cells vcur e (0, 0)) → 1 ≤ vc → vc ≤ maxLen → vcur.size = vc * 2 → vcur.toList.take 2 = vs → v.ownBlock ≠ some vb → (∀ u ∈ xs, u.oneCell' = true) → (∀ u ∈ vs, u.oneCell' = true) →
    Calls P f #[v, .int .i64 (i : Int), .slice (some ⟨vb, 0, none⟩) 1 vc] w fun ev w' => ∃ v', ev = .returned v' ∧ w'.ownsRow 0 e 2 v' (n + 1) (xs.take (i * 2) ++ vs ++ xs.drop (i * 2)) ∧ w.grownBy w' v.ownBlock ∧ (v'.ownBlock = v.ownBlock ∨ v'.ownBlock = some w.heap.size)
theorem insert_hf {p : Pg} {f : FuncId} {e : TypeId} (hc : ∀ ar w, (callFunc f ar).run p.P w = .ok (.enter f ar) w) (hI : InsSays p.P f e) (rows : List (List GV)) (r : List GV) (i : Nat) (hi : i ≤ rows.length) (hl : rows.length < 1000000) :
    Hf p f 2 [.o 0, .v (.int .i64 (i : Int)), .o 1] [(0, .row e 2 rows), (1, .row e 2 [r])] fun G σ n => G = .o 2 ∧ σ = [(2, .row e 2 (rows.take i ++ [r] ++ rows.drop i)), (1, .row e 2 [r])] ∧ n = 3 := by
  refine ⟨hc, fun H us w hn hg hcs hs => ?_⟩
  obtain ⟨g0, h0⟩ := (hcs.2 0 _ rfl).inv_o
  have g1 := (hcs.2 1 _ rfl).inv_v
  obtain ⟨g2, h2⟩ := (hcs.2 2 _ rfl).inv_o
  have hue : us = #[H.sv 0, .int .i64 (i : Int), H.sv 1] := by
    have h4 : us.size = 3 := hcs.1.symm
    apply Array.ext
    · exact h4
    · intro q h5 h6
      have hq : us[q] = us.getD q undef := by simp [Array.getD, h5]
      rw [hq]
      match q, h6 with
      | 0, _ => exact g0
      | 1, _ => exact g1
      | 2, _ => exact g2
  obtain ⟨xs, hown, hrow⟩ := hs.holds (0, .row e 2 rows) (by simp)
  obtain ⟨ys, hown1, hrow1⟩ := hs.holds (1, .row e 2 [r]) (by simp)
  rcases hown1.2 with ⟨_, hn1⟩ | ⟨vb, vc, vcur, hsv, _, hgc, hnc, hcm, hcz, htk⟩
  · simp at hn1
  have hnd := hs.nodup
  simp only [blks, List.flatMap_cons, List.flatMap_nil, blocks, List.append_nil] at hnd
  have n1 := List.nodup_append.1 hnd
  have hne : (H.sv 0).ownBlock ≠ some vb := fun e0 => n1.2.2 vb (by rw [e0]; simp) vb (by rw [hsv]; simp [Value.ownBlock]) rfl
  rw [hue]
  have hC := hI (H.sv 0) rows.length i vb vc xs ys vcur w hown hi hl hgc hnc hcm hcz (by simpa using htk) hne hrow.one hrow1.one
  rw [hsv]
  refine hC.mono ?_
  rintro _ w' ⟨v', rfl, hown', hgr, hblk⟩
  let cx : Cx := ⟨p, 0, 2, H, blks H [(0, .row e 2 rows), (1, .row e 2 [r])], w, hn, hg⟩
  have hS : Sim cx H ⟨[], [(0, .row e 2 rows), (1, .row e 2 [r])], 2⟩ w := ⟨hn, hs, Fr.refl _ _ _⟩
  have hR : RowOk H.ro 2 (rows.take i ++ [r] ++ rows.drop i) (xs.take (i * 2) ++ ys ++ xs.drop (i * 2)) := ((hrow.take i).append hrow1).append (hrow.drop i)
  have hlen : (rows.take i ++ [r] ++ rows.drop i).length + ([] : List (List GV)).length = rows.length + 1 := by simp; omega
  obtain ⟨H', hle, hiu, hsim⟩ := hS.regrown (e := e) (sz := 2) (ud := H.sv 0) (u := v') (rows := rows.take i ++ [r] ++ rows.drop i) (news := []) (ys := []) (σ' := [(1, .row e 2 [r])])
    (by rw [hlen, List.append_nil]; exact hown') hR .nil (fun b hb => by simp [blks, blocks, hb]) (fun x hx => by simp at hx; simp [hx]) (by simp only [blks, List.flatMap_cons, List.flatMap_nil, blocks, List.append_nil]; exact n1.2.1)
    (fun b hb hc => by
      simp only [blks, List.flatMap_cons, List.flatMap_nil, blocks, List.append_nil] at hc
      exact n1.2.2 b hb b hc rfl) hgr hblk []
  rw [List.append_nil] at hsim
  exact ⟨v', .o 2, H', _, rfl, hiu, hsim.sat, hsim.fr, rfl, rfl, hsim.n⟩
section
variable {cx : Cx} {T : Post}
theorem JK.eqNilO {all : List Oper} {o : Oper} {rest : List Oper} {k : List It} {s : St} {t e t' : TypeId} {x : Operand} {ti : TI} {id ty sz : Nat} {rows : List (List GV)} (hp : cx.pg.Ok) (ho : o.op = .binOp .eql t x (.const (.slice none 0 0)) t') (hgd : gdOk all s.ρ o.guard = true)
    (ht : tget cx.pg.tt t = some ti) (htd : ti.d = .slice e) (hx : ev cx.pg s.ρ x = some (.o id)) (hl : hlook s.σ id = some (.row ty sz rows))
    (hk1 : rows = [] → dput cx.N s.ρ o.dst (.v (.bool true)) fun ρ' => JK cx T (.ops false all rest :: k) ⟨ρ', s.σ, s.n⟩)
    (hk2 : dput cx.N s.ρ o.dst (.v (.bool false)) fun ρ' => JK cx T (.ops false all rest :: k) ⟨ρ', s.σ, s.n⟩) : JK cx T (.ops false all (o :: rest) :: k) s := by
  intro H a w hg hs ha
  have hw := gdOk_wanted (o := o) ha.env hgd
  have hu : cx.pg.P.underlying t = some (.slice e) := by have := (hp.tt _ _ ht).d; rw [htd] at this; exact this
  obtain ⟨hv, hid⟩ := (ev_is hg ha.env hx).inv_o
  obtain ⟨xs, hown, hrow⟩ := hs.sat.holds _ (hlook_mem hl)
  have run : ∀ A c, H.sv id = .slice A rows.length c → (execOp a.eval o).run cx.pg.P w = .ok (.value (.bool A.isNone)) w := fun A c hsv => by
    have := Lib.run_eql_slice_nil (P := cx.pg.P) w t e A rows.length c 0 0 hu
    have hgd : (eqGuard .eql t x (.const (.slice none 0 0)) (.slice A rows.length c) (.slice none 0 0)).run cx.pg.P w = .ok () w := by simp [eqGuard]
    have hc : a.eval (.const (.slice none 0 0)) = .slice none 0 0 := rfl
    simp only [execOp, ho, hv, hsv, hc, Sem.run_bind, hgd, Result.andThen_ok, this]
    rfl
  rcases hown.2 with ⟨he, hn⟩ | ⟨g, cap, cur, he, _⟩
  · have hr : rows = [] := List.length_eq_zero_iff.1 hn
    have hrun := run none 0 (by rw [he, hn])
    obtain ⟨ρ', ha', hJ⟩ := ha.dput (u := .bool true) (.ro (.v _)) (hk1 hr)
    exact wpList_run hw hrun (hJ _ (a.put o.dst _) w hg (hs.ρ ρ') ha')
  · have hrun := run (some ⟨g, 0, none⟩) cap he
    obtain ⟨ρ', ha', hJ⟩ := ha.dput (u := .bool false) (.ro (.v _)) hk2
    exact wpList_run hw hrun (hJ _ (a.put o.dst _) w hg (hs.ρ ρ') ha')
end
end Go.GK
/-
  The ghost machine: a region that draws its order: of two operations that may come up at once, one may be a call of values, or may read own things.
-/
namespace Go.GK
open Go.RowKit
section
variable {cx : Cx} {T : Post}
theorem Stp.read {ops : List Oper} {k : List It} {σs : Heap} {ρq : Env} {fuel : Nat} {listed : List Bool} {s : St} (i : Nat) {o : Oper} (hp : cx.pg.Ok) (hi : ops[i]? = some o) (hgd : gdOk ops s.ρ o.guard = true)
    (h : pv cx.pg s.ρ (s.σ ++ σs) o.op fun g => nf g fun g => dput cx.N s.ρ o.dst g fun ρ' => nfE (qput ρq o.dst g) fun ρq => RA cx T ops k σs ρq fuel (listed.set i true) ⟨ρ', s.σ, s.n⟩) : Stp cx T ops k σs ρq fuel listed s i o := by
  refine ⟨hi, hgd, fun n0 H0 S0 w0 h0 g0 H a w K Q' hg hs ha hsat hK => ?_⟩
  obtain ⟨u, g, hrun, hiu, hk⟩ := pv_sound hp hg ha.env hsat h
  simp only [nf_eq, nfE_eq] at hk
  have hlt := dput_lt hk
  refine upon_value_wp (u := u) (.inl (hrun w (Agr.refl hsat) o rfl)) ?_
  obtain ⟨ρ', ha', hra⟩ := ha.dput hiu hk
  exact hK H u g w s ρ' (Hid.le.refl H) hiu (hs.ρ _) ha' hlt hra
theorem Stp.rt {ops : List Oper} {k : List It} {σs : Heap} {ρq : Env} {fuel : Nat} {listed : List Bool} {s : St} (i : Nat) {o : Oper} {f : FuncId} {cargs : List GV} {G : GV} (hr : Rt cx.pg f cargs G) (hi : ops[i]? = some o) (hk : callG cx.pg ops s.ρ o = some (f, cargs)) (hb : idbL 0 cargs = true)
    (h : dputV cx.N s.ρ o.dst G fun ρ' => nfE (qput ρq o.dst G) fun ρq => RA cx T ops k σs ρq fuel (listed.set i true) ⟨ρ', s.σ, s.n⟩) : Stp cx T ops k σs ρq fuel listed s i o := by
  obtain ⟨fo, args, ts, first, caps, gs, ho', hgd, hf, he, hargs⟩ := callG_spec hk
  refine ⟨hi, hgd, fun m0 H0 S0 w0 h0 g0 H a w K Q' hg hs ha _ hK => ?_⟩
  refine call_wp (cx := ⟨cx.pg, cx.N, m0, H0, S0, w0, h0, g0⟩) hr.ct hr.call id ho' hf he (by rw [renL_id]; exact hargs) (σc := []) trivial (by simp [hb, idbH, hids, distB]) (by simp) hg hs ha.env fun H'' u g σ' n' w' hle hiu hQ hsim => ?_
  obtain ⟨⟨rfl, hidb⟩, rfl, rfl⟩ := hQ
  have e1 : renH (sh id 0 s.n) [] ++ hrest (hids id []) s.σ = s.σ := by rw [show hids id [] = [] from rfl, hrest_nil]; rfl
  rw [ren_none _ hidb] at hiu
  rw [e1] at hsim
  rw [dputV_eq] at h
  simp only [nfE_eq] at h
  have hlt := dput_lt h
  obtain ⟨ρ', ha', hra⟩ := (ha.mono hle).dput hiu h
  exact hK H'' u _ w' ⟨ρ', _, _⟩ ρ' hle hiu (hsim ρ') ha' hlt hra
end
end Go.GK
/-
  The ghost machine: an own row is written no more, in a region that draws.
-/
namespace Go.GK
open Go.RowKit
section
variable {cx : Cx} {T : Post}
theorem Sim.freeze {s : St} {H : Hid} {a : Act} {w : World} (id : Nat) {ty sz : Nat} {rows : List (List GV)} (hl : hlook s.σ id = some (.row ty sz rows)) (hg : GlOk cx.pg H) (hs : Sim cx H s w) (ha : ActOk cx H s.ρ a) :
    ∃ ro' : Nat → Option Obj, GlOk cx.pg { H with ro := ro' } ∧ Sim cx { H with ro := ro' } ⟨frzE id sz rows s.ρ, frzH id sz rows (hdel s.σ id), s.n⟩ w ∧ ActOk cx { H with ro := ro' } (frzE id sz rows s.ρ) a := by
  obtain ⟨l1, l2, e1, e2, _⟩ := hlook_split hl
  have hmem := hlook_mem hl
  obtain ⟨xs, hown, hrow⟩ := hs.sat.holds _ hmem
  let ro' : Nat → Option Obj := fun b => if (H.sv id).ownBlock = some b then w.heap[b]? else H.ro b
  have hfree : ∀ b, (H.sv id).ownBlock = some b → H.ro b = none := fun b hb => hs.sat.free b (List.mem_flatMap.2 ⟨_, hmem, by simp [blocks, hb]⟩)
  have hro : ∀ b o, H.ro b = some o → ro' b = some o := by
    intro b o ho
    show (if _ then _ else _) = _
    rw [if_neg (fun hb => by rw [hfree b hb] at ho; cases ho)]
    exact ho
  let H' : Hid := { H with ro := ro' }
  have hle : H.le H' := ⟨Nat.le_refl _, hro, fun _ _ => rfl, fun _ _ => rfl⟩
  have hsl : IsR ro' (.sl sz rows) (H.sv id) := hrow.sl hro hown (fun b hb => by show (if _ then _ else _) = _; rw [if_pos hb])
  have hfz : ∀ {g : GV} {u : Value}, Is H g u → Is H' (frz id sz rows g) u := fun hi => Is.frz (H' := H') hro rfl rfl rfl hsl hi
  have hfr := hs.fr
  have hnd := hs.sat.nodup
  have hbl : blks H' (frzH id sz rows (hdel s.σ id)) = blks H (l1 ++ l2) := by rw [e2]; exact frzH_blks rfl rfl _
  rw [e1, blks_append, blks_cons] at hnd
  have n1 := List.nodup_append.1 hnd
  have n2 := List.nodup_append.1 n1.2.1
  have hin : ∀ b ∈ blks H (l1 ++ l2), b ∈ blks H s.σ := fun b hb => by
    rw [e1, blks_append, blks_cons]
    rw [blks_append] at hb
    rcases List.mem_append.1 hb with h1 | h1 <;> simp [h1]
  have hnin : ∀ b ∈ blks H (l1 ++ l2), (H.sv id).ownBlock ≠ some b := fun b hb hc => by
    have hc' : b ∈ blocks H (id, .row ty sz rows) := by simp [blocks, hc]
    rw [blks_append] at hb
    rcases List.mem_append.1 hb with h1 | h1
    · exact n1.2.2 b h1 b (by simp [hc']) rfl
    · exact n2.2.2 b hc' b h1 rfl
  refine ⟨ro', hg.up hro, ⟨hs.n, ⟨fun b o ho => ?_, fun x hx => ?_, ?_, fun b hb => ?_, fun x hx => ?_⟩, ?_⟩, ⟨fun t g hlk => ?_, ha.size, ha.defers⟩⟩
  · have ho' : (if (H.sv id).ownBlock = some b then w.heap[b]? else H.ro b) = some o := ho
    split at ho'
    · exact ho'
    · exact hs.sat.ro b o ho'
  · obtain ⟨y, hy, rfl⟩ := frzH_mem hx
    rw [e2] at hy
    have hy' : y ∈ s.σ := by
      rw [e1]
      rcases List.mem_append.1 hy with h1 | h1 <;> simp [h1]
    have hh := hs.sat.holds y hy'
    obtain ⟨j, r⟩ := y
    cases r with
    | blk ty cs =>
      obtain ⟨us, hw, hlen, hi⟩ := hh
      refine ⟨us, hw, by rw [frzL_len]; exact hlen, fun j g hj => ?_⟩
      rw [frzL_get] at hj
      cases hc : cs[j]? with
      | none => rw [hc] at hj; cases hj
      | some x => rw [hc] at hj; simp at hj; subst hj; exact hfz (hi j x hc)
    | row ty z rs => obtain ⟨ys, h1, h2⟩ := hh; exact ⟨ys, h1, h2.mono hro⟩
    | ob o => exact hh
    | ln z n => exact hh
    | sub i z lo n => exact hh
    | mp kd es =>
      obtain ⟨b, arr, clock, h1, h2, h3⟩ := hh
      exact ⟨b, arr, clock, h1, h2, h3.frz hfz⟩
    | mr kd es left cur =>
      obtain ⟨b, arr, clock, seen, h1, h2, h3, h4, h5⟩ := hh
      exact ⟨b, arr, clock, seen, h1, h2, h3, h4.frz hfz, h5⟩
    | itr m => exact hh
    | me kd es k st =>
      obtain ⟨h0, b, arr, clock, h1, h2, h3, h4⟩ := hh
      exact ⟨h0, b, arr, clock, h1, h2, h3.frz hfz, h4⟩
    | ab A => exact A.mono _ _ _ _ _ hro hh
    | mre kd es left cur k st =>
      obtain ⟨h0, b, arr, clock, seen, h1, h2, h3, h4, h5⟩ := hh
      exact ⟨h0, b, arr, clock, seen, h1, h2, h3, h4.frz hfz, h5⟩
  · rw [hbl, blks_append]
    exact List.nodup_append.2 ⟨n1.1, n2.2.1, fun b hb c hc e => n1.2.2 b hb c (by simp [hc]) e⟩
  · rw [hbl] at hb
    show (if _ then _ else _) = _
    rw [if_neg (hnin b hb)]
    exact hs.sat.free b (hin b hb)
  · obtain ⟨y, hy, rfl⟩ := frzH_mem hx
    rw [e2] at hy
    refine hs.sat.ids y ?_
    rw [e1]
    rcases List.mem_append.1 hy with h1 | h1 <;> simp [h1]
  · refine ⟨hfr.os, hfr.tape, hfr.output, hfr.size, hfr.keep, fun b hb => ?_, fun b h1 h2 => ?_, hfr.le.trans hle⟩
    · rw [hbl] at hb
      exact hfr.own b (hin b hb)
    · have h2' : (if (H.sv id).ownBlock = some b then w.heap[b]? else H.ro b) ≠ none := h2
      split at h2'
      · rename_i hb
        exact hfr.own b (List.mem_flatMap.2 ⟨_, hmem, by simp [blocks, hb]⟩)
      · exact hfr.fro b h1 h2'
  · rw [frzE_look] at hlk
    cases hc : look s.ρ t with
    | none => rw [hc] at hlk; cases hlk
    | some x => rw [hc] at hlk; simp at hlk; subst hlk; exact hfz (ha.env t x hc)
theorem RA.freeze {ops : List Oper} {k : List It} {σs : Heap} {ρq : Env} {fuel : Nat} {listed : List Bool} {s : St} (id : Nat) {ty sz : Nat} {rows : List (List GV)} (hl : hlook s.σ id = some (.row ty sz rows))
    (h : nfH (frzH id sz rows (hdel s.σ id)) fun σ => nfE (frzE id sz rows s.ρ) fun ρ => RA cx T ops k σs ρq fuel listed ⟨ρ, σ, s.n⟩) : RA cx T ops k σs ρq fuel listed s := by
  rw [nfH_eq, nfE_eq] at h
  intro n0 H0 S0 w0 h0 g0 hσ hap hfree hlink H a w hs ha hq
  have hg : GlOk cx.pg H := cx.g0.mono (hlink H s w hs).fr.le
  obtain ⟨ro', _, hs', ha'⟩ := Sim.freeze (cx := ⟨cx.pg, cx.N, n0, H0, S0, w0, h0, g0⟩) id hl hg hs ⟨ha.env, ha.size, ha.defers⟩
  exact h n0 H0 S0 w0 h0 g0 hσ hap hfree hlink { H with ro := ro' } a w hs' ⟨ha'.env, ha'.size, ha'.defers⟩ hq
end
end Go.GK
/-
  The ghost machine: a region that draws its order: three operations may come up at once.
-/
namespace Go.GK
open Go.RowKit
section
variable {cx : Cx} {T : Post}
theorem RA.three {ops : List Oper} {k : List It} {σs : Heap} {ρq : Env} {fuel : Nat} {listed : List Bool} {s : St} (i j l : Nat) {oi oj ol : Oper} (hr : Region.ready .any ops.toArray listed.toArray = [i, j, l])
    (hi : Stp cx T ops k σs ρq fuel listed s i oi) (hj : Stp cx T ops k σs ρq fuel listed s j oj) (hl : Stp cx T ops k σs ρq fuel listed s l ol) : RA cx T ops k σs ρq (fuel + 1) listed s := by
  have one : ∀ {q : Nat} {o : Oper}, Stp cx T ops k σs ρq fuel listed s q o → ∀ (n0 : Nat) (H0 : Hid) (S0 : List Nat) (w0 : World) (h0 : H0.n = n0) (g0 : GlOk cx.pg H0), Sat H0 σs w0 → (∀ b ∈ blks H0 σs, b ∉ S0) → (∀ b ∈ S0, H0.ro b = none) →
      (∀ H s' w', Sim ⟨cx.pg, cx.N, n0, H0, S0, w0, h0, g0⟩ H s' w' → Sim cx H ⟨s'.ρ, s'.σ ++ σs, s'.n⟩ w') →
      ∀ H a w, Sim ⟨cx.pg, cx.N, n0, H0, S0, w0, h0, g0⟩ H s w → ActOk cx H s.ρ a → EnvOk (H.at H0.ro) ρq a →
      wpOp cx.pg.P ops.toArray (cont cx.pg.P (post cx T) k) q (fun a w => Held S0 w0 w ∧ wpAnyH cx.pg.P .any ops.toArray (cont cx.pg.P (post cx T) k) (Held S0 w0) fuel (listed.toArray.setIfInBounds q true) a w) a w := by
    intro q o hst n0 H0 S0 w0 h0 g0 hσ hap hfree hlink H a w hs ha hq
    obtain ⟨hq', hgd, h⟩ := hst
    unfold wpOp
    have hi' : ops.toArray[q]? = some o := by simpa using hq'
    rw [hi']
    simp only
    have hw := gdOk_wanted (o := o) ha.env hgd
    rw [if_pos hw]
    refine .inl (h n0 H0 S0 w0 h0 g0 H a w _ _ (g0.mono hs.fr.le) hs ha (hlink H s w hs).sat fun H' u g w' s' ρ' hle hi hs' ha' hd hra => ?_)
    rw [set_list]
    refine ⟨hs'.keeps, hra n0 H0 S0 w0 h0 g0 hσ hap hfree hlink H' (a.put o.dst u) w' hs' ha' ?_⟩
    exact EnvOk.at_put (H := H) hq hle (fun d hdd => by rw [ha.size]; exact hd d hdd) hi
  intro n0 H0 S0 w0 h0 g0 hσ hap hfree hlink H a w hs ha hq
  refine wpAnyH_all hr (by simp) (fun q hq' => ?_)
  rcases List.mem_cons.1 hq' with rfl | hq'
  · exact one hi n0 H0 S0 w0 h0 g0 hσ hap hfree hlink H a w hs ha hq
  rcases List.mem_cons.1 hq' with rfl | hq'
  · exact one hj n0 H0 S0 w0 h0 g0 hσ hap hfree hlink H a w hs ha hq
  · obtain rfl := List.mem_singleton.1 hq'
    exact one hl n0 H0 S0 w0 h0 g0 hσ hap hfree hlink H a w hs ha hq
end
end Go.GK
/-
  The ghost machine: cells of an own block that are told otherwise (a nil slice as an empty one).
-/
namespace Go.GK
open Go.RowKit
inductive SubV : List GV → List GV → Prop
  | nil : SubV [] []
  | cons {x y : GV} {xs ys : List GV} (h : Sub x y) (t : SubV xs ys) : SubV (x :: xs) (y :: ys)
theorem SubV.is {H : Hid} {F : Nat → Value} : ∀ {xs ys : List GV}, SubV xs ys → (∀ j g, ys[j]? = some g → Is H g (F j)) → xs.length = ys.length ∧ ∀ j g, xs[j]? = some g → Is H g (F j)
  | [], [], _, _ => ⟨_root_.rfl, fun j x h => by simp at h⟩
  | _ :: _, _ :: _, .cons h t, hF => by
    obtain ⟨h1, h2⟩ := SubV.is (F := fun j => F (j + 1)) t fun j g hj => hF (j + 1) g (by simpa using hj)
    refine ⟨by simp [h1], fun j x hx => ?_⟩
    cases j with
    | zero => simp at hx; subst hx; exact h (hF 0 _ (by simp))
    | succ j => exact h2 j x (by simpa using hx)
section
variable {cx : Cx} {T : Post}
theorem JK.subBlk {k : List It} {s : St} (id : Nat) {ty : Nat} {cs : List GV} (cs' : List GV) (hl : hlook s.σ id = some (.blk ty cs)) (he : SubV cs' cs) (h : nfH (hset s.σ id (.blk ty cs')) fun σ => JK cx T k ⟨s.ρ, σ, s.n⟩) : JK cx T k s := by
  rw [nfH_eq] at h
  refine JK.upd ⟨s.ρ, hset s.σ id (.blk ty cs'), s.n⟩ (fun H a w hg hs ha => ⟨H, hg, ?_, ha⟩) h
  obtain ⟨us', hw, hlen, his⟩ := hs.sat.holds _ (hlook_mem hl)
  obtain ⟨e4, e5⟩ := he.is (F := fun j => us'.getD j undef) his
  exact hs.put (y := .blk ty cs') (w' := w) hl rfl rfl rfl rfl (Nat.le_refl _) (fun _ _ _ => rfl) ⟨us', hw, by rw [e4]; exact hlen, e5⟩ s.ρ
theorem Stp.hf {ops : List Oper} {k : List It} {σs : Heap} {ρq : Env} {fuel : Nat} {listed : List Bool} {s : St} (i : Nat) {o : Oper} {f : FuncId} {m : Nat} {cargs gs : List GV} {σc : Heap} {Q : GV → Heap → Nat → Prop} (hr : Hf cx.pg f m cargs σc Q) (r : Nat → Nat) (hi : ops[i]? = some o) (hk : callG cx.pg ops s.ρ o = some (f, gs)) (hargs : gs = renL r cargs) (hσ : leσ r σc s.σ)
    (chk : (idbL m cargs && idbH m σc && distB (hids r σc)) = true) (hrn : ∀ i, i < m → r i < s.n)
    (h : ∀ g σ' n', Q g σ' n' → nf (ren (sh r m s.n) g) fun g => nfH (renH (sh r m s.n) σ' ++ hrest (hids r σc) s.σ) fun σ => nfN (s.n + (n' - m)) fun n => dputV cx.N s.ρ o.dst g fun ρ' => nfE (qput ρq o.dst g) fun ρq => RA cx T ops k σs ρq fuel (listed.set i true) ⟨ρ', σ, n⟩) : Stp cx T ops k σs ρq fuel listed s i o := by
  obtain ⟨fo, args, ts, first, caps, gs', ho', hgd, hf, he, hargs'⟩ := callG_spec hk
  refine ⟨hi, hgd, fun m0 H0 S0 w0 h0 g0 H a w K Q' hg hs ha _ hK => ?_⟩
  refine call_wp (cx := ⟨cx.pg, cx.N, m0, H0, S0, w0, h0, g0⟩) hr.ct hr.call r ho' hf he (hargs'.trans hargs) (σc := σc) hσ chk hrn hg hs ha.env fun H'' u g σ' n' w' hle hiu hQ hsim => ?_
  have h := h g σ' n' hQ
  simp only [nf_eq, nfH_eq, nfN_eq] at h
  rw [dputV_eq] at h
  simp only [nfE_eq] at h
  have hlt := dput_lt h
  obtain ⟨ρ', ha', hra⟩ := (ha.mono hle).dput hiu h
  exact hK H'' u _ w' ⟨ρ', _, _⟩ ρ' hle hiu (hsim ρ') ha' hlt hra
end
end Go.GK
/-
  The ghost machine: own maps of own things, in a number that is not fixed: one is taken out, and given back; all are written no more.
-/
namespace Go.GK
open Go.RowKit

structure Fam (α : Type) where
  D : α → List Nat → Abs
  fpE : ∀ a f, (D a f).fp = f
  ow : ∀ a f ro b v w, (D a f).P ro b v w → GK.ow v = true
def bagP {α : Type} (F : Fam α) (ro : Nat → Option Obj) (w : World) : List (α × Value) → List Nat → Prop
  | [], f => f = []
  | (a, u) :: r, f => ∃ b f1 f2, f = f1 ++ f2 ∧ (F.D a f1).P ro b u w ∧ bagP F ro w r f2
section
variable {α : Type} {F : Fam α} {ro ro' : Nat → Option Obj} {w w' : World}
theorem bagP_lt : ∀ {l : List (α × Value)} {f : List Nat}, bagP F ro w l f → ∀ c ∈ f, c < w.heap.size
  | [], f, h, c, hc => by rw [show f = [] from h] at hc; cases hc
  | (a, u) :: r, f, h, c, hc => by
    obtain ⟨b, f1, f2, rfl, h1, h2⟩ := h
    rcases List.mem_append.1 hc with hc | hc
    · exact (F.D a f1).ex _ _ _ _ h1 c (by rw [F.fpE]; exact hc)
    · exact bagP_lt h2 c hc
theorem bagP_congr : ∀ {l : List (α × Value)} {f : List Nat}, (∀ c ∈ f, w'.heap[c]? = w.heap[c]?) → bagP F ro w l f → bagP F ro w' l f
  | [], f, _, h => h
  | (a, u) :: r, f, hc, h => by
    obtain ⟨b, f1, f2, rfl, h1, h2⟩ := h
    exact ⟨b, f1, f2, rfl, (F.D a f1).congr _ _ _ _ _ (fun c h => hc c (List.mem_append.2 (.inl (by rw [F.fpE] at h; exact h)))) h1, bagP_congr (fun c h => hc c (List.mem_append.2 (.inr h))) h2⟩
theorem bagP_mono (hro : ∀ c o, ro c = some o → ro' c = some o) : ∀ {l : List (α × Value)} {f : List Nat}, bagP F ro w l f → bagP F ro' w l f
  | [], _, h => h
  | (a, u) :: r, f, h => by
    obtain ⟨b, f1, f2, rfl, h1, h2⟩ := h
    exact ⟨b, f1, f2, rfl, (F.D a f1).mono _ _ _ _ _ hro h1, bagP_mono hro h2⟩
theorem bagP_split {a : α} {u : Value} {l2 : List (α × Value)} : ∀ {l1 : List (α × Value)} {f : List Nat}, bagP F ro w (l1 ++ (a, u) :: l2) f → ∃ b f1 f2, f.Perm (f1 ++ f2) ∧ (F.D a f1).P ro b u w ∧ bagP F ro w (l1 ++ l2) f2
  | [], f, h => by
    obtain ⟨b, f1, f2, rfl, h1, h2⟩ := h
    exact ⟨b, f1, f2, .refl _, h1, h2⟩
  | (a', u') :: r, f, h => by
    obtain ⟨b', g1, g2, rfl, h1, h2⟩ := h
    obtain ⟨b, f1, f2, hp, h3, h4⟩ := bagP_split (l1 := r) h2
    refine ⟨b, f1, g1 ++ f2, ?_, h3, b', g1, f2, rfl, h1, h4⟩
    refine (hp.append_left g1).trans ?_
    rw [← List.append_assoc, ← List.append_assoc]
    exact List.perm_append_comm.append_right f2
theorem bagP_join {a : α} {u : Value} {b : Nat} {f1 : List Nat} {l2 : List (α × Value)} (h1 : (F.D a f1).P ro b u w) : ∀ {l1 : List (α × Value)} {f2 : List Nat}, bagP F ro w (l1 ++ l2) f2 → ∃ f, f.Perm (f1 ++ f2) ∧ bagP F ro w (l1 ++ (a, u) :: l2) f
  | [], f2, h => ⟨f1 ++ f2, .refl _, b, f1, f2, rfl, h1, h⟩
  | (a', u') :: r, f2, h => by
    obtain ⟨b', g1, g2, rfl, h3, h4⟩ := h
    obtain ⟨f, hp, h5⟩ := bagP_join h1 (l1 := r) h4
    refine ⟨g1 ++ f, ?_, b', g1, f, rfl, h3, h5⟩
    refine (hp.append_left g1).trans ?_
    rw [← List.append_assoc, ← List.append_assoc]
    exact List.perm_append_comm.append_right g2
end
def bag {α : Type} (F : Fam α) (l : List (α × Value)) (f : List Nat) : Abs where
  P := fun ro _ _ w => bagP F ro w l f
  fp := f
  ex := fun _ _ _ _ h => bagP_lt h
  congr := fun _ _ _ _ _ hc h => bagP_congr hc h
  mono := fun _ _ _ _ _ hro h => bagP_mono hro h

def MapV (kd : Option IntKind) (kvs : List (Value × Value)) (arr : Array MapEntry) (clock : Nat) : Prop :=
  (arr.toList.map fun e => (e.key, e.val)) = kvs ∧ (∀ e ∈ arr.toList, sortB kd e.key = true) ∧ MapKept.Stamped arr clock
abbrev er {α : Type} (x : Value × α × Value) : Value × α := (x.1, x.2.1)
abbrev kv {α : Type} (x : Value × α × Value) : Value × Value := (x.1, x.2.2)
abbrev mE {α : Type} (l : List (Value × α × Value)) : List (Value × GV) := l.map fun x => (x.1, GV.v x.2.2)
theorem esIs_kv {α : Type} {H : Hid} : ∀ {l : List (Value × α × Value)} {es : List MapEntry}, (es.map fun e => (e.key, e.val)) = l.map kv → esIs H (mE l) es
  | [], [], _ => trivial
  | x :: r, e :: s, h => by
    simp only [List.map_cons, List.cons.injEq, Prod.mk.injEq] at h
    exact ⟨h.1.1, by rw [h.1.2]; exact .ro (.v _), esIs_kv h.2⟩
  | [], _ :: _, h => by simp at h
  | _ :: _, [], h => by simp at h
theorem kv_esIs {α : Type} {H : Hid} : ∀ {l : List (Value × α × Value)} {es : List MapEntry}, esIs H (mE l) es → (es.map fun e => (e.key, e.val)) = l.map kv
  | [], [], _ => rfl
  | x :: r, e :: s, h => by
    obtain ⟨h1, h2, h3⟩ := h
    simp only [List.map_cons, List.cons.injEq, Prod.mk.injEq]
    exact ⟨⟨h1, h2.inv_v⟩, kv_esIs h3⟩
  | [], _ :: _, h => h.elim
  | _ :: _, [], h => h.elim
theorem esIs_app {H : Hid} : ∀ {a b : List (Value × GV)} {es : List MapEntry}, esIs H (a ++ b) es ↔ ∃ e1 e2, es = e1 ++ e2 ∧ esIs H a e1 ∧ esIs H b e2
  | [], b, es => ⟨fun h => ⟨[], es, rfl, trivial, h⟩, fun ⟨e1, e2, he, h1, h2⟩ => by
    cases e1 with
    | nil => rw [he]; exact h2
    | cons _ _ => exact h1.elim⟩
  | (k, g) :: r, b, [] => ⟨fun h => h.elim, fun ⟨e1, e2, he, h1, h2⟩ => by
    cases e1 with
    | nil => exact h1.elim
    | cons _ _ => cases he⟩
  | (k, g) :: r, b, e :: s => by
    constructor
    · rintro ⟨h1, h2, h3⟩
      obtain ⟨e1, e2, rfl, h4, h5⟩ := esIs_app.1 h3
      exact ⟨e :: e1, e2, rfl, ⟨h1, h2, h4⟩, h5⟩
    · rintro ⟨e1, e2, he, h1, h2⟩
      cases e1 with
      | nil => exact h1.elim
      | cons x y =>
        cases he
        exact ⟨h1.1, h1.2.1, esIs_app.2 ⟨y, e2, rfl, h1.2.2, h2⟩⟩
def mapP {α : Type} (F : Fam α) (kd : Option IntKind) (l : List (Value × α)) (f : List Nat) (ro : Nat → Option Obj) (v : Value) (w : World) : Prop :=
  ∃ (l' : List (Value × α × Value)) (b : Nat) (arr : Array MapEntry) (clock : Nat) (f2 : List Nat), l'.map er = l ∧ v = .map (some b) ∧ f = b :: f2 ∧ w.heap[b]? = some (.map arr clock) ∧ MapV kd (l'.map kv) arr clock ∧ bagP F ro w (l'.map (·.2)) f2
def mapA {α : Type} (F : Fam α) (kd : Option IntKind) (l : List (Value × α)) (f : List Nat) : Abs where
  P := fun ro _ v w => mapP F kd l f ro v w
  fp := f
  ex := fun _ _ _ w h c hc => by
    obtain ⟨l', b, arr, clock, f2, _, _, rfl, h1, _, h2⟩ := h
    rcases List.mem_cons.1 hc with rfl | hc
    · rcases Nat.lt_or_ge c w.heap.size with h | h
      · exact h
      · rw [Array.getElem?_eq_none h] at h1; cases h1
    · exact bagP_lt h2 c hc
  congr := fun _ _ _ _ _ hc h => by
    obtain ⟨l', b, arr, clock, f2, e1, e2, rfl, h1, h3, h2⟩ := h
    exact ⟨l', b, arr, clock, f2, e1, e2, rfl, by rw [hc b (by simp)]; exact h1, h3, bagP_congr (fun c h => hc c (by simp [h])) h2⟩
  mono := fun _ _ _ _ _ hro h => by
    obtain ⟨l', b, arr, clock, f2, e1, e2, e3, h1, h3, h2⟩ := h
    exact ⟨l', b, arr, clock, f2, e1, e2, e3, h1, h3, bagP_mono hro h2⟩
def mapF {α : Type} (F : Fam α) (kd : Option IntKind) : Fam (List (Value × α)) where
  D := mapA F kd
  fpE := fun _ _ => rfl
  ow := fun a f ro b v w h => by
    obtain ⟨l', b, arr, clock, f2, _, rfl, _⟩ := h
    rfl
section
variable {cx : Cx} {T : Post} {k : List It} {s : St}
theorem Sim.swap {H : Hid} {w : World} (hs : Sim cx H s w) (H' : Hid) (hle : H.le H') (hro : H'.ro = H.ro) {old keep : Heap} (new : Heap) (hp : s.σ.Perm (old ++ keep)) (hh : ∀ x ∈ new, holds H' w x) (hid : ∀ x ∈ new, x.1 < H'.n) (hb : (blks H' new).Perm (blks H old)) (ρ' : Env) : Sim cx H' ⟨ρ', new ++ keep, H'.n⟩ w := by
  have hk : ∀ x ∈ keep, x ∈ s.σ := fun x hx => hp.mem_iff.2 (by simp [hx])
  have hkb : blks H' keep = blks H keep := blks_le hle fun x hx => hs.sat.ids x (hk x hx)
  have hall : (blks H' (new ++ keep)).Perm (blks H s.σ) := by
    rw [blks_append, hkb]
    refine (hb.append_right _).trans ?_
    rw [← blks_append]
    exact (List.Perm.flatMap_right (blocks H) hp).symm
  refine ⟨rfl, ⟨?_, fun x hx => ?_, hall.nodup_iff.2 hs.sat.nodup, fun b hb => ?_, fun x hx => ?_⟩, ?_⟩
  · rw [hro]; exact hs.sat.ro
  · rcases List.mem_append.1 hx with hx | hx
    · exact hh x hx
    · exact holds_le hle (hs.sat.ids x (hk x hx)) (hs.sat.holds x (hk x hx))
  · rw [hro]; exact hs.sat.free b (hall.mem_iff.1 hb)
  · rcases List.mem_append.1 hx with hx | hx
    · exact hid x hx
    · exact Nat.lt_of_lt_of_le (hs.sat.ids x (hk x hx)) hle.n
  · have hf := hs.fr
    exact ⟨hf.os, hf.tape, hf.output, hf.size, hf.keep, fun c hc => hf.own c (hall.mem_iff.1 hc), fun b h1 h2 => hf.fro b h1 (by rw [hro] at h2; exact h2), hf.le.trans hle⟩
theorem hlook_perm {σ : Heap} {id : Nat} {x : Res} (h : hlook σ id = some x) : σ.Perm ((id, x) :: hdel σ id) := by
  obtain ⟨l1, l2, e1, e2, _⟩ := hlook_split h
  rw [e1, ← e1, e2, e1]
  exact List.perm_middle
def Hid.plus (H : Hid) (n : Nat) (bl : Nat → Nat) (sv : Nat → Value) : Hid := ⟨H.ro, fun i => if i < H.n then H.bl i else bl (i - H.n), fun i => if i < H.n then H.sv i else sv (i - H.n), H.n + n⟩
theorem Hid.plus_le (H : Hid) (n : Nat) (bl : Nat → Nat) (sv : Nat → Value) : H.le (H.plus n bl sv) := ⟨by show H.n ≤ H.n + n; omega, fun _ _ h => h, fun i hi => if_pos hi, fun i hi => if_pos hi⟩
theorem Hid.plus_bl (H : Hid) (n : Nat) (bl : Nat → Nat) (sv : Nat → Value) (i : Nat) : (H.plus n bl sv).bl (H.n + i) = bl i := by
  show (if H.n + i < H.n then _ else bl (H.n + i - H.n)) = _
  rw [if_neg (by omega), Nat.add_sub_cancel_left]
theorem Hid.plus_sv (H : Hid) (n : Nat) (bl : Nat → Nat) (sv : Nat → Value) (i : Nat) : (H.plus n bl sv).sv (H.n + i) = sv i := by
  show (if H.n + i < H.n then _ else sv (H.n + i - H.n)) = _
  rw [if_neg (by omega), Nat.add_sub_cancel_left]
theorem JK.mopen {α : Type} {F : Fam α} {kd : Option IntKind} {l : List (Value × α)} {f : List Nat} (X : Nat) (hl : hlook s.σ X = some (.ab (mapA F kd l f)))
    (h : ∀ (l' : List (Value × α × Value)) (f2 : List Nat), l'.map er = l → nfN s.n fun R => nfN (s.n + 1) fun n => nfH (hdel s.σ X) fun σ => JK cx T k ⟨s.ρ, (X, .mp kd (mE l')) :: (R, .ab (bag F (l'.map (·.2)) f2)) :: σ, n⟩) : JK cx T k s := by
  intro H a w hg hs ha
  obtain ⟨l', b, arr, clock, f2, e1, e2, rfl, h1, h3, h2⟩ := hs.sat.holds _ (hlook_mem hl)
  have h := h l' f2 e1
  simp only [nfN_eq, nfH_eq] at h
  have hX : X < H.n := hs.sat.ids _ (hlook_mem hl)
  have hle := H.plus_le 1 (fun _ => 0) (fun _ => undef)
  have hsv := hle.sv X hX
  have hn := hs.n
  have hnn : (H.plus 1 (fun _ => 0) (fun _ => undef)).n = s.n + 1 := by rw [← hn]; rfl
  have hrr : (H.plus 1 (fun _ => 0) (fun _ => undef)).ro = H.ro := rfl
  generalize H.plus 1 (fun _ => 0) (fun _ => undef) = H' at hle hsv hnn hrr
  have hsw := Sim.swap hs H' hle hrr [(X, .mp kd (mE l')), (s.n, .ab (bag F (l'.map (·.2)) f2))] (old := [(X, .ab (mapA F kd l (b :: f2)))]) (hlook_perm hl) ?_ ?_ ?_ s.ρ
  · rw [hnn] at hsw
    exact h H' a w (hg.up (fun _ _ h => by rw [hrr]; exact h)) hsw (ha.mono hle)
  · intro x hx
    rcases List.mem_cons.1 hx with rfl | hx
    · exact ⟨b, arr, clock, hsv.trans e2, h1, esIs_kv h3.1, h3.2.1, h3.2.2⟩
    · rw [List.mem_singleton.1 hx]
      show bagP F H'.ro w _ f2
      rw [hrr]
      exact h2
  · intro x hx
    rcases List.mem_cons.1 hx with rfl | hx
    · exact Nat.lt_of_lt_of_le hX hle.n
    · rw [List.mem_singleton.1 hx]
      show s.n < H'.n
      omega
  · have hbv : mapBlk (H'.sv X) = [b] := by rw [hsv, e2]; rfl
    show (mapBlk (H'.sv X) ++ (f2 ++ [])).Perm ((b :: f2) ++ [])
    rw [hbv]
    simp
theorem JK.mclose {α : Type} {F : Fam α} {kd : Option IntKind} {l' : List (Value × α × Value)} {f2 : List Nat} (X R : Nat) (hl : hlook s.σ X = some (.mp kd (mE l'))) (hr : hlook (hdel s.σ X) R = some (.ab (bag F (l'.map (·.2)) f2)))
    (h : ∀ (f : List Nat), nfH (hdel (hdel s.σ X) R) fun σ => JK cx T k ⟨s.ρ, (X, .ab (mapA F kd (l'.map er) f)) :: σ, s.n⟩) : JK cx T k s := by
  intro H a w hg hs ha
  have hp : s.σ.Perm ([(X, .mp kd (mE l')), (R, .ab (bag F (l'.map (·.2)) f2))] ++ hdel (hdel s.σ X) R) := (hlook_perm hl).trans ((hlook_perm hr).cons _)
  obtain ⟨b, arr, clock, e2, h1, hm⟩ := hs.sat.holds _ (hlook_mem hl)
  have hb2 : bagP F H.ro w (l'.map (·.2)) f2 := hs.sat.holds _ (hp.mem_iff.2 (by simp : (R, Res.ab (bag F (l'.map (·.2)) f2)) ∈ _))
  have h := h (b :: f2)
  simp only [nfH_eq] at h
  have hX : X < H.n := hs.sat.ids _ (hlook_mem hl)
  have hn := hs.n
  have hsw := Sim.swap hs H (Hid.le.refl H) rfl [(X, .ab (mapA F kd (l'.map er) (b :: f2)))] hp ?_ ?_ ?_ s.ρ
  · rw [hn] at hsw
    exact h H a w hg hsw ha
  · intro x hx
    rw [List.mem_singleton.1 hx]
    exact ⟨l', b, arr, clock, f2, rfl, e2, rfl, h1, ⟨kv_esIs hm.is, hm.sorts, hm.st⟩, hb2⟩
  · intro x hx
    rw [List.mem_singleton.1 hx]
    exact hX
  · have hbv : mapBlk (H.sv X) = [b] := by rw [e2]; rfl
    show ((b :: f2) ++ []).Perm (mapBlk (H.sv X) ++ (f2 ++ []))
    rw [hbv]
    simp
theorem JK.mnew {α : Type} (F : Fam α) {kd : Option IntKind} (X : Nat) (hl : hlook s.σ X = some (.mp kd []))
    (h : ∀ (f : List Nat), nfH (hdel s.σ X) fun σ => JK cx T k ⟨s.ρ, (X, .ab (mapA F kd [] f)) :: σ, s.n⟩) : JK cx T k s := by
  intro H a w hg hs ha
  obtain ⟨b, arr, clock, e2, h1, hm⟩ := hs.sat.holds _ (hlook_mem hl)
  have h := h [b]
  simp only [nfH_eq] at h
  have hX : X < H.n := hs.sat.ids _ (hlook_mem hl)
  have hn := hs.n
  have hsw := Sim.swap hs H (Hid.le.refl H) rfl [(X, .ab (mapA F kd [] [b]))] (old := [(X, .mp kd [])]) (hlook_perm hl) ?_ ?_ ?_ s.ρ
  · rw [hn] at hsw
    exact h H a w hg hsw ha
  · intro x hx
    rw [List.mem_singleton.1 hx]
    exact ⟨[], b, arr, clock, [], rfl, e2, rfl, h1, ⟨kv_esIs (l := ([] : List (Value × α × Value))) hm.is, hm.sorts, hm.st⟩, rfl⟩
  · intro x hx
    rw [List.mem_singleton.1 hx]
    exact hX
  · have hbv : mapBlk (H.sv X) = [b] := by rw [e2]; rfl
    show ([b] ++ []).Perm (mapBlk (H.sv X) ++ [])
    rw [hbv]
theorem JK.focus {α : Type} {F : Fam α} {kd : Option IntKind} {l1 l2 : List (Value × α)} {key : Value} {x : α} {f : List Nat} (X : Nat) (hl : hlook s.σ X = some (.ab (mapA F kd (l1 ++ (key, x) :: l2) f)))
    (h : ∀ (m1 m2 : List (Value × α × Value)) (f1 f2 : List Nat), m1.map er = l1 → m2.map er = l2 → nfN s.n fun Y => nfN (s.n + 1) fun R => nfN (s.n + 2) fun n => nfH (hdel s.σ X) fun σ => JK cx T k ⟨s.ρ, (X, .mp kd (mE m1 ++ (key, .o Y) :: mE m2)) :: (Y, .ab (F.D x f1)) :: (R, .ab (bag F ((m1 ++ m2).map (·.2)) f2)) :: σ, n⟩) : JK cx T k s := by
  intro H a w hg hs ha
  obtain ⟨l', b, arr, clock, f', e1, e2, rfl, h1, h3, h2⟩ := hs.sat.holds _ (hlook_mem hl)
  obtain ⟨m1, m3, rfl, rfl, hm3⟩ := List.map_eq_append_iff.1 e1
  obtain ⟨z, m2, rfl, hz, rfl⟩ := List.map_eq_cons_iff.1 hm3
  obtain ⟨key', x', u⟩ := z
  simp only [er, Prod.mk.injEq] at hz
  obtain ⟨hz1, hz2⟩ := hz
  replace hz1 := hz1.symm
  replace hz2 := hz2.symm
  subst hz1
  subst hz2
  rw [List.map_append, List.map_cons] at h2
  obtain ⟨b', f1, f2, hpf, hD, hbag⟩ := bagP_split h2
  have h := h m1 m2 f1 f2 rfl rfl
  simp only [nfN_eq, nfH_eq] at h
  have hX : X < H.n := hs.sat.ids _ (hlook_mem hl)
  have hle := H.plus_le 2 (fun i => if i = 0 then b' else 0) (fun i => if i = 0 then u else undef)
  have hsv := hle.sv X hX
  have hn := hs.n
  have hb0 : (H.plus 2 (fun i => if i = 0 then b' else 0) (fun i => if i = 0 then u else undef)).bl s.n = b' := by rw [← hn]; exact H.plus_bl _ _ _ 0
  have hv0 : (H.plus 2 (fun i => if i = 0 then b' else 0) (fun i => if i = 0 then u else undef)).sv s.n = u := by rw [← hn]; exact H.plus_sv _ _ _ 0
  have hnn : (H.plus 2 (fun i => if i = 0 then b' else 0) (fun i => if i = 0 then u else undef)).n = s.n + 2 := by rw [← hn]; rfl
  have hrr : (H.plus 2 (fun i => if i = 0 then b' else 0) (fun i => if i = 0 then u else undef)).ro = H.ro := rfl
  generalize H.plus 2 (fun i => if i = 0 then b' else 0) (fun i => if i = 0 then u else undef) = H' at hle hsv hb0 hv0 hnn hrr
  have hsw := Sim.swap hs H' hle hrr [(X, .mp kd (mE m1 ++ (key, .o s.n) :: mE m2)), (s.n, .ab (F.D x f1)), (s.n + 1, .ab (bag F ((m1 ++ m2).map (·.2)) f2))] (old := [(X, .ab (mapA F kd (m1.map er ++ (key, x) :: m2.map er) (b :: f')))]) (hlook_perm hl) ?_ ?_ ?_ s.ρ
  · rw [hnn] at hsw
    exact h H' a w (hg.up (fun _ _ h => by rw [hrr]; exact h)) hsw (ha.mono hle)
  · intro y hy
    simp only [List.mem_cons, List.not_mem_nil, or_false] at hy
    rcases hy with rfl | rfl | rfl
    · refine ⟨b, arr, clock, hsv.trans e2, h1, ?_, h3.2.1, h3.2.2⟩
      have h0 := h3.1
      rw [List.map_append, List.map_cons] at h0
      obtain ⟨c1, c3, hc, hc1, hc3⟩ := List.map_eq_append_iff.1 h0
      obtain ⟨e, c2, rfl, he, hc2⟩ := List.map_eq_cons_iff.1 hc3
      rw [hc]
      simp only [Prod.mk.injEq] at he
      refine esIs_app.2 ⟨c1, e :: c2, rfl, esIs_kv hc1, he.1, .o (by rw [hnn]; omega) (by rw [hv0]; exact he.2.symm) (by rw [he.2]; exact F.ow _ _ _ _ _ _ hD), esIs_kv hc2⟩
    · show (F.D x f1).P H'.ro (H'.bl s.n) (H'.sv s.n) w
      rw [hb0, hv0, hrr]
      exact hD
    · show bagP F H'.ro w _ f2
      rw [hrr, List.map_append]
      exact hbag
  · intro y hy
    simp only [List.mem_cons, List.not_mem_nil, or_false] at hy
    rcases hy with rfl | rfl | rfl
    · exact Nat.lt_of_lt_of_le hX hle.n
    · show s.n < H'.n
      omega
    · show s.n + 1 < H'.n
      omega
  · have hbv : mapBlk (H'.sv X) = [b] := by rw [hsv, e2]; rfl
    show (mapBlk (H'.sv X) ++ ((F.D x f1).fp ++ (f2 ++ []))).Perm ((b :: f') ++ [])
    rw [hbv, F.fpE]
    simp only [List.append_nil, List.singleton_append]
    exact hpf.symm.cons b
theorem JK.unfocus {α : Type} {F : Fam α} {kd : Option IntKind} {m1 m2 : List (Value × α × Value)} {key : Value} {x : α} {f1 f2 : List Nat} (X Y R : Nat) (hl : hlook s.σ X = some (.mp kd (mE m1 ++ (key, .o Y) :: mE m2))) (hy : hlook (hdel s.σ X) Y = some (.ab (F.D x f1)))
    (hr : hlook (hdel (hdel s.σ X) Y) R = some (.ab (bag F ((m1 ++ m2).map (·.2)) f2)))
    (h : ∀ (f : List Nat), nfH (hdel (hdel (hdel s.σ X) Y) R) fun σ => JK cx T k ⟨s.ρ, (X, .ab (mapA F kd (m1.map er ++ (key, x) :: m2.map er) f)) :: σ, s.n⟩) : JK cx T k s := by
  intro H a w hg hs ha
  have hp : s.σ.Perm ([(X, .mp kd (mE m1 ++ (key, .o Y) :: mE m2)), (Y, .ab (F.D x f1)), (R, .ab (bag F ((m1 ++ m2).map (·.2)) f2))] ++ hdel (hdel (hdel s.σ X) Y) R) :=
    (hlook_perm hl).trans (((hlook_perm hy).trans ((hlook_perm hr).cons _)).cons _)
  obtain ⟨b, arr, clock, e2, h1, hm⟩ := hs.sat.holds _ (hlook_mem hl)
  have hD : (F.D x f1).P H.ro (H.bl Y) (H.sv Y) w := hs.sat.holds _ (hp.mem_iff.2 (by simp : (Y, Res.ab (F.D x f1)) ∈ _))
  have hb2 : bagP F H.ro w ((m1 ++ m2).map (·.2)) f2 := hs.sat.holds _ (hp.mem_iff.2 (by simp : (R, Res.ab (bag F ((m1 ++ m2).map (·.2)) f2)) ∈ _))
  rw [List.map_append] at hb2
  obtain ⟨f, hpf, hbag⟩ := bagP_join hD hb2
  have h := h (b :: f)
  simp only [nfH_eq] at h
  have hX : X < H.n := hs.sat.ids _ (hlook_mem hl)
  have hn := hs.n
  have hsw := Sim.swap hs H (Hid.le.refl H) rfl [(X, .ab (mapA F kd (m1.map er ++ (key, x) :: m2.map er) (b :: f)))] hp ?_ ?_ ?_ s.ρ
  · rw [hn] at hsw
    exact h H a w hg hsw ha
  · intro z hz
    rw [List.mem_singleton.1 hz]
    refine ⟨m1 ++ (key, x, H.sv Y) :: m2, b, arr, clock, f, by simp, e2, rfl, h1, ⟨?_, hm.sorts, hm.st⟩, by rw [List.map_append, List.map_cons]; exact hbag⟩
    obtain ⟨c1, c3, hc, hc1, hc3⟩ := esIs_app.1 hm.is
    rw [hc]
    cases c3 with
    | nil => exact hc3.elim
    | cons e c2 =>
      obtain ⟨q1, q2, q3⟩ := hc3
      have q4 : e.val = H.sv Y := by
        cases q2 with
        | ro h => cases h
        | o _ h _ => exact h.symm
      rw [List.map_append, List.map_cons, List.map_append, List.map_cons, kv_esIs hc1, kv_esIs q3, q1, q4]
  · intro z hz
    rw [List.mem_singleton.1 hz]
    exact hX
  · have hbv : mapBlk (H.sv X) = [b] := by rw [e2]; rfl
    show ((b :: f) ++ []).Perm (mapBlk (H.sv X) ++ ((F.D x f1).fp ++ (f2 ++ [])))
    rw [hbv, F.fpE]
    simp only [List.append_nil, List.singleton_append]
    exact hpf.cons b
end
end Go.GK
/-
  The ghost machine: own maps of own maps of own rows; all of them written no more.
-/
namespace Go.GK
open Go.RowKit

abbrev iRow (l : List Int) : List (List GV) := l.map fun i => [GV.v (.int .i64 i)]
def rowF (ty : Nat) : Fam (List Int) where
  D := fun l f => pack 1 [(0, .row ty 1 (iRow l))] f
  fpE := fun _ _ => rfl
  ow := fun a f ro b v w h => by
    obtain ⟨Hl, _, _, rfl, _, h1, _, _⟩ := h
    obtain ⟨xs, ⟨_, ho⟩, _⟩ := h1 _ (List.mem_singleton.2 rfl)
    rcases ho with ⟨h, _⟩ | ⟨g, cap, cur, h, _⟩ <;> rw [h] <;> rfl
def ownF (ty : Nat) : Fam (List (Value × List Int)) := mapF (rowF ty) none
abbrev roE (l : List (Value × List Int)) : List (Value × GV) := l.map fun x => (x.1, GV.sl 1 (iRow x.2))
def roF : Fam (List (Value × List Int)) where
  D := fun l f => pack 1 [(0, .mp none (roE l))] f
  fpE := fun _ _ => rfl
  ow := fun a f ro b v w h => by
    obtain ⟨Hl, _, _, rfl, _, h1, _, _⟩ := h
    obtain ⟨b, arr, clock, h, _⟩ := h1 _ (List.mem_singleton.2 rfl)
    rw [h]
    rfl

def Frz {α : Type} (F G : Fam α) : Prop := ∀ a f ro b v (w : World), (F.D a f).P ro b v w → ∃ f' z b', (f' ++ z).Perm f ∧ ∀ ro' : Nat → Option Obj, (∀ c o, ro c = some o → ro' c = some o) → (∀ c ∈ z, ro' c = w.heap[c]?) → (G.D a f').P ro' b' v w
theorem bag_frz {α : Type} {F G : Fam α} (hF : Frz F G) {ro : Nat → Option Obj} {w : World} : ∀ {l : List (α × Value)} {f : List Nat}, bagP F ro w l f → ∃ f' z, (f' ++ z).Perm f ∧ ∀ ro' : Nat → Option Obj, (∀ c o, ro c = some o → ro' c = some o) → (∀ c ∈ z, ro' c = w.heap[c]?) → bagP G ro' w l f'
  | [], f, h => ⟨[], [], by rw [show f = [] from h]; exact .refl _, fun _ _ _ => rfl⟩
  | (a, u) :: r, f, h => by
    obtain ⟨b, f1, f2, rfl, h1, h2⟩ := h
    obtain ⟨g1, z1, b1, p1, k1⟩ := hF a f1 ro b u w h1
    obtain ⟨g2, z2, p2, k2⟩ := bag_frz hF h2
    refine ⟨g1 ++ g2, z1 ++ z2, ?_, fun ro' hro hz => ⟨b1, g1, g2, rfl, k1 ro' hro fun c hc => hz c (by simp [hc]), k2 ro' hro fun c hc => hz c (by simp [hc])⟩⟩
    refine List.Perm.trans ?_ (p1.append p2)
    rw [List.append_assoc, List.append_assoc]
    refine List.Perm.append_left g1 ?_
    rw [← List.append_assoc, ← List.append_assoc]
    exact List.perm_append_comm.append_right z2
theorem map_frz {α : Type} {F G : Fam α} (hF : Frz F G) (kd : Option IntKind) : Frz (mapF F kd) (mapF G kd) := by
  intro l f ro b v w h
  obtain ⟨l', bm, arr, clock, f2, e1, e2, rfl, h1, h3, h2⟩ := h
  obtain ⟨f', z, hp, hk⟩ := bag_frz hF h2
  exact ⟨bm :: f', z, b, by simpa using hp, fun ro' hro hz => ⟨l', bm, arr, clock, f', e1, e2, rfl, h1, h3, hk ro' hro hz⟩⟩
theorem rows_frz {ty : Nat} {ro : Nat → Option Obj} {w : World} : ∀ {m : List (Value × List Int × Value)} {es : List MapEntry} {f : List Nat}, bagP (rowF ty) ro w (m.map (·.2)) f → (es.map fun e => (e.key, e.val)) = m.map kv → ∀ H' : Hid, (∀ c o, ro c = some o → H'.ro c = some o) → (∀ c ∈ f, H'.ro c = w.heap[c]?) → esIs H' (roE (m.map er)) es
  | [], [], _, _, _, _, _, _ => trivial
  | x :: r, e :: s, f, h, he, H', hro, hz => by
    obtain ⟨b, f1, f2, rfl, h1, h2⟩ := h
    simp only [List.map_cons, List.cons.injEq, Prod.mk.injEq] at he
    obtain ⟨Hl, _, _, hv, hr, hh, _, hf⟩ := h1
    obtain ⟨xs, hown, hrow⟩ := hh _ (List.mem_singleton.2 rfl)
    refine ⟨he.1.1, ?_, rows_frz h2 he.2 H' hro fun c hc => hz c (by simp [hc])⟩
    rw [he.1.2]
    refine .ro (hrow.sl (fun c o hc => hro c o (hr c o hc)) (w := w) (ty := ty) ?_ fun c hc => hz c ?_)
    · rw [← hv]; exact hown
    · rw [← hf]
      refine List.mem_append.2 (.inl ?_)
      show c ∈ (Hl.sv 0).ownBlock.toList ++ []
      rw [hv, hc]
      simp
  | [], _ :: _, _, _, he, _, _, _ => by simp at he
  | _ :: _, [], _, _, he, _, _, _ => by simp at he
theorem own_frz (ty : Nat) : Frz (ownF ty) roF := by
  intro l f ro b v w h
  obtain ⟨l', bm, arr, clock, f2, rfl, e2, rfl, h1, h3, h2⟩ := h
  refine ⟨[bm], f2, b, by simp, fun ro' hro hz => ⟨⟨ro', fun _ => b, fun _ => v, 1⟩, rfl, rfl, rfl, fun _ _ h => h, fun x hx => ?_, fun x hx => ?_, ?_⟩⟩
  · rw [List.mem_singleton.1 hx]
    exact ⟨bm, arr, clock, e2, h1, rows_frz h2 h3.1 ⟨ro', fun _ => b, fun _ => v, 1⟩ hro hz, h3.2.1, h3.2.2⟩
  · rw [List.mem_singleton.1 hx]
    exact Nat.zero_lt_one
  · show mapBlk v ++ [] = [bm]
    rw [e2]
    rfl
section
variable {cx : Cx} {T : Post} {k : List It} {s : St}
theorem JK.frzF {α : Type} {F G : Fam α} (hF : Frz F G) {a : α} {f : List Nat} (X : Nat) (hl : hlook s.σ X = some (.ab (F.D a f))) (hb : ∀ f ro b b' v w, (G.D a f).P ro b v w → (G.D a f).P ro b' v w)
    (h : ∀ f', nfH (hdel s.σ X) fun σ => JK cx T k ⟨s.ρ, (X, .ab (G.D a f')) :: σ, s.n⟩) : JK cx T k s := by
  intro H ac w hg hs ha
  have hp := hlook_perm hl
  have hD : (F.D a f).P H.ro (H.bl X) (H.sv X) w := hs.sat.holds _ (hlook_mem hl)
  obtain ⟨f', z, b', hpf, hk⟩ := hF a f _ _ _ _ hD
  have h := h f'
  simp only [nfH_eq] at h
  have hbl : (blks H s.σ).Perm ((f' ++ z) ++ blks H (hdel s.σ X)) := by
    refine (List.Perm.flatMap_right (blocks H) hp).trans ?_
    show ((F.D a f).fp ++ blks H (hdel s.σ X)).Perm _
    rw [F.fpE]
    exact hpf.symm.append_right _
  have hnd := hbl.nodup_iff.1 hs.sat.nodup
  have hfree : ∀ c ∈ z, H.ro c = none := fun c hc => hs.sat.free c (hbl.mem_iff.2 (by simp [hc]))
  let ro' : Nat → Option Obj := fun c => if c ∈ z then w.heap[c]? else H.ro c
  have hro : ∀ c o, H.ro c = some o → ro' c = some o := fun c o ho => by
    show (if _ then _ else _) = _
    rw [if_neg fun hc => by rw [hfree c hc] at ho; cases ho]
    exact ho
  let H' : Hid := { H with ro := ro' }
  have hle : H.le H' := ⟨Nat.le_refl _, hro, fun _ _ => rfl, fun _ _ => rfl⟩
  have hkeep : ∀ x ∈ hdel s.σ X, x ∈ s.σ := fun x hx => hp.mem_iff.2 (by simp [hx])
  have hkb : blks H' (hdel s.σ X) = blks H (hdel s.σ X) := blks_le hle fun x hx => hs.sat.ids x (hkeep x hx)
  have hnew : blks H' ((X, .ab (G.D a f')) :: hdel s.σ X) = f' ++ blks H (hdel s.σ X) := by
    rw [blks_cons, hkb]
    show (G.D a f').fp ++ _ = _
    rw [G.fpE]
  have hin : ∀ c ∈ f' ++ blks H (hdel s.σ X), c ∈ blks H s.σ ∧ c ∉ z := fun c hc => by
    refine ⟨hbl.mem_iff.2 ?_, fun hz => ?_⟩
    · rcases List.mem_append.1 hc with h | h <;> simp [h]
    · have n1 := List.nodup_append.1 hnd
      have n2 := List.nodup_append.1 n1.1
      rcases List.mem_append.1 hc with h | h
      · exact n2.2.2 c h c hz rfl
      · exact n1.2.2 c (by simp [hz]) c h rfl
  refine h H' ac w (hg.up hro) ⟨hs.n, ⟨fun c o ho => ?_, fun x hx => ?_, ?_, fun c hc => ?_, fun x hx => ?_⟩, ?_⟩ (ha.mono hle)
  · have ho' : (if c ∈ z then w.heap[c]? else H.ro c) = some o := ho
    split at ho'
    · exact ho'
    · exact hs.sat.ro c o ho'
  · rcases List.mem_cons.1 hx with rfl | hx
    · exact hb _ _ _ _ _ _ (hk ro' hro fun c hc => if_pos hc)
    · exact holds_le hle (hs.sat.ids x (hkeep x hx)) (hs.sat.holds x (hkeep x hx))
  · rw [hnew]
    have n1 := List.nodup_append.1 hnd
    exact List.nodup_append.2 ⟨(List.nodup_append.1 n1.1).1, n1.2.1, fun c hc d hd => n1.2.2 c (by simp [hc]) d hd⟩
  · rw [hnew] at hc
    show (if c ∈ z then w.heap[c]? else H.ro c) = none
    rw [if_neg (hin c hc).2]
    exact hs.sat.free c (hin c hc).1
  · rcases List.mem_cons.1 hx with rfl | hx
    · exact hs.sat.ids (X, .ab (F.D a f)) (hlook_mem hl)
    · exact hs.sat.ids x (hkeep x hx)
  · have hfr := hs.fr
    refine ⟨hfr.os, hfr.tape, hfr.output, hfr.size, hfr.keep, fun c hc => ?_, fun c h1 h2 => ?_, hfr.le.trans hle⟩
    · rw [hnew] at hc
      exact hfr.own c (hin c hc).1
    · have h2' : (if c ∈ z then w.heap[c]? else H.ro c) ≠ none := h2
      split at h2'
      · rename_i hc
        exact hfr.own c (hbl.mem_iff.2 (by simp [hc]))
      · exact hfr.fro c h1 h2'
theorem JK.frzIx {ty : Nat} {l : List (Value × List (Value × List Int))} {f : List Nat} (X : Nat) (hl : hlook s.σ X = some (.ab (mapA (ownF ty) none l f)))
    (h : ∀ f', nfH (hdel s.σ X) fun σ => JK cx T k ⟨s.ρ, (X, .ab (mapA roF none l f')) :: σ, s.n⟩) : JK cx T k s :=
  JK.frzF (F := mapF (ownF ty) none) (G := mapF roF none) (map_frz (own_frz ty) none) X hl (fun _ _ _ _ _ _ h => h) h
end
end Go.GK
/-
  The ghost machine: maps whose entries lie as they lie: what is found, and put.
-/
namespace Go.GK
open Go.RowKit
theorem vkey_str {a b : ByteArray} : vkey (.string a) (.string b) = true ↔ a = b := by
  constructor
  · intro h
    have := vkey_eq (kd := none) rfl rfl h
    injection this
  · rintro rfl
    exact vkey_refl (kd := none) rfl
theorem vkey_no {a b : ByteArray} (h : a ≠ b) : vkey (.string a) (.string b) = false := by
  cases hv : vkey (.string a) (.string b) with
  | false => rfl
  | true => exact absurd (vkey_str.1 hv) h
theorem mfind_skip {k : Value} {b : List (Value × GV)} : ∀ {a : List (Value × GV)}, (∀ y ∈ a, vkey k y.1 = false) → mfind k (a ++ b) = mfind k b
  | [], _ => rfl
  | (k', g) :: r, h => by
    show mfind k ((k', g) :: (r ++ b)) = _
    rw [mfind, if_neg (by rw [h (k', g) (by simp)]; decide), mfind_skip (a := r) fun y hy => h y (by simp [hy])]
theorem mput_skip {k : Value} {g : GV} {b : List (Value × GV)} : ∀ {a : List (Value × GV)}, (∀ y ∈ a, vkey k y.1 = false) → mput k g (a ++ b) = a ++ mput k g b
  | [], _ => rfl
  | (k', g') :: r, h => by
    show mput k g ((k', g') :: (r ++ b)) = _
    rw [mput, if_neg (by rw [h (k', g') (by simp)]; decide), mput_skip (a := r) fun y hy => h y (by simp [hy])]
    rfl
section
variable {α : Type} {s : ByteArray} {m m1 m2 : List (Value × α × Value)} {g g' : GV}
def NoKey {α : Type} (s : ByteArray) (m : List (Value × α × Value)) : Prop := ∀ x ∈ m, ∃ t, x.1 = .string t ∧ s ≠ t
theorem NoKey.vk (h : NoKey s m) : ∀ y ∈ mE m, vkey (.string s) y.1 = false := fun y hy => by
  obtain ⟨x, hx, rfl⟩ := List.mem_map.1 hy
  obtain ⟨t, e, hn⟩ := h x hx
  show vkey _ x.1 = false
  rw [e]
  exact vkey_no hn
theorem find_mid (h : NoKey s m1) : mfind (.string s) (mE m1 ++ (.string s, g) :: mE m2) = some g := by
  rw [mfind_skip h.vk, mfind, if_pos (vkey_str.2 rfl)]
theorem find_no (h : NoKey s m) : mfind (.string s) (mE m) = none := by
  have := mfind_skip (b := []) h.vk
  rw [List.append_nil] at this
  rw [this]
  rfl
theorem put_mid (h : NoKey s m1) : mput (.string s) g (mE m1 ++ (.string s, g') :: mE m2) = mE m1 ++ (.string s, g) :: mE m2 := by
  rw [mput_skip h.vk, mput, if_pos (vkey_str.2 rfl)]
theorem put_no (h : NoKey s m) : mput (.string s) g (mE m) = mE m ++ (.string s, g) :: mE ([] : List (Value × α × Value)) := by
  have := mput_skip (g := g) (b := []) h.vk
  rw [List.append_nil] at this
  rw [this]
  rfl
theorem mE_ren (f : Nat → Nat) : ∀ m : List (Value × α × Value), renM f (mE m) = mE m
  | [] => rfl
  | x :: r => by
    show (x.1, GV.v x.2.2) :: renM f (mE r) = (x.1, GV.v x.2.2) :: mE r
    rw [mE_ren f r]
theorem mE_idb (n : Nat) : ∀ m : List (Value × α × Value), idbM n (mE m) = true
  | [] => rfl
  | x :: r => by
    show idbM n ((x.1, GV.v x.2.2) :: mE r) = true
    rw [idbM, mE_idb n r]
    rfl
theorem renM_app (f : Nat → Nat) (a b : List (Value × GV)) : renM f (a ++ b) = renM f a ++ renM f b := by unfold renM; rw [List.map_append]
theorem idbM_app (n : Nat) : ∀ a b : List (Value × GV), idbM n (a ++ b) = (idbM n a && idbM n b)
  | [], b => rfl
  | x :: r, b => by
    show idbM n (x :: (r ++ b)) = _
    rw [idbM, idbM, idbM_app n r b, Bool.and_assoc]
theorem mid_idb {n Y : Nat} {k : Value} : idbM n (mE m1 ++ (k, GV.o Y) :: mE m2) = Nat.blt Y n := by
  rw [idbM_app, mE_idb, idbM, mE_idb]
  simp [idb]
theorem end_idb {n Y : Nat} {k : Value} : idbM n (mE m1 ++ [(k, GV.o Y)]) = Nat.blt Y n := by
  have := mid_idb (n := n) (Y := Y) (k := k) (m1 := m1) (m2 := ([] : List (Value × α × Value)))
  exact this
theorem mid_ren {f : Nat → Nat} {Y : Nat} {k : Value} : renM f (mE m1 ++ (k, GV.o Y) :: mE m2) = mE m1 ++ (k, GV.o (f Y)) :: mE m2 := by
  rw [renM_app, mE_ren]
  have : renM f ((k, GV.o Y) :: mE m2) = (k, GV.o (f Y)) :: renM f (mE m2) := rfl
  rw [this, mE_ren]
end
section
variable {cx : Cx} {T : Post} {k : List It} {s : St}
theorem JK.unpackM {kd : Option IntKind} {es : List (Value × GV)} {fp : List Nat} (id : Nat) (hl : hlook s.σ id = some (.ab (GK.pack 1 [(0, .mp kd es)] fp))) (he : ∀ f, renM f es = es)
    (h : nfH (hdel s.σ id) fun σ => nfN (s.n + 1) fun m => JK cx T k ⟨s.ρ, (id, .mp kd es) :: σ, m⟩) : JK cx T k s := by
  refine JK.unpack id hl ?_
  rw [nfH_eq, nfN_eq] at h ⊢
  have e : renH (upf id s.n) [(0, .mp kd es)] = [(id, .mp kd es)] := by
    show [(upf id s.n 0, Res.mp kd (renM _ es))] = _
    rw [he]
    rfl
  rw [e]
  exact h
theorem JK.bag0 {α : Type} (F : Fam α) (h : nfN s.n fun R => nfN (s.n + 1) fun n => nfH s.σ fun σ => JK cx T k ⟨s.ρ, (R, .ab (bag F [] [])) :: σ, n⟩) : JK cx T k s := by
  intro H a w hg hs ha
  simp only [nfN_eq, nfH_eq] at h
  have hle := H.plus_le 1 (fun _ => 0) (fun _ => undef)
  have hn := hs.n
  have hnn : (H.plus 1 (fun _ => 0) (fun _ => undef)).n = s.n + 1 := by rw [← hn]; rfl
  have hrr : (H.plus 1 (fun _ => 0) (fun _ => undef)).ro = H.ro := rfl
  generalize H.plus 1 (fun _ => 0) (fun _ => undef) = H' at hle hnn hrr
  have hsw := Sim.swap hs H' hle hrr [(s.n, .ab (bag F [] []))] (old := []) (.refl _) (fun x hx => by rw [List.mem_singleton.1 hx]; rfl) (fun x hx => by
    rw [List.mem_singleton.1 hx]
    show s.n < H'.n
    omega) (.refl _) s.ρ
  rw [hnn] at hsw
  exact h H' a w (hg.up (fun _ _ h => by rw [hrr]; exact h)) hsw (ha.mono hle)
end
end Go.GK
/-
  The ghost machine: functions that may throw: contracts, calls, the throw itself; a piece of code that does not.
-/
namespace Go.GK
open Go.RowKit

def panA (v : Value) (g : GV) : Abs where
  P := fun ro _ _ _ => IsR ro g v
  fp := []
  ex := fun _ _ _ _ _ c hc => by cases hc
  congr := fun _ _ _ _ _ _ h => h
  mono := fun _ _ _ _ _ hro h => h.mono hro
abbrev thrown (v : Value) : Exit := .panic [{ v := v, recovered := false }]
theorem isR_of {H : Hid} {g : GV} {u : Value} (h : Is H g u) : idb 0 g = true → IsR H.ro g u := by
  have hget : ∀ {cs : List GV} {j : Nat} {g : GV}, idbL 0 cs = true → cs[j]? = some g → idb 0 g = true := by
    intro cs
    induction cs with
    | nil => intro j g _ hj; simp at hj
    | cons x r ih =>
      intro j g hb hj
      simp only [idbL, Bool.and_eq_true] at hb
      cases j with
      | zero => simp at hj; subst hj; exact hb.1
      | succ j => exact ih hb.2 (by simpa using hj)
  induction h with
  | ro h => exact fun _ => h
  | p h => intro hb; simp [idb] at hb
  | e h hs => intro hb; simp [idb] at hb
  | o h hs h1 => intro hb; simp [idb] at hb
  | agg hl h ih => intro hb; simp only [idb] at hb; exact .agg hl fun j g hj => ih j g hj (hget hb hj)
  | tup hl h ih => intro hb; simp only [idb] at hb; exact .tup hl fun j g hj => ih j g hj (hget hb hj)
  | fn hl h hl' h' ih ih' => intro hb; simp only [idb, Bool.and_eq_true] at hb; exact .fn hl (fun j g hj => ih j g hj (hget hb.1 hj)) hl' fun j g hj => ih' j g hj (hget hb.2 hj)
  | ifc h ih => intro hb; simp only [idb] at hb; exact .ifc (ih hb)

def Ctp (p : Pg) (f : FuncId) (n0 : Nat) (args : List GV) (σ : Heap) (Q : GV → Heap → Nat → Prop) (R : GV → Prop) : Prop :=
  ∀ H us w, H.n = n0 → GlOk p H → Cells H args us → Sat H σ w → Calls p.P f us w fun e w' =>
    (∃ u g H' σ', e = .returned u ∧ Is H' g u ∧ Sat H' σ' w' ∧ Fr H (blks H σ) w H' (blks H' σ') w' ∧ Q g σ' H'.n) ∨
    (∃ v g H', e = .panicked [{ v := v, recovered := false }] ∧ Is H' g v ∧ Sat H' [] w' ∧ Fr H (blks H σ) w H' [] w' ∧ R g ∧ idb 0 g = true)
structure Hx (p : Pg) (f : FuncId) (n0 : Nat) (args : List GV) (σ : Heap) (Q : GV → Heap → Nat → Prop) (R : GV → Prop) : Prop where
  call : ∀ aas w, (callFunc f aas).run p.P w = .ok (.enter f aas) w
  ct : Ctp p f n0 args σ Q R
theorem Hf.x {p : Pg} {f : FuncId} {n0 : Nat} {args : List GV} {σ : Heap} {Q : GV → Heap → Nat → Prop} {R : GV → Prop} (h : Hf p f n0 args σ Q) : Hx p f n0 args σ Q R :=
  ⟨h.call, fun H us w a b c d => (h.ct H us w a b c d).mono fun _ _ h => .inl h⟩
def retX (p : Pg) (rs : List ResultVar) (Q : GV → Heap → Nat → Prop) (R : GV → Prop) : Post := fun e s =>
  match e with
  | .panic ch => ∃ v g X, ch = [{ v := v, recovered := false }] ∧ hlook s.σ X = some (.ab (panA v g)) ∧ R g ∧ idb 0 g = true
  | .ret | .normal => (match resAll p s rs with | some gs => Q (resG gs) s.σ s.n | none => False)
  | _ => False
theorem Hx.ofJ {p : Pg} {f : FuncId} {fn : Func} {c : Code} {n0 N : Nat} {args : List GV} {σ : Heap} {Q : GV → Heap → Nat → Prop} {R : GV → Prop} (hp : p.Ok) (hf : p.P.funcs[f]? = some fn) (hb : fn.body = some c) (hN : fn.ntmps = N) (hl : Nat.ble args.length N = true) {rs : Array ResultVar} (hr : fn.results = rs)
    (hc : ∀ aas w, (callFunc f aas).run p.P w = .ok (.enter f aas) w)
    (h : ∀ (H0 : Hid) (S0 : List Nat) (w0 : World) (h0 : H0.n = n0) (g0 : GlOk p H0), JK ⟨p, N, n0, H0, S0, w0, h0, g0⟩ (retX p rs.toList Q R) [.code c] ⟨argEnv 0 args, σ, n0⟩) : Hx p f n0 args σ Q R := by
  refine ⟨hc, fun H us w hn hg hcs hs => ?_⟩
  have hl' := Nat.le_of_ble_eq_true hl
  have hus : us.size = args.length := hcs.1.symm
  refine calls_of_wp hf hb ?_
  have hJ := h H (blks H σ) w hn hg H { tmps := us ++ Array.replicate (fn.ntmps - us.size) undef, defers := [] } w hg ⟨hn, hs, Fr.refl _ _ _⟩ ⟨fun t g hlk => ?_, by simp [hN, hus]; omega, rfl⟩
  · refine Code.wp_mono (fun e a w' hq => ?_) hJ
    obtain ⟨H', s', hs', ha', hT⟩ := hq
    have key : (match resAll p s' rs.toList with | some gs => Q (resG gs) s'.σ s'.n | none => False) → a.defers = [] ∧ ∃ v, (results fn a.tmps).run p.P w' = .ok v w' ∧ ((∃ u g H' σ', Ending.returned v = .returned u ∧ Is H' g u ∧ Sat H' σ' w' ∧ Fr H (blks H σ) w H' (blks H' σ') w' ∧ Q g σ' H'.n) ∨ (∃ v' g H', Ending.returned v = .panicked [{ v := v', recovered := false }] ∧ Is H' g v' ∧ Sat H' [] w' ∧ Fr H (blks H σ) w H' [] w' ∧ R g ∧ idb 0 g = true)) := by
      intro hk
      cases hra : resAll p s' rs.toList with
      | none => rw [hra] at hk; exact hk.elim
      | some gs =>
        rw [hra] at hk
        obtain ⟨vs, hvs, hcv⟩ := resAll_run hp hs'.sat ha'.env hra
        have hvs : (rs.toList.mapM (fun | .tmp t => pure (a.tmps.getD t undef) | .cell c t => do loadVar t (← asAddr (a.tmps.getD c undef)) : ResultVar → Sem Value)).run p.P w' = .ok vs w' := hvs
        refine ⟨ha'.defers, _, ?_, .inl ⟨(if h : vs.toArray.size = 1 then vs.toArray[0] else .tuple vs.toArray), resG gs, H', s'.σ, rfl, ?_, hs'.sat, hs'.fr, by rw [hs'.n]; exact hk⟩⟩
        · have : (fn.results.mapM (fun | .tmp t => pure (a.tmps.getD t undef) | .cell c t => do loadVar t (← asAddr (a.tmps.getD c undef)) : ResultVar → Sem Value)).run p.P w' = .ok vs.toArray w' := by
            rw [hr, Array.mapM_eq_mapM_toList, Sem.run_map, hvs]
            rfl
          have e : results fn a.tmps = (fn.results.mapM (fun | .tmp t => pure (a.tmps.getD t undef) | .cell c t => do loadVar t (← asAddr (a.tmps.getD c undef)) : ResultVar → Sem Value) >>= fun vs => pure (if h : vs.size = 1 then vs[0] else .tuple vs)) := rfl
          rw [e, Sem.run_bind, this]
          rfl
        · have hlen := hcv.1
          simp at hlen
          by_cases h1 : vs.toArray.size = 1
          · rw [dif_pos h1]
            match gs, hcv, hlen with
            | [g], hcv, _ =>
              have := hcv.2 0 g rfl
              simp at h1
              match vs, h1 with
              | [v], _ => simpa [resG] using this
            | [], _, hlen => simp at h1 hlen; omega
            | _ :: _ :: _, _, hlen => simp at h1 hlen; omega
          · rw [dif_neg h1]
            match gs, hcv, hlen with
            | [g], hcv, hlen => simp at h1 hlen; omega
            | [], hcv, _ => exact .tup hcv.1 hcv.2
            | _ :: _ :: _, hcv, _ => exact .tup hcv.1 hcv.2
    cases e with
    | normal => exact key hT
    | ret => exact key hT
    | exit id => exact hT.elim
    | goto l => exact hT.elim
    | panic ch =>
      obtain ⟨v, g, X, rfl, hX, hR, hid⟩ := hT
      have hv : IsR H'.ro g v := hs'.sat.holds _ (hlook_mem hX)
      have hfr := hs'.fr
      exact ⟨ha'.defers, .inr ⟨v, g, H', rfl, .ro hv, ⟨hs'.sat.ro, by simp, by simp [blks], by simp [blks], by simp⟩, ⟨hfr.os, hfr.tape, hfr.output, hfr.size, hfr.keep, by simp, hfr.fro, hfr.le⟩, hR, hid⟩⟩
    | outgrown => exact hT.elim
  · obtain ⟨h1, h2⟩ := argEnv_look (H := H) (us := us) (args := args) (i := 0) (fun j g hj => by simpa using hcs.2 j g hj) t g hlk
    have : (us ++ Array.replicate (fn.ntmps - us.size) undef).getD t undef = us.getD t undef := by
      have hlt : t < us.size := by omega
      simp only [Array.getD_eq_getD_getElem?]
      rw [Array.getElem?_append_left hlt]
    rw [this]
    exact h1
section
variable {cx : Cx} {T : Post}
theorem post_thrown {s : St} {H : Hid} {a : Act} {w : World} (hs : Sim cx H s w) (ha : ActOk cx H s.ρ a) {v : Value} {g : GV} (hv : IsR H.ro g v) (hT : T (thrown v) ⟨s.ρ, (s.n, .ab (panA v g)) :: s.σ, s.n + 1⟩) : post cx T (thrown v) a w := by
  have hle := H.plus_le 1 (fun _ => 0) (fun _ => undef)
  have hn := hs.n
  have hnn : (H.plus 1 (fun _ => 0) (fun _ => undef)).n = s.n + 1 := by rw [← hn]; rfl
  have hrr : (H.plus 1 (fun _ => 0) (fun _ => undef)).ro = H.ro := rfl
  generalize H.plus 1 (fun _ => 0) (fun _ => undef) = H' at hle hnn hrr
  have hsw := Sim.swap hs H' hle hrr [(s.n, .ab (panA v g))] (old := []) (.refl _) (fun x hx => by
    rw [List.mem_singleton.1 hx]
    show IsR H'.ro g v
    rw [hrr]
    exact hv) (fun x hx => by
    rw [List.mem_singleton.1 hx]
    show s.n < H'.n
    omega) (.refl _) s.ρ
  rw [hnn] at hsw
  exact ⟨H', _, hsw, ha.mono hle, hT⟩
theorem JK.throw {all : List Oper} {o : Oper} {rest : List Oper} {k : List It} {s : St} {x : Operand} {t : TypeId} {g : GV} (ho : o.op = .panic x) (hgd : gdOk all s.ρ o.guard = true) (hx : ev cx.pg s.ρ x = some (.ifc t g)) (hb : idb 0 g = true)
    (hT : ∀ v X σ n, hlook σ X = some (.ab (panA v (.ifc t g))) → T (thrown v) ⟨s.ρ, σ, n⟩) : JK cx T (.ops false all (o :: rest) :: k) s := by
  intro H a w hg hs ha
  have hw := gdOk_wanted (o := o) ha.env hgd
  have hu0 := ev_is hg ha.env hx
  obtain ⟨u, hu, hi⟩ := hu0.inv_ifc
  have hr : IsR H.ro (.ifc t g) (.iface t u) := .ifc (isR_of hi hb)
  show wpList _ _ _ _ _ _
  unfold wpList
  rw [if_pos hw]
  refine .inl ?_
  unfold Oper.wp
  have hrun : (execOp a.eval o).run cx.pg.P w = .halt (.panic (.iface t u)) w := by
    simp only [execOp, ho, hu, Instr.panic]
    rfl
  rw [hrun, Oper.upon_panic, cont_panic]
  exact post_thrown hs ha hr (hT _ s.n _ _ (by unfold hlook; rw [Nat.beq_refl]; rfl))
theorem JK.callX {all : List Oper} {o : Oper} {rest : List Oper} {k : List It} {s : St} {f : FuncId} {m : Nat} {cargs gs : List GV} {σc : Heap} {Q : GV → Heap → Nat → Prop} {R : GV → Prop} (hr : Hx cx.pg f m cargs σc Q R) (r : Nat → Nat) (hk : callG cx.pg all s.ρ o = some (f, gs)) (hargs : gs = renL r cargs) (hσ : leσ r σc s.σ)
    (chk : (idbL m cargs && idbH m σc && distB (hids r σc)) = true) (hrn : ∀ i, i < m → r i < s.n)
    (hT : ∀ g v X σ n, R g → idb 0 g = true → hlook σ X = some (.ab (panA v g)) → T (thrown v) ⟨s.ρ, σ, n⟩)
    (h : ∀ g σ' n', Q g σ' n' → nf (ren (sh r m s.n) g) fun g => nfH (renH (sh r m s.n) σ' ++ hrest (hids r σc) s.σ) fun σ => nfN (s.n + (n' - m)) fun n => dputV cx.N s.ρ o.dst g fun ρ' => JK cx T (.ops false all rest :: k) ⟨ρ', σ, n⟩) :
    JK cx T (.ops false all (o :: rest) :: k) s := by
  obtain ⟨fo, args, ts, first, caps, gs', ho, hgd, hf, he, hargs'⟩ := callG_spec hk
  intro H a w hg hs ha
  have hw := gdOk_wanted (o := o) ha.env hgd
  show wpList _ _ _ _ _ _
  unfold wpList
  rw [if_pos hw]
  refine .inl ?_
  simp only [Bool.and_eq_true] at chk
  obtain ⟨⟨h1, h2⟩, h3⟩ := chk
  obtain ⟨us, hc, hex⟩ := execOp_call (ts := ts) hg ha.env hf he hr.call
  rw [hargs', hargs] at hc
  have hpart := (hs.sat.part hσ h2 h3).1
  have hC := hr.ct (H.via r m) us w rfl hg.re (cells_back hc h1) hpart
  unfold Oper.wp
  rw [hex o ho w, Oper.upon_enter]
  refine hC.mono ?_
  rintro e w' (⟨u, g, H', σ', rfl, hi, hs', hfr, hQ⟩ | ⟨v, g, H', rfl, hi, hs', hfr, hR, hid⟩)
  · obtain ⟨H'', hle, hren, hsim⟩ := hs.call hσ h2 h3 hrn hs' hfr s.ρ
    have hd := h g σ' H'.n hQ
    simp only [nf_eq, nfH_eq, nfN_eq, dputV_eq] at hd
    obtain ⟨ρ', ha', hJ⟩ := (ha.mono hle).dput (hren g u hi) hd
    exact hJ H'' (a.put o.dst u) w' (hg.mono hle) (hsim.ρ ρ') ha'
  · obtain ⟨H'', hle, hren, hsim⟩ := hs.call hσ h2 h3 hrn hs' hfr s.ρ
    have hg2 := hren g v hi
    rw [ren_none _ hid] at hg2
    show cont cx.pg.P (post cx T) _ (thrown v) a w'
    rw [cont_panic]
    exact post_thrown hsim (ha.mono hle) (isR_of hg2 hid) (hT g v _ _ _ hR hid (by unfold hlook; rw [Nat.beq_refl]; rfl))
def noX (T : Post) : Post := fun e s =>
  match e with
  | .panic _ => False
  | e => T e s
theorem JK.cutN {α : Type} {c : Code} {k : List It} {s : St} (I : α → St) (pre : α → Prop) (hb : JK cx (noX (cutT cx T k I pre)) [.code c] s) (hk : ∀ x, pre x → JK cx T k (I x)) : JK cx T (.code c :: k) s := by
  refine JK.cut I pre (fun H a w hg hs ha => ?_) hk
  refine Code.wp_mono (fun e a w h => ?_) (hb H a w hg hs ha)
  obtain ⟨H', s', h1, h2, h3⟩ := h
  refine ⟨H', s', h1, h2, ?_⟩
  cases e with
  | panic ch => exact h3.elim
  | normal => exact h3
  | exit id => exact h3
  | goto l => exact h3
  | ret => exact h3
  | outgrown => exact h3
end
end Go.GK
/-
  The ghost machine: regions that draw, with calls that may throw; contracts that throw, told otherwise; slices of arrays that are only read.
-/
namespace Go.GK
open Go.RowKit
theorem Act.put_size' (a : Act) (d : Option Nat) (v : Value) : (a.put d v).tmps.size = a.tmps.size := by cases d <;> simp [Act.put]
theorem Act.put_defers' (a : Act) (d : Option Nat) (v : Value) : (a.put d v).defers = a.defers := by cases d <;> simp [Act.put]
theorem retX_bare {p : Pg} {rs : List ResultVar} {Q : GV → Heap → Nat → Prop} {R : GV → Prop} : ∀ ch ρ σ n, retX p rs Q R (.panic ch) ⟨ρ, σ, n⟩ → retX p rs Q R (.panic ch) ⟨[], σ, n⟩ :=
  fun _ _ _ _ h => h

theorem Hx.weak {p : Pg} {f : FuncId} {n0 : Nat} {args : List GV} {σ : Heap} {Q Q' : GV → Heap → Nat → Prop} {R R' : GV → Prop} (h : Hx p f n0 args σ Q R) (hR : ∀ g, R g → R' g)
    (hQ : ∀ g σ' n', Q g σ' n' → ∃ (r : Nat → Nat) (g0 : GV) (τ : Heap) (m : Nat), Q' g0 τ m ∧ g = ren r g0 ∧ leσ r τ σ' ∧ (idb m g0 && idbH m τ && distB (hids r τ) && fixB r n0 && Nat.ble n0 m) = true) : Hx p f n0 args σ Q' R' := by
  refine ⟨h.call, fun H us w hn hg hc hs => ?_⟩
  refine Calls.mono (h.ct H us w hn hg hc hs) (fun e w' he => ?_)
  rcases he with ⟨u, g, H', σ', rfl, hi, hs', hfr, hq⟩ | ⟨v, g, H', rfl, hi, hs', hfr, hr, hb⟩
  · obtain ⟨r, g0, τ, m, hq', rfl, hl, hchk⟩ := hQ g σ' _ hq
    obtain ⟨h1, h2, h3, h4, h5⟩ := and5 hchk
    obtain ⟨hsat, hbl⟩ := hs'.part hl h2 h3
    have hfix := fixB_fix h4
    have hm := Nat.le_of_ble_eq_true h5
    refine .inl ⟨u, g0, H'.via r m, τ, rfl, ren_back hi h1, hsat, ?_, hq'⟩
    refine ⟨hfr.os, hfr.tape, hfr.output, hfr.size, hfr.keep, fun b hb => ?_, hfr.fro, ⟨by rw [hn]; exact hm, hfr.le.ro, fun i hi => ?_, fun i hi => ?_⟩⟩
    · obtain ⟨x, hx, _, hbx⟩ := hbl b hb
      exact hfr.own b (List.mem_flatMap.2 ⟨x, hx, hbx⟩)
    · show H'.bl (r i) = _
      rw [hfix i (by omega)]
      exact hfr.le.bl i hi
    · show H'.sv (r i) = _
      rw [hfix i (by omega)]
      exact hfr.le.sv i hi
  · exact .inr ⟨v, g, H', rfl, hi, hs', hfr, hR g hr, hb⟩
theorem Hx.imp {p : Pg} {f : FuncId} {n0 : Nat} {args : List GV} {σ : Heap} {Q Q' : GV → Heap → Nat → Prop} {R R' : GV → Prop} (h : Hx p f n0 args σ Q R) (hR : ∀ g, R g → R' g) (hQ : ∀ g σ' n', Q g σ' n' → Q' g σ' n') : Hx p f n0 args σ Q' R' := by
  refine ⟨h.call, fun H us w hn hg hc hs => ?_⟩
  refine Calls.mono (h.ct H us w hn hg hc hs) (fun e w' he => ?_)
  rcases he with ⟨u, g, H', σ', rfl, hi, hs', hfr, hq⟩ | ⟨v, g, H', rfl, hi, hs', hfr, hr, hb⟩
  · exact .inl ⟨u, g, H', σ', rfl, hi, hs', hfr, hQ _ _ _ hq⟩
  · exact .inr ⟨v, g, H', rfl, hi, hs', hfr, hR g hr, hb⟩
theorem Hx.hf {p : Pg} {f : FuncId} {n0 : Nat} {args : List GV} {σ : Heap} {Q : GV → Heap → Nat → Prop} (h : Hx p f n0 args σ Q fun _ => False) : Hf p f n0 args σ Q := by
  refine ⟨h.call, fun H us w hn hg hc hs => ?_⟩
  refine Calls.mono (h.ct H us w hn hg hc hs) (fun e w' he => ?_)
  rcases he with h | ⟨v, g, H', rfl, hi, hs', hfr, hr, hb⟩
  · exact h
  · exact hr.elim
theorem Hx.eqG {p : Pg} {f : FuncId} {n0 : Nat} {args : List GV} {σ : Heap} {g : GV} {Q : Heap → Nat → Prop} {R : GV → Prop} (h : Hx p f n0 args σ (fun g' σ' n' => GK.eqG g g' ∧ Q σ' n') R) : Hx p f n0 args σ (fun g' σ' n' => g' = g ∧ Q σ' n') R := by
  refine ⟨h.call, fun H us w hn hg hc hs => ?_⟩
  refine Calls.mono (h.ct H us w hn hg hc hs) (fun e w' he => ?_)
  rcases he with ⟨u, g', H', σ', rfl, hi, hs', hfr, he, hR⟩ | h
  · exact .inl ⟨u, g, H', σ', rfl, eqG_is he hi, hs', hfr, rfl, hR⟩
  · exact .inr h
section
variable {cx : Cx} {T : Post}
theorem RA.takeX {ops : List Oper} {k : List It} {σs : Heap} {ρq : Env} {fuel : Nat} {listed : List Bool} {s : St} (i : Nat) {o : Oper} (hp : cx.pg.Ok) (hi : ops[i]? = some o) (hsel : Region.noSelect ops.toArray = true) (hf : Region.free .any ops.toArray listed.toArray i = true)
    (hr : (Region.ready .any ops.toArray listed.toArray).contains i = true) (hT : ∀ ch ρ σ n, T (.panic ch) ⟨ρ, σ, n⟩ → T (.panic ch) ⟨[], σ, n⟩)
    {N : Env → St → Prop} (hN : ∀ ρq s', N ρq s' → RA cx T ops k σs ρq fuel (listed.set i true) s')
    (h : guardVC ops ρq o.guard (fun ρq' => pv cx.pg ρq' σs o.op fun g => dput cx.N s.ρ o.dst g fun ρ' => N (eput ρq' o.dst g) { s with ρ := ρ' })
      (fun ρq' => dput cx.N s.ρ o.dst (.v undef) fun ρ' => N (eput ρq' o.dst (.v undef)) { s with ρ := ρ' })) : RA cx T ops k σs ρq (fuel + 1) listed s := by
  intro n0 H0 S0 w0 h0 g0 hσ hap hfree hlink H a w hs ha hq
  obtain ⟨hrs, hagr⟩ := readSat hσ hap hfree hs
  have hpan : ∀ c a w v, cont cx.pg.P (post cx T) k (.panic c) (a.put o.dst v) w → cont cx.pg.P (post cx T) k (.panic c) a w := fun c a w v hc => by
    rw [cont_panic] at hc ⊢
    obtain ⟨H', s', hs', ha', ht⟩ := hc
    obtain ⟨ρ', σ', n'⟩ := s'
    exact ⟨H', ⟨[], σ', n'⟩, hs'.ρ [], ⟨fun t g h => (by cases h), by have := ha'.size; simpa [Act.put_size'] using this, by have := ha'.defers; simpa [Act.put_defers'] using this⟩, hT c ρ' σ' n' ht⟩
  have hgo : ∀ ρq', EnvOk (H.at H0.ro) ρq' a → Region.wanted o (yielded ops.toArray a.tmps) = true → (pv cx.pg ρq' σs o.op fun g => dput cx.N s.ρ o.dst g fun ρ' => N (eput ρq' o.dst g) { s with ρ := ρ' }) →
      wpAnyH cx.pg.P .any ops.toArray (cont cx.pg.P (post cx T) k) (Held S0 w0) (fuel + 1) listed.toArray a w := by
    intro ρq' hq' hw hpv
    obtain ⟨u, g, hrun, hiu, hk⟩ := pv_sound hp (GlOk.at g0) hq' hrs hpv
    have hiu' : Is H g u := hiu.mono (show (H.at H0.ro).le H from ⟨Nat.le_refl _, fun b o ho => hs.fr.le.ro b o ho, fun _ _ => rfl, fun _ _ => rfl⟩)
    have hlt := dput_lt hk
    obtain ⟨ρ', ha', hra⟩ := ha.dput hiu' hk
    refine wpAnyH_take (by simpa using hi) hsel hf hr (fun c a w => hpan c a w u) (.inl ⟨hw, fun w' hh => hrun w' (hagr w' hh) o rfl⟩) hs.keeps ?_
    rw [set_list]
    refine hN _ _ hra n0 H0 S0 w0 h0 g0 hσ hap hfree hlink H (a.put o.dst u) w (hs.ρ ρ') ha' ?_
    exact EnvOk.at_eput hq' (fun d hd => by rw [ha.size]; exact hlt d hd) hiu
  have hskip : ∀ ρq', EnvOk (H.at H0.ro) ρq' a → Region.wanted o (yielded ops.toArray a.tmps) = false → (dput cx.N s.ρ o.dst (.v undef) fun ρ' => N (eput ρq' o.dst (.v undef)) { s with ρ := ρ' }) →
      wpAnyH cx.pg.P .any ops.toArray (cont cx.pg.P (post cx T) k) (Held S0 w0) (fuel + 1) listed.toArray a w := by
    intro ρq' hq' hw hk
    have hlt := dput_lt hk
    obtain ⟨ρ', ha', hra⟩ := ha.dput (u := undef) (.ro (.v undef)) hk
    refine wpAnyH_take (by simpa using hi) hsel hf hr (fun c a w => hpan c a w undef) (.inr ⟨hw, rfl⟩) hs.keeps ?_
    rw [set_list]
    refine hN _ _ hra n0 H0 S0 w0 h0 g0 hσ hap hfree hlink H (a.put o.dst undef) w (hs.ρ ρ') ha' ?_
    exact EnvOk.at_eput hq' (fun d hd => by rw [ha.size]; exact hlt d hd) (.ro (.v undef))
  unfold guardVC at h
  split at h
  · rename_i hgd
    exact hgo ρq hq (wanted_none hgd) h
  · rename_i j want hgd
    split at h
    · rename_i oj hj
      split at h
      · rename_i d hd
        split at h
        · rename_i t hl
          have hv := (hq d _ hl).inv_v
          have hw := wanted_at hgd hj hd hv
          cases hb : (t == want) with
          | true => rw [hb] at h hw; exact hgo ρq hq hw h
          | false => rw [hb] at h hw; exact hskip ρq hq hw h
        · rename_i t hl
          have hv := (hq d _ hl).inv_b
          have hw := wanted_at hgd hj hd hv
          have hput : ∀ c, t = c → EnvOk (H.at H0.ro) ((d, .v (.bool c)) :: ρq) a := by
            intro c hc x g hx
            unfold look at hx
            cases hb : Nat.beq d x with
            | true =>
              rw [hb] at hx
              simp at hx
              subst hx
              rw [← beq_eq hb, hv, hc]
              exact .ro (.v _)
            | false => rw [hb] at hx; exact hq x g (by simpa using hx)
          by_cases e : t = want
          · rw [e] at hw
            exact hgo _ (hput want e) (by simpa using hw) (h.1 e)
          · have e' : t = !want := by cases t <;> cases want <;> simp_all
            rw [e'] at hw
            exact hskip _ (hput _ e') (by simpa using hw) (h.2 e')
        · rename_i vs hl
          exact hskip ρq hq (wanted_not hgd hj hd (hq d _ hl).inv_v) h
        · exact h.elim
      · exact h.elim
    · exact h.elim

theorem RA.runX {ops : List Oper} {k : List It} {σs : Heap} {e : Bool} (hp : cx.pg.Ok) (hsel : Region.noSelect ops.toArray = true) (hT : ∀ ch ρ σ n, T (.panic ch) ⟨ρ, σ, n⟩ → T (.panic ch) ⟨[], σ, n⟩) : ∀ (order : List (Nat × Bool)) {fuel : Nat} {listed : List Bool} {ρq : Env} {s : St}, ordB ops e order listed = true → rvc cx T ops k σs e order fuel listed ρq s → RA cx T ops k σs ρq fuel listed s
  | [], fuel, listed, ρq, s, hB, h => by
    simp only [rvc] at h
    cases e with
    | true =>
      simp only [ordB, cond_true, List.isEmpty_iff] at hB
      simp only [cond_true, nfH_eq] at h
      exact RA.done hB h
    | false => exact h
  | (i, l) :: r, 0, _, _, _, _, h => by simp only [rvc] at h
  | (i, l) :: r, fuel + 1, listed, ρq, s, hB, h => by
    obtain ⟨ρ, σ, m⟩ := s
    simp only [rvc, nfE_eq, nf_eq] at h
    simp only [ordB] at hB
    cases hi : ops[i]? with
    | none => rw [hi] at h; exact h.elim
    | some o =>
      rw [hi] at h hB
      simp only [Bool.and_eq_true] at hB h
      obtain ⟨hB1, hB2⟩ := hB
      have ih : ∀ ρq' s', rvc cx T ops k σs e r fuel (listed.set i true) ρq' s' → RA cx T ops k σs ρq' fuel (listed.set i true) s' := fun ρq' s' h' => RA.runX hp hsel hT r hB2 h'
      cases hpu : (isPure o.op && !l) with
      | true =>
        rw [hpu] at h hB1
        simp only [cond_true, Bool.and_eq_true] at h hB1
        exact RA.takeX i hp hi hsel hB1.2 hB1.1 hT ih h
      | false =>
        rw [hpu] at h hB1
        simp only [cond_false] at h hB1
        cases hgd : gdOk ops ρ o.guard with
        | false =>
          rw [hgd] at h
          cases hgn : gdNo ops ρ o.guard with
          | false => rw [hgn] at h; exact h.elim
          | true =>
            rw [hgn] at h
            refine RA.skip i hi (eqB_eq hB1) hgn ?_
            revert h
            cases o.dst with
            | none => exact fun h => ih _ _ h
            | some d =>
              simp only [dput, cond_true, cond_false]
              cases Nat.blt d cx.N with
              | false => exact fun h => h
              | true => simp only [cond_true, nf_eq]; exact fun h => ih _ _ h
        | true =>
          rw [hgd] at h
          cases hpp : isPure o.op with
          | true =>
            rw [hpp] at h
            exact RA.read i hp hi (eqB_eq hB1) hgd ih h
          | false =>
            rw [hpp] at h
            exact RA.mem i hp hi (eqB_eq hB1) hgd hpp ih h
theorem RA.callX {ops : List Oper} {k : List It} {σs : Heap} {ρq : Env} {fuel : Nat} {listed : List Bool} {s : St} (i : Nat) {o : Oper} {f : FuncId} {m : Nat} {cargs gs : List GV} {σc : Heap} {Q : GV → Heap → Nat → Prop} {R : GV → Prop} (hr : Hx cx.pg f m cargs σc Q R) (r : Nat → Nat) (hi : ops[i]? = some o) (hrd : Region.ready .any ops.toArray listed.toArray = [i]) (hk : callG cx.pg ops s.ρ o = some (f, gs)) (hargs : gs = renL r cargs) (hσ : leσ r σc s.σ)
    (chk : (idbL m cargs && idbH m σc && distB (hids r σc)) = true) (hrn : ∀ i, i < m → r i < s.n)
    (hT : ∀ g v X σ n, R g → idb 0 g = true → hlook σ X = some (.ab (panA v g)) → T (thrown v) ⟨s.ρ, σ, n⟩)
    (h : ∀ g σ' n', Q g σ' n' → nf (ren (sh r m s.n) g) fun g => nfH (renH (sh r m s.n) σ' ++ hrest (hids r σc) s.σ) fun σ => nfN (s.n + (n' - m)) fun n => nfE (qput ρq o.dst g) fun ρq => dput cx.N s.ρ o.dst g fun ρ' => RA cx T ops k σs ρq fuel (listed.set i true) ⟨ρ', σ, n⟩) :
    RA cx T ops k σs ρq (fuel + 1) listed s := by
  obtain ⟨fo, args, ts, first, caps, gs', ho, hgd, hf, he, hargs'⟩ := callG_spec hk
  intro n0 H0 S0 w0 h0 g0 hσ' hap hfree hlink H a w hs ha hq
  have hg : GlOk cx.pg H := g0.mono hs.fr.le
  refine wpAnyH_all hrd (by simp) (fun j hj => ?_)
  have hji : j = i := by simpa using hj
  subst hji
  unfold wpOp
  have hi' : ops.toArray[j]? = some o := by simpa using hi
  rw [hi']
  simp only
  have hw := gdOk_wanted (o := o) ha.env hgd
  rw [if_pos hw]
  refine .inl ?_
  simp only [Bool.and_eq_true] at chk
  obtain ⟨⟨h1, h2⟩, h3⟩ := chk
  obtain ⟨us, hc, hex⟩ := execOp_call (ts := ts) hg ha.env hf he hr.call
  rw [hargs', hargs] at hc
  have hpart := (hs.sat.part hσ h2 h3).1
  have hC := hr.ct (H.via r m) us w rfl hg.re (cells_back hc h1) hpart
  unfold Oper.wp
  rw [hex o ho w, Oper.upon_enter]
  refine hC.mono ?_
  rintro e w' (⟨u, g, H', σ', rfl, hi, hs', hfr, hQ⟩ | ⟨v, g, H', rfl, hi, hs', hfr, hR, hid⟩)
  · obtain ⟨H'', hle, hren, hsim⟩ := hs.call hσ h2 h3 hrn hs' hfr s.ρ
    have hd := h g σ' H'.n hQ
    rw [nf_eq, nfH_eq, nfN_eq, nfE_eq] at hd
    have hlt := dput_lt hd
    obtain ⟨ρ', ha', hra⟩ := (ha.mono hle).dput (hren g u hi) hd
    rw [set_list]
    refine ⟨(hsim.ρ ρ').keeps, hra n0 H0 S0 w0 h0 g0 hσ' hap hfree hlink H'' (a.put o.dst u) w' (hsim.ρ ρ') ha' ?_⟩
    exact EnvOk.at_put (H := H) hq hle (fun d hdd => by rw [ha.size]; exact hlt d hdd) (hren g u hi)
  · obtain ⟨H'', hle, hren, hsim⟩ := hs.call hσ h2 h3 hrn hs' hfr s.ρ
    have hg2 := hren g v hi
    rw [ren_none _ hid] at hg2
    show cont cx.pg.P (post cx T) _ (thrown v) a w'
    rw [cont_panic]
    exact post_thrown (hlink H'' _ w' hsim) (ha.mono hle) (isR_of hg2 hid) (hT g v _ _ _ hR hid (by unfold hlook; rw [Nat.beq_refl]; rfl))
theorem JK.sliceArr {all : List Oper} {o : Oper} {rest : List Oper} {k : List It} {s : St} {t e n : Nat} {x : Operand} {ti tie : TI} {vs : List Value} (hp : cx.pg.Ok) (ho : o.op = .slice t x none none none) (hgd : gdOk all s.ρ o.guard = true) (ht : tget cx.pg.tt t = some ti) (htd : ti.d = .array n e) (hte : tget cx.pg.tt e = some tie) (hsz : tie.sz = 1) (hx : ev cx.pg s.ρ x = some (.r (vs.map .v))) (hn : vs.length = n) (hne : Nat.ble 1 n = true) (hm : Nat.ble n maxLen = true) (h1 : vs.all (·.oneCell') = true)
    (h : dput cx.N s.ρ o.dst (.sl 1 (vs.map fun v => [.v v])) fun ρ' => JK cx T (.ops false all rest :: k) ⟨ρ', s.σ, s.n⟩) : JK cx T (.ops false all (o :: rest) :: k) s := by
  intro H a w hg hs ha
  have hw := gdOk_wanted (o := o) ha.env hgd
  have hu : cx.pg.P.underlying t = some (.array n e) := by have := (hp.tt _ _ ht).d; rw [htd] at this; exact this
  have hes := (hp.tt _ _ hte).size
  obtain ⟨ad, us, hv, hc, his⟩ := (ev_is hg ha.env hx).inv_r
  have hb := run_bounds (p := cx.pg) (isS := false) (lo := none) (hi := none) (len := n) (cap := n) (l := 0) (h := n) hg ha.env rfl rfl (by omega) (by omega) (by omega) (by omega) w
  have hne := Nat.le_of_ble_eq_true hne
  have hm := Nat.le_of_ble_eq_true hm
  have had : ad.add 0 = ad := by cases ad; simp [Addr.add]
  have hrun : (execOp a.eval o).run cx.pg.P w = .ok (.value (.slice (some ad) n n)) w := by
    have hn0 : ¬ n = 0 := by omega
    simp only [Option.map_none, Int.toNat_zero, Int.toNat_natCast] at hb
    simp only [execOp, ho, Instr.sliceAt, Sem.run_bind, run_under hu, Result.andThen_ok, hv, Option.map_none, Instr.sureAddr, Sem.run_pure, hb, hes]
    simp [hn0, had]
  have hval : ∀ (j : Nat) (v : Value), vs[j]? = some v → us j = v ∧ v.oneCell' = true := fun j v hj => by
    have h2 := his j (.v v) (by rw [List.getElem?_map, hj]; rfl)
    cases h2
    exact ⟨rfl, by
      have := List.all_eq_true.1 h1 (us j) (List.mem_of_getElem? hj)
      simpa using this⟩
  have hI : IsR H.ro (.sl 1 (vs.map fun v => [.v v])) (.slice (some ad) n n) := by
    have hlen : (vs.map fun v => [GV.v v]).length = n := by simp [hn]
    have : IsR H.ro (.sl 1 (vs.map fun v => [.v v])) (.slice (some ad) (vs.map fun v => [GV.v v]).length n) := by
      refine .sl (fun i j => if j = 0 then (vs[i]?).getD (.bool false) else .bool false) (by simp) (by omega) hm ?_ ?_ ?_
      · intro i row hi j g hj
        simp only [List.getElem?_map, Option.map_eq_some_iff] at hi
        obtain ⟨v, hvi, rfl⟩ := hi
        cases j with
        | succ j => simp at hj
        | zero =>
          have := hc i (.v v) (by rw [List.getElem?_map, hvi]; rfl)
          rw [(hval i v hvi).1] at this
          simpa [hvi] using this
      · intro i row hi j g hj
        simp only [List.getElem?_map, Option.map_eq_some_iff] at hi
        obtain ⟨v, hvi, rfl⟩ := hi
        cases j with
        | succ j => simp at hj
        | zero => simp at hj; subst hj; simpa [hvi] using IsR.v (ro := H.ro) v
      · intro i j
        by_cases hj : j = 0
        · rw [if_pos hj]
          cases hvi : vs[i]? with
          | none => rfl
          | some v => exact (hval i v hvi).2
        · rw [if_neg hj]; rfl
    rwa [hlen] at this
  obtain ⟨ρ', ha', hJ⟩ := ha.dput (.ro hI) h
  exact wpList_run hw hrun (hJ H (a.put o.dst _) w hg (hs.ρ ρ') ha')
end
end Go.GK
