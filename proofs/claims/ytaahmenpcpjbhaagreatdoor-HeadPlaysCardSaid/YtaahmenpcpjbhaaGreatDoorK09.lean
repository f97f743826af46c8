/-
  The ghost machine: a region that draws its order: a struct that is built of values may be built as soon as it may be.
-/
import Derived.Test.YtaahmenpcpjbhaaGreatDoorK08
import Derived.Lib.AppendZerosOnto
import Derived.Test.YtaahmenpcpjbhaaGreatDoorK07
namespace Go.GK
open Go.RowKit
mutual
theorem fzb_none (id : Nat) (cs0 : List GV) : ∀ {g : GV}, idb 0 g = true → fzb id cs0 g = g
  | .v _, _ | .b _, _ | .r _, _ | .sl _ _, _ => rfl
  | .p _ _, h | .e _ _ _ _, h | .o _, h => by simp [idb] at h
  | .agg cs, h => by simp only [idb] at h; simp only [fzb, fzbL_none id cs0 cs h]
  | .tup cs, h => by simp only [idb] at h; simp only [fzb, fzbL_none id cs0 cs h]
  | .fn g ks cs, h => by simp only [idb, Bool.and_eq_true] at h; simp only [fzb, fzbL_none id cs0 ks h.1, fzbL_none id cs0 cs h.2]
  | .ifc t x, h => by simp only [idb] at h; simp only [fzb, fzb_none id cs0 h]
theorem fzbL_none (id : Nat) (cs0 : List GV) : ∀ (l : List GV), idbL 0 l = true → fzbL id cs0 l = l
  | [], _ => rfl
  | g :: r, h => by simp only [idbL, Bool.and_eq_true] at h; simp only [fzbL, fzb_none id cs0 h.1, fzbL_none id cs0 r h.2]
end
mutual
theorem frz_none (id sz : Nat) (rows : List (List GV)) : ∀ {g : GV}, idb 0 g = true → frz id sz rows g = g
  | .v _, _ | .b _, _ | .r _, _ | .sl _ _, _ => rfl
  | .p _ _, h | .e _ _ _ _, h | .o _, h => by simp [idb] at h
  | .agg cs, h => by simp only [idb] at h; simp only [frz, frzL_none id sz rows cs h]
  | .tup cs, h => by simp only [idb] at h; simp only [frz, frzL_none id sz rows cs h]
  | .fn g ks cs, h => by simp only [idb, Bool.and_eq_true] at h; simp only [frz, frzL_none id sz rows ks h.1, frzL_none id sz rows cs h.2]
  | .ifc t x, h => by simp only [idb] at h; simp only [frz, frz_none id sz rows h]
theorem frzL_none (id sz : Nat) (rows : List (List GV)) : ∀ (l : List GV), idbL 0 l = true → frzL id sz rows l = l
  | [], _ => rfl
  | g :: r, h => by simp only [idbL, Bool.and_eq_true] at h; simp only [frzL, frz_none id sz rows h.1, frzL_none id sz rows r h.2]
end
/-- A struct is built the same in every world. -/
theorem run_build_all {p : Pg} {H : Hid} {t : Nat} {ti : TI} (hti : TyOk p.P t ti) {fs : List (Nat × Nat × Bool)} (hd : ti.d = .struct fs) {gs : List (Nat × GV)} {vs : Array (Nat × Value)} {cs : List GV} (hl : gs.length = vs.size)
    (hi : ∀ (j : Nat) i g, gs[j]? = some (i, g) → ∃ v, vs.toList[j]? = some (i, v) ∧ Is H g v) (hf : gfill fs gs (ti.zero.map .v) = some cs) : ∃ us, (∀ w, (Instr.build t vs).run p.P w = .ok (.agg us) w) ∧ Cells H cs us := by
  have hd' := hti.d
  rw [hd] at hd'
  obtain ⟨fields, hu, hfs, hin⟩ := hd'
  obtain ⟨it, z, hit, hsz, _, hz, hzc, hzl⟩ := hti.info
  have hzcell : Cells H (ti.zero.map .v) z.cells := by
    have := cells_vs (H := H) ti.zero
    rw [← hzc] at this
    simpa [← hzc] using this
  have hplaces : ∃ places, fields.toList.mapM (fun f => (p.P.info? f.type).map fun i => (f.offset, i.size)) = some places ∧ ∀ (i off sz : Nat) (ag : Bool), fs[i]? = some (off, sz, ag) → places[i]? = some (off, sz) := by
    have key : ∀ (l : List Field), (∀ f ∈ l, (p.P.info? f.type).isSome = true ∧ (p.P.underlying f.type).isSome = true) → l.mapM (fun f => (p.P.info? f.type).map fun i => (f.offset, i.size)) = some (l.map fun f => (f.offset, p.P.cellsOf f.type)) := by
      intro l
      induction l with
      | nil => intro _; rfl
      | cons f l ih =>
        intro h
        obtain ⟨i, hi⟩ := Option.isSome_iff_exists.1 (h f List.mem_cons_self).1
        have := ih (fun g hg => h g (List.mem_cons_of_mem _ hg))
        simp [List.mapM_cons, hi, this, Program.cellsOf]
    refine ⟨_, key _ hin, fun i off sz ag hfi => ?_⟩
    have := hfs i
    rw [hfi] at this
    simp only [List.getElem?_map]
    rw [Array.getElem?_toList]
    cases hff : fields[i]? with
    | none => rw [hff] at this; cases this
    | some f =>
      rw [hff] at this
      simp only [Option.map_some, Option.some.injEq, Prod.mk.injEq] at this ⊢
      exact ⟨this.1.symm, this.2.1.symm⟩
  obtain ⟨places, hpl, hpp⟩ := hplaces
  obtain ⟨us, hus, hc⟩ := fill_is (place := (places.toArray[·]?)) (places := fs) (by simpa using hpp) (gs := gs) (vs := vs.toList) (by simpa using hl) hi hzcell hf
  refine ⟨us, fun w => run_build w t vs us ?_, hc⟩
  unfold Program.built
  simp only [hit, hu, hz, hpl]
  exact hus

section
variable {cx : Cx} {T : Post}
theorem RA.takeB {ops : List Oper} {k : List It} {σs : Heap} {ρq : Env} {fuel : Nat} {listed : List Bool} {s : St} (i : Nat) {o : Oper} {t : TypeId} {parts : Array (Nat × Operand)} {ti : TI} {fs : List (Nat × Nat × Bool)} {gs : List (Nat × GV)} {cs : List GV} (hp : cx.pg.Ok) (hi : ops[i]? = some o) (ho : o.op = .build t parts) (hgd : o.guard = none)
    (ht : tget cx.pg.tt t = some ti) (hd : ti.d = .struct fs) (hps : evp cx.pg ρq parts.toList = some gs) (hc : gfill fs gs (ti.zero.map .v) = some cs)
    (hB : (Region.noSelect ops.toArray && Region.free .any ops.toArray listed.toArray i && (Region.ready .any ops.toArray listed.toArray).contains i) = true) (hT : ∀ ch s, ¬ T (.panic ch) s)
    (h : dputV cx.N s.ρ o.dst (.agg cs) fun ρ' => RA cx T ops k σs (eput ρq o.dst (.agg cs)) fuel (listed.set i true) { s with ρ := ρ' }) : RA cx T ops k σs ρq (fuel + 1) listed s := by
  rw [dputV_eq] at h
  simp only [Bool.and_eq_true] at hB
  obtain ⟨⟨hsel, hf⟩, hr⟩ := hB
  intro n0 H0 S0 w0 h0 g0 hσ hap hfree hlink H a w hs ha hq
  have hpan : ∀ c a w v, cont cx.pg.P (post cx T) k (.panic c) (a.put o.dst v) w → cont cx.pg.P (post cx T) k (.panic c) a w := fun c a w v hc => by
    rw [cont_panic] at hc
    obtain ⟨_, s', _, _, ht⟩ := hc
    exact (hT c s' ht).elim
  obtain ⟨hl, hi2⟩ := evp_is (GlOk.at g0) hq hps
  obtain ⟨us, hrun, hcs⟩ := run_build_all (hp.tt _ _ ht) hd (vs := parts.map fun x => (x.1, a.eval x.2)) (by simpa using hl) (by simpa using hi2) hc
  have hiu : Is (H.at H0.ro) (.agg cs) (.agg us) := .agg hcs.1 hcs.2
  have hiu' : Is H (.agg cs) (.agg us) := hiu.mono (show (H.at H0.ro).le H from ⟨Nat.le_refl _, fun b o ho => hs.fr.le.ro b o ho, fun _ _ => rfl, fun _ _ => rfl⟩)
  have hlt := dput_lt h
  obtain ⟨ρ', ha', hra⟩ := ha.dput hiu' h
  have hw : Region.wanted o (yielded ops.toArray a.tmps) = true := wanted_none hgd
  refine wpAnyH_take (by simpa using hi) hsel hf hr (fun c a w => hpan c a w (.agg us)) (.inl ⟨hw, fun w' _ => ?_⟩) hs.keeps ?_
  · simp only [execOp, ho, Sem.run_bind, hrun, Result.andThen_ok]
    rfl
  · rw [set_list]
    refine hra n0 H0 S0 w0 h0 g0 hσ hap hfree hlink H (a.put o.dst (.agg us)) w (hs.ρ ρ') ha' ?_
    exact EnvOk.at_eput hq (fun d hd => by rw [ha.size]; exact hlt d hd) hiu
end
end Go.GK
/-
  The ghost machine: a slice grown from nothing (slices.Grow of nil); a copy of elements of any size.
-/
namespace Go.GK
open Go.RowKit
section
variable {cx : Cx} {T : Post}
/-- cap of the nil slice. -/
theorem JK.capNil {all : List Oper} {o : Oper} {rest : List Oper} {k : List It} {s : St} {x : Operand} {t e : TypeId} {ti : TI} (hp : cx.pg.Ok) (ho : o.op = .call { callee := .builtin .cap, args := #[x], argTypes := #[t] }) (hgd : gdOk all s.ρ o.guard = true)
    (ht : tget cx.pg.tt t = some ti) (htd : ti.d = .slice e) (hx : ev cx.pg s.ρ x = some (.v (.slice none 0 0)))
    (h : dput cx.N s.ρ o.dst (.v (.int .i64 0)) fun ρ' => JK cx T (.ops false all rest :: k) ⟨ρ', s.σ, s.n⟩) : JK cx T (.ops false all (o :: rest) :: k) s := by
  intro H a w hg hs ha
  have hw := gdOk_wanted (o := o) ha.env hgd
  have hu : cx.pg.P.underlying t = some (.slice e) := by have := (hp.tt _ _ ht).d; rw [htd] at this; exact this
  have hxv := (ev_is hg ha.env hx).inv_v
  have hrun : (execOp a.eval o).run cx.pg.P w = .ok (.value (.int .i64 0)) w := by
    obtain ⟨q, hq⟩ := run_builtin (p := cx.pg) (a := a) rfl o ho w
    rw [hq]
    simp [builtin, hxv, Builtin.cap_, run_under hu, goInt]
  obtain ⟨ρ', ha', hJ⟩ := ha.dput (u := .int .i64 0) (.ro (.v _)) h
  exact wpList_run hw hrun (hJ _ (a.put o.dst _) w hg (hs.ρ ρ') ha')
/-- append(nil, make([]T, n)...): a new own slice of n elements; what they hold is left open. -/
theorem JK.appendZ {all : List Oper} {o : Oper} {rest : List Oper} {k : List It} {s : St} {x y : Operand} {t tn e : TypeId} {ti tie : TI} {kn kq : IntKind} {n sz : Nat} (hp : cx.pg.Ok) (ho : o.op = .call { callee := .builtin .append, args := #[x, y], argTypes := #[t, tn] }) (hgd : gdOk all s.ρ o.guard = true)
    (ht : tget cx.pg.tt t = some ti) (htd : ti.d = .slice e) (htn : cx.pg.P.underlying tn = some (.int kn)) (hte : tget cx.pg.tt e = some tie) (hsz : tie.sz = sz) (h0 : 0 < sz) (hone : tie.zero.all (·.oneCell') = true)
    (hx : ev cx.pg s.ρ x = some (.v (.slice none 0 0))) (hy : ev cx.pg s.ρ y = some (.v (.int kq (n : Int)))) (hn : 0 < n) (hb : n * tie.by_ ≤ 140737488355328) (hm : n ≤ 140737488355328)
    (h : ∀ zs : List (List GV), zs.length = n → nfN (s.n + 1) fun m => dput cx.N s.ρ o.dst (.o s.n) fun ρ' => JK cx T (.ops false all rest :: k) ⟨ρ', (s.n, .row e sz zs) :: s.σ, m⟩) : JK cx T (.ops false all (o :: rest) :: k) s := by
  intro H a w hg hs ha
  have hw := gdOk_wanted (o := o) ha.env hgd
  have hu : cx.pg.P.underlying t = some (.slice e) := by have := (hp.tt _ _ ht).d; rw [htd] at this; exact this
  obtain ⟨i, z, hi, hisz, hiby, hiz, hzc, hzl⟩ := (hp.tt _ _ hte).info
  have hzsz : z.cells.size = sz := by rw [← Array.length_toList, hzc, hzl, hsz]
  have hzone : ∀ v ∈ z.cells.toList, v.oneCell' = true := by rw [hzc]; exact List.all_eq_true.1 hone
  have hxv := (ev_is hg ha.env hx).inv_v
  have hyv := (ev_is hg ha.env hy).inv_v
  have hr := Lib.run_append_grow_zeros (P := cx.pg.P) w t tn o.type e i z kq kn hu htn hi hiz none 0 0 [] (run_firstCells_none w.drew i.size 0 0 0) n hn (by rw [hisz, hsz]; exact h0) (by omega) (by omega) (by rw [hiby]; omega) (by rw [hiby, Nat.zero_add]; exact growslice_fits (by omega) hb)
  rw [Nat.zero_add] at hr
  have hge := grownCap_ge w n 0 e
  have hgm : grownCap w n 0 e ≤ maxLen := grownCap_le_maxLen w n 0 e (by unfold maxLen; omega)
  let zc := (Builtin.zeroCells z.cells n).toList
  have hzcl : zc.length = n * sz := by simp [zc, Builtin.zeroCells, hzsz]
  have hzco : ∀ v ∈ zc, v.oneCell' = true := by
    intro v hv
    simp only [zc, Builtin.zeroCells, Array.toList_map, List.mem_map] at hv
    obtain ⟨q, hq, rfl⟩ := hv
    have hq' : q < n * z.cells.size := by simpa using hq
    have hpos : 0 < z.cells.size := by omega
    have hlt := Nat.mod_lt q hpos
    rw [getElem!_pos z.cells _ hlt]
    exact hzone _ (by simp)
  obtain ⟨zs, hzs, hzr⟩ := RowOk.vals H.ro sz n zc hzcl hzco
  have hj := h zs hzs
  rw [nfN_eq] at hj
  have hown : (w.drew.alloc (.cells (([] : List Value).toArray ++ Builtin.zeroCells z.cells n ++ Builtin.zeroCells z.cells (grownCap w n 0 e - n)) e)).ownsRow 0 e sz (.slice (some ⟨w.heap.size, 0, none⟩) n (grownCap w n 0 e)) n zc := by
    refine ⟨hzcl, .inr ⟨w.heap.size, grownCap w n 0 e, _, rfl, Nat.zero_le _, heap_alloc_new w.drew _, hge, hgm, ?_, ?_⟩⟩
    · simp only [Array.size_append, List.size_toArray, List.length_nil, size_zeroCells, hzsz, Nat.zero_add, ← Nat.add_mul]
      congr 1
      omega
    · have : (([] : List Value).toArray ++ Builtin.zeroCells z.cells n ++ Builtin.zeroCells z.cells (grownCap w n 0 e - n)).toList = zc ++ (Builtin.zeroCells z.cells (grownCap w n 0 e - n)).toList := by simp [zc]
      rw [this, ← hzcl, List.take_left]
  obtain ⟨H', hle, hiu, hsim⟩ := hs.regrown (e := e) (sz := sz) (ud := .slice none 0 0) (u := .slice (some ⟨w.heap.size, 0, none⟩) n (grownCap w n 0 e)) (rows := []) (news := zs) (xs := []) (ys := zc) (σ' := s.σ) (w' := w.drew.alloc (.cells (([] : List Value).toArray ++ Builtin.zeroCells z.cells n ++ Builtin.zeroCells z.cells (grownCap w n 0 e - n)) e))
    (by rw [List.length_nil, Nat.zero_add, hzs, List.nil_append]; exact hown) .nil hzr (by simp [Value.ownBlock]) (fun x hx => hx) hs.sat.nodup (by simp [Value.ownBlock])
    ⟨rfl, rfl, rfl, by simp, fun k hk _ => by first | exact heap_alloc_old w.drew _ k hk | exact heap_alloc_old w.drew _ hk⟩ (.inr rfl) s.ρ
  have hrun : (execOp a.eval o).run cx.pg.P w = .ok (.value (.slice (some ⟨w.heap.size, 0, none⟩) n (grownCap w n 0 e))) (w.drew.alloc (.cells (([] : List Value).toArray ++ Builtin.zeroCells z.cells n ++ Builtin.zeroCells z.cells (grownCap w n 0 e - n)) e)) := by
    obtain ⟨q, hq⟩ := run_builtin (p := cx.pg) (a := a) rfl o ho w
    rw [hq]
    simp only [List.map_toArray, List.map_cons, List.map_nil, builtin, hxv, hyv, Sem.run_bind, hr]
    rfl
  obtain ⟨ρ', ha', hJ⟩ := (ha.mono hle).dput (u := .slice (some ⟨w.heap.size, 0, none⟩) n (grownCap w n 0 e)) hiu hj
  rw [List.nil_append] at hsim
  exact wpList_run hw hrun (hJ _ (a.put o.dst _) _ (hg.mono hle) (hsim.ρ ρ') ha')
end
section
variable {P : Program}
/-- copy: elements of k cells. -/
theorem run_copy_k (w : World) (dT sT ty elem : TypeId) (k b o dLen dCap : Nat) (a : Addr) (sLen sCap n : Nat) (cs : List Value)
    (hu : P.underlying dT = some (.slice elem)) (hs : (P.info? elem).map (·.size) = some k) (hn : n = Nat.min sLen dLen) (hl : cs.length = n * k)
    (hsrc : ∀ j v, cs[j]? = some v → w.cell? (a.add j) = some v) (hc : ∀ j, j < cs.length → (w.cell? ⟨b, o + j, none⟩).isSome = true) (hf : ∀ j, j < cs.length → w.frozen? ⟨b, o + j, none⟩ = false) (h1 : ∀ v ∈ cs, v.oneCell' = true) :
    (Builtin.copy_ #[dT, sT] ty #[.slice (some ⟨b, o, none⟩) dLen dCap, .slice (some a) sLen sCap]).run P w = .ok (goInt n) (w.setCells b o cs) := by
  have hld := run_loadCells_list (P := P) w a cs hsrc
  have hst := run_storeCells_cells (P := P) b o cs 0 w (by simpa using hc) (by simpa using hf) h1
  cases hq : P.info? elem with
  | none => simp [hq] at hs
  | some i =>
    have hi : i.size = k := by simpa [hq] using hs
    simp [Builtin.copy_, run_underlying hu, Builtin.lenOf, Builtin.firstCells, sizeOf, typeInfo, hq, hi, ← hn, ← hl, hld, hst]
end
end Go.GK
/-
  The ghost machine: slices.Insert of one element of two cells into an own slice, by what a raw walk says of it.
-/
namespace Go.GK
open Go.RowKit
theorem ins_take1 (A vs : List Value) {p q m : Nat} (hv : vs.length = m) (hpq : p ≤ q) (hl : q + m ≤ A.length) :
    ((A.take (p + m) ++ (A.take q).drop p ++ A.drop (p + m + ((A.take q).drop p).length)).take p ++ vs ++ (A.take (p + m) ++ (A.take q).drop p ++ A.drop (p + m + ((A.take q).drop p).length)).drop (p + vs.length)).take (q + m) = (A.take q).take p ++ vs ++ (A.take q).drop p := by
  have e1 : ((A.take q).drop p).length = q - p := by simp; omega
  have e2 : (A.take (p + m)).length = p + m := by simp; omega
  rw [e1, hv]
  have a1 : (A.take (p + m) ++ (A.take q).drop p ++ A.drop (p + m + (q - p))).take p = A.take p := by
    rw [List.append_assoc, List.take_append_of_le_length (by omega), List.take_take, Nat.min_eq_left (by omega)]
  have a2 : (A.take (p + m) ++ (A.take q).drop p ++ A.drop (p + m + (q - p))).drop (p + m) = (A.take q).drop p ++ A.drop (p + m + (q - p)) := by
    rw [List.append_assoc, List.drop_left' e2]
  have a3 : (A.take q).take p = A.take p := by rw [List.take_take, Nat.min_eq_left hpq]
  rw [a1, a2, a3, ← List.append_assoc, List.take_left' (by simp; omega)]
theorem ins_take2 (R vs D : List Value) {p q m : Nat} (hv : vs.length = m) (hd : D.length = q - p) (hpq : p ≤ q) (hl : q + m ≤ R.length) :
    ((R.take p ++ vs ++ R.drop (p + vs.length)).take (p + m) ++ D ++ (R.take p ++ vs ++ R.drop (p + vs.length)).drop (p + m + D.length)).take (q + m) = R.take p ++ vs ++ D := by
  have a1 : (R.take p ++ vs ++ R.drop (p + vs.length)).take (p + m) = R.take p ++ vs := List.take_left' (by simp [hv]; omega)
  rw [a1, List.take_left' (by simp [hv, hd]; omega)]
/-- What a raw walk says of slices.Insert(s, i, x), elements of two cells. -/
def InsSays (P : Program) (f : FuncId) (e : TypeId) : Prop :=
  ∀ (v : Value) (n i vb vc : Nat) (xs vs : List Value) (vcur : Array Value) (w : World), w.ownsRow 0 e 2 v n xs → i ≤ n → n < 1000000 → w.heap[vb]? = some (.cells vcur e (0, 0)) → 1 ≤ vc → vc ≤ maxLen → vcur.size = vc * 2 → vcur.toList.take 2 = vs → v.ownBlock ≠ some vb → (∀ u ∈ xs, u.oneCell' = true) → (∀ u ∈ vs, u.oneCell' = true) →
    Calls P f #[v, .int .i64 (i : Int), .slice (some ⟨vb, 0, none⟩) 1 vc] w fun ev w' => ∃ v', ev = .returned v' ∧ w'.ownsRow 0 e 2 v' (n + 1) (xs.take (i * 2) ++ vs ++ xs.drop (i * 2)) ∧ w.grownBy w' v.ownBlock ∧ (v'.ownBlock = v.ownBlock ∨ v'.ownBlock = some w.heap.size)
theorem insert_hf {p : Pg} {f : FuncId} {e : TypeId} (hc : ∀ ar w, (callFunc f ar).run p.P w = .ok (.enter f ar) w) (hI : InsSays p.P f e) (rows : List (List GV)) (r : List GV) (i : Nat) (hi : i ≤ rows.length) (hl : rows.length < 1000000) :
    Hf p f 2 [.o 0, .v (.int .i64 (i : Int)), .o 1] [(0, .row e 2 rows), (1, .row e 2 [r])] fun G σ n => G = .o 2 ∧ σ = [(2, .row e 2 (rows.take i ++ [r] ++ rows.drop i)), (1, .row e 2 [r])] ∧ n = 3 := by
  refine ⟨hc, fun H us w hn hg hcs hs => ?_⟩
  obtain ⟨g0, h0⟩ := (hcs.2 0 _ rfl).inv_o
  have g1 := (hcs.2 1 _ rfl).inv_v
  obtain ⟨g2, h2⟩ := (hcs.2 2 _ rfl).inv_o
  have hue : us = #[H.sv 0, .int .i64 (i : Int), H.sv 1] := by
    have h4 : us.size = 3 := hcs.1.symm
    apply Array.ext
    · exact h4
    · intro q h5 h6
      have hq : us[q] = us.getD q undef := by simp [Array.getD, h5]
      rw [hq]
      match q, h6 with
      | 0, _ => exact g0
      | 1, _ => exact g1
      | 2, _ => exact g2
  obtain ⟨xs, hown, hrow⟩ := hs.holds (0, .row e 2 rows) (by simp)
  obtain ⟨ys, hown1, hrow1⟩ := hs.holds (1, .row e 2 [r]) (by simp)
  rcases hown1.2 with ⟨_, hn1⟩ | ⟨vb, vc, vcur, hsv, _, hgc, hnc, hcm, hcz, htk⟩
  · simp at hn1
  have hnd := hs.nodup
  simp only [blks, List.flatMap_cons, List.flatMap_nil, blocks, List.append_nil] at hnd
  have n1 := List.nodup_append.1 hnd
  have hne : (H.sv 0).ownBlock ≠ some vb := fun e0 => n1.2.2 vb (by rw [e0]; simp) vb (by rw [hsv]; simp [Value.ownBlock]) rfl
  rw [hue]
  have hC := hI (H.sv 0) rows.length i vb vc xs ys vcur w hown hi hl hgc hnc hcm hcz (by simpa using htk) hne hrow.one hrow1.one
  rw [hsv]
  refine hC.mono ?_
  rintro _ w' ⟨v', rfl, hown', hgr, hblk⟩
  let cx : Cx := ⟨p, 0, 2, H, blks H [(0, .row e 2 rows), (1, .row e 2 [r])], w, hn, hg⟩
  have hS : Sim cx H ⟨[], [(0, .row e 2 rows), (1, .row e 2 [r])], 2⟩ w := ⟨hn, hs, Fr.refl _ _ _⟩
  have hR : RowOk H.ro 2 (rows.take i ++ [r] ++ rows.drop i) (xs.take (i * 2) ++ ys ++ xs.drop (i * 2)) := ((hrow.take i).append hrow1).append (hrow.drop i)
  have hlen : (rows.take i ++ [r] ++ rows.drop i).length + ([] : List (List GV)).length = rows.length + 1 := by simp; omega
  obtain ⟨H', hle, hiu, hsim⟩ := hS.regrown (e := e) (sz := 2) (ud := H.sv 0) (u := v') (rows := rows.take i ++ [r] ++ rows.drop i) (news := []) (ys := []) (σ' := [(1, .row e 2 [r])])
    (by rw [hlen, List.append_nil]; exact hown') hR .nil (fun b hb => by simp [blks, blocks, hb]) (fun x hx => by simp at hx; simp [hx]) (by simp only [blks, List.flatMap_cons, List.flatMap_nil, blocks, List.append_nil]; exact n1.2.1)
    (fun b hb hc => by
      simp only [blks, List.flatMap_cons, List.flatMap_nil, blocks, List.append_nil] at hc
      exact n1.2.2 b hb b hc rfl) hgr hblk []
  rw [List.append_nil] at hsim
  exact ⟨v', .o 2, H', _, rfl, hiu, hsim.sat, hsim.fr, rfl, rfl, hsim.n⟩
section
variable {cx : Cx} {T : Post}
/-- s == nil, s an own slice: if so, it has no rows. -/
theorem JK.eqNilO {all : List Oper} {o : Oper} {rest : List Oper} {k : List It} {s : St} {t e t' : TypeId} {x : Operand} {ti : TI} {id ty sz : Nat} {rows : List (List GV)} (hp : cx.pg.Ok) (ho : o.op = .binOp .eql t x (.const (.slice none 0 0)) t') (hgd : gdOk all s.ρ o.guard = true)
    (ht : tget cx.pg.tt t = some ti) (htd : ti.d = .slice e) (hx : ev cx.pg s.ρ x = some (.o id)) (hl : hlook s.σ id = some (.row ty sz rows))
    (hk1 : rows = [] → dput cx.N s.ρ o.dst (.v (.bool true)) fun ρ' => JK cx T (.ops false all rest :: k) ⟨ρ', s.σ, s.n⟩)
    (hk2 : dput cx.N s.ρ o.dst (.v (.bool false)) fun ρ' => JK cx T (.ops false all rest :: k) ⟨ρ', s.σ, s.n⟩) : JK cx T (.ops false all (o :: rest) :: k) s := by
  intro H a w hg hs ha
  have hw := gdOk_wanted (o := o) ha.env hgd
  have hu : cx.pg.P.underlying t = some (.slice e) := by have := (hp.tt _ _ ht).d; rw [htd] at this; exact this
  obtain ⟨hv, hid⟩ := (ev_is hg ha.env hx).inv_o
  obtain ⟨xs, hown, hrow⟩ := hs.sat.holds _ (hlook_mem hl)
  have run : ∀ A c, H.sv id = .slice A rows.length c → (execOp a.eval o).run cx.pg.P w = .ok (.value (.bool A.isNone)) w := fun A c hsv => by
    have := Lib.run_eql_slice_nil (P := cx.pg.P) w t e A rows.length c 0 0 hu
    have hgd : (eqGuard .eql t x (.const (.slice none 0 0)) (.slice A rows.length c) (.slice none 0 0)).run cx.pg.P w = .ok () w := by simp [eqGuard]
    have hc : a.eval (.const (.slice none 0 0)) = .slice none 0 0 := rfl
    simp only [execOp, ho, hv, hsv, hc, Sem.run_bind, hgd, Result.andThen_ok, this]
    rfl
  rcases hown.2 with ⟨he, hn⟩ | ⟨g, cap, cur, he, _⟩
  · have hr : rows = [] := List.length_eq_zero_iff.1 hn
    have hrun := run none 0 (by rw [he, hn])
    obtain ⟨ρ', ha', hJ⟩ := ha.dput (u := .bool true) (.ro (.v _)) (hk1 hr)
    exact wpList_run hw hrun (hJ _ (a.put o.dst _) w hg (hs.ρ ρ') ha')
  · have hrun := run (some ⟨g, 0, none⟩) cap he
    obtain ⟨ρ', ha', hJ⟩ := ha.dput (u := .bool false) (.ro (.v _)) hk2
    exact wpList_run hw hrun (hJ _ (a.put o.dst _) w hg (hs.ρ ρ') ha')
end
end Go.GK
/-
  Plain laws: which blocks may be, their bytes, the block that bytes are; no program is in sight.
-/
namespace Go.PL
open Go
/-- Whether the last sample lies above a time. -/
def lastB (to_ : Int) (xs : List Sm) : Bool := match xs[xs.length - 1]? with
  | some y => decide (to_ < y.time)
  | none => false
/-- Whether the series ahead of it is not ahead of it. -/
def prevB (l : List Ser) (i : Nat) (x : Ser) : Bool := decide (0 < i) && (match l[i - 1]? with
  | some p => decide (0 ≤ cmpF p.labels x.labels)
  | none => false)
/-- Whether series i, of a block up to a time, may not be there. -/
noncomputable def blkBad (to_ : Int) (l : List Ser) (i : Nat) : Bool := match l[i]? with
  | none => false
  | some x => !rightF x.labels || (!okS x.samples || (decide (x.samples.length = 0) || (lastB to_ x.samples || prevB l i x)))
theorem blkBad_at {to_ : Int} {l : List Ser} {i : Nat} (h : i < l.length) : blkBad to_ l i = (!rightF l[i].labels || (!okS l[i].samples || (decide (l[i].samples.length = 0) || (lastB to_ l[i].samples || prevB l i l[i])))) := by
  unfold blkBad
  rw [List.getElem?_eq_getElem h]
theorem lastB_at {to_ : Int} {xs : List Sm} (h : xs.length - 1 < xs.length) : lastB to_ xs = decide (to_ < xs[xs.length - 1].time) := by
  unfold lastB
  rw [List.getElem?_eq_getElem h]
theorem prevB_at {l : List Ser} {i : Nat} {x : Ser} (h : i - 1 < l.length) (h0 : 0 < i) : prevB l i x = decide (0 ≤ cmpF l[i - 1].labels x.labels) := by
  unfold prevB
  rw [List.getElem?_eq_getElem h, decide_eq_true h0]
  rfl
theorem prevB_0 {l : List Ser} {x : Ser} : prevB l 0 x = false := rfl
noncomputable def blkR (to_ old : Int) (l : List Ser) : Bool := !anyB l.length (blkBad to_ l) && (decide (-1099511627776 ≤ to_ ∧ to_ ≤ 1099511627776) && decide (-1 ≤ old))
theorem blkR_all {to_ old : Int} {l : List Ser} (h : blkR to_ old l = true) : ∀ x ∈ l, rightF x.labels = true ∧ okS x.samples = true := by
  unfold blkR at h
  rw [Bool.and_eq_true, Bool.not_eq_true'] at h
  intro x hx
  obtain ⟨i, hi, rfl⟩ := List.getElem_of_mem hx
  have := anyB_get h.1 i hi
  unfold blkBad at this
  rw [List.getElem?_eq_getElem hi] at this
  simp only [Bool.or_eq_false_iff, Bool.not_eq_false'] at this
  exact ⟨this.1, this.2.1⟩
def wrB (to_ old : Int) (l : List Ser) : ByteArray := wrN to_ ++ wrN old ++ wrS l
/-- What a block's bytes are read as, ahead of the question whether it may be. -/
noncomputable def blkP (s : ByteArray) : Option ((Int × Int × List Ser) × ByteArray) := match numP s with
  | none => none
  | some (a, r) => match numP r with
    | none => none
    | some (b, r2) => match seriesP r2 with
      | none => none
      | some (l, r3) => some ((a, b, l), r3)
end Go.PL
/-
  Plain laws: series without what is gone; no program is in sight.
-/
namespace Go.PL
open Go
/-- What is gone, as a question to labels and a time. -/
abbrev Hit := List Lb → Int → Bool
def leftS (h : Hit) (x : Ser) : List Sm := x.samples.filter fun s => !h x.labels s.time
/-- Series without what is hit; those without any samples are gone. -/
def withoutF (h : Hit) : List Ser → List Ser
  | [] => []
  | x :: l => match leftS h x with
    | [] => withoutF h l
    | y :: r => ⟨x.labels, y :: r⟩ :: withoutF h l
theorem withoutF_no {h : Hit} {x : Ser} (l : List Ser) (hx : leftS h x = []) : withoutF h (x :: l) = withoutF h l := by
  conv => lhs; unfold withoutF
  rw [hx]
theorem withoutF_yes {h : Hit} {x : Ser} {y : Sm} {r : List Sm} (l : List Ser) (hx : leftS h x = y :: r) : withoutF h (x :: l) = ⟨x.labels, y :: r⟩ :: withoutF h l := by
  conv => lhs; unfold withoutF
  rw [hx]
theorem leftS_two (h k : Hit) (x : Ser) : leftS (fun ls t => h ls t || k ls t) x = leftS k ⟨x.labels, leftS h x⟩ := by
  unfold leftS
  rw [List.filter_filter]
  refine List.filter_congr fun s _ => ?_
  show (!(h x.labels s.time || k x.labels s.time)) = (!k x.labels s.time && !h x.labels s.time)
  cases h x.labels s.time <;> cases k x.labels s.time <;> rfl
theorem withoutF_two (h k : Hit) : ∀ l, withoutF k (withoutF h l) = withoutF (fun ls t => h ls t || k ls t) l := by
  intro l
  induction l with
  | nil => rfl
  | cons x l ih =>
    have key := leftS_two h k x
    cases hx : leftS h x with
    | nil =>
      rw [hx] at key
      rw [withoutF_no l hx, withoutF_no l key]
      exact ih
    | cons y r =>
      rw [hx] at key
      rw [withoutF_yes l hx]
      cases hy : leftS k ⟨x.labels, y :: r⟩ with
      | nil => rw [withoutF_no _ hy, withoutF_no l (key.trans hy)]; exact ih
      | cons z q => rw [withoutF_yes _ hy, withoutF_yes l (key.trans hy), ih]
theorem withoutF_congr {h k : Hit} (e : ∀ ls t, h ls t = k ls t) (l : List Ser) : withoutF h l = withoutF k l := by
  have : h = k := funext fun ls => funext fun t => e ls t
  rw [this]
theorem withoutF_again (h : Hit) (l : List Ser) : withoutF h (withoutF h l) = withoutF h l := by
  rw [withoutF_two]
  exact withoutF_congr (fun ls t => by cases h ls t <;> rfl) l
/-- Taken out one behind the other, in parts, the same is left. -/
theorem withoutF_app {α : Type} (g : α → Hit) (a b l : List α) (s : List Ser) (hl : ∀ x, x ∈ l ↔ x ∈ a ∨ x ∈ b) :
    withoutF (fun ls t => b.any fun x => g x ls t) (withoutF (fun ls t => a.any fun x => g x ls t) s) = withoutF (fun ls t => l.any fun x => g x ls t) s := by
  rw [withoutF_two]
  refine withoutF_congr (fun ls t => ?_) s
  rw [Bool.eq_iff_iff, Bool.or_eq_true, List.any_eq_true, List.any_eq_true, List.any_eq_true]
  constructor
  · rintro (⟨x, hx, h⟩ | ⟨x, hx, h⟩)
    · exact ⟨x, (hl x).2 (.inl hx), h⟩
    · exact ⟨x, (hl x).2 (.inr hx), h⟩
  · rintro ⟨x, hx, h⟩
    rcases (hl x).1 hx with h1 | h1
    · exact .inl ⟨x, h1, h⟩
    · exact .inr ⟨x, h1, h⟩
/-- What is taken out: of labels that matchers match, from a time to another one. -/
structure Gn where
  mt : List Mt
  lo : Int
  hi : Int
def gHit (g : Gn) : Hit := fun ls t => decide (g.lo ≤ t) && (decide (t ≤ g.hi) && allF ls g.mt)
def anyHit (l : List Gn) : Hit := fun ls t => l.any fun g => gHit g ls t
theorem withoutF_snoc (h : Hit) (x : Ser) : ∀ l : List Ser, withoutF h (l ++ [x]) = withoutF h l ++ withoutF h [x]
  | [] => rfl
  | y :: l => by
    rw [List.cons_append]
    cases hy : leftS h y with
    | nil => rw [withoutF_no _ hy, withoutF_no _ hy]; exact withoutF_snoc h x l
    | cons z r => rw [withoutF_yes _ hy, withoutF_yes _ hy, withoutF_snoc h x l]; rfl
theorem wo_step (h : Hit) (l : List Ser) (i : Nat) (hi : i < l.length) : withoutF h (l.take (i + 1)) = withoutF h (l.take i) ++ withoutF h [l[i]] := by
  rw [List.take_succ_eq_append_getElem hi, withoutF_snoc]
theorem withoutF_len (h : Hit) : ∀ l : List Ser, (withoutF h l).length ≤ l.length
  | [] => Nat.le_refl _
  | y :: l => by
    have := withoutF_len h l
    cases hy : leftS h y with
    | nil => rw [withoutF_no _ hy]; simp; omega
    | cons z r => rw [withoutF_yes _ hy]; simp; omega
theorem anyHit_snoc (l : List Gn) (i : Nat) (hi : i < l.length) (s : List Ser) : withoutF (gHit l[i]) (withoutF (anyHit (l.take i)) s) = withoutF (anyHit (l.take (i + 1))) s := by
  rw [withoutF_two, List.take_succ_eq_append_getElem hi]
  refine withoutF_congr (fun ls t => ?_) s
  unfold anyHit
  rw [List.any_append, List.any_cons, List.any_nil, Bool.or_false]
theorem withoutF_none (s : List Ser) (h : ∀ x ∈ s, x.samples ≠ []) : withoutF (anyHit []) s = s := by
  induction s with
  | nil => rfl
  | cons x s ih =>
    have e : leftS (anyHit []) x = x.samples := List.filter_eq_self.2 fun _ _ => rfl
    cases hx : x.samples with
    | nil => exact absurd hx (h x (by simp))
    | cons y r =>
      rw [withoutF_yes _ (e.trans hx), ih fun z hz => h z (by simp [hz]), ← hx]
end Go.PL
/-
  Plain laws: series of two lists, in order; no program is in sight.
-/
namespace Go.PL
open Go
/-- Series of both, in order; samples of one series together. -/
def mergeL (mg : List Sm → List Sm → List Sm) : List Ser → List Ser → List Ser
  | [], b => b
  | x :: a, [] => x :: a
  | x :: a, y :: b =>
    if cmpF x.labels y.labels < 0 then x :: mergeL mg a (y :: b)
    else if cmpF x.labels y.labels = 0 then ⟨y.labels, mg x.samples y.samples⟩ :: mergeL mg a b
    else y :: mergeL mg (x :: a) b
termination_by a b => a.length + b.length
theorem mergeL_nil (mg : List Sm → List Sm → List Sm) (a : List Ser) : mergeL mg a [] = a := by
  cases a with
  | nil => unfold mergeL; rfl
  | cons x a => unfold mergeL; rfl
theorem mergeL_nil' (mg : List Sm → List Sm → List Sm) (b : List Ser) : mergeL mg [] b = b := by unfold mergeL; rfl
theorem mergeL_self {mg : List Sm → List Sm → List Sm} : ∀ a : List Ser, (∀ x ∈ a, mg x.samples x.samples = x.samples) → mergeL mg a a = a
  | [], _ => mergeL_nil' mg []
  | x :: a, h => by
    have h0 : cmpF x.labels x.labels = 0 := (cmpF_is.eq0 _ _).2 rfl
    unfold mergeL
    rw [if_neg (by omega), if_pos h0, h x (by simp), mergeL_self a fun y hy => h y (by simp [hy])]
theorem cmpF_lt_trans {a b c : List Lb} (h : cmpF a b < 0) (k : cmpF b c < 0) : cmpF a c < 0 := by
  have h1 := cmpF_is.rng a b
  have h2 := cmpF_is.rng b c
  have := cmpF_is.trans a b c (by omega) (by omega)
  omega
/-- Labels rising, none twice. -/
def RisS (l : List Ser) : Prop := l.Pairwise fun x y => cmpF x.labels y.labels < 0
theorem mem_mergeL {mg : List Sm → List Sm → List Sm} : ∀ (a b : List Ser) (z : Ser), z ∈ mergeL mg a b → ∃ y, (y ∈ a ∨ y ∈ b) ∧ y.labels = z.labels
  | [], b, z, h => by rw [mergeL_nil'] at h; exact ⟨z, .inr h, rfl⟩
  | x :: a, [], z, h => by rw [mergeL_nil] at h; exact ⟨z, .inl h, rfl⟩
  | x :: a, y :: b, z, h => by
    unfold mergeL at h
    split at h
    · rcases List.mem_cons.1 h with rfl | h
      · exact ⟨z, .inl (by simp), rfl⟩
      · obtain ⟨w, hw, e⟩ := mem_mergeL a (y :: b) z h
        exact ⟨w, hw.imp (fun h => by simp [h]) id, e⟩
    · split at h
      · rcases List.mem_cons.1 h with rfl | h
        · exact ⟨y, .inr (by simp), rfl⟩
        · obtain ⟨w, hw, e⟩ := mem_mergeL a b z h
          exact ⟨w, hw.imp (fun h => by simp [h]) (fun h => by simp [h]), e⟩
      · rcases List.mem_cons.1 h with rfl | h
        · exact ⟨z, .inr (by simp), rfl⟩
        · obtain ⟨w, hw, e⟩ := mem_mergeL (x :: a) b z h
          exact ⟨w, hw.imp id (fun h => by simp [h]), e⟩
termination_by a b => a.length + b.length
theorem mergeL_ris {mg : List Sm → List Sm → List Sm} : ∀ (a b : List Ser), RisS a → RisS b → RisS (mergeL mg a b)
  | [], b, _, hb => by rw [mergeL_nil']; exact hb
  | x :: a, [], ha, _ => by rw [mergeL_nil]; exact ha
  | x :: a, y :: b, ha, hb => by
    obtain ⟨ha1, ha2⟩ := List.pairwise_cons.1 ha
    obtain ⟨hb1, hb2⟩ := List.pairwise_cons.1 hb
    unfold mergeL
    split
    · rename_i hxy
      refine List.pairwise_cons.2 ⟨fun z hz => ?_, mergeL_ris a (y :: b) ha2 hb⟩
      obtain ⟨w, hw, e⟩ := mem_mergeL _ _ _ hz
      rw [← e]
      rcases hw with hw | hw
      · exact ha1 w hw
      · rcases List.mem_cons.1 hw with rfl | hw
        · exact hxy
        · exact cmpF_lt_trans hxy (hb1 w hw)
    · rename_i hxy
      split
      · rename_i h0
        have hl : x.labels = y.labels := (cmpF_is.eq0 _ _).1 h0
        refine List.pairwise_cons.2 ⟨fun z hz => ?_, mergeL_ris a b ha2 hb2⟩
        obtain ⟨w, hw, e⟩ := mem_mergeL _ _ _ hz
        show cmpF y.labels z.labels < 0
        rw [← e]
        rcases hw with hw | hw
        · rw [← hl]; exact ha1 w hw
        · exact hb1 w hw
      · rename_i h0
        have hyx : cmpF y.labels x.labels < 0 := by
          have h1 := cmpF_is.anti x.labels y.labels
          have h2 := cmpF_is.rng x.labels y.labels
          omega
        refine List.pairwise_cons.2 ⟨fun z hz => ?_, mergeL_ris (x :: a) b ha hb2⟩
        obtain ⟨w, hw, e⟩ := mem_mergeL _ _ _ hz
        rw [← e]
        rcases hw with hw | hw
        · rcases List.mem_cons.1 hw with rfl | hw
          · exact hyx
          · exact cmpF_lt_trans hyx (ha1 w hw)
        · exact hb1 w hw
termination_by a b => a.length + b.length
theorem mergeL_ahead {mg : List Sm → List Sm → List Sm} (x : Ser) (a : List Ser) : ∀ b : List Ser, (∀ z ∈ b, cmpF x.labels z.labels < 0) → mergeL mg (x :: a) b = x :: mergeL mg a b
  | [], _ => by rw [mergeL_nil, mergeL_nil]
  | y :: b, h => by
    conv => lhs; unfold mergeL
    rw [if_pos (h y (by simp))]
theorem mergeL_behind {mg : List Sm → List Sm → List Sm} (y : Ser) (b : List Ser) : ∀ a : List Ser, (∀ z ∈ a, cmpF y.labels z.labels < 0) → mergeL mg a (y :: b) = y :: mergeL mg a b
  | [], _ => by rw [mergeL_nil', mergeL_nil']
  | x :: a, h => by
    have h1 := h x (by simp)
    have h2 := cmpF_is.anti y.labels x.labels
    conv => lhs; unfold mergeL
    rw [if_neg (by omega), if_neg (by omega)]
theorem mem_withoutF {h : Hit} : ∀ (l : List Ser) (z : Ser), z ∈ withoutF h l → ∃ x ∈ l, x.labels = z.labels
  | [], z, hz => by cases hz
  | x :: l, z, hz => by
    cases hx : leftS h x with
    | nil =>
      rw [withoutF_no l hx] at hz
      obtain ⟨w, hw, e⟩ := mem_withoutF l z hz
      exact ⟨w, by simp [hw], e⟩
    | cons y r =>
      rw [withoutF_yes l hx] at hz
      rcases List.mem_cons.1 hz with rfl | hz
      · exact ⟨x, by simp, rfl⟩
      · obtain ⟨w, hw, e⟩ := mem_withoutF l z hz
        exact ⟨w, by simp [hw], e⟩
/-- What is gone ahead of a merge, or behind it. -/
theorem withoutF_merge {mg : List Sm → List Sm → List Sm} {h : Hit} (h1 : ∀ xs, mg xs [] = xs) (h2 : ∀ ys, mg [] ys = ys) (h3 : ∀ xs ys, mg xs ys = [] → xs = [] ∧ ys = []) {G : List Sm → Prop} (h4 : ∀ (p : Sm → Bool) xs ys, G xs → G ys → (∀ s t : Sm, s.time = t.time → p s = p t) → (mg xs ys).filter p = mg (xs.filter p) (ys.filter p)) :
    ∀ a b : List Ser, RisS a → RisS b → (∀ x ∈ a, G x.samples) → (∀ y ∈ b, G y.samples) → withoutF h (mergeL mg a b) = mergeL mg (withoutF h a) (withoutF h b)
  | [], b, _, _, _, _ => by rw [mergeL_nil', show withoutF h [] = [] from rfl, mergeL_nil']
  | x :: a, [], _, _, _, _ => by rw [mergeL_nil, show withoutF h [] = [] from rfl, mergeL_nil]
  | x :: a, y :: b, ha, hb, ga0, gb0 => by
    obtain ⟨ha1, ha2⟩ := List.pairwise_cons.1 ha
    obtain ⟨hb1, hb2⟩ := List.pairwise_cons.1 hb
    have ga : ∀ l : List Lb, (∀ z ∈ a, cmpF l z.labels < 0) → ∀ z ∈ withoutF h a, cmpF l z.labels < 0 := fun l hl z hz => by
      obtain ⟨w, hw, e⟩ := mem_withoutF a z hz
      rw [← e]; exact hl w hw
    have gb : ∀ l : List Lb, (∀ z ∈ b, cmpF l z.labels < 0) → ∀ z ∈ withoutF h b, cmpF l z.labels < 0 := fun l hl z hz => by
      obtain ⟨w, hw, e⟩ := mem_withoutF b z hz
      rw [← e]; exact hl w hw
    conv => lhs; unfold mergeL
    split
    · rename_i hxy
      have ih := withoutF_merge (h := h) h1 h2 h3 h4 a (y :: b) ha2 hb (fun z hz => ga0 z (by simp [hz])) gb0
      cases hx : leftS h x with
      | nil => rw [withoutF_no _ hx, withoutF_no _ hx]; exact ih
      | cons s r =>
        rw [withoutF_yes _ hx, withoutF_yes _ hx, ih, mergeL_ahead]
        intro z hz
        obtain ⟨w, hw, e⟩ := mem_withoutF (y :: b) z hz
        show cmpF x.labels z.labels < 0
        rw [← e]
        rcases List.mem_cons.1 hw with rfl | hw
        · exact hxy
        · exact cmpF_lt_trans hxy (hb1 w hw)
    · rename_i hxy
      split
      · rename_i h0
        have hl : x.labels = y.labels := (cmpF_is.eq0 _ _).1 h0
        have ih := withoutF_merge (h := h) h1 h2 h3 h4 a b ha2 hb2 (fun z hz => ga0 z (by simp [hz])) (fun z hz => gb0 z (by simp [hz]))
        have hf : leftS h ⟨y.labels, mg x.samples y.samples⟩ = mg (leftS h x) (leftS h y) := by
          unfold leftS
          rw [hl]
          exact h4 _ _ _ (ga0 x (by simp)) (gb0 y (by simp)) (fun s t e => by rw [e])
        have hax : ∀ z ∈ withoutF h a, cmpF y.labels z.labels < 0 := ga y.labels (by rw [← hl]; exact ha1)
        have hbx : ∀ z ∈ withoutF h b, cmpF x.labels z.labels < 0 := gb x.labels (by rw [hl]; exact hb1)
        cases hx : leftS h x with
        | nil =>
          rw [hx, h2] at hf
          cases hy : leftS h y with
          | nil => rw [withoutF_no _ (hf.trans hy), withoutF_no _ hx, withoutF_no _ hy]; exact ih
          | cons t q => rw [withoutF_yes _ (hf.trans hy), withoutF_no _ hx, withoutF_yes _ hy, ih, mergeL_behind ⟨y.labels, t :: q⟩ _ _ hax]
        | cons s r =>
          cases hy : leftS h y with
          | nil =>
            rw [hy, h1] at hf
            rw [withoutF_yes _ (hf.trans hx), withoutF_yes _ hx, withoutF_no _ hy, ih, mergeL_ahead ⟨x.labels, s :: r⟩ _ _ hbx, hl]
          | cons t q =>
            rw [hx, hy] at hf
            cases hm : mg (s :: r) (t :: q) with
            | nil => exact absurd (h3 _ _ hm).1 (by simp)
            | cons u v =>
              rw [withoutF_yes _ (hf.trans hm), withoutF_yes _ hx, withoutF_yes _ hy, ih]
              conv => rhs; unfold mergeL
              rw [if_neg hxy, if_pos h0, hm]
      · rename_i h0
        have ih := withoutF_merge (h := h) h1 h2 h3 h4 (x :: a) b ha hb2 ga0 (fun z hz => gb0 z (by simp [hz]))
        have hyx : cmpF y.labels x.labels < 0 := by
          have e1 := cmpF_is.anti x.labels y.labels
          have e2 := cmpF_is.rng x.labels y.labels
          omega
        cases hy : leftS h y with
        | nil => rw [withoutF_no _ hy, withoutF_no _ hy]; exact ih
        | cons t q =>
          rw [withoutF_yes _ hy, withoutF_yes _ hy, ih, mergeL_behind]
          intro z hz
          obtain ⟨w, hw, e⟩ := mem_withoutF (x :: a) z hz
          show cmpF y.labels z.labels < 0
          rw [← e]
          rcases List.mem_cons.1 hw with rfl | hw
          · exact hyx
          · exact cmpF_lt_trans hyx (ha1 w hw)
termination_by a b => a.length + b.length
end Go.PL
/-
  Plain laws: samples put together by a map, in whatever order; two merged; no program is in sight.
-/
namespace Go.PL
open Go

/-- A sample put to those that are there, by its time. -/
def putS : List Sm → Sm → List Sm
  | [], b => [b]
  | x :: r, b => if x.time = b.time then b :: r else x :: putS r b
def atM (l : List Sm) : List Sm := l.foldl putS []
def sortS (l : List Sm) : List Sm := l.mergeSort fun a b => decide (a.time ≤ b.time)
def lookS (t : Int) : List Sm → Option Sm
  | [] => none
  | x :: r => if x.time = t then some x else lookS t r
theorem lookS_time {t : Int} {b : Sm} : ∀ {l : List Sm}, lookS t l = some b → b.time = t ∧ b ∈ l
  | x :: r, h => by
    unfold lookS at h
    split at h
    · cases h; exact ⟨by assumption, by simp⟩
    · have := lookS_time h
      exact ⟨this.1, by simp [this.2]⟩
theorem lookS_none {t : Int} : ∀ {l : List Sm}, lookS t l = none ↔ ∀ x ∈ l, x.time ≠ t
  | [] => by simp [lookS]
  | x :: r => by
    unfold lookS
    by_cases h : x.time = t
    · simp [h]
    · rw [if_neg h, lookS_none (l := r)]
      simp [h]
theorem lookS_mem {b : Sm} : ∀ {l : List Sm}, (l.map (·.time)).Nodup → b ∈ l → lookS b.time l = some b
  | x :: r, hn, hb => by
    unfold lookS
    simp only [List.map_cons, List.nodup_cons] at hn
    rcases List.mem_cons.1 hb with rfl | hb
    · rw [if_pos rfl]
    · rw [if_neg (fun e => hn.1 (by rw [e]; exact List.mem_map_of_mem hb)), lookS_mem hn.2 hb]
theorem look_put (t : Int) (b : Sm) : ∀ l : List Sm, lookS t (putS l b) = if b.time = t then some b else lookS t l
  | [] => by simp [putS, lookS]
  | x :: r => by
    unfold putS
    by_cases h : x.time = b.time
    · rw [if_pos h]
      unfold lookS
      by_cases h2 : b.time = t
      · rw [if_pos h2, if_pos h2]
      · rw [if_neg h2, if_neg h2, if_neg (fun e => h2 (h.symm.trans e))]
    · rw [if_neg h]
      unfold lookS
      by_cases h2 : x.time = t
      · rw [if_pos h2, if_pos h2, if_neg (fun e => h (h2.trans e.symm))]
      · rw [if_neg h2, if_neg h2, look_put t b r]
theorem put_times (b : Sm) : ∀ l : List Sm, (putS l b).map (·.time) = if lookS b.time l = none then l.map (·.time) ++ [b.time] else l.map (·.time)
  | [] => by simp [putS, lookS]
  | x :: r => by
    unfold putS lookS
    by_cases h : x.time = b.time
    · rw [if_pos h, if_pos h]
      simp [h]
    · rw [if_neg h, if_neg h, List.map_cons, put_times b r]
      split <;> simp
theorem put_nodup {b : Sm} {l : List Sm} (h : (l.map (·.time)).Nodup) : ((putS l b).map (·.time)).Nodup := by
  rw [put_times]
  split
  · rename_i hn
    rw [List.nodup_append]
    refine ⟨h, by simp, fun x hx y hy => ?_⟩
    obtain ⟨z, hz, rfl⟩ := List.mem_map.1 hx
    have := lookS_none.1 hn z hz
    simp only [List.mem_singleton] at hy
    rw [hy]; exact this
  · exact h
theorem putF_nodup : ∀ (l out : List Sm), (out.map (·.time)).Nodup → ((l.foldl putS out).map (·.time)).Nodup
  | [], _, h => h
  | b :: r, out, h => by rw [List.foldl_cons]; exact putF_nodup r _ (put_nodup h)
theorem atM_nodup (l : List Sm) : ((atM l).map (·.time)).Nodup := putF_nodup l [] (by simp)
/-- What is found behind the putting of samples that are distinct. -/
theorem putF_look (t : Int) : ∀ (l out : List Sm), (l.map (·.time)).Nodup → lookS t (l.foldl putS out) = (lookS t l).or (lookS t out)
  | [], out, _ => by simp [lookS]
  | b :: r, out, h => by
    simp only [List.map_cons, List.nodup_cons] at h
    rw [List.foldl_cons, putF_look t r _ h.2, look_put, show lookS t (b :: r) = if b.time = t then some b else lookS t r from rfl]
    by_cases hb : b.time = t
    · rw [if_pos hb, if_pos hb]
      have : lookS t r = none := lookS_none.2 fun x hx e => h.1 (by rw [hb, ← e]; exact List.mem_map_of_mem hx)
      rw [this]
      rfl
    · rw [if_neg hb, if_neg hb]
theorem nodup_of_mapS {α β : Type} {f : α → β} {l : List α} (h : (l.map f).Nodup) : l.Nodup := by
  rw [List.nodup_iff_pairwise_ne, List.pairwise_map] at h
  exact h.imp fun h e => h (by rw [e])
theorem perm_of_lookS {l m : List Sm} (hl : (l.map (·.time)).Nodup) (hm : (m.map (·.time)).Nodup) (h : ∀ t, lookS t l = lookS t m) : l.Perm m := by
  refine (List.perm_ext_iff_of_nodup (nodup_of_mapS hl) (nodup_of_mapS hm)).2 fun b => ⟨fun hb => ?_, fun hb => ?_⟩
  · have := lookS_mem hl hb
    rw [h] at this
    exact (lookS_time this).2
  · have := lookS_mem hm hb
    rw [← h] at this
    exact (lookS_time this).2
theorem sortedS_eq {l m : List Sm} (hp : l.Perm m) (hn : (m.map (·.time)).Nodup) (hl : l.Pairwise (·.time ≤ ·.time)) (hm : m.Pairwise (·.time ≤ ·.time)) : l = m := by
  refine hp.eq_of_pairwise (fun a b ha hb h1 h2 => ?_) hl hm
  have e : a.time = b.time := Int.le_antisymm h1 h2
  have ha' := lookS_mem hn (hp.subset ha)
  have hb' := lookS_mem hn hb
  rw [e, hb'] at ha'
  exact (Option.some.inj ha').symm
theorem sortS_sorted (l : List Sm) : (sortS l).Pairwise (·.time ≤ ·.time) := by
  have := List.pairwise_mergeSort (le := fun a b : Sm => decide (a.time ≤ b.time)) (fun a b c h1 h2 => by simp only [decide_eq_true_eq] at *; omega) (fun a b => by simp; omega) l
  exact this.imp fun h => by simpa using h
theorem sortS_is {l m : List Sm} (hn : (l.map (·.time)).Nodup) (hp : m.Perm l) (hm : m.Pairwise (·.time ≤ ·.time)) : m = sortS l := by
  have h2 : m.Perm (sortS l) := hp.trans (List.mergeSort_perm _ _).symm
  exact sortedS_eq h2 (((List.mergeSort_perm l _).map _).nodup_iff.2 hn) hm (sortS_sorted l)

abbrev UpS (l : List Sm) : Prop := l.Pairwise (·.time < ·.time)
theorem UpS.nodup {l : List Sm} (h : UpS l) : (l.map (·.time)).Nodup := by
  rw [List.nodup_iff_pairwise_ne, List.pairwise_map]
  exact h.imp fun h => by omega
def mergeS : Nat → List Sm → List Sm → List Sm → List Sm
  | 0, out, _, _ => out
  | _ + 1, out, [], [] => out
  | n + 1, out, x :: a, [] => mergeS n (out ++ [x]) a []
  | n + 1, out, [], y :: b => mergeS n (out ++ [y]) [] b
  | n + 1, out, x :: a, y :: b => if x.time < y.time then mergeS n (out ++ [x]) a (y :: b) else if x.time = y.time then mergeS n (out ++ [y]) a b else mergeS n (out ++ [y]) (x :: a) b
theorem mergeS_fuel : ∀ (n : Nat) (out a b : List Sm), a.length + b.length ≤ n → mergeS (n + 1) out a b = mergeS n out a b
  | 0, out, a, b, hn => by
    have : a = [] := List.length_eq_zero_iff.1 (by omega)
    have : b = [] := List.length_eq_zero_iff.1 (by omega)
    subst_vars; rfl
  | n + 1, out, [], [], _ => rfl
  | n + 1, out, x :: a, [], hn => by
    rw [mergeS, mergeS, mergeS_fuel n _ _ _ (by simp at hn ⊢; omega)]
  | n + 1, out, [], y :: b, hn => by
    rw [mergeS, mergeS, mergeS_fuel n _ _ _ (by simp at hn ⊢; omega)]
  | n + 1, out, x :: a, y :: b, hn => by
    simp only [List.length_cons] at hn
    rw [mergeS, mergeS, mergeS_fuel n _ _ _ (by simp; omega), mergeS_fuel n _ _ _ (by omega), mergeS_fuel n _ _ _ (by simp; omega)]
/-- What two come to that rise. -/
theorem mergeS_is : ∀ (n : Nat) (out a b : List Sm), a.length + b.length ≤ n → UpS a → UpS b → ∃ m, mergeS n out a b = out ++ m ∧ UpS m ∧ (∀ z ∈ m, z ∈ a ∨ z ∈ b) ∧ ∀ t, lookS t m = (lookS t b).or (lookS t a)
  | 0, out, a, b, hn, _, _ => ⟨[], by simp [mergeS], .nil, by simp, fun t => by
      have : a = [] := List.length_eq_zero_iff.1 (by omega)
      have : b = [] := List.length_eq_zero_iff.1 (by omega)
      subst_vars; simp [lookS]⟩
  | n + 1, out, [], [], _, _, _ => ⟨[], by simp [mergeS], .nil, by simp, fun t => by simp [lookS]⟩
  | n + 1, out, x :: a, [], hn, ha, hb => by
    obtain ⟨m, h1, h2, h3, h4⟩ := mergeS_is n (out ++ [x]) a [] (by simp at hn ⊢; omega) (List.pairwise_cons.1 ha).2 hb
    refine ⟨x :: m, by rw [mergeS, h1]; simp, List.pairwise_cons.2 ⟨fun z hz => ?_, h2⟩, fun z hz => ?_, fun t => ?_⟩
    · rcases h3 z hz with h | h
      · exact (List.pairwise_cons.1 ha).1 z h
      · cases h
    · rcases List.mem_cons.1 hz with rfl | hz
      · exact .inl (by simp)
      · rcases h3 z hz with h | h
        · exact .inl (by simp [h])
        · exact .inr h
    · have := h4 t
      simp only [lookS, Option.none_or] at this ⊢
      rw [this]
  | n + 1, out, [], y :: b, hn, ha, hb => by
    obtain ⟨m, h1, h2, h3, h4⟩ := mergeS_is n (out ++ [y]) [] b (by simp at hn ⊢; omega) ha (List.pairwise_cons.1 hb).2
    refine ⟨y :: m, by rw [mergeS, h1]; simp, List.pairwise_cons.2 ⟨fun z hz => ?_, h2⟩, fun z hz => ?_, fun t => ?_⟩
    · rcases h3 z hz with h | h
      · cases h
      · exact (List.pairwise_cons.1 hb).1 z h
    · rcases List.mem_cons.1 hz with rfl | hz
      · exact .inr (by simp)
      · rcases h3 z hz with h | h
        · exact .inl h
        · exact .inr (by simp [h])
    · have := h4 t
      simp only [lookS, Option.or_none] at this ⊢
      rw [this]
  | n + 1, out, x :: a, y :: b, hn, ha, hb => by
    have hax := (List.pairwise_cons.1 ha).1
    have hby := (List.pairwise_cons.1 hb).1
    have noA : ∀ t, (∀ z ∈ a, t < z.time) → lookS t a = none := fun t h => lookS_none.2 fun z hz e => by have := h z hz; omega
    have noB : ∀ t, (∀ z ∈ b, t < z.time) → lookS t b = none := fun t h => lookS_none.2 fun z hz e => by have := h z hz; omega
    by_cases h : x.time < y.time
    · obtain ⟨m, h1, h2, h3, h4⟩ := mergeS_is n (out ++ [x]) a (y :: b) (by simp at hn ⊢; omega) (List.pairwise_cons.1 ha).2 hb
      refine ⟨x :: m, by rw [mergeS, if_pos h, h1]; simp, List.pairwise_cons.2 ⟨fun z hz => ?_, h2⟩, fun z hz => ?_, fun t => ?_⟩
      · rcases h3 z hz with hz | hz
        · exact hax z hz
        · rcases List.mem_cons.1 hz with rfl | hz
          · exact h
          · exact Int.lt_trans h (hby z hz)
      · rcases List.mem_cons.1 hz with rfl | hz
        · exact .inl (by simp)
        · rcases h3 z hz with h | h
          · exact .inl (by simp [h])
          · exact .inr h
      · rw [show lookS t (x :: m) = if x.time = t then some x else lookS t m from rfl, h4 t, show lookS t (x :: a) = if x.time = t then some x else lookS t a from rfl]
        by_cases ht : x.time = t
        · subst ht
          have e : lookS x.time (y :: b) = none := lookS_none.2 fun z hz => by
            rcases List.mem_cons.1 hz with rfl | hz
            · omega
            · have := hby z hz; omega
          rw [if_pos rfl, if_pos rfl, e]
          rfl
        · rw [if_neg ht, if_neg ht]
    · by_cases he : x.time = y.time
      · obtain ⟨m, h1, h2, h3, h4⟩ := mergeS_is n (out ++ [y]) a b (by simp at hn ⊢; omega) (List.pairwise_cons.1 ha).2 (List.pairwise_cons.1 hb).2
        refine ⟨y :: m, by rw [mergeS, if_neg h, if_pos he, h1]; simp, List.pairwise_cons.2 ⟨fun z hz => ?_, h2⟩, fun z hz => ?_, fun t => ?_⟩
        · rcases h3 z hz with hz | hz
          · have := hax z hz; show y.time < z.time; omega
          · exact hby z hz
        · rcases List.mem_cons.1 hz with rfl | hz
          · exact .inr (by simp)
          · rcases h3 z hz with h | h
            · exact .inl (by simp [h])
            · exact .inr (by simp [h])
        · rw [show lookS t (y :: m) = if y.time = t then some y else lookS t m from rfl, h4 t, show lookS t (x :: a) = if x.time = t then some x else lookS t a from rfl, show lookS t (y :: b) = if y.time = t then some y else lookS t b from rfl]
          by_cases ht : y.time = t
          · rw [if_pos ht, if_pos ht]; rfl
          · rw [if_neg ht, if_neg ht, if_neg (fun e => ht (by rw [← he]; exact e))]
      · obtain ⟨m, h1, h2, h3, h4⟩ := mergeS_is n (out ++ [y]) (x :: a) b (by simp at hn ⊢; omega) ha (List.pairwise_cons.1 hb).2
        refine ⟨y :: m, by rw [mergeS, if_neg h, if_neg he, h1]; simp, List.pairwise_cons.2 ⟨fun z hz => ?_, h2⟩, fun z hz => ?_, fun t => ?_⟩
        · rcases h3 z hz with hz | hz
          · rcases List.mem_cons.1 hz with rfl | hz
            · show y.time < z.time; omega
            · have := hax z hz; show y.time < z.time; omega
          · exact hby z hz
        · rcases List.mem_cons.1 hz with rfl | hz
          · exact .inr (by simp)
          · rcases h3 z hz with h | h
            · exact .inl h
            · exact .inr (by simp [h])
        · rw [show lookS t (y :: m) = if y.time = t then some y else lookS t m from rfl, h4 t, show lookS t (y :: b) = if y.time = t then some y else lookS t b from rfl]
          by_cases ht : y.time = t
          · rw [if_pos ht, if_pos ht]; rfl
          · rw [if_neg ht, if_neg ht]
theorem merge_sets {n : Nat} {a b : List Sm} (hn : a.length + b.length ≤ n) (ha : UpS a) (hb : UpS b) : mergeS n [] a b = sortS (atM (a ++ b)) := by
  obtain ⟨m, h1, h2, _, h4⟩ := mergeS_is n [] a b hn ha hb
  rw [h1, List.nil_append]
  refine sortS_is (atM_nodup _) (perm_of_lookS h2.nodup (atM_nodup _) fun t => ?_) (h2.imp fun h => Int.le_of_lt h)
  rw [h4 t]
  unfold atM
  rw [List.foldl_append, putF_look t b _ hb.nodup, putF_look t a [] ha.nodup]
  simp [lookS]
end Go.PL
/-
  Plain laws: samples of two lists, as package chunk puts them together; no program is in sight.
-/
namespace Go.PL
open Go
/-- Samples of both, rising; of two of one time the second one's. -/
def mgS (a b : List Sm) : List Sm := mergeS (a.length + b.length) [] a b
theorem mergeS_more : ∀ (k n : Nat) (out a b : List Sm), a.length + b.length ≤ n → mergeS (n + k) out a b = mergeS n out a b
  | 0, _, _, _, _, _ => rfl
  | k + 1, n, out, a, b, h => by rw [← Nat.add_assoc, mergeS_fuel _ _ _ _ (by omega), mergeS_more k n out a b h]
theorem mergeS_mg {n : Nat} {a b : List Sm} (h : a.length + b.length ≤ n) : mergeS n [] a b = mgS a b := by
  have := mergeS_more (n - (a.length + b.length)) (a.length + b.length) [] a b (Nat.le_refl _)
  rw [show a.length + b.length + (n - (a.length + b.length)) = n by omega] at this
  exact this
theorem mergeS_out : ∀ (n : Nat) (out a b : List Sm), mergeS n out a b = out ++ mergeS n [] a b
  | 0, out, a, b => by simp [mergeS]
  | n + 1, out, [], [] => by simp [mergeS]
  | n + 1, out, x :: a, [] => by
    rw [mergeS, mergeS, mergeS_out n (out ++ [x]), mergeS_out n ([] ++ [x])]
    simp
  | n + 1, out, [], y :: b => by
    rw [mergeS, mergeS, mergeS_out n (out ++ [y]), mergeS_out n ([] ++ [y])]
    simp
  | n + 1, out, x :: a, y :: b => by
    rw [mergeS, mergeS]
    split
    · rw [mergeS_out n (out ++ [x]), mergeS_out n ([] ++ [x])]; simp
    · split
      · rw [mergeS_out n (out ++ [y]) a b, mergeS_out n ([] ++ [y]) a b]; simp
      · rw [mergeS_out n (out ++ [y]), mergeS_out n ([] ++ [y])]; simp
theorem mgS_nil : ∀ a : List Sm, mgS a [] = a
  | [] => rfl
  | x :: a => by
    have ih := mgS_nil a
    unfold mgS at ih ⊢
    rw [show (x :: a).length + ([] : List Sm).length = (a.length + ([] : List Sm).length) + 1 by simp, mergeS, mergeS_out, ih]
    rfl
theorem mgS_nil' : ∀ b : List Sm, mgS [] b = b
  | [] => rfl
  | y :: b => by
    have ih := mgS_nil' b
    unfold mgS at ih ⊢
    rw [show ([] : List Sm).length + (y :: b).length = (([] : List Sm).length + b.length) + 1 by simp, mergeS, mergeS_out, ih]
    rfl
theorem mgS_cons (x y : Sm) (a b : List Sm) : mgS (x :: a) (y :: b) = if x.time < y.time then x :: mgS a (y :: b) else if x.time = y.time then y :: mgS a b else y :: mgS (x :: a) b := by
  conv => lhs; unfold mgS
  rw [show (x :: a).length + (y :: b).length = (a.length + (y :: b).length) + 1 by simp only [List.length_cons]; omega, mergeS]
  split
  · rw [mergeS_out, mergeS_mg (Nat.le_refl _)]; rfl
  · split
    · rw [mergeS_out, mergeS_mg (by simp)]; rfl
    · rw [mergeS_out, mergeS_mg (by simp; omega)]; rfl
theorem mergeL_cons (mg : List Sm → List Sm → List Sm) (x y : Ser) (a b : List Ser) : mergeL mg (x :: a) (y :: b) = if cmpF x.labels y.labels < 0 then x :: mergeL mg a (y :: b) else if cmpF x.labels y.labels = 0 then ⟨y.labels, mg x.samples y.samples⟩ :: mergeL mg a b else y :: mergeL mg (x :: a) b := by
  conv => lhs; unfold mergeL
theorem mgS_ne {a b : List Sm} (h : mgS a b = []) : a = [] ∧ b = [] := by
  match a, b with
  | [], b => rw [mgS_nil'] at h; exact ⟨rfl, h⟩
  | x :: a, [] => rw [mgS_nil] at h; cases h
  | x :: a, y :: b =>
    rw [mgS_cons] at h
    split at h
    · cases h
    · split at h <;> cases h
theorem mgS_len : ∀ a b : List Sm, (mgS a b).length ≤ a.length + b.length
  | [], b => by rw [mgS_nil']; simp
  | x :: a, [] => by rw [mgS_nil]; simp
  | x :: a, y :: b => by
    rw [mgS_cons]
    split
    · have := mgS_len a (y :: b); simp at this ⊢; omega
    · split
      · have := mgS_len a b; simp; omega
      · have := mgS_len (x :: a) b; simp at this ⊢; omega
termination_by a b => a.length + b.length
theorem mgS_self : ∀ a : List Sm, mgS a a = a
  | [] => rfl
  | x :: a => by rw [mgS_cons, if_neg (by omega), if_pos rfl, mgS_self a]
/-- Samples of rising times that come ahead of all others. -/
theorem mgS_ahead (x : Sm) (a : List Sm) : ∀ b : List Sm, (∀ z ∈ b, x.time < z.time) → mgS (x :: a) b = x :: mgS a b
  | [], _ => by rw [mgS_nil, mgS_nil]
  | y :: b, h => by rw [mgS_cons, if_pos (h y (by simp))]
theorem mgS_behind (y : Sm) (b : List Sm) : ∀ a : List Sm, (∀ z ∈ a, y.time < z.time) → mgS a (y :: b) = y :: mgS a b
  | [], _ => by rw [mgS_nil', mgS_nil']
  | x :: a, h => by
    have := h x (by simp)
    rw [mgS_cons, if_neg (by omega), if_neg (by omega)]
/-- What is taken out by time ahead of it, or behind it. -/
theorem mgS_filter (p : Sm → Bool) (hp : ∀ s t : Sm, s.time = t.time → p s = p t) : ∀ a b : List Sm, UpS a → UpS b → (mgS a b).filter p = mgS (a.filter p) (b.filter p)
  | [], b, _, _ => by rw [mgS_nil', List.filter_nil, mgS_nil']
  | x :: a, [], _, _ => by rw [mgS_nil, List.filter_nil, mgS_nil]
  | x :: a, y :: b, ha, hb => by
    obtain ⟨ha1, ha2⟩ := List.pairwise_cons.1 ha
    obtain ⟨hb1, hb2⟩ := List.pairwise_cons.1 hb
    rw [mgS_cons]
    split
    · rename_i h
      have ih := mgS_filter p hp a (y :: b) ha2 hb
      rw [List.filter_cons, ih]
      conv => rhs; rw [List.filter_cons]
      split
      · rw [mgS_ahead]
        intro z hz
        have hz' := (List.mem_filter.1 hz).1
        rcases List.mem_cons.1 hz' with rfl | hz'
        · exact h
        · have := hb1 z hz'; omega
      · rfl
    · rename_i h
      split
      · rename_i he
        have ih := mgS_filter p hp a b ha2 hb2
        rw [List.filter_cons, ih]
        conv => rhs; rw [List.filter_cons, List.filter_cons, hp x y he]
        split
        · rw [mgS_cons, if_neg h, if_pos he]
        · rfl
      · rename_i he
        have ih := mgS_filter p hp (x :: a) b ha hb2
        rw [List.filter_cons, ih]
        conv => rhs; rhs; rw [List.filter_cons]
        split
        · rw [mgS_behind]
          intro z hz
          have hz' := (List.mem_filter.1 hz).1
          rcases List.mem_cons.1 hz' with rfl | hz'
          · omega
          · have := ha1 z hz'; omega
        · rfl
termination_by a b => a.length + b.length
end Go.PL
/-
  Plain laws for BlockSame: a block is read as it was written; what is gone, ahead of a merge or behind it; no program is in sight.
-/
namespace Go.PL
open Go
theorem In64.of_blk {to_ old : Int} {l : List Ser} (h : blkR to_ old l = true) : In64 to_ := by
  unfold blkR at h
  simp only [Bool.and_eq_true, decide_eq_true_eq] at h
  exact ⟨by omega, by omega⟩
theorem blkP_wr {to_ old : Int} {l : List Ser} (h1 : In64 to_) (h2 : In64 old) (hl : ∀ x ∈ l, GoodS x) (hn : l.length < 9223372036854775808) : blkP (wrB to_ old l) = some ((to_, old, l), ByteArray.empty) := by
  have h := seriesP_wr hl hn ByteArray.empty
  rw [app_nil] at h
  unfold blkP wrB
  rw [ByteArray.append_assoc, numP_wr h1]
  simp only
  rw [numP_wr h2]
  simp only
  rw [h]
theorem blkR_ris {to_ old : Int} {l : List Ser} (h : blkR to_ old l = true) : RisS l ∧ ∀ x ∈ l, UpS x.samples ∧ x.samples ≠ [] := by
  have hall := blkR_all h
  unfold blkR at h
  rw [Bool.and_eq_true, Bool.not_eq_true'] at h
  have hb := fun i (hi : i < l.length) => (blkBad_at (to_ := to_) hi).symm.trans (anyB_get h.1 i hi)
  have hne : ∀ x ∈ l, x.samples ≠ [] := fun x hx => by
    obtain ⟨i, hi, rfl⟩ := List.getElem_of_mem hx
    have := hb i hi
    simp only [Bool.or_eq_false_iff, decide_eq_false_iff_not] at this
    exact fun e => this.2.2.1 (by rw [e]; rfl)
  have hst : ∀ i (hi : i + 1 < l.length), cmpF l[i].labels l[i + 1].labels < 0 := fun i hi => by
    have := hb (i + 1) hi
    simp only [Bool.or_eq_false_iff] at this
    have h5 := this.2.2.2.2
    rw [prevB_at (show i + 1 - 1 < l.length by omega) (Nat.succ_pos i)] at h5
    have h6 := of_decide_eq_false h5
    simp only [Nat.add_sub_cancel] at h6
    omega
  refine ⟨?_, fun x hx => ⟨((okS_iff _).1 (hall x hx).2).1.up, hne x hx⟩⟩
  refine List.pairwise_iff_getElem.2 fun i j hi hj hij => ?_
  obtain ⟨d, rfl⟩ : ∃ d, j = i + 1 + d := ⟨j - (i + 1), by omega⟩
  clear hij
  induction d with
  | zero => exact hst i hj
  | succ d ih => exact cmpF_lt_trans (ih (by omega)) (hst (i + 1 + d) hj)
theorem anyHit_take (gone : List Gn) (k : Nat) (l : List Ser) : withoutF (anyHit (gone.take k)) (withoutF (anyHit (gone.drop k)) l) = withoutF (anyHit gone) l := by
  refine withoutF_app gHit (gone.drop k) (gone.take k) gone l fun x => ?_
  conv => lhs; rw [← List.take_append_drop k gone]
  rw [List.mem_append, Or.comm]
theorem gone_merge (gone : List Gn) (a b : List Ser) (ha : RisS a) (hb : RisS b) (ua : ∀ x ∈ a, UpS x.samples) (ub : ∀ x ∈ b, UpS x.samples) : withoutF (anyHit gone) (mergeL mgS a b) = mergeL mgS (withoutF (anyHit gone) a) (withoutF (anyHit gone) b) :=
  withoutF_merge mgS_nil mgS_nil' (fun _ _ h => mgS_ne h) (G := UpS) (fun p xs ys hx hy hp => mgS_filter p hp xs ys hx hy) a b ha hb ua ub
theorem mem_mergeL_len (n m : Nat) (K : Nat) : ∀ (a b : List Ser) (z : Ser), (∀ x ∈ a, x.samples.length ≤ n ∧ x.labels.length ≤ K) → (∀ x ∈ b, x.samples.length ≤ m ∧ x.labels.length ≤ K) → z ∈ mergeL mgS a b → z.samples.length ≤ n + m ∧ z.labels.length ≤ K
  | [], b, z, _, hb, hz => by rw [mergeL_nil'] at hz; have := hb z hz; omega
  | x :: a, [], z, ha, _, hz => by rw [mergeL_nil] at hz; have := ha z hz; omega
  | x :: a, y :: b, z, ha, hb, hz => by
    rw [mergeL_cons] at hz
    split at hz
    · rcases List.mem_cons.1 hz with rfl | hz
      · have := ha z (by simp); omega
      · exact mem_mergeL_len n m K a (y :: b) z (fun w hw => ha w (by simp [hw])) hb hz
    · split at hz
      · rcases List.mem_cons.1 hz with rfl | hz
        · have h1 := ha x (by simp)
          have h2 := hb y (by simp)
          have h3 := mgS_len x.samples y.samples
          exact ⟨by show (mgS x.samples y.samples).length ≤ _; omega, h2.2⟩
        · exact mem_mergeL_len n m K a b z (fun w hw => ha w (by simp [hw])) (fun w hw => hb w (by simp [hw])) hz
      · rcases List.mem_cons.1 hz with rfl | hz
        · have := hb z (by simp); omega
        · exact mem_mergeL_len n m K (x :: a) b z ha (fun w hw => hb w (by simp [hw])) hz
termination_by a b => a.length + b.length
theorem mergeL_len (mg : List Sm → List Sm → List Sm) : ∀ (a b : List Ser), (mergeL mg a b).length ≤ a.length + b.length
  | [], b => by rw [mergeL_nil']; simp
  | x :: a, [] => by rw [mergeL_nil]; simp
  | x :: a, y :: b => by
    rw [mergeL_cons]
    split
    · have := mergeL_len mg a (y :: b); simp at this ⊢; omega
    · split
      · have := mergeL_len mg a b; simp; omega
      · have := mergeL_len mg (x :: a) b; simp at this ⊢; omega
termination_by a b => a.length + b.length
theorem mem_withoutF_len {h : Hit} : ∀ (l : List Ser) (z : Ser), z ∈ withoutF h l → ∃ x ∈ l, x.labels = z.labels ∧ z.samples.length ≤ x.samples.length
  | [], z, hz => by cases hz
  | x :: l, z, hz => by
    cases hx : leftS h x with
    | nil =>
      rw [withoutF_no l hx] at hz
      obtain ⟨w, hw, e⟩ := mem_withoutF_len l z hz
      exact ⟨w, by simp [hw], e⟩
    | cons y r =>
      rw [withoutF_yes l hx] at hz
      rcases List.mem_cons.1 hz with rfl | hz
      · refine ⟨x, by simp, rfl, ?_⟩
        show (y :: r).length ≤ _
        rw [← hx]
        exact List.length_filter_le _ _
      · obtain ⟨w, hw, e⟩ := mem_withoutF_len l z hz
        exact ⟨w, by simp [hw], e⟩
end Go.PL
/-
  Plain laws: series of two lists put together one by one, and sorted then; no program is in sight.
-/
namespace Go.PL
open Go
instance decLbs : DecidableEq (List Lb) := fun a b => decidable_of_iff (cmpF a b = 0) (cmpF_is.eq0 a b)
/-- The samples of the series with these labels. -/
def lookL (ls : List Lb) : List Ser → Option (List Sm)
  | [] => none
  | x :: r => if x.labels = ls then some x.samples else lookL ls r
/-- One put to those that are there. -/
def putL (mg : List Sm → List Sm → List Sm) : List Ser → Ser → List Ser
  | [], y => [y]
  | x :: r, y => if x.labels = y.labels then ⟨y.labels, mg x.samples y.samples⟩ :: r else x :: putL mg r y
def DL (l : List Ser) : Prop := (l.map (·.labels)).Nodup
theorem lookL_none {ls : List Lb} : ∀ {l : List Ser}, lookL ls l = none ↔ ∀ x ∈ l, x.labels ≠ ls
  | [] => by simp [lookL]
  | x :: r => by
    unfold lookL
    by_cases h : x.labels = ls
    · simp [h]
    · rw [if_neg h, lookL_none (l := r)]; simp [h]
theorem lookL_some {ls : List Lb} {s : List Sm} : ∀ {l : List Ser}, lookL ls l = some s → ⟨ls, s⟩ ∈ l
  | x :: r, h => by
    unfold lookL at h
    split at h
    · rename_i e; cases h; rw [← e]; simp
    · have := lookL_some h; simp [this]
theorem lookL_mem {x : Ser} : ∀ {l : List Ser}, DL l → x ∈ l → lookL x.labels l = some x.samples
  | y :: r, hn, hx => by
    unfold DL at hn
    simp only [List.map_cons, List.nodup_cons] at hn
    unfold lookL
    rcases List.mem_cons.1 hx with rfl | hx
    · rw [if_pos rfl]
    · rw [if_neg (fun e => hn.1 (by rw [e]; exact List.mem_map_of_mem hx)), lookL_mem hn.2 hx]
theorem lookL_perm {ls : List Lb} {l m : List Ser} (hp : l.Perm m) (hd : DL l) : lookL ls l = lookL ls m := by
  have hd' : DL m := (hp.map _).nodup_iff.1 hd
  cases h : lookL ls l with
  | none =>
    symm
    rw [lookL_none] at h ⊢
    exact fun x hx => h x (hp.mem_iff.2 hx)
  | some s => exact (lookL_mem hd' (hp.mem_iff.1 (lookL_some h))).symm
theorem RisS.dl {l : List Ser} (h : RisS l) : DL l := by
  unfold DL List.Nodup
  rw [List.pairwise_map]
  refine h.imp fun {x y} hxy e => ?_
  rw [(cmpF_is.eq0 _ _).2 e] at hxy
  omega
/-- Two rising lists in which the same is found are the same. -/
theorem ris_ext : ∀ {l m : List Ser}, RisS l → RisS m → (∀ ls, lookL ls l = lookL ls m) → l = m
  | [], [], _, _, _ => rfl
  | [], y :: m, _, _, h => by have := h y.labels; unfold lookL at this; rw [if_pos rfl] at this; cases this
  | x :: l, [], _, _, h => by have := h x.labels; unfold lookL at this; rw [if_pos rfl] at this; cases this
  | x :: l, y :: m, hl, hm, h => by
    obtain ⟨l1, l2⟩ := List.pairwise_cons.1 hl
    obtain ⟨m1, m2⟩ := List.pairwise_cons.1 hm
    have nl : ∀ ls, cmpF ls x.labels < 0 ∨ ls = x.labels → lookL ls l = none := fun ls hls => by
      rw [lookL_none]
      intro z hz e
      have := l1 z hz
      rw [e] at this
      have a := cmpF_is.anti ls x.labels
      rcases hls with h1 | h1
      · omega
      · rw [h1, cmpF_is.self] at this; omega
    have nm : ∀ ls, cmpF ls y.labels < 0 ∨ ls = y.labels → lookL ls m = none := fun ls hls => by
      rw [lookL_none]
      intro z hz e
      have := m1 z hz
      rw [e] at this
      have a := cmpF_is.anti ls y.labels
      rcases hls with h1 | h1
      · omega
      · rw [h1, cmpF_is.self] at this; omega
    have hxy : x.labels = y.labels := by
      by_cases e : x.labels = y.labels
      · exact e
      · have hr := cmpF_is.rng x.labels y.labels
        have ha := cmpF_is.anti x.labels y.labels
        have h0 : cmpF x.labels y.labels ≠ 0 := fun h0 => e ((cmpF_is.eq0 _ _).1 h0)
        by_cases hlt : cmpF x.labels y.labels < 0
        · have := h x.labels
          unfold lookL at this
          rw [if_pos rfl, if_neg (fun e' => e e'.symm), nm x.labels (.inl hlt)] at this
          cases this
        · have := h y.labels
          unfold lookL at this
          rw [if_pos rfl, if_neg e, nl y.labels (.inl (by omega))] at this
          cases this
    have hs : x.samples = y.samples := by
      have := h x.labels
      unfold lookL at this
      rw [if_pos rfl, if_pos hxy.symm] at this
      exact Option.some.inj this
    have ht : l = m := ris_ext l2 m2 fun ls => by
      by_cases e : ls = x.labels
      · rw [nl ls (.inr e), nm ls (.inr (e.trans hxy))]
      · have := h ls
        unfold lookL at this
        rwa [if_neg (fun e' => e e'.symm), if_neg (fun e' => e (hxy.trans e').symm)] at this
    rw [ht]
    obtain ⟨xl, xs⟩ := x
    obtain ⟨yl, ys⟩ := y
    simp only at hxy hs
    rw [hxy, hs]
/-- What two come to at some labels. -/
def both (mg : List Sm → List Sm → List Sm) : Option (List Sm) → Option (List Sm) → Option (List Sm)
  | none, y => y
  | some x, none => some x
  | some x, some y => some (mg x y)
theorem look_putL (mg : List Sm → List Sm → List Sm) (ls : List Lb) (y : Ser) : ∀ l : List Ser, lookL ls (putL mg l y) = both mg (lookL ls l) (if y.labels = ls then some y.samples else none)
  | [] => by
    unfold putL lookL
    split <;> rfl
  | x :: r => by
    unfold putL
    by_cases h : x.labels = y.labels
    · rw [if_pos h]
      unfold lookL
      by_cases h2 : y.labels = ls
      · rw [if_pos h2, if_pos (h.trans h2), if_pos h2]; rfl
      · rw [if_neg h2, if_neg (fun e => h2 (h.symm.trans e)), if_neg h2]
        cases lookL ls r <;> rfl
    · rw [if_neg h]
      unfold lookL
      by_cases h2 : x.labels = ls
      · rw [if_pos h2, if_pos h2, if_neg (fun e => h (h2.trans e.symm))]; rfl
      · rw [if_neg h2, if_neg h2, look_putL mg ls y r]
theorem putL_labels (mg : List Sm → List Sm → List Sm) (y : Ser) : ∀ l : List Ser, (putL mg l y).map (·.labels) = if lookL y.labels l = none then l.map (·.labels) ++ [y.labels] else l.map (·.labels)
  | [] => by simp [putL, lookL]
  | x :: r => by
    unfold putL lookL
    by_cases h : x.labels = y.labels
    · rw [if_pos h, if_pos h]; simp [h]
    · rw [if_neg h, if_neg h, List.map_cons, putL_labels mg y r]
      split <;> simp
theorem putL_dl {mg : List Sm → List Sm → List Sm} {y : Ser} {l : List Ser} (h : DL l) : DL (putL mg l y) := by
  unfold DL
  rw [putL_labels]
  split
  · rename_i hn
    rw [lookL_none] at hn
    refine List.nodup_append.2 ⟨h, by simp, fun a ha b hb e => ?_⟩
    obtain ⟨x, hx, rfl⟩ := List.mem_map.1 ha
    rw [List.mem_singleton.1 hb] at e
    exact hn x hx e
  · exact h
theorem foldL_look (mg : List Sm → List Sm → List Sm) (ls : List Lb) : ∀ (b out : List Ser), DL b → lookL ls (b.foldl (putL mg) out) = both mg (lookL ls out) (lookL ls b)
  | [], out, _ => by show lookL ls out = both mg (lookL ls out) none; cases lookL ls out <;> rfl
  | y :: b, out, hd => by
    unfold DL at hd
    simp only [List.map_cons, List.nodup_cons] at hd
    rw [List.foldl_cons, foldL_look mg ls b _ hd.2, look_putL, show lookL ls (y :: b) = if y.labels = ls then some y.samples else lookL ls b from rfl]
    by_cases h : y.labels = ls
    · have hn : lookL ls b = none := by
        rw [lookL_none]
        exact fun x hx e => hd.1 (by rw [h, ← e]; exact List.mem_map_of_mem hx)
      rw [if_pos h, if_pos h, hn]
      cases lookL ls out <;> rfl
    · rw [if_neg h, if_neg h]
      cases lookL ls out <;> rfl
theorem foldL_dl (mg : List Sm → List Sm → List Sm) : ∀ (b out : List Ser), DL out → DL (b.foldl (putL mg) out)
  | [], _, h => h
  | y :: b, out, h => by rw [List.foldl_cons]; exact foldL_dl mg b _ (putL_dl h)
theorem mergeL_look (mg : List Sm → List Sm → List Sm) (ls : List Lb) : ∀ (a b : List Ser), RisS a → RisS b → lookL ls (mergeL mg a b) = both mg (lookL ls a) (lookL ls b)
  | [], b, _, _ => by rw [mergeL_nil']; rfl
  | x :: a, [], _, _ => by
    rw [mergeL_nil]
    show _ = both mg _ none
    cases lookL ls (x :: a) <;> rfl
  | x :: a, y :: b, ha, hb => by
    obtain ⟨ha1, ha2⟩ := List.pairwise_cons.1 ha
    obtain ⟨hb1, hb2⟩ := List.pairwise_cons.1 hb
    rw [mergeL_cons]
    split
    · rename_i hxy
      have ih := mergeL_look mg ls a (y :: b) ha2 hb
      conv => lhs; unfold lookL
      conv => rhs; rw [show lookL ls (x :: a) = if x.labels = ls then some x.samples else lookL ls a from rfl]
      by_cases e : x.labels = ls
      · rw [if_pos e, if_pos e]
        have hn : lookL ls (y :: b) = none := by
          rw [lookL_none]
          intro z hz e2
          have : cmpF x.labels z.labels < 0 := by
            rcases List.mem_cons.1 hz with rfl | hz
            · exact hxy
            · exact cmpF_lt_trans hxy (hb1 z hz)
          rw [e, e2, cmpF_is.self] at this
          omega
        rw [hn]; rfl
      · rw [if_neg e, if_neg e, ih]
    · rename_i hxy
      split
      · rename_i h0
        have hl : x.labels = y.labels := (cmpF_is.eq0 _ _).1 h0
        have ih := mergeL_look mg ls a b ha2 hb2
        conv => lhs; unfold lookL
        conv => rhs; rw [show lookL ls (x :: a) = if x.labels = ls then some x.samples else lookL ls a from rfl, show lookL ls (y :: b) = if y.labels = ls then some y.samples else lookL ls b from rfl]
        by_cases e : y.labels = ls
        · rw [if_pos e, if_pos e, if_pos (hl.trans e)]; rfl
        · rw [if_neg e, if_neg e, if_neg (fun e2 => e (hl.symm.trans e2)), ih]
      · rename_i h0
        have ih := mergeL_look mg ls (x :: a) b ha hb2
        have hyx : cmpF y.labels x.labels < 0 := by
          have e1 := cmpF_is.anti x.labels y.labels
          have e2 := cmpF_is.rng x.labels y.labels
          omega
        conv => lhs; unfold lookL
        conv => rhs; rw [show lookL ls (y :: b) = if y.labels = ls then some y.samples else lookL ls b from rfl]
        by_cases e : y.labels = ls
        · rw [if_pos e, if_pos e]
          have hn : lookL ls (x :: a) = none := by
            rw [lookL_none]
            intro z hz e2
            have : cmpF y.labels z.labels < 0 := by
              rcases List.mem_cons.1 hz with rfl | hz
              · exact hyx
              · exact cmpF_lt_trans hyx (ha1 z hz)
            rw [e, e2, cmpF_is.self] at this
            omega
          rw [hn]; rfl
        · rw [if_neg e, if_neg e, ih]
termination_by a b => a.length + b.length
/-- Not falling, and none twice: rising. -/
theorem sorted_ris {l : List Ser} (hs : l.Pairwise fun x y => ¬ cmpF y.labels x.labels < 0) (hd : DL l) : RisS l := by
  unfold DL List.Nodup at hd
  rw [List.pairwise_map] at hd
  refine (hs.and hd).imp fun {x y} h => ?_
  have a := cmpF_is.anti x.labels y.labels
  have r := cmpF_is.rng x.labels y.labels
  have n : cmpF x.labels y.labels ≠ 0 := fun e => h.2 ((cmpF_is.eq0 _ _).1 e)
  have := h.1
  omega
/-- Put together one by one, and sorted: as package block puts them together. -/
theorem foldL_merge (mg : List Sm → List Sm → List Sm) {a b l : List Ser} (ha : RisS a) (hb : RisS b) (hp : l.Perm (b.foldl (putL mg) a)) (hs : l.Pairwise fun x y => ¬ cmpF y.labels x.labels < 0) : l = mergeL mg a b := by
  have hd := foldL_dl mg b a ha.dl
  have hd' : DL l := (hp.map _).nodup_iff.2 hd
  refine ris_ext (sorted_ris hs hd') (mergeL_ris a b ha hb) fun ls => ?_
  rw [lookL_perm hp hd', foldL_look mg ls b a hb.dl, mergeL_look mg ls a b ha hb]
theorem putL_len (mg : List Sm → List Sm → List Sm) (y : Ser) : ∀ l : List Ser, (putL mg l y).length ≤ l.length + 1
  | [] => by simp [putL]
  | x :: r => by
    unfold putL
    split
    · simp
    · have := putL_len mg y r; simp; omega
theorem foldL_len (mg : List Sm → List Sm → List Sm) : ∀ (b out : List Ser), (b.foldl (putL mg) out).length ≤ out.length + b.length
  | [], _ => by simp
  | y :: b, out => by
    rw [List.foldl_cons]
    have h1 := foldL_len mg b (putL mg out y)
    have h2 := putL_len mg y out
    simp; omega
/-- Samples of both, put together by their times and sorted. -/
def mgR (a b : List Sm) : List Sm := sortS (atM (a ++ b))
theorem mgR_mgS {a b : List Sm} (ha : UpS a) (hb : UpS b) : mgR a b = mgS a b := (merge_sets (Nat.le_refl _) ha hb).symm
theorem mergeL_congr {mg mg' : List Sm → List Sm → List Sm} : ∀ (a b : List Ser), (∀ x ∈ a, ∀ y ∈ b, mg x.samples y.samples = mg' x.samples y.samples) → mergeL mg a b = mergeL mg' a b
  | [], b, _ => by rw [mergeL_nil', mergeL_nil']
  | x :: a, [], _ => by rw [mergeL_nil, mergeL_nil]
  | x :: a, y :: b, h => by
    rw [mergeL_cons, mergeL_cons, mergeL_congr a (y :: b) fun u hu v hv => h u (by simp [hu]) v hv, mergeL_congr a b fun u hu v hv => h u (by simp [hu]) v (by simp [hv]), mergeL_congr (x :: a) b fun u hu v hv => h u hu v (by simp [hv]), h x (by simp) y (by simp)]
termination_by a b => a.length + b.length
theorem first_at (ls : List Lb) : ∀ l : List Ser, ∃ n, n ≤ l.length ∧ (∀ i (h : i < l.length), i < n → l[i].labels ≠ ls) ∧ ∀ h : n < l.length, l[n].labels = ls
  | [] => ⟨0, Nat.le_refl _, fun i h => absurd h (by simp), fun h => absurd h (by simp)⟩
  | x :: l => by
    by_cases h : x.labels = ls
    · exact ⟨0, Nat.zero_le _, fun i h h' => absurd h' (by omega), fun _ => h⟩
    · obtain ⟨n, h1, h2, h3⟩ := first_at ls l
      refine ⟨n + 1, by simpa using h1, fun i hi hin => ?_, fun hi => ?_⟩
      · cases i with
        | zero => exact h
        | succ i => exact h2 i (by simpa using hi) (by omega)
      · exact h3 (by simpa using hi)
theorem putL_yes {mg : List Sm → List Sm → List Sm} {y : Ser} : ∀ {l : List Ser} {n : Nat} (hn : n < l.length), (∀ i (h : i < l.length), i < n → l[i].labels ≠ y.labels) → l[n].labels = y.labels → putL mg l y = l.set n ⟨y.labels, mg l[n].samples y.samples⟩
  | x :: l, 0, _, _, h => by
    have h' : x.labels = y.labels := h
    unfold putL
    rw [if_pos h']
    rfl
  | x :: l, n + 1, hn, h1, h2 => by
    have h0 : x.labels ≠ y.labels := h1 0 (by simp) (by omega)
    unfold putL
    rw [if_neg h0, List.set_cons_succ, putL_yes (l := l) (n := n) (by simpa using hn) (fun i hi hin => h1 (i + 1) (by simpa using hi) (by omega)) h2]
    rfl
theorem putL_no {mg : List Sm → List Sm → List Sm} {y : Ser} : ∀ {l : List Ser}, (∀ i (h : i < l.length), l[i].labels ≠ y.labels) → putL mg l y = l ++ [y]
  | [], _ => rfl
  | x :: l, h => by
    have h0 : x.labels ≠ y.labels := h 0 (by simp)
    unfold putL
    rw [if_neg h0, putL_no (l := l) fun i hi => h (i + 1) (by simpa using hi)]
    rfl
theorem atM_len' (l : List Sm) : (atM l).length ≤ l.length := by
  have key : ∀ (l out : List Sm), (l.foldl putS out).length ≤ out.length + l.length := by
    intro l
    induction l with
    | nil => intro out; simp
    | cons x l ih =>
      intro out
      rw [List.foldl_cons]
      have h1 := ih (putS out x)
      have h2 : (putS out x).length ≤ out.length + 1 := by
        have : ∀ o : List Sm, (putS o x).length ≤ o.length + 1 := by
          intro o
          induction o with
          | nil => simp [putS]
          | cons z o ih =>
            unfold putS
            split
            · simp
            · simp; omega
        exact this out
      simp; omega
  have := key l []
  unfold atM
  simpa using this
theorem mgR_len (a b : List Sm) : (mgR a b).length ≤ a.length + b.length := by
  unfold mgR sortS
  rw [List.length_mergeSort]
  have := atM_len' (a ++ b)
  simpa using this
theorem mem_putL {mg : List Sm → List Sm → List Sm} {y z : Ser} : ∀ {l : List Ser}, z ∈ putL mg l y → z ∈ l ∨ z = y ∨ ∃ x ∈ l, z = ⟨y.labels, mg x.samples y.samples⟩
  | [], h => by
    unfold putL at h
    exact .inr (.inl (by simpa using h))
  | x :: l, h => by
    unfold putL at h
    split at h
    · rcases List.mem_cons.1 h with rfl | h
      · exact .inr (.inr ⟨x, by simp, rfl⟩)
      · exact .inl (by simp [h])
    · rcases List.mem_cons.1 h with rfl | h
      · exact .inl (by simp)
      · rcases mem_putL h with h | h | ⟨w, hw, e⟩
        · exact .inl (by simp [h])
        · exact .inr (.inl h)
        · exact .inr (.inr ⟨w, by simp [hw], e⟩)
theorem foldL_bound (K L : Nat) : ∀ (b out : List Ser) (c : Nat), (∀ x ∈ out, x.samples.length ≤ c ∧ x.labels.length ≤ L) → (∀ x ∈ b, x.samples.length ≤ K ∧ x.labels.length ≤ L) → ∀ z ∈ b.foldl (putL mgR) out, z.samples.length ≤ c + K * b.length ∧ z.labels.length ≤ L
  | [], out, c, ho, _, z, hz => by have := ho z hz; simp; omega
  | y :: b, out, c, ho, hb, z, hz => by
    rw [List.foldl_cons] at hz
    have hy := hb y (by simp)
    have := foldL_bound K L b (putL mgR out y) (c + K) (fun x hx => by
      rcases mem_putL hx with h | h | ⟨w, hw, e⟩
      · have := ho x h; omega
      · rw [h]; omega
      · have h1 := ho w hw
        have h2 := mgR_len w.samples y.samples
        rw [e]
        exact ⟨by show (mgR w.samples y.samples).length ≤ _; omega, hy.2⟩) (fun x hx => hb x (by simp [hx])) z hz
    rw [List.length_cons, Nat.mul_add, Nat.mul_one]
    omega
theorem foldL_step (mg : List Sm → List Sm → List Sm) (a b : List Ser) (i : Nat) (h : i < b.length) : (b.take (i + 1)).foldl (putL mg) a = putL mg ((b.take i).foldl (putL mg) a) b[i] := by
  rw [List.take_succ_eq_append_getElem h, List.foldl_append]
  rfl
end Go.PL
/-
  Plain laws: a head: what comes, and what is refused; what is cut off, and what stays; no program is in sight.
-/
namespace Go.PL
open Go
/-- The place of labels among rising series. -/
def posL (ls : List Lb) : List Ser → Nat
  | [] => 0
  | x :: r => if cmpF x.labels ls < 0 then posL ls r + 1 else 0
theorem posL_le (ls : List Lb) : ∀ l : List Ser, posL ls l ≤ l.length
  | [] => Nat.le_refl _
  | x :: r => by
    unfold posL
    split
    · simpa using posL_le ls r
    · simp
theorem posL_lt (ls : List Lb) : ∀ (l : List Ser) (i : Nat) (h : i < l.length), i < posL ls l → cmpF l[i].labels ls < 0
  | x :: r, i, h, hi => by
    unfold posL at hi
    split at hi
    · rename_i hc
      cases i with
      | zero => exact hc
      | succ i => exact posL_lt ls r i (by simpa using h) (by omega)
    · omega
theorem posL_at (ls : List Lb) : ∀ (l : List Ser) (h : posL ls l < l.length), ¬ cmpF l[posL ls l].labels ls < 0
  | x :: r, h => by
    by_cases hc : cmpF x.labels ls < 0
    · have e : posL ls (x :: r) = posL ls r + 1 := by rw [posL, if_pos hc]
      have := posL_at ls r (by rw [e] at h; simpa using h)
      simpa [e] using this
    · have e : posL ls (x :: r) = 0 := by rw [posL, if_neg hc]
      simpa [e] using hc
theorem posL_ge {ls : List Lb} {l : List Ser} (hr : RisS l) (i : Nat) (h : i < l.length) (hi : posL ls l ≤ i) : ¬ cmpF l[i].labels ls < 0 := by
  have h0 : posL ls l < l.length := by omega
  have := posL_at ls l h0
  rcases Nat.eq_or_lt_of_le hi with e | e
  · simpa [← e] using this
  · intro hc
    have hp : cmpF l[posL ls l].labels l[i].labels < 0 := List.pairwise_iff_getElem.1 hr _ _ h0 h e
    exact this (cmpF_lt_trans hp hc)
/-- The series with these labels, if there is one. -/
def atL (ls : List Lb) (l : List Ser) : Option Ser := match l[posL ls l]? with | some y => if cmpF y.labels ls = 0 then some y else none | none => none
theorem atL_some {ls : List Lb} {l : List Ser} {y : Ser} (h : atL ls l = some y) : ∃ hn : posL ls l < l.length, l[posL ls l] = y ∧ cmpF y.labels ls = 0 := by
  unfold atL at h
  split at h
  · rename_i z hz
    obtain ⟨hn, hz⟩ := List.getElem?_eq_some_iff.1 hz
    split at h
    · rename_i hc
      cases h
      exact ⟨hn, hz, hc⟩
    · cases h
  · cases h
theorem atL_none {ls : List Lb} {l : List Ser} (h : atL ls l = none) (hn : posL ls l < l.length) : cmpF l[posL ls l].labels ls ≠ 0 := by
  unfold atL at h
  rw [List.getElem?_eq_getElem hn] at h
  intro hc
  simp [hc] at h
/-- One that comes: behind that of its labels, or in its place. -/
def addL (l : List Ser) (x : Ser) : List Ser := mergeL (· ++ ·) l [x]
theorem addL_cons (y : Ser) (r : List Ser) (x : Ser) : addL (y :: r) x = if cmpF y.labels x.labels < 0 then y :: addL r x else if cmpF y.labels x.labels = 0 then ⟨x.labels, y.samples ++ x.samples⟩ :: r else x :: y :: r := by
  unfold addL
  rw [mergeL_cons, mergeL_nil, mergeL_nil]
theorem addL_nil (x : Ser) : addL [] x = [x] := mergeL_nil' _ _
theorem addL_yes {x y : Ser} : ∀ {l : List Ser}, atL x.labels l = some y → addL l x = l.set (posL x.labels l) ⟨x.labels, y.samples ++ x.samples⟩
  | [], h => by simp [atL, posL] at h
  | z :: r, h => by
    rw [addL_cons]
    by_cases hc : cmpF z.labels x.labels < 0
    · have e : posL x.labels (z :: r) = posL x.labels r + 1 := by rw [posL, if_pos hc]
      have h' : atL x.labels r = some y := by
        unfold atL at h ⊢
        rw [e] at h
        simpa using h
      rw [if_pos hc, e, List.set_cons_succ, addL_yes h']
    · have e : posL x.labels (z :: r) = 0 := by rw [posL, if_neg hc]
      obtain ⟨hn, h1, h2⟩ := atL_some h
      simp only [e, List.getElem_cons_zero] at h1
      subst h1
      rw [if_neg hc, if_pos h2, e]
      rfl
theorem addL_no {x : Ser} : ∀ {l : List Ser}, atL x.labels l = none → addL l x = l.take (posL x.labels l) ++ x :: l.drop (posL x.labels l)
  | [], _ => by simp [addL_nil, posL]
  | z :: r, h => by
    rw [addL_cons]
    by_cases hc : cmpF z.labels x.labels < 0
    · have e : posL x.labels (z :: r) = posL x.labels r + 1 := by rw [posL, if_pos hc]
      have h' : atL x.labels r = none := by
        unfold atL at h ⊢
        rw [e] at h
        simpa using h
      rw [if_pos hc, e, List.take_succ_cons, List.drop_succ_cons, addL_no h']
      rfl
    · have e : posL x.labels (z :: r) = 0 := by rw [posL, if_neg hc]
      have h1 := atL_none h (by rw [e]; simp)
      simp only [e, List.getElem_cons_zero] at h1
      rw [if_neg hc, if_neg h1, e]
      rfl
theorem addL_ris {l : List Ser} (x : Ser) (h : RisS l) : RisS (addL l x) := mergeL_ris l [x] h (List.pairwise_singleton _ _)
theorem mem_addL {x z : Ser} : ∀ {l : List Ser}, z ∈ addL l x → z ∈ l ∨ z = x ∨ ∃ y ∈ l, cmpF y.labels x.labels = 0 ∧ z = ⟨x.labels, y.samples ++ x.samples⟩
  | [], h => by rw [addL_nil] at h; exact .inr (.inl (by simpa using h))
  | y :: r, h => by
    rw [addL_cons] at h
    split at h
    · rcases List.mem_cons.1 h with rfl | h
      · exact .inl (by simp)
      · rcases mem_addL h with h | h | ⟨y', h1, h2⟩
        · exact .inl (by simp [h])
        · exact .inr (.inl h)
        · exact .inr (.inr ⟨y', by simp [h1], h2⟩)
    · split at h
      · rename_i hc
        rcases List.mem_cons.1 h with rfl | h
        · exact .inr (.inr ⟨y, by simp, hc, rfl⟩)
        · exact .inl (by simp [h])
      · rcases List.mem_cons.1 h with rfl | h
        · exact .inr (.inl rfl)
        · exact .inl h
/-- Sorted as package head's document sorts them. -/
theorem addL_sorted {x : Ser} {l m : List Ser} (hr : RisS l) (h : atL x.labels l = none) (hp : m.Perm (l ++ [x])) (hs : m.Pairwise fun a b => ¬ cmpF b.labels a.labels < 0) : m = addL l x := by
  refine foldL_merge (· ++ ·) hr (List.pairwise_singleton _ x) ?_ hs
  have : [x].foldl (putL (· ++ ·)) l = l ++ [x] := putL_no fun i hi e => by
    have h0 : cmpF l[i].labels x.labels = 0 := (cmpF_is.eq0 _ _).2 e
    rcases Nat.lt_trichotomy i (posL x.labels l) with hi' | hi' | hi'
    · have := posL_lt x.labels l i hi hi'; omega
    · have := atL_none h (by omega)
      simp only [← hi'] at this
      exact this h0
    · have hn : posL x.labels l < l.length := by omega
      have hp : cmpF l[posL x.labels l].labels l[i].labels < 0 := List.pairwise_iff_getElem.1 hr _ _ hn hi hi'
      rw [e] at hp
      exact posL_at x.labels l hn hp
  rw [this]
  exact hp
/-! ### What is refused -/
def firstT (s : List Sm) : Int := match s with | x :: _ => x.time | [] => 0
def lastT (s : List Sm) : Int := match s.getLast? with | some x => x.time | none => 0
/-- What is wrong with one that comes. -/
noncomputable def errH (mk : Int) (l : List Ser) (x : Ser) : Int :=
  if (rightF x.labels && okS x.samples && !decide (x.samples.length = 0)) = false then 1 else if firstT x.samples ≤ mk then 10 else
  match atL x.labels l with
  | none => if 60 ≤ l.length then 12 else 0
  | some y => if firstT x.samples ≤ lastT y.samples then 10 else if 2000 < y.samples.length + x.samples.length then 12 else 0
theorem errH_rng (mk : Int) (l : List Ser) (x : Ser) : 0 ≤ errH mk l x ∧ errH mk l x ≤ 12 := by
  unfold errH
  repeat' split
  all_goals omega
noncomputable def tryH (mk : Int) : List Ser → List Ser → Nat → Option (Int × Nat)
  | _, [], _ => none
  | S, x :: r, i => if errH mk S x = 0 then tryH mk (addL S x) r (i + 1) else some (errH mk S x, i)
def tot (l : List Ser) : Nat := (l.map (·.samples.length)).sum
theorem tot_snoc (l : List Ser) (i : Nat) (h : i < l.length) : tot (l.take (i + 1)) = tot (l.take i) + l[i].samples.length := by
  unfold tot
  rw [List.take_succ_eq_append_getElem h, List.map_append, List.sum_append]
  simp
theorem tot_take (l : List Ser) (i : Nat) : tot (l.take i) ≤ tot l := by
  conv => rhs; rw [← List.take_append_drop i l]
  unfold tot
  rw [List.map_append, List.sum_append]
  omega
/-- What a head says of what comes, and what is there then. -/
noncomputable def headF (mk : Int) (S l : List Ser) : (Int × Int) × List Ser :=
  if 40 < tot l then ((4, -1), S) else match tryH mk S l 0 with | none => ((0, -1), l.foldl addL S) | some (e, i) => ((e, (i : Int)), S)
/-- What is right of a head. -/
structure HOk (S : List Ser) : Prop where
  ris : RisS S
  len : S.length ≤ 60
  each : ∀ x ∈ S, rightF x.labels = true ∧ okS x.samples = true ∧ x.samples ≠ []
theorem HOk.nil : HOk [] := ⟨.nil, by simp, by simp⟩
theorem lastT_le {s : List Sm} (hu : UpS s) {z : Sm} (hz : z ∈ s) : z.time ≤ lastT s := by
  unfold lastT
  cases hl : s.getLast? with
  | none => rw [List.getLast?_eq_none_iff] at hl; subst hl; cases hz
  | some y =>
    obtain ⟨a, rfl⟩ := List.getLast?_eq_some_iff.1 hl
    rcases List.mem_append.1 hz with h | h
    · have := (List.pairwise_append.1 hu).2.2 z h y (by simp); show z.time ≤ y.time; omega
    · simp at h; rw [h]; exact Int.le_refl _
theorem firstT_le {s : List Sm} (hu : UpS s) {z : Sm} (hz : z ∈ s) : firstT s ≤ z.time := by
  cases s with
  | nil => cases hz
  | cons x r =>
    rcases List.mem_cons.1 hz with rfl | h
    · exact Int.le_refl _
    · have := (List.pairwise_cons.1 hu).1 z h
      show x.time ≤ z.time
      omega
theorem okS_app {a b : List Sm} (ha : okS a = true) (hb : okS b = true) (hab : ¬ firstT b ≤ lastT a) (hl : ¬ 2000 < a.length + b.length) : okS (a ++ b) = true := by
  rw [okS_iff] at ha hb ⊢
  refine ⟨⟨fun x hx => ?_, fun x hx => ?_, ?_⟩, by simp; omega⟩
  · rcases List.mem_append.1 hx with h | h
    · exact ha.1.lo x h
    · exact hb.1.lo x h
  · rcases List.mem_append.1 hx with h | h
    · exact ha.1.hi x h
    · exact hb.1.hi x h
  · refine List.pairwise_append.2 ⟨ha.1.up, hb.1.up, fun x hx y hy => ?_⟩
    have h1 := lastT_le ha.1.up hx
    have h2 := firstT_le hb.1.up hy
    omega
theorem addL_len (l : List Ser) (x : Ser) : (addL l x).length = if (atL x.labels l).isSome then l.length else l.length + 1 := by
  cases h : atL x.labels l with
  | none =>
    rw [addL_no h]
    have := posL_le x.labels l
    simp
    omega
  | some y => rw [addL_yes h]; simp
theorem errH_add {mk : Int} {S : List Ser} {x : Ser} (h : HOk S) (he : errH mk S x = 0) : HOk (addL S x) := by
  unfold errH at he
  split at he
  · omega
  · rename_i hb
    rw [Bool.not_eq_false, Bool.and_eq_true, Bool.and_eq_true, Bool.not_eq_true', decide_eq_false_iff_not] at hb
    obtain ⟨⟨b1, b2⟩, b3⟩ := hb
    split at he
    · omega
    · have hne : x.samples ≠ [] := fun e => b3 (by rw [e]; rfl)
      refine ⟨addL_ris x h.ris, ?_, fun z hz => ?_⟩
      · rw [addL_len]
        have := h.len
        split
        · exact this
        · rename_i hs
          cases ha : atL x.labels S with
          | some y => rw [ha] at hs; exact absurd rfl hs
          | none => rw [ha] at he; simp only at he; split at he <;> omega
      · rcases mem_addL hz with hz | rfl | ⟨y, hy, hc, rfl⟩
        · exact h.each z hz
        · exact ⟨b1, b2, hne⟩
        · refine ⟨b1, ?_, by simp [hne]⟩
          obtain ⟨y1, y2, y3⟩ := h.each y hy
          cases ha : atL x.labels S with
          | none =>
            exfalso
            obtain ⟨i, hi, rfl⟩ := List.getElem_of_mem hy
            rcases Nat.lt_trichotomy i (posL x.labels S) with hi' | hi' | hi'
            · have := posL_lt x.labels S i hi hi'; omega
            · have := atL_none ha (by omega)
              simp only [← hi'] at this
              exact this hc
            · have hn : posL x.labels S < S.length := by omega
              have hp : cmpF S[posL x.labels S].labels S[i].labels < 0 := List.pairwise_iff_getElem.1 h.ris _ _ hn hi hi'
              rw [(cmpF_is.eq0 _ _).1 hc] at hp
              exact posL_at x.labels S hn hp
          | some y' =>
            rw [ha] at he
            simp only at he
            obtain ⟨hn, e1, e2⟩ := atL_some ha
            have : y' = y := by
              have hd := h.ris.dl
              have k1 := lookL_mem hd hy
              have k2 := lookL_mem hd (e1 ▸ List.getElem_mem hn : y' ∈ S)
              have el : y'.labels = y.labels := ((cmpF_is.eq0 _ _).1 e2).trans ((cmpF_is.eq0 _ _).1 hc).symm
              rw [el, k1] at k2
              cases y; cases y'
              simp only at el
              cases k2
              rw [el]
            subst this
            split at he
            · omega
            · rename_i h1
              split at he
              · omega
              · rename_i h2
                exact okS_app y2 b2 h1 h2
theorem tryH_ok {mk : Int} : ∀ {l S : List Ser} {i : Nat}, HOk S → tryH mk S l i = none → HOk (l.foldl addL S)
  | [], _, _, h, _ => h
  | x :: r, S, i, h, ht => by
    unfold tryH at ht
    split at ht
    · rename_i he
      exact tryH_ok (l := r) (errH_add h he) ht
    · cases ht
theorem headF_ok {mk : Int} {S : List Ser} (l : List Ser) (h : HOk S) : HOk (headF mk S l).2 := by
  unfold headF
  split
  · exact h
  · split
    · rename_i ht
      exact tryH_ok h ht
    · exact h
/-- One round: what came ahead was right. -/
theorem tryH_at {mk : Int} {S l : List Ser} {i : Nat} (hi : i < l.length) (h : tryH mk S l 0 = tryH mk ((l.take i).foldl addL S) (l.drop i) i) :
    (errH mk ((l.take i).foldl addL S) l[i] = 0 → tryH mk S l 0 = tryH mk ((l.take (i + 1)).foldl addL S) (l.drop (i + 1)) (i + 1)) ∧
    (errH mk ((l.take i).foldl addL S) l[i] ≠ 0 → tryH mk S l 0 = some (errH mk ((l.take i).foldl addL S) l[i], i)) := by
  rw [h, List.drop_eq_getElem_cons hi, List.take_succ_eq_append_getElem hi, List.foldl_append]
  refine ⟨fun he => ?_, fun he => ?_⟩
  · rw [tryH, if_pos he]; rfl
  · rw [tryH, if_neg he]
theorem tryH_end {mk : Int} {S l : List Ser} (h : tryH mk S l 0 = tryH mk ((l.take l.length).foldl addL S) (l.drop l.length) l.length) : tryH mk S l 0 = none := by
  rw [h, List.drop_length]
  rfl
/-! ### How many samples there are -/
theorem tot_addL (x : Ser) : ∀ l : List Ser, tot (addL l x) = tot l + x.samples.length
  | [] => by rw [addL_nil]; simp [tot]
  | y :: r => by
    rw [addL_cons]
    split
    · have := tot_addL x r
      simp only [tot, List.map_cons, List.sum_cons] at this ⊢
      omega
    · split
      · simp [tot]; omega
      · simp [tot]; omega
theorem tot_foldl : ∀ (l S : List Ser), tot (l.foldl addL S) = tot S + tot l
  | [], S => by simp [tot]
  | x :: r, S => by
    rw [List.foldl_cons, tot_foldl r, tot_addL]
    simp [tot]
    omega
/-! ### What is cut off -/
def cutH (t : Int) : Hit := fun _ s => decide (s ≤ t)
def notH (h : Hit) : Hit := fun ls s => !h ls s
theorem mgS_split (t : Int) : ∀ {s : List Sm}, UpS s → mgS (s.filter fun x => decide (x.time ≤ t)) (s.filter fun x => !decide (x.time ≤ t)) = s
  | [], _ => mgS_nil []
  | x :: r, h => by
    obtain ⟨h1, h2⟩ := List.pairwise_cons.1 h
    by_cases hx : x.time ≤ t
    · rw [List.filter_cons_of_pos (by simpa using hx), List.filter_cons_of_neg (by simpa using hx), mgS_ahead, mgS_split t h2]
      exact fun z hz => h1 z (List.mem_filter.1 hz).1
    · have e : r.filter (fun x => decide (x.time ≤ t)) = [] := by
        rw [List.filter_eq_nil_iff]
        intro z hz
        have := h1 z hz
        simp
        omega
      have e2 : r.filter (fun x => !decide (x.time ≤ t)) = r := by
        rw [List.filter_eq_self]
        intro z hz
        have := h1 z hz
        simp
        omega
      rw [List.filter_cons_of_neg (by simpa using hx), List.filter_cons_of_pos (by simpa using hx), e, e2, mgS_nil']
theorem withoutF_ahead {h : Hit} {x : Ser} {l : List Ser} (hx : ∀ z ∈ l, cmpF x.labels z.labels < 0) : ∀ z ∈ withoutF h l, cmpF x.labels z.labels < 0 := fun z hz => by
  obtain ⟨y, hy, e⟩ := mem_withoutF l z hz
  rw [← e]
  exact hx y hy
theorem joined_cut (t : Int) : ∀ {S : List Ser}, RisS S → (∀ x ∈ S, UpS x.samples ∧ x.samples ≠ []) → mergeL mgS (withoutF (notH (cutH t)) S) (withoutF (cutH t) S) = S
  | [], _, _ => mergeL_nil _ []
  | x :: r, hr, hu => by
    obtain ⟨r1, r2⟩ := List.pairwise_cons.1 hr
    obtain ⟨u1, u2⟩ := hu x (by simp)
    have ih := joined_cut t r2 fun z hz => hu z (by simp [hz])
    have e1 : leftS (notH (cutH t)) x = x.samples.filter fun s => decide (s.time ≤ t) := by
      unfold leftS notH cutH
      simp only [Bool.not_not]
    have e2 : leftS (cutH t) x = x.samples.filter fun s => !decide (s.time ≤ t) := rfl
    have hm := mgS_split t u1
    have a1 := withoutF_ahead (h := notH (cutH t)) r1
    have a2 := withoutF_ahead (h := cutH t) r1
    cases c1 : leftS (notH (cutH t)) x with
    | nil =>
      cases c2 : leftS (cutH t) x with
      | nil =>
        rw [← e1, ← e2, c1, c2, mgS_nil] at hm
        exact absurd hm.symm u2
      | cons y s =>
        rw [withoutF_no _ c1, withoutF_yes _ c2, mergeL_behind ⟨x.labels, y :: s⟩ _ _ (fun z hz => a1 z hz), ih]
        rw [← e1, ← e2, c1, c2, mgS_nil'] at hm
        rw [hm]
    | cons y s =>
      cases c2 : leftS (cutH t) x with
      | nil =>
        rw [withoutF_yes _ c1, withoutF_no _ c2, mergeL_ahead ⟨x.labels, y :: s⟩ _ _ (fun z hz => a2 z hz), ih]
        rw [← e1, ← e2, c1, c2, mgS_nil] at hm
        rw [hm]
      | cons y' s' =>
        rw [withoutF_yes _ c1, withoutF_yes _ c2, mergeL_cons, if_neg (by rw [cmpF_is.self]; omega), if_pos (cmpF_is.self _), ih]
        rw [← e1, ← e2, c1, c2] at hm
        simp only
        rw [hm]
theorem withoutF_each {h : Hit} : ∀ {S : List Ser} {z : Ser}, z ∈ withoutF h S → ∃ x ∈ S, z.labels = x.labels ∧ z.samples = leftS h x ∧ z.samples ≠ []
  | x :: r, z, hz => by
    cases c : leftS h x with
    | nil =>
      rw [withoutF_no _ c] at hz
      obtain ⟨y, hy, e⟩ := withoutF_each hz
      exact ⟨y, by simp [hy], e⟩
    | cons a s =>
      rw [withoutF_yes _ c] at hz
      rcases List.mem_cons.1 hz with rfl | hz
      · exact ⟨x, by simp, rfl, c.symm, by simp⟩
      · obtain ⟨y, hy, e⟩ := withoutF_each hz
        exact ⟨y, by simp [hy], e⟩
theorem withoutF_ris {h : Hit} : ∀ {S : List Ser}, RisS S → RisS (withoutF h S)
  | [], _ => by unfold withoutF; exact .nil
  | x :: r, hr => by
    obtain ⟨r1, r2⟩ := List.pairwise_cons.1 hr
    cases c : leftS h x with
    | nil => rw [withoutF_no _ c]; exact withoutF_ris r2
    | cons a s => rw [withoutF_yes _ c]; exact List.pairwise_cons.2 ⟨withoutF_ahead r1, withoutF_ris r2⟩
theorem okS_filter {s : List Sm} (p : Sm → Bool) (h : okS s = true) : okS (s.filter p) = true := by
  rw [okS_iff] at h ⊢
  refine ⟨⟨fun x hx => h.1.lo x (List.mem_filter.1 hx).1, fun x hx => h.1.hi x (List.mem_filter.1 hx).1, h.1.up.filter _⟩, Nat.le_trans (List.length_filter_le _ _) h.2⟩
theorem HOk.without {S : List Ser} (h : HOk S) (k : Hit) : HOk (withoutF k S) := by
  refine ⟨withoutF_ris h.ris, Nat.le_trans (withoutF_len k S) h.len, fun z hz => ?_⟩
  obtain ⟨x, hx, e1, e2, e3⟩ := withoutF_each hz
  obtain ⟨a, b, c⟩ := h.each x hx
  exact ⟨by rw [e1]; exact a, by rw [e2]; exact okS_filter _ b, e3⟩
end Go.PL
