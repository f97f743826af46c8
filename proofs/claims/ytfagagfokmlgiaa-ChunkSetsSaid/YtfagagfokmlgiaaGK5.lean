/-
  The ghost machine is sound.
-/
import Derived.Test.YtfagagfokmlgiaaGK4m
namespace Go.GK
open Go.RowKit

section
variable {P : Program} {Q : Exit → Act → World → Prop}

theorem cont_ret : ∀ (k : List It) (a : Act) (w : World), cont P Q k .ret a w = Q .ret a w
  | [], _, _ => rfl
  | .code _ :: k, a, w => cont_ret k a w
  | .blk _ :: k, a, w => cont_ret k a w
  | .ops false _ _ :: k, a, w => cont_ret k a w
  | .ops true _ _ :: k, a, w => cont_ret k a w

theorem cont_panic {ch : List PanicEntry} : ∀ (k : List It) (a : Act) (w : World), cont P Q k (.panic ch) a w = Q (.panic ch) a w
  | [], _, _ => rfl
  | .code _ :: k, a, w => cont_panic k a w
  | .blk _ :: k, a, w => cont_panic k a w
  | .ops false _ _ :: k, a, w => cont_panic k a w
  | .ops true _ _ :: k, a, w => cont_panic k a w

theorem cont_exit {id : Nat} : ∀ (k : List It) (a : Act) (w : World), cont P Q k (.exit id) a w = match exitTo id k with | some k' => cont P Q k' .normal a w | none => Q (.exit id) a w
  | [], _, _ => rfl
  | .code _ :: k, a, w => cont_exit k a w
  | .blk j :: k, a, w => by
    unfold exitTo
    simp only [cont]
    cases hb : Nat.beq id j with
    | true => rw [if_pos (beq_eq hb)]; rfl
    | false => rw [if_neg (beq_ne hb)]; exact cont_exit k a w
  | .ops false _ _ :: k, a, w => cont_exit k a w
  | .ops true _ _ :: k, a, w => cont_exit k a w

theorem cont_code {c : Code} {k : List It} : ∀ (e : Exit) (a : Act) (w : World), cont P Q (.code c :: k) e a w = Exit.then (c.wp P (cont P Q k)) (cont P Q k) e a w
  | .normal, _, _ => rfl
  | .exit _, _, _ => rfl
  | .goto _, _, _ => rfl
  | .ret, _, _ => rfl
  | .panic _, _, _ => rfl
  | .outgrown, _, _ => rfl

theorem cont_blk {id : Nat} {k : List It} : ∀ (e : Exit) (a : Act) (w : World), cont P Q (.blk id :: k) e a w = Exit.inBlock id (cont P Q k) e a w
  | .normal, _, _ => rfl
  | .exit _, _, _ => rfl
  | .goto _, _, _ => rfl
  | .ret, _, _ => rfl
  | .panic _, _, _ => rfl
  | .outgrown, _, _ => rfl

theorem wpList_run {ops : Array Oper} {o : Oper} {rest : List Oper} {a : Act} {w w' : World} {u : Value} (hw : Region.wanted o (yielded ops a.tmps) = true) (hr : (execOp a.eval o).run P w = .ok (.value u) w') (h : wpList P ops Q rest (a.put o.dst u) w') : wpList P ops Q (o :: rest) a w := by
  unfold wpList
  rw [if_pos hw]
  refine .inl ?_
  unfold Oper.wp
  rw [hr]
  exact h

theorem wpList_skipped {ops : Array Oper} {o : Oper} {rest : List Oper} {a : Act} {w w' : World} (hw : Region.wanted o (yielded ops a.tmps) = true) (hr : (execOp a.eval o).run P w = .ok .skip w') (h : wpList P ops Q rest (a.put o.dst undef) w') : wpList P ops Q (o :: rest) a w := by
  unfold wpList
  rw [if_pos hw]
  refine .inl ?_
  unfold Oper.wp
  rw [hr]
  exact h

theorem wpList_pass {ops : Array Oper} {o : Oper} {rest : List Oper} {a : Act} {w : World} (hw : Region.wanted o (yielded ops a.tmps) = false) (h : wpList P ops Q rest (a.put o.dst undef) w) : wpList P ops Q (o :: rest) a w := by
  unfold wpList
  rw [if_neg (by simp [hw])]
  exact h

theorem wpQuiet_run {ops : Array Oper} {C : World → Prop} {R : Act → Prop} {o : Oper} {rest : List Oper} {a : Act} {u : Value} (hw : Region.wanted o (yielded ops a.tmps) = true) (hr : ∀ w, C w → (execOp a.eval o).run P w = .ok (.value u) w) (h : wpQuiet P ops C R rest (a.put o.dst u)) : wpQuiet P ops C R (o :: rest) a := by
  unfold wpQuiet
  rw [if_pos hw]
  refine ⟨u, fun w hC => ?_, h⟩
  unfold Oper.quietAt
  rw [hr w hC]
  exact ⟨rfl, rfl⟩

theorem wpQuiet_pass {ops : Array Oper} {C : World → Prop} {R : Act → Prop} {o : Oper} {rest : List Oper} {a : Act} (hw : Region.wanted o (yielded ops a.tmps) = false) (h : wpQuiet P ops C R rest (a.put o.dst undef)) : wpQuiet P ops C R (o :: rest) a := by
  unfold wpQuiet
  rw [if_neg (by simp [hw])]
  exact h
end

section
variable {cx : Cx} {T : Post}

/-- An operation that makes or writes memory. -/
theorem JK.step_mem {all : List Oper} {o : Oper} {rest : List Oper} {k : List It} {H' : Hid} {a : Act} {w w' : World} {s' : St} {u : Value} {g : GV} {ρ : Env} {K : Env → Prop}
    (hg : GlOk cx.pg H') (ha : ActOk cx H' ρ a) (hw : Region.wanted o (yielded all.toArray a.tmps) = true) (hr : (execOp a.eval o).run cx.pg.P w = .ok (.value u) w' ∨ (execOp a.eval o).run cx.pg.P w = .ok .skip w' ∧ u = undef) (hi : Is H' g u) (hd : dput cx.N ρ o.dst g K)
    (hs : ∀ ρ', K ρ' → Sim cx H' { s' with ρ := ρ' } w' ∧ JK cx T (.ops false all rest :: k) { s' with ρ := ρ' }) :
    cont cx.pg.P (post cx T) (.ops false all (o :: rest) :: k) .normal a w := by
  obtain ⟨ρ', ha', hk⟩ := ha.dput hi hd
  obtain ⟨hs', hJ⟩ := hs ρ' hk
  have := hJ H' (a.put o.dst u) w' hg hs' ha'
  rcases hr with hr | ⟨hr, rfl⟩
  · exact wpList_run hw hr this
  · exact wpList_skipped hw hr this

theorem GlOk.mono {p : Pg} {H H' : Hid} (h : GlOk p H) (hl : H.le H') : GlOk p H' := fun g gv hgv => (h g gv hgv).mono hl.ro

theorem cells_vs {H : Hid} (l : List Value) : Cells H (l.map .v) l.toArray := by
  refine ⟨by simp, fun j g hj => ?_⟩
  simp only [List.getElem?_map, Option.map_eq_some_iff] at hj
  obtain ⟨v, hv, rfl⟩ := hj
  have : l.toArray.getD j undef = v := by simp [hv]
  rw [this]
  exact .ro (.v v)

theorem evp_is {p : Pg} {H : Hid} (hg : GlOk p H) {ρ : Env} {a : Act} (h : EnvOk H ρ a) : ∀ {xs : List (Nat × Operand)} {gs : List (Nat × GV)}, evp p ρ xs = some gs → gs.length = xs.length ∧ ∀ (j i : Nat) (g : GV), gs[j]? = some (i, g) → ∃ v, (xs.map fun x => (x.1, a.eval x.2))[j]? = some (i, v) ∧ Is H g v
  | [], gs, he => by simp only [evp, Option.some.injEq] at he; subst he; simp
  | (i0, x) :: r, gs, he => by
    unfold evp at he
    split at he
    · rename_i g gs' h1 h2
      simp only [Option.some.injEq] at he
      subst he
      obtain ⟨hl, hi⟩ := evp_is hg h h2
      refine ⟨by simp [hl], fun j i g' hj => ?_⟩
      cases j with
      | zero => simp at hj; obtain ⟨rfl, rfl⟩ := hj; exact ⟨a.eval x, rfl, ev_is hg h h1⟩
      | succ j => obtain ⟨v, hv, hi'⟩ := hi j i g' (by simpa using hj); exact ⟨v, by simpa using hv, hi'⟩
    · cases he

theorem run_build_of {p : Pg} {H : Hid} {t : Nat} {ti : TI} (hti : TyOk p.P t ti) {fs : List (Nat × Nat × Bool)} (hd : ti.d = .struct fs) {gs : List (Nat × GV)} {vs : Array (Nat × Value)} {cs : List GV} (hl : gs.length = vs.size)
    (hi : ∀ (j : Nat) i g, gs[j]? = some (i, g) → ∃ v, vs.toList[j]? = some (i, v) ∧ Is H g v) (hf : gfill fs gs (ti.zero.map .v) = some cs) (w : World) : ∃ us, (Instr.build t vs).run p.P w = .ok (.agg us) w ∧ Cells H cs us := by
  have hd' := hti.d
  rw [hd] at hd'
  obtain ⟨fields, hu, hfs, hin⟩ := hd'
  obtain ⟨it, z, hit, hsz, _, hz, hzc, hzl⟩ := hti.info
  have hzcell : Cells H (ti.zero.map .v) z.cells := by
    have := cells_vs (H := H) ti.zero
    rw [← hzc] at this
    simpa [← hzc] using this
  have hplaces : ∃ places, fields.toList.mapM (fun f => (p.P.info? f.type).map fun i => (f.offset, i.size)) = some places ∧ ∀ (i off sz : Nat) (ag : Bool), fs[i]? = some (off, sz, ag) → places[i]? = some (off, sz) := by
    have key : ∀ (l : List Field), (∀ f ∈ l, (p.P.info? f.type).isSome = true) → l.mapM (fun f => (p.P.info? f.type).map fun i => (f.offset, i.size)) = some (l.map fun f => (f.offset, p.P.cellsOf f.type)) := by
      intro l
      induction l with
      | nil => intro _; rfl
      | cons f l ih =>
        intro h
        obtain ⟨i, hi⟩ := Option.isSome_iff_exists.1 (h f List.mem_cons_self)
        have := ih (fun g hg => h g (List.mem_cons_of_mem _ hg))
        simp [List.mapM_cons, hi, this, Program.cellsOf]
    refine ⟨_, key _ hin, fun i off sz ag hfi => ?_⟩
    have := hfs i
    rw [hfi] at this
    simp only [List.getElem?_map]
    rw [Array.getElem?_toList]
    cases hff : fields[i]? with
    | none => rw [hff] at this; cases this
    | some f =>
      rw [hff] at this
      simp only [Option.map_some, Option.some.injEq, Prod.mk.injEq] at this ⊢
      exact ⟨this.1.symm, this.2.1.symm⟩
  obtain ⟨places, hpl, hpp⟩ := hplaces
  obtain ⟨us, hus, hc⟩ := fill_is (place := (places.toArray[·]?)) (places := fs) (by simpa using hpp) (gs := gs) (vs := vs.toList) (by simpa using hl) hi hzcell hf
  refine ⟨us, run_build w t vs us ?_, hc⟩
  unfold Program.built
  simp only [hit, hu, hz, hpl]
  exact hus

theorem arrPl_get : ∀ (n sz off i : Nat), (arrPl n sz off)[i]? = if i < n then some (off + i * sz, sz, false) else none
  | 0, sz, off, i => by simp [arrPl]
  | n + 1, sz, off, 0 => by simp [arrPl]
  | n + 1, sz, off, i + 1 => by
    simp only [arrPl, List.getElem?_cons_succ, arrPl_get n sz (off + sz) i, Nat.succ_lt_succ_iff, Nat.add_mul, Nat.one_mul]
    split
    · congr 2; omega
    · rfl

theorem run_buildA_of {p : Pg} {H : Hid} {t e n : Nat} {ti te : TI} (hti : TyOk p.P t ti) (hd : ti.d = .array n e) (hte : TyOk p.P e te) {gs : List (Nat × GV)} {vs : Array (Nat × Value)} {cs : List GV} (hl : gs.length = vs.size)
    (hi : ∀ (j : Nat) i g, gs[j]? = some (i, g) → ∃ v, vs.toList[j]? = some (i, v) ∧ Is H g v) (hf : gfill (arrPl n te.sz 0) gs (ti.zero.map .v) = some cs) (w : World) : ∃ us, (Instr.build t vs).run p.P w = .ok (.agg us) w ∧ Cells H cs us := by
  have hu := hti.d
  rw [hd] at hu
  obtain ⟨it, z, hit, hsz, _, hz, hzc, hzl⟩ := hti.info
  have hzcell : Cells H (ti.zero.map .v) z.cells := by
    have := cells_vs (H := H) ti.zero
    rw [← hzc] at this
    simpa [← hzc] using this
  obtain ⟨us, hus, hc⟩ := fill_is (place := fun i => some (i * te.sz, te.sz)) (places := arrPl n te.sz 0) (by
    intro i off sz ag hx
    rw [arrPl_get] at hx
    split at hx
    · simp only [Option.some.injEq, Prod.mk.injEq] at hx
      obtain ⟨rfl, rfl, _⟩ := hx
      simp
    · cases hx) (gs := gs) (vs := vs.toList) (by simpa using hl) hi hzcell hf
  refine ⟨us, run_build w t vs us ?_, hc⟩
  unfold Program.built
  obtain ⟨ie, ze, hie, hse, _⟩ := hte.info
  simp only [hit, hu, hz, hie, hse]
  exact hus

theorem wanted_none {o : Oper} {y : Nat → Option Bool} (h : o.guard = none) : Region.wanted o y = true := by simp [Region.wanted, h]

theorem wanted_at {all : List Oper} {o oj : Oper} {j d : Nat} {want t : Bool} {a : Act} (hgd : o.guard = some (j, want)) (hj : all[j]? = some oj) (hd : oj.dst = some d) (hv : a.tmps.getD d undef = .bool t) : Region.wanted o (yielded all.toArray a.tmps) = (t == want) := by
  have hd' : a.tmps[d]? = some (.bool t) := by
    rw [Array.getD_eq_getD_getElem?] at hv
    cases h : a.tmps[d]? with
    | none => rw [h] at hv; simp [undef] at hv
    | some v => rw [h] at hv; simp at hv; rw [hv]
  simp [Region.wanted, hgd, yielded, hj, hd, hd']

theorem wanted_not {all : List Oper} {o oj : Oper} {j d : Nat} {want : Bool} {vs : Array Value} {a : Act} (hgd : o.guard = some (j, want)) (hj : all[j]? = some oj) (hd : oj.dst = some d) (hv : a.tmps.getD d undef = .tuple vs) : Region.wanted o (yielded all.toArray a.tmps) = false := by
  simp [Region.wanted, hgd, yielded, hj, hd]
  rw [Array.getD_eq_getD_getElem?] at hv
  cases h : a.tmps[d]? with
  | none => simp
  | some v => rw [h] at hv; simp at hv; simp [hv]

/-- An operation that makes or writes memory, by itself. -/
theorem ownSl_pure {p : Pg} {ρ : Env} {o : Op} (h : isPure o = false) : ownSl p ρ o = false := by
  cases o
  case call c =>
    rcases c with ⟨callee⟩
    cases callee <;> first | rfl | (simp [isPure] at h; done)
  all_goals first | rfl | (simp [isPure] at h; done)

theorem go_mem (hp : cx.pg.Ok) {s : St} {o : Oper} {next : St → Prop} {leaf : Env → Prop} {H : Hid} {a : Act} {w : World} (hg : GlOk cx.pg H) (hs : Sim cx H s w) {ρ : Env} (ha : ActOk cx H ρ a) (hpu : isPure o.op = false) (h : goVC cx false s o next leaf ρ) :
    leaf ρ ∨ ∃ (H' : Hid) (u : Value) (g : GV) (w' : World) (s0 : St), H.le H' ∧ ((execOp a.eval o).run cx.pg.P w = .ok (.value u) w' ∨ (execOp a.eval o).run cx.pg.P w = .ok .skip w' ∧ u = undef) ∧ Is H' g u ∧
      dput cx.N ρ o.dst g (fun ρ' => next { s0 with ρ := ρ' }) ∧ ∀ ρ', Sim cx H' { s0 with ρ := ρ' } w' := by
  obtain ⟨ρs, σ, m⟩ := s
  unfold goVC at h
  rw [ownSl_pure hpu, hpu] at h
  simp only [cond_false, nfL_eq, nfN_eq, nfH_eq] at h
  split at h
  · rename_i t ho
    split at h
    · rename_i ti hti
      obtain ⟨i, z, hi, hsz, _, hz, hzc, hzl⟩ := (hp.tt _ _ hti).info
      have hc : Cells H (ti.zero.map .v) z.cells := by
        have := cells_vs (H := H) ti.zero
        rw [← hzc] at this
        simpa [← hzc] using this
      obtain ⟨h1, h2⟩ := hs.alloc hc t ρs
      refine .inr ⟨H.more w.heap.size undef, _, _, _, { ρ := ρs, σ := (m, .blk t (ti.zero.map .v)) :: σ, n := m + 1 }, H.le_more _ _, .inl ?_, h2, h, fun ρ' => h1.ρ ρ'⟩
      simp [execOp, ho, Instr.alloc, zeroValue, run_tinfo hi, hz, newVar, newRow]
    · exact h.elim
  · rename_i t x ho
    obtain ⟨g, hx, h⟩ := ons_some h
    have his := ev_is hg ha.env hx
    obtain ⟨h1, h2⟩ := hs.alloc (cells_is his) t ρs
    refine .inr ⟨H.more w.heap.size undef, _, _, _, { ρ := ρs, σ := (m, .blk t (cellsOf g)) :: σ, n := m + 1 }, H.le_more _ _, .inl ?_, h2, h, fun ρ' => h1.ρ ρ'⟩
    simp [execOp, ho, Instr.box, newVar, newRow]
  · rename_i t x y ho
    split at h
    · rename_i ti id off g hti hx hy
      obtain ⟨hv, hid⟩ := (ev_is hg ha.env hx).inv_p
      have hyi := ev_is hg ha.env hy
      split at h
      · rename_i ty cs hl
        cases hb1 : allOne (cellsOf g) with
        | false => rw [hb1] at h; exact h.elim
        | true =>
          cases hb2 : Nat.beq (cellsOf g).length ti.sz with
          | false => rw [hb1, hb2] at h; exact h.elim
          | true =>
            cases hb3 : Nat.ble (off + ti.sz) cs.length with
            | false => rw [hb1, hb2, hb3] at h; exact h.elim
            | true =>
              rw [hb1, hb2, hb3] at h
              simp only [Bool.and_self, cond_true] at h
              have e2 := beq_eq hb2
              have e3 := Nat.le_of_ble_eq_true hb3
              have hc := cells_is hyi
              rw [← e2] at h e3
              obtain ⟨w', hr, hs'⟩ := hs.store hl hc e3 hb1 ρs
              refine .inr ⟨H, undef, _, _, { ρ := ρs, n := m, σ := hset σ id (.blk ty (cs.take off ++ cellsOf g ++ cs.drop (off + (cellsOf g).length))) }, Hid.le.refl H, .inr ⟨?_, rfl⟩, .ro (.v undef), h, fun ρ' => hs'.ρ ρ'⟩
              have hsz : (a.eval y).cells.size = ti.sz := by rw [← hc.1, e2]
              simp only [execOp, ho, Instr.storeAt, Instr.sureAddr, hv, Sem.run_bind, Sem.run_pure, Result.andThen_ok, storeVar, (hp.tt _ _ hti).size]
              rw [if_neg (by simp [hsz]), hr]
              rfl
      · exact h.elim
    · rename_i ti id sz i off g hti hx hy
      obtain ⟨b, n, c, hv, hsv, hid⟩ := (ev_is hg ha.env hx).inv_e
      have hyi := ev_is hg ha.env hy
      split at h
      · rename_i ty z rows hl
        cases hb0 : Nat.beq z sz with
        | false => rw [hb0] at h; exact h.elim
        | true =>
          cases hb1 : allOne (cellsOf g) with
          | false => rw [hb0, hb1] at h; exact h.elim
          | true =>
            cases hb4 : idbL 0 (cellsOf g) with
            | false => rw [hb0, hb1, hb4] at h; exact h.elim
            | true =>
              cases hb2 : Nat.beq (cellsOf g).length ti.sz with
              | false => rw [hb0, hb1, hb4, hb2] at h; exact h.elim
              | true =>
                cases hb3 : Nat.ble (off + ti.sz) sz with
                | false => rw [hb0, hb1, hb4, hb2, hb3] at h; exact h.elim
                | true =>
                  rw [hb0, hb1, hb4, hb2, hb3] at h
                  simp only [Bool.and_self, cond_true] at h
                  obtain ⟨row, hrow, h⟩ := h
                  have e0 := beq_eq hb0
                  subst e0
                  have e2 := beq_eq hb2
                  have e3 := Nat.le_of_ble_eq_true hb3
                  have hc := cells_is hyi
                  rw [← e2] at h e3
                  obtain ⟨w', hr, hs'⟩ := hs.storeRow hl hsv hrow hc e3 hb1 hb4 ρs
                  refine .inr ⟨H, undef, _, _, { ρ := ρs, n := m, σ := hset σ id (.row ty z (rows.set i (row.take off ++ cellsOf g ++ row.drop (off + (cellsOf g).length)))) }, Hid.le.refl H, .inr ⟨?_, rfl⟩, .ro (.v undef), h, fun ρ' => hs'.ρ ρ'⟩
                  have hsz : (a.eval y).cells.size = ti.sz := by rw [← hc.1, e2]
                  simp only [execOp, ho, Instr.storeAt, Instr.sureAddr, hv, Sem.run_bind, Sem.run_pure, Result.andThen_ok, storeVar, (hp.tt _ _ hti).size]
                  rw [if_neg (by simp [hsz]), hr]
                  rfl
      · exact h.elim
    · exact h.elim
  · rename_i t len parts ho
    split at h
    · rename_i sz by_ ag z e _q gs hti hx
      obtain ⟨hl, hi⟩ := evp_is hg ha.env hx
      split at h
      · rename_i ti hte
        cases hb1 : seqB ti.sz 0 gs with
        | false => rw [hb1] at h; exact h.elim
        | true =>
          cases hb2 : Nat.beq gs.length len with
          | false => rw [hb1, hb2] at h; exact h.elim
          | true =>
            cases hb3 : Nat.ble (len * ti.sz) 16777216 with
            | false => rw [hb1, hb2, hb3] at h; exact h.elim
            | true =>
              cases hb4 : Nat.blt 0 ti.sz with
              | false => rw [hb1, hb2, hb3, hb4] at h; exact h.elim
              | true =>
                rw [hb1, hb2, hb3, hb4] at h
                simp only [Bool.and_self, cond_true] at h
                have e2 := beq_eq hb2
                have e3 := Nat.le_of_ble_eq_true hb3
                have e4 : 0 < ti.sz := by rw [Nat.blt_eq] at hb4; exact hb4
                obtain ⟨us, hr, hrow⟩ := run_buildSlice_of (w := w) (hp.tt _ _ hti).d (hp.tt _ _ hte) (vs := parts.map fun x => (x.1, a.eval x.2)) (by simpa using hl) (by simpa using hi) hb1 e2 e3 e4
                have hlen : (gs.map fun x => cellsOf x.2).length = len := by simp [e2]
                have hsz : len ≤ maxLen := by
                  have : len ≤ len * ti.sz := Nat.le_mul_of_pos_right _ e4
                  simp only [maxLen]; omega
                obtain ⟨h1, h2⟩ := hs.newRow (ty := e) hrow (by rw [hlen]; exact hsz) ρs
                rw [hlen] at h1 h2
                refine .inr ⟨_, _, _, _, { ρ := ρs, σ := (m, .row e ti.sz (gs.map fun x => cellsOf x.2)) :: σ, n := m + 1 }, H.le_more _ _, .inl ?_, h2, h, fun ρ' => h1.ρ ρ'⟩
                simp only [execOp, ho, Sem.run_bind, hr, Result.andThen_ok]
                rfl
      · exact h.elim
    · exact h.elim
  · rename_i args ts ho
    split at h
    · rename_i sz by_ ag z e _q gd gx hti hx
      obtain ⟨x, y, hxy, hi, hj⟩ := evs_two hg ha.env hx
      obtain ⟨t, ht, hok⟩ : ∃ t, ts = #[t, t] ∧ TyOk cx.pg.P t ⟨sz, by_, ag, z, .slice e, _q⟩ := by
        obtain ⟨l⟩ := ts
        match l, hti with
        | [t, t'], hti =>
          simp only at hti
          cases hb : Nat.beq t t' with
          | false => rw [hb] at hti; cases hti
          | true =>
            rw [hb] at hti
            have := beq_eq hb
            subst this
            exact ⟨t, rfl, hp.tt _ _ hti⟩
      split at h
      · rename_i ti hte
        cases hb1 : Nat.blt 0 ti.sz with
        | false => rw [hb1] at h; exact h.elim
        | true =>
          cases hb2 : Nat.blt 0 ti.by_ with
          | false => rw [hb1, hb2] at h; exact h.elim
          | true =>
            rw [hb1, hb2] at h
            simp only [Bool.and_self, cond_true] at h
            split at h
            · rename_i rows σ' news hdr hxr
              obtain ⟨H', u, w', hle, hr, hiu, hsim⟩ := hs.append hok.d (hp.tt _ _ hte) (by rw [Nat.blt_eq] at hb1; exact hb1) (by rw [Nat.blt_eq] at hb2; exact hb2) hi hj hdr hxr h.1 ρs
              refine .inr ⟨H', u, _, w', { ρ := ρs, σ := (m, .row e ti.sz (rows ++ news)) :: σ', n := m + 1 }, hle, .inl ?_, hiu, h.2, fun ρ' => hsim.ρ ρ'⟩
              obtain ⟨q, hq⟩ := run_builtin (p := cx.pg) (a := a) rfl o ho w
              rw [hq]
              subst hxy
              subst ht
              have e1 : (Builtin.append_ #[t, t] o.type #[a.eval x, a.eval y]).run cx.pg.P w = .ok u w' := hr
              simp [builtin, e1]
            · exact h.elim
      · exact h.elim
    · exact h.elim
  · rename_i t parts ho
    split at h
    · rename_i sz by_ ag z fs _q gs hti hx
      obtain ⟨hl, hi⟩ := evp_is hg ha.env hx
      split at h
      · rename_i cs hf
        obtain ⟨us, hr, hc⟩ := run_build_of (hp.tt _ _ hti) rfl (vs := parts.map fun x => (x.1, a.eval x.2)) (by simpa using hl) (by simpa using hi) hf w
        refine .inr ⟨H, _, _, w, ⟨ρs, σ, m⟩, Hid.le.refl H, .inl ?_, .agg hc.1 hc.2, h, fun ρ' => hs.ρ ρ'⟩
        simp only [execOp, ho, Sem.run_bind, hr, Result.andThen_ok]
        rfl
      · exact h.elim
    · rename_i sz by_ ag z len e _q gs hti hx
      obtain ⟨hl, hi⟩ := evp_is hg ha.env hx
      split at h
      · rename_i te hte
        split at h
        · rename_i cs hf
          obtain ⟨us, hr, hc⟩ := run_buildA_of (hp.tt _ _ hti) rfl (hp.tt _ _ hte) (vs := parts.map fun x => (x.1, a.eval x.2)) (by simpa using hl) (by simpa using hi) hf w
          refine .inr ⟨H, _, _, w, ⟨ρs, σ, m⟩, Hid.le.refl H, .inl ?_, .agg hc.1 hc.2, h, fun ρ' => hs.ρ ρ'⟩
          simp only [execOp, ho, Sem.run_bind, hr, Result.andThen_ok]
          rfl
        · exact h.elim
      · exact h.elim
    · exact h.elim
  · rename_i t ho
    split at h
    · rename_i kt et _q hti
      split at h
      · rename_i kti hkt
        split at h
        · rename_i kd hkd
          obtain ⟨h1, h2⟩ := hs.newMap kd ρs
          refine .inr ⟨_, _, _, _, { ρ := ρs, σ := (m, .mp kd []) :: σ, n := m + 1 }, H.le_more _ _, .inl ?_, h2, h, fun ρ' => h1.ρ ρ'⟩
          simp only [execOp, ho, Sem.run_bind]
          rfl
        · exact h.elim
      · exact h.elim
    · exact h.elim
  · rename_i t x k v ho
    split at h
    · rename_i kt et _q hti
      split at h
      · rename_i kti hkt
        split at h
        · rename_i kd id kv g hkd hx hk hv
          cases hsb : sortB kd kv with
          | false => rw [hsb] at h; exact h.elim
          | true =>
          rw [hsb] at h
          simp only [cond_true] at h
          have hu := (hp.tt _ _ hti).d
          have hku := kdOf_spec (hp.tt _ _ hkt) hkd
          obtain ⟨hxv, hid⟩ := (ev_is hg ha.env hx).inv_o
          have hkv := (ev_is hg ha.env hk).inv_v
          have hvi := ev_is hg ha.env hv
          split at h
          · rename_i kd' es hl
            cases hkk : kdEq kd kd' with
            | false => rw [hkk] at h; exact h.elim
            | true =>
              rw [hkk] at h
              have := kdEq_eq hkk
              subst this
              obtain ⟨w', hr, hs'⟩ := hs.mapPut hl hsb hvi hu hku ρs
              refine .inr ⟨H, undef, _, w', { ρ := ρs, n := m, σ := hset σ id (.mp kd (mput kv g es)) }, Hid.le.refl H, .inr ⟨?_, rfl⟩, .ro (.v undef), h, fun ρ' => hs'.ρ ρ'⟩
              simp only [execOp, ho, hxv, hkv, Sem.run_bind, hr]
              rfl
          · rename_i q hl
            split at h
            · rename_i kd' es left cur hl2
              cases hkk : kdEq kd kd' with
              | false => rw [hkk] at h; exact h.elim
              | true =>
                rw [hkk] at h
                have := kdEq_eq hkk
                subst this
                obtain ⟨_, he, _⟩ := hs.sat.holds _ (hlook_mem hl)
                obtain ⟨w', hr, hs'⟩ := hs.mapPutR hl2 hsb hvi h.1 hu hku ρs
                refine .inr ⟨H, undef, _, w', { ρ := ρs, n := m, σ := hset σ q (.mr kd (mput kv g es) left cur) }, Hid.le.refl H, .inr ⟨?_, rfl⟩, .ro (.v undef), h.2, fun ρ' => hs'.ρ ρ'⟩
                rw [← he] at hr
                simp only [execOp, ho, hxv, hkv, Sem.run_bind, hr]
                rfl
            · exact h.elim
          · exact h.elim
        · exact h.elim
      · exact h.elim
    · exact h.elim
  · rename_i args ts ho
    split at h
    · rename_i kt et _q id kv hti hx
      obtain ⟨x, y, hxy, hi, hj⟩ := evs_two hg ha.env hx
      obtain ⟨t, ht, hok⟩ : ∃ t, ts[0]? = some t ∧ TyOk cx.pg.P t _ := by
        obtain ⟨l⟩ := ts
        match l, hti with
        | t :: _, hti => exact ⟨t, rfl, hp.tt _ _ hti⟩
      split at h
      · rename_i kti hkt
        split at h
        · rename_i kd hkd
          cases hsb : sortB kd kv with
          | false => rw [hsb] at h; exact h.elim
          | true =>
          rw [hsb] at h
          simp only [cond_true] at h
          have hu := hok.d
          have hku := kdOf_spec (hp.tt _ _ hkt) hkd
          obtain ⟨hxv, hid⟩ := hi.inv_o
          have hkv := hj.inv_v
          have fin : ∀ {w' : World}, (Builtin.delete_ ts o.type #[H.sv id, kv]).run cx.pg.P w = .ok (.tuple #[]) w' → (execOp a.eval o).run cx.pg.P w = .ok (.value (.tuple #[])) w' := fun hr => by
            obtain ⟨q, hq⟩ := run_builtin (p := cx.pg) (a := a) rfl o ho w
            rw [hq]
            subst hxy
            simp only [builtin, List.map_toArray, List.map_cons, List.map_nil, hxv, hkv, Sem.run_bind, hr]
            rfl
          split at h
          · rename_i kd' es hl
            cases hkk : kdEq kd kd' with
            | false => rw [hkk] at h; exact h.elim
            | true =>
              rw [hkk] at h
              have := kdEq_eq hkk
              subst this
              obtain ⟨w', hr, hs'⟩ := hs.mapDel (ty := o.type) hl hsb ht hu hku ρs
              exact .inr ⟨H, _, _, w', { ρ := ρs, n := m, σ := hset σ id (.mp kd (mdel kv es)) }, Hid.le.refl H, .inl (fin hr), .ro (.v _), h, fun ρ' => hs'.ρ ρ'⟩
          · rename_i q hl
            split at h
            · rename_i kd' es left cur hl2
              cases hkk : kdEq kd kd' with
              | false => rw [hkk] at h; exact h.elim
              | true =>
                rw [hkk] at h
                have := kdEq_eq hkk
                subst this
                obtain ⟨_, he, _⟩ := hs.sat.holds _ (hlook_mem hl)
                obtain ⟨w', hr, hs'⟩ := hs.mapDelR (ty := o.type) hl2 hsb ht hu hku ρs
                exact .inr ⟨H, _, _, w', { ρ := ρs, n := m, σ := hset σ q (.mr kd (mdel kv es) (kdel kv left) cur) }, Hid.le.refl H, .inl (fin (by rw [he]; exact hr)), .ro (.v _), h, fun ρ' => hs'.ρ ρ'⟩
            · exact h.elim
          · exact h.elim
        · exact h.elim
      · exact h.elim
    · exact h.elim
  · rename_i t x ho
    split at h
    · rename_i kt et _q hti
      have hu := (hp.tt _ _ hti).d
      split at h
      · rename_i id hx
        obtain ⟨hxv, hid⟩ := (ev_is hg ha.env hx).inv_o
        split at h
        · rename_i kd es hl
          obtain ⟨H', w', hle, hr, hi, hs'⟩ := hs.mapRange hl hu ρs
          refine .inr ⟨H', _, _, w', { ρ := ρs, σ := (m, .mr kd es (es.map (·.1)) none) :: hset σ id (.itr m), n := m + 1 }, hle, .inl ?_, hi, h, fun ρ' => hs'.ρ ρ'⟩
          simp only [execOp, ho, hxv, Sem.run_bind, hr]
          rfl
        · exact h.elim
      · rename_i hx
        have hxv := (ev_is hg ha.env hx).inv_v
        obtain ⟨h1, h2⟩ := hs.allocObj (.mapIter none 0 #[] 0) ρs
        refine .inr ⟨_, _, _, _, { ρ := ρs, σ := (m, .ob (.mapIter none 0 #[] 0)) :: σ, n := m + 1 }, H.le_more _ _, .inl ?_, h2, h, fun ρ' => h1.ρ ρ'⟩
        simp only [execOp, ho, hxv, Sem.run_bind, run_range_nil hu]
        rfl
      · exact h.elim
    · exact h.elim
  · rename_i x ho
    split at h
    · rename_i it hx
      obtain ⟨hxv, hid⟩ := (ev_is hg ha.env hx).inv_p
      have hfalse : Is H (.tup [.v (.bool false)]) (.tuple #[.bool false]) := .tup rfl (fun j g hj => by
        match j with
        | 0 => simp at hj; subst hj; exact .ro (.v _)
        | j + 1 => simp at hj)
      split at h
      · rename_i since seen last hl
        have hw := hs.sat.holds _ (hlook_mem hl)
        refine .inr ⟨H, _, _, w, ⟨ρs, σ, m⟩, Hid.le.refl H, .inl ?_, hfalse, h, fun ρ' => hs.ρ ρ'⟩
        simp only [execOp, ho, hxv, Sem.run_bind, run_next_nil hw]
        rfl
      · rename_i kd es left cur hl
        rcases hs.mapNext hl cx.pg.P o.type ρs with ⟨h0, hr⟩ | ⟨l1, k, l2, g, v, w', h0, hf, hi, hr, hs'⟩
        · refine .inr ⟨H, _, _, w, ⟨ρs, σ, m⟩, Hid.le.refl H, .inl ?_, hfalse, h.1 h0, fun ρ' => hs.ρ ρ'⟩
          simp only [execOp, ho, hxv, Sem.run_bind, hr]
          rfl
        · refine .inr ⟨H, .tuple #[.bool true, k, v], _, w', { ρ := ρs, n := m, σ := hset σ it (.mr kd es (l1 ++ l2) (some k)) }, Hid.le.refl H, .inl ?_, .tup rfl (fun j g' hj => ?_), h.2 l1 k l2 g h0 hf, fun ρ' => hs'.ρ ρ'⟩
          · simp only [execOp, ho, hxv, Sem.run_bind, hr]
            rfl
          · match j with
            | 0 => simp at hj; subst hj; exact .ro (.v _)
            | 1 => simp at hj; subst hj; exact .ro (.v _)
            | 2 => simp at hj; subst hj; exact hi
            | j + 3 => simp at hj
      · exact h.elim
    · exact h.elim
  · exact .inl h

theorem go_sound (hp : cx.pg.Ok) {q : Bool} {all : List Oper} {o : Oper} {rest : List Oper} {k : List It} {s : St} {next : St → Prop} {leaf : Env → Prop} (hnext : ∀ s', next s' → JK cx T (.ops q all rest :: k) s') (hleaf : ∀ ρ, leaf ρ → JK cx T (.ops q all (o :: rest) :: k) { s with ρ := ρ })
    {H : Hid} {a : Act} {w : World} (hg : GlOk cx.pg H) (hs : Sim cx H s w) {ρ : Env} (ha : ActOk cx H ρ a) (hw : Region.wanted o (yielded all.toArray a.tmps) = true) (h : goVC cx q s o next leaf ρ) :
    cont cx.pg.P (post cx T) (.ops q all (o :: rest) :: k) .normal a w := by
  obtain ⟨ρs, σ, m⟩ := s
  unfold goVC at h
  cases hos : ownSl cx.pg ρ o.op with
  | true =>
    rw [hos] at h
    exact hleaf ρ h H a w hg (hs.ρ ρ) ha
  | false =>
  rw [hos] at h
  simp only [cond_false] at h
  cases hpu : isPure o.op with
  | true =>
    rw [hpu] at h
    obtain ⟨u, g, hr, hi, hk⟩ := pv_sound hp hg ha.env hs.sat h
    obtain ⟨ρ', ha', hn⟩ := ha.dput hi hk
    have := hnext _ hn H (a.put o.dst u) w hg (hs.ρ ρ') ha'
    cases q with
    | false => exact wpList_run hw (hr w (Agr.refl hs.sat) o rfl) this
    | true => exact wpQuiet_run hw (fun w' hb => hr w' (Agr.below hs.sat hb) o rfl) this
  | false =>
    rw [hpu] at h
    cases q with
    | true => exact hleaf ρ h H a w hg (hs.ρ ρ) ha
    | false =>
      rcases go_mem hp hg hs ha hpu (by unfold goVC; rw [hos, hpu]; exact h) with hl | ⟨H', u, g, w', s0, hle, hr, hi, hd, hsim⟩
      · exact hleaf ρ hl H a w hg (hs.ρ ρ) ha
      · exact JK.step_mem (s' := s0) (hg.mono hle) (ha.mono hle) hw hr hi hd (fun ρ' hk => ⟨hsim ρ', hnext _ hk⟩)

theorem vc_sound (hp : cx.pg.Ok) : ∀ (n : Nat) (k : List It) (s : St), vc cx T n k s → JK cx T k s
  | 0, k, s, h => by simpa [vc] using h
  | n + 1, [], s, h => fun H a w _ hs ha => ⟨H, s, hs, ha, by simpa [vc] using h⟩
  | n + 1, .blk _ :: k, s, h => fun H a w hg hs ha => by
    simp only [vc] at h
    exact vc_sound hp n k s h H a w hg hs ha
  | n + 1, .ops q all [] :: k, s, h => fun H a w hg hs ha => by
    simp only [vc] at h
    cases q with
    | false => exact vc_sound hp n k s h H a w hg hs ha
    | true => exact fun w' hb => vc_sound hp n k s h H a w' hg (hs.below hb) ha
  | n + 1, .code c :: k, s, h => by
    cases c <;> simp only [vc] at h <;> (try exact h)
    case skip => exact fun H a w hg hs ha => wp_skip (vc_sound hp n k s h H a w hg hs ha)
    case seq x y =>
      exact fun H a w hg hs ha => wp_seq (Code.wp_mono (fun e a w hq => by rw [cont_code] at hq; exact hq) (vc_sound hp n _ s h H a w hg hs ha))
    case region i ops dr =>
      cases dr with
      | false =>
        simp only at h
        exact fun H a w hg hs ha => wp_region_list (by simpa [cont] using vc_sound hp n _ s h H a w hg hs ha)
      | true =>
        simp only at h
        cases hpu : allPure ops.toList with
        | false => rw [hpu] at h; exact h
        | true =>
          rw [hpu] at h
          obtain ⟨hB, hv⟩ := h
          intro H a w hg hs ha
          have := vc_sound hp n _ s hv H a w.drew hg (hs.below (below_drew w)) ha
          refine wp_region_quiet (C := fun w' => Below w.drew.heap.size w.drew w') hp.mixed hB (Below.refl _ _) ?_
          simpa [cont] using this
    case cond c x y =>
      split at h
      · rename_i t hc
        intro H a w hg hs ha
        have hcv := (ev_is hg ha.env hc).inv_v
        cases t with
        | true => exact wp_cond_true hcv (vc_sound hp n _ s h H a w hg hs ha)
        | false => exact wp_cond_false hcv (vc_sound hp n _ s h H a w hg hs ha)
      · rename_i t hc
        intro H a w hg hs ha
        have hcv := (ev_is hg ha.env hc).inv_b
        cases t with
        | true => exact wp_cond_true hcv (vc_sound hp n _ s (h.1 rfl) H a w hg hs ha)
        | false => exact wp_cond_false hcv (vc_sound hp n _ s (h.2 rfl) H a w hg hs ha)
      · exact h.elim
    case block id c =>
      exact fun H a w hg hs ha => wp_block (Code.wp_mono (fun e a w hq => by rw [cont_blk] at hq; exact hq) (vc_sound hp n _ s h H a w hg hs ha))
    case exit id =>
      intro H a w hg hs ha
      refine wp_exit ?_
      show cont cx.pg.P (post cx T) k (.exit id) a w
      rw [cont_exit]
      cases hx : exitTo id k with
      | none => rw [hx] at h; exact ⟨H, s, hs, ha, h⟩
      | some k' => rw [hx] at h; exact vc_sound hp n k' s h H a w hg hs ha
    case ret =>
      intro H a w hg hs ha
      refine wp_ret ?_
      show cont cx.pg.P (post cx T) k .ret a w
      rw [cont_ret]
      exact ⟨H, s, hs, ha, h⟩
  | n + 1, .ops q all (o :: rest) :: k, s, h => by
    intro H a w hg hs ha
    obtain ⟨ρs, σ, m⟩ := s
    simp only [vc] at h
    have hnext : ∀ s', vc cx T n (.ops q all rest :: k) s' → JK cx T (.ops q all rest :: k) s' := fun s' h' => vc_sound hp n _ s' h'
    have hskip : ∀ ρ, ActOk cx H ρ a → Region.wanted o (yielded all.toArray a.tmps) = false → (dput cx.N ρ o.dst (.v undef) fun ρ' => vc cx T n (.ops q all rest :: k) ⟨ρ', σ, m⟩) → cont cx.pg.P (post cx T) (.ops q all (o :: rest) :: k) .normal a w := by
      intro ρ ha' hw hd
      obtain ⟨ρ', ha'', hk⟩ := ha'.dput (u := undef) (.ro (.v undef)) hd
      have := hnext _ hk H _ w hg (hs.ρ ρ') ha''
      cases q with
      | false => exact wpList_pass hw this
      | true => exact wpQuiet_pass hw this
    have hgo : ∀ ρ, ActOk cx H ρ a → Region.wanted o (yielded all.toArray a.tmps) = true → goVC cx q ⟨ρs, σ, m⟩ o (fun s' => vc cx T n (.ops q all rest :: k) s') (fun ρ => JK cx T (.ops q all (o :: rest) :: k) ⟨ρ, σ, m⟩) ρ → cont cx.pg.P (post cx T) (.ops q all (o :: rest) :: k) .normal a w :=
      fun ρ ha' hw hd => go_sound hp hnext (fun _ hl => hl) hg hs ha' hw hd
    unfold guardVC at h
    split at h
    · rename_i hgd
      exact hgo ρs ha (wanted_none hgd) h
    · rename_i j want hgd
      split at h
      · rename_i oj hj
        split at h
        · rename_i d hd
          split at h
          · rename_i t hl
            have hv := (ha.env d _ hl).inv_v
            have hw := wanted_at hgd hj hd hv
            cases hb : (t == want) with
            | true => rw [hb] at h hw; exact hgo ρs ha hw h
            | false => rw [hb] at h hw; exact hskip ρs ha hw h
          · rename_i t hl
            have hv := (ha.env d _ hl).inv_b
            have hw := wanted_at hgd hj hd hv
            have hput : ∀ c, t = c → ActOk cx H ((d, .v (.bool c)) :: ρs) a := by
              intro c hc
              refine ⟨fun x g hx => ?_, ha.size, ha.defers⟩
              unfold look at hx
              cases hb : Nat.beq d x with
              | true =>
                rw [hb] at hx
                simp at hx
                subst hx
                rw [← beq_eq hb, hv, hc]
                exact .ro (.v _)
              | false => rw [hb] at hx; exact ha.env x g (by simpa using hx)
            by_cases e : t = want
            · rw [e] at hw
              exact hgo _ (hput want e) (by simpa using hw) (h.1 e)
            · have e' : t = !want := by cases t <;> cases want <;> simp_all
              rw [e'] at hw
              exact hskip _ (hput _ e') (by simpa using hw) (h.2 e')
          · rename_i vs hl
            exact hskip ρs ha (wanted_not hgd hj hd (ha.env d _ hl).inv_v) h
          · exact h.elim
        · exact h.elim
      · exact h.elim
end
end Go.GK
