/-
  The ghost machine is sound.
-/
import Derived.Test.YtkoalgjlkcaonaaGreatDoorK03
import Derived.Deep.LoopGhost
set_option linter.unusedSimpArgs false
namespace Go.GK
open Go.RowKit

section
variable {P : Program} {Q : Exit → Act → World → Prop}

theorem cont_ret : ∀ (k : List It) (a : Act) (w : World), cont P Q k .ret a w = Q .ret a w
  | [], _, _ => rfl
  | .code _ :: k, a, w => cont_ret k a w
  | .blk _ :: k, a, w => cont_ret k a w
  | .ops false _ _ :: k, a, w => cont_ret k a w
  | .ops true _ _ :: k, a, w => cont_ret k a w

theorem cont_panic {ch : List PanicEntry} : ∀ (k : List It) (a : Act) (w : World), cont P Q k (.panic ch) a w = Q (.panic ch) a w
  | [], _, _ => rfl
  | .code _ :: k, a, w => cont_panic k a w
  | .blk _ :: k, a, w => cont_panic k a w
  | .ops false _ _ :: k, a, w => cont_panic k a w
  | .ops true _ _ :: k, a, w => cont_panic k a w

theorem cont_exit {id : Nat} : ∀ (k : List It) (a : Act) (w : World), cont P Q k (.exit id) a w = match exitTo id k with | some k' => cont P Q k' .normal a w | none => Q (.exit id) a w
  | [], _, _ => rfl
  | .code _ :: k, a, w => cont_exit k a w
  | .blk j :: k, a, w => by
    unfold exitTo
    simp only [cont]
    cases hb : Nat.beq id j with
    | true => rw [if_pos (beq_eq hb)]; rfl
    | false => rw [if_neg (beq_ne hb)]; exact cont_exit k a w
  | .ops false _ _ :: k, a, w => cont_exit k a w
  | .ops true _ _ :: k, a, w => cont_exit k a w

theorem cont_code {c : Code} {k : List It} : ∀ (e : Exit) (a : Act) (w : World), cont P Q (.code c :: k) e a w = Exit.then (c.wp P (cont P Q k)) (cont P Q k) e a w
  | .normal, _, _ => rfl
  | .exit _, _, _ => rfl
  | .goto _, _, _ => rfl
  | .ret, _, _ => rfl
  | .panic _, _, _ => rfl
  | .outgrown, _, _ => rfl

theorem cont_blk {id : Nat} {k : List It} : ∀ (e : Exit) (a : Act) (w : World), cont P Q (.blk id :: k) e a w = Exit.inBlock id (cont P Q k) e a w
  | .normal, _, _ => rfl
  | .exit _, _, _ => rfl
  | .goto _, _, _ => rfl
  | .ret, _, _ => rfl
  | .panic _, _, _ => rfl
  | .outgrown, _, _ => rfl

theorem wpList_run {ops : Array Oper} {o : Oper} {rest : List Oper} {a : Act} {w w' : World} {u : Value} (hw : Region.wanted o (yielded ops a.tmps) = true) (hr : (execOp a.eval o).run P w = .ok (.value u) w') (h : wpList P ops Q rest (a.put o.dst u) w') : wpList P ops Q (o :: rest) a w := by
  unfold wpList
  rw [if_pos hw]
  refine .inl ?_
  unfold Oper.wp
  rw [hr]
  exact h

theorem wpList_skipped {ops : Array Oper} {o : Oper} {rest : List Oper} {a : Act} {w w' : World} (hw : Region.wanted o (yielded ops a.tmps) = true) (hr : (execOp a.eval o).run P w = .ok .skip w') (h : wpList P ops Q rest (a.put o.dst undef) w') : wpList P ops Q (o :: rest) a w := by
  unfold wpList
  rw [if_pos hw]
  refine .inl ?_
  unfold Oper.wp
  rw [hr]
  exact h

theorem wpList_pass {ops : Array Oper} {o : Oper} {rest : List Oper} {a : Act} {w : World} (hw : Region.wanted o (yielded ops a.tmps) = false) (h : wpList P ops Q rest (a.put o.dst undef) w) : wpList P ops Q (o :: rest) a w := by
  unfold wpList
  rw [if_neg (by simp [hw])]
  exact h

theorem wpQuiet_run {ops : Array Oper} {C : World → Prop} {R : Act → Prop} {o : Oper} {rest : List Oper} {a : Act} {u : Value} (hw : Region.wanted o (yielded ops a.tmps) = true) (hr : ∀ w, C w → (execOp a.eval o).run P w = .ok (.value u) w) (h : wpQuiet P ops C R rest (a.put o.dst u)) : wpQuiet P ops C R (o :: rest) a := by
  unfold wpQuiet
  rw [if_pos hw]
  refine ⟨u, fun w hC => ?_, h⟩
  unfold Oper.quietAt
  rw [hr w hC]
  exact ⟨rfl, rfl⟩

theorem wpQuiet_pass {ops : Array Oper} {C : World → Prop} {R : Act → Prop} {o : Oper} {rest : List Oper} {a : Act} (hw : Region.wanted o (yielded ops a.tmps) = false) (h : wpQuiet P ops C R rest (a.put o.dst undef)) : wpQuiet P ops C R (o :: rest) a := by
  unfold wpQuiet
  rw [if_neg (by simp [hw])]
  exact h
end

section
variable {cx : Cx} {T : Post}

theorem JK.step_mem {all : List Oper} {o : Oper} {rest : List Oper} {k : List It} {H' : Hid} {a : Act} {w w' : World} {s' : St} {u : Value} {g : GV} {ρ : Env} {K : Env → Prop}
    (hg : GlOk cx.pg H') (ha : ActOk cx H' ρ a) (hw : Region.wanted o (yielded all.toArray a.tmps) = true) (hr : (execOp a.eval o).run cx.pg.P w = .ok (.value u) w' ∨ (execOp a.eval o).run cx.pg.P w = .ok .skip w' ∧ u = undef) (hi : Is H' g u) (hd : dput cx.N ρ o.dst g K)
    (hs : ∀ ρ', K ρ' → Sim cx H' { s' with ρ := ρ' } w' ∧ JK cx T (.ops false all rest :: k) { s' with ρ := ρ' }) :
    cont cx.pg.P (post cx T) (.ops false all (o :: rest) :: k) .normal a w := by
  obtain ⟨ρ', ha', hk⟩ := ha.dput hi hd
  obtain ⟨hs', hJ⟩ := hs ρ' hk
  have := hJ H' (a.put o.dst u) w' hg hs' ha'
  rcases hr with hr | ⟨hr, rfl⟩
  · exact wpList_run hw hr this
  · exact wpList_skipped hw hr this

theorem GlOk.re {p : Pg} {H H' : Hid} (h : GlOk p H) (e : H'.ro = H.ro := by rfl) : GlOk p H' := ⟨fun g gv hl => by rw [e]; exact h.gl g gv hl, fun g cs hl => by rw [e]; exact h.ex g cs hl⟩
theorem GlOk.up {p : Pg} {H H' : Hid} (h : GlOk p H) (hro : ∀ b o, H.ro b = some o → H'.ro b = some o) : GlOk p H' := ⟨fun g gv hgv => (h g gv hgv).mono hro, fun g cs hg => by
  obtain ⟨c, ty, fz, e, hs⟩ := h.ex g cs hg
  exact ⟨c, ty, fz, hro _ _ e, hs⟩⟩
theorem GlOk.mono {p : Pg} {H H' : Hid} (h : GlOk p H) (hl : H.le H') : GlOk p H' := ⟨fun g gv hgv => (h g gv hgv).mono hl.ro, fun g cs hg => by
  obtain ⟨c, ty, fz, e, hs⟩ := h.ex g cs hg
  exact ⟨c, ty, fz, hl.ro _ _ e, hs⟩⟩

theorem cells_vs {H : Hid} (l : List Value) : Cells H (l.map .v) l.toArray := by
  refine ⟨by simp, fun j g hj => ?_⟩
  simp only [List.getElem?_map, Option.map_eq_some_iff] at hj
  obtain ⟨v, hv, rfl⟩ := hj
  have : l.toArray.getD j undef = v := by simp [hv]
  rw [this]
  exact .ro (.v v)

theorem evp_is {p : Pg} {H : Hid} (hg : GlOk p H) {ρ : Env} {a : Act} (h : EnvOk H ρ a) : ∀ {xs : List (Nat × Operand)} {gs : List (Nat × GV)}, evp p ρ xs = some gs → gs.length = xs.length ∧ ∀ (j i : Nat) (g : GV), gs[j]? = some (i, g) → ∃ v, (xs.map fun x => (x.1, a.eval x.2))[j]? = some (i, v) ∧ Is H g v
  | [], gs, he => by simp only [evp, Option.some.injEq] at he; subst he; simp
  | (i0, x) :: r, gs, he => by
    unfold evp at he
    split at he
    · rename_i g gs' h1 h2
      simp only [Option.some.injEq] at he
      subst he
      obtain ⟨hl, hi⟩ := evp_is hg h h2
      refine ⟨by simp [hl], fun j i g' hj => ?_⟩
      cases j with
      | zero => simp at hj; obtain ⟨rfl, rfl⟩ := hj; exact ⟨a.eval x, rfl, ev_is hg h h1⟩
      | succ j => obtain ⟨v, hv, hi'⟩ := hi j i g' (by simpa using hj); exact ⟨v, by simpa using hv, hi'⟩
    · cases he

theorem run_build_of {p : Pg} {H : Hid} {t : Nat} {ti : TI} (hti : TyOk p.P t ti) {fs : List (Nat × Nat × Bool)} (hd : ti.d = .struct fs) {gs : List (Nat × GV)} {vs : Array (Nat × Value)} {cs : List GV} (hl : gs.length = vs.size)
    (hi : ∀ (j : Nat) i g, gs[j]? = some (i, g) → ∃ v, vs.toList[j]? = some (i, v) ∧ Is H g v) (hf : gfill fs gs (ti.zero.map .v) = some cs) (w : World) : ∃ us, (Instr.build t vs).run p.P w = .ok (.agg us) w ∧ Cells H cs us := by
  have hd' := hti.d
  rw [hd] at hd'
  obtain ⟨fields, hu, hfs, hin⟩ := hd'
  obtain ⟨it, z, hit, hsz, _, hz, hzc, hzl⟩ := hti.info
  have hzcell : Cells H (ti.zero.map .v) z.cells := by
    have := cells_vs (H := H) ti.zero
    rw [← hzc] at this
    simpa [← hzc] using this
  have hplaces : ∃ places, fields.toList.mapM (fun f => (p.P.info? f.type).map fun i => (f.offset, i.size)) = some places ∧ ∀ (i off sz : Nat) (ag : Bool), fs[i]? = some (off, sz, ag) → places[i]? = some (off, sz) := by
    have key : ∀ (l : List Field), (∀ f ∈ l, (p.P.info? f.type).isSome = true ∧ (p.P.underlying f.type).isSome = true) → l.mapM (fun f => (p.P.info? f.type).map fun i => (f.offset, i.size)) = some (l.map fun f => (f.offset, p.P.cellsOf f.type)) := by
      intro l
      induction l with
      | nil => intro _; rfl
      | cons f l ih =>
        intro h
        obtain ⟨i, hi⟩ := Option.isSome_iff_exists.1 (h f List.mem_cons_self).1
        have := ih (fun g hg => h g (List.mem_cons_of_mem _ hg))
        simp [List.mapM_cons, hi, this, Program.cellsOf]
    refine ⟨_, key _ hin, fun i off sz ag hfi => ?_⟩
    have := hfs i
    rw [hfi] at this
    simp only [List.getElem?_map]
    rw [Array.getElem?_toList]
    cases hff : fields[i]? with
    | none => rw [hff] at this; cases this
    | some f =>
      rw [hff] at this
      simp only [Option.map_some, Option.some.injEq, Prod.mk.injEq] at this ⊢
      exact ⟨this.1.symm, this.2.1.symm⟩
  obtain ⟨places, hpl, hpp⟩ := hplaces
  obtain ⟨us, hus, hc⟩ := fill_is (place := (places.toArray[·]?)) (places := fs) (by simpa using hpp) (gs := gs) (vs := vs.toList) (by simpa using hl) hi hzcell hf
  refine ⟨us, run_build w t vs us ?_, hc⟩
  unfold Program.built
  simp only [hit, hu, hz, hpl]
  exact hus

theorem arrPl_get : ∀ (n sz off i : Nat), (arrPl n sz off)[i]? = if i < n then some (off + i * sz, sz, false) else none
  | 0, sz, off, i => by simp [arrPl]
  | n + 1, sz, off, 0 => by simp [arrPl]
  | n + 1, sz, off, i + 1 => by
    simp only [arrPl, List.getElem?_cons_succ, arrPl_get n sz (off + sz) i, Nat.succ_lt_succ_iff, Nat.add_mul, Nat.one_mul]
    split
    · congr 2; omega
    · rfl

theorem run_buildA_of {p : Pg} {H : Hid} {t e n : Nat} {ti te : TI} (hti : TyOk p.P t ti) (hd : ti.d = .array n e) (hte : TyOk p.P e te) {gs : List (Nat × GV)} {vs : Array (Nat × Value)} {cs : List GV} (hl : gs.length = vs.size)
    (hi : ∀ (j : Nat) i g, gs[j]? = some (i, g) → ∃ v, vs.toList[j]? = some (i, v) ∧ Is H g v) (hf : gfill (arrPl n te.sz 0) gs (ti.zero.map .v) = some cs) (w : World) : ∃ us, (Instr.build t vs).run p.P w = .ok (.agg us) w ∧ Cells H cs us := by
  have hu := hti.d
  rw [hd] at hu
  obtain ⟨it, z, hit, hsz, _, hz, hzc, hzl⟩ := hti.info
  have hzcell : Cells H (ti.zero.map .v) z.cells := by
    have := cells_vs (H := H) ti.zero
    rw [← hzc] at this
    simpa [← hzc] using this
  obtain ⟨us, hus, hc⟩ := fill_is (place := fun i => some (i * te.sz, te.sz)) (places := arrPl n te.sz 0) (by
    intro i off sz ag hx
    rw [arrPl_get] at hx
    split at hx
    · simp only [Option.some.injEq, Prod.mk.injEq] at hx
      obtain ⟨rfl, rfl, _⟩ := hx
      simp
    · cases hx) (gs := gs) (vs := vs.toList) (by simpa using hl) hi hzcell hf
  refine ⟨us, run_build w t vs us ?_, hc⟩
  unfold Program.built
  obtain ⟨ie, ze, hie, hse, _⟩ := hte.info
  simp only [hit, hu, hz, hie, hse]
  exact hus

theorem wanted_none {o : Oper} {y : Nat → Option Bool} (h : o.guard = none) : Region.wanted o y = true := by simp [Region.wanted, h]

theorem wanted_at {all : List Oper} {o oj : Oper} {j d : Nat} {want t : Bool} {a : Act} (hgd : o.guard = some (j, want)) (hj : all[j]? = some oj) (hd : oj.dst = some d) (hv : a.tmps.getD d undef = .bool t) : Region.wanted o (yielded all.toArray a.tmps) = (t == want) := by
  have hd' : a.tmps[d]? = some (.bool t) := by
    rw [Array.getD_eq_getD_getElem?] at hv
    cases h : a.tmps[d]? with
    | none => rw [h] at hv; simp [undef] at hv
    | some v => rw [h] at hv; simp at hv; rw [hv]
  simp [Region.wanted, hgd, yielded, hj, hd, hd']

theorem wanted_not {all : List Oper} {o oj : Oper} {j d : Nat} {want : Bool} {vs : Array Value} {a : Act} (hgd : o.guard = some (j, want)) (hj : all[j]? = some oj) (hd : oj.dst = some d) (hv : a.tmps.getD d undef = .tuple vs) : Region.wanted o (yielded all.toArray a.tmps) = false := by
  simp [Region.wanted, hgd, yielded, hj, hd]
  rw [Array.getD_eq_getD_getElem?] at hv
  cases h : a.tmps[d]? with
  | none => simp
  | some v => rw [h] at hv; simp at hv; simp [hv]

theorem ownSl_pure {p : Pg} {ρ : Env} {o : Op} (h : isPure o = false) : ownSl p ρ o = false := by
  cases o
  case call c =>
    rcases c with ⟨callee⟩
    cases callee <;> first | rfl | (simp [isPure] at h; done)
  all_goals first | rfl | (simp [isPure] at h; done)

theorem go_mem (hp : cx.pg.Ok) {s : St} {o : Oper} {next : St → Prop} {leaf : Env → Prop} {H : Hid} {a : Act} {w : World} (hg : GlOk cx.pg H) (hs : Sim cx H s w) {ρ : Env} (ha : ActOk cx H ρ a) (hpu : isPure o.op = false) (h : goVC cx false s o next leaf ρ) :
    leaf ρ ∨ ∃ (H' : Hid) (u : Value) (g : GV) (w' : World) (s0 : St), H.le H' ∧ ((execOp a.eval o).run cx.pg.P w = .ok (.value u) w' ∨ (execOp a.eval o).run cx.pg.P w = .ok .skip w' ∧ u = undef) ∧ Is H' g u ∧
      dput cx.N ρ o.dst g (fun ρ' => next { s0 with ρ := ρ' }) ∧ ∀ ρ', Sim cx H' { s0 with ρ := ρ' } w' := by
  obtain ⟨ρs, σ, m⟩ := s
  unfold goVC at h
  rw [ownSl_pure hpu, hpu] at h
  simp only [cond_false, nfL_eq, nfN_eq, nfH_eq] at h
  split at h
  · rename_i t ho
    split at h
    · rename_i ti hti
      obtain ⟨i, z, hi, hsz, _, hz, hzc, hzl⟩ := (hp.tt _ _ hti).info
      have hc : Cells H (ti.zero.map .v) z.cells := by
        have := cells_vs (H := H) ti.zero
        rw [← hzc] at this
        simpa [← hzc] using this
      obtain ⟨h1, h2⟩ := hs.alloc hc t ρs
      refine .inr ⟨H.more w.heap.size undef, _, _, _, { ρ := ρs, σ := (m, .blk t (ti.zero.map .v)) :: σ, n := m + 1 }, H.le_more _ _, .inl ?_, h2, h, fun ρ' => h1.ρ ρ'⟩
      simp [execOp, ho, Instr.alloc, zeroValue, run_tinfo hi, hz, newVar, newRow]
    · exact h.elim
  · rename_i t x ho
    obtain ⟨g, hx, h⟩ := ons_some h
    have his := ev_is hg ha.env hx
    obtain ⟨h1, h2⟩ := hs.alloc (cells_is his) t ρs
    refine .inr ⟨H.more w.heap.size undef, _, _, _, { ρ := ρs, σ := (m, .blk t (cellsOf g)) :: σ, n := m + 1 }, H.le_more _ _, .inl ?_, h2, h, fun ρ' => h1.ρ ρ'⟩
    simp [execOp, ho, Instr.box, newVar, newRow]
  · rename_i t x y ho
    split at h
    · rename_i ti id off g hti hx hy
      obtain ⟨hv, hid⟩ := (ev_is hg ha.env hx).inv_p
      have hyi := ev_is hg ha.env hy
      split at h
      · rename_i ty cs hl
        cases hb1 : allOne (cellsOf g) with
        | false => rw [hb1] at h; exact h.elim
        | true =>
          cases hb2 : Nat.beq (cellsOf g).length ti.sz with
          | false => rw [hb1, hb2] at h; exact h.elim
          | true =>
            cases hb3 : Nat.ble (off + ti.sz) cs.length with
            | false => rw [hb1, hb2, hb3] at h; exact h.elim
            | true =>
              rw [hb1, hb2, hb3] at h
              simp only [Bool.and_self, cond_true] at h
              have e2 := beq_eq hb2
              have e3 := Nat.le_of_ble_eq_true hb3
              have hc := cells_is hyi
              rw [← e2] at h e3
              obtain ⟨w', hr, hs'⟩ := hs.store hl hc e3 hb1 ρs
              refine .inr ⟨H, undef, _, _, { ρ := ρs, n := m, σ := hset σ id (.blk ty (cs.take off ++ cellsOf g ++ cs.drop (off + (cellsOf g).length))) }, Hid.le.refl H, .inr ⟨?_, rfl⟩, .ro (.v undef), h, fun ρ' => hs'.ρ ρ'⟩
              have hsz : (a.eval y).cells.size = ti.sz := by rw [← hc.1, e2]
              simp only [execOp, ho, Instr.storeAt, Instr.sureAddr, hv, Sem.run_bind, Sem.run_pure, Result.andThen_ok, storeVar, (hp.tt _ _ hti).size]
              rw [if_neg (by simp [hsz]), hr]
              rfl
      · exact h.elim
    · rename_i ti id sz i off g hti hx hy
      obtain ⟨b, n, c, hv, hsv, hid⟩ := (ev_is hg ha.env hx).inv_e
      have hyi := ev_is hg ha.env hy
      split at h
      · rename_i ty z rows hl
        cases hb0 : Nat.beq z sz with
        | false => rw [hb0] at h; exact h.elim
        | true =>
          cases hb1 : allOne (cellsOf g) with
          | false => rw [hb0, hb1] at h; exact h.elim
          | true =>
            cases hb4 : idbL 0 (cellsOf g) with
            | false => rw [hb0, hb1, hb4] at h; exact h.elim
            | true =>
              cases hb2 : Nat.beq (cellsOf g).length ti.sz with
              | false => rw [hb0, hb1, hb4, hb2] at h; exact h.elim
              | true =>
                cases hb3 : Nat.ble (off + ti.sz) sz with
                | false => rw [hb0, hb1, hb4, hb2, hb3] at h; exact h.elim
                | true =>
                  rw [hb0, hb1, hb4, hb2, hb3] at h
                  simp only [Bool.and_self, cond_true] at h
                  obtain ⟨row, hrow, h⟩ := h
                  have e0 := beq_eq hb0
                  subst e0
                  have e2 := beq_eq hb2
                  have e3 := Nat.le_of_ble_eq_true hb3
                  have hc := cells_is hyi
                  rw [← e2] at h e3
                  obtain ⟨w', hr, hs'⟩ := hs.storeRow hl hsv hrow hc e3 hb1 hb4 ρs
                  refine .inr ⟨H, undef, _, _, { ρ := ρs, n := m, σ := hset σ id (.row ty z (rows.set i (row.take off ++ cellsOf g ++ row.drop (off + (cellsOf g).length)))) }, Hid.le.refl H, .inr ⟨?_, rfl⟩, .ro (.v undef), h, fun ρ' => hs'.ρ ρ'⟩
                  have hsz : (a.eval y).cells.size = ti.sz := by rw [← hc.1, e2]
                  simp only [execOp, ho, Instr.storeAt, Instr.sureAddr, hv, Sem.run_bind, Sem.run_pure, Result.andThen_ok, storeVar, (hp.tt _ _ hti).size]
                  rw [if_neg (by simp [hsz]), hr]
                  rfl
      · exact h.elim
    · exact h.elim
  · rename_i t len parts ho
    split at h
    · rename_i sz by_ ag z e _q gs hti hx
      obtain ⟨hl, hi⟩ := evp_is hg ha.env hx
      split at h
      · rename_i ti hte
        cases hb1 : seqB ti.sz 0 gs with
        | false => rw [hb1] at h; exact h.elim
        | true =>
          cases hb2 : Nat.beq gs.length len with
          | false => rw [hb1, hb2] at h; exact h.elim
          | true =>
            cases hb3 : Nat.ble (len * ti.sz) 16777216 with
            | false => rw [hb1, hb2, hb3] at h; exact h.elim
            | true =>
              cases hb4 : Nat.blt 0 ti.sz with
              | false => rw [hb1, hb2, hb3, hb4] at h; exact h.elim
              | true =>
                rw [hb1, hb2, hb3, hb4] at h
                simp only [Bool.and_self, cond_true] at h
                have e2 := beq_eq hb2
                have e3 := Nat.le_of_ble_eq_true hb3
                have e4 : 0 < ti.sz := by rw [Nat.blt_eq] at hb4; exact hb4
                obtain ⟨us, hr, hrow⟩ := run_buildSlice_of (w := w) (hp.tt _ _ hti).d (hp.tt _ _ hte) (vs := parts.map fun x => (x.1, a.eval x.2)) (by simpa using hl) (by simpa using hi) hb1 e2 e3 e4
                have hlen : (gs.map fun x => cellsOf x.2).length = len := by simp [e2]
                have hsz : len ≤ maxLen := by
                  have : len ≤ len * ti.sz := Nat.le_mul_of_pos_right _ e4
                  simp only [maxLen]; omega
                obtain ⟨h1, h2⟩ := hs.newRow (ty := e) hrow (by rw [hlen]; exact hsz) ρs
                rw [hlen] at h1 h2
                refine .inr ⟨_, _, _, _, { ρ := ρs, σ := (m, .row e ti.sz (gs.map fun x => cellsOf x.2)) :: σ, n := m + 1 }, H.le_more _ _, .inl ?_, h2, h, fun ρ' => h1.ρ ρ'⟩
                simp only [execOp, ho, Sem.run_bind, hr, Result.andThen_ok]
                rfl
      · exact h.elim
    · exact h.elim
  · rename_i args ts ho
    split at h
    · rename_i sz by_ ag z e _q gd gx hti hx
      obtain ⟨x, y, hxy, hi, hj⟩ := evs_two hg ha.env hx
      obtain ⟨t, ht, hok⟩ : ∃ t, ts = #[t, t] ∧ TyOk cx.pg.P t ⟨sz, by_, ag, z, .slice e, _q⟩ := by
        obtain ⟨l⟩ := ts
        match l, hti with
        | [t, t'], hti =>
          simp only at hti
          cases hb : Nat.beq t t' with
          | false => rw [hb] at hti; cases hti
          | true =>
            rw [hb] at hti
            have := beq_eq hb
            subst this
            exact ⟨t, rfl, hp.tt _ _ hti⟩
      split at h
      · rename_i ti hte
        cases hb1 : Nat.blt 0 ti.sz with
        | false => rw [hb1] at h; exact h.elim
        | true =>
          cases hb2 : Nat.blt 0 ti.by_ with
          | false => rw [hb1, hb2] at h; exact h.elim
          | true =>
            rw [hb1, hb2] at h
            simp only [Bool.and_self, cond_true] at h
            split at h
            · rename_i rows σ' news hdr hxr
              obtain ⟨H', u, w', hle, hr, hiu, hsim⟩ := hs.append hok.d (hp.tt _ _ hte) (by rw [Nat.blt_eq] at hb1; exact hb1) (by rw [Nat.blt_eq] at hb2; exact hb2) hi hj hdr hxr h.1 ρs
              refine .inr ⟨H', u, _, w', { ρ := ρs, σ := (m, .row e ti.sz (rows ++ news)) :: σ', n := m + 1 }, hle, .inl ?_, hiu, h.2, fun ρ' => hsim.ρ ρ'⟩
              obtain ⟨q, hq⟩ := run_builtin (p := cx.pg) (a := a) rfl o ho w
              rw [hq]
              subst hxy
              subst ht
              have e1 : (Builtin.append_ #[t, t] o.type #[a.eval x, a.eval y]).run cx.pg.P w = .ok u w' := hr
              simp [builtin, e1]
            · exact h.elim
      · exact h.elim
    · exact h.elim
  · rename_i t parts ho
    split at h
    · rename_i sz by_ ag z fs _q gs hti hx
      obtain ⟨hl, hi⟩ := evp_is hg ha.env hx
      split at h
      · rename_i cs hf
        obtain ⟨us, hr, hc⟩ := run_build_of (hp.tt _ _ hti) rfl (vs := parts.map fun x => (x.1, a.eval x.2)) (by simpa using hl) (by simpa using hi) hf w
        refine .inr ⟨H, _, _, w, ⟨ρs, σ, m⟩, Hid.le.refl H, .inl ?_, .agg hc.1 hc.2, h, fun ρ' => hs.ρ ρ'⟩
        simp only [execOp, ho, Sem.run_bind, hr, Result.andThen_ok]
        rfl
      · exact h.elim
    · rename_i sz by_ ag z len e _q gs hti hx
      obtain ⟨hl, hi⟩ := evp_is hg ha.env hx
      split at h
      · rename_i te hte
        split at h
        · rename_i cs hf
          obtain ⟨us, hr, hc⟩ := run_buildA_of (hp.tt _ _ hti) rfl (hp.tt _ _ hte) (vs := parts.map fun x => (x.1, a.eval x.2)) (by simpa using hl) (by simpa using hi) hf w
          refine .inr ⟨H, _, _, w, ⟨ρs, σ, m⟩, Hid.le.refl H, .inl ?_, .agg hc.1 hc.2, h, fun ρ' => hs.ρ ρ'⟩
          simp only [execOp, ho, Sem.run_bind, hr, Result.andThen_ok]
          rfl
        · exact h.elim
      · exact h.elim
    · exact h.elim
  · rename_i t ho
    split at h
    · rename_i kt et _q hti
      split at h
      · rename_i kti hkt
        split at h
        · rename_i kd hkd
          obtain ⟨h1, h2⟩ := hs.newMap kd ρs
          refine .inr ⟨_, _, _, _, { ρ := ρs, σ := (m, .mp kd []) :: σ, n := m + 1 }, H.le_more _ _, .inl ?_, h2, h, fun ρ' => h1.ρ ρ'⟩
          simp only [execOp, ho, Sem.run_bind]
          rfl
        · exact h.elim
      · exact h.elim
    · exact h.elim
  · rename_i t x k v ho
    split at h
    · rename_i kt et _q hti
      split at h
      · rename_i kti hkt
        split at h
        · rename_i kd id kv g hkd hx hk hv
          cases hsb : sortB kd kv with
          | false => rw [hsb] at h; exact h.elim
          | true =>
          rw [hsb] at h
          simp only [cond_true] at h
          have hu := (hp.tt _ _ hti).d
          have hku := kdOf_spec (hp.tt _ _ hkt) hkd
          obtain ⟨hxv, hid⟩ := (ev_is hg ha.env hx).inv_o
          have hkv := (ev_is hg ha.env hk).inv_v
          have hvi := ev_is hg ha.env hv
          split at h
          · rename_i kd' es hl
            cases hkk : kdEq kd kd' with
            | false => rw [hkk] at h; exact h.elim
            | true =>
              rw [hkk] at h
              have := kdEq_eq hkk
              subst this
              obtain ⟨w', hr, hs'⟩ := hs.mapPut hl hsb hvi hu hku ρs
              refine .inr ⟨H, undef, _, w', { ρ := ρs, n := m, σ := hset σ id (.mp kd (mput kv g es)) }, Hid.le.refl H, .inr ⟨?_, rfl⟩, .ro (.v undef), h, fun ρ' => hs'.ρ ρ'⟩
              simp only [execOp, ho, hxv, hkv, Sem.run_bind, hr]
              rfl
          · rename_i q hl
            split at h
            · rename_i kd' es left cur hl2
              cases hkk : kdEq kd kd' with
              | false => rw [hkk] at h; exact h.elim
              | true =>
                rw [hkk] at h
                have := kdEq_eq hkk
                subst this
                obtain ⟨_, he, _⟩ := hs.sat.holds _ (hlook_mem hl)
                obtain ⟨w', hr, hs'⟩ := hs.mapPutR hl2 hsb hvi h.1 hu hku ρs
                refine .inr ⟨H, undef, _, w', { ρ := ρs, n := m, σ := hset σ q (.mr kd (mput kv g es) left cur) }, Hid.le.refl H, .inr ⟨?_, rfl⟩, .ro (.v undef), h.2, fun ρ' => hs'.ρ ρ'⟩
                rw [← he] at hr
                simp only [execOp, ho, hxv, hkv, Sem.run_bind, hr]
                rfl
            · exact h.elim
          · exact h.elim
        · exact h.elim
      · exact h.elim
    · exact h.elim
  · rename_i t x k ho
    split at h
    · rename_i kt et _q hti
      split at h
      · rename_i kti eti hkt het
        split at h
        · rename_i kd z id kv hkd hz hx hk
          cases hsb : sortB kd kv with
          | false => rw [hsb] at h; exact h.elim
          | true =>
          rw [hsb] at h
          simp only [cond_true] at h
          have hu := (hp.tt _ _ hti).d
          have hku := kdOf_spec (hp.tt _ _ hkt) hkd
          obtain ⟨hxv, hid⟩ := (ev_is hg ha.env hx).inv_o
          have hkv := (ev_is hg ha.env hk).inv_v
          obtain ⟨zv, hzv, hzi⟩ := run_zero (hp.tt _ _ het) hz
          split at h
          · rename_i kd' es hl
            cases hkk : kdEq kd kd' with
            | false => rw [hkk] at h; exact h.elim
            | true =>
              rw [hkk] at h
              have := kdEq_eq hkk
              subst this
              obtain ⟨m1, m2⟩ := hs.mapEntry hl hsb hu hku hzv hzi ρs
              simp only [cond_true] at h
              cases hf : mfind kv es with
              | some g =>
                obtain ⟨v, st, w', hr, hi, hs'⟩ := m1 g hf
                refine .inr ⟨_, _, _, w', { ρ := ρs, σ := hset σ id (.me kd (mput kv g es) kv m), n := m + 1 }, H.le_more _ _, .inl ?_, hi, h.1 g hf, fun ρ' => hs'.ρ ρ'⟩
                simp only [execOp, ho, hxv, hkv, Sem.run_bind, hr]
                rfl
              | none =>
                obtain ⟨v, st, w', hr, hi, hs'⟩ := m2 hf
                refine .inr ⟨_, _, _, w', { ρ := ρs, σ := hset σ id (.me kd (mput kv z es) kv m), n := m + 1 }, H.le_more _ _, .inl ?_, hi, h.2 hf, fun ρ' => hs'.ρ ρ'⟩
                simp only [execOp, ho, hxv, hkv, Sem.run_bind, hr]
                rfl
          · rename_i it hl0
            split at h
            · rename_i kd' es left cur hl
              cases hkk : kdEq kd kd' with
              | false => rw [hkk] at h; exact h.elim
              | true =>
                rw [hkk] at h
                have := kdEq_eq hkk
                subst this
                simp only [cond_true] at h
                obtain ⟨g, hg0, h⟩ := h
                have hsame := (hs.sat.holds _ (hlook_mem hl0)).2.1
                obtain ⟨v, st, w', hr, hi, hs'⟩ := hs.mapEntryR hl hsb hu hku hzv hg0 ρs
                refine .inr ⟨_, _, _, w', { ρ := ρs, σ := hset σ it (.mre kd (mput kv g es) left cur kv m), n := m + 1 }, H.le_more _ _, .inl ?_, hi, h, fun ρ' => hs'.ρ ρ'⟩
                rw [← hsame] at hr
                simp only [execOp, ho, hxv, hkv, Sem.run_bind, hr]
                rfl
            · exact h.elim
          · exact h.elim
        · exact h.elim
      · exact h.elim
    · exact h.elim
  · rename_i t x st v ho
    split at h
    · rename_i id q g hx hst hv
      obtain ⟨hxv, hid⟩ := (ev_is hg ha.env hx).inv_o
      obtain ⟨hsv, _⟩ := (ev_is hg ha.env hst).inv_o
      have hvi := ev_is hg ha.env hv
      split at h
      · rename_i kd es kv q' hl
        cases hqq : Nat.beq q q' with
        | false => rw [hqq] at h; exact h.elim
        | true =>
          rw [hqq] at h
          have := beq_eq hqq
          subst this
          obtain ⟨w', hr, hs'⟩ := hs.entryStore (P := cx.pg.P) (t := t) hl hvi ρs
          refine .inr ⟨H, undef, _, w', { ρ := ρs, n := m, σ := hset σ id (.mp kd (mput kv g es)) }, Hid.le.refl H, .inr ⟨?_, rfl⟩, .ro (.v undef), h, fun ρ' => hs'.ρ ρ'⟩
          simp only [execOp, ho, hxv, hsv, Sem.run_bind, hr]
          rfl
      · rename_i it hl0
        split at h
        · rename_i kd es left cur kv q' hl
          cases hqq : Nat.beq q q' with
          | false => rw [hqq] at h; exact h.elim
          | true =>
            rw [hqq] at h
            have := beq_eq hqq
            subst this
            have hsame := (hs.sat.holds _ (hlook_mem hl0)).2.1
            obtain ⟨w', hr, hs'⟩ := hs.entryStoreR (P := cx.pg.P) (t := t) hl hvi ρs
            refine .inr ⟨H, undef, _, w', { ρ := ρs, n := m, σ := hset σ it (.mr kd (mput kv g es) left cur) }, Hid.le.refl H, .inr ⟨?_, rfl⟩, .ro (.v undef), h, fun ρ' => hs'.ρ ρ'⟩
            rw [← hsame] at hr
            simp only [execOp, ho, hxv, hsv, Sem.run_bind, hr]
            rfl
        · exact h.elim
      · exact h.elim
    · exact h.elim
  · rename_i args ts ho
    split at h
    · rename_i kt et _q id kv hti hx
      obtain ⟨x, y, hxy, hi, hj⟩ := evs_two hg ha.env hx
      obtain ⟨t, ht, hok⟩ : ∃ t, ts[0]? = some t ∧ TyOk cx.pg.P t _ := by
        obtain ⟨l⟩ := ts
        match l, hti with
        | t :: _, hti => exact ⟨t, rfl, hp.tt _ _ hti⟩
      split at h
      · rename_i kti hkt
        split at h
        · rename_i kd hkd
          cases hsb : sortB kd kv with
          | false => rw [hsb] at h; exact h.elim
          | true =>
          rw [hsb] at h
          simp only [cond_true] at h
          have hu := hok.d
          have hku := kdOf_spec (hp.tt _ _ hkt) hkd
          obtain ⟨hxv, hid⟩ := hi.inv_o
          have hkv := hj.inv_v
          have fin : ∀ {w' : World}, (Builtin.delete_ ts o.type #[H.sv id, kv]).run cx.pg.P w = .ok (.tuple #[]) w' → (execOp a.eval o).run cx.pg.P w = .ok (.value (.tuple #[])) w' := fun hr => by
            obtain ⟨q, hq⟩ := run_builtin (p := cx.pg) (a := a) rfl o ho w
            rw [hq]
            subst hxy
            simp only [builtin, List.map_toArray, List.map_cons, List.map_nil, hxv, hkv, Sem.run_bind, hr]
            rfl
          split at h
          · rename_i kd' es hl
            cases hkk : kdEq kd kd' with
            | false => rw [hkk] at h; exact h.elim
            | true =>
              rw [hkk] at h
              have := kdEq_eq hkk
              subst this
              obtain ⟨w', hr, hs'⟩ := hs.mapDel (ty := o.type) hl hsb ht hu hku ρs
              exact .inr ⟨H, _, _, w', { ρ := ρs, n := m, σ := hset σ id (.mp kd (mdel kv es)) }, Hid.le.refl H, .inl (fin hr), .ro (.v _), h, fun ρ' => hs'.ρ ρ'⟩
          · rename_i q hl
            split at h
            · rename_i kd' es left cur hl2
              cases hkk : kdEq kd kd' with
              | false => rw [hkk] at h; exact h.elim
              | true =>
                rw [hkk] at h
                have := kdEq_eq hkk
                subst this
                obtain ⟨_, he, _⟩ := hs.sat.holds _ (hlook_mem hl)
                obtain ⟨w', hr, hs'⟩ := hs.mapDelR (ty := o.type) hl2 hsb ht hu hku ρs
                exact .inr ⟨H, _, _, w', { ρ := ρs, n := m, σ := hset σ q (.mr kd (mdel kv es) (kdel kv left) cur) }, Hid.le.refl H, .inl (fin (by rw [he]; exact hr)), .ro (.v _), h, fun ρ' => hs'.ρ ρ'⟩
            · exact h.elim
          · exact h.elim
        · exact h.elim
      · exact h.elim
    · exact h.elim
  · rename_i t x ho
    split at h
    · rename_i kt et _q hti
      have hu := (hp.tt _ _ hti).d
      split at h
      · rename_i id hx
        obtain ⟨hxv, hid⟩ := (ev_is hg ha.env hx).inv_o
        split at h
        · rename_i kd es hl
          obtain ⟨H', w', hle, hr, hi, hs'⟩ := hs.mapRange hl hu ρs
          refine .inr ⟨H', _, _, w', { ρ := ρs, σ := (m, .mr kd es (es.map (·.1)) none) :: hset σ id (.itr m), n := m + 1 }, hle, .inl ?_, hi, h, fun ρ' => hs'.ρ ρ'⟩
          simp only [execOp, ho, hxv, Sem.run_bind, hr]
          rfl
        · exact h.elim
      · rename_i hx
        have hxv := (ev_is hg ha.env hx).inv_v
        obtain ⟨h1, h2⟩ := hs.allocObj (.mapIter none 0 #[] 0) ρs
        refine .inr ⟨_, _, _, _, { ρ := ρs, σ := (m, .ob (.mapIter none 0 #[] 0)) :: σ, n := m + 1 }, H.le_more _ _, .inl ?_, h2, h, fun ρ' => h1.ρ ρ'⟩
        simp only [execOp, ho, hxv, Sem.run_bind, run_range_nil hu]
        rfl
      · exact h.elim
    · exact h.elim
  · rename_i x ho
    split at h
    · rename_i it hx
      obtain ⟨hxv, hid⟩ := (ev_is hg ha.env hx).inv_p
      have hfalse : Is H (.tup [.v (.bool false)]) (.tuple #[.bool false]) := .tup rfl (fun j g hj => by
        match j with
        | 0 => simp at hj; subst hj; exact .ro (.v _)
        | j + 1 => simp at hj)
      split at h
      · rename_i since seen last hl
        have hw := hs.sat.holds _ (hlook_mem hl)
        refine .inr ⟨H, _, _, w, ⟨ρs, σ, m⟩, Hid.le.refl H, .inl ?_, hfalse, h, fun ρ' => hs.ρ ρ'⟩
        simp only [execOp, ho, hxv, Sem.run_bind, run_next_nil hw]
        rfl
      · rename_i kd es left cur hl
        rcases hs.mapNext hl cx.pg.P o.type ρs with ⟨h0, hr⟩ | ⟨l1, k, l2, g, v, w', h0, hf, hi, hr, hs'⟩
        · refine .inr ⟨H, _, _, w, ⟨ρs, σ, m⟩, Hid.le.refl H, .inl ?_, hfalse, h.1 h0, fun ρ' => hs.ρ ρ'⟩
          simp only [execOp, ho, hxv, Sem.run_bind, hr]
          rfl
        · refine .inr ⟨H, .tuple #[.bool true, k, v], _, w', { ρ := ρs, n := m, σ := hset σ it (.mr kd es (l1 ++ l2) (some k)) }, Hid.le.refl H, .inl ?_, .tup rfl (fun j g' hj => ?_), h.2 l1 k l2 g h0 hf, fun ρ' => hs'.ρ ρ'⟩
          · simp only [execOp, ho, hxv, Sem.run_bind, hr]
            rfl
          · match j with
            | 0 => simp at hj; subst hj; exact .ro (.v _)
            | 1 => simp at hj; subst hj; exact .ro (.v _)
            | 2 => simp at hj; subst hj; exact hi
            | j + 3 => simp at hj
      · exact h.elim
    · exact h.elim
  · exact .inl h

theorem go_sound (hp : cx.pg.Ok) {q : Bool} {all : List Oper} {o : Oper} {rest : List Oper} {k : List It} {s : St} {next : St → Prop} {leaf : Env → Prop} (hnext : ∀ s', next s' → JK cx T (.ops q all rest :: k) s') (hleaf : ∀ ρ, leaf ρ → JK cx T (.ops q all (o :: rest) :: k) { s with ρ := ρ })
    {H : Hid} {a : Act} {w : World} (hg : GlOk cx.pg H) (hs : Sim cx H s w) {ρ : Env} (ha : ActOk cx H ρ a) (hw : Region.wanted o (yielded all.toArray a.tmps) = true) (h : goVC cx q s o next leaf ρ) :
    cont cx.pg.P (post cx T) (.ops q all (o :: rest) :: k) .normal a w := by
  obtain ⟨ρs, σ, m⟩ := s
  unfold goVC at h
  cases hos : ownSl cx.pg ρ o.op with
  | true =>
    rw [hos] at h
    exact hleaf ρ h H a w hg (hs.ρ ρ) ha
  | false =>
  rw [hos] at h
  simp only [cond_false] at h
  cases hpu : isPure o.op with
  | true =>
    rw [hpu] at h
    obtain ⟨u, g, hr, hi, hk⟩ := pv_sound hp hg ha.env hs.sat h
    obtain ⟨ρ', ha', hn⟩ := ha.dput hi hk
    have := hnext _ hn H (a.put o.dst u) w hg (hs.ρ ρ') ha'
    cases q with
    | false => exact wpList_run hw (hr w (Agr.refl hs.sat) o rfl) this
    | true => exact wpQuiet_run hw (fun w' hb => hr w' (Agr.below hs.sat hb) o rfl) this
  | false =>
    rw [hpu] at h
    cases q with
    | true => exact hleaf ρ h H a w hg (hs.ρ ρ) ha
    | false =>
      rcases go_mem hp hg hs ha hpu (by unfold goVC; rw [hos, hpu]; exact h) with hl | ⟨H', u, g, w', s0, hle, hr, hi, hd, hsim⟩
      · exact hleaf ρ hl H a w hg (hs.ρ ρ) ha
      · exact JK.step_mem (s' := s0) (hg.mono hle) (ha.mono hle) hw hr hi hd (fun ρ' hk => ⟨hsim ρ', hnext _ hk⟩)

theorem vc_sound (hp : cx.pg.Ok) : ∀ (n : Nat) (k : List It) (s : St), vc cx T n k s → JK cx T k s
  | 0, k, s, h => by simpa [vc] using h
  | n + 1, [], s, h => fun H a w _ hs ha => ⟨H, s, hs, ha, by simpa [vc] using h⟩
  | n + 1, .blk _ :: k, s, h => fun H a w hg hs ha => by
    simp only [vc] at h
    exact vc_sound hp n k s h H a w hg hs ha
  | n + 1, .ops q all [] :: k, s, h => fun H a w hg hs ha => by
    simp only [vc] at h
    cases q with
    | false => exact vc_sound hp n k s h H a w hg hs ha
    | true => exact fun w' hb => vc_sound hp n k s h H a w' hg (hs.below hb) ha
  | n + 1, .code c :: k, s, h => by
    cases c <;> simp only [vc] at h <;> (try exact h)
    case skip => exact fun H a w hg hs ha => wp_skip (vc_sound hp n k s h H a w hg hs ha)
    case seq x y =>
      exact fun H a w hg hs ha => wp_seq (Code.wp_mono (fun e a w hq => by rw [cont_code] at hq; exact hq) (vc_sound hp n _ s h H a w hg hs ha))
    case region i ops dr =>
      cases dr with
      | false =>
        simp only at h
        exact fun H a w hg hs ha => wp_region_list (by simpa [cont] using vc_sound hp n _ s h H a w hg hs ha)
      | true =>
        simp only at h
        cases hpu : allPure ops.toList with
        | false => rw [hpu] at h; exact h
        | true =>
          rw [hpu] at h
          obtain ⟨hB, hv⟩ := h
          intro H a w hg hs ha
          have := vc_sound hp n _ s hv H a w.drew hg (hs.below (below_drew w)) ha
          refine wp_region_quiet (C := fun w' => Below w.drew.heap.size w.drew w') hp.mixed hB (Below.refl _ _) ?_
          simpa [cont] using this
    case cond c x y =>
      split at h
      · rename_i t hc
        intro H a w hg hs ha
        have hcv := (ev_is hg ha.env hc).inv_v
        cases t with
        | true => exact wp_cond_true hcv (vc_sound hp n _ s h H a w hg hs ha)
        | false => exact wp_cond_false hcv (vc_sound hp n _ s h H a w hg hs ha)
      · rename_i t hc
        intro H a w hg hs ha
        have hcv := (ev_is hg ha.env hc).inv_b
        cases t with
        | true => exact wp_cond_true hcv (vc_sound hp n _ s (h.1 rfl) H a w hg hs ha)
        | false => exact wp_cond_false hcv (vc_sound hp n _ s (h.2 rfl) H a w hg hs ha)
      · exact h.elim
    case block id c =>
      exact fun H a w hg hs ha => wp_block (Code.wp_mono (fun e a w hq => by rw [cont_blk] at hq; exact hq) (vc_sound hp n _ s h H a w hg hs ha))
    case exit id =>
      intro H a w hg hs ha
      refine wp_exit ?_
      show cont cx.pg.P (post cx T) k (.exit id) a w
      rw [cont_exit]
      cases hx : exitTo id k with
      | none => rw [hx] at h; exact ⟨H, s, hs, ha, h⟩
      | some k' => rw [hx] at h; exact vc_sound hp n k' s h H a w hg hs ha
    case ret =>
      intro H a w hg hs ha
      refine wp_ret ?_
      show cont cx.pg.P (post cx T) k .ret a w
      rw [cont_ret]
      exact ⟨H, s, hs, ha, h⟩
  | n + 1, .ops q all (o :: rest) :: k, s, h => by
    intro H a w hg hs ha
    obtain ⟨ρs, σ, m⟩ := s
    simp only [vc] at h
    have hnext : ∀ s', vc cx T n (.ops q all rest :: k) s' → JK cx T (.ops q all rest :: k) s' := fun s' h' => vc_sound hp n _ s' h'
    have hskip : ∀ ρ, ActOk cx H ρ a → Region.wanted o (yielded all.toArray a.tmps) = false → (dput cx.N ρ o.dst (.v undef) fun ρ' => vc cx T n (.ops q all rest :: k) ⟨ρ', σ, m⟩) → cont cx.pg.P (post cx T) (.ops q all (o :: rest) :: k) .normal a w := by
      intro ρ ha' hw hd
      obtain ⟨ρ', ha'', hk⟩ := ha'.dput (u := undef) (.ro (.v undef)) hd
      have := hnext _ hk H _ w hg (hs.ρ ρ') ha''
      cases q with
      | false => exact wpList_pass hw this
      | true => exact wpQuiet_pass hw this
    have hgo : ∀ ρ, ActOk cx H ρ a → Region.wanted o (yielded all.toArray a.tmps) = true → goVC cx q ⟨ρs, σ, m⟩ o (fun s' => vc cx T n (.ops q all rest :: k) s') (fun ρ => JK cx T (.ops q all (o :: rest) :: k) ⟨ρ, σ, m⟩) ρ → cont cx.pg.P (post cx T) (.ops q all (o :: rest) :: k) .normal a w :=
      fun ρ ha' hw hd => go_sound hp hnext (fun _ hl => hl) hg hs ha' hw hd
    unfold guardVC at h
    split at h
    · rename_i hgd
      exact hgo ρs ha (wanted_none hgd) h
    · rename_i j want hgd
      split at h
      · rename_i oj hj
        split at h
        · rename_i d hd
          split at h
          · rename_i t hl
            have hv := (ha.env d _ hl).inv_v
            have hw := wanted_at hgd hj hd hv
            cases hb : (t == want) with
            | true => rw [hb] at h hw; exact hgo ρs ha hw h
            | false => rw [hb] at h hw; exact hskip ρs ha hw h
          · rename_i t hl
            have hv := (ha.env d _ hl).inv_b
            have hw := wanted_at hgd hj hd hv
            have hput : ∀ c, t = c → ActOk cx H ((d, .v (.bool c)) :: ρs) a := by
              intro c hc
              refine ⟨fun x g hx => ?_, ha.size, ha.defers⟩
              unfold look at hx
              cases hb : Nat.beq d x with
              | true =>
                rw [hb] at hx
                simp at hx
                subst hx
                rw [← beq_eq hb, hv, hc]
                exact .ro (.v _)
              | false => rw [hb] at hx; exact ha.env x g (by simpa using hx)
            by_cases e : t = want
            · rw [e] at hw
              exact hgo _ (hput want e) (by simpa using hw) (h.1 e)
            · have e' : t = !want := by cases t <;> cases want <;> simp_all
              rw [e'] at hw
              exact hskip _ (hput _ e') (by simpa using hw) (h.2 e')
          · rename_i vs hl
            exact hskip ρs ha (wanted_not hgd hj hd (ha.env d _ hl).inv_v) h
          · exact h.elim
        · exact h.elim
      · exact h.elim
end
end Go.GK
/-
  The ghost machine: weakening, loops.
-/
namespace Go.GK
open Go.RowKit

theorem and5 {a b c d e : Bool} (h : (a && b && c && d && e) = true) : a = true ∧ b = true ∧ c = true ∧ d = true ∧ e = true := by
  cases a <;> cases b <;> cases c <;> cases d <;> cases e <;> simp_all

theorem blt_lt {a b : Nat} (h : Nat.blt a b = true) : a < b := by rw [Nat.blt_eq] at h; exact h

def Hid.via (H : Hid) (f : Nat → Nat) (n : Nat) : Hid := { ro := H.ro, bl := fun i => H.bl (f i), sv := fun i => H.sv (f i), n := n }

theorem renL_get (f : Nat → Nat) : ∀ (l : List GV) (j : Nat), (renL f l)[j]? = (l[j]?).map (ren f)
  | [], j => by simp [renL]
  | g :: r, 0 => by simp [renL]
  | g :: r, j + 1 => by simp [renL, renL_get f r j]
theorem renL_len (f : Nat → Nat) : ∀ (l : List GV), (renL f l).length = l.length
  | [] => rfl
  | _ :: r => by simp [renL, renL_len f r]

mutual
theorem ren_back {H : Hid} {f : Nat → Nat} {n : Nat} : ∀ {g : GV} {u : Value}, Is H (ren f g) u → idb n g = true → Is (H.via f n) g u
  | .v x, u, h, _ => by have := h.inv_v; subst this; exact .ro (.v _)
  | .b c, u, h, _ => by have := h.inv_b; subst this; exact .ro (.b _)
  | .p id off, u, h, hb => by
    obtain ⟨rfl, _⟩ := h.inv_p
    simp only [idb] at hb
    exact Is.p (H := H.via f n) (blt_lt hb)
  | .e id sz i off, u, h, hb => by
    obtain ⟨g, n', c, rfl, hs, _⟩ := h.inv_e
    simp only [idb] at hb
    exact Is.e (H := H.via f n) (blt_lt hb) hs
  | .o id, u, h, hb => by
    simp only [ren] at h
    cases h with
    | ro h => cases h
    | o hid hs h1 => simp only [idb] at hb; exact Is.o (H := H.via f n) (blt_lt hb) hs h1
  | .r cs, u, h, _ => by simp only [ren] at h; cases h with | ro h => exact .ro h
  | .sl sz rows, u, h, _ => by simp only [ren] at h; cases h with | ro h => exact .ro h
  | .agg cs, u, h, hb => by
    simp only [ren] at h
    simp only [idb] at hb
    obtain ⟨us, rfl, hl, hi⟩ := h.inv_agg
    exact .agg (by rw [← hl, renL_len]) (renL_back cs (fun j g hj => hi j g hj) hb)
  | .tup cs, u, h, hb => by
    simp only [ren] at h
    simp only [idb] at hb
    obtain ⟨us, rfl, hl, hi⟩ := h.inv_tup
    exact .tup (by rw [← hl, renL_len]) (renL_back cs (fun j g hj => hi j g hj) hb)
  | .fn fv aas cs, u, h, hb => by
    simp only [ren] at h
    simp only [idb, Bool.and_eq_true] at hb
    obtain ⟨us, vs, rfl, hl, hi, hl', hi'⟩ := h.inv_fn
    exact .fn (by rw [← hl, renL_len]) (renL_back aas (fun j g hj => hi j g hj) hb.1) (by rw [← hl', renL_len]) (renL_back cs (fun j g hj => hi' j g hj) hb.2)
  | .ifc t x, u, h, hb => by
    simp only [ren] at h
    simp only [idb] at hb
    obtain ⟨v, rfl, hi⟩ := h.inv_ifc
    exact .ifc (ren_back hi hb)
theorem renL_back {H : Hid} {f : Nat → Nat} {n : Nat} {F : Nat → Value} : ∀ (l : List GV), (∀ (j : Nat) (g : GV), (renL f l)[j]? = some g → Is H g (F j)) → idbL n l = true → ∀ (j : Nat) (g : GV), l[j]? = some g → Is (H.via f n) g (F j)
  | [], _, _, j, g, hj => by simp at hj
  | x :: r, h, hb, 0, g, hj => by
    simp [idbL] at hb
    simp at hj
    subst hj
    exact ren_back (h 0 _ (by simp [renL])) hb.1
  | x :: r, h, hb, j + 1, g, hj => by
    simp [idbL] at hb
    exact renL_back (F := fun j => F (j + 1)) r (fun j g hj => h (j + 1) g (by simpa [renL] using hj)) hb.2 j g (by simpa using hj)
end

theorem Is.ren {H H' : Hid} {f : Nat → Nat} (hro : ∀ b o, H.ro b = some o → H'.ro b = some o) (hf : ∀ i, i < H.n → f i < H'.n ∧ H'.bl (f i) = H.bl i ∧ H'.sv (f i) = H.sv i) {g : GV} {u : Value} (h : Is H g u) : Is H' (GK.ren f g) u := by
  have hL : ∀ {cs : List GV} {us : Array Value}, (∀ (j : Nat) (g : GV), cs[j]? = some g → Is H' (GK.ren f g) (us.getD j undef)) → ∀ (j : Nat) (g : GV), (renL f cs)[j]? = some g → Is H' g (us.getD j undef) := by
    intro cs us hh j g hj
    rw [renL_get] at hj
    cases hc : cs[j]? with
    | none => rw [hc] at hj; cases hj
    | some x => rw [hc] at hj; simp at hj; subst hj; exact hh j x hc
  induction h with
  | ro hr =>
    have hR : ∀ {g : GV} {u : Value}, IsR H.ro g u → Is H' (GK.ren f g) u := by
      intro g u hr
      induction hr with
      | v x => exact .ro (.v x)
      | b c => exact .ro (.b c)
      | r us h1 h2 _ => exact .ro ((IsR.r us h1 h2).mono hro)
      | slnil => exact .ro .slnil
      | sl us h0 hc hm h1 h2 h3 _ => exact .ro ((IsR.sl us h0 hc hm h1 h2 h3).mono hro)
      | agg hl _ ih => exact .agg (by rw [renL_len]; exact hl) (hL ih)
      | tup hl _ ih => exact .tup (by rw [renL_len]; exact hl) (hL ih)
      | fn hl _ hl' _ ih ih' => exact .fn (by rw [renL_len]; exact hl) (hL ih) (by rw [renL_len]; exact hl') (hL ih')
      | ifc _ ih => exact .ifc ih
    exact hR hr
  | p hid =>
    obtain ⟨h1, h2, _⟩ := hf _ hid
    rw [← h2]
    exact .p h1
  | e hid hs =>
    obtain ⟨h1, _, h3⟩ := hf _ hid
    exact .e h1 (h3.trans hs)
  | o hid hs how =>
    obtain ⟨h1, _, h3⟩ := hf _ hid
    exact .o h1 (h3.trans hs) how
  | agg hl _ ih => exact .agg (by rw [renL_len]; exact hl) (hL ih)
  | tup hl _ ih => exact .tup (by rw [renL_len]; exact hl) (hL ih)
  | fn hl _ hl' _ ih ih' => exact .fn (by rw [renL_len]; exact hl) (hL ih) (by rw [renL_len]; exact hl') (hL ih')
  | ifc _ ih => exact .ifc ih

theorem memB_mem {x : Nat} : ∀ {l : List Nat}, memB x l = true ↔ x ∈ l
  | [] => by simp [memB]
  | y :: r => by
    simp only [memB, Bool.or_eq_true, List.mem_cons, memB_mem (l := r)]
    constructor
    · rintro (h | h)
      · exact .inl (beq_eq h)
      · exact .inr h
    · rintro (h | h)
      · subst h; exact .inl (by simp)
      · exact .inr h
theorem distB_nodup : ∀ {l : List Nat}, distB l = true → l.Nodup
  | [], _ => List.nodup_nil
  | x :: r, h => by
    simp only [distB, Bool.and_eq_true, Bool.not_eq_true'] at h
    refine List.nodup_cons.2 ⟨fun hm => ?_, distB_nodup h.2⟩
    rw [memB_mem.2 hm] at h
    cases h.1
theorem fixB_fix {f : Nat → Nat} : ∀ {n : Nat}, fixB f n = true → ∀ i, i < n → f i = i
  | 0, _, i, hi => by omega
  | n + 1, h, i, hi => by
    simp only [fixB, Bool.and_eq_true] at h
    rcases Nat.lt_succ_iff_lt_or_eq.1 hi with h1 | h1
    · exact fixB_fix h.2 i h1
    · subst h1; exact beq_eq h.1

theorem blks_apart {H : Hid} {σ : Heap} (hn : (blks H σ).Nodup) {x y : Nat × Res} (hx : x ∈ σ) (hy : y ∈ σ) (hne : x.1 ≠ y.1) : ∀ b ∈ blocks H x, b ∉ blocks H y := by
  induction σ with
  | nil => cases hx
  | cons z r ih =>
    rw [blks_cons] at hn
    have h1 := List.nodup_append.1 hn
    intro b hbx hby
    rcases List.mem_cons.1 hx with rfl | hx'
    · rcases List.mem_cons.1 hy with rfl | hy'
      · exact hne rfl
      · exact h1.2.2 b hbx b (List.mem_flatMap.2 ⟨y, hy', hby⟩) rfl
    · rcases List.mem_cons.1 hy with rfl | hy'
      · exact h1.2.2 b hby b (List.mem_flatMap.2 ⟨x, hx', hbx⟩) rfl
      · exact ih h1.2.1 hx' hy' b hbx hby

theorem blocks_nodup {H : Hid} {σ : Heap} (hn : (blks H σ).Nodup) {x : Nat × Res} (hx : x ∈ σ) : (blocks H x).Nodup := by
  induction σ with
  | nil => cases hx
  | cons z r ih =>
    rw [blks_cons] at hn
    have h1 := List.nodup_append.1 hn
    rcases List.mem_cons.1 hx with rfl | hx
    · exact h1.1
    · exact ih h1.2.1 hx

theorem esIs_back {H : Hid} {f : Nat → Nat} {n : Nat} : ∀ {es : List (Value × GV)} {l : List MapEntry}, esIs H (renM f es) l → idbM n es = true → esIs (H.via f n) es l
  | [], [], _, _ => trivial
  | (k, g) :: r, e :: s, h, hb => by
    simp only [idbM, Bool.and_eq_true] at hb
    exact ⟨h.1, ren_back h.2.1 hb.1, esIs_back (es := r) h.2.2 hb.2⟩
  | [], _ :: _, h, _ => h.elim
  | _ :: _, [], h, _ => h.elim
theorem MapOk.back {H : Hid} {f : Nat → Nat} {n : Nat} {kd : Option IntKind} {es : List (Value × GV)} {arr : Array MapEntry} {clock : Nat} (h : MapOk H kd (renM f es) arr clock) (hb : idbM n es = true) : MapOk (H.via f n) kd es arr clock :=
  ⟨esIs_back h.is hb, h.sorts, h.st⟩

theorem Sat.part {H : Hid} {σ : Heap} {w : World} (h : Sat H σ w) {f : Nat → Nat} {n : Nat} : ∀ {τ : Heap}, leσ f τ σ → idbH n τ = true → distB (hids f τ) = true →
    Sat (H.via f n) τ w ∧ (∀ b ∈ blks (H.via f n) τ, ∃ x ∈ σ, x.1 ∈ hids f τ ∧ b ∈ blocks H x)
  | [], _, _, _ => ⟨⟨h.ro, by simp, by simp [blks], by simp [blks], by simp⟩, by simp [blks]⟩
  | (id, x) :: r, hl, hb, hd => by
    simp only [leσ] at hl
    simp only [idbH, Bool.and_eq_true] at hb
    have hnd := distB_nodup hd
    simp only [hids] at hnd hd
    simp only [distB, Bool.and_eq_true] at hd
    obtain ⟨ih, ihb⟩ := Sat.part h hl.2 hb.2 hd.2
    have hmem := hlook_mem hl.1
    have hh := h.holds _ hmem
    have hbl : blocks (H.via f n) (id, x) = blocks H (f id, renR f x) := by cases x <;> rfl
    have hid := blt_lt hb.1.1
    have hx : GK.holds (H.via f n) w (id, x) := by
      cases x with
      | blk ty cs =>
        obtain ⟨us, hw, hlen, hi⟩ := hh
        refine ⟨us, hw, by rw [← hlen, renL_len], ?_⟩
        exact renL_back cs hi (by simpa [idbR] using hb.1.2)
      | row ty sz rows => exact hh
      | ob o => exact hh
      | ln sz n => exact hh
      | sub i sz lo n =>
        obtain ⟨hi, r⟩ := hh
        exact ⟨blt_lt hb.1.2, r⟩
      | mp kd es =>
        obtain ⟨b, arr, clock, h1, h2, h3⟩ := hh
        exact ⟨b, arr, clock, h1, h2, h3.back hb.1.2⟩
      | mr kd es left cur =>
        obtain ⟨b, arr, clock, seen, h1, h2, h3, h4, h5⟩ := hh
        exact ⟨b, arr, clock, seen, h1, h2, h3, h4.back hb.1.2, h5⟩
      | me kd es k st =>
        obtain ⟨_, b, arr, clock, h1, h2, h3, h4⟩ := hh
        have hb2 := hb.1.2
        simp only [idbR, Bool.and_eq_true] at hb2
        exact ⟨blt_lt hb2.1, b, arr, clock, h1, h2, h3.back hb2.2, h4⟩
      | ab A => exact hh
      | mre kd es left cur k st =>
        obtain ⟨_, b, arr, clock, seen, h1, h2, h3, h4, h5⟩ := hh
        have hb2 := hb.1.2
        simp only [idbR, Bool.and_eq_true] at hb2
        exact ⟨blt_lt hb2.1, b, arr, clock, seen, h1, h2, h3, h4.back hb2.2, h5⟩
      | itr m =>
        obtain ⟨_, h2, h3⟩ := hh
        exact ⟨blt_lt hb.1.2, h2, h3⟩
    have hnotin : f id ∉ hids f r := (List.nodup_cons.1 hnd).1
    refine ⟨⟨h.ro, fun y hy => ?_, ?_, fun b hbm => ?_, fun y hy => ?_⟩, fun b hbm => ?_⟩
    · rcases List.mem_cons.1 hy with rfl | hy
      · exact hx
      · exact ih.holds y hy
    · rw [blks_cons]
      refine List.nodup_append.2 ⟨by rw [hbl]; exact blocks_nodup h.nodup hmem, ih.nodup, fun b hb1 c hc e => ?_⟩
      subst e
      rw [hbl] at hb1
      obtain ⟨y, hy, hyi, hby⟩ := ihb b hc
      exact blks_apart h.nodup hmem hy (fun e => hnotin (by rw [show f id = y.1 from e]; exact hyi)) b hb1 hby
    · rw [blks_cons] at hbm
      rcases List.mem_append.1 hbm with h1 | h1
      · rw [hbl] at h1
        exact h.free b (List.mem_flatMap.2 ⟨_, hmem, h1⟩)
      · exact ih.free b h1
    · rcases List.mem_cons.1 hy with rfl | hy
      · exact hid
      · exact ih.ids y hy
    · rw [blks_cons] at hbm
      rcases List.mem_append.1 hbm with h1 | h1
      · rw [hbl] at h1
        exact ⟨_, hmem, by simp [hids], h1⟩
      · obtain ⟨y, hy, hyi, hby⟩ := ihb b h1
        exact ⟨y, hy, by simp [hids, hyi], hby⟩

theorem leρ_env {H : Hid} {f : Nat → Nat} {n : Nat} {ρ : Env} {a : Act} (h : EnvOk H ρ a) : ∀ {ρI : Env}, leρ f ρI ρ → idbE n ρI = true → EnvOk (H.via f n) ρI a
  | [], _, _ => fun t g hl => by simp [look] at hl
  | (s, g) :: r, hl, hb => by
    simp only [leρ] at hl
    simp only [idbE, Bool.and_eq_true] at hb
    have ih := leρ_env h hl.2 hb.2
    intro t g' hg'
    unfold look at hg'
    cases hbb : Nat.beq s t with
    | true =>
      rw [hbb] at hg'
      have := beq_eq hbb
      subst this
      simp at hg'
      subst hg'
      exact ren_back (h s _ hl.1) hb.1
    | false => rw [hbb] at hg'; exact ih t g' (by simpa using hg')

section
variable {cx : Cx} {T : Post}

theorem weaken {H : Hid} {a : Act} {w : World} {f : Nat → Nat} {I s : St} (hg : GlOk cx.pg H) (hs : Sim cx H s w) (ha : ActOk cx H s.ρ a) (hl : Le cx.n0 f I s) : ∃ H', GlOk cx.pg H' ∧ Sim cx H' I w ∧ ActOk cx H' I.ρ a := by
  obtain ⟨h1, h2, h3, h4, h5⟩ := and5 hl.chk
  obtain ⟨hsat, hbl⟩ := hs.sat.part hl.σ h2 h3
  have hfix := fixB_fix h4
  have hn := Nat.le_of_ble_eq_true h5
  refine ⟨H.via f I.n, ⟨hg.gl, hg.ex⟩, ⟨rfl, hsat, ?_⟩, ⟨leρ_env ha.env hl.ρ h1, ha.size, ha.defers⟩⟩
  have hfr := hs.fr
  refine ⟨hfr.os, hfr.tape, hfr.output, hfr.size, hfr.keep, fun b hb => ?_, hfr.fro, ⟨by rw [cx.h0]; exact hn, hfr.le.ro, fun i hi => ?_, fun i hi => ?_⟩⟩
  · obtain ⟨x, hx, _, hbx⟩ := hbl b hb
    exact hfr.own b (List.mem_flatMap.2 ⟨x, hx, hbx⟩)
  · show H.bl (f i) = _
    rw [hfix i (by rw [← cx.h0]; exact hi)]
    exact hfr.le.bl i hi
  · show H.sv (f i) = _
    rw [hfix i (by rw [← cx.h0]; exact hi)]
    exact hfr.le.sv i hi

theorem JK.weaken {k : List It} {s : St} (f : Nat → Nat) (I : St) (hl : Le cx.n0 f I s) (h : JK cx T k I) : JK cx T k s := fun H a w hg hs ha => by
  obtain ⟨H', hg', hs', ha'⟩ := GK.weaken hg hs ha hl
  exact h H' a w hg' hs' ha'

def outT (cx : Cx) (T : Post) (k : List It) (e : Exit) (s : St) : Prop :=
  match e with
  | .normal => False
  | .exit id => (match exitTo id k with | some k' => JK cx T k' s | none => T (.exit id) s)
  | e => T e s

theorem cont_out {k : List It} {e : Exit} {H : Hid} {s : St} {a : Act} {w : World} (hg : GlOk cx.pg H) (hs : Sim cx H s w) (ha : ActOk cx H s.ρ a) (h : outT cx T k e s) : cont cx.pg.P (post cx T) k e a w := by
  cases e with
  | normal => exact h.elim
  | exit id =>
    rw [cont_exit]
    simp only [outT] at h
    cases hx : exitTo id k with
    | none => rw [hx] at h; exact ⟨H, s, hs, ha, h⟩
    | some k' => rw [hx] at h; exact h H a w hg hs ha
  | ret => rw [cont_ret]; exact ⟨H, s, hs, ha, h⟩
  | panic ch => rw [cont_panic]; exact ⟨H, s, hs, ha, h⟩
  | goto l =>
    have : ∀ (k : List It), cont cx.pg.P (post cx T) k (.goto l) a w = post cx T (.goto l) a w := by
      intro k
      induction k with
      | nil => rfl
      | cons x r ih => cases x with
        | code c => exact ih
        | blk i => exact ih
        | ops q all rest => cases q <;> exact ih
    rw [this]; exact ⟨H, s, hs, ha, h⟩
  | outgrown =>
    have : ∀ (k : List It), cont cx.pg.P (post cx T) k .outgrown a w = post cx T .outgrown a w := by
      intro k
      induction k with
      | nil => rfl
      | cons x r ih => cases x with
        | code c => exact ih
        | blk i => exact ih
        | ops q all rest => cases q <;> exact ih
    rw [this]; exact ⟨H, s, hs, ha, h⟩

def roundT {α : Type} (cx : Cx) (T : Post) (k : List It) (I : α → St) (pre : α → Prop) (m : α → Nat) (x : α) : Post := fun e s =>
  match e with
  | .normal => ∃ (y : α) (f : Nat → Nat), Le cx.n0 f (I y) s ∧ pre y ∧ m y < m x
  | e => outT cx T k e s

theorem JK.loop {α : Type} {c : Code} {k : List It} {s : St} (I : α → St) (pre : α → Prop) (m : α → Nat) (x0 : α) (f0 : Nat → Nat) (h0 : Le cx.n0 f0 (I x0) s) (hp : pre x0)
    (body : ∀ x, pre x → JK cx (roundT cx T k I pre m x) [.code c] (I x)) : JK cx T (.code (.loop c) :: k) s := by
  intro H a w hg hs ha
  obtain ⟨H1, hg1, hs1, ha1⟩ := GK.weaken hg hs ha h0
  refine wp_loop_ghost (fun n a w => ∃ H x, GlOk cx.pg H ∧ Sim cx H (I x) w ∧ ActOk cx H (I x).ρ a ∧ pre x ∧ m x = n) (m x0) ⟨H1, x0, hg1, hs1, ha1, hp, rfl⟩ ?_
  rintro n a w ⟨H, x, hg, hs, ha, hpx, rfl⟩
  have hb := body x hpx H a w hg hs ha
  have hgx : ∀ {H' : Hid}, Hid.le cx.H0 H' → GlOk cx.pg H' := fun hle => cx.g0.mono hle
  refine Code.wp_mono (fun e a' w' hq => ?_) hb
  obtain ⟨H', s', hs', ha', hT⟩ := hq
  cases e with
  | normal =>
    obtain ⟨y, f, hl, hpy, hm⟩ := hT
    obtain ⟨H2, hg2, hs2, ha2⟩ := GK.weaken (hgx hs'.fr.le) hs' ha' hl
    exact ⟨m y, hm, H2, y, hg2, hs2, ha2, hpy, rfl⟩
  | exit id => exact cont_out (hgx hs'.fr.le) hs' ha' hT
  | goto l => exact cont_out (hgx hs'.fr.le) hs' ha' hT
  | ret => exact cont_out (hgx hs'.fr.le) hs' ha' hT
  | panic ch => exact cont_out (hgx hs'.fr.le) hs' ha' hT
  | outgrown => exact cont_out (hgx hs'.fr.le) hs' ha' hT
end
end Go.GK
/-
  The ghost machine: functions and calls.
-/
namespace Go.GK
open Go.RowKit

theorem getD_of_get? {a : Array Value} {i : Nat} {v : Value} (h : a[i]? = some v) : a.getD i undef = v := by
  rw [Array.getD_eq_getD_getElem?, h]; rfl

section
variable {p : Pg} {H : Hid} {a : Act} {w : World} {s : St}

theorem resOne_run (hp : p.Ok) (hs : Sat H s.σ w) (ha : EnvOk H s.ρ a) {x : ResultVar} {g : GV} (h : resOne p s x = some g) :
    ∃ u, (match x with | .tmp t => pure (a.tmps.getD t undef) | .cell c t => do loadVar t (← asAddr (a.tmps.getD c undef)) : Sem Value).run p.P w = .ok u w ∧ Is H g u := by
  cases x with
  | tmp t => exact ⟨_, rfl, ha t g h⟩
  | cell c t =>
    simp only [resOne] at h
    split at h
    · rename_i id off ti hx hti
      obtain ⟨hv, hid⟩ := (ha c _ hx).inv_p
      split at h
      · rename_i ty cs hl
        obtain ⟨us, hw, hlen, his⟩ := hs.holds _ (hlook_mem hl)
        have e : ∀ j g, (cs.drop off)[j]? = some g → cs[off + j]? = some g := fun j g hj => by rwa [List.getElem?_drop] at hj
        have hg := gives_load (p := p) (H := H) (σ := s.σ) (a := a) (w := w) (x := .tmp c) (cs := cs.drop off) (us := fun j => us.getD (off + j) undef) (K := fun g' => g' = g) (hp.tt _ _ hti) hv
          (fun w' hb j g hj => by have hlt := (List.getElem?_eq_some_iff.1 (e j g hj)).1; exact blk_cell ((hb.blk hl).trans hw) (by omega)) (fun j g hj => his _ _ (e j g hj)) (by
            cases hag : ti.ag with
            | true =>
              rw [hag] at h
              simp only [cond_true] at h
              cases hb : Nat.ble (off + ti.sz) cs.length with
              | false => rw [hb] at h; cases h
              | true =>
                rw [hb] at h
                have := Nat.le_of_ble_eq_true hb
                simp only [cond_true, Option.some.injEq] at h
                exact ⟨by simp; omega, h⟩
            | false =>
              rw [hag] at h
              simp only [cond_false] at h ⊢
              rw [List.getElem?_drop, Nat.add_zero, h]
              rfl)
        obtain ⟨u, g', hr, hi, rfl⟩ := hg
        refine ⟨u, ?_, hi⟩
        have h1 := hr w (Agr.refl hs) { dst := none, op := .load t (.tmp c), type := 0, pos := "", after := #[], guard := none } rfl
        have hv' : a.tmps.getD c undef = .pointer (some ⟨H.bl id, off, none⟩) := hv
        simp only [execOp, Instr.loadAt, Act.eval, hv', Instr.sureAddr, Sem.run_bind, Sem.run_pure, Result.andThen_ok] at h1
        simp only [hv', asAddr, Sem.run_bind, Sem.run_pure, Result.andThen_ok]
        cases hl' : (loadVar t { block := H.bl id, off := off }).run p.P w with
        | ok v w' => rw [hl'] at h1; simp at h1; rw [h1.1, h1.2]
        | halt hh w' => rw [hl'] at h1; simp at h1
      · cases h
    · cases h

theorem resAll_run (hp : p.Ok) (hs : Sat H s.σ w) (ha : EnvOk H s.ρ a) : ∀ {rs : List ResultVar} {gs : List GV}, resAll p s rs = some gs →
    ∃ us : List Value, (rs.mapM (fun | .tmp t => pure (a.tmps.getD t undef) | .cell c t => do loadVar t (← asAddr (a.tmps.getD c undef)) : ResultVar → Sem Value)).run p.P w = .ok us w ∧ Cells H gs us.toArray
  | [], gs, h => by simp only [resAll, Option.some.injEq] at h; subst h; exact ⟨[], rfl, rfl, by simp⟩
  | x :: r, gs, h => by
    simp only [resAll] at h
    split at h
    · rename_i g gs' h1 h2
      simp only [Option.some.injEq] at h
      subst h
      obtain ⟨u, hu, hi⟩ := resOne_run hp hs ha h1
      obtain ⟨us, hus, hl, hc⟩ := resAll_run hp hs ha h2
      refine ⟨u :: us, ?_, by simp at hl ⊢; exact hl, fun j g' hj => ?_⟩
      · rw [List.mapM_cons]
        simp only [Sem.run_bind]
        have hu' := hu
        cases x <;> simp only [] at hu' ⊢ <;> rw [hu'] <;> simp only [Result.andThen_ok, hus, Sem.run_pure]
      · cases j with
        | zero => simp at hj; subst hj; simpa using hi
        | succ j => have := hc j g' (by simpa using hj); simpa using this
    · cases h

theorem argEnv_look {us : Array Value} : ∀ {args : List GV} {i : Nat}, (∀ (j : Nat) (g : GV), args[j]? = some g → Is H g (us.getD (i + j) undef)) → ∀ t g, look (argEnv i args) t = some g → Is H g (us.getD t undef) ∧ t < i + args.length
  | [], i, _, t, g, h => by simp [argEnv, look] at h
  | x :: r, i, hh, t, g, h => by
    simp only [argEnv, look] at h
    cases hb : Nat.beq i t with
    | true =>
      rw [hb] at h
      have := beq_eq hb
      subst this
      simp at h
      subst h
      exact ⟨hh 0 x rfl, by simp⟩
    | false =>
      rw [hb] at h
      have := argEnv_look (args := r) (i := i + 1) (fun j g hj => by have := hh (j + 1) g (by simpa using hj); rwa [show i + (j + 1) = i + 1 + j by omega] at this) t g (by simpa using h)
      exact ⟨this.1, by have := this.2; simp; omega⟩

theorem Fr.refl (H : Hid) (S : List Nat) (w : World) : Fr H S w H S w :=
  ⟨rfl, rfl, rfl, Nat.le_refl _, fun _ _ _ => rfl, fun _ hb => .inl hb, fun _ h h' => (h' h).elim, Hid.le.refl H⟩

theorem Ct.of_JK {f : FuncId} {fn : Func} {c : Code} {n0 N : Nat} {args : List GV} {σ : Heap} {Q : GV → Heap → Nat → Prop} (hp : p.Ok) (hf : p.P.funcs[f]? = some fn) (hb : fn.body = some c) (hN : fn.ntmps = N) (hl : Nat.ble args.length N = true) {rs : Array ResultVar} (hr : fn.results = rs)
    (h : ∀ (H0 : Hid) (S0 : List Nat) (w0 : World) (h0 : H0.n = n0) (g0 : GlOk p H0), JK ⟨p, N, n0, H0, S0, w0, h0, g0⟩ (retT p rs.toList Q) [.code c] ⟨argEnv 0 args, σ, n0⟩) : Ct p f n0 args σ Q := by
  intro H us w hn hg hc hs
  have hl' := Nat.le_of_ble_eq_true hl
  have hus : us.size = args.length := hc.1.symm
  refine calls_of_wp hf hb ?_
  have hJ := h H (blks H σ) w hn hg H { tmps := us ++ Array.replicate (fn.ntmps - us.size) undef, defers := [] } w hg ⟨hn, hs, Fr.refl _ _ _⟩ ⟨fun t g hlk => ?_, by simp [hN, hus]; omega, rfl⟩
  · refine Code.wp_mono (fun e a w' hq => ?_) hJ
    obtain ⟨H', s', hs', ha', hT⟩ := hq
    have key : (match resAll p s' rs.toList with | some gs => Q (resG gs) s'.σ s'.n | none => False) → a.defers = [] ∧ ∃ v, (results fn a.tmps).run p.P w' = .ok v w' ∧ ∃ u g H' σ', Ending.returned v = .returned u ∧ Is H' g u ∧ Sat H' σ' w' ∧ Fr H (blks H σ) w H' (blks H' σ') w' ∧ Q g σ' H'.n := by
      intro hk
      cases hra : resAll p s' rs.toList with
      | none => rw [hra] at hk; exact hk.elim
      | some gs =>
        rw [hra] at hk
        obtain ⟨vs, hvs, hcv⟩ := resAll_run hp hs'.sat ha'.env hra
        refine ⟨ha'.defers, _, ?_, (if h : vs.toArray.size = 1 then vs.toArray[0] else .tuple vs.toArray), resG gs, H', s'.σ, rfl, ?_, hs'.sat, hs'.fr, by rw [hs'.n]; exact hk⟩
        · have : (fn.results.mapM (fun | .tmp t => pure (a.tmps.getD t undef) | .cell c t => do loadVar t (← asAddr (a.tmps.getD c undef)) : ResultVar → Sem Value)).run p.P w' = .ok vs.toArray w' := by
            rw [hr, Array.mapM_eq_mapM_toList, Sem.run_map, hvs]
            rfl
          have e : results fn a.tmps = (fn.results.mapM (fun | .tmp t => pure (a.tmps.getD t undef) | .cell c t => do loadVar t (← asAddr (a.tmps.getD c undef)) : ResultVar → Sem Value) >>= fun vs => pure (if h : vs.size = 1 then vs[0] else .tuple vs)) := rfl
          rw [e, Sem.run_bind, this]
          rfl
        · have hlen := hcv.1
          simp at hlen
          by_cases h1 : vs.toArray.size = 1
          · rw [dif_pos h1]
            match gs, hcv, hlen with
            | [g], hcv, _ =>
              have := hcv.2 0 g rfl
              simp at h1
              match vs, h1 with
              | [v], _ => simpa [resG] using this
            | [], _, hlen => simp at h1 hlen; omega
            | _ :: _ :: _, _, hlen => simp at h1 hlen; omega
          · rw [dif_neg h1]
            match gs, hcv, hlen with
            | [g], hcv, hlen => simp at h1 hlen; omega
            | [], hcv, _ => exact .tup hcv.1 hcv.2
            | _ :: _ :: _, hcv, _ => exact .tup hcv.1 hcv.2
    cases e with
    | normal => exact key hT
    | ret => exact key hT
    | exit id => exact hT.elim
    | goto l => exact hT.elim
    | panic ch => exact hT.elim
    | outgrown => exact hT.elim
  · obtain ⟨h1, h2⟩ := argEnv_look (H := H) (us := us) (args := args) (i := 0) (fun j g hj => by simpa using hc.2 j g hj) t g hlk
    have : (us ++ Array.replicate (fn.ntmps - us.size) undef).getD t undef = us.getD t undef := by
      have hlt : t < us.size := by omega
      simp only [Array.getD_eq_getD_getElem?]
      rw [Array.getElem?_append_left hlt]
    rw [this]
    exact h1
end
end Go.GK
/-
  The ghost machine: calls.
-/
namespace Go.GK
open Go.RowKit

mutual
theorem ren_id : ∀ g : GV, ren id g = g
  | .v _ | .b _ | .p _ _ | .e _ _ _ _ | .o _ | .r _ | .sl _ _ => rfl
  | .agg cs => by simp only [ren, renL_id cs]
  | .tup cs => by simp only [ren, renL_id cs]
  | .fn f aas cs => by simp only [ren, renL_id aas, renL_id cs]
  | .ifc t x => by simp only [ren, ren_id x]
theorem renL_id : ∀ l : List GV, renL id l = l
  | [] => rfl
  | g :: r => by simp only [renL, ren_id g, renL_id r]
end

theorem gdOk_wanted {H : Hid} {all : List Oper} {ρ : Env} {o : Oper} {a : Act} (ha : EnvOk H ρ a) (h : gdOk all ρ o.guard = true) : Region.wanted o (yielded all.toArray a.tmps) = true := by
  unfold gdOk at h
  split at h
  · rename_i hg; exact wanted_none hg
  · rename_i j want hg
    split at h
    · rename_i oj hj
      split at h
      · rename_i d hd
        split at h
        · rename_i t hl
          rw [wanted_at hg hj hd (ha d _ hl).inv_v]
          exact h
        · rename_i t hl
          rw [wanted_at hg hj hd (ha d _ hl).inv_b]
          exact h
        · cases h
      · cases h
    · cases h

theorem gdNo_wanted {H : Hid} {all : List Oper} {ρ : Env} {o : Oper} {a : Act} (ha : EnvOk H ρ a) (h : gdNo all ρ o.guard = true) : Region.wanted o (yielded all.toArray a.tmps) = false := by
  unfold gdNo at h
  split at h
  · cases h
  · rename_i j want hg
    split at h
    · rename_i oj hj
      split at h
      · rename_i d hd
        split at h
        · rename_i t hl
          rw [wanted_at hg hj hd (ha d _ hl).inv_v]
          revert h; cases t <;> cases want <;> simp
        · rename_i t hl
          rw [wanted_at hg hj hd (ha d _ hl).inv_b]
          revert h; cases t <;> cases want <;> simp
        · rename_i vs hl
          exact wanted_not hg hj hd (ha d _ hl).inv_v
        · cases h
      · cases h
    · cases h

theorem hrest_mem {is : List Nat} : ∀ {σ : Heap} {x : Nat × Res}, x ∈ hrest is σ → x ∈ σ ∧ x.1 ∉ is
  | [], x, h => by simp [hrest] at h
  | (id, y) :: r, x, h => by
    unfold hrest at h
    cases hb : memB id is with
    | true => rw [hb] at h; have := hrest_mem (σ := r) (by simpa using h); exact ⟨List.mem_cons_of_mem _ this.1, this.2⟩
    | false =>
      rw [hb] at h
      rcases List.mem_cons.1 (by simpa using h) with rfl | h
      · exact ⟨List.mem_cons_self, fun hm => by rw [memB_mem.2 hm] at hb; cases hb⟩
      · have := hrest_mem h
        exact ⟨List.mem_cons_of_mem _ this.1, this.2⟩

theorem hrest_nodup {H : Hid} {is : List Nat} : ∀ {σ : Heap}, (blks H σ).Nodup → (blks H (hrest is σ)).Nodup
  | [], _ => by simp [hrest, blks]
  | (id, y) :: r, h => by
    rw [blks_cons] at h
    have h1 := List.nodup_append.1 h
    unfold hrest
    cases hb : memB id is with
    | true => exact hrest_nodup h1.2.1
    | false =>
      simp only [cond_false]
      rw [blks_cons]
      refine List.nodup_append.2 ⟨h1.1, hrest_nodup h1.2.1, fun b hb1 c hc e => ?_⟩
      obtain ⟨x, hx, hbx⟩ := List.mem_flatMap.1 hc
      exact h1.2.2 b hb1 c (List.mem_flatMap.2 ⟨x, (hrest_mem hx).1, hbx⟩) e

theorem cells_app {H : Hid} {cs gs : List GV} {us vs : Array Value} (h : Cells H cs us) (k : Cells H gs vs) : Cells H (cs ++ gs) (us ++ vs) := by
  refine ⟨by simp [h.1, k.1], fun j g hj => ?_⟩
  simp only [Array.getD_eq_getD_getElem?]
  by_cases hlt : j < cs.length
  · rw [List.getElem?_append_left hlt] at hj
    rw [Array.getElem?_append_left (by rw [← h.1]; exact hlt)]
    have := h.2 j g hj
    rwa [Array.getD_eq_getD_getElem?] at this
  · rw [List.getElem?_append_right (by omega)] at hj
    rw [Array.getElem?_append_right (by rw [← h.1]; omega)]
    have := k.2 _ g hj
    rwa [Array.getD_eq_getD_getElem?, h.1] at this

theorem evs_cells {p : Pg} {H : Hid} (hg : GlOk p H) {ρ : Env} {a : Act} (h : EnvOk H ρ a) {xs : Array Operand} {gs : List GV} (he : evs p ρ xs.toList = some gs) : Cells H gs (xs.map a.eval) := by
  obtain ⟨hl, hi⟩ := evs_is hg h he
  refine ⟨by simpa using hl, fun j g hj => ?_⟩
  obtain ⟨x, hx, his⟩ := hi j g hj
  have : (xs.map a.eval).getD j undef = a.eval x := by
    have hx' : xs[j]? = some x := by simpa using hx
    rw [Array.getD_eq_getD_getElem?, Array.getElem?_map, hx']
    rfl
  rw [this]
  exact his

theorem cells_back {H : Hid} {f : Nat → Nat} {n : Nat} {cs : List GV} {us : Array Value} (h : Cells H (renL f cs) us) (hb : idbL n cs = true) : Cells (H.via f n) cs us :=
  ⟨by rw [← h.1, renL_len], renL_back cs h.2 hb⟩

theorem mem_renH {f : Nat → Nat} : ∀ {σ : Heap} {x : Nat × Res}, x ∈ renH f σ → ∃ y ∈ σ, x = (f y.1, renR f y.2)
  | [], x, h => by simp [renH] at h
  | (id, r) :: t, x, h => by
    simp only [renH, List.mem_cons] at h
    rcases h with rfl | h
    · exact ⟨_, List.mem_cons_self, rfl⟩
    · obtain ⟨y, hy, e⟩ := mem_renH h
      exact ⟨y, List.mem_cons_of_mem _ hy, e⟩

theorem blks_renH {H H' : Hid} {f : Nat → Nat} (hbl : ∀ i, i < H.n → H'.bl (f i) = H.bl i ∧ H'.sv (f i) = H.sv i) : ∀ {σ : Heap}, (∀ x ∈ σ, x.1 < H.n) → blks H' (renH f σ) = blks H σ
  | [], _ => rfl
  | (id, r) :: t, h => by
    simp only [renH]
    rw [blks_cons, blks_cons, blks_renH hbl (fun x hx => h x (List.mem_cons_of_mem _ hx))]
    have := hbl id (h _ List.mem_cons_self)
    congr 1
    cases r <;> simp [blocks, renR, this.1, this.2]

theorem esIs_ren {H H' : Hid} {f : Nat → Nat} (hro : ∀ b o, H.ro b = some o → H'.ro b = some o) (hf : ∀ i, i < H.n → f i < H'.n ∧ H'.bl (f i) = H.bl i ∧ H'.sv (f i) = H.sv i) : ∀ {es : List (Value × GV)} {l : List MapEntry}, esIs H es l → esIs H' (renM f es) l
  | [], [], _ => trivial
  | (_, _) :: r, _ :: _, h => ⟨h.1, h.2.1.ren hro hf, esIs_ren hro hf (es := r) h.2.2⟩
  | [], _ :: _, h => h.elim
  | _ :: _, [], h => h.elim
theorem MapOk.ren {H H' : Hid} {f : Nat → Nat} (hro : ∀ b o, H.ro b = some o → H'.ro b = some o) (hf : ∀ i, i < H.n → f i < H'.n ∧ H'.bl (f i) = H.bl i ∧ H'.sv (f i) = H.sv i) {kd : Option IntKind} {es : List (Value × GV)} {arr : Array MapEntry} {clock : Nat} (h : MapOk H kd es arr clock) : MapOk H' kd (renM f es) arr clock :=
  ⟨esIs_ren hro hf h.is, h.sorts, h.st⟩
theorem holds_ren {H H' : Hid} {w : World} {f : Nat → Nat} (hro : ∀ b o, H.ro b = some o → H'.ro b = some o) (hf : ∀ i, i < H.n → f i < H'.n ∧ H'.bl (f i) = H.bl i ∧ H'.sv (f i) = H.sv i) {x : Nat × Res} (hx : x.1 < H.n) (h : holds H w x) : holds H' w (f x.1, renR f x.2) := by
  obtain ⟨id, r⟩ := x
  obtain ⟨_, h2, h3⟩ := hf id hx
  cases r with
  | blk ty cs =>
    obtain ⟨us, hw, hl, hi⟩ := h
    refine ⟨us, by simp only; rw [h2]; exact hw, by rw [renL_len]; exact hl, fun j g hj => ?_⟩
    rw [renL_get] at hj
    cases hc : cs[j]? with
    | none => rw [hc] at hj; cases hj
    | some y => rw [hc] at hj; simp at hj; subst hj; exact (hi j y hc).ren hro hf
  | row ty sz rows =>
    obtain ⟨xs, h4, h5⟩ := h
    exact ⟨xs, by simp only; rw [h3]; exact h4, h5.mono hro⟩
  | ob o => exact (by show w.heap[H'.bl (f id)]? = some o; rw [h2]; exact h)
  | ln sz n => obtain ⟨A, c, h4, h5⟩ := h; exact ⟨A, c, by simp only; rw [h3]; exact h4, h5⟩
  | mp kd es =>
    obtain ⟨b, arr, clock, h4, h5, h6⟩ := h
    exact ⟨b, arr, clock, by simp only; rw [h3]; exact h4, h5, MapOk.ren hro hf h6⟩
  | mr kd es left cur =>
    obtain ⟨b, arr, clock, seen, h4, hne, h5, h6, h7, h8⟩ := h
    exact ⟨b, arr, clock, seen, by simp only; rw [h3]; exact h4, by simp only; rw [h2]; exact hne, h5, MapOk.ren hro hf h6, by simp only; rw [h2]; exact h7, h8⟩
  | me kd es k st =>
    obtain ⟨hi, b, arr, clock, h4, h5, h6, h7, e, he, h8, h9⟩ := h
    obtain ⟨g1, _, g3⟩ := hf st hi
    exact ⟨g1, b, arr, clock, by simp only; rw [h3]; exact h4, h5, MapOk.ren hro hf h6, h7, e, he, h8, by rw [g3]; exact h9⟩
  | ab A =>
    show A.P _ (H'.bl (f id)) (H'.sv (f id)) w
    rw [h2, h3]
    exact A.mono _ _ _ _ _ hro h
  | mre kd es left cur k st =>
    obtain ⟨hi, b, arr, clock, seen, h4, hne, h5, h6, h7, h8, h9, h10, e, he, h11, h12⟩ := h
    obtain ⟨g1, _, g3⟩ := hf st hi
    exact ⟨g1, b, arr, clock, seen, by simp only; rw [h3]; exact h4, by simp only; rw [h2]; exact hne, h5, MapOk.ren hro hf h6, by simp only; rw [h2]; exact h7, h8, h9, h10, e, he, h11, by rw [g3]; exact h12⟩
  | itr m =>
    obtain ⟨hi, h4, h5⟩ := h
    obtain ⟨g1, _, g3⟩ := hf m hi
    exact ⟨g1, by simp only; rw [h3, g3]; exact h4, by rw [g3]; exact h5⟩
  | sub i sz lo n =>
    obtain ⟨hi, A, c, h4, h5, h6, hz, h7⟩ := h
    obtain ⟨g1, _, g3⟩ := hf i hi
    refine ⟨g1, A, c, by simp only; rw [h3]; exact h4, h5, h6, hz, fun h0 => ?_⟩
    obtain ⟨g, l', c', h8, h9⟩ := h7 h0
    exact ⟨g, l', c', by rw [g3]; exact h8, h9⟩

section
variable {cx : Cx} {T : Post}

theorem Sim.call {s : St} {H : Hid} {w w' : World} (hs : Sim cx H s w) {r : Nat → Nat} {n0 : Nat} {σc σ' : Heap} {H' : Hid} (hσ : leσ r σc s.σ) (hbH : idbH n0 σc = true) (hd : distB (hids r σc) = true) (hr : ∀ i, i < n0 → r i < s.n)
    (hs' : Sat H' σ' w') (hfr : Fr (H.via r n0) (blks (H.via r n0) σc) w H' (blks H' σ') w') (ρ : Env) :
    ∃ H'', H.le H'' ∧ (∀ g u, Is H' g u → Is H'' (ren (sh r n0 s.n) g) u) ∧ Sim cx H'' ⟨ρ, renH (sh r n0 s.n) σ' ++ hrest (hids r σc) s.σ, s.n + (H'.n - n0)⟩ w' := by
  obtain ⟨hpart, hpb⟩ := hs.sat.part hσ hbH hd
  have hle := hfr.le
  have hn0 : n0 ≤ H'.n := hle.n
  have hHn := hs.n
  let H'' : Hid := { ro := H'.ro, bl := fun i => if i < s.n then H.bl i else H'.bl (n0 + (i - s.n)), sv := fun i => if i < s.n then H.sv i else H'.sv (n0 + (i - s.n)), n := s.n + (H'.n - n0) }
  have hleH : H.le H'' := ⟨by show H.n ≤ s.n + _; omega, fun b o h => hle.ro b o h, fun i hi => by show (if i < s.n then _ else _) = _; rw [if_pos (by omega)], fun i hi => by show (if i < s.n then _ else _) = _; rw [if_pos (by omega)]⟩
  have hf : ∀ i, i < H'.n → sh r n0 s.n i < H''.n ∧ H''.bl (sh r n0 s.n i) = H'.bl i ∧ H''.sv (sh r n0 s.n i) = H'.sv i := by
    intro i hi
    unfold sh
    cases hb : Nat.blt i n0 with
    | true =>
      have hlt := blt_lt hb
      have h1 := hr i hlt
      simp only [cond_true]
      refine ⟨by show r i < s.n + _; omega, ?_, ?_⟩
      · show (if r i < s.n then H.bl (r i) else _) = _
        rw [if_pos h1]
        exact (hle.bl i hlt).symm
      · show (if r i < s.n then H.sv (r i) else _) = _
        rw [if_pos h1]
        exact (hle.sv i hlt).symm
    | false =>
      have hge : n0 ≤ i := by
        rcases Nat.lt_or_ge i n0 with h | h
        · rw [← Nat.blt_eq] at h; rw [h] at hb; cases hb
        · exact h
      simp only [cond_false]
      refine ⟨by show s.n + (i - n0) < s.n + _; omega, ?_, ?_⟩
      · show (if s.n + (i - n0) < s.n then _ else H'.bl (n0 + (s.n + (i - n0) - s.n))) = _
        rw [if_neg (by omega), show n0 + (s.n + (i - n0) - s.n) = i by omega]
      · show (if s.n + (i - n0) < s.n then _ else H'.sv (n0 + (s.n + (i - n0) - s.n))) = _
        rw [if_neg (by omega), show n0 + (s.n + (i - n0) - s.n) = i by omega]
  have hro : ∀ b o, H'.ro b = some o → H''.ro b = some o := fun _ _ h => h
  have hblσ : blks H'' (renH (sh r n0 s.n) σ') = blks H' σ' := blks_renH (fun i hi => (hf i hi).2) hs'.ids
  have hblr : blks H'' (hrest (hids r σc) s.σ) = blks H (hrest (hids r σc) s.σ) := blks_le hleH (fun x hx => hs.sat.ids x (hrest_mem hx).1)
  -- what is left of the caller's own things lies apart from what the callee was given
  have hapart : ∀ b ∈ blks H (hrest (hids r σc) s.σ), b < w.heap.size ∧ b ∉ blks (H.via r n0) σc ∧ b ∈ blks H s.σ := by
    intro b hb
    obtain ⟨x, hx, hbx⟩ := List.mem_flatMap.1 hb
    obtain ⟨hxσ, hxi⟩ := hrest_mem hx
    have hmem : b ∈ blks H s.σ := List.mem_flatMap.2 ⟨x, hxσ, hbx⟩
    refine ⟨hs.sat.lt b hmem, fun hc => ?_, hmem⟩
    obtain ⟨y, hy, hyi, hby⟩ := hpb b hc
    exact blks_apart hs.sat.nodup hxσ hy (fun e => hxi (by rw [e]; exact hyi)) b hbx hby
  have hsub : ∀ b ∈ blks (H.via r n0) σc, b ∈ blks H s.σ := fun b hb => by
    obtain ⟨y, hy, _, hby⟩ := hpb b hb
    exact List.mem_flatMap.2 ⟨y, hy, hby⟩
  have hcfr := hs.fr
  refine ⟨H'', hleH, fun g u h => h.ren hro hf, rfl, ⟨hs'.ro, fun x hx => ?_, ?_, fun b hb => ?_, fun x hx => ?_⟩, ?_⟩
  · rcases List.mem_append.1 hx with hx | hx
    · obtain ⟨y, hy, rfl⟩ := mem_renH hx
      exact holds_ren hro hf (hs'.ids y hy) (hs'.holds y hy)
    · obtain ⟨hxσ, _⟩ := hrest_mem hx
      refine holds_congr (w := w) (fun b hb => ?_) (holds_le hleH (hs.sat.ids x hxσ) (hs.sat.holds x hxσ))
      rw [blocks_le hleH (hs.sat.ids x hxσ)] at hb
      obtain ⟨h1, h2, _⟩ := hapart b (List.mem_flatMap.2 ⟨x, hx, hb⟩)
      exact hfr.keep b h1 h2
  · rw [blks_append, hblσ, hblr]
    refine List.nodup_append.2 ⟨hs'.nodup, hrest_nodup hs.sat.nodup, fun b hb c hc e => ?_⟩
    subst e
    obtain ⟨h1, h2, _⟩ := hapart b hc
    rcases hfr.own b hb with h | h
    · exact h2 h
    · omega
  · rw [blks_append, hblσ, hblr] at hb
    rcases List.mem_append.1 hb with hb | hb
    · exact hs'.free b hb
    · obtain ⟨h1, h2, h3⟩ := hapart b hb
      show H'.ro b = none
      cases hrb : H'.ro b with
      | none => rfl
      | some o =>
        rcases hfr.fro b (hs.sat.free b h3) (by rw [hrb]; simp) with h | h
        · exact (h2 h).elim
        · omega
  · rcases List.mem_append.1 hx with hx | hx
    · obtain ⟨y, hy, rfl⟩ := mem_renH hx
      exact (hf _ (hs'.ids y hy)).1
    · have := hs.sat.ids x (hrest_mem hx).1
      show x.1 < s.n + _
      omega
  · refine ⟨hfr.os.trans hcfr.os, hfr.tape.trans hcfr.tape, hfr.output.trans hcfr.output, Nat.le_trans hcfr.size hfr.size, fun b h1 h2 => ?_, fun b hb => ?_, fun b h1 h2 => ?_, hcfr.le.trans hleH⟩
    · rw [hfr.keep b (Nat.lt_of_lt_of_le h1 hcfr.size) (fun hb => ?_)]
      · exact hcfr.keep b h1 h2
      · rcases hcfr.own b (hsub b hb) with h | h
        · exact h2 h
        · omega
    · simp only at hb
      rw [blks_append, hblσ, hblr] at hb
      rcases List.mem_append.1 hb with hb | hb
      · rcases hfr.own b hb with h | h
        · exact hcfr.own b (hsub b h)
        · exact .inr (Nat.le_trans hcfr.size h)
      · exact hcfr.own b (hapart b hb).2.2
    · by_cases h3 : H.ro b = none
      · rcases hfr.fro b h3 h2 with h | h
        · exact hcfr.own b (hsub b h)
        · exact .inr (Nat.le_trans hcfr.size h)
      · exact hcfr.fro b h1 h3

theorem execOp_call {p : Pg} {H : Hid} (hg : GlOk p H) {ρ : Env} {a : Act} (ha : EnvOk H ρ a) {fo : Operand} {args : Array Operand} {ts : Array TypeId} {f : FuncId} {first caps gs : List GV} (hf : ev p ρ fo = some (.fn (.func f) first caps)) (he : evs p ρ args.toList = some gs)
    (hcall : ∀ aas w, (callFunc f aas).run p.P w = .ok (.enter f aas) w) : ∃ us, Cells H (first ++ gs ++ caps) us ∧ ∀ (o : Oper), o.op = .call { callee := .value fo, args := args, argTypes := ts } → ∀ w, (execOp a.eval o).run p.P w = .ok (.enter f us) w := by
  obtain ⟨fs, cs, hv, hl, hi, hl', hi'⟩ := (ev_is hg ha hf).inv_fn
  refine ⟨fs ++ args.map a.eval ++ cs, cells_app (cells_app ⟨hl, hi⟩ (evs_cells hg ha he)) ⟨hl', hi'⟩, fun o ho w => ?_⟩
  simp only [execOp, ho, resolve, hv, Deferred.ofValue, Sem.run_bind, Sem.run_pure, Result.andThen_ok, invoke, hcall]

theorem call_wp {o : Oper} {s : St} {fo : Operand} {args : Array Operand} {ts : Array TypeId} {f : FuncId} {first caps gs : List GV} {n0 : Nat} {cargs : List GV} {σc : Heap} {Q : GV → Heap → Nat → Prop}
    (hct : Ct cx.pg f n0 cargs σc Q) (hcall : ∀ aas w, (callFunc f aas).run cx.pg.P w = .ok (.enter f aas) w) (r : Nat → Nat)
    (ho : o.op = .call { callee := .value fo, args := args, argTypes := ts }) {ρ : Env} (hf : ev cx.pg ρ fo = some (.fn (.func f) first caps)) (he : evs cx.pg ρ args.toList = some gs)
    (hargs : first ++ gs ++ caps = renL r cargs) (hσ : leσ r σc s.σ) (chk : (idbL n0 cargs && idbH n0 σc && distB (hids r σc)) = true) (hr : ∀ i, i < n0 → r i < s.n)
    {H : Hid} {a : Act} {w : World} (hg : GlOk cx.pg H) (hs : Sim cx H s w) (ha : EnvOk H ρ a) {K : Act → World → Prop} {Q' : Exit → Act → World → Prop}
    (hK : ∀ (H'' : Hid) (u : Value) (g : GV) (σ' : Heap) (n' : Nat) (w' : World), H.le H'' → Is H'' (ren (sh r n0 s.n) g) u → Q g σ' n' → (∀ ρ, Sim cx H'' ⟨ρ, renH (sh r n0 s.n) σ' ++ hrest (hids r σc) s.σ, s.n + (n' - n0)⟩ w') → K (a.put o.dst u) w') :
    o.wp cx.pg.P a w K Q' := by
  simp only [Bool.and_eq_true] at chk
  obtain ⟨⟨h1, h2⟩, h3⟩ := chk
  obtain ⟨us, hc, hex⟩ := execOp_call (ts := ts) hg ha hf he hcall
  rw [hargs] at hc
  have hpart := (hs.sat.part hσ h2 h3).1
  have hC := hct (H.via r n0) us w rfl hg.re (cells_back hc h1) hpart
  unfold Oper.wp
  rw [hex o ho w, Oper.upon_enter]
  refine hC.mono ?_
  rintro e w' ⟨u, g, H', σ', rfl, hi, hs', hfr, hQ⟩
  obtain ⟨H'', hle, hren, hsim⟩ := hs.call hσ h2 h3 hr hs' hfr s.ρ
  exact hK H'' u g σ' H'.n w' hle (hren g u hi) hQ (fun ρ => hsim.ρ ρ)

theorem JK.call {all : List Oper} {o : Oper} {rest : List Oper} {k : List It} {s : St} {fo : Operand} {args : Array Operand} {ts : Array TypeId} {f : FuncId} {first caps gs : List GV} {n0 : Nat} {cargs : List GV} {σc : Heap} {Q : GV → Heap → Nat → Prop}
    (hct : Ct cx.pg f n0 cargs σc Q) (hcall : ∀ aas w, (callFunc f aas).run cx.pg.P w = .ok (.enter f aas) w) (r : Nat → Nat)
    (ho : o.op = .call { callee := .value fo, args := args, argTypes := ts }) (hgd : gdOk all s.ρ o.guard = true) (hf : ev cx.pg s.ρ fo = some (.fn (.func f) first caps)) (he : evs cx.pg s.ρ args.toList = some gs)
    (hargs : first ++ gs ++ caps = renL r cargs) (hσ : leσ r σc s.σ) (chk : (idbL n0 cargs && idbH n0 σc && distB (hids r σc)) = true) (hr : ∀ i, i < n0 → r i < s.n)
    (h : ∀ g σ' n', Q g σ' n' → nf (ren (sh r n0 s.n) g) fun g => nfH (renH (sh r n0 s.n) σ' ++ hrest (hids r σc) s.σ) fun σ => nfN (s.n + (n' - n0)) fun n => dput cx.N s.ρ o.dst g fun ρ' => JK cx T (.ops false all rest :: k) ⟨ρ', σ, n⟩) :
    JK cx T (.ops false all (o :: rest) :: k) s := by
  intro H a w hg hs ha
  have hw := gdOk_wanted (o := o) ha.env hgd
  show wpList _ _ _ _ _ _
  unfold wpList
  rw [if_pos hw]
  refine .inl (call_wp hct hcall r ho hf he hargs hσ chk hr hg hs ha.env fun H'' u g σ' n' w' hle hi hQ hsim => ?_)
  have hd := h g σ' n' hQ
  rw [nf_eq, nfH_eq, nfN_eq] at hd
  obtain ⟨ρ', ha', hJ⟩ := (ha.mono hle).dput hi hd
  exact hJ H'' (a.put o.dst u) w' (hg.mono hle) (hsim ρ') ha'

end
end Go.GK
