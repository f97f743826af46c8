/-
  The ghost machine: functions and calls.
-/
import Derived.Test.YtfagagfokmlgiaaGK6
namespace Go.GK
open Go.RowKit

theorem getD_of_get? {a : Array Value} {i : Nat} {v : Value} (h : a[i]? = some v) : a.getD i undef = v := by
  rw [Array.getD_eq_getD_getElem?, h]; rfl

section
variable {p : Pg} {H : Hid} {a : Act} {w : World} {s : St}

theorem resOne_run (hp : p.Ok) (hs : Sat H s.σ w) (ha : EnvOk H s.ρ a) {x : ResultVar} {g : GV} (h : resOne p s x = some g) :
    ∃ u, (match x with | .tmp t => pure (a.tmps.getD t undef) | .cell c t => do loadVar t (← asAddr (a.tmps.getD c undef)) : Sem Value).run p.P w = .ok u w ∧ Is H g u := by
  cases x with
  | tmp t => exact ⟨_, rfl, ha t g h⟩
  | cell c t =>
    simp only [resOne] at h
    split at h
    · rename_i id off ti hx hti
      obtain ⟨hv, hid⟩ := (ha c _ hx).inv_p
      split at h
      · rename_i ty cs hl
        obtain ⟨us, hw, hlen, his⟩ := hs.holds _ (hlook_mem hl)
        have e : ∀ j g, (cs.drop off)[j]? = some g → cs[off + j]? = some g := fun j g hj => by rwa [List.getElem?_drop] at hj
        have hg := gives_load (p := p) (H := H) (σ := s.σ) (a := a) (w := w) (x := .tmp c) (cs := cs.drop off) (us := fun j => us.getD (off + j) undef) (K := fun g' => g' = g) (hp.tt _ _ hti) hv
          (fun w' hb j g hj => by have hlt := (List.getElem?_eq_some_iff.1 (e j g hj)).1; exact blk_cell ((hb.blk hl).trans hw) (by omega)) (fun j g hj => his _ _ (e j g hj)) (by
            cases hag : ti.ag with
            | true =>
              rw [hag] at h
              simp only [cond_true] at h
              cases hb : Nat.ble (off + ti.sz) cs.length with
              | false => rw [hb] at h; cases h
              | true =>
                rw [hb] at h
                have := Nat.le_of_ble_eq_true hb
                simp only [cond_true, Option.some.injEq] at h
                exact ⟨by simp; omega, h⟩
            | false =>
              rw [hag] at h
              simp only [cond_false] at h ⊢
              rw [List.getElem?_drop, Nat.add_zero, h]
              rfl)
        obtain ⟨u, g', hr, hi, rfl⟩ := hg
        refine ⟨u, ?_, hi⟩
        have h1 := hr w (Agr.refl hs) { dst := none, op := .load t (.tmp c), type := 0, pos := "", after := #[], guard := none } rfl
        have hv' : a.tmps.getD c undef = .pointer (some ⟨H.bl id, off, none⟩) := hv
        simp only [execOp, Instr.loadAt, Act.eval, hv', Instr.sureAddr, Sem.run_bind, Sem.run_pure, Result.andThen_ok] at h1
        simp only [hv', asAddr, Sem.run_bind, Sem.run_pure, Result.andThen_ok]
        cases hl' : (loadVar t { block := H.bl id, off := off }).run p.P w with
        | ok v w' => rw [hl'] at h1; simp at h1; rw [h1.1, h1.2]
        | halt hh w' => rw [hl'] at h1; simp at h1
      · cases h
    · cases h

theorem resAll_run (hp : p.Ok) (hs : Sat H s.σ w) (ha : EnvOk H s.ρ a) : ∀ {rs : List ResultVar} {gs : List GV}, resAll p s rs = some gs →
    ∃ us : List Value, (rs.mapM (fun | .tmp t => pure (a.tmps.getD t undef) | .cell c t => do loadVar t (← asAddr (a.tmps.getD c undef)) : ResultVar → Sem Value)).run p.P w = .ok us w ∧ Cells H gs us.toArray
  | [], gs, h => by simp only [resAll, Option.some.injEq] at h; subst h; exact ⟨[], rfl, rfl, by simp⟩
  | x :: r, gs, h => by
    simp only [resAll] at h
    split at h
    · rename_i g gs' h1 h2
      simp only [Option.some.injEq] at h
      subst h
      obtain ⟨u, hu, hi⟩ := resOne_run hp hs ha h1
      obtain ⟨us, hus, hl, hc⟩ := resAll_run hp hs ha h2
      refine ⟨u :: us, ?_, by simp at hl ⊢; exact hl, fun j g' hj => ?_⟩
      · rw [List.mapM_cons]
        simp only [Sem.run_bind]
        have hu' := hu
        cases x <;> simp only [] at hu' ⊢ <;> rw [hu'] <;> simp only [Result.andThen_ok, hus, Sem.run_pure]
      · cases j with
        | zero => simp at hj; subst hj; simpa using hi
        | succ j => have := hc j g' (by simpa using hj); simpa using this
    · cases h

theorem argEnv_look {us : Array Value} : ∀ {args : List GV} {i : Nat}, (∀ (j : Nat) (g : GV), args[j]? = some g → Is H g (us.getD (i + j) undef)) → ∀ t g, look (argEnv i args) t = some g → Is H g (us.getD t undef) ∧ t < i + args.length
  | [], i, _, t, g, h => by simp [argEnv, look] at h
  | x :: r, i, hh, t, g, h => by
    simp only [argEnv, look] at h
    cases hb : Nat.beq i t with
    | true =>
      rw [hb] at h
      have := beq_eq hb
      subst this
      simp at h
      subst h
      exact ⟨hh 0 x rfl, by simp⟩
    | false =>
      rw [hb] at h
      have := argEnv_look (args := r) (i := i + 1) (fun j g hj => by have := hh (j + 1) g (by simpa using hj); rwa [show i + (j + 1) = i + 1 + j by omega] at this) t g (by simpa using h)
      exact ⟨this.1, by have := this.2; simp; omega⟩

theorem Fr.refl (H : Hid) (S : List Nat) (w : World) : Fr H S w H S w :=
  ⟨rfl, rfl, rfl, Nat.le_refl _, fun _ _ _ => rfl, fun _ hb => .inl hb, fun _ h h' => (h' h).elim, Hid.le.refl H⟩

theorem Ct.of_JK {f : FuncId} {fn : Func} {c : Code} {n0 N : Nat} {args : List GV} {σ : Heap} {Q : GV → Heap → Nat → Prop} (hp : p.Ok) (hf : p.P.funcs[f]? = some fn) (hb : fn.body = some c) (hN : fn.ntmps = N) (hl : Nat.ble args.length N = true) {rs : Array ResultVar} (hr : fn.results = rs)
    (h : ∀ (H0 : Hid) (S0 : List Nat) (w0 : World) (h0 : H0.n = n0) (g0 : GlOk p H0), JK ⟨p, N, n0, H0, S0, w0, h0, g0⟩ (retT p rs.toList Q) [.code c] ⟨argEnv 0 args, σ, n0⟩) : Ct p f n0 args σ Q := by
  intro H us w hn hg hc hs
  have hl' := Nat.le_of_ble_eq_true hl
  have hus : us.size = args.length := hc.1.symm
  refine calls_of_wp hf hb ?_
  have hJ := h H (blks H σ) w hn hg H { tmps := us ++ Array.replicate (fn.ntmps - us.size) undef, defers := [] } w hg ⟨hn, hs, Fr.refl _ _ _⟩ ⟨fun t g hlk => ?_, by simp [hN, hus]; omega, rfl⟩
  · refine Code.wp_mono (fun e a w' hq => ?_) hJ
    obtain ⟨H', s', hs', ha', hT⟩ := hq
    have key : (match resAll p s' rs.toList with | some gs => Q (resG gs) s'.σ s'.n | none => False) → a.defers = [] ∧ ∃ v, (results fn a.tmps).run p.P w' = .ok v w' ∧ ∃ u g H' σ', Ending.returned v = .returned u ∧ Is H' g u ∧ Sat H' σ' w' ∧ Fr H (blks H σ) w H' (blks H' σ') w' ∧ Q g σ' H'.n := by
      intro hk
      cases hra : resAll p s' rs.toList with
      | none => rw [hra] at hk; exact hk.elim
      | some gs =>
        rw [hra] at hk
        obtain ⟨vs, hvs, hcv⟩ := resAll_run hp hs'.sat ha'.env hra
        refine ⟨ha'.defers, _, ?_, (if h : vs.toArray.size = 1 then vs.toArray[0] else .tuple vs.toArray), resG gs, H', s'.σ, rfl, ?_, hs'.sat, hs'.fr, by rw [hs'.n]; exact hk⟩
        · have : (fn.results.mapM (fun | .tmp t => pure (a.tmps.getD t undef) | .cell c t => do loadVar t (← asAddr (a.tmps.getD c undef)) : ResultVar → Sem Value)).run p.P w' = .ok vs.toArray w' := by
            rw [hr, Array.mapM_eq_mapM_toList, Sem.run_map, hvs]
            rfl
          have e : results fn a.tmps = (fn.results.mapM (fun | .tmp t => pure (a.tmps.getD t undef) | .cell c t => do loadVar t (← asAddr (a.tmps.getD c undef)) : ResultVar → Sem Value) >>= fun vs => pure (if h : vs.size = 1 then vs[0] else .tuple vs)) := rfl
          rw [e, Sem.run_bind, this]
          rfl
        · have hlen := hcv.1
          simp at hlen
          by_cases h1 : vs.toArray.size = 1
          · rw [dif_pos h1]
            match gs, hcv, hlen with
            | [g], hcv, _ =>
              have := hcv.2 0 g rfl
              simp at h1
              match vs, h1 with
              | [v], _ => simpa [resG] using this
            | [], _, hlen => simp at h1 hlen; omega
            | _ :: _ :: _, _, hlen => simp at h1 hlen; omega
          · rw [dif_neg h1]
            match gs, hcv, hlen with
            | [g], hcv, hlen => simp at h1 hlen; omega
            | [], hcv, _ => exact .tup hcv.1 hcv.2
            | _ :: _ :: _, hcv, _ => exact .tup hcv.1 hcv.2
    cases e with
    | normal => exact key hT
    | ret => exact key hT
    | exit id => exact hT.elim
    | goto l => exact hT.elim
    | panic ch => exact hT.elim
    | outgrown => exact hT.elim
  · obtain ⟨h1, h2⟩ := argEnv_look (H := H) (us := us) (args := args) (i := 0) (fun j g hj => by simpa using hc.2 j g hj) t g hlk
    have : (us ++ Array.replicate (fn.ntmps - us.size) undef).getD t undef = us.getD t undef := by
      have hlt : t < us.size := by omega
      simp only [Array.getD_eq_getD_getElem?]
      rw [Array.getElem?_append_left hlt]
    rw [this]
    exact h1
end
end Go.GK
