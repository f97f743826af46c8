/-
  The ghost machine: calls.
-/
import Derived.Test.YtaaoljhfepmkjaaDoorGKd
import Derived.OrdersHeld

namespace Go.GK
open Go.RowKit

mutual
theorem ren_id : ∀ g : GV, ren id g = g
  | .v _ | .b _ | .p _ _ | .e _ _ _ _ | .o _ | .r _ | .sl _ _ => rfl
  | .agg cs => by simp only [ren, renL_id cs]
  | .tup cs => by simp only [ren, renL_id cs]
  | .fn f as cs => by simp only [ren, renL_id as, renL_id cs]
  | .ifc t x => by simp only [ren, ren_id x]
theorem renL_id : ∀ l : List GV, renL id l = l
  | [] => rfl
  | g :: r => by simp only [renL, ren_id g, renL_id r]
end

theorem gdOk_wanted {H : Hid} {all : List Oper} {ρ : Env} {o : Oper} {a : Act} (ha : EnvOk H ρ a) (h : gdOk all ρ o.guard = true) : Region.wanted o (yielded all.toArray a.tmps) = true := by
  unfold gdOk at h
  split at h
  · rename_i hg; exact wanted_none hg
  · rename_i j want hg
    split at h
    · rename_i oj hj
      split at h
      · rename_i d hd
        split at h
        · rename_i t hl
          rw [wanted_at hg hj hd (ha d _ hl).inv_v]
          exact h
        · rename_i t hl
          rw [wanted_at hg hj hd (ha d _ hl).inv_b]
          exact h
        · cases h
      · cases h
    · cases h

theorem gdNo_wanted {H : Hid} {all : List Oper} {ρ : Env} {o : Oper} {a : Act} (ha : EnvOk H ρ a) (h : gdNo all ρ o.guard = true) : Region.wanted o (yielded all.toArray a.tmps) = false := by
  unfold gdNo at h
  split at h
  · cases h
  · rename_i j want hg
    split at h
    · rename_i oj hj
      split at h
      · rename_i d hd
        split at h
        · rename_i t hl
          rw [wanted_at hg hj hd (ha d _ hl).inv_v]
          revert h; cases t <;> cases want <;> simp
        · rename_i t hl
          rw [wanted_at hg hj hd (ha d _ hl).inv_b]
          revert h; cases t <;> cases want <;> simp
        · rename_i vs hl
          exact wanted_not hg hj hd (ha d _ hl).inv_v
        · cases h
      · cases h
    · cases h

theorem hrest_mem {is : List Nat} : ∀ {σ : Heap} {x : Nat × Res}, x ∈ hrest is σ → x ∈ σ ∧ x.1 ∉ is
  | [], x, h => by simp [hrest] at h
  | (id, y) :: r, x, h => by
    unfold hrest at h
    cases hb : memB id is with
    | true => rw [hb] at h; have := hrest_mem (σ := r) (by simpa using h); exact ⟨List.mem_cons_of_mem _ this.1, this.2⟩
    | false =>
      rw [hb] at h
      rcases List.mem_cons.1 (by simpa using h) with rfl | h
      · exact ⟨List.mem_cons_self, fun hm => by rw [memB_mem.2 hm] at hb; cases hb⟩
      · have := hrest_mem h
        exact ⟨List.mem_cons_of_mem _ this.1, this.2⟩

theorem hrest_nodup {H : Hid} {is : List Nat} : ∀ {σ : Heap}, (blks H σ).Nodup → (blks H (hrest is σ)).Nodup
  | [], _ => by simp [hrest, blks]
  | (id, y) :: r, h => by
    rw [blks_cons] at h
    have h1 := List.nodup_append.1 h
    unfold hrest
    cases hb : memB id is with
    | true => exact hrest_nodup h1.2.1
    | false =>
      simp only [cond_false]
      rw [blks_cons]
      refine List.nodup_append.2 ⟨h1.1, hrest_nodup h1.2.1, fun b hb1 c hc e => ?_⟩
      obtain ⟨x, hx, hbx⟩ := List.mem_flatMap.1 hc
      exact h1.2.2 b hb1 c (List.mem_flatMap.2 ⟨x, (hrest_mem hx).1, hbx⟩) e

theorem cells_app {H : Hid} {cs gs : List GV} {us vs : Array Value} (h : Cells H cs us) (k : Cells H gs vs) : Cells H (cs ++ gs) (us ++ vs) := by
  refine ⟨by simp [h.1, k.1], fun j g hj => ?_⟩
  simp only [Array.getD_eq_getD_getElem?]
  by_cases hlt : j < cs.length
  · rw [List.getElem?_append_left hlt] at hj
    rw [Array.getElem?_append_left (by rw [← h.1]; exact hlt)]
    have := h.2 j g hj
    rwa [Array.getD_eq_getD_getElem?] at this
  · rw [List.getElem?_append_right (by omega)] at hj
    rw [Array.getElem?_append_right (by rw [← h.1]; omega)]
    have := k.2 _ g hj
    rwa [Array.getD_eq_getD_getElem?, h.1] at this

theorem evs_cells {p : Pg} {H : Hid} (hg : GlOk p H) {ρ : Env} {a : Act} (h : EnvOk H ρ a) {xs : Array Operand} {gs : List GV} (he : evs p ρ xs.toList = some gs) : Cells H gs (xs.map a.eval) := by
  obtain ⟨hl, hi⟩ := evs_is hg h he
  refine ⟨by simpa using hl, fun j g hj => ?_⟩
  obtain ⟨x, hx, his⟩ := hi j g hj
  have : (xs.map a.eval).getD j undef = a.eval x := by
    have hx' : xs[j]? = some x := by simpa using hx
    rw [Array.getD_eq_getD_getElem?, Array.getElem?_map, hx']
    rfl
  rw [this]
  exact his

theorem cells_back {H : Hid} {f : Nat → Nat} {n : Nat} {cs : List GV} {us : Array Value} (h : Cells H (renL f cs) us) (hb : idbL n cs = true) : Cells (H.via f n) cs us :=
  ⟨by rw [← h.1, renL_len], renL_back cs h.2 hb⟩

theorem mem_renH {f : Nat → Nat} : ∀ {σ : Heap} {x : Nat × Res}, x ∈ renH f σ → ∃ y ∈ σ, x = (f y.1, renR f y.2)
  | [], x, h => by simp [renH] at h
  | (id, r) :: t, x, h => by
    simp only [renH, List.mem_cons] at h
    rcases h with rfl | h
    · exact ⟨_, List.mem_cons_self, rfl⟩
    · obtain ⟨y, hy, e⟩ := mem_renH h
      exact ⟨y, List.mem_cons_of_mem _ hy, e⟩

theorem blks_renH {H H' : Hid} {f : Nat → Nat} (hbl : ∀ i, i < H.n → H'.bl (f i) = H.bl i ∧ H'.sv (f i) = H.sv i) : ∀ {σ : Heap}, (∀ x ∈ σ, x.1 < H.n) → blks H' (renH f σ) = blks H σ
  | [], _ => rfl
  | (id, r) :: t, h => by
    simp only [renH]
    rw [blks_cons, blks_cons, blks_renH hbl (fun x hx => h x (List.mem_cons_of_mem _ hx))]
    have := hbl id (h _ List.mem_cons_self)
    congr 1
    cases r <;> simp [blocks, renR, this.1, this.2]

theorem esIs_ren {H H' : Hid} {f : Nat → Nat} (hro : ∀ b o, H.ro b = some o → H'.ro b = some o) (hf : ∀ i, i < H.n → f i < H'.n ∧ H'.bl (f i) = H.bl i ∧ H'.sv (f i) = H.sv i) : ∀ {es : List (Value × GV)} {l : List MapEntry}, esIs H es l → esIs H' (renM f es) l
  | [], [], _ => trivial
  | (_, _) :: r, _ :: _, h => ⟨h.1, h.2.1.ren hro hf, esIs_ren hro hf (es := r) h.2.2⟩
  | [], _ :: _, h => h.elim
  | _ :: _, [], h => h.elim
theorem MapOk.ren {H H' : Hid} {f : Nat → Nat} (hro : ∀ b o, H.ro b = some o → H'.ro b = some o) (hf : ∀ i, i < H.n → f i < H'.n ∧ H'.bl (f i) = H.bl i ∧ H'.sv (f i) = H.sv i) {kd : Option IntKind} {es : List (Value × GV)} {arr : Array MapEntry} {clock : Nat} (h : MapOk H kd es arr clock) : MapOk H' kd (renM f es) arr clock :=
  ⟨esIs_ren hro hf h.is, h.sorts, h.st⟩
theorem holds_ren {H H' : Hid} {w : World} {f : Nat → Nat} (hro : ∀ b o, H.ro b = some o → H'.ro b = some o) (hf : ∀ i, i < H.n → f i < H'.n ∧ H'.bl (f i) = H.bl i ∧ H'.sv (f i) = H.sv i) {x : Nat × Res} (hx : x.1 < H.n) (h : holds H w x) : holds H' w (f x.1, renR f x.2) := by
  obtain ⟨id, r⟩ := x
  obtain ⟨_, h2, h3⟩ := hf id hx
  cases r with
  | blk ty cs =>
    obtain ⟨us, hw, hl, hi⟩ := h
    refine ⟨us, by simp only; rw [h2]; exact hw, by rw [renL_len]; exact hl, fun j g hj => ?_⟩
    rw [renL_get] at hj
    cases hc : cs[j]? with
    | none => rw [hc] at hj; cases hj
    | some y => rw [hc] at hj; simp at hj; subst hj; exact (hi j y hc).ren hro hf
  | row ty sz rows =>
    obtain ⟨xs, h4, h5⟩ := h
    exact ⟨xs, by simp only; rw [h3]; exact h4, h5.mono hro⟩
  | ob o => exact (by show w.heap[H'.bl (f id)]? = some o; rw [h2]; exact h)
  | ln sz n => obtain ⟨A, c, h4, h5⟩ := h; exact ⟨A, c, by simp only; rw [h3]; exact h4, h5⟩
  | mp kd es =>
    obtain ⟨b, arr, clock, h4, h5, h6⟩ := h
    exact ⟨b, arr, clock, by simp only; rw [h3]; exact h4, h5, MapOk.ren hro hf h6⟩
  | mr kd es left cur =>
    obtain ⟨b, arr, clock, seen, h4, hne, h5, h6, h7, h8⟩ := h
    exact ⟨b, arr, clock, seen, by simp only; rw [h3]; exact h4, by simp only; rw [h2]; exact hne, h5, MapOk.ren hro hf h6, by simp only; rw [h2]; exact h7, h8⟩
  | me kd es k st =>
    obtain ⟨hi, b, arr, clock, h4, h5, h6, h7, e, he, h8, h9⟩ := h
    obtain ⟨g1, _, g3⟩ := hf st hi
    exact ⟨g1, b, arr, clock, by simp only; rw [h3]; exact h4, h5, MapOk.ren hro hf h6, h7, e, he, h8, by rw [g3]; exact h9⟩
  | ab A =>
    show A.P _ (H'.bl (f id)) (H'.sv (f id)) w
    rw [h2, h3]
    exact A.mono _ _ _ _ _ hro h
  | mre kd es left cur k st =>
    obtain ⟨hi, b, arr, clock, seen, h4, hne, h5, h6, h7, h8, h9, h10, e, he, h11, h12⟩ := h
    obtain ⟨g1, _, g3⟩ := hf st hi
    exact ⟨g1, b, arr, clock, seen, by simp only; rw [h3]; exact h4, by simp only; rw [h2]; exact hne, h5, MapOk.ren hro hf h6, by simp only; rw [h2]; exact h7, h8, h9, h10, e, he, h11, by rw [g3]; exact h12⟩
  | itr m =>
    obtain ⟨hi, h4, h5⟩ := h
    obtain ⟨g1, _, g3⟩ := hf m hi
    exact ⟨g1, by simp only; rw [h3, g3]; exact h4, by rw [g3]; exact h5⟩
  | sub i sz lo n =>
    obtain ⟨hi, A, c, h4, h5, h6, hz, h7⟩ := h
    obtain ⟨g1, _, g3⟩ := hf i hi
    refine ⟨g1, A, c, by simp only; rw [h3]; exact h4, h5, h6, hz, fun h0 => ?_⟩
    obtain ⟨g, l', c', h8, h9⟩ := h7 h0
    exact ⟨g, l', c', by rw [g3]; exact h8, h9⟩

section
variable {cx : Cx} {T : Post}

/-- What a call does to the state. -/
theorem Sim.call {s : St} {H : Hid} {w w' : World} (hs : Sim cx H s w) {r : Nat → Nat} {n0 : Nat} {σc σ' : Heap} {H' : Hid} (hσ : leσ r σc s.σ) (hbH : idbH n0 σc = true) (hd : distB (hids r σc) = true) (hr : ∀ i, i < n0 → r i < s.n)
    (hs' : Sat H' σ' w') (hfr : Fr (H.via r n0) (blks (H.via r n0) σc) w H' (blks H' σ') w') (ρ : Env) :
    ∃ H'', H.le H'' ∧ (∀ g u, Is H' g u → Is H'' (ren (sh r n0 s.n) g) u) ∧ Sim cx H'' ⟨ρ, renH (sh r n0 s.n) σ' ++ hrest (hids r σc) s.σ, s.n + (H'.n - n0)⟩ w' := by
  obtain ⟨hpart, hpb⟩ := hs.sat.part hσ hbH hd
  have hle := hfr.le
  have hn0 : n0 ≤ H'.n := hle.n
  have hHn := hs.n
  let H'' : Hid := { ro := H'.ro, bl := fun i => if i < s.n then H.bl i else H'.bl (n0 + (i - s.n)), sv := fun i => if i < s.n then H.sv i else H'.sv (n0 + (i - s.n)), n := s.n + (H'.n - n0) }
  have hleH : H.le H'' := ⟨by show H.n ≤ s.n + _; omega, fun b o h => hle.ro b o h, fun i hi => by show (if i < s.n then _ else _) = _; rw [if_pos (by omega)], fun i hi => by show (if i < s.n then _ else _) = _; rw [if_pos (by omega)]⟩
  have hf : ∀ i, i < H'.n → sh r n0 s.n i < H''.n ∧ H''.bl (sh r n0 s.n i) = H'.bl i ∧ H''.sv (sh r n0 s.n i) = H'.sv i := by
    intro i hi
    unfold sh
    cases hb : Nat.blt i n0 with
    | true =>
      have hlt := blt_lt hb
      have h1 := hr i hlt
      simp only [cond_true]
      refine ⟨by show r i < s.n + _; omega, ?_, ?_⟩
      · show (if r i < s.n then H.bl (r i) else _) = _
        rw [if_pos h1]
        exact (hle.bl i hlt).symm
      · show (if r i < s.n then H.sv (r i) else _) = _
        rw [if_pos h1]
        exact (hle.sv i hlt).symm
    | false =>
      have hge : n0 ≤ i := by
        rcases Nat.lt_or_ge i n0 with h | h
        · rw [← Nat.blt_eq] at h; rw [h] at hb; cases hb
        · exact h
      simp only [cond_false]
      refine ⟨by show s.n + (i - n0) < s.n + _; omega, ?_, ?_⟩
      · show (if s.n + (i - n0) < s.n then _ else H'.bl (n0 + (s.n + (i - n0) - s.n))) = _
        rw [if_neg (by omega), show n0 + (s.n + (i - n0) - s.n) = i by omega]
      · show (if s.n + (i - n0) < s.n then _ else H'.sv (n0 + (s.n + (i - n0) - s.n))) = _
        rw [if_neg (by omega), show n0 + (s.n + (i - n0) - s.n) = i by omega]
  have hro : ∀ b o, H'.ro b = some o → H''.ro b = some o := fun _ _ h => h
  have hblσ : blks H'' (renH (sh r n0 s.n) σ') = blks H' σ' := blks_renH (fun i hi => (hf i hi).2) hs'.ids
  have hblr : blks H'' (hrest (hids r σc) s.σ) = blks H (hrest (hids r σc) s.σ) := blks_le hleH (fun x hx => hs.sat.ids x (hrest_mem hx).1)
  -- what is left of the caller's own things lies apart from what the callee was given
  have hapart : ∀ b ∈ blks H (hrest (hids r σc) s.σ), b < w.heap.size ∧ b ∉ blks (H.via r n0) σc ∧ b ∈ blks H s.σ := by
    intro b hb
    obtain ⟨x, hx, hbx⟩ := List.mem_flatMap.1 hb
    obtain ⟨hxσ, hxi⟩ := hrest_mem hx
    have hmem : b ∈ blks H s.σ := List.mem_flatMap.2 ⟨x, hxσ, hbx⟩
    refine ⟨hs.sat.lt b hmem, fun hc => ?_, hmem⟩
    obtain ⟨y, hy, hyi, hby⟩ := hpb b hc
    exact blks_apart hs.sat.nodup hxσ hy (fun e => hxi (by rw [e]; exact hyi)) b hbx hby
  have hsub : ∀ b ∈ blks (H.via r n0) σc, b ∈ blks H s.σ := fun b hb => by
    obtain ⟨y, hy, _, hby⟩ := hpb b hb
    exact List.mem_flatMap.2 ⟨y, hy, hby⟩
  have hcfr := hs.fr
  refine ⟨H'', hleH, fun g u h => h.ren hro hf, rfl, ⟨hs'.ro, fun x hx => ?_, ?_, fun b hb => ?_, fun x hx => ?_⟩, ?_⟩
  · rcases List.mem_append.1 hx with hx | hx
    · obtain ⟨y, hy, rfl⟩ := mem_renH hx
      exact holds_ren hro hf (hs'.ids y hy) (hs'.holds y hy)
    · obtain ⟨hxσ, _⟩ := hrest_mem hx
      refine holds_congr (w := w) (fun b hb => ?_) (holds_le hleH (hs.sat.ids x hxσ) (hs.sat.holds x hxσ))
      rw [blocks_le hleH (hs.sat.ids x hxσ)] at hb
      obtain ⟨h1, h2, _⟩ := hapart b (List.mem_flatMap.2 ⟨x, hx, hb⟩)
      exact hfr.keep b h1 h2
  · rw [blks_append, hblσ, hblr]
    refine List.nodup_append.2 ⟨hs'.nodup, hrest_nodup hs.sat.nodup, fun b hb c hc e => ?_⟩
    subst e
    obtain ⟨h1, h2, _⟩ := hapart b hc
    rcases hfr.own b hb with h | h
    · exact h2 h
    · omega
  · rw [blks_append, hblσ, hblr] at hb
    rcases List.mem_append.1 hb with hb | hb
    · exact hs'.free b hb
    · obtain ⟨h1, h2, h3⟩ := hapart b hb
      show H'.ro b = none
      cases hrb : H'.ro b with
      | none => rfl
      | some o =>
        rcases hfr.fro b (hs.sat.free b h3) (by rw [hrb]; simp) with h | h
        · exact (h2 h).elim
        · omega
  · rcases List.mem_append.1 hx with hx | hx
    · obtain ⟨y, hy, rfl⟩ := mem_renH hx
      exact (hf _ (hs'.ids y hy)).1
    · have := hs.sat.ids x (hrest_mem hx).1
      show x.1 < s.n + _
      omega
  · refine ⟨hfr.os.trans hcfr.os, hfr.tape.trans hcfr.tape, hfr.output.trans hcfr.output, Nat.le_trans hcfr.size hfr.size, fun b h1 h2 => ?_, fun b hb => ?_, fun b h1 h2 => ?_, hcfr.le.trans hleH⟩
    · rw [hfr.keep b (Nat.lt_of_lt_of_le h1 hcfr.size) (fun hb => ?_)]
      · exact hcfr.keep b h1 h2
      · rcases hcfr.own b (hsub b hb) with h | h
        · exact h2 h
        · omega
    · simp only at hb
      rw [blks_append, hblσ, hblr] at hb
      rcases List.mem_append.1 hb with hb | hb
      · rcases hfr.own b hb with h | h
        · exact hcfr.own b (hsub b h)
        · exact .inr (Nat.le_trans hcfr.size h)
      · exact hcfr.own b (hapart b hb).2.2
    · by_cases h3 : H.ro b = none
      · rcases hfr.fro b h3 h2 with h | h
        · exact hcfr.own b (hsub b h)
        · exact .inr (Nat.le_trans hcfr.size h)
      · exact hcfr.fro b h1 h3

theorem execOp_call {p : Pg} {H : Hid} (hg : GlOk p H) {ρ : Env} {a : Act} (ha : EnvOk H ρ a) {fo : Operand} {args : Array Operand} {ts : Array TypeId} {f : FuncId} {first caps gs : List GV} (hf : ev p ρ fo = some (.fn (.func f) first caps)) (he : evs p ρ args.toList = some gs)
    (hcall : ∀ as w, (callFunc f as).run p.P w = .ok (.enter f as) w) : ∃ us, Cells H (first ++ gs ++ caps) us ∧ ∀ (o : Oper), o.op = .call { callee := .value fo, args := args, argTypes := ts } → ∀ w, (execOp a.eval o).run p.P w = .ok (.enter f us) w := by
  obtain ⟨fs, cs, hv, hl, hi, hl', hi'⟩ := (ev_is hg ha hf).inv_fn
  refine ⟨fs ++ args.map a.eval ++ cs, cells_app (cells_app ⟨hl, hi⟩ (evs_cells hg ha he)) ⟨hl', hi'⟩, fun o ho w => ?_⟩
  simp only [execOp, ho, resolve, hv, Deferred.ofValue, Sem.run_bind, Sem.run_pure, Result.andThen_ok, invoke, hcall]

/-- A call, by itself. -/
theorem call_wp {o : Oper} {s : St} {fo : Operand} {args : Array Operand} {ts : Array TypeId} {f : FuncId} {first caps gs : List GV} {n0 : Nat} {cargs : List GV} {σc : Heap} {Q : GV → Heap → Nat → Prop}
    (hct : Ct cx.pg f n0 cargs σc Q) (hcall : ∀ as w, (callFunc f as).run cx.pg.P w = .ok (.enter f as) w) (r : Nat → Nat)
    (ho : o.op = .call { callee := .value fo, args := args, argTypes := ts }) {ρ : Env} (hf : ev cx.pg ρ fo = some (.fn (.func f) first caps)) (he : evs cx.pg ρ args.toList = some gs)
    (hargs : first ++ gs ++ caps = renL r cargs) (hσ : leσ r σc s.σ) (chk : (idbL n0 cargs && idbH n0 σc && distB (hids r σc)) = true) (hr : ∀ i, i < n0 → r i < s.n)
    {H : Hid} {a : Act} {w : World} (hg : GlOk cx.pg H) (hs : Sim cx H s w) (ha : EnvOk H ρ a) {K : Act → World → Prop} {Q' : Exit → Act → World → Prop}
    (hK : ∀ (H'' : Hid) (u : Value) (g : GV) (σ' : Heap) (n' : Nat) (w' : World), H.le H'' → Is H'' (ren (sh r n0 s.n) g) u → Q g σ' n' → (∀ ρ, Sim cx H'' ⟨ρ, renH (sh r n0 s.n) σ' ++ hrest (hids r σc) s.σ, s.n + (n' - n0)⟩ w') → K (a.put o.dst u) w') :
    o.wp cx.pg.P a w K Q' := by
  simp only [Bool.and_eq_true] at chk
  obtain ⟨⟨h1, h2⟩, h3⟩ := chk
  obtain ⟨us, hc, hex⟩ := execOp_call (ts := ts) hg ha hf he hcall
  rw [hargs] at hc
  have hpart := (hs.sat.part hσ h2 h3).1
  have hC := hct (H.via r n0) us w rfl hg (cells_back hc h1) hpart
  unfold Oper.wp
  rw [hex o ho w, Oper.upon_enter]
  refine hC.mono ?_
  rintro e w' ⟨u, g, H', σ', rfl, hi, hs', hfr, hQ⟩
  obtain ⟨H'', hle, hren, hsim⟩ := hs.call hσ h2 h3 hr hs' hfr s.ρ
  exact hK H'' u g σ' H'.n w' hle (hren g u hi) hQ (fun ρ => hsim.ρ ρ)

/-- A CALL of a function of which a contract is known. 'r': where the callee's own things are in the caller. -/
theorem JK.call {all : List Oper} {o : Oper} {rest : List Oper} {k : List It} {s : St} {fo : Operand} {args : Array Operand} {ts : Array TypeId} {f : FuncId} {first caps gs : List GV} {n0 : Nat} {cargs : List GV} {σc : Heap} {Q : GV → Heap → Nat → Prop}
    (hct : Ct cx.pg f n0 cargs σc Q) (hcall : ∀ as w, (callFunc f as).run cx.pg.P w = .ok (.enter f as) w) (r : Nat → Nat)
    (ho : o.op = .call { callee := .value fo, args := args, argTypes := ts }) (hgd : gdOk all s.ρ o.guard = true) (hf : ev cx.pg s.ρ fo = some (.fn (.func f) first caps)) (he : evs cx.pg s.ρ args.toList = some gs)
    (hargs : first ++ gs ++ caps = renL r cargs) (hσ : leσ r σc s.σ) (chk : (idbL n0 cargs && idbH n0 σc && distB (hids r σc)) = true) (hr : ∀ i, i < n0 → r i < s.n)
    (h : ∀ g σ' n', Q g σ' n' → nf (ren (sh r n0 s.n) g) fun g => nfH (renH (sh r n0 s.n) σ' ++ hrest (hids r σc) s.σ) fun σ => nfN (s.n + (n' - n0)) fun n => dput cx.N s.ρ o.dst g fun ρ' => JK cx T (.ops false all rest :: k) ⟨ρ', σ, n⟩) :
    JK cx T (.ops false all (o :: rest) :: k) s := by
  intro H a w hg hs ha
  have hw := gdOk_wanted (o := o) ha.env hgd
  show wpList _ _ _ _ _ _
  unfold wpList
  rw [if_pos hw]
  refine .inl (call_wp hct hcall r ho hf he hargs hσ chk hr hg hs ha.env fun H'' u g σ' n' w' hle hi hQ hsim => ?_)
  have hd := h g σ' n' hQ
  rw [nf_eq, nfH_eq, nfN_eq] at hd
  obtain ⟨ρ', ha', hJ⟩ := (ha.mono hle).dput hi hd
  exact hJ H'' (a.put o.dst u) w' (hg.mono hle) (hsim ρ') ha'

/-- What a ghost value without addresses stands for. -/
def gval : GV → Option Value
  | .v x => some x
  | .b c => some (.bool c)
  | _ => none

theorem gval_is {H : Hid} {g : GV} {u x : Value} (h : Is H g u) (hg : gval g = some x) : u = x := by
  cases g <;> simp only [gval, Option.some.injEq] at hg <;> (try (cases hg; done))
  · subst hg; exact h.inv_v
  · subst hg; exact h.inv_b

/-- A CALL within a region that draws its order: it makes no difference to what is there, and hands back just this. -/
theorem JK.callq {all : List Oper} {o : Oper} {rest : List Oper} {k : List It} {s : St} {fo : Operand} {args : Array Operand} {ts : Array TypeId} {f : FuncId} {first caps gs : List GV} {Q : GV → Heap → Nat → Prop} {G : GV}
    (hct : Ct cx.pg f 0 (first ++ gs ++ caps) [] Q) (hcall : ∀ as w, (callFunc f as).run cx.pg.P w = .ok (.enter f as) w)
    (ho : o.op = .call { callee := .value fo, args := args, argTypes := ts }) (hgd : gdOk all s.ρ o.guard = true) (hf : ev cx.pg s.ρ fo = some (.fn (.func f) first caps)) (he : evs cx.pg s.ρ args.toList = some gs)
    (chk : idbL 0 (first ++ gs ++ caps) = true) (hQ : ∀ g σ' n', Q g σ' n' → g = G) (hG : (gval G).isSome = true)
    (h : dput cx.N s.ρ o.dst G fun ρ' => JK cx T (.ops true all rest :: k) { s with ρ := ρ' }) :
    JK cx T (.ops true all (o :: rest) :: k) s := by
  intro H a w hg hs ha
  obtain ⟨x, hx⟩ := Option.isSome_iff_exists.1 hG
  obtain ⟨us, hc, hex⟩ := execOp_call (ts := ts) hg ha.env hf he hcall
  have hw := gdOk_wanted (o := o) ha.env hgd
  have hcs : Cells (H.via id 0) (first ++ gs ++ caps) us := cells_back (f := id) (by
    rw [renL_id]; exact hc) chk
  obtain ⟨ρ', ha', hJ⟩ := ha.dput (u := x) (by
    cases G <;> simp only [gval, Option.some.injEq] at hx <;> (try (cases hx; done))
    · subst hx; exact .ro (.v _)
    · subst hx; exact .ro (.b _)) h
  show wpQuiet _ _ _ _ _ _
  unfold wpQuiet
  rw [if_pos hw]
  refine ⟨x, fun w1 hb => ?_, hJ H (a.put o.dst x) w hg (hs.ρ ρ') ha'⟩
  unfold Oper.quietAt
  rw [hex o ho w1]
  refine ⟨rfl, ?_⟩
  have hsat : Sat (H.via id 0) [] w1 := ⟨(hs.sat.below hb).ro, by simp, by simp [blks], by simp [blks], by simp⟩
  refine (hct (H.via id 0) us w1 rfl hg hcs hsat).mono ?_
  rintro e w' ⟨u, g, H', σ', rfl, hi, hs', hfr, hq⟩
  have := hQ g σ' _ hq
  subst this
  have hu := gval_is hi hx
  subst hu
  refine ⟨rfl, hb.trans ⟨hfr.os, hfr.tape, hfr.output, hfr.size, fun b hlt => ?_⟩⟩
  exact hfr.keep b (Nat.lt_of_lt_of_le hlt hb.size) (by simp [blks])
end
end Go.GK


namespace Go.GK
open Go.RowKit

mutual
def roFree : GV → Bool
  | .r _ => false
  | .sl _ _ => false
  | .agg cs => roFreeL cs
  | .tup cs => roFreeL cs
  | .fn _ as cs => roFreeL as && roFreeL cs
  | .ifc _ x => roFree x
  | .v _ => true
  | .b _ => true
  | .p _ _ => true
  | .e _ _ _ _ => true
  | .o _ => true
def roFreeL : List GV → Bool
  | [] => true
  | g :: r => roFree g && roFreeL r
end

/-- The hidden maps with what nobody wrote when the region began. -/
def Hid.at (H : Hid) (ro : Nat → Option Obj) : Hid := { H with ro := ro }

mutual
theorem roFree_at {H : Hid} {ro : Nat → Option Obj} : ∀ {g : GV} {u : Value}, Is H g u → roFree g = true → Is (H.at ro) g u
  | .v x, u, h, _ => by have := h.inv_v; subst this; exact .ro (.v _)
  | .b c, u, h, _ => by have := h.inv_b; subst this; exact .ro (.b _)
  | .p id off, u, h, _ => by obtain ⟨rfl, hid⟩ := h.inv_p; exact Is.p (H := H.at ro) hid
  | .e id sz i off, u, h, _ => by obtain ⟨g, n, c, rfl, hs, hid⟩ := h.inv_e; exact Is.e (H := H.at ro) hid hs
  | .o id, u, h, _ => by
    cases h with
    | ro h => cases h
    | o hid hs h1 => exact Is.o (H := H.at ro) hid hs h1
  | .r cs, u, _, hb => by simp [roFree] at hb
  | .sl sz rows, u, _, hb => by simp [roFree] at hb
  | .agg cs, u, h, hb => by
    simp only [roFree] at hb
    obtain ⟨us, rfl, hl, hi⟩ := h.inv_agg
    exact .agg hl (roFreeL_at cs hi hb)
  | .tup cs, u, h, hb => by
    simp only [roFree] at hb
    obtain ⟨us, rfl, hl, hi⟩ := h.inv_tup
    exact .tup hl (roFreeL_at cs hi hb)
  | .fn f as cs, u, h, hb => by
    simp only [roFree, Bool.and_eq_true] at hb
    obtain ⟨us, vs, rfl, hl, hi, hl', hi'⟩ := h.inv_fn
    exact .fn hl (roFreeL_at as hi hb.1) hl' (roFreeL_at cs hi' hb.2)
  | .ifc t x, u, h, hb => by
    simp only [roFree] at hb
    obtain ⟨v, rfl, hi⟩ := h.inv_ifc
    exact .ifc (roFree_at hi hb)
theorem roFreeL_at {H : Hid} {ro : Nat → Option Obj} {F : Nat → Value} : ∀ (l : List GV), (∀ (j : Nat) (g : GV), l[j]? = some g → Is H g (F j)) → roFreeL l = true → ∀ (j : Nat) (g : GV), l[j]? = some g → Is (H.at ro) g (F j)
  | [], _, _, j, g, hj => by simp at hj
  | x :: r, h, hb, 0, g, hj => by
    simp [roFreeL] at hb
    simp at hj
    subst hj
    exact roFree_at (h 0 _ rfl) hb.1
  | x :: r, h, hb, j + 1, g, hj => by
    simp [roFreeL] at hb
    exact roFreeL_at (F := fun j => F (j + 1)) r (fun j g hj => h (j + 1) g (by simpa using hj)) hb.2 j g (by simpa using hj)
end

def qdel (d : Nat) : Env → Env
  | [] => []
  | (s, g) :: r => bif Nat.beq s d then qdel d r else (s, g) :: qdel d r

theorem qdel_look {d t : Nat} {g : GV} : ∀ {ρ : Env}, look (qdel d ρ) t = some g → look ρ t = some g ∧ d ≠ t
  | [], h => by simp [qdel, look] at h
  | (s, x) :: r, h => by
    unfold qdel at h
    unfold look
    cases hb : Nat.beq s d with
    | true =>
      rw [hb] at h
      obtain ⟨h1, h2⟩ := qdel_look (ρ := r) (by simpa using h)
      have := beq_eq hb
      subst this
      have hst : Nat.beq s t = false := by
        cases hst : Nat.beq s t with
        | false => rfl
        | true => exact absurd (beq_eq hst) h2
      rw [hst]
      exact ⟨h1, h2⟩
    | false =>
      rw [hb] at h
      simp only [cond_false] at h
      unfold look at h
      cases hst : Nat.beq s t with
      | true =>
        rw [hst] at h
        refine ⟨h, fun e => ?_⟩
        have h1 := beq_eq hst
        have h2 := beq_ne hb
        omega
      | false => rw [hst] at h; exact qdel_look (by simpa using h)

/-- An operation's result in the environment of what is known from the beginning on. -/
def qput (ρq : Env) (dst : Option Nat) (g : GV) : Env :=
  match dst with
  | some d => bif roFree g then (d, g) :: ρq else qdel d ρq
  | none => ρq

section
variable {cx : Cx} {T : Post}

def Held (S0 : List Nat) (w0 w : World) : Prop := ∀ b, b < w0.heap.size → b ∉ S0 → w.heap[b]? = w0.heap[b]?

/-- What is left to do of a region that draws its order: of its operations those that are not listed. 's': what it works on; 'σs': own things that it only reads; 'ρq': what was known when it began. -/
def RA (cx : Cx) (T : Post) (ops : List Oper) (k : List It) (σs : Heap) (ρq : Env) (fuel : Nat) (listed : List Bool) (s : St) : Prop :=
  ∀ (n0 : Nat) (H0 : Hid) (S0 : List Nat) (w0 : World) (h0 : H0.n = n0) (g0 : GlOk cx.pg H0), Sat H0 σs w0 → (∀ b ∈ blks H0 σs, b ∉ S0) → (∀ b ∈ S0, H0.ro b = none) →
    (∀ H s' w', Sim ⟨cx.pg, cx.N, n0, H0, S0, w0, h0, g0⟩ H s' w' → Sim cx H ⟨s'.ρ, s'.σ ++ σs, s'.n⟩ w') →
    ∀ H a w, Sim ⟨cx.pg, cx.N, n0, H0, S0, w0, h0, g0⟩ H s w → ActOk cx H s.ρ a → EnvOk (H.at H0.ro) ρq a →
      wpAnyH cx.pg.P .any ops.toArray (cont cx.pg.P (post cx T) k) (Held S0 w0) fuel listed.toArray a w

theorem Sim.keeps {n0 N : Nat} {pg : Pg} {H0 : Hid} {S0 : List Nat} {w0 : World} {h0 : H0.n = n0} {g0 : GlOk pg H0} {H : Hid} {s : St} {w : World} (h : Sim ⟨pg, N, n0, H0, S0, w0, h0, g0⟩ H s w) : Held S0 w0 w := h.fr.keep

theorem RA.done {ops : List Oper} {k : List It} {σs : Heap} {ρq : Env} {fuel : Nat} {listed : List Bool} {s : St} (hr : Region.ready .any ops.toArray listed.toArray = []) (h : JK cx T k ⟨s.ρ, s.σ ++ σs, s.n⟩) : RA cx T ops k σs ρq fuel listed s :=
  fun _ _ _ _ _ _ _ _ _ hlink H a w hs ha _ => wpAnyH_done hr (h H a w (cx.g0.mono (hlink H s w hs).fr.le) (hlink H s w hs) ha) fuel

theorem set_list (l : List Bool) (i : Nat) : l.toArray.setIfInBounds i true = (l.set i true).toArray := by simp

theorem EnvOk.at_put {H H' : Hid} {ro : Nat → Option Obj} {ρq : Env} {a : Act} (h : EnvOk (H.at ro) ρq a) (hle : H.le H') {dst : Option Nat} {g : GV} {u : Value} (hd : ∀ d, dst = some d → d < a.tmps.size) (hi : Is H' g u) : EnvOk (H'.at ro) (qput ρq dst g) (a.put dst u) := by
  have h1 : EnvOk (H'.at ro) ρq a := fun t g hl => (h t g hl).mono (show (H.at ro).le (H'.at ro) from ⟨hle.n, fun _ _ h => h, hle.bl, hle.sv⟩)
  cases dst with
  | none => exact h1
  | some d =>
    unfold qput
    simp only
    cases hb : roFree g with
    | true => exact h1.put (hd d rfl) (roFree_at hi hb)
    | false =>
      simp only [cond_false]
      intro t g' hl
      obtain ⟨hl', hne⟩ := qdel_look hl
      have := h1 t g' hl'
      simp only [Act.put, Array.getD_eq_getD_getElem?] at this ⊢
      rw [Array.getElem?_setIfInBounds_ne hne]
      exact this

/-- .. of what only read what was there when it began. -/
def eput (ρq : Env) (dst : Option Nat) (g : GV) : Env :=
  match dst with
  | some d => (d, g) :: ρq
  | none => ρq

theorem EnvOk.at_eput {H : Hid} {ro : Nat → Option Obj} {ρq : Env} {a : Act} (h : EnvOk (H.at ro) ρq a) {dst : Option Nat} {g : GV} {u : Value} (hd : ∀ d, dst = some d → d < a.tmps.size) (hi : Is (H.at ro) g u) : EnvOk (H.at ro) (eput ρq dst g) (a.put dst u) := by
  cases dst with
  | none => exact h
  | some d => exact h.put (hd d rfl) hi

theorem dput_lt {N : Nat} {ρ : Env} {dst : Option Nat} {g : GV} {K : Env → Prop} (h : dput N ρ dst g K) : ∀ d, dst = some d → d < N := by
  intro d hd
  subst hd
  simp only [dput] at h
  cases hb : Nat.blt d N with
  | false => rw [hb] at h; exact h.elim
  | true => rw [Nat.blt_eq] at hb; exact hb

/-- What a region reads, when some of its operations were carried out. -/
theorem readSat {n0 N : Nat} {pg : Pg} {H0 : Hid} {S0 : List Nat} {w0 : World} {h0 : H0.n = n0} {g0 : GlOk pg H0} {σs : Heap} {H : Hid} {s : St} {w : World} (hσ : Sat H0 σs w0) (hap : ∀ b ∈ blks H0 σs, b ∉ S0) (hfree : ∀ b ∈ S0, H0.ro b = none)
    (hs : Sim ⟨pg, N, n0, H0, S0, w0, h0, g0⟩ H s w) : Sat (H.at H0.ro) σs w ∧ ∀ w', Held S0 w0 w' → Agr (H.at H0.ro) σs w w' := by
  have hle : H0.le (H.at H0.ro) := ⟨hs.fr.le.n, fun _ _ h => h, hs.fr.le.bl, hs.fr.le.sv⟩
  have hbl : blks (H.at H0.ro) σs = blks H0 σs := blks_le hle hσ.ids
  have hro : ∀ w', Held S0 w0 w' → ∀ b o, H0.ro b = some o → w'.heap[b]? = some o := fun w' hh b o ho => by
    have h1 := hσ.ro b o ho
    rw [hh b (Array.getElem?_eq_some_iff.1 h1).1 (fun hc => by rw [hfree b hc] at ho; cases ho)]
    exact h1
  have hown : ∀ w', Held S0 w0 w' → ∀ b ∈ blks H0 σs, w'.heap[b]? = w0.heap[b]? := fun w' hh b hb => hh b (hσ.lt b hb) (hap b hb)
  have hk := hs.keeps
  refine ⟨⟨hro w hk, fun x hx => ?_, by rw [hbl]; exact hσ.nodup, fun b hb => hσ.free b (by rwa [hbl] at hb), fun x hx => Nat.lt_of_lt_of_le (hσ.ids x hx) hle.n⟩, fun w' hh => ⟨hro w' hh, fun b hb => ?_⟩⟩
  · refine holds_congr (w := w0) (fun b hb => ?_) (holds_le hle (hσ.ids x hx) (hσ.holds x hx))
    rw [blocks_le hle (hσ.ids x hx)] at hb
    exact hown w hk b (List.mem_flatMap.2 ⟨x, hx, hb⟩)
  · rw [hbl] at hb
    rw [hown w' hh b hb, hown w hk b hb]

theorem GlOk.at {pg : Pg} {H0 H : Hid} (h : GlOk pg H0) : GlOk pg (H.at H0.ro) := h

/-- AN OPERATION THAT ONLY READS is taken as soon as it may come up. -/
theorem RA.take {ops : List Oper} {k : List It} {σs : Heap} {ρq : Env} {fuel : Nat} {listed : List Bool} {s : St} (i : Nat) {o : Oper} (hp : cx.pg.Ok) (hi : ops[i]? = some o) (hsel : Region.noSelect ops.toArray = true) (hf : Region.free .any ops.toArray listed.toArray i = true)
    (hr : (Region.ready .any ops.toArray listed.toArray).contains i = true) (hT : ∀ ch s, ¬ T (.panic ch) s)
    {N : Env → St → Prop} (hN : ∀ ρq s', N ρq s' → RA cx T ops k σs ρq fuel (listed.set i true) s')
    (h : guardVC ops ρq o.guard (fun ρq' => pv cx.pg ρq' σs o.op fun g => dput cx.N s.ρ o.dst g fun ρ' => N (eput ρq' o.dst g) { s with ρ := ρ' })
      (fun ρq' => dput cx.N s.ρ o.dst (.v undef) fun ρ' => N (eput ρq' o.dst (.v undef)) { s with ρ := ρ' })) : RA cx T ops k σs ρq (fuel + 1) listed s := by
  intro n0 H0 S0 w0 h0 g0 hσ hap hfree hlink H a w hs ha hq
  obtain ⟨hrs, hagr⟩ := readSat hσ hap hfree hs
  have hpan : ∀ c a w v, cont cx.pg.P (post cx T) k (.panic c) (a.put o.dst v) w → cont cx.pg.P (post cx T) k (.panic c) a w := fun c a w v hc => by
    rw [cont_panic] at hc
    obtain ⟨_, s', _, _, ht⟩ := hc
    exact (hT c s' ht).elim
  have hgo : ∀ ρq', EnvOk (H.at H0.ro) ρq' a → Region.wanted o (yielded ops.toArray a.tmps) = true → (pv cx.pg ρq' σs o.op fun g => dput cx.N s.ρ o.dst g fun ρ' => N (eput ρq' o.dst g) { s with ρ := ρ' }) →
      wpAnyH cx.pg.P .any ops.toArray (cont cx.pg.P (post cx T) k) (Held S0 w0) (fuel + 1) listed.toArray a w := by
    intro ρq' hq' hw hpv
    obtain ⟨u, g, hrun, hiu, hk⟩ := pv_sound hp (GlOk.at g0) hq' hrs hpv
    have hiu' : Is H g u := hiu.mono (show (H.at H0.ro).le H from ⟨Nat.le_refl _, fun b o ho => hs.fr.le.ro b o ho, fun _ _ => rfl, fun _ _ => rfl⟩)
    have hlt := dput_lt hk
    obtain ⟨ρ', ha', hra⟩ := ha.dput hiu' hk
    refine wpAnyH_take (by simpa using hi) hsel hf hr (fun c a w => hpan c a w u) (.inl ⟨hw, fun w' hh => hrun w' (hagr w' hh) o rfl⟩) hs.keeps ?_
    rw [set_list]
    refine hN _ _ hra n0 H0 S0 w0 h0 g0 hσ hap hfree hlink H (a.put o.dst u) w (hs.ρ ρ') ha' ?_
    exact EnvOk.at_eput hq' (fun d hd => by rw [ha.size]; exact hlt d hd) hiu
  have hskip : ∀ ρq', EnvOk (H.at H0.ro) ρq' a → Region.wanted o (yielded ops.toArray a.tmps) = false → (dput cx.N s.ρ o.dst (.v undef) fun ρ' => N (eput ρq' o.dst (.v undef)) { s with ρ := ρ' }) →
      wpAnyH cx.pg.P .any ops.toArray (cont cx.pg.P (post cx T) k) (Held S0 w0) (fuel + 1) listed.toArray a w := by
    intro ρq' hq' hw hk
    have hlt := dput_lt hk
    obtain ⟨ρ', ha', hra⟩ := ha.dput (u := undef) (.ro (.v undef)) hk
    refine wpAnyH_take (by simpa using hi) hsel hf hr (fun c a w => hpan c a w undef) (.inr ⟨hw, rfl⟩) hs.keeps ?_
    rw [set_list]
    refine hN _ _ hra n0 H0 S0 w0 h0 g0 hσ hap hfree hlink H (a.put o.dst undef) w (hs.ρ ρ') ha' ?_
    exact EnvOk.at_eput hq' (fun d hd => by rw [ha.size]; exact hlt d hd) (.ro (.v undef))
  unfold guardVC at h
  split at h
  · rename_i hgd
    exact hgo ρq hq (wanted_none hgd) h
  · rename_i j want hgd
    split at h
    · rename_i oj hj
      split at h
      · rename_i d hd
        split at h
        · rename_i t hl
          have hv := (hq d _ hl).inv_v
          have hw := wanted_at hgd hj hd hv
          cases hb : (t == want) with
          | true => rw [hb] at h hw; exact hgo ρq hq hw h
          | false => rw [hb] at h hw; exact hskip ρq hq hw h
        · rename_i t hl
          have hv := (hq d _ hl).inv_b
          have hw := wanted_at hgd hj hd hv
          have hput : ∀ c, t = c → EnvOk (H.at H0.ro) ((d, .v (.bool c)) :: ρq) a := by
            intro c hc x g hx
            unfold look at hx
            cases hb : Nat.beq d x with
            | true =>
              rw [hb] at hx
              simp at hx
              subst hx
              rw [← beq_eq hb, hv, hc]
              exact .ro (.v _)
            | false => rw [hb] at hx; exact hq x g (by simpa using hx)
          by_cases e : t = want
          · rw [e] at hw
            exact hgo _ (hput want e) (by simpa using hw) (h.1 e)
          · have e' : t = !want := by cases t <;> cases want <;> simp_all
            rw [e'] at hw
            exact hskip _ (hput _ e') (by simpa using hw) (h.2 e')
        · rename_i vs hl
          exact hskip ρq hq (wanted_not hgd hj hd (hq d _ hl).inv_v) h
        · exact h.elim
      · exact h.elim
    · exact h.elim

/-- THE ONE OPERATION THAT MAY COME UP NOW. -/
theorem RA.only_of {ops : List Oper} {k : List It} {σs : Heap} {ρq : Env} {fuel : Nat} {listed : List Bool} {s : St} (i : Nat) {o : Oper} (hi : ops[i]? = some o) (hr : Region.ready .any ops.toArray listed.toArray = [i]) (hgd : gdOk ops s.ρ o.guard = true)
    (h : ∀ (n0 : Nat) (H0 : Hid) (S0 : List Nat) (w0 : World) (h0 : H0.n = n0) (g0 : GlOk cx.pg H0) (H : Hid) (a : Act) (w : World) (K : Act → World → Prop) (Q' : Exit → Act → World → Prop), GlOk cx.pg H → Sim ⟨cx.pg, cx.N, n0, H0, S0, w0, h0, g0⟩ H s w → ActOk cx H s.ρ a → Sat H (s.σ ++ σs) w →
      (∀ (H' : Hid) (u : Value) (g : GV) (w' : World) (s' : St) (ρ' : Env), H.le H' → Is H' g u → Sim ⟨cx.pg, cx.N, n0, H0, S0, w0, h0, g0⟩ H' { s' with ρ := ρ' } w' → ActOk cx H' ρ' (a.put o.dst u) → (∀ d, o.dst = some d → d < cx.N) → RA cx T ops k σs (qput ρq o.dst g) fuel (listed.set i true) { s' with ρ := ρ' } → K (a.put o.dst u) w') →
      o.wp cx.pg.P a w K Q') : RA cx T ops k σs ρq (fuel + 1) listed s := by
  intro n0 H0 S0 w0 h0 g0 hσ hap hfree hlink H a w hs ha hq
  refine wpAnyH_all hr (by simp) (fun j hj => ?_)
  have hji : j = i := by simpa using hj
  subst hji
  unfold wpOp
  have hi' : ops.toArray[j]? = some o := by simpa using hi
  rw [hi']
  simp only
  have hw := gdOk_wanted (o := o) ha.env hgd
  rw [if_pos hw]
  refine .inl (h n0 H0 S0 w0 h0 g0 H a w _ _ (g0.mono hs.fr.le) hs ha (hlink H s w hs).sat fun H' u g w' s' ρ' hle hi hs' ha' hd hra => ?_)
  rw [set_list]
  refine ⟨hs'.keeps, hra n0 H0 S0 w0 h0 g0 hσ hap hfree hlink H' (a.put o.dst u) w' hs' ha' ?_⟩
  exact EnvOk.at_put (H := H) hq hle (fun d hdd => by rw [ha.size]; exact hd d hdd) hi

theorem upon_value_wp {P : Program} {o : Oper} {a : Act} {w w' : World} {u : Value} {K : Act → World → Prop} {Q' : Exit → Act → World → Prop} (hr : (execOp a.eval o).run P w = .ok (.value u) w' ∨ (execOp a.eval o).run P w = .ok .skip w' ∧ u = undef) (h : K (a.put o.dst u) w') : o.wp P a w K Q' := by
  unfold Oper.wp
  rcases hr with hr | ⟨hr, rfl⟩
  · rw [hr]; exact h
  · rw [hr]; exact h

/-- .. it makes or writes memory. -/
theorem RA.mem {ops : List Oper} {k : List It} {σs : Heap} {ρq : Env} {fuel : Nat} {listed : List Bool} {s : St} (i : Nat) {o : Oper} (hp : cx.pg.Ok) (hi : ops[i]? = some o) (hr : Region.ready .any ops.toArray listed.toArray = [i]) (hgd : gdOk ops s.ρ o.guard = true) (hpu : isPure o.op = false)
    {N : Env → St → Prop} (hN : ∀ ρq s', N ρq s' → RA cx T ops k σs ρq fuel (listed.set i true) s')
    (h : goVC cx false s o (fun s' => N (qput ρq o.dst (match s'.ρ with | (_, g) :: _ => g | [] => .v undef)) s') (fun _ => False) s.ρ) : RA cx T ops k σs ρq (fuel + 1) listed s := by
  refine RA.only_of i hi hr hgd fun n0 H0 S0 w0 h0 g0 H a w K Q' hg hs ha _ hK => ?_
  have ha' : ActOk ⟨cx.pg, cx.N, n0, H0, S0, w0, h0, g0⟩ H s.ρ a := ⟨ha.env, ha.size, ha.defers⟩
  have h' : goVC ⟨cx.pg, cx.N, n0, H0, S0, w0, h0, g0⟩ false s o (fun s' => N (qput ρq o.dst (match s'.ρ with | (_, g) :: _ => g | [] => .v undef)) s') (fun _ => False) s.ρ := h
  rcases go_mem (cx := ⟨cx.pg, cx.N, n0, H0, S0, w0, h0, g0⟩) hp hg hs ha' hpu h' with hl | ⟨H', u, g, w', s0, hle, hrun, hi, hd, hsim⟩
  · exact hl.elim
  · refine upon_value_wp hrun ?_
    have hlt := dput_lt hd
    cases hdst : o.dst with
    | none =>
      rw [hdst] at hd
      have h1 := hK H' u g w' s0 s.ρ hle hi (hsim s.ρ) (by rw [hdst]; exact ha.mono hle) hlt (by rw [hdst]; exact hN _ _ hd)
      rw [hdst] at h1
      exact h1
    | some d =>
      rw [hdst] at hd
      simp only [dput, nf_eq] at hd
      have hdl := hlt d hdst
      have hb : Nat.blt d cx.N = true := by rw [Nat.blt_eq]; exact hdl
      rw [hb] at hd
      have hput : ActOk cx H' ((d, g) :: s.ρ) (a.put (some d) u) := ⟨(ha.mono hle).env.put (by rw [ha.size]; exact hdl) hi, by simp [Act.put, ha.size], by simp [Act.put, ha.defers]⟩
      have h1 := hK H' u g w' s0 ((d, g) :: s.ρ) hle hi (hsim _) (by rw [hdst]; exact hput) hlt (by rw [hdst]; exact hN _ _ hd)
      rw [hdst] at h1
      exact h1

/-- .. it only reads, but what the region writes to. -/
theorem RA.read {ops : List Oper} {k : List It} {σs : Heap} {ρq : Env} {fuel : Nat} {listed : List Bool} {s : St} (i : Nat) {o : Oper} (hp : cx.pg.Ok) (hi : ops[i]? = some o) (hr : Region.ready .any ops.toArray listed.toArray = [i]) (hgd : gdOk ops s.ρ o.guard = true)
    {N : Env → St → Prop} (hN : ∀ ρq s', N ρq s' → RA cx T ops k σs ρq fuel (listed.set i true) s')
    (h : pv cx.pg s.ρ (s.σ ++ σs) o.op fun g => dput cx.N s.ρ o.dst g fun ρ' => N (qput ρq o.dst g) { s with ρ := ρ' }) : RA cx T ops k σs ρq (fuel + 1) listed s := by
  refine RA.only_of i hi hr hgd fun n0 H0 S0 w0 h0 g0 H a w K Q' hg hs ha hsat hK => ?_
  obtain ⟨u, g, hrun, hiu, hk⟩ := pv_sound hp hg ha.env hsat h
  have hlt := dput_lt hk
  refine upon_value_wp (u := u) (.inl (hrun w (Agr.refl hsat) o rfl)) ?_
  obtain ⟨ρ', ha', hra⟩ := ha.dput hiu hk
  exact hK H u g w s ρ' (Hid.le.refl H) hiu (hs.ρ _) ha' hlt (hN _ _ hra)

/-- .. it is a call. -/
theorem RA.call {ops : List Oper} {k : List It} {σs : Heap} {ρq : Env} {fuel : Nat} {listed : List Bool} {s : St} (i : Nat) {o : Oper} {fo : Operand} {args : Array Operand} {ts : Array TypeId} {f : FuncId} {first caps gs : List GV} {n0 : Nat} {cargs : List GV} {σc : Heap} {Q : GV → Heap → Nat → Prop}
    (hct : Ct cx.pg f n0 cargs σc Q) (hcall : ∀ as w, (callFunc f as).run cx.pg.P w = .ok (.enter f as) w) (r : Nat → Nat)
    (hi : ops[i]? = some o) (hr : Region.ready .any ops.toArray listed.toArray = [i]) (hgd : gdOk ops s.ρ o.guard = true)
    (ho : o.op = .call { callee := .value fo, args := args, argTypes := ts }) (hf : ev cx.pg s.ρ fo = some (.fn (.func f) first caps)) (he : evs cx.pg s.ρ args.toList = some gs)
    (hargs : first ++ gs ++ caps = renL r cargs) (hσ : leσ r σc s.σ) (chk : (idbL n0 cargs && idbH n0 σc && distB (hids r σc)) = true) (hrn : ∀ i, i < n0 → r i < s.n)
    (h : ∀ g σ' n', Q g σ' n' → nf (ren (sh r n0 s.n) g) fun g => nfH (renH (sh r n0 s.n) σ' ++ hrest (hids r σc) s.σ) fun σ => nfN (s.n + (n' - n0)) fun n => nfE (qput ρq o.dst g) fun ρq => dput cx.N s.ρ o.dst g fun ρ' => RA cx T ops k σs ρq fuel (listed.set i true) ⟨ρ', σ, n⟩) :
    RA cx T ops k σs ρq (fuel + 1) listed s := by
  refine RA.only_of i hi hr hgd fun m0 H0 S0 w0 h0 g0 H a w K Q' hg hs ha _ hK => ?_
  refine call_wp (cx := ⟨cx.pg, cx.N, m0, H0, S0, w0, h0, g0⟩) hct hcall r ho hf he hargs hσ chk hrn hg hs ha.env fun H'' u g σ' n' w' hle hiu hQ hsim => ?_
  have hd := h g σ' n' hQ
  rw [nf_eq, nfH_eq, nfN_eq, nfE_eq] at hd
  have hlt := dput_lt hd
  obtain ⟨ρ', ha', hra⟩ := (ha.mono hle).dput hiu hd
  exact hK H'' u _ w' ⟨ρ', _, _⟩ ρ' hle hiu (hsim ρ') ha' hlt hra

/-- A bool that decides what comes up. -/
theorem RA.split {ops : List Oper} {k : List It} {σs : Heap} {ρq : Env} {fuel : Nat} {listed : List Bool} {s : St} (d : Nat) {t : Bool} (h1 : look s.ρ d = some (.b t)) (h2 : look ρq d = some (.b t))
    (h : ∀ c, t = c → RA cx T ops k σs ((d, .v (.bool c)) :: ρq) fuel listed { s with ρ := (d, .v (.bool c)) :: s.ρ }) : RA cx T ops k σs ρq fuel listed s := by
  intro n0 H0 S0 w0 h0 g0 hσ hap hfree hlink H a w hs ha hq
  have key : ∀ {H : Hid} {ρ : Env}, EnvOk H ρ a → look ρ d = some (.b t) → EnvOk H ((d, .v (.bool t)) :: ρ) a := by
    intro H ρ he hl x g hx
    unfold look at hx
    cases hb : Nat.beq d x with
    | true =>
      rw [hb] at hx
      simp at hx
      subst hx
      rw [← beq_eq hb, (he d _ hl).inv_b]
      exact .ro (.v _)
    | false => rw [hb] at hx; exact he x g (by simpa using hx)
  exact h t rfl n0 H0 S0 w0 h0 g0 hσ hap hfree hlink H a w (hs.ρ _) ⟨key ha.env h1, ha.size, ha.defers⟩ (key hq h2)

def hsel (is : List Nat) : Heap → Heap
  | [] => []
  | (id, x) :: r => bif memB id is then (id, x) :: hsel is r else hsel is r

theorem hsel_mem {is : List Nat} : ∀ {σ : Heap} {x : Nat × Res}, x ∈ hsel is σ → x ∈ σ ∧ x.1 ∈ is
  | [], x, h => by simp [hsel] at h
  | (id, y) :: r, x, h => by
    unfold hsel at h
    cases hb : memB id is with
    | false => rw [hb] at h; have := hsel_mem (σ := r) (by simpa using h); exact ⟨List.mem_cons_of_mem _ this.1, this.2⟩
    | true =>
      rw [hb] at h
      rcases List.mem_cons.1 (by simpa using h) with rfl | h
      · exact ⟨List.mem_cons_self, memB_mem.1 hb⟩
      · have := hsel_mem h
        exact ⟨List.mem_cons_of_mem _ this.1, this.2⟩

theorem hsel_nodup {H : Hid} {is : List Nat} : ∀ {σ : Heap}, (blks H σ).Nodup → (blks H (hsel is σ)).Nodup
  | [], _ => by simp [hsel, blks]
  | (id, y) :: r, h => by
    rw [blks_cons] at h
    have h1 := List.nodup_append.1 h
    unfold hsel
    cases hb : memB id is with
    | false => exact hsel_nodup h1.2.1
    | true =>
      simp only [cond_true]
      rw [blks_cons]
      refine List.nodup_append.2 ⟨h1.1, hsel_nodup h1.2.1, fun b hb1 c hc e => ?_⟩
      obtain ⟨x, hx, hbx⟩ := List.mem_flatMap.1 hc
      exact h1.2.2 b hb1 c (List.mem_flatMap.2 ⟨x, (hsel_mem hx).1, hbx⟩) e

theorem Sat.sub {H : Hid} {σ τ : Heap} {w : World} (h : Sat H σ w) (hm : ∀ x ∈ τ, x ∈ σ) (hn : (blks H τ).Nodup) : Sat H τ w := by
  refine ⟨h.ro, fun x hx => h.holds x (hm x hx), hn, fun b hb => ?_, fun x hx => h.ids x (hm x hx)⟩
  obtain ⟨x, hx, hbx⟩ := List.mem_flatMap.1 hb
  exact h.free b (List.mem_flatMap.2 ⟨x, hm x hx, hbx⟩)

/-- How long own rows are: it stays known while they are written. -/
def lns : Heap → Heap
  | [] => []
  | (id, .row _ sz rows) :: r => (id, .ln sz rows.length) :: lns r
  | _ :: r => lns r

theorem lns_blks (H : Hid) : ∀ σ : Heap, blks H (lns σ) = []
  | [] => rfl
  | (id, .row _ sz rows) :: r => by simp only [lns]; rw [blks_cons, lns_blks H r]; rfl
  | (id, .blk _ _) :: r => by simp only [lns]; exact lns_blks H r
  | (id, .ob _) :: r => by simp only [lns]; exact lns_blks H r
  | (id, .ln _ _) :: r => by simp only [lns]; exact lns_blks H r
  | (id, .sub _ _ _ _) :: r => by simp only [lns]; exact lns_blks H r
  | (id, .mp _ _) :: r => by simp only [lns]; exact lns_blks H r
  | (id, .mr _ _ _ _) :: r => by simp only [lns]; exact lns_blks H r
  | (id, .itr _) :: r => by simp only [lns]; exact lns_blks H r
  | (id, .me _ _ _ _) :: r => by simp only [lns]; exact lns_blks H r
  | (id, .mre _ _ _ _ _ _) :: r => by simp only [lns]; exact lns_blks H r
  | (id, .ab _) :: r => by simp only [lns]; exact lns_blks H r

theorem lns_holds {H : Hid} {w : World} : ∀ {σ : Heap}, (∀ x ∈ σ, holds H w x) → (∀ x ∈ σ, x.1 < H.n) → ∀ x ∈ lns σ, holds H w x ∧ x.1 < H.n
  | [], _, _, x, hx => by simp [lns] at hx
  | (id, .row ty sz rows) :: r, h, hi, x, hx => by
    simp only [lns, List.mem_cons] at hx
    rcases hx with rfl | hx
    · obtain ⟨xs, hown, _⟩ := h _ List.mem_cons_self
      refine ⟨?_, hi (id, .row ty sz rows) List.mem_cons_self⟩
      rcases hown.2 with ⟨he, hn⟩ | ⟨g, cap, cur, he, _⟩
      · exact ⟨none, 0, by rw [he, hn], fun hlt => by omega⟩
      · exact ⟨_, cap, he, fun _ => ⟨g, rfl⟩⟩
    · exact lns_holds (fun x hx => h x (List.mem_cons_of_mem _ hx)) (fun x hx => hi x (List.mem_cons_of_mem _ hx)) x hx
  | (id, .blk _ _) :: r, h, hi, x, hx => lns_holds (fun x hx => h x (List.mem_cons_of_mem _ hx)) (fun x hx => hi x (List.mem_cons_of_mem _ hx)) x (by simpa only [lns] using hx)
  | (id, .ob _) :: r, h, hi, x, hx => lns_holds (fun x hx => h x (List.mem_cons_of_mem _ hx)) (fun x hx => hi x (List.mem_cons_of_mem _ hx)) x (by simpa only [lns] using hx)
  | (id, .sub _ _ _ _) :: r, h, hi, x, hx => lns_holds (fun x hx => h x (List.mem_cons_of_mem _ hx)) (fun x hx => hi x (List.mem_cons_of_mem _ hx)) x (by simpa only [lns] using hx)
  | (id, .mp _ _) :: r, h, hi, x, hx => lns_holds (fun x hx => h x (List.mem_cons_of_mem _ hx)) (fun x hx => hi x (List.mem_cons_of_mem _ hx)) x (by simpa only [lns] using hx)
  | (id, .mr _ _ _ _) :: r, h, hi, x, hx => lns_holds (fun x hx => h x (List.mem_cons_of_mem _ hx)) (fun x hx => hi x (List.mem_cons_of_mem _ hx)) x (by simpa only [lns] using hx)
  | (id, .me _ _ _ _) :: r, h, hi, x, hx => lns_holds (fun x hx => h x (List.mem_cons_of_mem _ hx)) (fun x hx => hi x (List.mem_cons_of_mem _ hx)) x (by simpa only [lns] using hx)
  | (id, .mre _ _ _ _ _ _) :: r, h, hi, x, hx => lns_holds (fun x hx => h x (List.mem_cons_of_mem _ hx)) (fun x hx => hi x (List.mem_cons_of_mem _ hx)) x (by simpa only [lns] using hx)
  | (id, .ab _) :: r, h, hi, x, hx => lns_holds (fun x hx => h x (List.mem_cons_of_mem _ hx)) (fun x hx => hi x (List.mem_cons_of_mem _ hx)) x (by simpa only [lns] using hx)
  | (id, .itr _) :: r, h, hi, x, hx => lns_holds (fun x hx => h x (List.mem_cons_of_mem _ hx)) (fun x hx => hi x (List.mem_cons_of_mem _ hx)) x (by simpa only [lns] using hx)
  | (id, .ln _ _) :: r, h, hi, x, hx => lns_holds (fun x hx => h x (List.mem_cons_of_mem _ hx)) (fun x hx => hi x (List.mem_cons_of_mem _ hx)) x (by simpa only [lns] using hx)

theorem lns_le {H H' : Hid} (hl : H.le H') {w w' : World} {σ : Heap} (h : ∀ x ∈ lns σ, holds H w x ∧ x.1 < H.n) : ∀ x ∈ lns σ, holds H' w' x ∧ x.1 < H'.n := by
  intro x hx
  obtain ⟨h1, h2⟩ := h x hx
  refine ⟨?_, Nat.lt_of_lt_of_le h2 hl.n⟩
  refine holds_congr (w := w) (fun b hb => ?_) (holds_le hl h2 h1)
  have : blks H' (lns σ) = [] := lns_blks H' σ
  have hm : b ∈ blks H' (lns σ) := List.mem_flatMap.2 ⟨x, hx, hb⟩
  rw [this] at hm
  cases hm

theorem Sat.addLn {H : Hid} {τ σ : Heap} {w : World} (h : Sat H τ w) (hx : ∀ x ∈ lns σ, GK.holds H w x ∧ x.1 < H.n) : Sat H (τ ++ lns σ) w := by
  have e : blks H (τ ++ lns σ) = blks H τ := by rw [blks_append, lns_blks, List.append_nil]
  refine ⟨h.ro, fun x hm => ?_, by rw [e]; exact h.nodup, fun b hb => h.free b (by rwa [e] at hb), fun x hm => ?_⟩
  · rcases List.mem_append.1 hm with hm | hm
    · exact h.holds x hm
    · exact (hx x hm).1
  · rcases List.mem_append.1 hm with hm | hm
    · exact h.ids x hm
    · exact (hx x hm).2

/-- A REGION THAT DRAWS ITS ORDER. 'M': the own things that are written in it. -/
theorem JK.draw {id : Nat} {ops : Array Oper} {k : List It} {s : St} (M : List Nat) (hp : cx.pg.Ok) (h : RA cx T ops.toList k (hrest M s.σ ++ lns (hsel M s.σ)) s.ρ ops.toList.length (List.replicate ops.toList.length false) ⟨s.ρ, hsel M s.σ, s.n⟩) : JK cx T (.code (.region id ops true) :: k) s := by
  intro H a w hg hs0 ha
  have hs := hs0.below (below_drew w)
  refine wp_region_held (S := Held (blks H (hsel M s.σ)) w.drew) hp.mixed ?_
  have hsub1 : ∀ x ∈ hsel M s.σ, x ∈ s.σ := fun x hx => (hsel_mem hx).1
  have hsub2 : ∀ x ∈ hrest M s.σ, x ∈ s.σ := fun x hx => (hrest_mem hx).1
  have hsatM := hs.sat.sub hsub1 (hsel_nodup hs.sat.nodup)
  have hsatR := hs.sat.sub hsub2 (hrest_nodup hs.sat.nodup)
  have hap : ∀ b ∈ blks H (hrest M s.σ), b ∉ blks H (hsel M s.σ) := by
    intro b hb hc
    obtain ⟨x, hx, hbx⟩ := List.mem_flatMap.1 hb
    obtain ⟨y, hy, hby⟩ := List.mem_flatMap.1 hc
    exact blks_apart hs.sat.nodup (hsub2 x hx) (hsub1 y hy) (fun e => (hrest_mem hx).2 (by rw [e]; exact (hsel_mem hy).2)) b hbx hby
  have hmono : ∀ {τ : Heap}, (∀ x ∈ τ, x ∈ s.σ) → ∀ b ∈ blks H τ, b ∈ blks H s.σ := fun hm b hb => by
    obtain ⟨x, hx, hbx⟩ := List.mem_flatMap.1 hb
    exact List.mem_flatMap.2 ⟨x, hm x hx, hbx⟩
  have hcfr := hs.fr
  have hlnx := lns_holds (σ := hsel M s.σ) (fun x hx => hs.sat.holds x (hsub1 x hx)) (fun x hx => hs.sat.ids x (hsub1 x hx))
  have hsatL := hsatR.addLn hlnx
  have eL : blks H (hrest M s.σ ++ lns (hsel M s.σ)) = blks H (hrest M s.σ) := by rw [blks_append, lns_blks, List.append_nil]
  have := h s.n H (blks H (hsel M s.σ)) w.drew hs.n hg hsatL (by rw [eL]; exact hap) (fun b hb => hs.sat.free b (hmono hsub1 b hb)) (fun H' s' w' hs' => ?_) H a w.drew ⟨hs.n, hsatM, Fr.refl _ _ _⟩ ha (fun t g hl => ha.env t g hl)
  · simpa using this
  · suffices hmain : Sim cx H' ⟨s'.ρ, s'.σ ++ hrest M s.σ, s'.n⟩ w' by
      have hl2 := lns_le (w' := w') hs'.fr.le hlnx
      have e2 : blks H' ((s'.σ ++ hrest M s.σ) ++ lns (hsel M s.σ)) = blks H' (s'.σ ++ hrest M s.σ) := by rw [blks_append, lns_blks, List.append_nil]
      rw [← List.append_assoc]
      exact ⟨hmain.n, hmain.sat.addLn hl2, by simp only; rw [e2]; exact hmain.fr⟩
    have hfr : Fr H (blks H (hsel M s.σ)) w.drew H' (blks H' s'.σ) w' := hs'.fr
    have hle := hfr.le
    have hblr : blks H' (hrest M s.σ) = blks H (hrest M s.σ) := blks_le hle (fun x hx => hs.sat.ids x (hsub2 x hx))
    refine ⟨hs'.n, ⟨hs'.sat.ro, fun x hx => ?_, ?_, fun b hb => ?_, fun x hx => ?_⟩, ?_⟩
    · rcases List.mem_append.1 hx with hx | hx
      · exact hs'.sat.holds x hx
      · refine holds_congr (w := w.drew) (fun b hb => ?_) (holds_le hle (hs.sat.ids x (hsub2 x hx)) (hs.sat.holds x (hsub2 x hx)))
        rw [blocks_le hle (hs.sat.ids x (hsub2 x hx))] at hb
        have hbm : b ∈ blks H (hrest M s.σ) := List.mem_flatMap.2 ⟨x, hx, hb⟩
        exact hfr.keep b (hs.sat.lt b (hmono hsub2 b hbm)) (hap b hbm)
    · simp only
      rw [blks_append, hblr]
      refine List.nodup_append.2 ⟨hs'.sat.nodup, hsatR.nodup, fun b hb c hc e => ?_⟩
      subst e
      rcases hfr.own b hb with h1 | h1
      · exact hap b hc h1
      · have := hs.sat.lt b (hmono hsub2 b hc); omega
    · simp only at hb
      rw [blks_append, hblr] at hb
      rcases List.mem_append.1 hb with hb | hb
      · exact hs'.sat.free b hb
      · cases hrb : H'.ro b with
        | none => rfl
        | some o =>
          rcases hfr.fro b (hsatR.free b hb) (by rw [hrb]; simp) with h1 | h1
          · exact (hap b hb h1).elim
          · have := hs.sat.lt b (hmono hsub2 b hb); omega
    · simp only at hx
      rcases List.mem_append.1 hx with hx | hx
      · exact hs'.sat.ids x hx
      · exact Nat.lt_of_lt_of_le (hs.sat.ids x (hsub2 x hx)) hle.n
    · refine ⟨hfr.os.trans hcfr.os, hfr.tape.trans hcfr.tape, hfr.output.trans hcfr.output, Nat.le_trans hcfr.size hfr.size, fun b h1 h2 => ?_, fun b hb => ?_, fun b h1 h2 => ?_, hcfr.le.trans hle⟩
      · rw [hfr.keep b (Nat.lt_of_lt_of_le h1 hcfr.size) (fun hb => ?_)]
        · exact hcfr.keep b h1 h2
        · rcases hcfr.own b (hmono hsub1 b hb) with h3 | h3
          · exact h2 h3
          · omega
      · simp only at hb
        rw [blks_append, hblr] at hb
        rcases List.mem_append.1 hb with hb | hb
        · rcases hfr.own b hb with h3 | h3
          · exact hcfr.own b (hmono hsub1 b h3)
          · exact .inr (Nat.le_trans hcfr.size h3)
        · exact hcfr.own b (hmono hsub2 b hb)
      · by_cases h3 : H.ro b = none
        · rcases hfr.fro b h3 h2 with h4 | h4
          · exact hcfr.own b (hmono hsub1 b h4)
          · exact .inr (Nat.le_trans hcfr.size h4)
        · exact hcfr.fro b h1 h3
end
end Go.GK


namespace Go.GK
open Go.RowKit

def eqB : List Nat → List Nat → Bool
  | [], [] => true
  | x :: xs, y :: ys => Nat.beq x y && eqB xs ys
  | _, _ => false

theorem eqB_eq : ∀ {xs ys : List Nat}, eqB xs ys = true → xs = ys
  | [], [], _ => rfl
  | x :: xs, y :: ys, h => by
    simp only [eqB, Bool.and_eq_true] at h
    rw [beq_eq h.1, eqB_eq h.2]
  | [], _ :: _, h => by simp [eqB] at h
  | _ :: _, [], h => by simp [eqB] at h

/-- The order may be walked: what only reads is taken when it may come up; all else is the only one that may. 'e': to the region's end. -/
def ordB (ops : List Oper) (e : Bool) : List (Nat × Bool) → List Bool → Bool
  | [], listed => bif e then (Region.ready .any ops.toArray listed.toArray).isEmpty else true
  | (i, l) :: r, listed => match ops[i]? with
    | some o => (bif isPure o.op && !l then (Region.ready .any ops.toArray listed.toArray).contains i && Region.free .any ops.toArray listed.toArray i else eqB (Region.ready .any ops.toArray listed.toArray) [i]) && ordB ops e r (listed.set i true)
    | none => false

def rvc (cx : Cx) (T : Post) (ops : List Oper) (k : List It) (σs : Heap) (e : Bool) : List (Nat × Bool) → Nat → List Bool → Env → St → Prop
  | [], fuel, listed, ρq, s => bif e then (match s with | ⟨ρ, σ, m⟩ => nfH (σ ++ σs) fun σ => JK cx T k ⟨ρ, σ, m⟩) else RA cx T ops k σs ρq fuel listed s
  | _ :: _, 0, _, _, _ => False
  | (i, l) :: r, fuel + 1, listed, ρq, s => match s with
    | ⟨ρ, σ, m⟩ => match ops[i]? with
      | some o => bif isPure o.op && !l then
          guardVC ops ρq o.guard (fun ρq' => pv cx.pg ρq' σs o.op fun g => nf g fun g => dput cx.N ρ o.dst g fun ρ' => nfE (eput ρq' o.dst g) fun ρq => rvc cx T ops k σs e r fuel (listed.set i true) ρq ⟨ρ', σ, m⟩)
            (fun ρq' => dput cx.N ρ o.dst (.v undef) fun ρ' => nfE (eput ρq' o.dst (.v undef)) fun ρq => rvc cx T ops k σs e r fuel (listed.set i true) ρq ⟨ρ', σ, m⟩)
        else bif gdOk ops ρ o.guard then bif isPure o.op then
          pv cx.pg ρ (σ ++ σs) o.op fun g => nf g fun g => dput cx.N ρ o.dst g fun ρ' => nfE (qput ρq o.dst g) fun ρq => rvc cx T ops k σs e r fuel (listed.set i true) ρq ⟨ρ', σ, m⟩
          else
          goVC cx false ⟨ρ, σ, m⟩ o (fun s' => nfE (qput ρq o.dst (match s'.ρ with | (_, g) :: _ => g | [] => .v undef)) fun ρq => rvc cx T ops k σs e r fuel (listed.set i true) ρq s') (fun _ => False) ρ
        else bif gdNo ops ρ o.guard then dput cx.N ρ o.dst (.v undef) fun ρ' => nfE (eput ρq o.dst (.v undef)) fun ρq => rvc cx T ops k σs e r fuel (listed.set i true) ρq ⟨ρ', σ, m⟩
        else False
      | none => False

section
variable {cx : Cx} {T : Post}

theorem RA.skip {ops : List Oper} {k : List It} {σs : Heap} {ρq : Env} {fuel : Nat} {listed : List Bool} {s : St} (i : Nat) {o : Oper} (hi : ops[i]? = some o) (hr : Region.ready .any ops.toArray listed.toArray = [i]) (hgd : gdNo ops s.ρ o.guard = true)
    (h : dput cx.N s.ρ o.dst (.v undef) fun ρ' => RA cx T ops k σs (eput ρq o.dst (.v undef)) fuel (listed.set i true) { s with ρ := ρ' }) : RA cx T ops k σs ρq (fuel + 1) listed s := by
  intro n0 H0 S0 w0 h0 g0 hσ hap hfree hlink H a w hs ha hq
  refine wpAnyH_all hr (by simp) (fun j hj => ?_)
  have hji : j = i := by simpa using hj
  subst hji
  unfold wpOp
  have hi' : ops.toArray[j]? = some o := by simpa using hi
  rw [hi']
  simp only
  have hw := gdNo_wanted (o := o) ha.env hgd
  rw [if_neg (by simp [hw])]
  have hlt := dput_lt h
  obtain ⟨ρ', ha', hra⟩ := ha.dput (u := undef) (.ro (.v undef)) h
  rw [set_list]
  refine ⟨hs.keeps, hra n0 H0 S0 w0 h0 g0 hσ hap hfree hlink H (a.put o.dst undef) w (hs.ρ ρ') ha' ?_⟩
  exact EnvOk.at_eput hq (fun d hd => by rw [ha.size]; exact hlt d hd) (.ro (.v undef))

theorem RA.run {ops : List Oper} {k : List It} {σs : Heap} {e : Bool} (hp : cx.pg.Ok) (hsel : Region.noSelect ops.toArray = true) (hT : ∀ ch s, ¬ T (.panic ch) s) : ∀ (order : List (Nat × Bool)) {fuel : Nat} {listed : List Bool} {ρq : Env} {s : St}, ordB ops e order listed = true → rvc cx T ops k σs e order fuel listed ρq s → RA cx T ops k σs ρq fuel listed s
  | [], fuel, listed, ρq, s, hB, h => by
    simp only [rvc] at h
    cases e with
    | true =>
      simp only [ordB, cond_true, List.isEmpty_iff] at hB
      simp only [cond_true, nfH_eq] at h
      exact RA.done hB h
    | false => exact h
  | (i, l) :: r, 0, _, _, _, _, h => by simp only [rvc] at h
  | (i, l) :: r, fuel + 1, listed, ρq, s, hB, h => by
    obtain ⟨ρ, σ, m⟩ := s
    simp only [rvc, nfE_eq, nf_eq] at h
    simp only [ordB] at hB
    cases hi : ops[i]? with
    | none => rw [hi] at h; exact h.elim
    | some o =>
      rw [hi] at h hB
      simp only [Bool.and_eq_true] at hB h
      obtain ⟨hB1, hB2⟩ := hB
      have ih : ∀ ρq' s', rvc cx T ops k σs e r fuel (listed.set i true) ρq' s' → RA cx T ops k σs ρq' fuel (listed.set i true) s' := fun ρq' s' h' => RA.run hp hsel hT r hB2 h'
      cases hpu : (isPure o.op && !l) with
      | true =>
        rw [hpu] at h hB1
        simp only [cond_true, Bool.and_eq_true] at h hB1
        exact RA.take i hp hi hsel hB1.2 hB1.1 hT ih h
      | false =>
        rw [hpu] at h hB1
        simp only [cond_false] at h hB1
        cases hgd : gdOk ops ρ o.guard with
        | false =>
          rw [hgd] at h
          cases hgn : gdNo ops ρ o.guard with
          | false => rw [hgn] at h; exact h.elim
          | true =>
            rw [hgn] at h
            refine RA.skip i hi (eqB_eq hB1) hgn ?_
            revert h
            cases o.dst with
            | none => exact fun h => ih _ _ h
            | some d =>
              simp only [dput, cond_true, cond_false]
              cases Nat.blt d cx.N with
              | false => exact fun h => h
              | true => simp only [cond_true, nf_eq]; exact fun h => ih _ _ h
        | true =>
          rw [hgd] at h
          cases hpp : isPure o.op with
          | true =>
            rw [hpp] at h
            exact RA.read i hp hi (eqB_eq hB1) hgd ih h
          | false =>
            rw [hpp] at h
            exact RA.mem i hp hi (eqB_eq hB1) hgd hpp ih h
end
/-- Taken as soon as they may come up; taken as the only ones that may. -/
abbrev tk (l : List Nat) : List (Nat × Bool) := l.map (·, false)
abbrev al (l : List Nat) : List (Nat × Bool) := l.map (·, true)
end Go.GK


namespace Go.GK
open Go.RowKit

def zeq : List Value → List Value → Bool
  | [], [] => true
  | .int k a :: xs, .int j b :: ys => Nat.beq (kno k) (kno j) && decide (a = b) && zeq xs ys
  | .string a :: xs, .string b :: ys => decide (a = b) && zeq xs ys
  | .bool a :: xs, .bool b :: ys => (a == b) && zeq xs ys
  | .pointer none :: xs, .pointer none :: ys => zeq xs ys
  | .slice none 0 0 :: xs, .slice none 0 0 :: ys => zeq xs ys
  | .map none :: xs, .map none :: ys => zeq xs ys
  | .nilIface :: xs, .nilIface :: ys => zeq xs ys
  | .nilFunc :: xs, .nilFunc :: ys => zeq xs ys
  | .chan none :: xs, .chan none :: ys => zeq xs ys
  | _, _ => false

theorem zeq_eq : ∀ {xs ys : List Value}, zeq xs ys = true → xs = ys := by
  intro xs ys h
  fun_induction zeq xs ys
  case case2 k a xs j b ys ih =>
    simp only [Bool.and_eq_true, decide_eq_true_eq] at h
    rw [kno_inj (beq_eq h.1.1), h.1.2, ih h.2]
  all_goals simp_all

def agB : TypeDesc → Bool
  | .struct _ | .array _ _ => true
  | _ => false

def fieldB (P : Program) : List (Nat × Nat × Bool) → List Field → Bool
  | [], [] => true
  | (o, s, g) :: r, f :: fs => Nat.beq o f.offset && Nat.beq s (P.cellsOf f.type) && (g == (match P.underlying f.type with | some (.struct _) | some (.array _ _) => true | _ => false)) && ((P.info? f.type).isSome && (P.underlying f.type).isSome) && fieldB P r fs
  | _, _ => false

def descB (P : Program) : TD → TypeDesc → Bool
  | .int k, .int j => Nat.beq (kno k) (kno j)
  | .bool, .bool => true
  | .str, .string => true
  | .struct fs, .struct fields => fieldB P fs fields.toList
  | .slice e, .slice e' => Nat.beq e e'
  | .array n e, .array n' e' => Nat.beq n n' && Nat.beq e e'
  | .iface m, .interface ms => m == !ms.isEmpty
  | .map k e, .map k' e' => Nat.beq k k' && Nat.beq e e'
  | .ptr, .pointer _ => true
  | .other, .interface _ => false
  | .other, _ => true
  | _, _ => false

def eqkB (P : Program) : Nat → List EqK → List Field → Bool
  | _, [], [] => true
  | i, k :: ks, f :: fs => (f.name != "_") && Nat.beq f.offset i && (match k, P.underlying f.type with | .int, some (.int _) => true | .str, some .string => true | .bool, some .bool => true | _, _ => false) && eqkB P (i + 1) ks fs
  | _, _, _ => false

def tyB (P : Program) (t : Nat) (ti : TI) : Bool :=
  match P.info? t, P.underlying t with
  | some i, some d => Nat.beq i.size ti.sz && Nat.beq i.bytes ti.by_ && (match i.zero with | some z => zeq z.cells.toList ti.zero | none => false) && Nat.beq ti.zero.length ti.sz && (match i.zero with | some z => aggB z == ti.ag | none => false) && (ti.ag == agB d) && descB P ti.d d &&
    (match ti.eqk, d with
      | none, _ => true
      | some ks, .struct fields => !P.eqGuardType P.depth t && !P.stoodInHeld t && eqkB P 0 ks fields.toList
      | _, _ => false)
  | _, _ => false

theorem fieldB_spec {P : Program} : ∀ {fs : List (Nat × Nat × Bool)} {fields : List Field}, fieldB P fs fields = true → (∀ f : Nat, fs[f]? = (fields[f]?).map (fun x => (x.offset, P.cellsOf x.type, (match P.underlying x.type with | some (.struct _) | some (.array _ _) => true | _ => false)))) ∧ ∀ f ∈ fields, (P.info? f.type).isSome = true ∧ (P.underlying f.type).isSome = true
  | [], [], _ => by simp
  | (o, s, g) :: r, f :: fs, h => by
    simp only [fieldB, Bool.and_eq_true, beq_iff_eq] at h
    obtain ⟨⟨⟨⟨h1, h2⟩, h3⟩, h4⟩, h5⟩ := h
    obtain ⟨i1, i2⟩ := fieldB_spec h5
    refine ⟨fun k => ?_, fun x hx => ?_⟩
    · cases k with
      | zero => simp [beq_eq h1, beq_eq h2, h3]
      | succ k => simpa using i1 k
    · rcases List.mem_cons.1 hx with rfl | hx
      · exact h4
      · exact i2 x hx

theorem eqkB_spec {P : Program} : ∀ {i : Nat} {ks : List EqK} {fields : List Field}, eqkB P i ks fields = true → fields.length = ks.length ∧ ∀ (j : Nat) (f : Field), fields[j]? = some f → f.name ≠ "_" ∧ f.offset = i + j ∧ ∃ k, ks[j]? = some k ∧ (match k with | .int => ∃ j, P.underlying f.type = some (.int j) | .str => P.underlying f.type = some .string | .bool => P.underlying f.type = some .bool)
  | _, [], [], _ => by simp
  | i, k :: ks, f :: fs, h => by
    simp only [eqkB, Bool.and_eq_true, bne_iff_ne, ne_eq] at h
    obtain ⟨⟨⟨h1, h2⟩, h3⟩, h4⟩ := h
    obtain ⟨i1, i2⟩ := eqkB_spec h4
    refine ⟨by simp [i1], fun j f' hj => ?_⟩
    cases j with
    | zero =>
      simp at hj
      subst hj
      refine ⟨h1, by simpa using beq_eq h2, k, rfl, ?_⟩
      cases k <;> (cases hu : P.underlying f.type with
        | none => simp [hu] at h3
        | some d => cases d <;> simp_all)
    | succ j =>
      obtain ⟨a, b, c, d, e⟩ := i2 j f' (by simpa using hj)
      exact ⟨a, by omega, c, by simpa using d, e⟩

theorem tyB_ok {P : Program} {t : Nat} {ti : TI} (h : tyB P t ti = true) : TyOk P t ti := by
  unfold tyB at h
  cases hi : P.info? t with
  | none => simp [hi] at h
  | some i =>
    cases hu : P.underlying t with
    | none => simp [hi, hu] at h
    | some d =>
      simp only [hi, hu, Bool.and_eq_true, beq_iff_eq] at h
      obtain ⟨⟨⟨⟨⟨⟨⟨h1, h2⟩, h3⟩, h4⟩, h8⟩, h5⟩, h6⟩, h7⟩ := h
      cases hz : i.zero with
      | none => simp [hz] at h3
      | some z =>
        simp only [hz] at h3 h8
        refine ⟨⟨i, z, hi, beq_eq h1, beq_eq h2, hz, zeq_eq h3, beq_eq h4⟩, ⟨i, z, hi, hz, by simpa using h8⟩, ⟨d, hu, ?_⟩, ?_, fun ks hk => ?_⟩
        · rw [h5]; cases d <;> rfl
        · revert h6
          cases ti.d <;> cases d <;> simp only [descB, Bool.false_eq_true, false_implies, forall_const] <;> (try intro h6)
          case int.int => rw [hu, kno_inj (beq_eq h6)]
          case bool.bool => exact hu
          case str.string => exact hu
          case struct.struct fs fields =>
            obtain ⟨a, b⟩ := fieldB_spec h6
            exact ⟨fields, hu, fun f => (a f).trans (by rw [Array.getElem?_toList]; rfl), b⟩
          case slice.slice => rw [hu, beq_eq h6]
          case array.array =>
            simp only [Bool.and_eq_true] at h6
            rw [hu, beq_eq h6.1, beq_eq h6.2]
          case iface.interface m ms => exact ⟨ms, hu, by simpa using h6⟩
          case map.map =>
            simp only [Bool.and_eq_true] at h6
            rw [hu, beq_eq h6.1, beq_eq h6.2]
          case ptr.pointer e => exact ⟨e, hu⟩
          all_goals (intros; simp_all)
        · rw [hk] at h7
          cases d <;> simp only [Bool.false_eq_true] at h7
          case struct fields =>
            simp only [Bool.and_eq_true, Bool.not_eq_true'] at h7
            obtain ⟨⟨a, b⟩, c⟩ := h7
            obtain ⟨e1, e2⟩ := eqkB_spec c
            exact ⟨a, b, fields, hu, by simpa using e1, fun i f hf => by obtain ⟨x1, x2, k, x3, x4⟩ := e2 i f (by simpa using hf); exact ⟨x1, by omega, k, x3, by cases k <;> exact x4⟩⟩

def ttB (P : Program) : TT → Bool
  | [] => true
  | (t, ti) :: r => tyB P t ti && ttB P r

theorem Pg.ok_of {p : Pg} (h : ttB p.P p.tt = true) (hm : p.P.follows .mixedOrders = true) : p.Ok := by
  refine ⟨fun t ti ht => ?_, hm⟩
  revert h ht
  generalize p.tt = tt
  induction tt with
  | nil => intro _ ht; simp [tget] at ht
  | cons x r ih =>
    obtain ⟨s, g⟩ := x
    intro h ht
    simp only [ttB, Bool.and_eq_true] at h
    unfold tget at ht
    cases hb : Nat.beq s t with
    | true =>
      rw [hb] at ht
      have := beq_eq hb
      subst this
      simp at ht
      subst ht
      exact tyB_ok h.1
    | false => rw [hb] at ht; exact ih h.2 (by simpa using ht)
end Go.GK


namespace Go.GK
open Go.RowKit

section
variable {p : Pg}

/-- What a contract promises, said anew: of what is left, some things, under other numbers. -/
theorem Ct.weak {f : FuncId} {n0 : Nat} {args : List GV} {σ : Heap} {Q Q' : GV → Heap → Nat → Prop} (h : Ct p f n0 args σ Q)
    (hQ : ∀ g σ' n', Q g σ' n' → ∃ (r : Nat → Nat) (g0 : GV) (τ : Heap) (m : Nat), Q' g0 τ m ∧ g = ren r g0 ∧ leσ r τ σ' ∧ (idb m g0 && idbH m τ && distB (hids r τ) && fixB r n0 && Nat.ble n0 m) = true) : Ct p f n0 args σ Q' := by
  intro H us w hn hg hc hs
  refine Calls.mono (h H us w hn hg hc hs) (fun e w' he => ?_)
  obtain ⟨u, g, H', σ', rfl, hi, hs', hfr, hq⟩ := he
  obtain ⟨r, g0, τ, m, hq', rfl, hl, hchk⟩ := hQ g σ' _ hq
  obtain ⟨h1, h2, h3, h4, h5⟩ := and5 hchk
  obtain ⟨hsat, hbl⟩ := hs'.part hl h2 h3
  have hfix := fixB_fix h4
  have hm := Nat.le_of_ble_eq_true h5
  refine ⟨u, g0, H'.via r m, τ, rfl, ren_back hi h1, hsat, ?_, hq'⟩
  refine ⟨hfr.os, hfr.tape, hfr.output, hfr.size, hfr.keep, fun b hb => ?_, hfr.fro, ⟨by rw [hn]; exact hm, hfr.le.ro, fun i hi => ?_, fun i hi => ?_⟩⟩
  · obtain ⟨x, hx, _, hbx⟩ := hbl b hb
    exact hfr.own b (List.mem_flatMap.2 ⟨x, hx, hbx⟩)
  · show H'.bl (r i) = _
    rw [hfix i (by omega)]
    exact hfr.le.bl i hi
  · show H'.sv (r i) = _
    rw [hfix i (by omega)]
    exact hfr.le.sv i hi

/-- .. of what is left nothing is of use. -/
def Val (x : GV → Prop) (g : GV) (σ : Heap) (n : Nat) : Prop := x g ∧ σ = [] ∧ n = 0

theorem Ct.val {f : FuncId} {args : List GV} {σ : Heap} {x : GV → Prop} (h : Ct p f 0 args σ fun g _ _ => x g ∧ idb 0 g = true) : Ct p f 0 args σ (Val x) :=
  h.weak fun g σ' n' hq => ⟨id, g, [], 0, ⟨hq.1, rfl, rfl⟩, (ren_id g).symm, trivial, by simp [hq.2, idbH, hids, distB, fixB]⟩
end
end Go.GK
