/-
  The ghost machine: calls.
-/
import Derived.Test.YtfagagfokmlgiaaGK7
namespace Go.GK
open Go.RowKit

mutual
theorem ren_id : ∀ g : GV, ren id g = g
  | .v _ | .b _ | .p _ _ | .e _ _ _ _ | .o _ | .r _ | .sl _ _ => rfl
  | .agg cs => by simp only [ren, renL_id cs]
  | .tup cs => by simp only [ren, renL_id cs]
  | .fn f as cs => by simp only [ren, renL_id as, renL_id cs]
  | .ifc t x => by simp only [ren, ren_id x]
theorem renL_id : ∀ l : List GV, renL id l = l
  | [] => rfl
  | g :: r => by simp only [renL, ren_id g, renL_id r]
end

theorem gdOk_wanted {H : Hid} {all : List Oper} {ρ : Env} {o : Oper} {a : Act} (ha : EnvOk H ρ a) (h : gdOk all ρ o.guard = true) : Region.wanted o (yielded all.toArray a.tmps) = true := by
  unfold gdOk at h
  split at h
  · rename_i hg; exact wanted_none hg
  · rename_i j want hg
    split at h
    · rename_i oj hj
      split at h
      · rename_i d hd
        split at h
        · rename_i t hl
          rw [wanted_at hg hj hd (ha d _ hl).inv_v]
          exact h
        · rename_i t hl
          rw [wanted_at hg hj hd (ha d _ hl).inv_b]
          exact h
        · cases h
      · cases h
    · cases h

theorem gdNo_wanted {H : Hid} {all : List Oper} {ρ : Env} {o : Oper} {a : Act} (ha : EnvOk H ρ a) (h : gdNo all ρ o.guard = true) : Region.wanted o (yielded all.toArray a.tmps) = false := by
  unfold gdNo at h
  split at h
  · cases h
  · rename_i j want hg
    split at h
    · rename_i oj hj
      split at h
      · rename_i d hd
        split at h
        · rename_i t hl
          rw [wanted_at hg hj hd (ha d _ hl).inv_v]
          revert h; cases t <;> cases want <;> simp
        · rename_i t hl
          rw [wanted_at hg hj hd (ha d _ hl).inv_b]
          revert h; cases t <;> cases want <;> simp
        · rename_i vs hl
          exact wanted_not hg hj hd (ha d _ hl).inv_v
        · cases h
      · cases h
    · cases h

theorem hrest_mem {is : List Nat} : ∀ {σ : Heap} {x : Nat × Res}, x ∈ hrest is σ → x ∈ σ ∧ x.1 ∉ is
  | [], x, h => by simp [hrest] at h
  | (id, y) :: r, x, h => by
    unfold hrest at h
    cases hb : memB id is with
    | true => rw [hb] at h; have := hrest_mem (σ := r) (by simpa using h); exact ⟨List.mem_cons_of_mem _ this.1, this.2⟩
    | false =>
      rw [hb] at h
      rcases List.mem_cons.1 (by simpa using h) with rfl | h
      · exact ⟨List.mem_cons_self, fun hm => by rw [memB_mem.2 hm] at hb; cases hb⟩
      · have := hrest_mem h
        exact ⟨List.mem_cons_of_mem _ this.1, this.2⟩

theorem hrest_nodup {H : Hid} {is : List Nat} : ∀ {σ : Heap}, (blks H σ).Nodup → (blks H (hrest is σ)).Nodup
  | [], _ => by simp [hrest, blks]
  | (id, y) :: r, h => by
    rw [blks_cons] at h
    have h1 := List.nodup_append.1 h
    unfold hrest
    cases hb : memB id is with
    | true => exact hrest_nodup h1.2.1
    | false =>
      simp only [cond_false]
      rw [blks_cons]
      refine List.nodup_append.2 ⟨h1.1, hrest_nodup h1.2.1, fun b hb1 c hc e => ?_⟩
      obtain ⟨x, hx, hbx⟩ := List.mem_flatMap.1 hc
      exact h1.2.2 b hb1 c (List.mem_flatMap.2 ⟨x, (hrest_mem hx).1, hbx⟩) e

theorem cells_app {H : Hid} {cs gs : List GV} {us vs : Array Value} (h : Cells H cs us) (k : Cells H gs vs) : Cells H (cs ++ gs) (us ++ vs) := by
  refine ⟨by simp [h.1, k.1], fun j g hj => ?_⟩
  simp only [Array.getD_eq_getD_getElem?]
  by_cases hlt : j < cs.length
  · rw [List.getElem?_append_left hlt] at hj
    rw [Array.getElem?_append_left (by rw [← h.1]; exact hlt)]
    have := h.2 j g hj
    rwa [Array.getD_eq_getD_getElem?] at this
  · rw [List.getElem?_append_right (by omega)] at hj
    rw [Array.getElem?_append_right (by rw [← h.1]; omega)]
    have := k.2 _ g hj
    rwa [Array.getD_eq_getD_getElem?, h.1] at this

theorem evs_cells {p : Pg} {H : Hid} (hg : GlOk p H) {ρ : Env} {a : Act} (h : EnvOk H ρ a) {xs : Array Operand} {gs : List GV} (he : evs p ρ xs.toList = some gs) : Cells H gs (xs.map a.eval) := by
  obtain ⟨hl, hi⟩ := evs_is hg h he
  refine ⟨by simpa using hl, fun j g hj => ?_⟩
  obtain ⟨x, hx, his⟩ := hi j g hj
  have : (xs.map a.eval).getD j undef = a.eval x := by
    have hx' : xs[j]? = some x := by simpa using hx
    rw [Array.getD_eq_getD_getElem?, Array.getElem?_map, hx']
    rfl
  rw [this]
  exact his

theorem cells_back {H : Hid} {f : Nat → Nat} {n : Nat} {cs : List GV} {us : Array Value} (h : Cells H (renL f cs) us) (hb : idbL n cs = true) : Cells (H.via f n) cs us :=
  ⟨by rw [← h.1, renL_len], renL_back cs h.2 hb⟩

theorem mem_renH {f : Nat → Nat} : ∀ {σ : Heap} {x : Nat × Res}, x ∈ renH f σ → ∃ y ∈ σ, x = (f y.1, renR f y.2)
  | [], x, h => by simp [renH] at h
  | (id, r) :: t, x, h => by
    simp only [renH, List.mem_cons] at h
    rcases h with rfl | h
    · exact ⟨_, List.mem_cons_self, rfl⟩
    · obtain ⟨y, hy, e⟩ := mem_renH h
      exact ⟨y, List.mem_cons_of_mem _ hy, e⟩

theorem blks_renH {H H' : Hid} {f : Nat → Nat} (hbl : ∀ i, i < H.n → H'.bl (f i) = H.bl i ∧ H'.sv (f i) = H.sv i) : ∀ {σ : Heap}, (∀ x ∈ σ, x.1 < H.n) → blks H' (renH f σ) = blks H σ
  | [], _ => rfl
  | (id, r) :: t, h => by
    simp only [renH]
    rw [blks_cons, blks_cons, blks_renH hbl (fun x hx => h x (List.mem_cons_of_mem _ hx))]
    have := hbl id (h _ List.mem_cons_self)
    congr 1
    cases r <;> simp [blocks, renR, this.1, this.2]

theorem esIs_ren {H H' : Hid} {f : Nat → Nat} (hro : ∀ b o, H.ro b = some o → H'.ro b = some o) (hf : ∀ i, i < H.n → f i < H'.n ∧ H'.bl (f i) = H.bl i ∧ H'.sv (f i) = H.sv i) : ∀ {es : List (Value × GV)} {l : List MapEntry}, esIs H es l → esIs H' (renM f es) l
  | [], [], _ => trivial
  | (_, _) :: r, _ :: _, h => ⟨h.1, h.2.1.ren hro hf, esIs_ren hro hf (es := r) h.2.2⟩
  | [], _ :: _, h => h.elim
  | _ :: _, [], h => h.elim
theorem MapOk.ren {H H' : Hid} {f : Nat → Nat} (hro : ∀ b o, H.ro b = some o → H'.ro b = some o) (hf : ∀ i, i < H.n → f i < H'.n ∧ H'.bl (f i) = H.bl i ∧ H'.sv (f i) = H.sv i) {kd : Option IntKind} {es : List (Value × GV)} {arr : Array MapEntry} {clock : Nat} (h : MapOk H kd es arr clock) : MapOk H' kd (renM f es) arr clock :=
  ⟨esIs_ren hro hf h.is, h.sorts, h.st⟩
theorem holds_ren {H H' : Hid} {w : World} {f : Nat → Nat} (hro : ∀ b o, H.ro b = some o → H'.ro b = some o) (hf : ∀ i, i < H.n → f i < H'.n ∧ H'.bl (f i) = H.bl i ∧ H'.sv (f i) = H.sv i) {x : Nat × Res} (hx : x.1 < H.n) (h : holds H w x) : holds H' w (f x.1, renR f x.2) := by
  obtain ⟨id, r⟩ := x
  obtain ⟨_, h2, h3⟩ := hf id hx
  cases r with
  | blk ty cs =>
    obtain ⟨us, hw, hl, hi⟩ := h
    refine ⟨us, by simp only; rw [h2]; exact hw, by rw [renL_len]; exact hl, fun j g hj => ?_⟩
    rw [renL_get] at hj
    cases hc : cs[j]? with
    | none => rw [hc] at hj; cases hj
    | some y => rw [hc] at hj; simp at hj; subst hj; exact (hi j y hc).ren hro hf
  | row ty sz rows =>
    obtain ⟨xs, h4, h5⟩ := h
    exact ⟨xs, by simp only; rw [h3]; exact h4, h5.mono hro⟩
  | ob o => exact (by show w.heap[H'.bl (f id)]? = some o; rw [h2]; exact h)
  | ln sz n => obtain ⟨A, c, h4, h5⟩ := h; exact ⟨A, c, by simp only; rw [h3]; exact h4, h5⟩
  | mp kd es =>
    obtain ⟨b, arr, clock, h4, h5, h6⟩ := h
    exact ⟨b, arr, clock, by simp only; rw [h3]; exact h4, h5, MapOk.ren hro hf h6⟩
  | mr kd es left cur =>
    obtain ⟨b, arr, clock, seen, h4, hne, h5, h6, h7, h8⟩ := h
    exact ⟨b, arr, clock, seen, by simp only; rw [h3]; exact h4, by simp only; rw [h2]; exact hne, h5, MapOk.ren hro hf h6, by simp only; rw [h2]; exact h7, h8⟩
  | itr m =>
    obtain ⟨hi, h4, h5⟩ := h
    obtain ⟨g1, _, g3⟩ := hf m hi
    exact ⟨g1, by simp only; rw [h3, g3]; exact h4, by rw [g3]; exact h5⟩
  | sub i sz lo n =>
    obtain ⟨hi, A, c, h4, h5, h6, hz, h7⟩ := h
    obtain ⟨g1, _, g3⟩ := hf i hi
    refine ⟨g1, A, c, by simp only; rw [h3]; exact h4, h5, h6, hz, fun h0 => ?_⟩
    obtain ⟨g, l', c', h8, h9⟩ := h7 h0
    exact ⟨g, l', c', by rw [g3]; exact h8, h9⟩

section
variable {cx : Cx} {T : Post}

/-- What a call does to the state. -/
theorem Sim.call {s : St} {H : Hid} {w w' : World} (hs : Sim cx H s w) {r : Nat → Nat} {n0 : Nat} {σc σ' : Heap} {H' : Hid} (hσ : leσ r σc s.σ) (hbH : idbH n0 σc = true) (hd : distB (hids r σc) = true) (hr : ∀ i, i < n0 → r i < s.n)
    (hs' : Sat H' σ' w') (hfr : Fr (H.via r n0) (blks (H.via r n0) σc) w H' (blks H' σ') w') (ρ : Env) :
    ∃ H'', H.le H'' ∧ (∀ g u, Is H' g u → Is H'' (ren (sh r n0 s.n) g) u) ∧ Sim cx H'' ⟨ρ, renH (sh r n0 s.n) σ' ++ hrest (hids r σc) s.σ, s.n + (H'.n - n0)⟩ w' := by
  obtain ⟨hpart, hpb⟩ := hs.sat.part hσ hbH hd
  have hle := hfr.le
  have hn0 : n0 ≤ H'.n := hle.n
  have hHn := hs.n
  let H'' : Hid := { ro := H'.ro, bl := fun i => if i < s.n then H.bl i else H'.bl (n0 + (i - s.n)), sv := fun i => if i < s.n then H.sv i else H'.sv (n0 + (i - s.n)), n := s.n + (H'.n - n0) }
  have hleH : H.le H'' := ⟨by show H.n ≤ s.n + _; omega, fun b o h => hle.ro b o h, fun i hi => by show (if i < s.n then _ else _) = _; rw [if_pos (by omega)], fun i hi => by show (if i < s.n then _ else _) = _; rw [if_pos (by omega)]⟩
  have hf : ∀ i, i < H'.n → sh r n0 s.n i < H''.n ∧ H''.bl (sh r n0 s.n i) = H'.bl i ∧ H''.sv (sh r n0 s.n i) = H'.sv i := by
    intro i hi
    unfold sh
    cases hb : Nat.blt i n0 with
    | true =>
      have hlt := blt_lt hb
      have h1 := hr i hlt
      simp only [cond_true]
      refine ⟨by show r i < s.n + _; omega, ?_, ?_⟩
      · show (if r i < s.n then H.bl (r i) else _) = _
        rw [if_pos h1]
        exact (hle.bl i hlt).symm
      · show (if r i < s.n then H.sv (r i) else _) = _
        rw [if_pos h1]
        exact (hle.sv i hlt).symm
    | false =>
      have hge : n0 ≤ i := by
        rcases Nat.lt_or_ge i n0 with h | h
        · rw [← Nat.blt_eq] at h; rw [h] at hb; cases hb
        · exact h
      simp only [cond_false]
      refine ⟨by show s.n + (i - n0) < s.n + _; omega, ?_, ?_⟩
      · show (if s.n + (i - n0) < s.n then _ else H'.bl (n0 + (s.n + (i - n0) - s.n))) = _
        rw [if_neg (by omega), show n0 + (s.n + (i - n0) - s.n) = i by omega]
      · show (if s.n + (i - n0) < s.n then _ else H'.sv (n0 + (s.n + (i - n0) - s.n))) = _
        rw [if_neg (by omega), show n0 + (s.n + (i - n0) - s.n) = i by omega]
  have hro : ∀ b o, H'.ro b = some o → H''.ro b = some o := fun _ _ h => h
  have hblσ : blks H'' (renH (sh r n0 s.n) σ') = blks H' σ' := blks_renH (fun i hi => (hf i hi).2) hs'.ids
  have hblr : blks H'' (hrest (hids r σc) s.σ) = blks H (hrest (hids r σc) s.σ) := blks_le hleH (fun x hx => hs.sat.ids x (hrest_mem hx).1)
  -- what is left of the caller's own things lies apart from what the callee was given
  have hapart : ∀ b ∈ blks H (hrest (hids r σc) s.σ), b < w.heap.size ∧ b ∉ blks (H.via r n0) σc ∧ b ∈ blks H s.σ := by
    intro b hb
    obtain ⟨x, hx, hbx⟩ := List.mem_flatMap.1 hb
    obtain ⟨hxσ, hxi⟩ := hrest_mem hx
    have hmem : b ∈ blks H s.σ := List.mem_flatMap.2 ⟨x, hxσ, hbx⟩
    refine ⟨hs.sat.lt b hmem, fun hc => ?_, hmem⟩
    obtain ⟨y, hy, hyi, hby⟩ := hpb b hc
    exact blks_apart hs.sat.nodup hxσ hy (fun e => hxi (by rw [e]; exact hyi)) b hbx hby
  have hsub : ∀ b ∈ blks (H.via r n0) σc, b ∈ blks H s.σ := fun b hb => by
    obtain ⟨y, hy, _, hby⟩ := hpb b hb
    exact List.mem_flatMap.2 ⟨y, hy, hby⟩
  have hcfr := hs.fr
  refine ⟨H'', hleH, fun g u h => h.ren hro hf, rfl, ⟨hs'.ro, fun x hx => ?_, ?_, fun b hb => ?_, fun x hx => ?_⟩, ?_⟩
  · rcases List.mem_append.1 hx with hx | hx
    · obtain ⟨y, hy, rfl⟩ := mem_renH hx
      exact holds_ren hro hf (hs'.ids y hy) (hs'.holds y hy)
    · obtain ⟨hxσ, _⟩ := hrest_mem hx
      refine holds_congr (w := w) (fun b hb => ?_) (holds_le hleH (hs.sat.ids x hxσ) (hs.sat.holds x hxσ))
      rw [blocks_le hleH (hs.sat.ids x hxσ)] at hb
      obtain ⟨h1, h2, _⟩ := hapart b (List.mem_flatMap.2 ⟨x, hx, hb⟩)
      exact hfr.keep b h1 h2
  · rw [blks_append, hblσ, hblr]
    refine List.nodup_append.2 ⟨hs'.nodup, hrest_nodup hs.sat.nodup, fun b hb c hc e => ?_⟩
    subst e
    obtain ⟨h1, h2, _⟩ := hapart b hc
    rcases hfr.own b hb with h | h
    · exact h2 h
    · omega
  · rw [blks_append, hblσ, hblr] at hb
    rcases List.mem_append.1 hb with hb | hb
    · exact hs'.free b hb
    · obtain ⟨h1, h2, h3⟩ := hapart b hb
      show H'.ro b = none
      cases hrb : H'.ro b with
      | none => rfl
      | some o =>
        rcases hfr.fro b (hs.sat.free b h3) (by rw [hrb]; simp) with h | h
        · exact (h2 h).elim
        · omega
  · rcases List.mem_append.1 hx with hx | hx
    · obtain ⟨y, hy, rfl⟩ := mem_renH hx
      exact (hf _ (hs'.ids y hy)).1
    · have := hs.sat.ids x (hrest_mem hx).1
      show x.1 < s.n + _
      omega
  · refine ⟨hfr.os.trans hcfr.os, hfr.tape.trans hcfr.tape, hfr.output.trans hcfr.output, Nat.le_trans hcfr.size hfr.size, fun b h1 h2 => ?_, fun b hb => ?_, fun b h1 h2 => ?_, hcfr.le.trans hleH⟩
    · rw [hfr.keep b (Nat.lt_of_lt_of_le h1 hcfr.size) (fun hb => ?_)]
      · exact hcfr.keep b h1 h2
      · rcases hcfr.own b (hsub b hb) with h | h
        · exact h2 h
        · omega
    · simp only at hb
      rw [blks_append, hblσ, hblr] at hb
      rcases List.mem_append.1 hb with hb | hb
      · rcases hfr.own b hb with h | h
        · exact hcfr.own b (hsub b h)
        · exact .inr (Nat.le_trans hcfr.size h)
      · exact hcfr.own b (hapart b hb).2.2
    · by_cases h3 : H.ro b = none
      · rcases hfr.fro b h3 h2 with h | h
        · exact hcfr.own b (hsub b h)
        · exact .inr (Nat.le_trans hcfr.size h)
      · exact hcfr.fro b h1 h3

theorem execOp_call {p : Pg} {H : Hid} (hg : GlOk p H) {ρ : Env} {a : Act} (ha : EnvOk H ρ a) {fo : Operand} {args : Array Operand} {ts : Array TypeId} {f : FuncId} {first caps gs : List GV} (hf : ev p ρ fo = some (.fn (.func f) first caps)) (he : evs p ρ args.toList = some gs)
    (hcall : ∀ as w, (callFunc f as).run p.P w = .ok (.enter f as) w) : ∃ us, Cells H (first ++ gs ++ caps) us ∧ ∀ (o : Oper), o.op = .call { callee := .value fo, args := args, argTypes := ts } → ∀ w, (execOp a.eval o).run p.P w = .ok (.enter f us) w := by
  obtain ⟨fs, cs, hv, hl, hi, hl', hi'⟩ := (ev_is hg ha hf).inv_fn
  refine ⟨fs ++ args.map a.eval ++ cs, cells_app (cells_app ⟨hl, hi⟩ (evs_cells hg ha he)) ⟨hl', hi'⟩, fun o ho w => ?_⟩
  simp only [execOp, ho, resolve, hv, Deferred.ofValue, Sem.run_bind, Sem.run_pure, Result.andThen_ok, invoke, hcall]

/-- A call, by itself. -/
theorem call_wp {o : Oper} {s : St} {fo : Operand} {args : Array Operand} {ts : Array TypeId} {f : FuncId} {first caps gs : List GV} {n0 : Nat} {cargs : List GV} {σc : Heap} {Q : GV → Heap → Nat → Prop}
    (hct : Ct cx.pg f n0 cargs σc Q) (hcall : ∀ as w, (callFunc f as).run cx.pg.P w = .ok (.enter f as) w) (r : Nat → Nat)
    (ho : o.op = .call { callee := .value fo, args := args, argTypes := ts }) {ρ : Env} (hf : ev cx.pg ρ fo = some (.fn (.func f) first caps)) (he : evs cx.pg ρ args.toList = some gs)
    (hargs : first ++ gs ++ caps = renL r cargs) (hσ : leσ r σc s.σ) (chk : (idbL n0 cargs && idbH n0 σc && distB (hids r σc)) = true) (hr : ∀ i, i < n0 → r i < s.n)
    {H : Hid} {a : Act} {w : World} (hg : GlOk cx.pg H) (hs : Sim cx H s w) (ha : EnvOk H ρ a) {K : Act → World → Prop} {Q' : Exit → Act → World → Prop}
    (hK : ∀ (H'' : Hid) (u : Value) (g : GV) (σ' : Heap) (n' : Nat) (w' : World), H.le H'' → Is H'' (ren (sh r n0 s.n) g) u → Q g σ' n' → (∀ ρ, Sim cx H'' ⟨ρ, renH (sh r n0 s.n) σ' ++ hrest (hids r σc) s.σ, s.n + (n' - n0)⟩ w') → K (a.put o.dst u) w') :
    o.wp cx.pg.P a w K Q' := by
  simp only [Bool.and_eq_true] at chk
  obtain ⟨⟨h1, h2⟩, h3⟩ := chk
  obtain ⟨us, hc, hex⟩ := execOp_call (ts := ts) hg ha hf he hcall
  rw [hargs] at hc
  have hpart := (hs.sat.part hσ h2 h3).1
  have hC := hct (H.via r n0) us w rfl hg (cells_back hc h1) hpart
  unfold Oper.wp
  rw [hex o ho w, Oper.upon_enter]
  refine hC.mono ?_
  rintro e w' ⟨u, g, H', σ', rfl, hi, hs', hfr, hQ⟩
  obtain ⟨H'', hle, hren, hsim⟩ := hs.call hσ h2 h3 hr hs' hfr s.ρ
  exact hK H'' u g σ' H'.n w' hle (hren g u hi) hQ (fun ρ => hsim.ρ ρ)

/-- A CALL of a function of which a contract is known. 'r': where the callee's own things are in the caller. -/
theorem JK.call {all : List Oper} {o : Oper} {rest : List Oper} {k : List It} {s : St} {fo : Operand} {args : Array Operand} {ts : Array TypeId} {f : FuncId} {first caps gs : List GV} {n0 : Nat} {cargs : List GV} {σc : Heap} {Q : GV → Heap → Nat → Prop}
    (hct : Ct cx.pg f n0 cargs σc Q) (hcall : ∀ as w, (callFunc f as).run cx.pg.P w = .ok (.enter f as) w) (r : Nat → Nat)
    (ho : o.op = .call { callee := .value fo, args := args, argTypes := ts }) (hgd : gdOk all s.ρ o.guard = true) (hf : ev cx.pg s.ρ fo = some (.fn (.func f) first caps)) (he : evs cx.pg s.ρ args.toList = some gs)
    (hargs : first ++ gs ++ caps = renL r cargs) (hσ : leσ r σc s.σ) (chk : (idbL n0 cargs && idbH n0 σc && distB (hids r σc)) = true) (hr : ∀ i, i < n0 → r i < s.n)
    (h : ∀ g σ' n', Q g σ' n' → nf (ren (sh r n0 s.n) g) fun g => nfH (renH (sh r n0 s.n) σ' ++ hrest (hids r σc) s.σ) fun σ => nfN (s.n + (n' - n0)) fun n => dput cx.N s.ρ o.dst g fun ρ' => JK cx T (.ops false all rest :: k) ⟨ρ', σ, n⟩) :
    JK cx T (.ops false all (o :: rest) :: k) s := by
  intro H a w hg hs ha
  have hw := gdOk_wanted (o := o) ha.env hgd
  show wpList _ _ _ _ _ _
  unfold wpList
  rw [if_pos hw]
  refine .inl (call_wp hct hcall r ho hf he hargs hσ chk hr hg hs ha.env fun H'' u g σ' n' w' hle hi hQ hsim => ?_)
  have hd := h g σ' n' hQ
  rw [nf_eq, nfH_eq, nfN_eq] at hd
  obtain ⟨ρ', ha', hJ⟩ := (ha.mono hle).dput hi hd
  exact hJ H'' (a.put o.dst u) w' (hg.mono hle) (hsim ρ') ha'

/-- What a ghost value without addresses stands for. -/
def gval : GV → Option Value
  | .v x => some x
  | .b c => some (.bool c)
  | _ => none

theorem gval_is {H : Hid} {g : GV} {u x : Value} (h : Is H g u) (hg : gval g = some x) : u = x := by
  cases g <;> simp only [gval, Option.some.injEq] at hg <;> (try (cases hg; done))
  · subst hg; exact h.inv_v
  · subst hg; exact h.inv_b

/-- A CALL within a region that draws its order: it makes no difference to what is there, and hands back just this. -/
theorem JK.callq {all : List Oper} {o : Oper} {rest : List Oper} {k : List It} {s : St} {fo : Operand} {args : Array Operand} {ts : Array TypeId} {f : FuncId} {first caps gs : List GV} {Q : GV → Heap → Nat → Prop} {G : GV}
    (hct : Ct cx.pg f 0 (first ++ gs ++ caps) [] Q) (hcall : ∀ as w, (callFunc f as).run cx.pg.P w = .ok (.enter f as) w)
    (ho : o.op = .call { callee := .value fo, args := args, argTypes := ts }) (hgd : gdOk all s.ρ o.guard = true) (hf : ev cx.pg s.ρ fo = some (.fn (.func f) first caps)) (he : evs cx.pg s.ρ args.toList = some gs)
    (chk : idbL 0 (first ++ gs ++ caps) = true) (hQ : ∀ g σ' n', Q g σ' n' → g = G) (hG : (gval G).isSome = true)
    (h : dput cx.N s.ρ o.dst G fun ρ' => JK cx T (.ops true all rest :: k) { s with ρ := ρ' }) :
    JK cx T (.ops true all (o :: rest) :: k) s := by
  intro H a w hg hs ha
  obtain ⟨x, hx⟩ := Option.isSome_iff_exists.1 hG
  obtain ⟨us, hc, hex⟩ := execOp_call (ts := ts) hg ha.env hf he hcall
  have hw := gdOk_wanted (o := o) ha.env hgd
  have hcs : Cells (H.via id 0) (first ++ gs ++ caps) us := cells_back (f := id) (by
    rw [renL_id]; exact hc) chk
  obtain ⟨ρ', ha', hJ⟩ := ha.dput (u := x) (by
    cases G <;> simp only [gval, Option.some.injEq] at hx <;> (try (cases hx; done))
    · subst hx; exact .ro (.v _)
    · subst hx; exact .ro (.b _)) h
  show wpQuiet _ _ _ _ _ _
  unfold wpQuiet
  rw [if_pos hw]
  refine ⟨x, fun w1 hb => ?_, hJ H (a.put o.dst x) w hg (hs.ρ ρ') ha'⟩
  unfold Oper.quietAt
  rw [hex o ho w1]
  refine ⟨rfl, ?_⟩
  have hsat : Sat (H.via id 0) [] w1 := ⟨(hs.sat.below hb).ro, by simp, by simp [blks], by simp [blks], by simp⟩
  refine (hct (H.via id 0) us w1 rfl hg hcs hsat).mono ?_
  rintro e w' ⟨u, g, H', σ', rfl, hi, hs', hfr, hq⟩
  have := hQ g σ' _ hq
  subst this
  have hu := gval_is hi hx
  subst hu
  refine ⟨rfl, hb.trans ⟨hfr.os, hfr.tape, hfr.output, hfr.size, fun b hlt => ?_⟩⟩
  exact hfr.keep b (Nat.lt_of_lt_of_le hlt hb.size) (by simp [blks])
end
end Go.GK
