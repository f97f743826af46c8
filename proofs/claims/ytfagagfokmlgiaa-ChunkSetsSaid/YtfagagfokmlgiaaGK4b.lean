/-
  The ghost machine: rows of the call's own: written out, and appended to.
-/
import Derived.Test.YtfagagfokmlgiaaGK4
import Derived.Maps.AppendAt
namespace Go.GK
open Go.RowKit

section
variable {p : Pg} {H : Hid} {ρ : Env} {σ : Heap} {a : Act} {w : World}

mutual
theorem Is.toR : ∀ {g : GV} {u : Value}, Is H g u → idb 0 g = true → IsR H.ro g u
  | .v x, u, h, _ => by have := h.inv_v; subst this; exact .v _
  | .b c, u, h, _ => by have := h.inv_b; subst this; exact .b _
  | .p id off, u, _, hb => by simp [idb] at hb
  | .e id sz i off, u, _, hb => by simp [idb] at hb
  | .o id, u, _, hb => by simp [idb] at hb
  | .r cs, u, h, _ => by cases h with | ro h => exact h
  | .sl sz rows, u, h, _ => by cases h with | ro h => exact h
  | .agg cs, u, h, hb => by
    simp only [idb] at hb
    obtain ⟨us, rfl, hl, hi⟩ := h.inv_agg
    exact .agg hl (Is.toRL cs hi hb)
  | .tup cs, u, h, hb => by
    simp only [idb] at hb
    obtain ⟨us, rfl, hl, hi⟩ := h.inv_tup
    exact .tup hl (Is.toRL cs hi hb)
  | .fn f as cs, u, h, hb => by
    simp only [idb, Bool.and_eq_true] at hb
    obtain ⟨us, vs, rfl, hl, hi, hl', hi'⟩ := h.inv_fn
    exact .fn hl (Is.toRL as hi hb.1) hl' (Is.toRL cs hi' hb.2)
  | .ifc t x, u, h, hb => by
    simp only [idb] at hb
    obtain ⟨v, rfl, hi⟩ := h.inv_ifc
    exact .ifc (Is.toR hi hb)
theorem Is.toRL {F : Nat → Value} : ∀ (l : List GV), (∀ (j : Nat) (g : GV), l[j]? = some g → Is H g (F j)) → idbL 0 l = true → ∀ (j : Nat) (g : GV), l[j]? = some g → IsR H.ro g (F j)
  | [], _, _, j, g, hj => by simp at hj
  | x :: r, h, hb, 0, g, hj => by
    simp [idbL] at hb
    simp at hj
    subst hj
    exact Is.toR (h 0 _ rfl) hb.1
  | x :: r, h, hb, j + 1, g, hj => by
    simp [idbL] at hb
    exact Is.toRL (F := fun j => F (j + 1)) r (fun j g hj => h (j + 1) g (by simpa using hj)) hb.2 j g (by simpa using hj)
end

theorem fill_seq (sz : Nat) : ∀ (vs : List (Nat × Value)) (k : Nat) (us : Array Value), (∀ (m : Nat) (x : Nat × Value), vs[m]? = some x → x.1 = k + m ∧ x.2.cells.size = sz) → (k + vs.length) * sz ≤ us.size →
    ∃ us', Instr.fill (fun i => some (i * sz, sz)) us vs = some us' ∧ us'.size = us.size ∧ (∀ i, i < k * sz → us'.getD i undef = us.getD i undef) ∧
      ∀ (m : Nat) (x : Nat × Value), vs[m]? = some x → ∀ j, j < sz → us'.getD ((k + m) * sz + j) undef = x.2.cells.getD j undef
  | [], k, us, _, _ => ⟨us, rfl, rfl, fun _ _ => rfl, by simp⟩
  | (i, v) :: vs, k, us, hv, hl => by
    obtain ⟨hi, hs⟩ := hv 0 (i, v) rfl
    simp only [Nat.add_zero] at hi hs
    subst hi
    obtain ⟨f1, f2⟩ := foldl_set v.cells.toList 0 (i * sz) us
    have hlen : v.cells.toList.length = sz := by simpa using hs
    simp only [List.length_cons] at hl
    have hmul : (i + (vs.length + 1)) * sz = i * sz + sz + vs.length * sz := by rw [Nat.add_mul, Nat.add_mul]; omega
    have hone : (i + 1) * sz = i * sz + sz := by rw [Nat.add_mul]; omega
    have e : v.cells.zipIdx.foldl (fun cs (c, j) => cs.setIfInBounds (i * sz + j) c) us = (v.cells.toList.zipIdx 0).foldl (fun cs (x : Value × Nat) => cs.setIfInBounds (i * sz + x.2) x.1) us := by
      rw [← Array.foldl_toList, Array.toList_zipIdx]
    obtain ⟨us', h1, h2, h3, h4⟩ := fill_seq sz vs (i + 1) ((v.cells.toList.zipIdx 0).foldl (fun cs (x : Value × Nat) => cs.setIfInBounds (i * sz + x.2) x.1) us)
      (fun m x hm => by have := hv (m + 1) x (by simpa using hm); exact ⟨by omega, this.2⟩) (by rw [f1, Nat.add_mul, hone]; omega)
    refine ⟨us', ?_, by rw [h2, f1], fun j hj => ?_, fun m x hm j hj => ?_⟩
    · unfold Instr.fill
      simp only
      rw [if_neg (by simp [hs]; omega), e]
      exact h1
    · rw [h3 j (by omega), f2 j (by omega), if_neg (by omega)]
    · cases m with
      | zero =>
        simp at hm
        subst hm
        simp only [Nat.add_zero]
        rw [h3 _ (by omega), f2 _ (by omega), if_pos (by omega)]
        have : i * sz + j - (i * sz + 0) = j := by omega
        rw [this]
        simp [List.getD, Array.getD_eq_getD_getElem?]
      | succ m =>
        have := h4 m x (by simpa using hm) j hj
        rwa [show i + 1 + m = i + (m + 1) by omega] at this

theorem seqB_spec {sz : Nat} : ∀ {k : Nat} {gs : List (Nat × GV)}, seqB sz k gs = true → ∀ (m i : Nat) (g : GV), gs[m]? = some (i, g) → i = k + m ∧ (cellsOf g).length = sz ∧ allOne (cellsOf g) = true ∧ idbL 0 (cellsOf g) = true
  | _, [], _, m, i, g, hm => by simp at hm
  | k, (i0, g0) :: r, h, m, i, g, hm => by
    simp only [seqB, Bool.and_eq_true] at h
    obtain ⟨⟨⟨⟨h1, h2⟩, h3⟩, h4⟩, h5⟩ := h
    cases m with
    | zero => simp at hm; obtain ⟨rfl, rfl⟩ := hm; exact ⟨by simpa using (beq_eq h1).symm, beq_eq h2, h3, h4⟩
    | succ m => have := seqB_spec h5 m i g (by simpa using hm); exact ⟨by omega, this.2⟩

/-- A new row. -/
theorem Sim.newRow {cx : Cx} {s : St} (h : Sim cx H s w) {ty sz : Nat} {rows : List (List GV)} {us : Array Value} (hr : RowOk H.ro sz rows us.toList) (hm : rows.length ≤ maxLen) (ρ : Env) :
    Sim cx (H.more w.heap.size (.slice (some ⟨w.heap.size, 0, none⟩) rows.length rows.length)) { ρ := ρ, σ := (s.n, .row ty sz rows) :: s.σ, n := s.n + 1 } (w.alloc (.cells us ty)) ∧
      Is (H.more w.heap.size (.slice (some ⟨w.heap.size, 0, none⟩) rows.length rows.length)) (.o s.n) (.slice (some ⟨w.heap.size, 0, none⟩) rows.length rows.length) := by
  have hle := H.le_more w.heap.size (.slice (some ⟨w.heap.size, 0, none⟩) rows.length rows.length)
  have e : (H.more w.heap.size (.slice (some ⟨w.heap.size, 0, none⟩) rows.length rows.length)).sv s.n = .slice (some ⟨w.heap.size, 0, none⟩) rows.length rows.length := by simp [Hid.more, h.n]
  refine ⟨h.grow hle rfl (by simp [Hid.more, h.n]) ((Below.refl _ _).alloc (Nat.le_refl _) _) ?_ (by simp [blocks, e, Value.ownBlock]) (by simp [blocks, e, Value.ownBlock]) ρ, .o (by simp [Hid.more, h.n]) e rfl⟩
  refine ⟨us.toList, ?_, hr.mono hle.ro⟩
  rw [e]
  refine ⟨by simpa using hr.len, .inr ⟨w.heap.size, rows.length, us, rfl, Nat.zero_le _, heap_alloc_new w _, Nat.le_refl _, hm, by simpa using hr.len, ?_⟩⟩
  rw [← hr.len]
  exact List.take_of_length_le (by simp)

theorem run_buildSlice_of {t e : Nat} {ti : TI} (hu : p.P.underlying t = some (.slice e)) (hti : TyOk p.P e ti) {gs : List (Nat × GV)} {vs : Array (Nat × Value)} {len : Nat} (hl : gs.length = vs.size)
    (hi : ∀ (j : Nat) i g, gs[j]? = some (i, g) → ∃ v, vs.toList[j]? = some (i, v) ∧ Is H g v) (hq : seqB ti.sz 0 gs = true) (hlen : gs.length = len) (hbig : len * ti.sz ≤ 16777216) (hsz : 0 < ti.sz) :
    ∃ us : Array Value, (Instr.buildSlice t len vs).run p.P w = .ok (.slice (some ⟨w.heap.size, 0, none⟩) len len) (w.alloc (.cells us e)) ∧ RowOk H.ro ti.sz (gs.map fun x => cellsOf x.2) us.toList := by
  obtain ⟨it, z, hit, hsi, _, hz, hzc, hzl⟩ := hti.info
  have hspec := seqB_spec hq
  have hvs : ∀ (m : Nat) (x : Nat × Value), vs.toList[m]? = some x → ∃ g, gs[m]? = some (x.1, g) ∧ Is H g x.2 := by
    intro m x hm
    have hlt : m < gs.length := by have := (List.getElem?_eq_some_iff.1 hm).1; simp at this; omega
    have hgm : gs[m]? = some ((gs[m]'hlt).1, (gs[m]'hlt).2) := by rw [List.getElem?_eq_getElem hlt]
    obtain ⟨v, hv, his⟩ := hi m _ _ hgm
    rw [hv] at hm
    simp at hm
    subst hm
    exact ⟨_, hgm, his⟩
  let zs : Array Value := if len * ti.sz = 0 then #[] else z.cells
  have hinit : ((Array.range (len * ti.sz)).map (zs[· % zs.size]!)).size = len * ti.sz := by simp
  obtain ⟨us, h1, h2, _, h4⟩ := fill_seq ti.sz vs.toList 0 ((Array.range (len * ti.sz)).map (zs[· % zs.size]!)) (fun m x hm => by
    obtain ⟨g, hg, his⟩ := hvs m x hm
    obtain ⟨a1, a2, _⟩ := hspec m _ _ hg
    exact ⟨a1, by rw [← (cells_is his).1]; exact a2⟩) (by rw [hinit]; simp; rw [← hl, hlen]; exact Nat.le_refl _)
  refine ⟨us, ?_, ?_⟩
  · have hnb : ¬ len * ti.sz > 2 ^ 24 := by omega
    simp only [Instr.buildSlice, Sem.run_bind, run_under hu, Result.andThen_ok, hti.size]
    rw [if_neg hnb]
    by_cases h0 : len * ti.sz = 0
    · have hz0 : zs = #[] := by simp [zs, h0]
      rw [hz0] at h1
      simp only [h0, ↓reduceIte, Sem.run_bind, Sem.run_pure, Result.andThen_ok] at h1 ⊢
      rw [h1]
      simp [newRow]
    · have hz0 : zs = z.cells := by simp [zs, h0]
      rw [hz0] at h1
      simp only [h0, ↓reduceIte, Sem.run_bind, Sem.run_pure, Result.andThen_ok, zeroValue, run_tinfo hit, hz]
      rw [h1]
      simp [newRow]
  · refine ⟨by simp [h2, hlen], fun row hr => ?_, fun i row hr j g hj => ?_, fun u hu => ?_⟩
    · obtain ⟨x, hx, rfl⟩ := List.mem_map.1 hr
      obtain ⟨m, hm⟩ := List.getElem?_of_mem hx
      exact (hspec m x.1 x.2 hm).2.1
    · simp only [List.getElem?_map, Option.map_eq_some_iff] at hr
      obtain ⟨x, hx, rfl⟩ := hr
      obtain ⟨v, hv, his⟩ := hi i x.1 x.2 hx
      obtain ⟨_, a2, _, a4⟩ := hspec i x.1 x.2 hx
      have hjlt : j < ti.sz := by rw [← a2]; exact (List.getElem?_eq_some_iff.1 hj).1
      have := h4 i (x.1, v) hv j hjlt
      simp only [Nat.zero_add] at this
      have hilt : i < len := by rw [← hlen]; exact (List.getElem?_eq_some_iff.1 hx).1
      have hlt : i * ti.sz + j < us.size := by
        rw [h2, hinit]
        have := Nat.mul_le_mul_right ti.sz (show i + 1 ≤ len by omega)
        rw [Nat.add_mul] at this
        omega
      have hc := cells_is his
      refine ⟨us.getD (i * ti.sz + j) undef, by simp [Array.getD, hlt], ?_⟩
      rw [this]
      exact Is.toRL (F := fun j => v.cells.getD j undef) _ hc.2 a4 j g hj
    · obtain ⟨k, hk⟩ := List.getElem?_of_mem hu
      have hkl : k < us.size := by have := (List.getElem?_eq_some_iff.1 hk).1; simpa using this
      have hdiv : k = k / ti.sz * ti.sz + k % ti.sz := by rw [Nat.mul_comm]; exact (Nat.div_add_mod _ _).symm
      have hmod := Nat.mod_lt k hsz
      have hdl : k / ti.sz < len := by
        rw [Nat.div_lt_iff_lt_mul hsz]
        rw [h2, hinit] at hkl
        exact hkl
      have hx : gs[k / ti.sz]? = some ((gs[k / ti.sz]'(by omega)).1, (gs[k / ti.sz]'(by omega)).2) := by rw [List.getElem?_eq_getElem (by omega)]
      obtain ⟨v, hv, his⟩ := hi _ _ _ hx
      obtain ⟨_, a2, a3, _⟩ := hspec _ _ _ hx
      have hc := cells_is his
      have := h4 _ _ hv (k % ti.sz) hmod
      simp only [Nat.zero_add] at this
      rw [← hdiv] at this
      have hcl : k % ti.sz < v.cells.size := by rw [← hc.1, a2]; exact hmod
      have hu' : u = us.getD k undef := by
        simp at hk
        obtain ⟨hh, he⟩ := Array.getElem?_eq_some_iff.1 hk
        simp [Array.getD, hkl, he]
      rw [hu', this]
      refine allOne_one hc a3 _ ?_
      simp [Array.getD, hcl]

theorem RowOk.append {ro : Nat → Option Obj} {sz : Nat} {r1 r2 : List (List GV)} {x1 x2 : List Value} (h : RowOk ro sz r1 x1) (k : RowOk ro sz r2 x2) : RowOk ro sz (r1 ++ r2) (x1 ++ x2) := by
  refine ⟨by simp [h.len, k.len, Nat.add_mul], fun row hr => ?_, fun i row hr j g hj => ?_, fun u hu => ?_⟩
  · rcases List.mem_append.1 hr with h1 | h1
    · exact h.each row h1
    · exact k.each row h1
  · by_cases hlt : i < r1.length
    · rw [List.getElem?_append_left hlt] at hr
      obtain ⟨u, hu, his⟩ := h.is i row hr j g hj
      exact ⟨u, by rw [List.getElem?_append_left (List.getElem?_eq_some_iff.1 hu).1]; exact hu, his⟩
    · rw [List.getElem?_append_right (by omega)] at hr
      obtain ⟨u, hu, his⟩ := k.is _ row hr j g hj
      refine ⟨u, ?_, his⟩
      have e : i * sz + j = x1.length + ((i - r1.length) * sz + j) := by
        rw [h.len, Nat.sub_mul]
        have := Nat.mul_le_mul_right sz (show r1.length ≤ i by omega)
        omega
      rw [e, List.getElem?_append_right (by omega)]
      rw [show x1.length + ((i - r1.length) * sz + j) - x1.length = (i - r1.length) * sz + j by omega]
      exact hu
  · rcases List.mem_append.1 hu with h1 | h1
    · exact h.one u h1
    · exact k.one u h1

theorem RowOk.nil {ro : Nat → Option Obj} {sz : Nat} : RowOk ro sz [] [] := ⟨by simp, by simp, by simp, by simp⟩

/-- What is appended, as cells. -/
theorem srcRows_spec (hs : Sat H σ w) {ty sz : Nat} {g : GV} {u : Value} (h : Is H g u) {rows : List (List GV)} (hr : srcRows σ ty sz g = some rows) (hsz : 0 < sz) :
    ∃ (A : Option Addr) (c : Nat) (xs : List Value), u = .slice A rows.length c ∧ RowOk H.ro sz rows xs ∧ (A = none → rows = []) ∧ ∀ ad, A = some ad → ∀ j v, xs[j]? = some v → w.cell? (ad.add j) = some v := by
  unfold srcRows at hr
  split at hr
  · simp at hr
    subst hr
    exact ⟨none, 0, [], h.inv_v, .nil, fun _ => rfl, by simp⟩
  · rename_i z rows'
    cases hb : Nat.beq z sz with
    | false => rw [hb] at hr; cases hr
    | true =>
      rw [hb] at hr
      simp at hr
      subst hr
      have := beq_eq hb
      subst this
      obtain ⟨A, c, us, rfl, hc, hm, he, hne⟩ := h.inv_sl.inv_sl
      by_cases h0 : rows' = []
      · subst h0
        exact ⟨A, c, [], rfl, .nil, fun _ => rfl, by simp⟩
      · obtain ⟨ad, rfl, h1, h2, h3⟩ := hne h0
        have hget : ∀ k, k < rows'.length * z → ((List.range (rows'.length * z)).map fun k => us (k / z) (k % z))[k]? = some (us (k / z) (k % z)) := fun k hk => by simp [hk]
        have hkk : ∀ i j, j < z → (i * z + j) / z = i ∧ (i * z + j) % z = j := fun i j hj => by
          rw [Nat.mul_comm]
          exact ⟨by rw [Nat.mul_add_div hsz]; simp [Nat.div_eq_of_lt hj], by rw [Nat.mul_add_mod]; exact Nat.mod_eq_of_lt hj⟩
        have hbound : ∀ i j, i < rows'.length → j < z → i * z + j < rows'.length * z := fun i j hi hj => by
          have := Nat.mul_le_mul_right z (show i + 1 ≤ rows'.length by omega)
          rw [Nat.add_mul] at this
          omega
        refine ⟨some ad, c, (List.range (rows'.length * z)).map fun k => us (k / z) (k % z), rfl, ⟨by simp, he, fun i row hr j g hj => ?_, fun v hv => ?_⟩, by simp, fun ad' e j v hj => ?_⟩
        · have hi := (List.getElem?_eq_some_iff.1 hr).1
          have hj' : j < z := by rw [← he row (List.mem_of_getElem? hr)]; exact (List.getElem?_eq_some_iff.1 hj).1
          obtain ⟨e1, e2⟩ := hkk i j hj'
          refine ⟨us i j, ?_, h2 i row hr j g hj⟩
          rw [hget _ (hbound i j hi hj'), e1, e2]
        · obtain ⟨k, _, rfl⟩ := List.mem_map.1 hv
          exact h3 _ _
        · injection e with e
          subst e
          have hjl := (List.getElem?_eq_some_iff.1 hj).1
          simp at hjl
          rw [hget j hjl] at hj
          injection hj with hj
          subst hj
          have hdiv : j = j / z * z + j % z := by rw [Nat.mul_comm]; exact (Nat.div_add_mod _ _).symm
          have hmod := Nat.mod_lt j hsz
          have hdl : j / z < rows'.length := by rw [Nat.div_lt_iff_lt_mul hsz]; exact hjl
          have hrow : rows'[j / z]? = some (rows'[j / z]'hdl) := List.getElem?_eq_getElem hdl
          have hrl := he _ (List.mem_of_getElem? hrow)
          have hcl : (rows'[j / z]'hdl)[j % z]? = some ((rows'[j / z]'hdl)[j % z]'(by omega)) := List.getElem?_eq_getElem _
          have := h1 _ _ hrow _ _ hcl
          rw [← hdiv] at this
          exact roCell_cell hs.ro this
  · rename_i id
    split at hr
    · rename_i t z rows' hl
      cases hb : Nat.beq t ty with
      | false => rw [hb] at hr; cases hr
      | true =>
        cases hb2 : Nat.beq z sz with
        | false => rw [hb, hb2] at hr; cases hr
        | true =>
          rw [hb, hb2] at hr
          simp at hr
          subst hr
          have := beq_eq hb2
          subst this
          obtain ⟨hv, hid⟩ := h.inv_o
          obtain ⟨xs, hown, hrow⟩ := hs.holds _ (hlook_mem hl)
          rcases hown.2 with ⟨e, hn⟩ | ⟨g, cap, cur, e, _, hh, hnc, hcm, hcs, htake⟩
          · have hr0 : rows' = [] := List.eq_nil_of_length_eq_zero hn
            subst hr0
            have hx0 : xs = [] := List.eq_nil_of_length_eq_zero (by simpa using hown.1)
            subst hx0
            exact ⟨none, 0, [], by rw [hv, e]; rfl, .nil, fun _ => rfl, by simp⟩
          · refine ⟨some ⟨g, 0, none⟩, cap, xs, by rw [hv, e], hrow, by simp, fun ad ea j v hj => ?_⟩
            injection ea with ea
            subst ea
            exact hown.cells (g := g) (by rw [e]; rfl) j v hj
    · cases hr
  · cases hr

/-- What is appended to. -/
theorem dstRows_spec (hs : Sat H σ w) {ty sz : Nat} {g : GV} {u : Value} (h : Is H g u) {rows : List (List GV)} {σ' : Heap} (hr : dstRows σ ty sz g = some (rows, σ')) :
    ∃ xs, w.ownsRow 0 ty sz u rows.length xs ∧ RowOk H.ro sz rows xs ∧ (∀ b ∈ u.ownBlock.toList, b ∈ blks H σ) ∧ (∀ x ∈ σ', x ∈ σ) ∧ (blks H σ').Nodup ∧ ∀ b ∈ u.ownBlock.toList, b ∉ blks H σ' := by
  unfold dstRows at hr
  split at hr
  · simp at hr
    obtain ⟨rfl, rfl⟩ := hr
    have := h.inv_v
    subst this
    exact ⟨[], World.ownsRow_nil w 0 ty sz, .nil, by simp [Value.ownBlock], fun x hx => hx, hs.nodup, by simp [Value.ownBlock]⟩
  · rename_i id
    split at hr
    · rename_i t z rows' hl
      cases hb : Nat.beq t ty with
      | false => rw [hb] at hr; cases hr
      | true =>
        cases hb2 : Nat.beq z sz with
        | false => rw [hb, hb2] at hr; cases hr
        | true =>
          rw [hb, hb2] at hr
          simp at hr
          obtain ⟨rfl, rfl⟩ := hr
          have e1 := beq_eq hb
          have e2 := beq_eq hb2
          subst e1
          subst e2
          obtain ⟨hv, hid⟩ := h.inv_o
          obtain ⟨xs, hown, hrow⟩ := hs.holds _ (hlook_mem hl)
          rw [← hv] at hown
          obtain ⟨l1, l2, es, ed, _⟩ := hlook_split hl
          have hnd := hs.nodup
          rw [es, blks_append, blks_cons] at hnd
          have n1 := List.nodup_append.1 hnd
          have n2 := List.nodup_append.1 n1.2.1
          have hblk : blocks H (id, Res.row t z rows') = u.ownBlock.toList := by simp [blocks, hv]
          refine ⟨xs, hown, hrow, fun b hb => ?_, fun x hx => ?_, ?_, fun b hb hc => ?_⟩
          · rw [es, blks_append, blks_cons, hblk]
            simp only [List.mem_append]
            exact .inr (.inl hb)
          · rw [ed] at hx
            rw [es]
            rcases List.mem_append.1 hx with h1 | h1
            · exact List.mem_append.2 (.inl h1)
            · exact List.mem_append.2 (.inr (List.mem_cons_of_mem _ h1))
          · rw [ed, blks_append]
            exact List.nodup_append.2 ⟨n1.1, n2.2.1, fun b hb c hc => n1.2.2 b hb c (List.mem_append.2 (.inr hc))⟩
          · rw [ed, blks_append] at hc
            rw [hblk] at n1 n2
            rcases List.mem_append.1 hc with h1 | h1
            · exact n1.2.2 b h1 b (List.mem_append.2 (.inl hb)) rfl
            · exact n2.2.2 b hb b h1 rfl
    · cases hr
  · cases hr

/-- APPEND. -/
theorem Sim.append {cx : Cx} {s : St} (hs : Sim cx H s w) {t e : Nat} {ti : TI} (hu : p.P.underlying t = some (.slice e)) (hti : TyOk p.P e ti) (hsz : 0 < ti.sz) (hby : 0 < ti.by_) {gd gx : GV} {ud ux : Value} (hd : Is H gd ud) (hx : Is H gx ux)
    {rows news : List (List GV)} {σ' : Heap} (hdr : dstRows s.σ e ti.sz gd = some (rows, σ')) (hxr : srcRows s.σ e ti.sz gx = some news) (hb : (rows.length + news.length) * ti.by_ ≤ 140737488355328) (ρ : Env) :
    ∃ H' u w', H.le H' ∧ (Builtin.append_ #[t, t] 0 #[ud, ux]).run p.P w = .ok u w' ∧ Is H' (.o s.n) u ∧ Sim cx H' { ρ := ρ, σ := (s.n, .row e ti.sz (rows ++ news)) :: σ', n := s.n + 1 } w' := by
  obtain ⟨xs, hown, hrow, hin, hsub, hnd, hout⟩ := dstRows_spec hs.sat hd hdr
  obtain ⟨A, c, ys, rfl, hyr, hA, hcell⟩ := srcRows_spec hs.sat hx hxr hsz
  obtain ⟨it, z, hit, hsi, hbi, hz, hzc, hzl⟩ := hti.info
  have h63 : rows.length + news.length ≤ maxLen := by
    have : rows.length + news.length ≤ (rows.length + news.length) * ti.by_ := Nat.le_mul_of_pos_right _ hby
    simp only [maxLen]
    omega
  have hzs : z.cells.size = ti.sz := by rw [← hzl, ← hzc]; simp
  have happ : ∃ u w', (Builtin.append_ #[t, t] 0 #[ud, .slice A news.length c]).run p.P w = .ok u w' ∧ w'.ownsRow 0 e ti.sz u (rows.length + news.length) (xs ++ ys) ∧ w.grownBy w' ud.ownBlock ∧ (u.ownBlock = ud.ownBlock ∨ u.ownBlock = some w.heap.size) := by
    cases A with
    | none =>
      have h0 := hA rfl
      subst h0
      have hy0 : ys = [] := List.eq_nil_of_length_eq_zero (by simpa using hyr.len)
      subst hy0
      refine ⟨ud, w, ?_, by simpa using hown, ⟨rfl, rfl, rfl, Nat.le_refl _, fun _ _ _ => rfl⟩, .inl rfl⟩
      rcases hown.2 with ⟨rfl, hn⟩ | ⟨g, cap, cur, rfl, _, _, hnc, _⟩
      · simp [Builtin.append_, run_under hu, sizeOf, typeInfo, hit, Builtin.lenOf, Builtin.firstCells]
      · simp [Builtin.append_, run_under hu, sizeOf, typeInfo, hit, Builtin.lenOf, Builtin.firstCells, hnc, storeCells]
    | some ad =>
      obtain ⟨v', w', hr, h1, h2, _, h4⟩ := run_append_own_at (P := p.P) w 0 t 0 e it z ti.sz ti.by_ hu hit hz hsi hbi hzs hsz ud rows.length xs hown ad news.length c ys hyr.len (hcell ad rfl) hyr.one h63 hb (Nat.zero_le _)
      exact ⟨v', w', hr, h1, h2, h4⟩
  obtain ⟨u, w', hr, hown', hgr, hblk⟩ := happ
  have hsl : ∃ A' c', u = .slice A' (rows.length + news.length) c' := by
    rcases hown'.2 with ⟨rfl, hn⟩ | ⟨g, cap, cur, rfl, _⟩
    · exact ⟨none, 0, by rw [hn]⟩
    · exact ⟨_, _, rfl⟩
  obtain ⟨A', c', hue⟩ := hsl
  have hle := H.le_more w.heap.size u
  have esv : (H.more w.heap.size u).sv s.n = u := by simp [Hid.more, hs.n]
  have hn : s.n < (H.more w.heap.size u).n := by simp [Hid.more, hs.n]
  have hlt : ∀ b ∈ blks H s.σ, b < w.heap.size := hs.sat.lt
  have hblkin : ∀ b ∈ u.ownBlock.toList, b ∈ ud.ownBlock.toList ∨ b = w.heap.size := fun b hb => by
    rcases hblk with h | h
    · rw [h] at hb; exact .inl hb
    · rw [h] at hb; simp at hb; exact .inr hb
  have hsubB : ∀ b ∈ blks H σ', b ∈ blks H s.σ := fun b hb => by
    obtain ⟨x, hx, hbx⟩ := List.mem_flatMap.1 hb
    exact List.mem_flatMap.2 ⟨x, hsub x hx, hbx⟩
  have hbl : blks (H.more w.heap.size u) σ' = blks H σ' := blks_le hle (fun x hx => hs.sat.ids x (hsub x hx))
  have hkeep : ∀ b, b < w.heap.size → b ∉ ud.ownBlock.toList → w'.heap[b]? = w.heap[b]? := fun b h1 h2 => hgr.block b h1 (fun e => h2 (by rw [← e]; simp))
  have hblocks : blocks (H.more w.heap.size u) (s.n, Res.row e ti.sz (rows ++ news)) = u.ownBlock.toList := by simp [blocks, esv]
  refine ⟨H.more w.heap.size u, u, w', hle, hr, ?_, ?_⟩
  · rw [hue] at esv ⊢
    exact .o hn esv rfl
  · have hfr := hs.fr
    refine ⟨by simp [Hid.more, hs.n], ⟨fun b o ho => ?_, fun x hx => ?_, ?_, fun b hbm => ?_, fun x hx => ?_⟩, ?_⟩
    · have h1 := hs.sat.ro b o ho
      rw [hkeep b (Array.getElem?_eq_some_iff.1 h1).1 (fun hbx => by have h2 := hs.sat.free b (hin b hbx); have h3 : H.ro b = some o := ho; rw [h2] at h3; cases h3)]
      exact h1
    · rcases List.mem_cons.1 hx with rfl | hx
      · refine ⟨xs ++ ys, ?_, (hrow.append hyr).mono hle.ro⟩
        rw [esv]
        simpa using hown'
      · refine holds_congr (w := w) (fun b hb => ?_) (holds_le hle (hs.sat.ids x (hsub x hx)) (hs.sat.holds x (hsub x hx)))
        rw [blocks_le hle (hs.sat.ids x (hsub x hx))] at hb
        have hbm : b ∈ blks H σ' := List.mem_flatMap.2 ⟨x, hx, hb⟩
        exact hkeep b (hlt b (hsubB b hbm)) (fun hc => hout b hc hbm)
    · rw [blks_cons, hbl, hblocks]
      refine List.nodup_append.2 ⟨by cases u.ownBlock <;> simp, hnd, fun b hb c hc e => ?_⟩
      subst e
      rcases hblkin b hb with h | h
      · exact hout b h hc
      · have := hlt b (hsubB b hc); omega
    · show H.ro b = none
      rw [blks_cons, hbl, hblocks] at hbm
      rcases List.mem_append.1 hbm with h | h
      · rcases hblkin b h with h | h
        · exact hs.sat.free b (hin b h)
        · exact hs.sat.none_size b (by omega)
      · exact hs.sat.free b (hsubB b h)
    · rcases List.mem_cons.1 hx with rfl | hx
      · exact hn
      · exact Nat.lt_of_lt_of_le (hs.sat.ids x (hsub x hx)) hle.n
    · refine ⟨hgr.os.trans hfr.os, hgr.tape.trans hfr.tape, hgr.output.trans hfr.output, Nat.le_trans hfr.size hgr.size, fun b h1 h2 => ?_, fun b hbm => ?_, hfr.fro, hfr.le.trans hle⟩
      · rw [hkeep b (Nat.lt_of_lt_of_le h1 hfr.size) (fun hbx => ?_)]
        · exact hfr.keep b h1 h2
        · rcases hfr.own b (hin b hbx) with h | h
          · exact h2 h
          · omega
      · simp only at hbm
        rw [blks_cons, hbl, hblocks] at hbm
        rcases List.mem_append.1 hbm with h | h
        · rcases hblkin b h with h | h
          · exact hfr.own b (hin b h)
          · exact .inr (by have := hfr.size; omega)
        · exact hfr.own b (hsubB b h)
end
end Go.GK
