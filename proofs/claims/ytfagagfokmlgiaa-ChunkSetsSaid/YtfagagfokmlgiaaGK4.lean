/-
  The ghost machine: operations that make and write memory of the call's own.
-/
import Derived.Test.YtfagagfokmlgiaaGK3
namespace Go.GK
open Go.RowKit

section
variable {p : Pg} {H : Hid} {ρ : Env} {σ : Heap} {a : Act} {w : World}

theorem cells_is {g : GV} {u : Value} (h : Is H g u) : Cells H (cellsOf g) u.cells := by
  have key : ∀ {g : GV} {u : Value}, Is H g u → cellsOf g = [g] → u.cells = #[u] → Cells H (cellsOf g) u.cells := by
    intro g u h e1 e2
    rw [e1, e2]
    refine ⟨rfl, fun j g' hj => ?_⟩
    cases j with
    | zero => simp at hj; subst hj; exact h
    | succ j => simp at hj
  cases h with
  | ro hr =>
    cases hr with
    | v =>
      cases u <;> try (exact key (.ro (.v _)) rfl rfl)
      case agg cs =>
        refine ⟨by simp [cellsOf, Value.cells], fun j g' hj => ?_⟩
        simp only [cellsOf, List.getElem?_map, Option.map_eq_some_iff] at hj
        obtain ⟨v, hv, rfl⟩ := hj
        have : (Value.agg cs).cells.getD j undef = v := by
          have := (List.getElem?_eq_some_iff.1 hv)
          obtain ⟨hlt, he⟩ := this
          simp at hlt
          simp [Value.cells, Array.getD, hlt]
          simpa using he
        rw [this]
        exact .ro (.v v)
    | b c => exact key (.ro (.b _)) rfl rfl
    | r us h1 h2 => exact key (.ro (.r us h1 h2)) rfl rfl
    | slnil => exact key (.ro .slnil) rfl rfl
    | sl us h0 hc hm h1 h2 h3 => exact key (.ro (.sl us h0 hc hm h1 h2 h3)) rfl rfl
    | agg hl h => exact ⟨hl, fun j g hj => .ro (h j g hj)⟩
    | tup hl h => exact key (.ro (.tup hl h)) rfl rfl
    | fn hl h hl' h' => exact key (.ro (.fn hl h hl' h')) rfl rfl
    | ifc h => exact key (.ro (.ifc h)) rfl rfl
  | p h => exact key (.p h) rfl rfl
  | e h hs => exact key (.e h hs) rfl rfl
  | o hid hs h1 => exact key (.o hid hs h1) rfl (ow_one h1).1
  | agg hl h => exact ⟨hl, h⟩
  | tup hl h => exact key (.tup hl h) rfl rfl
  | fn hl h hl' h' => exact key (.fn hl h hl' h') rfl rfl
  | ifc h => exact key (.ifc h) rfl rfl

theorem RowOk.mono {ro ro' : Nat → Option Obj} (h : ∀ b o, ro b = some o → ro' b = some o) {sz : Nat} {rows : List (List GV)} {xs : List Value} (hr : RowOk ro sz rows xs) : RowOk ro' sz rows xs :=
  ⟨hr.len, hr.each, fun i row hi j g hj => by obtain ⟨u, hu, his⟩ := hr.is i row hi j g hj; exact ⟨u, hu, his.mono h⟩, hr.one⟩

theorem hlook_split : ∀ {σ : Heap} {id : Nat} {x : Res}, hlook σ id = some x → ∃ l1 l2, σ = l1 ++ (id, x) :: l2 ∧ hdel σ id = l1 ++ l2 ∧ ∀ y, hset σ id y = l1 ++ (id, y) :: l2
  | [], _, _, h => by simp [hlook] at h
  | (s, g) :: r, id, x, h => by
    unfold hlook at h
    cases hb : Nat.beq s id with
    | true =>
      rw [hb] at h
      have := beq_eq hb
      subst this
      simp at h
      subst h
      exact ⟨[], r, rfl, by simp [hdel], fun y => by simp [hset]⟩
    | false =>
      rw [hb] at h
      obtain ⟨l1, l2, e, e2, e3⟩ := hlook_split (σ := r) (id := id) (x := x) (by simpa using h)
      exact ⟨(s, g) :: l1, l2, by rw [e]; rfl, by simp [hdel, hb, e2], fun y => by simp [hset, hb, e3]⟩

theorem blks_append (H : Hid) (l1 l2 : Heap) : blks H (l1 ++ l2) = blks H l1 ++ blks H l2 := by simp [blks]
theorem blks_cons (H : Hid) (x : Nat × Res) (l : Heap) : blks H (x :: l) = blocks H x ++ blks H l := by simp [blks]

/-- What own things look like if the hidden maps are only prolonged. -/
theorem blocks_le {H H' : Hid} (h : H.le H') {x : Nat × Res} (hx : x.1 < H.n) : blocks H' x = blocks H x := by
  obtain ⟨id, r⟩ := x
  cases r <;> simp [blocks, h.bl id hx, h.sv id hx]
theorem blks_le {H H' : Hid} (h : H.le H') : ∀ {σ : Heap}, (∀ x ∈ σ, x.1 < H.n) → blks H' σ = blks H σ
  | [], _ => rfl
  | x :: r, hi => by
    rw [blks_cons, blks_cons, blocks_le h (hi x List.mem_cons_self), blks_le h (fun y hy => hi y (List.mem_cons_of_mem _ hy))]
theorem esIs_mono {H H' : Hid} (h : ∀ g u, Is H g u → Is H' g u) : ∀ {es : List (Value × GV)} {l : List MapEntry}, esIs H es l → esIs H' es l
  | [], [], _ => trivial
  | (_, _) :: _, _ :: _, hh => ⟨hh.1, h _ _ hh.2.1, esIs_mono h hh.2.2⟩
  | [], _ :: _, h => h.elim
  | _ :: _, [], h => h.elim
theorem MapOk.le {H H' : Hid} {kd : Option IntKind} {es : List (Value × GV)} {arr : Array MapEntry} {clock : Nat} (h : MapOk H kd es arr clock) (hl : H.le H') : MapOk H' kd es arr clock :=
  ⟨esIs_mono (fun _ _ hi => hi.mono hl) h.is, h.sorts, h.st⟩
theorem holds_le {H H' : Hid} (h : H.le H') {x : Nat × Res} (hx : x.1 < H.n) (hh : holds H w x) : holds H' w x := by
  obtain ⟨id, r⟩ := x
  cases r with
  | blk ty cs => obtain ⟨us, h1, h2, h3⟩ := hh; exact ⟨us, by rw [h.bl id hx]; exact h1, h2, fun j g hj => (h3 j g hj).mono h⟩
  | row ty sz rows =>
    obtain ⟨xs, h1, h2⟩ := hh
    exact ⟨xs, by rw [h.sv id hx]; exact h1, h2.mono h.ro⟩
  | ob o => exact (by show w.heap[H'.bl id]? = some o; rw [h.bl id hx]; exact hh)
  | ln sz n => obtain ⟨A, c, h1, h2⟩ := hh; exact ⟨A, c, by rw [h.sv id hx]; exact h1, h2⟩
  | sub i sz lo n =>
    obtain ⟨hi, A, c, h1, h2, h3, hz, h4⟩ := hh
    refine ⟨Nat.lt_of_lt_of_le hi h.n, A, c, by rw [h.sv id hx]; exact h1, h2, h3, hz, fun h0 => ?_⟩
    obtain ⟨g, l', c', h5, h6⟩ := h4 h0
    exact ⟨g, l', c', by rw [h.sv i hi]; exact h5, h6⟩
  | mp kd es =>
    obtain ⟨b, arr, clock, h1, h2, h3⟩ := hh
    exact ⟨b, arr, clock, by rw [h.sv id hx]; exact h1, h2, h3.le h⟩
  | mr kd es left cur =>
    obtain ⟨b, arr, clock, seen, h1, hne, h2, h3, h4, h5⟩ := hh
    exact ⟨b, arr, clock, seen, by rw [h.sv id hx]; exact h1, by rw [h.bl id hx]; exact hne, h2, h3.le h, by rw [h.bl id hx]; exact h4, h5⟩
  | itr m =>
    obtain ⟨h1, h2, h3⟩ := hh
    exact ⟨Nat.lt_of_lt_of_le h1 h.n, by rw [h.sv id hx, h.sv m h1]; exact h2, by rw [h.sv m h1]; exact h3⟩

/-- One more own block. -/
def Hid.more (H : Hid) (b : Nat) (v : Value) : Hid := { H with bl := fun i => if i = H.n then b else H.bl i, sv := fun i => if i = H.n then v else H.sv i, n := H.n + 1 }
theorem Hid.le_more (H : Hid) (b : Nat) (v : Value) : H.le (H.more b v) :=
  ⟨by simp [Hid.more], fun _ _ h => h, fun i hi => by simp [Hid.more]; omega, fun i hi => by simp [Hid.more]; omega⟩

theorem Sat.none_size (h : Sat H σ w) : ∀ b, w.heap.size ≤ b → H.ro b = none := by
  intro b hb
  cases hr : H.ro b with
  | none => rfl
  | some o =>
    have := (Array.getElem?_eq_some_iff.1 (h.ro b o hr)).1
    omega

theorem Sat.grow {H' : Hid} {w' : World} (h : Sat H σ w) (hl : H.le H') (hro : H'.ro = H.ro) (hb : ∀ b, b < w.heap.size → w'.heap[b]? = w.heap[b]?) {x : Nat × Res} (hid : x.1 < H'.n) (hh : GK.holds H' w' x) (hnd : (blocks H' x).Nodup)
    (hf : ∀ b ∈ blocks H' x, w.heap.size ≤ b) : Sat H' (x :: σ) w' := by
  have hbl : blks H' σ = blks H σ := blks_le hl h.ids
  refine ⟨fun b o hr => ?_, fun y hy => ?_, ?_, fun b hbm => ?_, fun y hy => ?_⟩
  · rw [hro] at hr
    have := h.ro b o hr
    rw [hb b (Array.getElem?_eq_some_iff.1 this).1]
    exact this
  · rcases List.mem_cons.1 hy with rfl | hy
    · exact hh
    · refine holds_congr (w := w) (fun b hbm => ?_) (holds_le hl (h.ids y hy) (h.holds y hy))
      rw [blocks_le hl (h.ids y hy)] at hbm
      exact hb b (h.lt b (List.mem_flatMap.2 ⟨y, hy, hbm⟩))
  · rw [blks_cons, hbl]
    refine List.nodup_append.2 ⟨hnd, h.nodup, fun b hb1 c hb2 e => ?_⟩
    subst e
    have h1 := hf b hb1
    have h2 := h.lt b hb2
    omega
  · rw [hro]
    rw [blks_cons, hbl] at hbm
    rcases List.mem_append.1 hbm with h1 | h1
    · exact h.none_size b (hf b h1)
    · exact h.free b h1
  · rcases List.mem_cons.1 hy with rfl | hy
    · exact hid
    · exact Nat.lt_of_lt_of_le (h.ids y hy) hl.n

theorem Sim.grow {cx : Cx} {s : St} {H' : Hid} {w' : World} (h : Sim cx H s w) (hl : H.le H') (hro : H'.ro = H.ro) (hn : H'.n = s.n + 1) (hb : Below w.heap.size w w') {r : Res} (hh : GK.holds H' w' (s.n, r)) (hnd : (blocks H' (s.n, r)).Nodup)
    (hf : ∀ b ∈ blocks H' (s.n, r), w.heap.size ≤ b) (ρ : Env) : Sim cx H' { ρ := ρ, σ := (s.n, r) :: s.σ, n := s.n + 1 } w' := by
  refine ⟨hn, h.sat.grow hl hro hb.block (by rw [hn]; exact Nat.lt_succ_self _) hh hnd hf, ?_⟩
  have hfr := h.fr
  refine ⟨hb.os.trans hfr.os, hb.tape.trans hfr.tape, hb.output.trans hfr.output, Nat.le_trans hfr.size hb.size, fun b h1 h2 => (hb.block b (Nat.lt_of_lt_of_le h1 hfr.size)).trans (hfr.keep b h1 h2), fun b hbm => ?_, fun b h1 h2 => hfr.fro b h1 (by rwa [hro] at h2), hfr.le.trans hl⟩
  have e : blks H' s.σ = blks H s.σ := blks_le hl h.sat.ids
  simp only at hbm
  rw [blks_cons, e] at hbm
  rcases List.mem_append.1 hbm with h1 | h1
  · exact .inr (Nat.le_trans hfr.size (hf b h1))
  · exact hfr.own b h1

/-- A new variable. -/
theorem Sim.alloc {cx : Cx} {s : St} (h : Sim cx H s w) {cs : List GV} {us : Array Value} (hc : Cells H cs us) (ty : TypeId) (ρ : Env) :
    Sim cx (H.more w.heap.size undef) { ρ := ρ, σ := (s.n, .blk ty cs) :: s.σ, n := s.n + 1 } (w.alloc (.cells us ty)) ∧ Is (H.more w.heap.size undef) (.p s.n 0) (.pointer (some ⟨w.heap.size, 0, none⟩)) := by
  have hle := H.le_more w.heap.size undef
  have e : (H.more w.heap.size undef).bl s.n = w.heap.size := by simp [Hid.more, h.n]
  refine ⟨h.grow hle rfl (by simp [Hid.more, h.n]) ((Below.refl _ _).alloc (Nat.le_refl _) _) ?_ (by simp [blocks]) (by simp [blocks, e]) ρ, ?_⟩
  · refine ⟨us, ?_, hc.1, fun j g hj => (hc.2 j g hj).mono hle⟩
    rw [e]
    exact heap_alloc_new w _
  · have := Is.p (H := H.more w.heap.size undef) (id := s.n) (off := 0) (by simp [Hid.more, h.n])
    rwa [e] at this

theorem cells_splice {cs gs : List GV} {us vs : Array Value} (hc : Cells H cs us) (hg : Cells H gs vs) {off : Nat} (hl : off + gs.length ≤ cs.length) :
    Cells H (cs.take off ++ gs ++ cs.drop (off + gs.length)) (us.toList.take off ++ vs.toList ++ us.toList.drop (off + vs.toList.length)).toArray := by
  have h1 := hc.1
  have h2 := hg.1
  have hv : vs.toList.length = gs.length := by simp [h2]
  refine ⟨by simp; omega, fun j g hj => ?_⟩
  have e : ∀ (l : List Value) (k : Nat), l.toArray.getD k undef = l.getD k undef := fun l k => by simp [List.getD]
  rw [e]
  by_cases hj1 : j < off
  · have a1 : (cs.take off ++ gs ++ cs.drop (off + gs.length))[j]? = cs[j]? := by
      rw [List.append_assoc, List.getElem?_append_left (by simp; omega), List.getElem?_take, if_pos hj1]
    have a2 : (us.toList.take off ++ vs.toList ++ us.toList.drop (off + vs.toList.length)).getD j undef = us.getD j undef := by
      simp only [List.getD, Array.getD_eq_getD_getElem?]
      rw [List.append_assoc, List.getElem?_append_left (by simp; omega), List.getElem?_take, if_pos hj1]
      simp
    rw [a2]
    exact hc.2 j g (a1 ▸ hj)
  · by_cases hj2 : j < off + gs.length
    · have a1 : (cs.take off ++ gs ++ cs.drop (off + gs.length))[j]? = gs[j - off]? := by
        rw [List.append_assoc, List.getElem?_append_right (by simp; omega), List.getElem?_append_left (by simp; omega)]
        congr 1
        simp; omega
      have a2 : (us.toList.take off ++ vs.toList ++ us.toList.drop (off + vs.toList.length)).getD j undef = vs.getD (j - off) undef := by
        simp only [List.getD, Array.getD_eq_getD_getElem?]
        rw [List.append_assoc, List.getElem?_append_right (by simp; omega), List.getElem?_append_left (by simp; omega)]
        have : j - (List.take off us.toList).length = j - off := by simp; omega
        rw [this]
        simp
      rw [a2]
      exact hg.2 _ g (a1 ▸ hj)
    · have a1 : (cs.take off ++ gs ++ cs.drop (off + gs.length))[j]? = cs[j]? := by
        rw [List.getElem?_append_right (by simp; omega), List.getElem?_drop]
        congr 1
        simp; omega
      have a2 : (us.toList.take off ++ vs.toList ++ us.toList.drop (off + vs.toList.length)).getD j undef = us.getD j undef := by
        simp only [List.getD, Array.getD_eq_getD_getElem?]
        rw [List.getElem?_append_right (by simp; omega), List.getElem?_drop]
        have : off + vs.toList.length + (j - (List.take off us.toList ++ vs.toList).length) = j := by simp; omega
        rw [this]
        simp
      rw [a2]
      exact hc.2 j g (a1 ▸ hj)

theorem allOne_one : ∀ {cs : List GV} {us : Array Value}, Cells H cs us → allOne cs = true → ∀ v ∈ us.toList, v.oneCell' = true := by
  intro cs us hc h1 v hv
  obtain ⟨j, hj⟩ := List.getElem?_of_mem hv
  have hlt := (List.getElem?_eq_some_iff.1 hj).1
  have hcj : cs[j]? = some (cs[j]'(by have := hc.1; simp at hlt; omega)) := List.getElem?_eq_getElem _
  have his := hc.2 j _ hcj
  have hone : ∀ (l : List GV), allOne l = true → ∀ g ∈ l, one g = true := by
    intro l
    induction l with
    | nil => simp
    | cons g r ih =>
      intro h g' hg'
      unfold allOne at h
      cases hb : one g with
      | false => rw [hb] at h; cases h
      | true =>
        rw [hb] at h
        rcases List.mem_cons.1 hg' with rfl | hm
        · exact hb
        · exact ih (by simpa using h) g' hm
  have ho := hone cs h1 _ (List.mem_of_getElem? hcj)
  have hvv : us.getD j undef = v := by
    simp at hlt hj
    simp [Array.getD, hlt]
    obtain ⟨_, he⟩ := Array.getElem?_eq_some_iff.1 hj
    exact he
  rw [hvv] at his
  clear hcj
  generalize cs[j]'(by have := hc.1; simp at hlt; omega) = gg at his ho
  cases his with
  | ro hr => exact hr.one ho
  | p _ => rfl
  | e _ _ => rfl
  | o _ _ h1 => exact (ow_one h1).2.1
  | agg _ _ => cases ho
  | tup _ _ => cases ho
  | fn _ _ _ _ => rfl
  | ifc _ => rfl

/-- An own thing is replaced by another one in the same block. -/
theorem Sim.put {cx : Cx} {s : St} (h : Sim cx H s w) {id : Nat} {x y : Res} (hl : hlook s.σ id = some x) (hb : blocks H (id, y) = blocks H (id, x)) {w' : World} (hos : w'.os = w.os) (htape : w'.tape = w.tape) (hout : w'.output = w.output) (hsize : w.heap.size ≤ w'.heap.size)
    (hk : ∀ b, b < w.heap.size → b ∉ blocks H (id, x) → w'.heap[b]? = w.heap[b]?) (hh : GK.holds H w' (id, y)) (ρ : Env) : Sim cx H { s with ρ := ρ, σ := hset s.σ id y } w' := by
  obtain ⟨l1, l2, e1, _, e3⟩ := hlook_split hl
  have hs := h.sat
  have hfr := h.fr
  have ebl : blks H (hset s.σ id y) = blks H s.σ := by rw [e3, e1, blks_append, blks_append, blks_cons, blks_cons, hb]
  have hin : ∀ b ∈ blocks H (id, x), b ∈ blks H s.σ := fun b hb' => by rw [e1, blks_append, blks_cons]; simp [hb']
  have hnd := hs.nodup
  rw [e1, blks_append, blks_cons] at hnd
  have hother : ∀ z ∈ l1 ++ l2, ∀ b ∈ blocks H z, b ∉ blocks H (id, x) := by
    intro z hz b hbz hbx
    have n1 := List.nodup_append.1 hnd
    have n2 := List.nodup_append.1 n1.2.1
    rcases List.mem_append.1 hz with h1 | h1
    · exact n1.2.2 b (List.mem_flatMap.2 ⟨z, h1, hbz⟩) b (by simp [hbx]) rfl
    · exact n2.2.2 b hbx b (List.mem_flatMap.2 ⟨z, h1, hbz⟩) rfl
  refine ⟨h.n, ⟨fun b o hr => ?_, fun z hz => ?_, by rw [ebl]; exact hs.nodup, fun b hbm => hs.free b (by rwa [ebl] at hbm), fun z hz => ?_⟩, ?_⟩
  · have h1 := hs.ro b o hr
    rw [hk b (Array.getElem?_eq_some_iff.1 h1).1 (fun hbx => by have := hs.free b (hin b hbx); rw [this] at hr; cases hr)]
    exact h1
  · simp only [e3] at hz
    have hz' : z = (id, y) ∨ z ∈ l1 ++ l2 := by
      rcases List.mem_append.1 hz with h1 | h1
      · exact .inr (List.mem_append.2 (.inl h1))
      · rcases List.mem_cons.1 h1 with h2 | h2
        · exact .inl h2
        · exact .inr (List.mem_append.2 (.inr h2))
    rcases hz' with rfl | hz'
    · exact hh
    · have hmem : z ∈ s.σ := by
        rw [e1]
        rcases List.mem_append.1 hz' with h1 | h1
        · exact List.mem_append.2 (.inl h1)
        · exact List.mem_append.2 (.inr (List.mem_cons_of_mem _ h1))
      exact holds_congr (fun b hbz => hk b (hs.lt b (List.mem_flatMap.2 ⟨z, hmem, hbz⟩)) (hother z hz' b hbz)) (hs.holds z hmem)
  · simp only [e3] at hz
    rcases List.mem_append.1 hz with h1 | h1
    · exact hs.ids z (by rw [e1]; exact List.mem_append.2 (.inl h1))
    · rcases List.mem_cons.1 h1 with rfl | h2
      · exact hs.ids (id, x) (by rw [e1]; simp)
      · exact hs.ids z (by rw [e1]; exact List.mem_append.2 (.inr (List.mem_cons_of_mem _ h2)))
  · refine ⟨hos.trans hfr.os, htape.trans hfr.tape, hout.trans hfr.output, Nat.le_trans hfr.size hsize, fun b h1 h2 => ?_, fun b hbm => hfr.own b (by simp only at hbm; rwa [ebl] at hbm), hfr.fro, hfr.le⟩
    rw [hk b (Nat.lt_of_lt_of_le h1 hfr.size) (fun hbx => ?_)]
    · exact hfr.keep b h1 h2
    · rcases hfr.own b (hin b hbx) with h3 | h3
      · exact h2 h3
      · omega

theorem Sim.store {cx : Cx} {s : St} (h : Sim cx H s w) {id ty off : Nat} {cs gs : List GV} {vs : Array Value} (hl : hlook s.σ id = some (.blk ty cs)) (hg : Cells H gs vs) (hle : off + gs.length ≤ cs.length) (h1 : allOne gs = true) (ρ : Env) :
    ∃ w', (∀ P : Program, (storeCells ⟨H.bl id, off, none⟩ vs.toList).run P w = .ok () w') ∧ Sim cx H { s with ρ := ρ, σ := hset s.σ id (.blk ty (cs.take off ++ gs ++ cs.drop (off + gs.length))) } w' := by
  obtain ⟨us, hw, hlen, his⟩ := h.sat.holds _ (hlook_mem hl)
  have hvl : vs.toList.length = gs.length := by simp [hg.1]
  refine ⟨w.setRow (H.bl id) (us.toList.take off ++ vs.toList ++ us.toList.drop (off + vs.toList.length)).toArray, fun P => ?_, ?_⟩
  · exact run_storeCells_at P (H.bl id) off ty vs.toList 0 us w hw (by have := hg.1; simp only [Array.length_toList] at *; omega) (allOne_one hg h1)
  · refine h.put (y := .blk ty (cs.take off ++ gs ++ cs.drop (off + gs.length))) (w' := w.setRow (H.bl id) (us.toList.take off ++ vs.toList ++ us.toList.drop (off + vs.toList.length)).toArray) hl rfl rfl rfl rfl (by simp) (fun b hb hn => ?_) ?_ ρ
    · exact setRow_other w _ b _ (fun e => hn (by simp [blocks, e]))
    · refine ⟨_, setRow_heap w _ us _ ty (0, 0) hw, ?_⟩
      exact cells_splice (H := H) ⟨hlen, his⟩ hg hle

/-! building a struct -/
theorem foldl_set : ∀ (l : List Value) (k off : Nat) (cells : Array Value),
    (((l.zipIdx k).foldl (fun cs (x : Value × Nat) => cs.setIfInBounds (off + x.2) x.1) cells).size = cells.size) ∧
    ∀ i, i < cells.size → ((l.zipIdx k).foldl (fun cs (x : Value × Nat) => cs.setIfInBounds (off + x.2) x.1) cells).getD i undef = if off + k ≤ i ∧ i < off + k + l.length then l.getD (i - (off + k)) undef else cells.getD i undef
  | [], k, off, cells => by
    refine ⟨rfl, fun i _ => ?_⟩
    simp only [List.zipIdx_nil, List.foldl_nil, List.length_nil, Nat.add_zero]
    rw [if_neg (by omega)]
  | v :: l, k, off, cells => by
    obtain ⟨h1, h2⟩ := foldl_set l (k + 1) off (cells.setIfInBounds (off + k) v)
    simp only [List.zipIdx_cons, List.foldl_cons]
    refine ⟨by rw [h1]; simp, fun i hi => ?_⟩
    rw [h2 i (by simpa using hi)]
    by_cases e : i = off + k
    · subst e
      rw [if_neg (by omega), if_pos (by simp)]
      simp [Array.getD, hi]
    · by_cases h3 : off + (k + 1) ≤ i ∧ i < off + (k + 1) + l.length
      · rw [if_pos h3, if_pos (by simp; omega)]
        have : i - (off + k) = (i - (off + (k + 1))) + 1 := by omega
        rw [this]
        rfl
      · rw [if_neg h3, if_neg (by simp; omega)]
        simp only [Array.getD_eq_getD_getElem?]
        rw [Array.getElem?_setIfInBounds_ne (by omega)]

theorem fill_is {place : Nat → Option (Nat × Nat)} {places : List (Nat × Nat × Bool)} (hp : ∀ i off sz ag, places[i]? = some (off, sz, ag) → place i = some (off, sz)) : ∀ {gs : List (Nat × GV)} {vs : List (Nat × Value)} {cs : List GV} {us : Array Value} {cs' : List GV},
    gs.length = vs.length → (∀ (j : Nat) i g, gs[j]? = some (i, g) → ∃ v, vs[j]? = some (i, v) ∧ Is H g v) → Cells H cs us → gfill places gs cs = some cs' → ∃ us', Instr.fill place us vs = some us' ∧ Cells H cs' us'
  | [], [], cs, us, cs', _, _, hc, hf => by simp only [gfill, Option.some.injEq] at hf; subst hf; exact ⟨us, rfl, hc⟩
  | (i, g) :: gs, (i', v) :: vs, cs, us, cs', hl, hi, hc, hf => by
    obtain ⟨v0, hv', hisv⟩ := hi 0 i g rfl
    simp only [List.getElem?_cons_zero, Option.some.injEq, Prod.mk.injEq] at hv'
    obtain ⟨e1, e2⟩ := hv'
    subst e1; subst e2
    unfold gfill at hf
    cases hpl : places[i']? with
    | none => rw [hpl] at hf; cases hf
    | some x =>
      obtain ⟨off, sz, ag⟩ := x
      rw [hpl] at hf
      simp only at hf
      cases hb : Nat.beq (cellsOf g).length sz with
      | false => rw [hb] at hf; cases hf
      | true =>
        rw [hb] at hf
        have hsz := beq_eq hb
        simp only [Bool.true_and] at hf
        cases hfb : Nat.ble (off + sz) cs.length with
        | false => rw [hfb] at hf; cases hf
        | true =>
        rw [hfb] at hf
        have hfit := Nat.le_of_ble_eq_true hfb
        simp only [cond_true] at hf
        have hcg := cells_is hisv
        have hvs : v.cells.size = sz := by rw [← hcg.1]; exact hsz
        · have hfit' : off + v.cells.size ≤ us.size := by rw [hvs, ← hc.1]; exact hfit
          obtain ⟨f1, f2⟩ := foldl_set v.cells.toList 0 off us
          have hnew : Cells H (cs.take off ++ cellsOf g ++ cs.drop (off + sz)) (v.cells.zipIdx.foldl (fun cs (c, j) => cs.setIfInBounds (off + j) c) us) := by
            have e : v.cells.zipIdx.foldl (fun cs (c, j) => cs.setIfInBounds (off + j) c) us = (v.cells.toList.zipIdx 0).foldl (fun cs (x : Value × Nat) => cs.setIfInBounds (off + x.2) x.1) us := by
              rw [← Array.foldl_toList, Array.toList_zipIdx]
            rw [e]
            have hsp := cells_splice hc hcg (off := off) (by rw [hsz]; exact hfit)
            rw [hsz] at hsp
            refine ⟨by rw [f1, hsp.1]; have := hc.1; have := hcg.1; simp; omega, fun j g' hj => ?_⟩
            have hlt : j < us.size := by
              have := (List.getElem?_eq_some_iff.1 hj).1
              have h0 := hc.1
              simp at this
              omega
            have := hsp.2 j g' hj
            rw [f2 j hlt]
            have e2 : (List.take off us.toList ++ v.cells.toList ++ List.drop (off + v.cells.toList.length) us.toList).toArray.getD j undef = if off + 0 ≤ j ∧ j < off + 0 + v.cells.toList.length then v.cells.toList.getD (j - (off + 0)) undef else us.getD j undef := by
              simp only [Nat.add_zero, Array.getD_eq_getD_getElem?, List.getElem?_toArray, List.getD]
              by_cases h1 : j < off
              · rw [if_neg (by omega), List.append_assoc, List.getElem?_append_left (by simp; omega), List.getElem?_take, if_pos h1]
                simp
              · by_cases h2 : j < off + v.cells.toList.length
                · rw [if_pos ⟨by omega, h2⟩, List.append_assoc, List.getElem?_append_right (by simp; omega), List.getElem?_append_left (by simp at *; omega)]
                  congr 2
                  simp; omega
                · rw [if_neg (by omega), List.getElem?_append_right (by simp at *; omega), List.getElem?_drop]
                  have : off + v.cells.toList.length + (j - (List.take off us.toList ++ v.cells.toList).length) = j := by simp at *; omega
                  rw [this]
                  simp
            rw [← e2]
            exact this
          obtain ⟨us', hu', hcu⟩ := fill_is hp (gs := gs) (vs := vs) (by simpa using hl) (fun j i g hj => hi (j + 1) i g (by simpa using hj)) hnew hf
          refine ⟨us', ?_, hcu⟩
          unfold Instr.fill
          rw [hp i' off sz ag hpl]
          simp only
          rw [if_neg (by simp [hvs]; omega)]
          exact hu'
  | [], _ :: _, _, _, _, hl, _, _, _ => by simp at hl
  | _ :: _, [], _, _, _, hl, _, _, _ => by simp at hl
end
end Go.GK
