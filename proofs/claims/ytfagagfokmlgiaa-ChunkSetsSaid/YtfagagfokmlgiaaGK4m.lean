/-
  The ghost machine: maps in memory.
-/
import Derived.Test.YtfagagfokmlgiaaGK4c
import Derived.Maps.RangeRun
namespace Go.GK
open Go.RowKit

section
variable {H : Hid} {w : World} {kd : Option IntKind} {es : List (Value × GV)} {arr : Array MapEntry} {clock : Nat}

theorem vkey_refl {kd : Option IntKind} {a : Value} (h : sortB kd a = true) : vkey a a = true := by
  cases kd <;> cases a <;> simp only [sortB, Bool.false_eq_true] at h
  · exact (MapKept.bytes_beq _ _).2 rfl
  · simp [vkey]

theorem esIs_put {k : Value} {g : GV} {u : Value} (hi : Is H g u) (c : Nat) : ∀ {es : List (Value × GV)} {l : List MapEntry}, esIs H es l → ∀ i,
    (∃ j e, fidx k l i = some (i + j, e.val) ∧ l[j]? = some e ∧ vkey k e.key = true ∧ esIs H (mput k g es) (l.modify j fun e => { e with key := k, val := u })) ∨
    (fidx k l i = none ∧ (∀ e ∈ l, vkey k e.key = false) ∧ esIs H (mput k g es) (l ++ [⟨k, u, c⟩]))
  | [], [], _, i => .inr ⟨rfl, by simp, rfl, hi, trivial⟩
  | (k', g') :: r, e :: s, h, i => by
    obtain ⟨h1, h2, h3⟩ := h
    by_cases hv : vkey k k' = true
    · refine .inl ⟨0, e, ?_, rfl, by rw [h1]; exact hv, ?_⟩
      · simp [fidx, h1, hv]
      · simp only [mput, if_pos hv, List.modify_cons, if_true]
        exact ⟨rfl, hi, h3⟩
    · rcases esIs_put hi c h3 (i + 1) with ⟨j, e', a1, a2, a3, a4⟩ | ⟨a1, a2, a3⟩
      · refine .inl ⟨j + 1, e', ?_, by simpa using a2, a3, ?_⟩
        · simp only [fidx, h1, if_neg hv, a1]; congr 2; omega
        · simp only [mput, if_neg hv, List.modify_succ_cons]
          exact ⟨h1, h2, a4⟩
      · refine .inr ⟨?_, ?_, ?_⟩
        · simp only [fidx, h1, if_neg hv, a1]
        · intro x hx
          rcases List.mem_cons.1 hx with rfl | hx
          · rw [h1]; simpa using hv
          · exact a2 x hx
        · simp only [mput, if_neg hv, List.cons_append]
          exact ⟨h1, h2, a3⟩
  | [], _ :: _, h, _ => h.elim
  | _ :: _, [], h, _ => h.elim

theorem esIs_del {k : Value} : ∀ {es : List (Value × GV)} {l : List MapEntry}, esIs H es l → ∀ i,
    (∃ j e, fidx k l i = some (i + j, e.val) ∧ l[j]? = some e ∧ vkey k e.key = true ∧ (∀ e' ∈ l.take j, vkey k e'.key = false) ∧ esIs H (mdel k es) (l.eraseIdx j)) ∨
    (fidx k l i = none ∧ (∀ e ∈ l, vkey k e.key = false) ∧ mdel k es = es)
  | [], [], _, i => .inr ⟨rfl, by simp, rfl⟩
  | (k', g') :: r, e :: s, h, i => by
    obtain ⟨h1, h2, h3⟩ := h
    by_cases hv : vkey k k' = true
    · refine .inl ⟨0, e, ?_, rfl, by rw [h1]; exact hv, by simp, ?_⟩
      · simp [fidx, h1, hv]
      · simp only [mdel, if_pos hv, List.eraseIdx_cons_zero]
        exact h3
    · rcases esIs_del h3 (i + 1) with ⟨j, e', a1, a2, a3, a5, a4⟩ | ⟨a1, a2, a3⟩
      · refine .inl ⟨j + 1, e', ?_, by simpa using a2, a3, ?_, ?_⟩
        · simp only [fidx, h1, if_neg hv, a1]; congr 2; omega
        · intro x hx
          rcases List.mem_cons.1 (by simpa using hx) with rfl | hx
          · rw [h1]; simpa using hv
          · exact a5 x hx
        · simp only [mdel, if_neg hv, List.eraseIdx_cons_succ]
          exact ⟨h1, h2, a4⟩
      · refine .inr ⟨?_, ?_, ?_⟩
        · simp only [fidx, h1, if_neg hv, a1]
        · intro x hx
          rcases List.mem_cons.1 hx with rfl | hx
          · rw [h1]; simpa using hv
          · exact a2 x hx
        · simp only [mdel, if_neg hv, a3]
  | [], _ :: _, h, _ => h.elim
  | _ :: _, [], h, _ => h.elim

theorem modify_toList (a : Array MapEntry) (j : Nat) (f : MapEntry → MapEntry) : (a.modify j f).toList = a.toList.modify j f := by
  apply List.ext_getElem?
  intro i
  rw [Array.getElem?_toList, Array.getElem?_modify, List.getElem?_modify, Array.getElem?_toList]
  by_cases h : j = i
  · simp [h]
  · simp [h]

theorem erase_toList (a : Array MapEntry) (j : Nat) : (a.eraseIdxIfInBounds j).toList = a.toList.eraseIdx j := by
  unfold Array.eraseIdxIfInBounds
  split
  · exact Array.toList_eraseIdx ..
  · rename_i h
    rw [List.eraseIdx_of_length_le (by simpa using h)]

/-- A map that gets an entry. -/
theorem MapOk.put (h : MapOk H kd es arr clock) {kv : Value} (hk : sortB kd kv = true) {g : GV} {u : Value} (hi : Is H g u) :
    (∃ (j : Nat) (e : MapEntry), fidx kv arr.toList 0 = some (j, e.val) ∧ arr[j]? = some e ∧ e.key = kv ∧ MapOk H kd (mput kv g es) (arr.modify j fun e => { e with key := kv, val := u }) clock) ∨
    (fidx kv arr.toList 0 = none ∧ MapOk H kd (mput kv g es) (arr.push ⟨kv, u, clock⟩) (clock + 1)) := by
  rcases esIs_put (k := kv) hi clock h.is 0 with ⟨j, e, a1, a2, a3, a4⟩ | ⟨a1, a2, a3⟩
  · have hj : arr[j]? = some e := by simpa using a2
    have he : e ∈ arr.toList := List.mem_of_getElem? a2
    have hkey : e.key = kv := (vkey_eq hk (h.sorts e he) a3).symm
    refine .inl ⟨j, e, by simpa using a1, hj, hkey, ⟨by rw [modify_toList]; exact a4, fun x hx => ?_, ?_⟩⟩
    · rw [modify_toList] at hx
      obtain ⟨i, hi'⟩ := List.getElem?_of_mem hx
      rw [List.getElem?_modify] at hi'
      cases hy : arr.toList[i]? with
      | none => rw [hy] at hi'; simp at hi'
      | some y =>
        rw [hy] at hi'
        simp only [Option.map_eq_map, Option.map_some, Option.some.injEq] at hi'
        split at hi'
        · rw [← hi']; exact hk
        · rw [← hi']; exact h.sorts y (List.mem_of_getElem? hy)
    · exact MapKept.stamped_modify h.st _ _ (fun _ _ => rfl) (fun e' _ he' => by rw [hj] at he'; cases he'; exact hkey.symm)
  · refine .inr ⟨a1, ⟨by simpa using a3, fun x hx => ?_, ?_⟩⟩
    · simp only [Array.toList_push, List.mem_append, List.mem_singleton] at hx
      rcases hx with hx | rfl
      · exact h.sorts x hx
      · exact hk
    · exact MapKept.stamped_push h.st (fun x hx e => by have := a2 x hx; rw [e, vkey_refl hk] at this; cases this)

theorem MapOk.del (h : MapOk H kd es arr clock) {kv : Value} :
    (∃ (j : Nat) (e : MapEntry), fidx kv arr.toList 0 = some (j, e.val) ∧ arr.toList[j]? = some e ∧ vkey kv e.key = true ∧ (∀ e' ∈ arr.toList.take j, vkey kv e'.key = false) ∧ MapOk H kd (mdel kv es) (arr.eraseIdxIfInBounds j) clock) ∨
    (fidx kv arr.toList 0 = none ∧ (∀ e ∈ arr.toList, vkey kv e.key = false) ∧ mdel kv es = es) := by
  rcases esIs_del (k := kv) h.is 0 with ⟨j, e, a1, a2, a3, a5, a4⟩ | ⟨a1, a2, a3⟩
  · refine .inl ⟨j, e, by simpa using a1, a2, a3, a5, ⟨by rw [erase_toList]; exact a4, fun x hx => ?_, MapKept.stamped_erase h.st _⟩⟩
    rw [erase_toList] at hx
    exact h.sorts x ((List.eraseIdx_sublist _ _).subset hx)
  · exact .inr ⟨a1, a2, a3⟩

/-- The keys that are left to come, of entries. -/
def lf (seen : Array Nat) (l : List MapEntry) : List Value := (l.filter fun e => !seen.contains e.born).map (·.key)

theorem lf_arr (seen : Array Nat) (arr : Array MapEntry) : ((arr.filter fun e => !seen.contains e.born).toList.map (·.key)) = lf seen arr.toList := by
  simp [lf]

theorem lf_modify {seen : Array Nat} {kv u : Value} : ∀ {l : List MapEntry} {j : Nat} {e : MapEntry}, l[j]? = some e → e.key = kv → lf seen (l.modify j fun e => { e with key := kv, val := u }) = lf seen l
  | [], j, e, h, _ => by simp at h
  | x :: r, 0, e, h, hk => by
    simp at h
    subst h
    simp only [List.modify_cons, if_true, lf, List.filter_cons]
    cases h2 : seen.contains x.born <;> simp [hk]
  | x :: r, j + 1, e, h, hk => by
    have ih := lf_modify (seen := seen) (kv := kv) (u := u) (l := r) (j := j) (by simpa using h) hk
    simp only [List.modify_succ_cons, lf, List.filter_cons] at ih ⊢
    cases h2 : seen.contains x.born <;> simp only [Bool.not_true, Bool.not_false, Bool.false_eq_true, if_false, if_true, List.map_cons, ih]

theorem kdel_none {k : Value} : ∀ {l : List Value}, (∀ x ∈ l, vkey k x = false) → kdel k l = l
  | [], _ => rfl
  | x :: r, h => by
    unfold kdel
    rw [if_neg (by rw [h x List.mem_cons_self]; simp), kdel_none (fun y hy => h y (List.mem_cons_of_mem _ hy))]

theorem lf_mem {seen : Array Nat} {l : List MapEntry} {x : Value} (h : x ∈ lf seen l) : ∃ e ∈ l, e.key = x := by
  simp only [lf, List.mem_map, List.mem_filter] at h
  obtain ⟨e, ⟨h1, _⟩, h2⟩ := h
  exact ⟨e, h1, h2⟩

theorem lf_erase {seen : Array Nat} {kv : Value} : ∀ {l : List MapEntry} {j : Nat} {e : MapEntry}, l[j]? = some e → vkey kv e.key = true → (∀ e' ∈ l.take j, vkey kv e'.key = false) → (∀ e' ∈ l.drop (j + 1), vkey kv e'.key = false) →
    lf seen (l.eraseIdx j) = kdel kv (lf seen l)
  | [], j, e, h, _, _, _ => by simp at h
  | x :: r, 0, e, h, hk, _, hd => by
    simp at h
    subst h
    simp only [List.eraseIdx_cons_zero, lf, List.filter_cons]
    have hr : kdel kv (lf seen r) = lf seen r := kdel_none (fun y hy => by obtain ⟨e', h1, rfl⟩ := lf_mem hy; exact hd e' (by simpa using h1))
    cases h2 : seen.contains x.born with
    | true => simpa [lf] using hr.symm
    | false => simp [kdel, hk]
  | x :: r, j + 1, e, h, hk, ht, hd => by
    have ih := lf_erase (seen := seen) (kv := kv) (l := r) (j := j) (by simpa using h) hk (fun e' he => ht e' (by simp [he])) (fun e' he => hd e' (by simpa using he))
    have hx : vkey kv x.key = false := ht x (by simp)
    simp only [List.eraseIdx_cons_succ, lf, List.filter_cons] at ih ⊢
    cases h2 : seen.contains x.born with
    | true => simpa only [Bool.not_true, Bool.false_eq_true, if_false] using ih
    | false => simp only [Bool.not_false, if_true, List.map_cons, kdel, hx, Bool.false_eq_true, if_false, ih]

theorem stamped_inj {arr : Array MapEntry} {clock : Nat} (h : MapKept.Stamped arr clock) {i j : Nat} {x y : MapEntry} (hx : arr.toList[i]? = some x) (hy : arr.toList[j]? = some y) (e : x.key = y.key) : i = j := by
  have hn := h.2.2
  have h1 : (arr.toList.map (·.key))[i]? = some x.key := by rw [List.getElem?_map, hx]; rfl
  have h2 : (arr.toList.map (·.key))[j]? = some x.key := by rw [List.getElem?_map, hy, e]; rfl
  have hlt := (List.getElem?_eq_some_iff.1 h1).1
  exact (List.getElem?_inj hlt hn).1 (h1.trans h2.symm)

/-- The world with one block else. -/
def setB (w : World) (b : Nat) (o : Obj) : World := { w with heap := w.heap.setIfInBounds b o }
theorem setB_get {w : World} {b : Nat} {o o' : Obj} (h : w.heap[b]? = some o) : (setB w b o').heap[b]? = some o' := by
  have := (Array.getElem?_eq_some_iff.1 h).1
  simp [setB, this]
theorem setB_ne {w : World} {b c : Nat} {o : Obj} (h : c ≠ b) : (setB w b o).heap[c]? = w.heap[c]? := by
  simp [setB, Ne.symm h]
theorem setB_size (w : World) (b : Nat) (o : Obj) : (setB w b o).heap.size = w.heap.size := by simp [setB]

theorem run_mapUpdate_at {P : Program} {t kt et : TypeId} (hu : P.underlying t = some (.map kt et)) {kd : Option IntKind} (hk : P.underlying kt = some (kdD kd)) {kv u : Value} (hs : sortB kd kv = true) {b clock : Nat} {arr : Array MapEntry} {w : World} (hw : w.heap[b]? = some (.map arr clock))
    (hl : ∀ e ∈ arr.toList, sortB kd e.key = true) :
    (∀ j v e, fidx kv arr.toList 0 = some (j, v) → arr[j]? = some e → e.key = kv → (Instr.mapUpdate t (.map (some b)) kv u).run P w = .ok () (setB w b (.map (arr.modify j fun e => { e with key := kv, val := u }) clock))) ∧
    (fidx kv arr.toList 0 = none → (Instr.mapUpdate t (.map (some b)) kv u).run P w = .ok () (setB w b (.map (arr.push ⟨kv, u, clock⟩) (clock + 1)))) := by
  have h1 := run_checkKey hk false 9999 kv w
  have h2 := run_findKey hk hs hl w
  refine ⟨fun j v e hf hj he => ?_, fun hf => ?_⟩
  · rw [hf] at h2
    have hsb : Instr.sameBits 10000 kv kv = true := by
      cases kd <;> cases kv <;> simp only [sortB, Bool.false_eq_true] at hs
      · exact (MapKept.bytes_beq _ _).2 rfl
      · simp [Instr.sameBits]
    simp [Instr.mapUpdate, run_under hu, getObj, setObj, Sem.run, hw, h1, h2, hj, he, Instr.keyThatStays, hsb]
    rfl
  · rw [hf] at h2
    simp [Instr.mapUpdate, run_under hu, getObj, setObj, Sem.run, hw, h1, h2]
    rfl

theorem run_delete_at {P : Program} {t kt et ty : TypeId} {ts : Array TypeId} (ht : ts[0]? = some t) (hu : P.underlying t = some (.map kt et)) {kd : Option IntKind} (hk : P.underlying kt = some (kdD kd)) {kv : Value} (hs : sortB kd kv = true) {b clock : Nat} {arr : Array MapEntry} {w : World} (hw : w.heap[b]? = some (.map arr clock))
    (hl : ∀ e ∈ arr.toList, sortB kd e.key = true) :
    (Builtin.delete_ ts ty #[.map (some b), kv]).run P w = .ok (.tuple #[]) (setB w b (.map (match fidx kv arr.toList 0 with | some (j, _) => arr.eraseIdxIfInBounds j | none => arr) clock)) := by
  have h1 := run_checkKey hk arr.isEmpty 9999 kv w
  have h2 := run_findKey hk hs hl w
  cases hf : fidx kv arr.toList 0 with
  | none =>
    rw [hf] at h2
    simp [Builtin.delete_, ht, run_under hu, getObj, setObj, Sem.run, hw, h1, h2]
    rfl
  | some x =>
    obtain ⟨j, v⟩ := x
    rw [hf] at h2
    simp [Builtin.delete_, ht, run_under hu, getObj, setObj, Sem.run, hw, h1, h2]
    rfl
end

section
variable {cx : Cx} {H : Hid} {s : St} {w : World} {kd : Option IntKind} {es : List (Value × GV)}

/-- A new map. -/
theorem Sim.newMap (h : Sim cx H s w) (kd : Option IntKind) (ρ : Env) :
    Sim cx (H.more w.heap.size (.map (some w.heap.size))) { ρ := ρ, σ := (s.n, .mp kd []) :: s.σ, n := s.n + 1 } (w.alloc (.map #[] 0)) ∧ Is (H.more w.heap.size (.map (some w.heap.size))) (.o s.n) (.map (some w.heap.size)) := by
  have hle := H.le_more w.heap.size (.map (some w.heap.size))
  have e : (H.more w.heap.size (.map (some w.heap.size))).sv s.n = .map (some w.heap.size) := by simp [Hid.more, h.n]
  refine ⟨h.grow hle rfl (by simp [Hid.more, h.n]) ((Below.refl _ _).alloc (Nat.le_refl _) _) ?_ (by simp [blocks, e, mapBlk]) (by simp [blocks, e, mapBlk]) ρ, .o (by simp [Hid.more, h.n]) e rfl⟩
  exact ⟨w.heap.size, #[], 0, e, heap_alloc_new w _, ⟨trivial, by simp, MapKept.stamped_empty 0⟩⟩

theorem Sim.mapPut (h : Sim cx H s w) {id : Nat} (hl : hlook s.σ id = some (.mp kd es)) {kv : Value} (hk : sortB kd kv = true) {g : GV} {u : Value} (hi : Is H g u) {P : Program} {t kt et : TypeId} (hu : P.underlying t = some (.map kt et)) (hku : P.underlying kt = some (kdD kd)) (ρ : Env) :
    ∃ w', (Instr.mapUpdate t (H.sv id) kv u).run P w = .ok () w' ∧ Sim cx H { s with ρ := ρ, σ := hset s.σ id (.mp kd (mput kv g es)) } w' := by
  obtain ⟨b, arr, clock, hb, hw, hm⟩ := h.sat.holds _ (hlook_mem hl)
  obtain ⟨r1, r2⟩ := run_mapUpdate_at (u := u) hu hku hk hw hm.sorts
  rw [hb]
  rcases hm.put hk hi with ⟨j, e, a1, a2, a3, a4⟩ | ⟨a1, a2⟩
  · refine ⟨_, r1 j _ e a1 a2 a3, h.put (y := .mp kd (mput kv g es)) (w' := setB w b _) hl rfl rfl rfl rfl (Nat.le_of_eq (setB_size _ _ _).symm) (fun c _ hc => setB_ne (fun e => hc (by simp [blocks, hb, mapBlk, e]))) ?_ ρ⟩
    exact ⟨b, _, _, hb, setB_get hw, a4⟩
  · refine ⟨_, r2 a1, h.put (y := .mp kd (mput kv g es)) (w' := setB w b _) hl rfl rfl rfl rfl (Nat.le_of_eq (setB_size _ _ _).symm) (fun c _ hc => setB_ne (fun e => hc (by simp [blocks, hb, mapBlk, e]))) ?_ ρ⟩
    exact ⟨b, _, _, hb, setB_get hw, a2⟩

theorem Sim.mapDel (h : Sim cx H s w) {id : Nat} (hl : hlook s.σ id = some (.mp kd es)) {kv : Value} (hk : sortB kd kv = true) {P : Program} {t kt et ty : TypeId} {ts : Array TypeId} (ht : ts[0]? = some t) (hu : P.underlying t = some (.map kt et)) (hku : P.underlying kt = some (kdD kd)) (ρ : Env) :
    ∃ w', (Builtin.delete_ ts ty #[H.sv id, kv]).run P w = .ok (.tuple #[]) w' ∧ Sim cx H { s with ρ := ρ, σ := hset s.σ id (.mp kd (mdel kv es)) } w' := by
  obtain ⟨b, arr, clock, hb, hw, hm⟩ := h.sat.holds _ (hlook_mem hl)
  have r := run_delete_at (ty := ty) ht hu hku hk hw hm.sorts
  rw [hb]
  refine ⟨_, r, h.put (y := .mp kd (mdel kv es)) (w' := setB w b _) hl rfl rfl rfl rfl (Nat.le_of_eq (setB_size _ _ _).symm) (fun c _ hc => setB_ne (fun e => hc (by simp [blocks, hb, mapBlk, e]))) ?_ ρ⟩
  refine ⟨b, _, _, hb, setB_get hw, ?_⟩
  rcases hm.del (kv := kv) with ⟨j, e, a1, _, _, _, a4⟩ | ⟨a1, _, a3⟩
  · rw [a1]; exact a4
  · rw [a1, a3]; exact hm

theorem setR_blocks {kd kd' : Option IntKind} {es es' : List (Value × GV)} {l l' : List Value} {c c' : Option Value} {id : Nat} : blocks H (id, .mr kd es l c) = blocks H (id, .mr kd' es' l' c') := rfl

theorem Sim.mapPutR (h : Sim cx H s w) {id : Nat} {left : List Value} {cur : Option Value} (hl : hlook s.σ id = some (.mr kd es left cur)) {kv : Value} (hk : sortB kd kv = true) {g : GV} {u : Value} (hi : Is H g u) (hin : (mfind kv es).isSome = true) {P : Program} {t kt et : TypeId} (hu : P.underlying t = some (.map kt et)) (hku : P.underlying kt = some (kdD kd)) (ρ : Env) :
    ∃ w', (Instr.mapUpdate t (H.sv id) kv u).run P w = .ok () w' ∧ Sim cx H { s with ρ := ρ, σ := hset s.σ id (.mr kd (mput kv g es) left cur) } w' := by
  obtain ⟨b, arr, clock, seen, hb, hne, hw, hm, hit, hleft, hcur⟩ := h.sat.holds _ (hlook_mem hl)
  obtain ⟨r1, _⟩ := run_mapUpdate_at (u := u) hu hku hk hw hm.sorts
  rw [hb]
  rcases hm.put hk hi with ⟨j, e, a1, a2, a3, a4⟩ | ⟨a1, a2⟩
  · refine ⟨_, r1 j _ e a1 a2 a3, h.put (y := .mr kd (mput kv g es) left cur) (w' := setB w b _) hl rfl rfl rfl rfl (Nat.le_of_eq (setB_size _ _ _).symm) (fun c _ hc => setB_ne (fun e => hc (by simp [blocks, hb, mapBlk, e]))) ?_ ρ⟩
    refine ⟨b, _, _, seen, hb, hne, setB_get hw, a4, (setB_ne hne).trans hit, ?_, fun k hk' => ?_⟩
    · rw [hleft, lf_arr, lf_arr, modify_toList, lf_modify (e := e) (by simpa using a2) a3]
    · obtain ⟨h1, stamp, h2, h3⟩ := hcur k hk'
      refine ⟨h1, stamp, h2, fun x hx => ?_⟩
      rw [modify_toList] at hx
      obtain ⟨i, hi'⟩ := List.getElem?_of_mem hx
      rw [List.getElem?_modify] at hi'
      cases hy : arr.toList[i]? with
      | none => rw [hy] at hi'; simp at hi'
      | some y =>
        rw [hy] at hi'
        simp only [Option.map_eq_map, Option.map_some, Option.some.injEq] at hi'
        have := h3 y (List.mem_of_getElem? hy)
        split at hi'
        · rename_i hij
          subst hij
          have : y = e := by
            have h5 : arr.toList[j]? = some e := by simpa using a2
            rw [h5] at hy
            cases hy
            rfl
          subst this
          rw [← hi']
          simp only
          rw [← a3]
          assumption
        · rw [← hi']; exact this
  · obtain ⟨g', hg'⟩ := Option.isSome_iff_exists.1 hin
    obtain ⟨j, e, e1, _⟩ := fidx_some (i := 0) hm.is g' hg'
    rw [a1] at e1
    cases e1

theorem Sim.mapDelR (h : Sim cx H s w) {id : Nat} {left : List Value} {cur : Option Value} (hl : hlook s.σ id = some (.mr kd es left cur)) {kv : Value} (hk : sortB kd kv = true) {P : Program} {t kt et ty : TypeId} {ts : Array TypeId} (ht : ts[0]? = some t) (hu : P.underlying t = some (.map kt et)) (hku : P.underlying kt = some (kdD kd)) (ρ : Env) :
    ∃ w', (Builtin.delete_ ts ty #[H.sv id, kv]).run P w = .ok (.tuple #[]) w' ∧ Sim cx H { s with ρ := ρ, σ := hset s.σ id (.mr kd (mdel kv es) (kdel kv left) cur) } w' := by
  obtain ⟨b, arr, clock, seen, hb, hne, hw, hm, hit, hleft, hcur⟩ := h.sat.holds _ (hlook_mem hl)
  have r := run_delete_at (ty := ty) ht hu hku hk hw hm.sorts
  rw [hb]
  refine ⟨_, r, h.put (y := .mr kd (mdel kv es) (kdel kv left) cur) (w' := setB w b _) hl rfl rfl rfl rfl (Nat.le_of_eq (setB_size _ _ _).symm) (fun c _ hc => setB_ne (fun e => hc (by simp [blocks, hb, mapBlk, e]))) ?_ ρ⟩
  rcases hm.del (kv := kv) with ⟨j, e, a1, a2, a3, a5, a4⟩ | ⟨a1, a2, a3⟩
  · rw [a1]
    have hek := vkey_eq hk (hm.sorts e (List.mem_of_getElem? a2)) a3
    have hdrop : ∀ e' ∈ arr.toList.drop (j + 1), vkey kv e'.key = false := fun e' he' => by
      obtain ⟨i, hi'⟩ := List.getElem?_of_mem he'
      rw [List.getElem?_drop] at hi'
      cases hv : vkey kv e'.key with
      | false => rfl
      | true =>
        have h2 := vkey_eq hk (hm.sorts e' (List.mem_of_getElem? hi')) hv
        have := stamped_inj hm.st a2 hi' (hek.symm.trans h2)
        omega
    refine ⟨b, _, _, seen, hb, hne, setB_get hw, a4, (setB_ne hne).trans hit, ?_, fun k hk' => ?_⟩
    · rw [hleft, lf_arr, lf_arr, erase_toList, lf_erase a2 a3 a5 hdrop]
    · obtain ⟨h1, stamp, h2, h3⟩ := hcur k hk'
      refine ⟨h1, stamp, h2, fun x hx => h3 x ?_⟩
      rw [erase_toList] at hx
      exact (List.eraseIdx_sublist _ _).subset hx
  · rw [a1, a3]
    refine ⟨b, _, _, seen, hb, hne, setB_get hw, hm, (setB_ne hne).trans hit, ?_, hcur⟩
    rw [hleft, lf_arr]
    exact kdel_none (fun y hy => by obtain ⟨e', h1, rfl⟩ := lf_mem hy; exact a2 e' h1)
end
end Go.GK
namespace Go.GK
open Go.RowKit
section
variable {cx : Cx} {H : Hid} {s : St} {w : World} {kd : Option IntKind} {es : List (Value × GV)}

theorem run_range_at {P : Program} {t k e : TypeId} (hu : P.underlying t = some (.map k e)) {b clock : Nat} {arr : Array MapEntry} (hw : w.heap[b]? = some (.map arr clock)) :
    (Instr.range t (.map (some b))).run P w = .ok (.pointer (some ⟨w.heap.size, 0, none⟩)) (w.alloc (.mapIter (some b) clock #[] clock)) := by
  simp [Instr.range, run_under hu, getObj, newObj, Sem.run, hw]
theorem run_range_nil {P : Program} {t k e : TypeId} (hu : P.underlying t = some (.map k e)) (w : World) :
    (Instr.range t (.map none)).run P w = .ok (.pointer (some ⟨w.heap.size, 0, none⟩)) (w.alloc (.mapIter none 0 #[] 0)) := by
  simp [Instr.range, run_under hu, newObj, Sem.run]

theorem Sim.mapRange (h : Sim cx H s w) {id : Nat} (hl : hlook s.σ id = some (.mp kd es)) {P : Program} {t kt et : TypeId} (hu : P.underlying t = some (.map kt et)) (ρ : Env) :
    ∃ (H' : Hid) (w' : World), H.le H' ∧ (Instr.range t (H.sv id)).run P w = .ok (.pointer (some ⟨w.heap.size, 0, none⟩)) w' ∧ Is H' (.p s.n 0) (.pointer (some ⟨w.heap.size, 0, none⟩)) ∧ Sim cx H' { ρ := ρ, σ := (s.n, .mr kd es (es.map (·.1)) none) :: hset s.σ id (.itr s.n), n := s.n + 1 } w' := by
  obtain ⟨b, arr, clock, hb, hw, hm⟩ := h.sat.holds _ (hlook_mem hl)
  obtain ⟨l1, l2, e1, _, e3⟩ := hlook_split hl
  have hs := h.sat
  have hfr := h.fr
  have hle := H.le_more w.heap.size (.map (some b))
  have hn := h.n
  have en : (H.more w.heap.size (.map (some b))).bl s.n = w.heap.size := by simp [Hid.more, hn]
  have es' : (H.more w.heap.size (.map (some b))).sv s.n = .map (some b) := by simp [Hid.more, hn]
  have hid : id < H.n := hs.ids _ (hlook_mem hl)
  have eid : (H.more w.heap.size (.map (some b))).sv id = .map (some b) := (hle.sv id hid).trans hb
  have hbel : Below w.heap.size w (w.alloc (.mapIter (some b) clock #[] clock)) := (Below.refl _ _).alloc (Nat.le_refl _) _
  have hblt : b < w.heap.size := (Array.getElem?_eq_some_iff.1 hw).1
  have hin1 : ∀ z ∈ l1, z ∈ s.σ := fun z hz => by rw [e1]; exact List.mem_append.2 (.inl hz)
  have hin2 : ∀ z ∈ l2, z ∈ s.σ := fun z hz => by rw [e1]; exact List.mem_append.2 (.inr (List.mem_cons_of_mem _ hz))
  have b1 : blks (H.more w.heap.size (.map (some b))) l1 = blks H l1 := blks_le hle (fun z hz => hs.ids z (hin1 z hz))
  have b2 : blks (H.more w.heap.size (.map (some b))) l2 = blks H l2 := blks_le hle (fun z hz => hs.ids z (hin2 z hz))
  have hσb : blks H s.σ = blks H l1 ++ ([b] ++ blks H l2) := by rw [e1, blks_append, blks_cons]; simp [blocks, hb, mapBlk]
  have hnew : blks (H.more w.heap.size (.map (some b))) ((s.n, .mr kd es (es.map (·.1)) none) :: hset s.σ id (.itr s.n)) = [b, w.heap.size] ++ (blks H l1 ++ blks H l2) := by
    rw [e3, blks_cons, blks_append, blks_cons, b1, b2]
    simp [blocks, es', en, mapBlk]
  have hmem : ∀ x, x ∈ blks (H.more w.heap.size (.map (some b))) ((s.n, .mr kd es (es.map (·.1)) none) :: hset s.σ id (.itr s.n)) ↔ x = w.heap.size ∨ x ∈ blks H s.σ := fun x => by
    rw [hnew, hσb]; simp only [List.mem_append, List.mem_cons, List.not_mem_nil, or_false]; grind
  refine ⟨_, _, hle, by rw [hb]; exact run_range_at hu hw, ?_, ⟨by simp [Hid.more, hn], ⟨fun c o hr => ?_, fun z hz => ?_, ?_, fun c hc => ?_, fun z hz => ?_⟩, ?_⟩⟩
  · have := Is.p (H := H.more w.heap.size (.map (some b))) (id := s.n) (off := 0) (by simp [Hid.more, hn])
    rwa [en] at this
  · have := hs.ro c o hr
    rw [hbel.block c (Array.getElem?_eq_some_iff.1 this).1]
    exact this
  · rcases List.mem_cons.1 hz with rfl | hz
    · refine ⟨b, arr, clock, #[], es', by rw [en]; omega, (hbel.block b hblt).trans hw, hm.le hle, by rw [en]; exact heap_alloc_new w _, ?_, fun k hk => by cases hk⟩
      rw [lf_arr]
      simp only [lf]
      rw [List.filter_eq_self.2 (by simp), esIs_keys hm.is]
    · rw [e3] at hz
      have hold : ∀ y ∈ s.σ, GK.holds (H.more w.heap.size (.map (some b))) (w.alloc (.mapIter (some b) clock #[] clock)) y := fun y hy =>
        holds_congr (w := w) (fun c hc => by
          rw [blocks_le hle (hs.ids y hy)] at hc
          exact hbel.block c (hs.lt c (List.mem_flatMap.2 ⟨y, hy, hc⟩))) (holds_le hle (hs.ids y hy) (hs.holds y hy))
      rcases List.mem_append.1 hz with hz | hz
      · exact hold z (hin1 z hz)
      · rcases List.mem_cons.1 hz with rfl | hz
        · exact ⟨by simp [Hid.more, hn], eid.trans es'.symm, b, es'⟩
        · exact hold z (hin2 z hz)
  · have hnd := hs.nodup
    rw [hσb] at hnd
    rw [hnew]
    have hperm : ([b, w.heap.size] ++ (blks H l1 ++ blks H l2)).Perm (w.heap.size :: (blks H l1 ++ ([b] ++ blks H l2))) := by
      refine (List.Perm.swap w.heap.size b _).trans (List.Perm.cons _ ?_)
      exact (List.perm_middle (a := b) (l₁ := blks H l1) (l₂ := blks H l2)).symm
    rw [hperm.nodup_iff]
    refine List.nodup_cons.2 ⟨fun hc => ?_, hnd⟩
    rw [← hσb] at hc
    have := hs.lt _ hc
    omega
  · rw [hmem] at hc
    rcases hc with rfl | hc
    · exact hs.none_size _ (Nat.le_refl _)
    · exact hs.free c hc
  · rcases List.mem_cons.1 hz with rfl | hz
    · simp [Hid.more, hn]
    · rw [e3] at hz
      rcases List.mem_append.1 hz with hz | hz
      · exact Nat.lt_of_lt_of_le (hs.ids z (hin1 z hz)) hle.n
      · rcases List.mem_cons.1 hz with rfl | hz
        · exact Nat.lt_of_lt_of_le hid hle.n
        · exact Nat.lt_of_lt_of_le (hs.ids z (hin2 z hz)) hle.n
  · refine ⟨hbel.os.trans hfr.os, hbel.tape.trans hfr.tape, hbel.output.trans hfr.output, Nat.le_trans hfr.size hbel.size, fun c h1 h2 => (hbel.block c (Nat.lt_of_lt_of_le h1 hfr.size)).trans (hfr.keep c h1 h2), fun c hc => ?_, fun c h1 h2 => hfr.fro c h1 h2, hfr.le.trans hle⟩
    have hc' := (hmem c).1 hc
    rcases hc' with rfl | hc'
    · exact .inr hfr.size
    · exact hfr.own c hc'

theorem lf_push {seen : Array Nat} : ∀ {l : List MapEntry} {e : MapEntry}, e ∈ l → (l.map (·.born)).Nodup → !seen.contains e.born → ∃ l1 l2, lf seen l = l1 ++ e.key :: l2 ∧ lf (seen.push e.born) l = l1 ++ l2
  | [], e, h, _, _ => by cases h
  | x :: r, e, h, hn, hs => by
    simp only [List.map_cons, List.nodup_cons] at hn
    by_cases hx : x = e
    · subst hx
      refine ⟨[], lf seen r, ?_, ?_⟩
      · simp only [lf, List.filter_cons, hs, if_true, List.map_cons, List.nil_append]
      · have hc : (seen.push x.born).contains x.born = true := by simp
        simp only [lf, List.filter_cons, hc, Bool.not_true, Bool.false_eq_true, if_false, List.nil_append]
        refine congrArg (List.map _) (List.filter_congr fun y hy => ?_)
        have hne : y.born ≠ x.born := fun e => hn.1 (by rw [← e]; exact List.mem_map_of_mem hy)
        simp [hne]
    · have hr : e ∈ r := by
        rcases List.mem_cons.1 h with h | h
        · exact absurd h.symm hx
        · exact h
      obtain ⟨l1, l2, h1, h2⟩ := lf_push hr hn.2 hs
      have hne : x.born ≠ e.born := fun e' => hn.1 (by rw [e']; exact List.mem_map_of_mem hr)
      have hcc : (seen.push e.born).contains x.born = seen.contains x.born := by simp [hne]
      simp only [lf, List.filter_cons, hcc] at h1 h2 ⊢
      cases hc : seen.contains x.born with
      | true => exact ⟨l1, l2, by simpa only [Bool.not_true, Bool.false_eq_true, if_false] using h1, by simpa only [Bool.not_true, Bool.false_eq_true, if_false] using h2⟩
      | false => exact ⟨x.key :: l1, l2, by simp only [Bool.not_false, if_true, List.map_cons, h1, List.cons_append], by simp only [Bool.not_false, if_true, List.map_cons, h2, List.cons_append]⟩

theorem MapOk.get {arr : Array MapEntry} {clock : Nat} (h : MapOk H kd es arr clock) {e : MapEntry} (he : e ∈ arr.toList) : ∃ g, mfind e.key es = some g ∧ Is H g e.val := by
  have hse := h.sorts e he
  cases hf : mfind e.key es with
  | none =>
    have := esIs_put (k := e.key) (g := .v undef) (u := undef) (.ro (.v undef)) 0 h.is 0
    rcases this with ⟨j, x, a1, _⟩ | ⟨_, a2, _⟩
    · rw [fidx_none h.is hf] at a1; cases a1
    · have := a2 e he
      rw [vkey_refl hse] at this
      cases this
  | some g =>
    obtain ⟨j, x, e1, e2, e3, e4⟩ := fidx_some (i := 0) h.is g hf
    have hx := h.sorts x (List.mem_of_getElem? e2)
    have hk := vkey_eq hse hx e3
    have := nodup_inj h.st.2.2 he (List.mem_of_getElem? e2) hk
    subst this
    exact ⟨g, rfl, e4⟩

theorem Sim.mapNext (h : Sim cx H s w) {it : Nat} {left : List Value} {cur : Option Value} (hl : hlook s.σ it = some (.mr kd es left cur)) (P : Program) (ty : TypeId) (ρ : Env) :
    (left = [] ∧ (Instr.next (.pointer (some ⟨H.bl it, 0, none⟩)) false ty).run P w = .ok (.tuple #[.bool false]) w) ∨
    ∃ l1 k l2 g v w', left = l1 ++ k :: l2 ∧ mfind k es = some g ∧ Is H g v ∧ (Instr.next (.pointer (some ⟨H.bl it, 0, none⟩)) false ty).run P w = .ok (.tuple #[.bool true, k, v]) w' ∧ Sim cx H { s with ρ := ρ, σ := hset s.σ it (.mr kd es (l1 ++ l2) (some k)) } w' := by
  obtain ⟨b, arr, clock, seen, hb, hne, hw, hm, hit, hleft, hcur⟩ := h.sat.holds _ (hlook_mem hl)
  rw [lf_arr] at hleft
  rcases Go.run_next_at (P := P) w ty (H.bl it) b clock clock seen arr clock hit hw hm.st.1 (Nat.le_refl _) with ⟨h0, hr⟩ | ⟨e, he, w1, hw1, hr⟩
  · refine .inl ⟨?_, hr⟩
    rw [hleft, ← lf_arr]
    have : (Array.filter (fun e => !seen.contains e.born) arr) = #[] := Array.eq_empty_of_size_eq_zero h0
    rw [this]; rfl
  · have he2 : e ∈ arr.toList ∧ (!seen.contains e.born) = true := by
      have : e ∈ (Array.filter (fun e => !seen.contains e.born) arr).toList := he
      simp only [Array.toList_filter, List.mem_filter] at this
      exact this
    obtain ⟨l1, l2, a1, a2⟩ := lf_push he2.1 hm.st.2.1 he2.2
    obtain ⟨g, hg, hgi⟩ := hm.get he2.1
    have hsim1 : Sim cx H s w1 := by
      rcases hw1 with rfl | rfl
      · exact h
      · exact h.below (below_drew w)
    have hheap : w1.heap = w.heap := by rcases hw1 with rfl | rfl <;> rfl
    have hsize : w1.heap.size = w.heap.size := by rw [hheap]
    refine .inr ⟨l1, e.key, l2, g, e.val, _, hleft.trans a1, hg, hgi, hr, hsim1.put (y := .mr kd es (l1 ++ l2) (some e.key)) (w' := setB w1 (H.bl it) _) hl rfl rfl rfl rfl (Nat.le_of_eq (setB_size _ _ _).symm) (fun c _ hc => setB_ne (fun e => hc (by simp [blocks, e]))) ?_ ρ⟩
    refine ⟨b, arr, clock, seen.push e.born, hb, hne, (setB_ne (Ne.symm hne)).trans (by rw [hheap]; exact hw), hm, setB_get (by rw [hheap]; exact hit), by rw [lf_arr]; exact a2.symm, fun k hk => ?_⟩
    cases hk
    refine ⟨hm.sorts e he2.1, e.born, by simp, fun x hx => ⟨fun hx' => ?_, fun hx' => ?_⟩⟩
    · rw [nodup_inj hm.st.2.1 hx he2.1 hx']; exact vkey_refl (hm.sorts e he2.1)
    · have := vkey_eq (hm.sorts e he2.1) (hm.sorts x hx) hx'
      rw [nodup_inj hm.st.2.2 hx he2.1 this.symm]

/-- A new thing of any kind. -/
theorem Sim.allocObj (h : Sim cx H s w) (o : Obj) (ρ : Env) :
    Sim cx (H.more w.heap.size undef) { ρ := ρ, σ := (s.n, .ob o) :: s.σ, n := s.n + 1 } (w.alloc o) ∧ Is (H.more w.heap.size undef) (.p s.n 0) (.pointer (some ⟨w.heap.size, 0, none⟩)) := by
  have hle := H.le_more w.heap.size undef
  have e : (H.more w.heap.size undef).bl s.n = w.heap.size := by simp [Hid.more, h.n]
  refine ⟨h.grow hle rfl (by simp [Hid.more, h.n]) ((Below.refl _ _).alloc (Nat.le_refl _) _) ?_ (by simp [blocks]) (by simp [blocks, e]) ρ, ?_⟩
  · show (w.alloc o).heap[(H.more w.heap.size undef).bl s.n]? = some o
    rw [e]
    exact heap_alloc_new w _
  · have := Is.p (H := H.more w.heap.size undef) (id := s.n) (off := 0) (by simp [Hid.more, h.n])
    rwa [e] at this

theorem run_next_nil {P : Program} {r since last : Nat} {seen : Array Nat} (hw : w.heap[r]? = some (.mapIter none since seen last)) (ty : TypeId) : (Instr.next (.pointer (some ⟨r, 0, none⟩)) false ty).run P w = .ok (.tuple #[.bool false]) w := by
  simp [Instr.next, getObj, Sem.run, hw]
end
end Go.GK
