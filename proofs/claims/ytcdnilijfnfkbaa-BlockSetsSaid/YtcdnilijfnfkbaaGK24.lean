/-
  The ghost machine: sort.Slice over a row of a heap that is owned, its order given by a closure that reads the row through the variable that holds it.
-/
import Derived.Test.YtcdnilijfnfkbaaGKg
import Derived.Shelf.SlSortFuncK.WholeK
import Derived.Shelf.GgSortFunc.Whole
namespace Go.GK
open Go.RowKit Go.Sort Go.Lib Go.Proofs

theorem take_put (F cur : Array Value) (h : F.size ≤ cur.size) : (putCells (id : Value → Value) 0 F cur).toList.take F.size = F.toList := by
  apply List.ext_getElem?
  intro i
  rw [List.getElem?_take]
  by_cases hi : i < F.size
  · rw [if_pos hi]
    have hc : i < cur.size := by omega
    simp [putCells, hi, hc]
  · rw [if_neg hi]
    rw [List.getElem?_eq_none (by simp; omega)]
theorem size_put (F cur : Array Value) : (putCells (id : Value → Value) 0 F cur).size = cur.size := by simp [putCells]

theorem Hf.mono {p : Pg} {f : FuncId} {n0 : Nat} {args : List GV} {σ : Heap} {Q Q' : GV → Heap → Nat → Prop} (h : Hf p f n0 args σ Q) (hQ : ∀ g σ' n', Q g σ' n' → Q' g σ' n') : Hf p f n0 args σ Q' :=
  ⟨h.call, fun H us w a b c d => (h.ct H us w a b c d).mono fun _ _ ⟨u, g, H', σ', e1, e2, e3, e4, hq⟩ => ⟨u, g, H', σ', e1, e2, e3, e4, hQ _ _ _ hq⟩⟩

section
variable {α : Type}

/-- What a sort leaves of a row. -/
theorem heap_put [Inhabited α] (encV : α → List Value) (k : Nat) (w : World) (m g : Nat) (d : Array α) (os : Array Obj) {cur : Array Value} {ty : TypeId} {fr : Nat × Nat} (hg : w.heap[g]? = some (.cells cur ty fr)) :
    (grow (putRowK encV k (Sort.ahead w m) g 0 d) os).heap[g]? = some (.cells (putCells id 0 (flatK encV k d) cur) ty fr) := by
  have hlt : g < w.heap.size := (Array.getElem?_eq_some_iff.1 hg).1
  have h1 : (grow (putRowK encV k (Sort.ahead w m) g 0 d) os).heap[g]? = (putRowK encV k (Sort.ahead w m) g 0 d).heap[g]? := heap_grow_old _ _ (by rw [show (putRowK encV k (Sort.ahead w m) g 0 d).heap.size = w.heap.size from Go.Sort.size_putRow _ _ _ _ _]; exact hlt)
  rw [h1]
  show (w.heap.modify g (onCells (putCells id 0 (flatK encV k d))))[g]? = _
  rw [Array.getElem?_modify, if_pos rfl, hg]
  rfl
theorem heap_put_other [Inhabited α] (encV : α → List Value) (k : Nat) (w : World) (m g : Nat) (d : Array α) (os : Array Obj) {b : Nat} (hb : b < w.heap.size) (hne : b ≠ g) :
    (grow (putRowK encV k (Sort.ahead w m) g 0 d) os).heap[b]? = w.heap[b]? := by
  have h1 : (grow (putRowK encV k (Sort.ahead w m) g 0 d) os).heap[b]? = (putRowK encV k (Sort.ahead w m) g 0 d).heap[b]? := heap_grow_old _ _ (by rw [show (putRowK encV k (Sort.ahead w m) g 0 d).heap.size = w.heap.size from Go.Sort.size_putRow _ _ _ _ _]; exact hb)
  rw [h1]
  show (w.heap.modify g _)[b]? = _
  rw [Array.getElem?_modify, if_neg (Ne.symm hne)]

/-! ### Rows of one cell -/
theorem flat1 [Inhabited α] (enc : α → List Value) (d : Array α) : flatK enc 1 d = d.map fun x => (enc x)[0]! := by
  refine ext_get! (by simp) fun t ht => ?_
  have ht' : t < d.size := by simpa using ht
  rw [get_flatK _ _ _ _ (by simpa using ht'), Nat.div_one, Nat.mod_one, getElem!_pos (d.map fun x => (enc x)[0]!) t (by simpa using ht'), Array.getElem_map, getElem!_pos d t ht']
theorem put1 [Inhabited α] (enc : α → List Value) (w : World) (blk off : Nat) (d : Array α) : putRowK enc 1 w blk off d = putRow (fun x => (enc x)[0]!) w blk off d := by
  unfold putRowK putRow
  rw [flat1]
  congr 1
  funext c
  unfold putCells
  congr 1
  funext k x
  rw [Array.size_map]
  by_cases h : off ≤ k ∧ k < off + d.size
  · rw [if_pos h, if_pos h, getElem!_pos (d.map fun x => (enc x)[0]!) (k - off) (by rw [Array.size_map]; omega), Array.getElem_map, getElem!_pos d (k - off) (by omega)]
    rfl
  · rw [if_neg h, if_neg h]
theorem holds1 [Inhabited α] (enc : α → List Value) {w : World} {blk off : Nat} {d : Array α} (h : HoldsK enc 1 w blk off d) : Holds (fun x => (enc x)[0]!) w blk off d := fun j hj => by
  have := h j (by rw [size_flatK, Nat.mul_one]; exact hj)
  rw [flat1, getElem!_pos (d.map fun x => (enc x)[0]!) j (by simpa using hj), Array.getElem_map] at this
  rw [getElem!_pos d j hj]
  exact this
theorem sorts_one {p : Pg} {f g : FuncId} {T : Nat} (h : ∀ (β : Type) [Inhabited β] (enc : β → Value), (∀ x, (enc x).oneCell' = true) → ∀ (lt : β → β → Bool), SWO lt → ∀ (lb : Array Value) (blk off c : Nat) (d : Array β), 2 ≤ d.size → d.size < 4611686018427387904 → ∀ (w : World),
    LessReads p.P g lb enc lt blk off d.size w → Holds enc w blk off d → blk < w.heap.size →
    Calls p.P f #[.iface T (.slice (some ⟨blk, off, none⟩) d.size c), .func (.func g) #[] lb] w fun e w' => e = .returned (.tuple #[]) ∧ ∃ d' n os, PermIn 0 d.size d d' ∧ SortedIn lt 0 d.size d' ∧ w' = grow (putRow enc (Sort.ahead w n) blk off d') os)
    (β : Type) [Inhabited β] (enc : β → List Value) (hk : ∀ x, (enc x).length = 1) (h1 : ∀ x, ∀ v ∈ enc x, v.oneCell' = true) (lt : β → β → Bool) (hO : SWO lt) (lb : Array Value) (blk off c : Nat) (d : Array β) (h2 : 2 ≤ d.size) (hsz : d.size < 4611686018427387904) (w : World)
    (hless : LessReadsK p.P g lb enc 1 lt blk off d.size w) (hH : HoldsK enc 1 w blk off d) (hblk : blk < w.heap.size) :
    Calls p.P f #[.iface T (.slice (some ⟨blk, off, none⟩) d.size c), .func (.func g) #[] lb] w fun e w' => e = .returned (.tuple #[]) ∧ ∃ d' n os, PermIn 0 d.size d d' ∧ SortedIn lt 0 d.size d' ∧ w' = grow (putRowK enc 1 (Sort.ahead w n) blk off d') os := by
  have := h β (fun x => (enc x)[0]!) (fun x => h1 x _ (by
    have hx := hk x
    rw [getElem!_pos (enc x) 0 (by omega)]
    exact List.getElem_mem _)) lt hO lb blk off c d h2 hsz w (fun m os dk hdk i j hi hj => by
      have e : sortWorld (fun x => (enc x)[0]!) w blk off m dk os = sortWorldK enc 1 w blk off m dk os := by
        unfold sortWorld sortWorldK
        rw [put1]
      rw [e]
      exact hless m os dk hdk i j hi hj) (holds1 enc hH) hblk
  refine this.mono fun e w' ⟨he, d', n, os, a, b, hw⟩ => ⟨he, d', n, os, a, b, ?_⟩
  rw [put1]
  exact hw

/-- What the library says of sort.Slice at this dump: at rows of k cells. -/
structure SortLib (p : Pg) (f g : FuncId) (T k : Nat) : Prop where
  call : ∀ ar w, (callFunc f ar).run p.P w = .ok (.enter f ar) w
  tiny : ∀ (a : Option Addr) (n c : Nat), n ≤ 1 → ∀ (lb : Array Value) (w : World), Calls p.P f #[.iface T (.slice a n c), .func (.func g) #[] lb] w fun e w' => e = .returned (.tuple #[]) ∧ ∃ os, w' = grow w os
  sorts : ∀ (β : Type) [Inhabited β] (enc : β → List Value), (∀ x, (enc x).length = k) → (∀ x, ∀ v ∈ enc x, v.oneCell' = true) → ∀ (lt : β → β → Bool), SWO lt → ∀ (lb : Array Value) (blk off c : Nat) (d : Array β), 2 ≤ d.size → d.size < 4611686018427387904 → ∀ (w : World),
    LessReadsK p.P g lb enc k lt blk off d.size w → HoldsK enc k w blk off d → blk < w.heap.size →
    Calls p.P f #[.iface T (.slice (some ⟨blk, off, none⟩) d.size c), .func (.func g) #[] lb] w fun e w' => e = .returned (.tuple #[]) ∧ ∃ d' n os, PermIn 0 d.size d d' ∧ SortedIn lt 0 d.size d' ∧ w' = grow (putRowK enc k (Sort.ahead w n) blk off d') os

/-- The closure reads the row through the variable that holds it, and tells which of two comes first. -/
def Less (p : Pg) (g : FuncId) (k : Nat) (enc : α → List GV) (lt : α → α → Bool) : Prop :=
  ∀ (ro : Nat → Option Obj) (blk c Bs n : Nat) (W : World) (d : Nat → α), n < 4611686018427387904 → W.cell? ⟨Bs, 0, none⟩ = some (.slice (some ⟨blk, 0, none⟩) n c) →
    (∀ t, t < n → ∀ j g', (enc (d t))[j]? = some g' → ∃ u, W.cell? ⟨blk, t * k + j, none⟩ = some u ∧ IsR ro g' u) →
    ∀ i j : Nat, i < n → j < n → Calls p.P g #[.int .i64 i, .int .i64 j, .pointer (some ⟨Bs, 0, none⟩)] W fun e w' => e = .returned (.bool (lt (d i) (d j))) ∧ ∃ q, w' = W.drewN q

theorem sort_hf {p : Pg} {f g : FuncId} {T k : Nat} (hL : SortLib p f g T k) (enc : α → List GV) (hk : ∀ x, (enc x).length = k) (lt : α → α → Bool) (hO : SWO lt) (hl : Less p g k enc lt) (ty tb : TypeId) (l : List α) (hmax : l.length < 4611686018427387904) :
    Hf p f 2 [.ifc T (.o 0), .fn (.func g) [] [.p 1 0]] [(0, .row ty k (l.map enc)), (1, .blk tb [.o 0])] fun G σ n => G = .tup [] ∧ ∃ l' : List α, l'.Perm l ∧ l'.Pairwise (fun x y => lt y x = false) ∧ σ = [(0, .row ty k (l'.map enc)), (1, .blk tb [.o 0])] ∧ n = 2 := by
  refine ⟨hL.call, fun H us w hn hg hcs hs => ?_⟩
  obtain ⟨hul, hi⟩ := hcs
  have hi0 := hi 0 _ rfl
  have hi1 := hi 1 _ rfl
  obtain ⟨xs, hown, hrow⟩ := hs.holds (0, .row ty k (l.map enc)) (by simp)
  obtain ⟨us1, hb1, hz1, hbi⟩ := hs.holds (1, .blk tb [.o 0]) (by simp)
  have hus0 : us.getD 0 undef = .iface T (H.sv 0) := by
    generalize us.getD 0 undef = u at hi0
    cases hi0 with
    | ro h => cases h with | ifc h => cases h
    | ifc h =>
      cases h with
      | ro h => cases h
      | o _ hs' _ => rw [hs']
  have how : ow (H.sv 0) = true := by
    generalize us.getD 0 undef = u at hi0
    cases hi0 with
    | ro h => cases h with | ifc h => cases h
    | ifc h =>
      cases h with
      | ro h => cases h
      | o _ hs' h1 => rw [hs']; exact h1
  have pinv : ∀ u, Is H (.p 1 0) u → u = .pointer (some ⟨H.bl 1, 0, none⟩) := fun u h => by
    cases h with
    | ro h => cases h
    | p _ => rfl
  have hus1 : us.getD 1 undef = .func (.func g) #[] #[.pointer (some ⟨H.bl 1, 0, none⟩)] := by
    generalize us.getD 1 undef = u at hi1
    cases hi1 with
    | ro h =>
      cases h with
      | fn _ _ hl2 h2 =>
        have := h2 0 _ rfl
        cases this
    | @fn _ _ _ us0 vs0 hl1 _ hl2 h2 =>
      have e1 : us0 = #[] := Array.eq_empty_of_size_eq_zero hl1.symm
      have e2 : vs0 = #[Value.pointer (some ⟨H.bl 1, 0, none⟩)] := by
        apply Array.ext
        · simpa using hl2.symm
        · intro i h3 h4
          have hi' : i = 0 := by simp at h4; omega
          subst hi'
          have h5 := h2 0 _ rfl
          have h6 : vs0.getD 0 undef = vs0[0] := by simp [Array.getD, h3]
          rw [h6] at h5
          exact pinv _ h5
      rw [e1, e2]
  have hus : us = #[.iface T (H.sv 0), .func (.func g) #[] #[.pointer (some ⟨H.bl 1, 0, none⟩)]] := by
    have h2 : us.size = 2 := by rw [← hul]; rfl
    apply Array.ext
    · exact h2
    · intro i h3 h4
      have : us[i] = us.getD i undef := by simp [Array.getD, h3]
      rw [this]
      match i, h4 with
      | 0, _ => exact hus0
      | 1, _ => exact hus1
  rw [hus]
  have tiny : ∀ (a : Option Addr) (n c : Nat), n ≤ 1 → H.sv 0 = .slice a n c → l.length ≤ 1 → Calls p.P f #[.iface T (H.sv 0), .func (.func g) #[] #[.pointer (some ⟨H.bl 1, 0, none⟩)]] w fun e w' => ∃ u g' H' σ', e = .returned u ∧ Is H' g' u ∧ Sat H' σ' w' ∧ Fr H (blks H [(0, .row ty k (l.map enc)), (1, .blk tb [.o 0])]) w H' (blks H' σ') w' ∧ (g' = .tup [] ∧ ∃ l' : List α, l'.Perm l ∧ l'.Pairwise (fun x y => lt y x = false) ∧ σ' = [(0, .row ty k (l'.map enc)), (1, .blk tb [.o 0])] ∧ H'.n = 2) := by
    intro a n c h1 e hl1
    rw [e]
    refine (hL.tiny a n c h1 _ w).mono ?_
    rintro _ w' ⟨rfl, os, rfl⟩
    have hb : Below w.heap.size w (grow w os) := ⟨rfl, rfl, rfl, by simp, fun b hb => heap_grow_old w os hb⟩
    refine ⟨_, .tup [], H, _, rfl, .tup rfl (fun j g h => by simp at h), hs.below hb, Fr.below (Fr.refl _ _ _) hb, rfl, l, .refl _, ?_, rfl, hn⟩
    match l, hl1 with
    | [], _ => exact .nil
    | [x], _ => exact List.pairwise_singleton _ _
  obtain ⟨hxl, hcase⟩ := hown
  rcases hcase with ⟨hv, hn0⟩ | ⟨gb, cap, cur, hv, _, hgb, hnc, hcm, hcz, htk⟩
  · exact tiny none 0 0 (by omega) hv (by simp at hn0; simp [hn0])
  by_cases hsm : l.length ≤ 1
  · exact tiny _ _ cap (by simpa using hsm) hv hsm
  simp only [List.length_map] at hxl hnc hcz htk hv
  -- the elements, with their cells
  let β : Type := { x : α × List Value // x.2.length = k ∧ (∀ v ∈ x.2, v.oneCell' = true) ∧ ∀ (j : Nat) (g' : GV), (enc x.1)[j]? = some g' → ∃ u : Value, (x.2 : List Value)[j]? = some u ∧ IsR H.ro g' u }
  have mk : ∀ t (ht : t < l.length), ((xs.drop (t * k)).take k).length = k ∧ (∀ v ∈ (xs.drop (t * k)).take k, v.oneCell' = true) ∧ ∀ (j : Nat) (g' : GV), (enc (l[t]'ht))[j]? = some g' → ∃ u : Value, ((xs.drop (t * k)).take k)[j]? = some u ∧ IsR H.ro g' u := by
    intro t ht
    have hle : t * k + k ≤ l.length * k := by
      have := Nat.mul_le_mul_right k (show t + 1 ≤ l.length from ht)
      rwa [Nat.add_mul, Nat.one_mul] at this
    refine ⟨by rw [List.length_take, List.length_drop, hxl]; omega, fun v hv => hrow.one v (List.mem_of_mem_drop (List.mem_of_mem_take hv)), fun j g' hj => ?_⟩
    obtain ⟨u, h1, h2⟩ := hrow.is t (enc l[t]) (by rw [List.getElem?_map, List.getElem?_eq_getElem ht]; rfl) j g' hj
    have hjk : j < k := by rw [← hk l[t]]; exact (List.getElem?_eq_some_iff.1 hj).1
    exact ⟨u, by rw [List.getElem?_take, if_pos hjk, List.getElem?_drop]; exact h1, h2⟩
  let d : Array β := Array.ofFn (n := l.length) fun t => ⟨(l[t], (xs.drop (t * k)).take k), mk t t.2⟩
  have hds : d.size = l.length := by simp [d]
  letI : Inhabited β := ⟨d[0]'(by rw [hds]; omega)⟩
  have dget : ∀ t (ht : t < l.length), d[t]!.1 = (l[t], (xs.drop (t * k)).take k) := by
    intro t ht
    rw [getElem!_pos d t (by rw [hds]; exact ht)]
    simp [d]
  have hdl : d.toList.map (·.1.1) = l := by
    apply List.ext_getElem?
    intro t
    by_cases ht : t < l.length
    · rw [List.getElem?_map, List.getElem?_eq_getElem (by simpa [hds] using ht), List.getElem?_eq_getElem ht]
      simp [d]
    · rw [List.getElem?_eq_none (by simpa [hds] using ht), List.getElem?_eq_none (by omega)]
  let encV : β → List Value := fun x => x.1.2
  have hkV : ∀ x, (encV x).length = k := fun x => x.2.1
  have hfl : flatK encV k d = xs.toArray := by
    refine ext_get! (by rw [size_flatK, hds]; simpa using hxl.symm) fun t ht => ?_
    rw [size_flatK, hds] at ht
    have k0 : 0 < k := by rcases Nat.eq_zero_or_pos k with h | h; · subst h; simp at ht
                          · exact h
    have hdv : t / k < l.length := (Nat.div_lt_iff_lt_mul k0).2 ht
    have hmd : t % k < k := Nat.mod_lt t k0
    rw [get_flatK _ _ _ _ (by rw [hds]; exact ht)]
    have e1 : encV d[t / k]! = (xs.drop (t / k * k)).take k := congrArg (·.2) (dget _ hdv)
    rw [e1]
    have e2 : t / k * k + t % k = t := Nat.div_add_mod' t k
    have hx : t < xs.length := by omega
    have e3 : ((xs.drop (t / k * k)).take k)[t % k]? = some xs[t] := by
      rw [List.getElem?_take, if_pos hmd, List.getElem?_drop, e2, List.getElem?_eq_getElem hx]
    rw [List.getElem!_eq_getElem?_getD, e3, getElem!_pos xs.toArray t (by simpa using hx)]
    simp
  have hglt : gb < w.heap.size := (Array.getElem?_eq_some_iff.1 hgb).1
  have hcurx : ∀ t (ht : t < xs.length), cur[t]? = some xs[t] := by
    intro t ht
    have h1 : (cur.toList.take (l.length * k))[t]? = some xs[t] := by rw [htk, List.getElem?_eq_getElem ht]
    rw [List.getElem?_take, if_pos (by omega)] at h1
    simpa using h1
  have hH : HoldsK encV k w gb 0 d := by
    intro j hj
    rw [hfl] at hj ⊢
    have hx : j < xs.length := by simpa using hj
    refine ⟨?_, ?_⟩
    · simp only [World.cell?, hgb, Nat.zero_add]
      rw [if_neg (by simp), hcurx j hx, getElem!_pos xs.toArray j hj]
      simp
    · simp [World.frozen?, hgb]
  have hbne : H.bl 1 ≠ gb := by
    have := hs.nodup
    simp only [blks, List.flatMap_cons, List.flatMap_nil, blocks, hv, Value.ownBlock, Option.toList, List.append_nil] at this
    simp at this
    exact fun e => this e.symm
  have hb1lt : H.bl 1 < w.heap.size := (Array.getElem?_eq_some_iff.1 hb1).1
  have hcell1 : w.cell? ⟨H.bl 1, 0, none⟩ = some (.slice (some ⟨gb, 0, none⟩) l.length cap) := by
    have h2 := hbi 0 _ rfl
    have h3 : us1.getD 0 undef = H.sv 0 := by
      generalize us1.getD 0 undef = u at h2
      cases h2 with
      | ro h => cases h
      | o _ hs' _ => exact hs'.symm
    have h4 : 0 < us1.size := by rw [← hz1]; simp
    simp only [World.cell?, hb1]
    rw [if_neg (by simp), Array.getElem?_eq_getElem h4]
    have h5 : us1.getD 0 undef = us1[0] := by simp [Array.getD, h4]
    rw [← h5, h3, hv]
  let ltV : β → β → Bool := fun x y => lt x.1.1 y.1.1
  have hOV : SWO ltV := ⟨fun x => hO.irrefl _, fun x y z => hO.trans _ _ _, fun x y z => hO.ntrans _ _ _⟩
  have hless : LessReadsK p.P g #[.pointer (some ⟨H.bl 1, 0, none⟩)] encV k ltV gb 0 d.size w := by
    intro m os dk hdk i j hi hj
    rw [hds] at hdk hi hj
    have hHd : HoldsK encV k (sortWorldK encV k w gb 0 m dk os) gb 0 dk := by
      unfold sortWorldK
      refine holdsK_grow encV k _ os gb 0 dk ?_ (holdsK_putRowK encV k (Sort.ahead w m) gb 0 d dk (holdsK_ahead encV k w m gb 0 d hH) (by rw [hds, hdk]))
      rw [show (putRowK encV k (Sort.ahead w m) gb 0 dk).heap.size = w.heap.size from Go.Sort.size_putRow _ _ _ _ _]
      exact hglt
    have := hl H.ro gb cap (H.bl 1) l.length (sortWorldK encV k w gb 0 m dk os) (fun t => dk[t]!.1.1) hmax ?_ ?_ i j hi hj
    · simpa using this
    · have e : (sortWorldK encV k w gb 0 m dk os).heap[H.bl 1]? = w.heap[H.bl 1]? := heap_put_other encV k w m gb dk os hb1lt hbne
      rw [← hcell1]
      simp only [World.cell?, e]
    · intro t ht j g' hj'
      obtain ⟨u, h1, h2⟩ := dk[t]!.2.2.2 j g' hj'
      have hjk : j < k := by have := (List.getElem?_eq_some_iff.1 h1).1; have h3 := dk[t]!.2.1; omega
      have hc := (hHd.cell (i := t) (c := j) (by rw [hdk]; exact ht) hjk).1
      refine ⟨u, ?_, h2⟩
      rw [Nat.zero_add] at hc
      rw [hc]
      have : (encV dk[t]!)[j]? = some u := h1
      rw [List.getElem!_eq_getElem?_getD, this]
      rfl
  have hC := hL.sorts β encV hkV (fun x => x.2.2.1) ltV hOV #[.pointer (some ⟨H.bl 1, 0, none⟩)] gb 0 cap d (by rw [hds]; omega) (by rw [hds]; exact hmax) w hless hH hglt
  rw [hds] at hC
  rw [hv]
  refine hC.mono ?_
  rintro _ w' ⟨rfl, d', n, os, hP, hSo, rfl⟩
  have hds' : d'.size = l.length := by rw [hP.1, hds]
  have hper : d'.toList.Perm d.toList := by
    have := hP.2.2
    rwa [show d'.extract 0 l.length = d' by rw [← hds']; simp, show d.extract 0 l.length = d by rw [← hds]; simp] at this
  have hl'l : (d'.toList.map (·.1.1)).length = l.length := by simp [hds']
  refine ⟨_, .tup [], H, [(0, .row ty k ((d'.toList.map (·.1.1)).map enc)), (1, .blk tb [.o 0])], rfl, .tup rfl (fun j g h => by simp at h), ?_, ?_, rfl, d'.toList.map (·.1.1), ?_, ?_, rfl, hn⟩
  · have hgr := heap_put encV k w n gb d' os hgb
    refine ⟨fun b o hr => ?_, fun x hx => ?_, hs.nodup, hs.free, fun x hx => ?_⟩
    · have hbo := hs.ro b o hr
      have hne : b ≠ gb := fun e => by
        have := hs.free gb (by simp [blks, blocks, hv, Value.ownBlock])
        rw [← e, hr] at this
        cases this
      rw [heap_put_other encV k w n gb d' os (Array.getElem?_eq_some_iff.1 hbo).1 hne]
      exact hbo
    · simp only [List.mem_cons, List.not_mem_nil, or_false] at hx
      rcases hx with rfl | rfl
      · refine ⟨(flatK encV k d').toList, ⟨?_, .inr ⟨gb, cap, _, ?_, Nat.zero_le _, hgr, ?_, hcm, ?_, ?_⟩⟩, ⟨?_, ?_, ?_, ?_⟩⟩
        · simp [size_flatK, hds']
        · rw [hv]; simp [hds']
        · simpa [hds'] using hnc
        · rw [size_put]; exact hcz
        · have := take_put (flatK encV k d') cur (by rw [size_flatK, hds', hcz]; exact Nat.mul_le_mul_right k hnc)
          rw [size_flatK, hds'] at this
          simpa [hds'] using this
        · simp [size_flatK, hds']
        · intro row hrow'
          obtain ⟨x, _, rfl⟩ := List.mem_map.1 hrow'
          exact hk x
        · intro i row hrow' j g' hj
          rw [List.getElem?_map] at hrow'
          obtain ⟨x, hx, rfl⟩ := Option.map_eq_some_iff.1 hrow'
          rw [List.getElem?_map] at hx
          obtain ⟨y, hy, rfl⟩ := Option.map_eq_some_iff.1 hx
          have hi' : i < d'.size := by simpa using (List.getElem?_eq_some_iff.1 hy).1
          obtain ⟨u, h1, h2⟩ := y.2.2.2 j g' hj
          have hjk : j < k := by have := (List.getElem?_eq_some_iff.1 h1).1; have h3 := y.2.1; omega
          have hlt : i * k + j < d'.size * k := by
            have := Nat.mul_le_mul_right k (show i + 1 ≤ d'.size from hi')
            rw [Nat.add_mul, Nat.one_mul] at this
            omega
          refine ⟨u, ?_, h2⟩
          have e1 : (i * k + j) / k = i := (blk_iff k i _ (by omega)).1 ⟨by omega, by omega⟩
          have e2 : (i * k + j) % k = j := by rw [Nat.mod_eq_sub_div_mul, e1]; omega
          have e3 := get_flatK encV k d' (i * k + j) hlt
          rw [e1, e2] at e3
          have hy' : d'[i]! = y := by
            rw [getElem!_pos d' i hi']
            have := (List.getElem?_eq_some_iff.1 hy).2
            simpa using this
          rw [hy', List.getElem!_eq_getElem?_getD, show (encV y)[j]? = some u from h1] at e3
          rw [Array.getElem?_toList, Array.getElem?_eq_getElem (by rw [size_flatK]; exact hlt)]
          rw [getElem!_pos _ _ (by rw [size_flatK]; exact hlt)] at e3
          rw [e3]
          rfl
        · intro u hu
          obtain ⟨t, ht, rfl⟩ := List.getElem_of_mem hu
          have ht' : t < d'.size * k := by simpa [size_flatK] using ht
          have k0 : 0 < k := by rcases Nat.eq_zero_or_pos k with h | h; · subst h; simp at ht'
                                · exact h
          have e3 := get_flatK encV k d' t ht'
          rw [getElem!_pos _ _ (by rw [size_flatK]; exact ht')] at e3
          have hm : t % k < (encV d'[t / k]!).length := by rw [hkV]; exact Nat.mod_lt t k0
          rw [getElem!_pos (encV d'[t / k]!) (t % k) hm] at e3
          rw [Array.getElem_toList, e3]
          exact d'[t / k]!.2.2.1 _ (List.getElem_mem hm)
      · exact ⟨us1, by rw [heap_put_other encV k w n gb d' os hb1lt hbne]; exact hb1, hz1, hbi⟩
    · have := hs.ids
      simp only [List.mem_cons, List.not_mem_nil, or_false] at hx
      rcases hx with rfl | rfl
      · exact this (0, .row ty k (l.map enc)) (by simp)
      · exact this (1, .blk tb [.o 0]) (by simp)
  · refine ⟨rfl, rfl, rfl, ?_, fun b hb hnb => ?_, fun b hb => .inl hb, fun b h1 h2 => absurd h1 h2, Hid.le.refl H⟩
    · rw [size_grow, show (putRowK encV k (Sort.ahead w n) gb 0 d').heap.size = w.heap.size from Go.Sort.size_putRow _ _ _ _ _]
      omega
    · refine heap_put_other encV k w n gb d' os hb fun e => hnb ?_
      rw [e]
      simp [blks, blocks, hv, Value.ownBlock]
  · rw [← hdl]
    exact hper.map _
  · rw [List.pairwise_map]
    refine List.pairwise_iff_getElem.2 fun i j h1 h2 hij => ?_
    have h2' : j < l.length := by simpa [hds'] using h2
    have := hSo i j (Nat.zero_le _) hij h2'
    rw [getElem!_pos d' j (by omega), getElem!_pos d' i (by omega)] at this
    simpa using this
end
end Go.GK
