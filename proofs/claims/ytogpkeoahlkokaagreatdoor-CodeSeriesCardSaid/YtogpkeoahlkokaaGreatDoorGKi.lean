/-
  strings.Builder: the shelf's walks once more, with what they change told exactly (one block, and its row of bytes).
-/
import Derived.Shelf.Strings.BuilderK
import Derived.Test.YtogpkeoahlkokaaGreatDoorGKh
set_option linter.unusedVariables false
namespace Go.Lib
section
variable {P : Program} (w : World)
theorem ownsRowF_low {w : World} {base : Nat} {e : TypeId} {size : Nat} {v : Value} {n : Nat} {xs : List Value} (h : w.ownsRowF base e size v n xs) : w.ownsRowF 0 e size v n xs := by
  refine ⟨h.1, ?_⟩
  rcases h.2 with h | ⟨g, cap, cur, fz, h1, h2, h3⟩
  · exact .inl h
  · exact .inr ⟨g, cap, cur, fz, h1, Nat.zero_le _, h3⟩
/-- append(b, s...): where the row lies then. -/
theorem run_append_own_stringF_at (t u ty e : TypeId) (i : TypeInfo) (ht : P.underlying t = some (.slice e)) (hu : P.underlying u = some .string) (hi : P.info? e = some i) (hz : i.zero = some (.int .u8 0))
    (hsize : i.size = 1) (hby : i.bytes = 1)
    (v : Value) (n : Nat) (xs : List Value) (hown : w.ownsRowF 0 e 1 v n xs) (s : ByteArray)
    (h63 : n + s.size ≤ maxLen) (hbytes : n + s.size ≤ 140737488355328) :
    ∃ v' w', (Builtin.append_ #[t, u] ty #[v, .string s]).run P w = .ok v' w' ∧ w'.ownsRowF 0 e 1 v' (n + s.size) (xs ++ strCells s) ∧ w.grownBy w' v.ownBlock ∧
      (v' = .slice none 0 0 ↔ v = .slice none 0 0 ∧ s.size = 0) ∧ ∀ g, v'.ownBlock = some g → v.ownBlock = some g ∨ w.heap.size ≤ g := by
  rcases hown.2 with ⟨rfl, rfl⟩ | ⟨g, cap, cur, fz, rfl, hbg, hg, hfz, hnc, hcm, hcs, htake⟩
  · -- no row yet
    obtain ⟨v', w', h1, h2, h3, h4⟩ := run_append_own_string (P := P) w w.heap.size t u ty e i ht hu hi hz hsize hby (.slice none 0 0) 0 xs ⟨hown.1, .inl ⟨rfl, rfl⟩⟩ s h63 hbytes (Nat.le_refl _)
    exact ⟨v', w', h1, ownsRowF_low (World.ownsRowF_of h2), h3, h4, fun g hg => .inr ((World.ownsRowF_of h2).lt g hg).1⟩
  · have hsmall : n + s.size ≤ 9223372036854775807 := by simp only [maxLen] at h63; omega
    have hxl : xs.length = n := by simpa using hown.1
    have hlen : (xs ++ strCells s).length = (n + s.size) * 1 := by rw [List.length_append, hxl, strCells_length, Nat.mul_one]
    by_cases hroom : n + s.size ≤ cap
    · have hcs' : cur.size = cap := by simpa using hcs
      have hr := run_append_room_stringF (P := P) w t u ty e i ht hu hi hsize g n cap cur fz hg (by simpa using hfz) s hroom (by omega)
      refine ⟨_, _, hr, ⟨hlen, .inr ⟨g, cap, _, fz, rfl, hbg, setRow_heap w g cur _ e _ hg, by omega, hroom, hcm, ?_, ?_⟩⟩, ⟨rfl, rfl, rfl, by simp, fun k _ hk => setRow_other w g k _ (fun e => hk (by simp [Value.ownBlock, e]))⟩, by simp, fun g' hg' => .inl hg'⟩
      · simp only [List.size_toArray, List.length_append, List.length_take, List.length_drop, Array.length_toList, strCells_length]
        omega
      · have ht' : cur.toList.take n = xs := by simpa using htake
        rw [ht', ← hlen]
        exact List.take_left
    · have holds : ∀ j u, xs[j]? = some u → w.cell? ((⟨g, 0, none⟩ : Addr).add j) = some u := hown.cells (g := g) rfl
      have hr := run_append_grow_string (P := P) w t u ty e i (.int .u8 0) ht hu hi hz ⟨g, 0, none⟩ n cap xs (by rw [hsize]; simpa using hxl) holds s (by omega) (by omega) (by rw [hby]; exact growslice_fits (by omega) (by omega))
      have hge := grownCap_ge w (n + s.size) cap e
      have hcm2 : grownCap w (n + s.size) cap e ≤ maxLen := grownCap_le_maxLen w (n + s.size) cap e h63
      refine ⟨_, _, hr, ⟨hlen, .inr ⟨w.heap.size, _, _, (0, 0), rfl, Nat.zero_le _, heap_alloc_new w.drew _, Nat.zero_le _, hge, hcm2, ?_, ?_⟩⟩, ⟨rfl, rfl, rfl, by simp, fun k hk _ => by first | exact heap_alloc_old w.drew _ k hk | exact heap_alloc_old w.drew _ hk⟩, by simp, fun g' hg' => .inr (by simp [Value.ownBlock] at hg'; omega)⟩
      · have hz1 : (Value.int IntKind.u8 0).cells.size = 1 := rfl
        simp only [Array.size_append, List.size_toArray, size_zeroCells, hz1, hxl, strCells_length]
        omega
      · simp only [Array.toList_append, List.append_assoc]
        rw [← List.append_assoc, ← hlen]
        exact List.take_left
theorem wpList_append_own_stringF_at {ops : Array Oper} {rest : List Oper} {o : Oper} {a : Act} {Q : Exit → Act → World → Prop} (hgd : o.guard = none) (sl x : Operand) (t u : TypeId)
    (ho : o.op = .call { callee := .builtin .append, args := #[sl, x], argTypes := #[t, u] })
    (e : TypeId) (i : TypeInfo) (ht : P.underlying t = some (.slice e)) (hu : P.underlying u = some .string) (hi : P.info? e = some i) (hz : i.zero = some (.int .u8 0))
    (hsize : i.size = 1) (hby : i.bytes = 1)
    (v : Value) (n : Nat) (xs : List Value) (hs : a.eval sl = v) (hown : w.ownsRowF 0 e 1 v n xs) (s : ByteArray) (hx : a.eval x = .string s)
    (h63 : n + s.size ≤ maxLen) (hbytes : n + s.size ≤ 140737488355328)
    (h : ∀ v' w', w'.ownsRowF 0 e 1 v' (n + s.size) (xs ++ strCells s) → w.grownBy w' v.ownBlock → (v' = .slice none 0 0 ↔ v = .slice none 0 0 ∧ s.size = 0) → (∀ g, v'.ownBlock = some g → v.ownBlock = some g ∨ w.heap.size ≤ g) → wpList P ops Q rest (a.put o.dst v') w') : wpList P ops Q (o :: rest) a w := by
  refine wpList_plain hgd fun K hK => ?_
  obtain ⟨v', w', hr, h2, h3, h4, h5⟩ := run_append_own_stringF_at (P := P) w t u o.type e i ht hu hi hz hsize hby v n xs hown s h63 hbytes
  unfold Oper.wp execOp
  simp only [ho, resolve, invoke, builtin, Sem.run_bind, Sem.run_pure, Result.andThen_ok, List.map_toArray, List.map_cons, List.map_nil, hs, hx, hr]
  exact hK _ _ (h v' w' h2 h3 h4 h5)
end
/-- A builder in block b, with these bytes; its buffer is nil as long as there are none. -/
def Bld (T e : TypeId) (b : Nat) (u : Value) (bs : List Value) (w : World) : Prop :=
  ∃ p, w.heap[b]? = some (.cells #[p, u] T (0, 0)) ∧ (p = .pointer none ∨ p = .pointer (some ⟨b, 0, none⟩)) ∧ w.ownsRowF 0 e 1 u bs.length bs ∧ (bs = [] → u = .slice none 0 0)
/-- What a call on it changes. -/
structure BldFr (b : Nat) (u u' : Value) (w w' : World) : Prop where
  os : w'.os = w.os
  tape : w'.tape = w.tape
  output : w'.output = w.output
  size : w.heap.size ≤ w'.heap.size
  keep : ∀ k, k < w.heap.size → k ≠ b → u.ownBlock ≠ some k → w'.heap[k]? = w.heap[k]?
  own : ∀ g, u'.ownBlock = some g → u.ownBlock = some g ∨ w.heap.size ≤ g
end Go.Lib
namespace Go.Proofs
open Go.Shelf Go.RowKit
variable {P : Program} {ρ : Ren}
/-- Kept out of sight. -/
structure Lib.Asid (p : Prop) : Prop where
  out : p
/-- What is known behind copyCheck. -/
structure Lib.CcAt (T e : TypeId) (b : Nat) (u : Value) (bs : List Value) (w w1 : World) : Prop where
  hb : w1.heap[b]? = some (.cells #[.pointer (some ⟨b, 0, none⟩), u] T (0, 0))
  own : w1.ownsRowF 0 e 1 u bs.length bs
  os : w1.os = w.os
  tape : w1.tape = w.tape
  output : w1.output = w.output
  size : w1.heap.size = w.heap.size
  keep : ∀ k, k ≠ b → w1.heap[k]? = w.heap[k]?
  nil : bs = [] → u = .slice none 0 0
  ne : u.ownBlock ≠ some b
theorem Any.Bld_copyCheck (L : Lays.n240 P ρ) (X : Builder.Extra P ρ) (b : Nat) (u : Value) (bs : List Value) (w : World) (h : Lib.Bld (ρ.t 72) (ρ.t 5) b u bs w) :
    Calls P (ρ.f 240) #[.pointer (some ⟨b, 0, none⟩)] w fun e w1 => e = .returned (.tuple #[]) ∧ Lib.CcAt (ρ.t 72) (ρ.t 5) b u bs w w1 := by
  obtain ⟨p, hbk, hp, hown, hnil⟩ := h
  have hne : u.ownBlock ≠ some b := Lib.ownBlock_neF hown hbk X.neB5
  rcases hp with rfl | rfl
  · refine (Any.Builder_copyCheck_fresh L X.toX72 b w (by rw [Lib.cell_of_heap hbk]; rfl) (by simp [World.shape?, hbk]) (Lib.frozen_of_heap hbk 0)).mono ?_
    rintro e w' ⟨rfl, rfl⟩
    have hk : ∀ k, k ≠ b → (w.setCell ⟨b, 0, none⟩ (.pointer (some ⟨b, 0, none⟩))).heap[k]? = w.heap[k]? := fun k hk => Below.heap_setCell _ _ _ _ hk
    exact ⟨rfl, by simp [World.setCell, Array.getElem?_modify, hbk], hown.kept (row := some b) ⟨rfl, rfl, rfl, by simp [World.setCell], fun k _ hkb => hk k (fun e => hkb (by rw [e]))⟩ (Or.inr hne), rfl, rfl, rfl, by simp [World.setCell], hk, hnil, hne⟩
  · refine (Any.Builder_copyCheck_used L X.toX72 b w (by rw [Lib.cell_of_heap hbk]; rfl)).mono ?_
    rintro e w' ⟨rfl, rfl⟩
    exact ⟨rfl, hbk, hown, rfl, rfl, rfl, rfl, fun _ _ => rfl, hnil, hne⟩
set_option maxHeartbeats 2000000 in
set_option maxRecDepth 100000 in
theorem Any.Bld_WriteString (L : Lays.n166 P ρ) (X : Builder.Extra P ρ) (b : Nat) (u : Value) (bs : List Value) (s : ByteArray) (w : World) (h : Lib.Bld (ρ.t 72) (ρ.t 5) b u bs w) (hlen : bs.length + s.size ≤ 140737488355328) :
    Calls P (ρ.f 166) #[.pointer (some ⟨b, 0, none⟩), .string s] w fun e w' => e = .returned (.tuple #[.int .i64 s.size, .nilIface]) ∧ ∃ u', Lib.Bld (ρ.t 72) (ρ.t 5) b u' (bs ++ Lib.strCells s) w' ∧ Lib.BldFr b u u' w w' := by
  obtain ⟨i0, hi, hz0, hz1, hz2⟩ := info_parts X.infoByte
  have mixed := L.mixed
  have t72 := L.t72; have a72 := L.a72; have z72 := L.z72; have v72 := L.v72; have u72 := run_underlying L.t72
  have t70 := L.t70; have a70 := L.a70; have z70 := L.z70; have v70 := L.v70; have u70 := run_underlying L.t70
  have t37 := L.t37; have a37 := L.a37; have z37 := L.z37; have v37 := L.v37; have u37 := run_underlying L.t37
  have t3 := L.t3; have a3 := L.a3; have z3 := L.z3; have v3 := L.v3; have u3 := run_underlying L.t3
  have t9 := L.t9; have a9 := L.a9; have z9 := L.z9; have v9 := L.v9; have u9 := run_underlying L.t9
  have t4 := L.t4; have a4 := L.a4; have z4 := L.z4; have v4 := L.v4; have u4 := run_underlying L.t4
  have t164 := L.t164; have a164 := L.a164; have z164 := L.z164; have v164 := L.v164; have u164 := run_underlying L.t164
  have t5 := X.t5; have a5 := X.a5; have z5 := X.z5; have v5 := X.v5; have u5 := run_underlying X.t5
  have e240 : ∀ args w, (callFunc (ρ.f 240) args).run P w = .ok (.enter (ρ.f 240) args) w := enters_of L.f240 (by kernel_rfl) rfl
  go_enter L.f166, Body.n166_ntmps ρ
  go_wp2_with (go_at_fn (ρ.f 240); refine (Any.Bld_copyCheck { L with } X b u bs _ h).mono ?_)
  rintro e w1 ⟨rfl, H1⟩
  have hbk := H1.hb
  have hown := H1.own
  have c0 : w1.cell? ⟨b, 0, none⟩ = some (.pointer (some ⟨b, 0, none⟩)) := by rw [Lib.cell_of_heap hbk]; rfl
  have c1 : w1.cell? ⟨b, 1, none⟩ = some u := by rw [Lib.cell_of_heap hbk]; rfl
  go_wp2_with (at_builtin; refine Lib.wpList_append_own_stringF_at _ rfl _ _ (ρ.t 37) (ρ.t 9) rfl (ρ.t 5) i0 L.t37 L.t9 hi hz0 hz1 hz2 _ _ _ rfl hown s rfl ?c3 ?c4 ?_)
  case c3 => unfold maxLen; omega
  case c4 => omega
  intro v' w2 hown' hgrow hnl hat
  have hlt : b < w1.heap.size := (Array.getElem?_eq_some_iff.1 hbk).1
  have hb2 : w2.heap[b]? = some (.cells #[.pointer (some ⟨b, 0, none⟩), u] (ρ.t 72) (0, 0)) := by
    rw [hgrow.block b hlt (fun e => H1.ne e.symm)]
    exact hbk
  have d0 : w2.cell? ⟨b, 0, none⟩ = some (.pointer (some ⟨b, 0, none⟩)) := by rw [Lib.cell_of_heap hb2]; rfl
  have d1 : w2.cell? ⟨b, 1, none⟩ = some u := by rw [Lib.cell_of_heap hb2]; rfl
  have f1 : w2.frozen? ⟨b, 1, none⟩ = false := Lib.frozen_of_heap hb2 1
  obtain ⟨ao, n', cap, rfl⟩ : ∃ ao n' cap, v' = .slice ao n' cap := by
    rcases hown'.2 with ⟨hv, _⟩ | ⟨g, cap, cur, fz, hv, _⟩
    · exact ⟨_, _, _, hv⟩
    · exact ⟨_, _, _, hv⟩
  have HN := Lib.Asid.mk (And.intro hnl hat)
  clear hnl hat
  go_wp2
  go_ret2
  obtain ⟨hnl, hat⟩ := HN.out
  have hlen' : (bs ++ Lib.strCells s).length = bs.length + s.size := by rw [List.length_append, Lib.strCells_length]
  obtain ⟨_, v2, hb3, hown3, _⟩ := Lib.BuilderAtF.put (T := (ρ.t 72)) (e := (ρ.t 5)) (B := 0) (Nat.zero_le b) hb2 (bs' := bs ++ Lib.strCells s) (by rw [hlen']; exact hown') X.neB5
  have hb4 : (w2.setCell ⟨b, 1, none⟩ (.slice ao n' cap)).heap[b]? = some (.cells #[.pointer (some ⟨b, 0, none⟩), .slice ao n' cap] (ρ.t 72) (0, 0)) := by simp [World.setCell, Array.getElem?_modify, hb2]
  rw [hb4] at hb3
  have ev : v2 = .slice ao n' cap := by simp at hb3; exact hb3.symm
  subst ev
  have hsz := H1.size
  refine ⟨rfl, _, ⟨_, hb4, .inr rfl, hown3, fun he => ?_⟩, ⟨hgrow.os.trans H1.os, hgrow.tape.trans H1.tape, hgrow.output.trans H1.output, ?_, fun k hk hkb hku => ?_, fun g hg => ?_⟩⟩
  · have h1 : bs = [] ∧ Lib.strCells s = [] := List.append_eq_nil_iff.1 he
    have hs0 : s.size = 0 := by rw [← Lib.strCells_length, h1.2]; rfl
    exact hnl.2 ⟨H1.nil h1.1, by first | exact hs0 | simpa using hs0⟩
  · have := hgrow.size
    simp only [World.setCell, Array.size_modify]
    omega
  · rw [Below.heap_setCell _ _ _ _ hkb, hgrow.block k (by omega) (fun e => hku e.symm), H1.keep k hkb]
  · rcases hat g hg with h | h
    · exact .inl h
    · exact .inr (by omega)
set_option maxHeartbeats 2000000 in
set_option maxRecDepth 100000 in
theorem Any.Bld_String (L : Lays.n169 P ρ) (X : Builder.Extra P ρ) (b : Nat) (u : Value) (l : List UInt8) (w : World) (h : Lib.Bld (ρ.t 72) (ρ.t 5) b u (Lib.byteCells l) w) :
    Calls P (ρ.f 169) #[.pointer (some ⟨b, 0, none⟩)] w fun e w' => e = .returned (.string ⟨l.toArray⟩) ∧ Lib.BldFr b u (.slice none 0 0) w w' := by
  obtain ⟨p, hbk, hp, hown, hnil⟩ := h
  have hUS0 := Any.unsafeString_none L X
  have mixed := L.mixed
  have t72 := L.t72; have a72 := L.a72; have z72 := L.z72; have v72 := L.v72; have u72 := run_underlying L.t72
  have t70 := L.t70; have a70 := L.a70; have z70 := L.z70; have v70 := L.v70; have u70 := run_underlying L.t70
  have t37 := L.t37; have a37 := L.a37; have z37 := L.z37; have v37 := L.v37; have u37 := run_underlying L.t37
  have t127 := L.t127; have a127 := L.a127; have z127 := L.z127; have v127 := L.v127; have u127 := run_underlying L.t127
  have t3 := L.t3; have a3 := L.a3; have z3 := L.z3; have v3 := L.v3; have u3 := run_underlying L.t3
  have t9 := L.t9; have a9 := L.a9; have z9 := L.z9; have v9 := L.v9; have u9 := run_underlying L.t9
  have t5 := X.t5; have a5 := X.a5; have z5 := X.z5; have v5 := X.v5; have u5 := run_underlying X.t5
  by_cases h0 : l = []
  · subst h0
    obtain rfl := hnil rfl
    have c1 : w.drew.cell? ⟨b, 1, none⟩ = some (.slice none 0 0) := by
      have : w.drew.heap[b]? = some (.cells #[p, .slice none 0 0] (ρ.t 72) (0, 0)) := hbk
      rw [Lib.cell_of_heap this]; rfl
    have hUS := hUS0
    have hSD : (Builtin.unsafeSliceData_ #[(ρ.t 37)] (ρ.t 127) #[.slice none 0 0]).run P w.drew = .ok (.pointer none) w.drew := rfl
    go_enter L.f169, Body.n169_ntmps ρ
    go_wp2
    go_region_o
    all_goals (go_wp2; go_ret; exact ⟨rfl, ⟨rfl, rfl, rfl, Nat.le_refl _, fun _ _ _ _ => rfl, fun g hg => by simp [Value.ownBlock] at hg⟩⟩)
  · have hl0 : l.length ≠ 0 := by simpa using h0
    rw [Lib.byteCells_length] at hown
    obtain ⟨g, cap, cur, fz, rfl, hbg, hg, hfz, hnc, hcm, hcs, htake⟩ : ∃ g cap cur fz, u = .slice (some ⟨g, 0, none⟩) l.length cap ∧ 0 ≤ g ∧ w.heap[g]? = some (.cells cur (ρ.t 5) fz) ∧ fz.2 ≤ l.length * 1 ∧ l.length ≤ cap ∧ cap ≤ maxLen ∧ cur.size = cap * 1 ∧ cur.toList.take (l.length * 1) = Lib.byteCells l := by
      rcases hown.2 with ⟨_, hz⟩ | ⟨g, cap, cur, fz, hv, r⟩
      · exact absurd hz hl0
      · exact ⟨g, cap, cur, fz, hv, r⟩
    have c1 : w.drew.cell? ⟨b, 1, none⟩ = some (.slice (some ⟨g, 0, none⟩) l.length cap) := by
      have : w.drew.heap[b]? = some (.cells #[p, .slice (some ⟨g, 0, none⟩) l.length cap] (ρ.t 72) (0, 0)) := hbk
      rw [Lib.cell_of_heap this]; rfl
    have hSD : (Builtin.unsafeSliceData_ #[(ρ.t 37)] (ρ.t 127) #[.slice (some ⟨g, 0, none⟩) l.length cap]).run P w.drew = .ok (.pointer (some ⟨g, 0, none⟩)) w.drew :=
      Lib.run_unsafeSliceData_row _ _ _ _ _ _ (by omega)
    have hUS : (Builtin.unsafeString_ #[(ρ.t 127), (ρ.t 3)] (ρ.t 9) #[.pointer (some ⟨g, 0, none⟩), .int .i64 l.length]).run P w.drew = .ok (.string ⟨l.toArray⟩) (w.drew.freeze ⟨g, 0, none⟩ l.length) := by
      refine Lib.run_unsafeString_row w.drew (ρ.t 127) (ρ.t 3) (ρ.t 9) (ρ.t 5) L.t127 X.cellsByte g cur.size (by have hg' : w.drew.heap[g]? = some (.cells cur (ρ.t 5) fz) := hg; simp [World.shape?, hg']) l h0 (by omega) (by unfold maxLen at hcm; omega) ?_
      intro j x hx
      have := hown.cells (g := g) rfl j (.int .u8 x.toNat) (by simp [Lib.byteCells, hx])
      exact this
    have hfrz : ∀ k, k ≠ g → (w.drew.freeze ⟨g, 0, none⟩ l.length).heap[k]? = w.heap[k]? := fun k hk => by
      unfold World.freeze
      rw [if_neg hl0]
      simp only [Array.getElem?_modify]
      rw [if_neg (fun e => hk e.symm)]
      rfl
    have hfo : (w.drew.freeze ⟨g, 0, none⟩ l.length).os = w.os ∧ (w.drew.freeze ⟨g, 0, none⟩ l.length).tape = w.tape ∧ (w.drew.freeze ⟨g, 0, none⟩ l.length).output = w.output ∧ (w.drew.freeze ⟨g, 0, none⟩ l.length).heap.size = w.heap.size := by
      unfold World.freeze
      rw [if_neg hl0]
      refine ⟨rfl, rfl, rfl, ?_⟩
      simp only [Array.size_modify]
      rfl
    have hfin : Lib.BldFr b (.slice (some ⟨g, 0, none⟩) l.length cap) (.slice none 0 0) w (w.drew.freeze ⟨g, 0, none⟩ l.length) :=
      ⟨hfo.1, hfo.2.1, hfo.2.2.1, Nat.le_of_eq hfo.2.2.2.symm, fun k _ _ hku => hfrz k (fun e => hku (by simp [Value.ownBlock, e])), fun g' hg' => by simp [Value.ownBlock] at hg'⟩
    go_enter L.f169, Body.n169_ntmps ρ
    go_wp2
    go_region_o
    all_goals (go_wp2; go_ret; exact ⟨rfl, hfin⟩)
end Go.Proofs


namespace Go.GK
open Go.RowKit

/-- A call on a packed thing whose first block is pointed to, and on values. -/
theorem Hf.abs {p : Pg} {f : FuncId} {vs : List Value} {A : Abs} {R : Abs → Prop} {r : Value} (hc : ∀ xs w, (callFunc f xs).run p.P w = .ok (.enter f xs) w)
    (h : ∀ ro b v w, A.P ro b v w → Calls p.P f (.pointer (some ⟨b, 0, none⟩) :: vs).toArray w fun e w' => e = .returned r ∧ ∃ A', R A' ∧ A'.P ro b v w' ∧ A'.fp.Nodup ∧ (∀ g ∈ A'.fp, g ∈ A.fp ∨ w.heap.size ≤ g) ∧
      w'.os = w.os ∧ w'.tape = w.tape ∧ w'.output = w.output ∧ w.heap.size ≤ w'.heap.size ∧ ∀ k, k < w.heap.size → k ∉ A.fp → w'.heap[k]? = w.heap[k]?) :
    Hf p f 1 (.p 0 0 :: vs.map .v) [(0, .ab A)] fun g σ n => g = .v r ∧ (∃ A', R A' ∧ σ = [(0, .ab A')]) ∧ n = 1 := by
  refine ⟨hc, fun H us w hn hg hcs hs => ?_⟩
  obtain ⟨hl, hi⟩ := hcs
  have hu : us = (.pointer (some ⟨H.bl 0, 0, none⟩) :: vs).toArray := by
    refine Array.ext (by simpa using hl.symm) (fun i h1 h2 => ?_)
    have eg : us.getD i undef = us[i] := by rw [Array.getD, dif_pos h1]; rfl
    cases i with
    | zero =>
      have := (hi 0 (.p 0 0) rfl).inv_p
      rw [eg] at this
      simpa using this.1
    | succ i =>
      have h2' : i < vs.length := by simpa using h2
      have := (hi (i + 1) (.v vs[i]) (by simp [h2'])).inv_v
      rw [eg] at this
      simpa using this
  subst hu
  have hA := hs.holds (0, .ab A) (by simp)
  have hid : (0 : Nat) < H.n := hs.ids (0, .ab A) (by simp)
  refine Calls.mono (h H.ro (H.bl 0) (H.sv 0) w hA) (fun e w' he => ?_)
  obtain ⟨rfl, A', hR, hP, hnd, hown, h1, h2, h3, h4, h5⟩ := he
  have hfree : ∀ b ∈ A.fp, H.ro b = none := fun b hb => hs.free b (by simpa [blks, blocks] using hb)
  refine ⟨r, .v r, H, [(0, .ab A')], rfl, .ro (.v r), ⟨fun b o hr => ?_, ?_, by simpa [blks, blocks] using hnd, fun b hb => ?_, by simpa using hid⟩, ?_, rfl, ⟨A', hR, rfl⟩, hn⟩
  · have ho := hs.ro b o hr
    rw [h5 b (Array.getElem?_eq_some_iff.1 ho).1 (fun hb => by rw [hfree b hb] at hr; cases hr)]
    exact ho
  · intro y hy
    simp only [List.mem_singleton] at hy
    subst hy
    exact hP
  · have hb' : b ∈ A'.fp := by simpa [blks, blocks] using hb
    rcases hown b hb' with h | h
    · exact hfree b h
    · exact hs.none_size b h
  · refine ⟨h1, h2, h3, h4, fun b hb hb2 => h5 b hb (fun hm => hb2 (by simpa [blks, blocks] using hm)), fun b hb => ?_, fun b h1 h2 => (h2 h1).elim, Hid.le.refl H⟩
    have hb' : b ∈ A'.fp := by simpa [blks, blocks] using hb
    rcases hown b hb' with h | h
    · exact .inl (by simpa [blks, blocks] using h)
    · exact .inr h
/-- .. that is of no use any more. -/
theorem Hf.abs0 {p : Pg} {f : FuncId} {vs : List Value} {A : Abs} {r : Value} (hc : ∀ xs w, (callFunc f xs).run p.P w = .ok (.enter f xs) w)
    (h : ∀ ro b v w, A.P ro b v w → Calls p.P f (.pointer (some ⟨b, 0, none⟩) :: vs).toArray w fun e w' => e = .returned r ∧
      w'.os = w.os ∧ w'.tape = w.tape ∧ w'.output = w.output ∧ w.heap.size ≤ w'.heap.size ∧ ∀ k, k < w.heap.size → k ∉ A.fp → w'.heap[k]? = w.heap[k]?) :
    Hf p f 1 (.p 0 0 :: vs.map .v) [(0, .ab A)] fun g σ n => g = .v r ∧ σ = [] ∧ n = 1 := by
  let E : Abs := ⟨fun _ _ _ _ => True, [], fun _ _ _ _ _ c hc => (List.not_mem_nil hc).elim, fun _ _ _ _ _ _ h => h, fun _ _ _ _ _ _ h => h⟩
  have key := Hf.abs (p := p) (vs := vs) (A := A) (R := fun _ => True) (r := r) hc fun ro b v w hP => (h ro b v w hP).mono fun e w' ⟨h1, h2, h3, h4, h5, h6⟩ => ⟨h1, E, trivial, trivial, by simp [E], by simp [E], h2, h3, h4, h5, h6⟩
  refine key.weak fun g σ' n' ⟨h1, _, h3⟩ => ⟨id, g, [], 1, ⟨h1, rfl, rfl⟩, (ren_id g).symm, trivial, ?_⟩
  subst h1
  rfl

/-- A strings.Builder that holds these bytes. -/
def bld (T e : TypeId) (bs : List Value) (fp : List Nat) : Abs where
  P := fun _ b _ w => ∃ u, Lib.Bld T e b u bs w ∧ T ≠ e ∧ fp = b :: u.ownBlock.toList
  fp := fp
  ex := fun ro b v w h c hc => by
    obtain ⟨u, ⟨p, hb, hp, hown, _⟩, hne, rfl⟩ := h
    rcases List.mem_cons.1 hc with rfl | hc
    · exact (Array.getElem?_eq_some_iff.1 hb).1
    · exact (hown.lt c (by simpa using hc)).2
  congr := fun ro b v w w' hw h => by
    obtain ⟨u, ⟨p, hb, hp, hown, hnil⟩, hne, rfl⟩ := h
    refine ⟨u, ⟨p, (hw b (by simp)).trans hb, hp, ?_, hnil⟩, hne, rfl⟩
    refine ⟨hown.1, ?_⟩
    rcases hown.2 with h | ⟨g, cap, cur, fz, hv, h0, hg, r⟩
    · exact .inl h
    · exact .inr ⟨g, cap, cur, fz, hv, h0, (hw g (by simp [hv, Value.ownBlock])).trans hg, r⟩
  mono := fun ro ro' b v w _ h => h

theorem bld_nodup {T e : TypeId} {b : Nat} {u : Value} {bs : List Value} {w : World} (h : Lib.Bld T e b u bs w) (hne : T ≠ e) : (b :: u.ownBlock.toList).Nodup := by
  obtain ⟨p, hb, _, hown, _⟩ := h
  have := Lib.ownBlock_neF hown hb hne
  cases hu : u.ownBlock with
  | none => simp
  | some g =>
    rw [hu] at this
    simp only [Option.toList_some, List.nodup_cons, List.mem_singleton, List.not_mem_nil, not_false_eq_true, List.nodup_nil, and_true]
    exact fun e => this (by rw [e])
section
variable {cx : Cx} {T : Post}
/-- A fresh builder. -/
theorem JK.bld {k : List It} {s : St} (id : Nat) {ty e : TypeId} (hne : ty ≠ e) (hl : hlook s.σ id = some (.blk ty [.v (.pointer none), .v (.slice none 0 0)]))
    (h : ∀ fp, nfH (hset s.σ id (.ab (GK.bld ty e [] fp))) fun σ => JK cx T k ⟨s.ρ, σ, s.n⟩) : JK cx T k s := by
  intro H a w hg hs ha
  have hk := h [H.bl id]
  rw [nfH_eq] at hk
  refine hk H a w hg ?_ ha
  obtain ⟨us, hw, hlen, hi⟩ := hs.sat.holds _ (hlook_mem hl)
  have hus : us = #[.pointer none, .slice none 0 0] := by
    have := cells_vals (vs := [.pointer none, .slice none 0 0]) (us := us) ⟨hlen, hi⟩
    simpa using this
  subst hus
  exact hs.put (y := .ab (GK.bld ty e [] [H.bl id])) (w' := w) hl rfl rfl rfl rfl (Nat.le_refl _) (fun _ _ _ => rfl)
    ⟨.slice none 0 0, ⟨.pointer none, hw, .inl rfl, World.ownsRowF_nil w 0 e 1, fun _ => rfl⟩, hne, rfl⟩ s.ρ
end
open Go.Shelf Go.Proofs in
theorem bld_writeString {p : Pg} {ρ : Ren} (L : Lays.n166 p.P ρ) (X : Builder.Extra p.P ρ) (hc : ∀ xs w, (callFunc (ρ.f 166) xs).run p.P w = .ok (.enter (ρ.f 166) xs) w) (bs : List Value) (fp : List Nat) (s : ByteArray) (hlen : bs.length + s.size ≤ 140737488355328) :
    Hf p (ρ.f 166) 1 [.p 0 0, .v (.string s)] [(0, .ab (bld (ρ.t 72) (ρ.t 5) bs fp))] fun g σ n => g = .v (.tuple #[.int .i64 s.size, .nilIface]) ∧ (∃ fp', σ = [(0, .ab (bld (ρ.t 72) (ρ.t 5) (bs ++ Lib.strCells s) fp'))]) ∧ n = 1 := by
  have key := Hf.abs (p := p) (vs := [.string s]) (A := bld (ρ.t 72) (ρ.t 5) bs fp) (R := fun A' => ∃ fp', A' = bld (ρ.t 72) (ρ.t 5) (bs ++ Lib.strCells s) fp') (r := .tuple #[.int .i64 s.size, .nilIface]) hc fun ro b v w hP => by
    obtain ⟨u, hB, hne, rfl⟩ := hP
    refine (Any.Bld_WriteString L X b u bs s w hB hlen).mono fun e w' ⟨h1, u', hB', hF⟩ => ?_
    refine ⟨h1, bld (ρ.t 72) (ρ.t 5) (bs ++ Lib.strCells s) (b :: u'.ownBlock.toList), ⟨_, rfl⟩, ⟨u', hB', hne, rfl⟩, bld_nodup hB' hne, fun g hg => ?_, hF.os, hF.tape, hF.output, hF.size, fun k hk hm => ?_⟩
    · rcases List.mem_cons.1 hg with rfl | hg
      · exact .inl (List.mem_cons_self)
      · rcases hF.own g (by simpa using hg) with h | h
        · exact .inl (List.mem_cons_of_mem _ (by simp [h]))
        · exact .inr h
    · exact hF.keep k hk (fun e => hm (by rw [e]; exact List.mem_cons_self)) (fun e => hm (List.mem_cons_of_mem _ (by simp [e])))
  refine key.weak fun g σ' n' ⟨h1, ⟨A', ⟨fp', hA⟩, h3⟩, h4⟩ => ?_
  subst h1 h3 h4 hA
  exact ⟨id, _, _, 1, ⟨rfl, ⟨fp', rfl⟩, rfl⟩, rfl, ⟨rfl, trivial⟩, rfl⟩
open Go.Shelf Go.Proofs in
theorem bld_string {p : Pg} {ρ : Ren} (L : Lays.n169 p.P ρ) (X : Builder.Extra p.P ρ) (hc : ∀ xs w, (callFunc (ρ.f 169) xs).run p.P w = .ok (.enter (ρ.f 169) xs) w) (l : List UInt8) (fp : List Nat) :
    Hf p (ρ.f 169) 1 [.p 0 0] [(0, .ab (bld (ρ.t 72) (ρ.t 5) (Lib.byteCells l) fp))] fun g σ n => g = .v (.string ⟨l.toArray⟩) ∧ σ = [] ∧ n = 1 :=
  Hf.abs0 (p := p) (vs := []) hc fun ro b v w hP => by
    obtain ⟨u, hB, hne, rfl⟩ := hP
    exact (Any.Bld_String L X b u l w hB).mono fun e w' ⟨h1, hF⟩ => ⟨h1, hF.os, hF.tape, hF.output, hF.size, fun k hk hm => hF.keep k hk (fun e => hm (by rw [e]; exact List.mem_cons_self)) (fun e => hm (List.mem_cons_of_mem _ (by simp [e])))⟩

section
variable {cx : Cx} {T : Post}
/-- A call with own things, within a region that draws its order. -/
theorem RA.goH {ops : List Oper} {k : List It} {σs : Heap} {ρq : Env} {fuel : Nat} {listed : List Bool} {s : St} (i : Nat) (order : List (Nat × Bool)) (e : Bool) {o : Oper} {f : FuncId} {n0 : Nat} {cargs gs : List GV} {σc : Heap} {Q : GV → Heap → Nat → Prop} (hp : cx.pg.Ok) (hsel : Region.noSelect ops.toArray = true) (hT : ∀ ch s, ¬ T (.panic ch) s) (hr : Hf cx.pg f n0 cargs σc Q) (r : Nat → Nat) (hi : ops[i]? = some o) (hk : callG cx.pg ops s.ρ o = some (f, gs)) (hargs : gs = renL r cargs) (hσ : leσ r σc s.σ)
    (chk : (idbL n0 cargs && idbH n0 σc && distB (hids r σc)) = true) (hrn : ∀ i, i < n0 → r i < s.n)
    (hB : (eqB (Region.ready .any ops.toArray listed.toArray) [i] && ordB ops e order (listed.set i true)) = true)
    (h : ∀ g σ' n', Q g σ' n' → nf (ren (sh r n0 s.n) g) fun g => nfH (renH (sh r n0 s.n) σ' ++ hrest (hids r σc) s.σ) fun σ => nfN (s.n + (n' - n0)) fun n => nfE (qput ρq o.dst g) fun ρq => dputV cx.N s.ρ o.dst g fun ρ' => rvc cx T ops k σs e order fuel (listed.set i true) ρq ⟨ρ', σ, n⟩) : RA cx T ops k σs ρq (fuel + 1) listed s := by
  obtain ⟨fo, args, ts, first, caps, gs', ho', hgd, hf, he, hargs'⟩ := callG_spec hk
  simp only [Bool.and_eq_true] at hB
  refine RA.call (n0 := n0) (r := r) (σc := σc) i hr.ct hr.call hi (eqB_eq hB.1) hgd ho' hf he (hargs'.trans hargs) hσ chk hrn ?_
  intro g σ' n' hq
  have := h g σ' n' hq
  rw [nf_eq, nfH_eq, nfN_eq, nfE_eq] at this ⊢
  revert this
  cases o.dst with
  | none => exact fun h => RA.run hp hsel hT order hB.2 h
  | some d =>
    simp only [dputV, dput]
    cases Nat.blt d cx.N with
    | false => exact fun h => h
    | true => simp only [cond_true, nf_eq]; exact fun h => RA.run hp hsel hT order hB.2 h
end
end Go.GK
