/-
  Plain laws: how many files there are, and how long their names; the document's names; no program is in sight.
-/
import Derived.Test.YtdongnbkfgipdaaPRel
import Derived.Test.YtdongnbkfgipdaaPDisk2
namespace Go.PL
open Go Go.GK
/-- What is known ahead of the round i. -/
structure PSt (i : Nat) (d : Dk) : Prop where
  ok : d.ok (200 * i)
  nm : ∀ y ∈ d.L, ∃ s, y.1 = ks s ∧ s.size ≤ 60
  len : d.L.length ≤ i
theorem PSt.mono {i j : Nat} {d : Dk} (h : PSt i d) (hij : i ≤ j) : PSt j d := ⟨h.ok.mono (by omega), h.nm, by have := h.len; omega⟩
theorem pput_len {α : Type} (k : Value) (x : α) : ∀ l : List (Value × α), (pput k x l).length ≤ l.length + 1
  | [] => Nat.le_refl 1
  | (q, z) :: r => by
    show (if vkey k q = true then (k, x) :: r else (q, z) :: pput k x r).length ≤ _
    split
    · simp
    · simp only [List.length_cons]
      have := pput_len k x r
      omega
theorem pdel_len {α : Type} (k : Value) : ∀ l : List (Value × α), (pdel k l).length ≤ l.length
  | [] => Nat.le_refl 0
  | (q, z) :: r => by
    show (if vkey k q = true then r else (q, z) :: pdel k r).length ≤ _
    split
    · simp
    · simp only [List.length_cons]
      have := pdel_len k r
      omega
theorem badN_sz {f : ByteArray} (h : badN f = false) : f.size ≤ 60 := by
  unfold badN at h
  rw [Bool.or_eq_false_iff] at h
  have := of_decide_eq_false h.2
  omega
theorem PSt.append {i : Nat} {d : Dk} (h : PSt i d) (f s : ByteArray) (hs : s.size ≤ 200) : PSt (i + 1) (appendF f s d).2 := by
  refine ⟨(appendF_ok h.ok f s).mono (by omega), fun y hy => ?_, ?_⟩
  · unfold appendF at hy
    split at hy
    · exact h.nm y hy
    · rename_i hb
      split at hy
      · split at hy
        all_goals
          rcases pput_mem y hy with rfl | hy
          · exact ⟨f, rfl, badN_sz (by simpa using hb)⟩
          · exact h.nm y hy
      · exact h.nm y hy
  · have hl := h.len
    unfold appendF
    split
    · exact Nat.le_succ_of_le hl
    · split
      · split
        all_goals
          exact Nat.le_trans (pput_len _ _ d.L) (by omega)
      · exact Nat.le_succ_of_le hl
theorem PSt.sync {i : Nat} {d : Dk} (h : PSt i d) (f : ByteArray) : PSt (i + 1) (syncF f d).2 := by
  refine ⟨(syncF_ok h.ok f).mono (by omega), fun y hy => ?_, ?_⟩
  · unfold syncF at hy
    split at hy
    · exact h.nm y hy
    · rename_i x hf
      split at hy
      · rcases pput_mem y hy with rfl | hy
        · exact h.nm _ (fnd_mem h.ok hf) |> fun ⟨s, e, hs⟩ => ⟨s, e, hs⟩
        · exact h.nm y hy
      · exact h.nm y hy
  · have hl := h.len
    unfold syncF
    split
    · exact Nat.le_succ_of_le hl
    · split
      · exact Nat.le_trans (pput_len _ _ d.L) (by omega)
      · exact Nat.le_succ_of_le hl
theorem PSt.remove {i : Nat} {d : Dk} (h : PSt i d) (f : ByteArray) : PSt (i + 1) (removeF f d).2 := by
  refine ⟨(removeF_ok h.ok f).mono (by omega), fun y hy => ?_, ?_⟩
  · unfold removeF at hy
    split at hy
    · exact h.nm y hy
    · split at hy
      · exact h.nm y (pdel_mem y hy)
      · exact h.nm y hy
  · have hl := h.len
    unfold removeF
    split
    · exact Nat.le_succ_of_le hl
    · split
      · exact Nat.le_trans (pdel_len _ d.L) (by omega)
      · exact Nat.le_succ_of_le hl
theorem PSt.move {i : Nat} {d : Dk} (h : PSt i d) (f t : ByteArray) : PSt (i + 1) (moveF f t d).2 := by
  refine ⟨(moveF_ok h.ok f t).mono (by omega), fun y hy => ?_, ?_⟩
  · unfold moveF at hy
    split at hy
    · exact h.nm y hy
    · rename_i hb
      split at hy
      · exact h.nm y hy
      · split at hy
        · rcases pput_mem y hy with rfl | hy
          · exact ⟨t, rfl, badN_sz (by simpa using hb)⟩
          · exact h.nm y (pdel_mem y hy)
        · exact h.nm y hy
  · have hl := h.len
    unfold moveF
    split
    · exact Nat.le_succ_of_le hl
    · split
      · exact Nat.le_succ_of_le hl
      · split
        · refine Nat.le_trans (pput_len _ _ (pdel (ks f) d.L)) ?_
          have := pdel_len (ks f) d.L
          omega
        · exact Nat.le_succ_of_le hl
theorem PSt.cut {i : Nat} {d : Dk} (h : PSt i d) (n : Int) (hn : n ≤ 9223372036854775807) : PSt (i + 1) (cutF n d) := by
  refine ⟨⟨h.ok.keys, h.ok.nd, fun y hy => ?_, h.ok.nl, ?_, ?_⟩, h.nm, ?_⟩
  · have := h.ok.sz y hy
    refine ⟨by omega, this.2⟩
  · show 0 ≤ (if 0 > n then 0 else n)
    split <;> omega
  · show (if 0 > n then 0 else n) ≤ _
    split <;> omega
  · have := h.len
    show d.L.length ≤ _
    omega
theorem PSt.start {i : Nat} {d : Dk} (h : PSt i d) (n : Int) : PSt (i + 1) (startF n d) := by
  refine ⟨(startF_ok h.ok).mono (by omega), fun y hy => ?_, ?_⟩
  · obtain ⟨x, hx, _⟩ := startF_mem hy
    exact h.nm (y.1, x) hx
  · have := h.len
    refine Nat.le_trans (List.length_filterMap_le _ _) ?_
    omega
theorem Rel.cut {d : Dk} {F : List (Value × Fl)} {left : Int} (h : Rel d F left) (n : Int) : Rel (cutF n d) F (if -1 > n then -1 else n) := by
  refine ⟨h.keys, h.nd, h.fd, ?_⟩
  by_cases hn : n ≥ 0
  · refine .inr ⟨decide_eq_true hn, ?_⟩
    show _ = (if 0 > n then 0 else n)
    rw [if_neg (by omega), if_neg (by omega)]
  · refine .inl ⟨decide_eq_false hn, ?_⟩
    split <;> omega
/-- The document's names are the disk's. -/
theorem Rel.perm {d : Dk} {B : Nat} {F : List (Value × Fl)} {left : Int} (h : Rel d F left) (hok : d.ok B) : (F.map (·.1)).Perm (d.L.map (·.1)) := by
  refine (List.perm_ext_iff_of_nodup h.nd hok.nd).2 fun q => ?_
  have hk1 : ∀ f, ks f ∈ F.map (·.1) ↔ pfind (ks f) F ≠ none := fun f => by
    rw [Ne, pfind_none rfl h.keys]; simp
  have hk2 : ∀ f, ks f ∈ d.L.map (·.1) ↔ pfind (ks f) d.L ≠ none := fun f => by
    rw [Ne, pfind_none rfl hok.keys]; simp
  have key : ∀ L : List (Value × Fl), (∀ y ∈ L, sortB none y.1 = true) → q ∈ L.map (·.1) → ∃ f, q = ks f := fun L hL hq => by
    obtain ⟨y, hy, rfl⟩ := List.mem_map.1 hq
    have := hL y hy
    obtain ⟨q, x⟩ := y
    cases q with
    | string f => exact ⟨f, rfl⟩
    | _ => cases this
  constructor
  · intro hq
    obtain ⟨f, rfl⟩ := key F h.keys hq
    rw [hk2, show pfind (ks f) d.L = pfind (ks f) F from (h.fd f).symm]
    exact (hk1 f).1 hq
  · intro hq
    obtain ⟨f, rfl⟩ := key d.L hok.keys hq
    rw [hk1, h.fd f]
    exact (hk2 f).1 hq
end Go.PL
