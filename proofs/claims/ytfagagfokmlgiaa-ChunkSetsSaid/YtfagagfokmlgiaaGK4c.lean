/-
  The ghost machine: an own row is written to.
-/
import Derived.Test.YtfagagfokmlgiaaGK4b
namespace Go.GK
open Go.RowKit

theorem idbL_get {n : Nat} : ∀ {l : List GV}, idbL n l = true → ∀ {j : Nat} {g : GV}, l[j]? = some g → idb n g = true
  | [], _, j, g, hj => by simp at hj
  | x :: r, h, 0, g, hj => by simp [idbL] at h; simp at hj; subst hj; exact h.1
  | x :: r, h, j + 1, g, hj => by simp [idbL] at h; exact idbL_get h.2 (by simpa using hj)

theorem splice_get {α : Type} (l vs : List α) (a k : Nat) (h : a + vs.length ≤ l.length) : (l.take a ++ vs ++ l.drop (a + vs.length))[k]? = if a ≤ k ∧ k < a + vs.length then vs[k - a]? else l[k]? := by
  have e1 : (l.take a).length = a := by simp; omega
  by_cases h1 : k < a
  · rw [if_neg (by omega), List.append_assoc, List.getElem?_append_left (by omega), List.getElem?_take, if_pos h1]
  · by_cases h2 : k < a + vs.length
    · rw [if_pos ⟨by omega, h2⟩, List.getElem?_append_left (by simp; omega), List.getElem?_append_right (by omega), e1]
    · rw [if_neg (by omega), List.getElem?_append_right (by simp; omega), List.getElem?_drop]
      congr 1
      simp
      omega

theorem splice_len {α : Type} (l vs : List α) (a : Nat) (h : a + vs.length ≤ l.length) : (l.take a ++ vs ++ l.drop (a + vs.length)).length = l.length := by
  simp; omega

theorem splice_mem {α : Type} {l vs : List α} {a b : Nat} {x : α} (h : x ∈ l.take a ++ vs ++ l.drop b) : x ∈ l ∨ x ∈ vs := by
  rcases List.mem_append.1 h with h | h
  · rcases List.mem_append.1 h with h | h
    · exact .inl (List.mem_of_mem_take h)
    · exact .inr h
  · exact .inl (List.mem_of_mem_drop h)

theorem splice_take {α : Type} (l vs : List α) (a m : Nat) (h : a + vs.length ≤ m) (hm : m ≤ l.length) : (l.take a ++ vs ++ l.drop (a + vs.length)).take m = (l.take m).take a ++ vs ++ (l.take m).drop (a + vs.length) := by
  refine List.ext_getElem? fun k => ?_
  rw [splice_get _ _ _ _ (by simp; omega), List.getElem?_take, splice_get _ _ _ _ (by omega), List.getElem?_take]
  by_cases h1 : a ≤ k ∧ k < a + vs.length
  · rw [if_pos h1, if_pos h1, if_pos (by omega)]
  · rw [if_neg h1, if_neg h1]

/-- A row is written to. -/
theorem Sim.storeRow {cx : Cx} {H : Hid} {s : St} {w : World} (h : Sim cx H s w) {id ty sz i off b n c : Nat} {rows : List (List GV)} {row gs : List GV} {vs : Array Value} (hl : hlook s.σ id = some (.row ty sz rows)) (hsv : H.sv id = .slice (some ⟨b, 0, none⟩) n c) (hi : rows[i]? = some row) (hg : Cells H gs vs)
    (hle : off + gs.length ≤ sz) (h1 : allOne gs = true) (h0 : idbL 0 gs = true) (ρ : Env) :
    ∃ w', (∀ P : Program, (storeCells ⟨b, i * sz + off, none⟩ vs.toList).run P w = .ok () w') ∧ Sim cx H { s with ρ := ρ, σ := hset s.σ id (.row ty sz (rows.set i (row.take off ++ gs ++ row.drop (off + gs.length)))) } w' := by
  obtain ⟨xs, ⟨hxl, hor⟩, hrow⟩ := h.sat.holds _ (hlook_mem hl)
  have hilt : i < rows.length := (List.getElem?_eq_some_iff.1 hi).1
  have hvl : vs.toList.length = gs.length := by simp [hg.1]
  have hrl : row.length = sz := hrow.each row (List.mem_of_getElem? hi)
  have hmul : i * sz + sz ≤ rows.length * sz := by
    have : (i + 1) * sz ≤ rows.length * sz := Nat.mul_le_mul_right _ hilt
    rwa [Nat.add_mul, Nat.one_mul] at this
  rcases hor with ⟨hn, _⟩ | ⟨g, cap, cur, hsl, hg0, hw, hcap, hmax, hcs, htk⟩
  · rw [hsv] at hn; cases hn
  · rw [hsv] at hsl
    simp only [Value.slice.injEq, Option.some.injEq, Addr.mk.injEq, and_true] at hsl
    obtain ⟨rfl, rfl, rfl⟩ := hsl
    have hcapmul : rows.length * sz ≤ c * sz := Nat.mul_le_mul_right _ hcap
    have hcl : cur.toList.length = c * sz := by simpa using hcs
    have hin : i * sz + off + vs.toList.length ≤ rows.length * sz := by omega
    refine ⟨w.setRow b (cur.toList.take (i * sz + off) ++ vs.toList ++ cur.toList.drop (i * sz + off + vs.toList.length)).toArray, fun P => ?_, ?_⟩
    · exact run_storeCells_at P b (i * sz + off) ty vs.toList 0 cur w hw (by simp only [Array.length_toList] at *; omega) (allOne_one hg h1)
    · refine h.put (y := .row ty sz (rows.set i (row.take off ++ gs ++ row.drop (off + gs.length)))) (w' := w.setRow b (cur.toList.take (i * sz + off) ++ vs.toList ++ cur.toList.drop (i * sz + off + vs.toList.length)).toArray) hl rfl rfl rfl rfl (by simp) (fun b' hb hn => ?_) ?_ ρ
      · exact setRow_other w _ b' _ (fun e => hn (by simp [blocks, hsv, Value.ownBlock, e]))
      · refine ⟨xs.take (i * sz + off) ++ vs.toList ++ xs.drop (i * sz + off + vs.toList.length), ⟨?_, .inr ⟨b, c, _, by rw [hsv, List.length_set], Nat.zero_le _, setRow_heap w _ cur _ ty (0, 0) hw, by rw [List.length_set]; exact hcap, hmax, ?_, ?_⟩⟩, ?_, fun r hr => ?_, fun i' r hr j g' hj => ?_, fun u hu => ?_⟩
        · rw [splice_len _ _ _ (by rw [hxl]; exact hin), List.length_set, hxl]
        · rw [← hcs, List.size_toArray, splice_len _ _ _ (by rw [hcl]; omega)]
          simp
        · rw [List.length_set, ← htk]
          show List.take _ (_ ++ _ ++ _) = _
          exact splice_take _ _ _ _ hin (by rw [hcl]; exact hcapmul)
        · rw [splice_len _ _ _ (by rw [hxl]; exact hin), List.length_set, hxl]
        · rcases List.mem_or_eq_of_mem_set hr with hr | rfl
          · exact hrow.each r hr
          · rw [splice_len _ _ _ (by rw [hrl]; exact hle), hrl]
        · rw [splice_get _ _ _ _ (by rw [hxl]; exact hin)]
          by_cases hii : i = i'
          · subst hii
            rw [List.getElem?_set_self hilt] at hr
            simp only [Option.some.injEq] at hr
            subst hr
            rw [splice_get _ _ _ _ (by rw [hrl]; exact hle)] at hj
            by_cases hjj : off ≤ j ∧ j < off + gs.length
            · rw [if_pos hjj] at hj
              rw [if_pos (by omega)]
              have := hg.2 _ _ hj
              have e : i * sz + j - (i * sz + off) = j - off := by omega
              have hlt : j - off < vs.size := by have := hg.1; omega
              refine ⟨vs.getD (j - off) undef, ?_, Is.toR this (idbL_get h0 hj)⟩
              rw [e]
              simp [Array.getD, hlt]
            · rw [if_neg hjj] at hj
              rw [if_neg (by omega)]
              exact hrow.is i row hi j g' hj
          · rw [List.getElem?_set_ne hii] at hr
            have hr1 := hrow.each r (List.mem_of_getElem? hr)
            have hjl : j < sz := by have := (List.getElem?_eq_some_iff.1 hj).1; omega
            rw [if_neg ?_]
            · exact hrow.is i' r hr j g' hj
            · rintro ⟨ha, hb⟩
              rcases Nat.lt_or_gt_of_ne hii with hlt | hlt
              · have : (i + 1) * sz ≤ i' * sz := Nat.mul_le_mul_right _ hlt
                rw [Nat.add_mul, Nat.one_mul] at this
                omega
              · have : (i' + 1) * sz ≤ i * sz := Nat.mul_le_mul_right _ hlt
                rw [Nat.add_mul, Nat.one_mul] at this
                omega
        · rcases splice_mem hu with hu | hu
          · exact hrow.one u hu
          · exact allOne_one hg h1 u hu
end Go.GK
