/-
  Plain laws: what may be a name, by the library's words. No program is in sight.
-/
import Derived.Test.YtfagagfokmlgiaaDoorPLab
import Derived.Lib.SlTrimSet
namespace Go.PL
open Go Go.GK

def lettL : List UInt8 := [97, 98, 99, 100, 101, 102, 103, 104, 105, 106, 107, 108, 109, 110, 111, 112, 113, 114, 115, 116, 117, 118, 119, 120, 121, 122, 65, 66, 67, 68, 69, 70, 71, 72, 73, 74, 75, 76, 77, 78, 79, 80, 81, 82, 83, 84, 85, 86, 87, 88, 89, 90, 95]
def digL : List UInt8 := [48, 49, 50, 51, 52, 53, 54, 55, 56, 57]

theorem u8_all {p : UInt8 → Bool} (h : ∀ n : Fin 256, p (UInt8.ofNat n.val) = true) (c : UInt8) : p c = true := by
  have := h ⟨c.toNat, c.toNat_lt⟩
  simpa using this
theorem lett_iff (c : UInt8) : decide (0 ≤ Lib.indexByte lettL c) = letB c := by
  have := u8_all (p := fun c => decide (0 ≤ Lib.indexByte lettL c) == letB c) (by decide +kernel) c
  simpa using this
theorem word_iff (c : UInt8) : (lettL ++ digL).contains c = (letB c || digB c) := by
  have := u8_all (p := fun c => (lettL ++ digL).contains c == (letB c || digB c)) (by decide +kernel) c
  simpa using this

theorem dropWhile_nil {α : Type} (p : α → Bool) (l : List α) : l.dropWhile p = [] ↔ ∀ x ∈ l, p x = true := by
  induction l with
  | nil => simp
  | cons a l ih =>
    simp only [List.dropWhile_cons]
    cases h : p a with
    | true => simp [ih, h]
    | false => simp [h]
theorem dropWhile_mem {α : Type} (p : α → Bool) : ∀ (l : List α) (x : α), x ∈ l → x ∈ l.dropWhile p ∨ p x = true
  | a :: l, x, h => by
    simp only [List.dropWhile_cons]
    cases hp : p a with
    | true =>
      rcases List.mem_cons.1 h with rfl | h
      · exact .inr hp
      · exact dropWhile_mem p l x h
    | false => exact .inl h
theorem trim_nil (l cs : List UInt8) : Lib.trimS l cs = [] ↔ ∀ x ∈ l, cs.contains x = true := by
  unfold Lib.trimS Lib.trimLeftS Lib.trimRightS
  rw [dropWhile_nil]
  constructor
  · intro h x hx
    rcases dropWhile_mem (cs.contains ·) l.reverse x (List.mem_reverse.2 hx) with h1 | h1
    · exact h x (List.mem_reverse.2 h1)
    · exact h1
  · intro h x hx
    refine h x ?_
    have := (List.dropWhile_sublist (l := l.reverse) (cs.contains ·)).subset (List.mem_reverse.1 hx)
    exact List.mem_reverse.1 this

theorem ba_get (s : ByteArray) (i : Nat) : s[i]? = s.data.toList[i]? := by
  by_cases h : i < s.size
  · rw [getElem?_pos s i h, List.getElem?_eq_getElem (by rw [size_data]; exact h)]
    rfl
  · rw [getElem?_neg s i h, List.getElem?_eq_none (by rw [size_data]; omega)]

theorem nbad_some {s : ByteArray} {i : Nat} (h : i < s.size) : nbad s i = (!letB s[i] && (i == 0 || !digB s[i])) := by
  unfold nbad
  rw [getElem?_pos s i h]

/-- A name, as the program asks. -/
theorem name_prog (s : ByteArray) (h0 : 1 ≤ s.size) (h1 : s.size ≤ 24) : nameF s = (letB (s[0]'h0) && decide (Lib.trimS s.data.toList (lettL ++ digL) = [])) := by
  unfold nameF
  rw [decide_eq_true (p := 1 ≤ s.size ∧ s.size ≤ 24) ⟨h0, h1⟩, Bool.and_true, Bool.eq_iff_iff, Bool.not_eq_true', Bool.and_eq_true, decide_eq_true_iff, trim_nil]
  constructor
  · intro h
    have h2 := anyB_get h
    have h3 := h2 0 h0
    rw [nbad_some h0] at h3
    refine ⟨by simpa using h3, fun x hx => ?_⟩
    obtain ⟨i, hi, rfl⟩ := List.getElem_of_mem hx
    rw [size_data] at hi
    have h4 := h2 i hi
    rw [nbad_some hi] at h4
    rw [word_iff]
    have e : s.data.toList[i] = s[i] := rfl
    rw [e]
    revert h4
    cases letB s[i] <;> cases digB s[i] <;> simp
  · rintro ⟨h2, h3⟩
    refine anyB_false fun i hi => ?_
    rw [nbad_some hi]
    have h4 := h3 s[i] (List.getElem_mem (l := s.data.toList) (by rw [size_data]; exact hi))
    rw [word_iff] at h4
    by_cases hi0 : i = 0
    · subst hi0; rw [h2]; rfl
    · have : (i == 0) = false := by simpa using hi0
      rw [this]
      revert h4
      cases letB s[i] <;> cases digB s[i] <;> simp
theorem nameF_no {s : ByteArray} (h : ¬ (1 ≤ s.size ∧ s.size ≤ 24)) : nameF s = false := by
  unfold nameF
  rw [decide_eq_false h, Bool.and_false]
end Go.PL
