/-
  Plain laws: what may be a name, by the library's words. No program is in sight.
-/
import Derived.Test.YtogpkeoahlkokaaDoorPLab
import Derived.Lib.SlTrimSet

namespace Go.PL
open Go Go.GK

def lettL : List UInt8 := [97, 98, 99, 100, 101, 102, 103, 104, 105, 106, 107, 108, 109, 110, 111, 112, 113, 114, 115, 116, 117, 118, 119, 120, 121, 122, 65, 66, 67, 68, 69, 70, 71, 72, 73, 74, 75, 76, 77, 78, 79, 80, 81, 82, 83, 84, 85, 86, 87, 88, 89, 90, 95]
def digL : List UInt8 := [48, 49, 50, 51, 52, 53, 54, 55, 56, 57]

theorem u8_all {p : UInt8 → Bool} (h : ∀ n : Fin 256, p (UInt8.ofNat n.val) = true) (c : UInt8) : p c = true := by
  have := h ⟨c.toNat, c.toNat_lt⟩
  simpa using this
theorem lett_iff (c : UInt8) : decide (0 ≤ Lib.indexByte lettL c) = letB c := by
  have := u8_all (p := fun c => decide (0 ≤ Lib.indexByte lettL c) == letB c) (by decide +kernel) c
  simpa using this
theorem word_iff (c : UInt8) : (lettL ++ digL).contains c = (letB c || digB c) := by
  have := u8_all (p := fun c => (lettL ++ digL).contains c == (letB c || digB c)) (by decide +kernel) c
  simpa using this

theorem dropWhile_nil {α : Type} (p : α → Bool) (l : List α) : l.dropWhile p = [] ↔ ∀ x ∈ l, p x = true := by
  induction l with
  | nil => simp
  | cons a l ih =>
    simp only [List.dropWhile_cons]
    cases h : p a with
    | true => simp [ih, h]
    | false => simp [h]
theorem dropWhile_mem {α : Type} (p : α → Bool) : ∀ (l : List α) (x : α), x ∈ l → x ∈ l.dropWhile p ∨ p x = true
  | a :: l, x, h => by
    simp only [List.dropWhile_cons]
    cases hp : p a with
    | true =>
      rcases List.mem_cons.1 h with rfl | h
      · exact .inr hp
      · exact dropWhile_mem p l x h
    | false => exact .inl h
theorem trim_nil (l cs : List UInt8) : Lib.trimS l cs = [] ↔ ∀ x ∈ l, cs.contains x = true := by
  unfold Lib.trimS Lib.trimLeftS Lib.trimRightS
  rw [dropWhile_nil]
  constructor
  · intro h x hx
    rcases dropWhile_mem (cs.contains ·) l.reverse x (List.mem_reverse.2 hx) with h1 | h1
    · exact h x (List.mem_reverse.2 h1)
    · exact h1
  · intro h x hx
    refine h x ?_
    have := (List.dropWhile_sublist (l := l.reverse) (cs.contains ·)).subset (List.mem_reverse.1 hx)
    exact List.mem_reverse.1 this

theorem ba_get (s : ByteArray) (i : Nat) : s[i]? = s.data.toList[i]? := by
  by_cases h : i < s.size
  · rw [getElem?_pos s i h, List.getElem?_eq_getElem (by rw [size_data]; exact h)]
    rfl
  · rw [getElem?_neg s i h, List.getElem?_eq_none (by rw [size_data]; omega)]

theorem nbad_some {s : ByteArray} {i : Nat} (h : i < s.size) : nbad s i = (!letB s[i] && (i == 0 || !digB s[i])) := by
  unfold nbad
  rw [getElem?_pos s i h]

/-- A name, as the program asks. -/
theorem name_prog (s : ByteArray) (h0 : 1 ≤ s.size) (h1 : s.size ≤ 24) : nameF s = (letB (s[0]'h0) && decide (Lib.trimS s.data.toList (lettL ++ digL) = [])) := by
  unfold nameF
  rw [decide_eq_true (p := 1 ≤ s.size ∧ s.size ≤ 24) ⟨h0, h1⟩, Bool.and_true, Bool.eq_iff_iff, Bool.not_eq_true', Bool.and_eq_true, decide_eq_true_iff, trim_nil]
  constructor
  · intro h
    have h2 := anyB_get h
    have h3 := h2 0 h0
    rw [nbad_some h0] at h3
    refine ⟨by simpa using h3, fun x hx => ?_⟩
    obtain ⟨i, hi, rfl⟩ := List.getElem_of_mem hx
    rw [size_data] at hi
    have h4 := h2 i hi
    rw [nbad_some hi] at h4
    rw [word_iff]
    have e : s.data.toList[i] = s[i] := rfl
    rw [e]
    revert h4
    cases letB s[i] <;> cases digB s[i] <;> simp
  · rintro ⟨h2, h3⟩
    refine anyB_false fun i hi => ?_
    rw [nbad_some hi]
    have h4 := h3 s[i] (List.getElem_mem (l := s.data.toList) (by rw [size_data]; exact hi))
    rw [word_iff] at h4
    by_cases hi0 : i = 0
    · subst hi0; rw [h2]; rfl
    · have : (i == 0) = false := by simpa using hi0
      rw [this]
      revert h4
      cases letB s[i] <;> cases digB s[i] <;> simp
theorem nameF_no {s : ByteArray} (h : ¬ (1 ≤ s.size ∧ s.size ≤ 24)) : nameF s = false := by
  unfold nameF
  rw [decide_eq_false h, Bool.and_false]
end Go.PL


namespace Go.PL
open Go Go.GK

theorem split_uniq {α : Type} {c : α} : ∀ {x y r s : List α}, c ∉ x → c ∉ y → x ++ c :: r = y ++ c :: s → x = y ∧ r = s
  | [], [], r, s, _, _, h => by simpa using h
  | [], b :: y, r, s, _, hy, h => by
    simp only [List.nil_append, List.cons_append, List.cons.injEq] at h
    exact (hy (by rw [h.1]; exact List.mem_cons_self)).elim
  | a :: x, [], r, s, hx, _, h => by
    simp only [List.nil_append, List.cons_append, List.cons.injEq] at h
    exact (hx (by rw [← h.1]; exact List.mem_cons_self)).elim
  | a :: x, b :: y, r, s, hx, hy, h => by
    simp only [List.cons_append, List.cons.injEq] at h
    obtain ⟨h1, h2⟩ := split_uniq (fun e => hx (List.mem_cons_of_mem _ e)) (fun e => hy (List.mem_cons_of_mem _ e)) h.2
    exact ⟨by rw [h.1, h1], h2⟩

def cleanL (l : List Lb) : Prop := ∀ x ∈ l, (61 : UInt8) ∉ x.name.data.toList ∧ (34 : UInt8) ∉ x.value.data.toList

theorem right_clean {l : List Lb} (h : rightF l = true) : cleanL l := by
  intro x hx
  unfold rightF at h
  rw [Bool.and_eq_true, Bool.not_eq_true'] at h
  obtain ⟨i, hi, rfl⟩ := List.getElem_of_mem hx
  have hb := anyB_get h.1 i hi
  unfold lbad at hb
  rw [show l.getD i default = l[i] by simp [hi], Bool.or_eq_false_iff, Bool.or_eq_false_iff, Bool.not_eq_false', Bool.not_eq_false'] at hb
  obtain ⟨h1, h2, _⟩ := hb
  constructor
  · intro hc
    unfold nameF at h1
    rw [Bool.and_eq_true, Bool.not_eq_true'] at h1
    obtain ⟨j, hj, e⟩ := List.getElem_of_mem hc
    rw [size_data] at hj
    have := anyB_get h1.1 j hj
    rw [nbad_some hj] at this
    have e' : l[i].name[j] = 61 := e
    rw [e'] at this
    revert this
    cases (j == 0) <;> decide
  · intro hc
    unfold valueF at h2
    rw [Bool.and_eq_true, Bool.not_eq_true'] at h2
    obtain ⟨j, hj, e⟩ := List.getElem_of_mem hc
    rw [size_data] at hj
    have := anyB_get h2.1 j hj
    unfold vbad at this
    rw [getElem?_pos l[i].value j hj] at this
    have e' : l[i].value[j] = 34 := e
    simp only [e'] at this
    revert this
    decide

def tailF : List Lb → List UInt8
  | [] => [125]
  | x :: r => 44 :: (itemF x ++ tailF r)
theorem text_tail (x : Lb) (r : List Lb) : ([44] : List UInt8).intercalate ((x :: r).map itemF) ++ [125] = itemF x ++ tailF r := by
  induction r generalizing x with
  | nil => simp [List.intercalate, tailF]
  | cons y r ih =>
    have e : ([44] : List UInt8).intercalate ((x :: y :: r).map itemF) = itemF x ++ ([44] ++ ([44] : List UInt8).intercalate ((y :: r).map itemF)) := by simp [List.intercalate]
    rw [e, List.append_assoc, List.append_assoc, ih y]
    rfl
theorem item_uniq {x y : Lb} {r s : List UInt8} (hx : (61 : UInt8) ∉ x.name.data.toList ∧ (34 : UInt8) ∉ x.value.data.toList) (hy : (61 : UInt8) ∉ y.name.data.toList ∧ (34 : UInt8) ∉ y.value.data.toList) (h : itemF x ++ r = itemF y ++ s) : x = y ∧ r = s := by
  unfold itemF at h
  simp only [List.append_assoc, List.cons_append, List.nil_append] at h
  obtain ⟨h1, h2⟩ := split_uniq hx.1 hy.1 h
  simp only [List.cons.injEq, true_and] at h2
  obtain ⟨h3, h4⟩ := split_uniq hx.2 hy.2 h2
  obtain ⟨x1, x2⟩ := x
  obtain ⟨y1, y2⟩ := y
  have e1 := ba_inj h1
  have e2 := ba_inj h3
  simp only at e1 e2
  exact ⟨by rw [e1, e2], h4⟩
theorem tail_uniq : ∀ {a b : List Lb}, cleanL a → cleanL b → tailF a = tailF b → a = b
  | [], [], _, _, _ => rfl
  | [], y :: b, _, _, h => by simp [tailF] at h
  | x :: a, [], _, _, h => by simp [tailF] at h
  | x :: a, y :: b, ha, hb, h => by
    simp only [tailF, List.cons.injEq, true_and] at h
    obtain ⟨h1, h2⟩ := item_uniq (ha x List.mem_cons_self) (hb y List.mem_cons_self) h
    rw [h1, tail_uniq (fun z hz => ha z (List.mem_cons_of_mem _ hz)) (fun z hz => hb z (List.mem_cons_of_mem _ hz)) h2]
theorem text_iff {a b : List Lb} (ha : cleanL a) (hb : cleanL b) : textF a = textF b ↔ a = b := by
  refine ⟨fun h => ?_, fun h => by rw [h]⟩
  have h1 := congrArg (fun s : ByteArray => s.data.toList) h
  simp only [textF, data_bs, List.cons_append, List.nil_append, List.cons.injEq, true_and] at h1
  have hlen : ∀ (x : Lb) (r : List Lb), (itemF x ++ tailF r).length ≥ 3 := fun x r => by simp [itemF]; omega
  cases a with
  | nil =>
    cases b with
    | nil => rfl
    | cons y b =>
      rw [text_tail] at h1
      have := hlen y b
      rw [← h1] at this
      simp [List.intercalate] at this
  | cons x a =>
    cases b with
    | nil =>
      rw [text_tail] at h1
      have := hlen x a
      rw [h1] at this
      simp [List.intercalate] at this
    | cons y b =>
      rw [text_tail, text_tail] at h1
      obtain ⟨h2, h3⟩ := item_uniq (ha x List.mem_cons_self) (hb y List.mem_cons_self) h1
      rw [h2, tail_uniq (fun z hz => ha z (List.mem_cons_of_mem _ hz)) (fun z hz => hb z (List.mem_cons_of_mem _ hz)) h3]

/-- The opposite matcher. -/
def flipM (m : Mt) : Mt := { m with op := if m.op = 0 then 1 else if m.op = 1 then 0 else if m.op = 2 then 3 else 2 }
theorem flip_one (l : List Lb) (m : Mt) (h : 0 ≤ m.op ∧ m.op ≤ 3) : loneF l (flipM m) = !loneF l m := by
  obtain ⟨n, op, v⟩ := m
  simp only at h
  have h4 : op = 0 ∨ op = 1 ∨ op = 2 ∨ op = 3 := by omega
  rcases h4 with rfl | rfl | rfl | rfl <;> simp [loneF, flipM]
end Go.PL
