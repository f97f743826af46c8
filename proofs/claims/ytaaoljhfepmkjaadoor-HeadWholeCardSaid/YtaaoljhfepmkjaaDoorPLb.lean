/-
  Plain laws: comparisons that tell -1, 0, 1; lists one by one; strings. No program is in sight.
-/
import Derived.Test.YtaaoljhfepmkjaaDoorGKg
import Derived.Lib.Bytealg
import Derived.Laws.Strings
import Derived.Lib.SlTrimSet

namespace Go.PL
open Go Go.GK

/-- A comparison: -1, 0, 1; of two one is ahead; what is ahead of what is ahead is ahead. -/
structure IsC {α : Type} (f : α → α → Int) : Prop where
  rng : ∀ a b, f a b = -1 ∨ f a b = 0 ∨ f a b = 1
  anti : ∀ a b, f b a = -f a b
  eq0 : ∀ a b, f a b = 0 ↔ a = b
  trans : ∀ a b c, f a b = -1 → f b c = -1 → f a c = -1

theorem IsC.self {α : Type} {f : α → α → Int} (h : IsC f) (a : α) : f a a = 0 := (h.eq0 a a).2 rfl
theorem IsC.gt {α : Type} {f : α → α → Int} (h : IsC f) {a b : α} (x : f a b = 1) : f b a = -1 := by rw [h.anti, x]

def lexC {α : Type} (f : α → α → Int) : List α → List α → Int
  | [], [] => 0
  | [], _ :: _ => -1
  | _ :: _, [] => 1
  | a :: as, b :: bs => if f a b = 0 then lexC f as bs else f a b

theorem lexC_is {α : Type} {f : α → α → Int} (h : IsC f) : IsC (lexC f) := by
  refine ⟨?_, ?_, ?_, ?_⟩
  · intro a
    induction a with
    | nil => intro b; cases b <;> simp [lexC]
    | cons x a ih =>
      intro b
      cases b with
      | nil => simp [lexC]
      | cons y b =>
        simp only [lexC]
        split
        · exact ih b
        · exact h.rng x y
  · intro a
    induction a with
    | nil => intro b; cases b <;> simp [lexC]
    | cons x a ih =>
      intro b
      cases b with
      | nil => simp [lexC]
      | cons y b =>
        simp only [lexC, h.anti x y]
        by_cases e : f x y = 0
        · rw [if_pos (by rw [e]; rfl), if_pos e]; exact ih b
        · rw [if_neg (by omega), if_neg e]
  · intro a
    induction a with
    | nil => intro b; cases b <;> simp [lexC]
    | cons x a ih =>
      intro b
      cases b with
      | nil => simp [lexC]
      | cons y b =>
        simp only [lexC]
        by_cases e : f x y = 0
        · rw [if_pos e, ih b, (h.eq0 x y).1 e]
          simp
        · rw [if_neg e]
          refine ⟨fun k => (e k).elim, fun k => ?_⟩
          injection k with k1 k2
          exact (e ((h.eq0 x y).2 k1)).elim
  · intro a
    induction a with
    | nil =>
      intro b c
      cases c with
      | nil => cases b <;> simp [lexC]
      | cons z c => intro _ _; rfl
    | cons x a ih =>
      intro b c h1 h2
      cases b with
      | nil => simp [lexC] at h1
      | cons y b =>
        cases c with
        | nil => simp [lexC] at h2
        | cons z c =>
          simp only [lexC] at h1 h2 ⊢
          by_cases e1 : f x y = 0
          · rw [if_pos e1] at h1
            have := (h.eq0 x y).1 e1
            subst this
            by_cases e2 : f x z = 0
            · rw [if_pos e2] at h2 ⊢
              exact ih b c h1 h2
            · rw [if_neg e2] at h2 ⊢
              exact h2
          · rw [if_neg e1] at h1
            by_cases e2 : f y z = 0
            · have := (h.eq0 y z).1 e2
              subst this
              rw [if_neg e1]; exact h1
            · rw [if_neg e2] at h2
              have := h.trans x y z h1 h2
              rw [if_neg (by omega)]; exact this

/-- Two comparisons, one behind the other. -/
def thenC {α β : Type} (f : α → α → Int) (g : β → β → Int) (a b : α × β) : Int := if f a.1 b.1 = 0 then g a.2 b.2 else f a.1 b.1
theorem thenC_is {α β : Type} {f : α → α → Int} {g : β → β → Int} (hf : IsC f) (hg : IsC g) : IsC (thenC f g) := by
  refine ⟨fun a b => ?_, fun a b => ?_, fun a b => ?_, fun a b c h1 h2 => ?_⟩
  · unfold thenC; split
    · exact hg.rng _ _
    · exact hf.rng _ _
  · unfold thenC
    rw [hf.anti a.1 b.1]
    by_cases e : f a.1 b.1 = 0
    · rw [if_pos (by omega), if_pos e]; exact hg.anti _ _
    · rw [if_neg (by omega), if_neg e]
  · unfold thenC
    obtain ⟨a1, a2⟩ := a
    obtain ⟨b1, b2⟩ := b
    by_cases e : f a1 b1 = 0
    · have e1 := (hf.eq0 a1 b1).1 e
      subst e1
      simp only [e, if_true, hg.eq0, Prod.mk.injEq, true_and]
    · simp only [e, if_false, Prod.mk.injEq, false_iff]
      exact fun k => e ((hf.eq0 _ _).2 k.1)
  · unfold thenC at h1 h2 ⊢
    obtain ⟨a1, a2⟩ := a
    obtain ⟨b1, b2⟩ := b
    obtain ⟨c1, c2⟩ := c
    simp only at h1 h2 ⊢
    by_cases e1 : f a1 b1 = 0
    · rw [if_pos e1] at h1
      have := (hf.eq0 _ _).1 e1
      subst this
      by_cases e2 : f a1 c1 = 0
      · rw [if_pos e2] at h2 ⊢; exact hg.trans _ _ _ h1 h2
      · rw [if_neg e2] at h2 ⊢; exact h2
    · rw [if_neg e1] at h1
      by_cases e2 : f b1 c1 = 0
      · have := (hf.eq0 _ _).1 e2
        subst this
        rw [if_neg e1]; exact h1
      · rw [if_neg e2] at h2
        have := hf.trans _ _ _ h1 h2
        rw [if_neg (by omega)]; exact this

def cmpU (a b : UInt8) : Int := if a < b then -1 else if b < a then 1 else 0
theorem cmpU_is : IsC cmpU := by
  refine ⟨fun a b => ?_, fun a b => ?_, fun a b => ?_, fun a b c h1 h2 => ?_⟩
  · unfold cmpU
    split
    · exact .inl rfl
    · split
      · exact .inr (.inr rfl)
      · exact .inr (.inl rfl)
  · unfold cmpU
    simp only [UInt8.lt_iff_toNat_lt]
    repeat' split <;> first | rfl | omega
  · unfold cmpU
    simp only [UInt8.lt_iff_toNat_lt, ← UInt8.toNat_inj]
    split
    · exact ⟨fun h => by simp at h, fun h => by omega⟩
    · split
      · exact ⟨fun h => by simp at h, fun h => by omega⟩
      · exact ⟨fun _ => by omega, fun _ => rfl⟩
  · unfold cmpU at h1 h2 ⊢
    simp only [UInt8.lt_iff_toNat_lt] at h1 h2 ⊢
    have h1' : a.toNat < b.toNat := by
      by_cases h : a.toNat < b.toNat
      · exact h
      · rw [if_neg h] at h1; split at h1 <;> simp at h1
    have h2' : b.toNat < c.toNat := by
      by_cases h : b.toNat < c.toNat
      · exact h
      · rw [if_neg h] at h2; split at h2 <;> simp at h2
    rw [if_pos (by omega)]

theorem cmpBytes (a b : List UInt8) : Lib.compareBytes a b = lexC cmpU a b := by
  induction a generalizing b with
  | nil => cases b <;> rfl
  | cons x a ih =>
    cases b with
    | nil => rfl
    | cons y b =>
      simp only [Lib.compareBytes, lexC, ih]
      unfold cmpU
      by_cases h1 : x < y
      · simp [h1]
      · by_cases h2 : y < x
        · simp [h1, h2]
        · simp [h1, h2]

/-- Strings. -/
def cmpS (a b : ByteArray) : Int := lexC cmpU a.data.toList b.data.toList
theorem ba_inj {a b : ByteArray} (h : a.data.toList = b.data.toList) : a = b := ByteArray.ext (by simpa using h)
theorem cmpS_is : IsC cmpS := by
  have h := lexC_is cmpU_is
  exact ⟨fun a b => h.rng _ _, fun a b => h.anti _ _, fun a b => ⟨fun e => ba_inj ((h.eq0 _ _).1 e), fun e => by rw [e]; exact (h.eq0 _ _).2 rfl⟩, fun a b c => h.trans _ _ _⟩

abbrev sEq (a b : ByteArray) : Bool := a.toList == b.toList
abbrev sLt (a b : ByteArray) : Bool := Op.bytesLess a.toList b.toList
theorem sEq_iff {a b : ByteArray} : sEq a b = true ↔ a = b := by
  unfold sEq
  rw [ByteArray.toList_eq, ByteArray.toList_eq, beq_iff_eq]
  exact ⟨ba_inj, fun e => by rw [e]⟩
theorem sEq_self (a : ByteArray) : sEq a a = true := sEq_iff.2 rfl
theorem sEq_false {a b : ByteArray} : sEq a b = false ↔ a ≠ b := by
  rw [← Bool.not_eq_true, ne_eq, sEq_iff]
theorem bytesLess_cmp : ∀ (a b : List UInt8), Op.bytesLess a b = decide (lexC cmpU a b = -1)
  | [], [] => rfl
  | [], _ :: _ => rfl
  | _ :: _, [] => rfl
  | x :: a, y :: b => by
    simp only [Op.bytesLess, lexC, bytesLess_cmp a b]
    unfold cmpU
    by_cases h1 : x < y
    · simp [h1]
    · by_cases h2 : y < x
      · have : x ≠ y := fun e => by subst e; exact h1 h2
        simp [h1, h2, this]
      · have : x = y := by
          rw [← UInt8.toNat_inj]
          rw [UInt8.lt_iff_toNat_lt] at h1 h2
          omega
        simp [this]
theorem sLt_cmp (a b : ByteArray) : sLt a b = decide (cmpS a b = -1) := by
  unfold sLt cmpS
  rw [ByteArray.toList_eq, ByteArray.toList_eq, bytesLess_cmp]
theorem sLt_iff {a b : ByteArray} : sLt a b = true ↔ cmpS a b = -1 := by rw [sLt_cmp, decide_eq_true_iff]
end Go.PL


namespace Go.PL
open Go Go.GK

structure Lb where
  name : ByteArray
  value : ByteArray
structure Mt where
  name : ByteArray
  op : Int
  value : ByteArray
instance : Inhabited Lb := ⟨⟨⟨#[]⟩, ⟨#[]⟩⟩⟩
instance : Inhabited Mt := ⟨⟨⟨#[]⟩, 0, ⟨#[]⟩⟩⟩

/-- One of the first n is so. -/
def anyB (n : Nat) (p : Nat → Bool) : Bool := (List.range n).any p
theorem anyB_true {n i : Nat} {p : Nat → Bool} (h : i < n) (hp : p i = true) : anyB n p = true := List.any_eq_true.2 ⟨i, List.mem_range.2 h, hp⟩
theorem anyB_false {n : Nat} {p : Nat → Bool} (h : ∀ i, i < n → p i = false) : anyB n p = false := by
  unfold anyB
  rw [List.any_eq_false]
  intro x hx
  rw [h x (List.mem_range.1 hx)]
  decide
theorem anyB_get {n : Nat} {p : Nat → Bool} (h : anyB n p = false) (i : Nat) (hi : i < n) : p i = false := by
  cases hp : p i with
  | false => rfl
  | true => rw [anyB_true hi hp] at h; cases h
theorem anyB_ex {n : Nat} {p : Nat → Bool} (h : anyB n p = true) : ∃ i, i < n ∧ p i = true := by
  obtain ⟨i, hi, hp⟩ := List.any_eq_true.1 h
  exact ⟨i, List.mem_range.1 hi, hp⟩
theorem anyB_congr {n : Nat} {p q : Nat → Bool} (h : ∀ i, i < n → p i = q i) : anyB n p = anyB n q := by
  unfold anyB
  rw [Bool.eq_iff_iff, List.any_eq_true, List.any_eq_true]
  refine ⟨fun ⟨i, hi, hp⟩ => ⟨i, hi, ?_⟩, fun ⟨i, hi, hp⟩ => ⟨i, hi, ?_⟩⟩
  · rw [← h i (List.mem_range.1 hi)]; exact hp
  · rw [h i (List.mem_range.1 hi)]; exact hp

def letB (c : UInt8) : Bool := decide (97 ≤ c.toNat ∧ c.toNat ≤ 122) || (decide (65 ≤ c.toNat ∧ c.toNat ≤ 90) || decide (c.toNat = 95))
def digB (c : UInt8) : Bool := decide (48 ≤ c.toNat ∧ c.toNat ≤ 57)
/-- what may not stand at i in a name -/
def nbad (s : ByteArray) (i : Nat) : Bool := match s[i]? with
  | some c => !letB c && (i == 0 || !digB c)
  | none => false
def nameF (s : ByteArray) : Bool := !anyB s.size (nbad s) && decide (1 ≤ s.size ∧ s.size ≤ 24)
def vbad (s : ByteArray) (i : Nat) : Bool := match s[i]? with
  | some c => decide (c.toNat < 32) || (decide (126 < c.toNat) || (decide (c.toNat = 34) || decide (c.toNat = 92)))
  | none => false
def valueF (s : ByteArray) : Bool := !anyB s.size (vbad s) && decide (s.size ≤ 24)

def lbad (l : List Lb) (i : Nat) : Bool :=
  !nameF (l.getD i default).name || (!valueF (l.getD i default).value || (sEq (l.getD i default).value ⟨#[]⟩ || (decide (0 < i) && !sLt (l.getD (i - 1) default).name (l.getD i default).name)))
def rightF (l : List Lb) : Bool := !anyB l.length (lbad l) && decide (1 ≤ l.length ∧ l.length ≤ 8)

def lgetF (l : List Lb) (n : ByteArray) : ByteArray := match l with
  | [] => ⟨#[]⟩
  | x :: r => if sEq x.name n = true then x.value else lgetF r n

def cmpL1 (a b : Lb) : Int := thenC cmpS cmpS (a.name, a.value) (b.name, b.value)
def cmpF (a b : List Lb) : Int := lexC cmpL1 a b
theorem cmpL1_is : IsC cmpL1 := by
  have h := thenC_is cmpS_is cmpS_is
  refine ⟨fun a b => h.rng _ _, fun a b => h.anti _ _, fun a b => ?_, fun a b c => h.trans _ _ _⟩
  rw [cmpL1, h.eq0]
  obtain ⟨a1, a2⟩ := a
  obtain ⟨b1, b2⟩ := b
  simp
theorem cmpF_is : IsC cmpF := lexC_is cmpL1_is

/-- strings, from bytes -/
def bs (l : List UInt8) : ByteArray := ⟨l.toArray⟩
theorem bs_app (a b : List UInt8) : bs a ++ bs b = bs (a ++ b) := by
  refine ByteArray.ext ?_
  rw [ByteArray.data_append]
  simp [bs]
theorem bs_data (s : ByteArray) : bs s.data.toList = s := ByteArray.ext (by simp [bs])
theorem data_bs (l : List UInt8) : (bs l).data.toList = l := by simp [bs]
theorem bs_size (l : List UInt8) : (bs l).size = l.length := by show l.toArray.size = _; simp
theorem size_data (s : ByteArray) : s.data.toList.length = s.size := Array.length_toList

/-- name="value" -/
def itemF (x : Lb) : List UInt8 := x.name.data.toList ++ ([61, 34] ++ (x.value.data.toList ++ [34]))
def textF (l : List Lb) : ByteArray := bs ([123] ++ (([44] : List UInt8).intercalate (l.map itemF) ++ [125]))

def onlyF (l : List Lb) (names : List ByteArray) : List Lb := l.filter fun x => names.any fun n => sEq n x.name

def mbad (m : Mt) : Bool := !nameF m.name || (!valueF m.value || !decide (0 ≤ m.op ∧ m.op ≤ 3))
def askedF (l : List Mt) : Bool := !anyB l.length (fun i => mbad (l.getD i default)) && decide (l.length ≤ 8)
def prefF (s p : ByteArray) : Bool := decide (p.size ≤ s.size) && sEq (s.extract 0 p.size) p
def loneF (l : List Lb) (m : Mt) : Bool :=
  if m.op = 0 then sEq (lgetF l m.name) m.value else if m.op = 1 then !sEq (lgetF l m.name) m.value else if m.op = 2 then prefF (lgetF l m.name) m.value else !prefF (lgetF l m.name) m.value
def allF (l : List Lb) (m : List Mt) : Bool := m.all (loneF l)

theorem data_take (s : ByteArray) (n : Nat) : (s.extract 0 n).data.toList = s.data.toList.take n := by
  rw [ByteArray.data_extract, Array.toList_extract]
  rfl
theorem prefF_iff {s p : ByteArray} : prefF s p = true ↔ p.data.toList <+: s.data.toList := by
  unfold prefF
  rw [Bool.and_eq_true, decide_eq_true_iff, sEq_iff, List.prefix_iff_eq_take, size_data]
  constructor
  · rintro ⟨h1, h2⟩
    rw [← data_take, h2]
  · intro h
    have h1 := congrArg List.length h
    rw [List.length_take, size_data, size_data] at h1
    refine ⟨by omega, ba_inj ?_⟩
    rw [data_take]
    exact h.symm
end Go.PL


namespace Go.PL
open Go Go.GK

def lettL : List UInt8 := [97, 98, 99, 100, 101, 102, 103, 104, 105, 106, 107, 108, 109, 110, 111, 112, 113, 114, 115, 116, 117, 118, 119, 120, 121, 122, 65, 66, 67, 68, 69, 70, 71, 72, 73, 74, 75, 76, 77, 78, 79, 80, 81, 82, 83, 84, 85, 86, 87, 88, 89, 90, 95]
def digL : List UInt8 := [48, 49, 50, 51, 52, 53, 54, 55, 56, 57]

theorem u8_all {p : UInt8 → Bool} (h : ∀ n : Fin 256, p (UInt8.ofNat n.val) = true) (c : UInt8) : p c = true := by
  have := h ⟨c.toNat, c.toNat_lt⟩
  simpa using this
theorem lett_iff (c : UInt8) : decide (0 ≤ Lib.indexByte lettL c) = letB c := by
  have := u8_all (p := fun c => decide (0 ≤ Lib.indexByte lettL c) == letB c) (by decide +kernel) c
  simpa using this
theorem word_iff (c : UInt8) : (lettL ++ digL).contains c = (letB c || digB c) := by
  have := u8_all (p := fun c => (lettL ++ digL).contains c == (letB c || digB c)) (by decide +kernel) c
  simpa using this

theorem dropWhile_nil {α : Type} (p : α → Bool) (l : List α) : l.dropWhile p = [] ↔ ∀ x ∈ l, p x = true := by
  induction l with
  | nil => simp
  | cons a l ih =>
    simp only [List.dropWhile_cons]
    cases h : p a with
    | true => simp [ih, h]
    | false => simp [h]
theorem dropWhile_mem {α : Type} (p : α → Bool) : ∀ (l : List α) (x : α), x ∈ l → x ∈ l.dropWhile p ∨ p x = true
  | a :: l, x, h => by
    simp only [List.dropWhile_cons]
    cases hp : p a with
    | true =>
      rcases List.mem_cons.1 h with rfl | h
      · exact .inr hp
      · exact dropWhile_mem p l x h
    | false => exact .inl h
theorem trim_nil (l cs : List UInt8) : Lib.trimS l cs = [] ↔ ∀ x ∈ l, cs.contains x = true := by
  unfold Lib.trimS Lib.trimLeftS Lib.trimRightS
  rw [dropWhile_nil]
  constructor
  · intro h x hx
    rcases dropWhile_mem (cs.contains ·) l.reverse x (List.mem_reverse.2 hx) with h1 | h1
    · exact h x (List.mem_reverse.2 h1)
    · exact h1
  · intro h x hx
    refine h x ?_
    have := (List.dropWhile_sublist (l := l.reverse) (cs.contains ·)).subset (List.mem_reverse.1 hx)
    exact List.mem_reverse.1 this

theorem ba_get (s : ByteArray) (i : Nat) : s[i]? = s.data.toList[i]? := by
  by_cases h : i < s.size
  · rw [getElem?_pos s i h, List.getElem?_eq_getElem (by rw [size_data]; exact h)]
    rfl
  · rw [getElem?_neg s i h, List.getElem?_eq_none (by rw [size_data]; omega)]

theorem nbad_some {s : ByteArray} {i : Nat} (h : i < s.size) : nbad s i = (!letB s[i] && (i == 0 || !digB s[i])) := by
  unfold nbad
  rw [getElem?_pos s i h]

/-- A name, as the program asks. -/
theorem name_prog (s : ByteArray) (h0 : 1 ≤ s.size) (h1 : s.size ≤ 24) : nameF s = (letB (s[0]'h0) && decide (Lib.trimS s.data.toList (lettL ++ digL) = [])) := by
  unfold nameF
  rw [decide_eq_true (p := 1 ≤ s.size ∧ s.size ≤ 24) ⟨h0, h1⟩, Bool.and_true, Bool.eq_iff_iff, Bool.not_eq_true', Bool.and_eq_true, decide_eq_true_iff, trim_nil]
  constructor
  · intro h
    have h2 := anyB_get h
    have h3 := h2 0 h0
    rw [nbad_some h0] at h3
    refine ⟨by simpa using h3, fun x hx => ?_⟩
    obtain ⟨i, hi, rfl⟩ := List.getElem_of_mem hx
    rw [size_data] at hi
    have h4 := h2 i hi
    rw [nbad_some hi] at h4
    rw [word_iff]
    have e : s.data.toList[i] = s[i] := rfl
    rw [e]
    revert h4
    cases letB s[i] <;> cases digB s[i] <;> simp
  · rintro ⟨h2, h3⟩
    refine anyB_false fun i hi => ?_
    rw [nbad_some hi]
    have h4 := h3 s[i] (List.getElem_mem (l := s.data.toList) (by rw [size_data]; exact hi))
    rw [word_iff] at h4
    by_cases hi0 : i = 0
    · subst hi0; rw [h2]; rfl
    · have : (i == 0) = false := by simpa using hi0
      rw [this]
      revert h4
      cases letB s[i] <;> cases digB s[i] <;> simp
theorem nameF_no {s : ByteArray} (h : ¬ (1 ≤ s.size ∧ s.size ≤ 24)) : nameF s = false := by
  unfold nameF
  rw [decide_eq_false h, Bool.and_false]
end Go.PL


namespace Go.PL
open Go Go.GK

theorem split_uniq {α : Type} {c : α} : ∀ {x y r s : List α}, c ∉ x → c ∉ y → x ++ c :: r = y ++ c :: s → x = y ∧ r = s
  | [], [], r, s, _, _, h => by simpa using h
  | [], b :: y, r, s, _, hy, h => by
    simp only [List.nil_append, List.cons_append, List.cons.injEq] at h
    exact (hy (by rw [h.1]; exact List.mem_cons_self)).elim
  | a :: x, [], r, s, hx, _, h => by
    simp only [List.nil_append, List.cons_append, List.cons.injEq] at h
    exact (hx (by rw [← h.1]; exact List.mem_cons_self)).elim
  | a :: x, b :: y, r, s, hx, hy, h => by
    simp only [List.cons_append, List.cons.injEq] at h
    obtain ⟨h1, h2⟩ := split_uniq (fun e => hx (List.mem_cons_of_mem _ e)) (fun e => hy (List.mem_cons_of_mem _ e)) h.2
    exact ⟨by rw [h.1, h1], h2⟩

def cleanL (l : List Lb) : Prop := ∀ x ∈ l, (61 : UInt8) ∉ x.name.data.toList ∧ (34 : UInt8) ∉ x.value.data.toList

theorem right_clean {l : List Lb} (h : rightF l = true) : cleanL l := by
  intro x hx
  unfold rightF at h
  rw [Bool.and_eq_true, Bool.not_eq_true'] at h
  obtain ⟨i, hi, rfl⟩ := List.getElem_of_mem hx
  have hb := anyB_get h.1 i hi
  unfold lbad at hb
  rw [show l.getD i default = l[i] by simp [hi], Bool.or_eq_false_iff, Bool.or_eq_false_iff, Bool.not_eq_false', Bool.not_eq_false'] at hb
  obtain ⟨h1, h2, _⟩ := hb
  constructor
  · intro hc
    unfold nameF at h1
    rw [Bool.and_eq_true, Bool.not_eq_true'] at h1
    obtain ⟨j, hj, e⟩ := List.getElem_of_mem hc
    rw [size_data] at hj
    have := anyB_get h1.1 j hj
    rw [nbad_some hj] at this
    have e' : l[i].name[j] = 61 := e
    rw [e'] at this
    revert this
    cases (j == 0) <;> decide
  · intro hc
    unfold valueF at h2
    rw [Bool.and_eq_true, Bool.not_eq_true'] at h2
    obtain ⟨j, hj, e⟩ := List.getElem_of_mem hc
    rw [size_data] at hj
    have := anyB_get h2.1 j hj
    unfold vbad at this
    rw [getElem?_pos l[i].value j hj] at this
    have e' : l[i].value[j] = 34 := e
    simp only [e'] at this
    revert this
    decide

def tailF : List Lb → List UInt8
  | [] => [125]
  | x :: r => 44 :: (itemF x ++ tailF r)
theorem text_tail (x : Lb) (r : List Lb) : ([44] : List UInt8).intercalate ((x :: r).map itemF) ++ [125] = itemF x ++ tailF r := by
  induction r generalizing x with
  | nil => simp [List.intercalate, tailF]
  | cons y r ih =>
    have e : ([44] : List UInt8).intercalate ((x :: y :: r).map itemF) = itemF x ++ ([44] ++ ([44] : List UInt8).intercalate ((y :: r).map itemF)) := by simp [List.intercalate]
    rw [e, List.append_assoc, List.append_assoc, ih y]
    rfl
theorem item_uniq {x y : Lb} {r s : List UInt8} (hx : (61 : UInt8) ∉ x.name.data.toList ∧ (34 : UInt8) ∉ x.value.data.toList) (hy : (61 : UInt8) ∉ y.name.data.toList ∧ (34 : UInt8) ∉ y.value.data.toList) (h : itemF x ++ r = itemF y ++ s) : x = y ∧ r = s := by
  unfold itemF at h
  simp only [List.append_assoc, List.cons_append, List.nil_append] at h
  obtain ⟨h1, h2⟩ := split_uniq hx.1 hy.1 h
  simp only [List.cons.injEq, true_and] at h2
  obtain ⟨h3, h4⟩ := split_uniq hx.2 hy.2 h2
  obtain ⟨x1, x2⟩ := x
  obtain ⟨y1, y2⟩ := y
  have e1 := ba_inj h1
  have e2 := ba_inj h3
  simp only at e1 e2
  exact ⟨by rw [e1, e2], h4⟩
theorem tail_uniq : ∀ {a b : List Lb}, cleanL a → cleanL b → tailF a = tailF b → a = b
  | [], [], _, _, _ => rfl
  | [], y :: b, _, _, h => by simp [tailF] at h
  | x :: a, [], _, _, h => by simp [tailF] at h
  | x :: a, y :: b, ha, hb, h => by
    simp only [tailF, List.cons.injEq, true_and] at h
    obtain ⟨h1, h2⟩ := item_uniq (ha x List.mem_cons_self) (hb y List.mem_cons_self) h
    rw [h1, tail_uniq (fun z hz => ha z (List.mem_cons_of_mem _ hz)) (fun z hz => hb z (List.mem_cons_of_mem _ hz)) h2]
theorem text_iff {a b : List Lb} (ha : cleanL a) (hb : cleanL b) : textF a = textF b ↔ a = b := by
  refine ⟨fun h => ?_, fun h => by rw [h]⟩
  have h1 := congrArg (fun s : ByteArray => s.data.toList) h
  simp only [textF, data_bs, List.cons_append, List.nil_append, List.cons.injEq, true_and] at h1
  have hlen : ∀ (x : Lb) (r : List Lb), (itemF x ++ tailF r).length ≥ 3 := fun x r => by simp [itemF]; omega
  cases a with
  | nil =>
    cases b with
    | nil => rfl
    | cons y b =>
      rw [text_tail] at h1
      have := hlen y b
      rw [← h1] at this
      simp [List.intercalate] at this
  | cons x a =>
    cases b with
    | nil =>
      rw [text_tail] at h1
      have := hlen x a
      rw [h1] at this
      simp [List.intercalate] at this
    | cons y b =>
      rw [text_tail, text_tail] at h1
      obtain ⟨h2, h3⟩ := item_uniq (ha x List.mem_cons_self) (hb y List.mem_cons_self) h1
      rw [h2, tail_uniq (fun z hz => ha z (List.mem_cons_of_mem _ hz)) (fun z hz => hb z (List.mem_cons_of_mem _ hz)) h3]

/-- The opposite matcher. -/
def flipM (m : Mt) : Mt := { m with op := if m.op = 0 then 1 else if m.op = 1 then 0 else if m.op = 2 then 3 else 2 }
theorem flip_one (l : List Lb) (m : Mt) (h : 0 ≤ m.op ∧ m.op ≤ 3) : loneF l (flipM m) = !loneF l m := by
  obtain ⟨n, op, v⟩ := m
  simp only at h
  have h4 : op = 0 ∨ op = 1 ∨ op = 2 ∨ op = 3 := by omega
  rcases h4 with rfl | rfl | rfl | rfl <;> simp [loneF, flipM]
end Go.PL
