/-
  Plain laws: comparisons that tell -1, 0, 1; lists one by one; strings. No program is in sight.
-/
import Derived.Test.YtogpkeoahlkokaaDoorGKg
import Derived.Lib.Bytealg
import Derived.Laws.Strings
namespace Go.PL
open Go Go.GK

/-- A comparison: -1, 0, 1; of two one is ahead; what is ahead of what is ahead is ahead. -/
structure IsC {α : Type} (f : α → α → Int) : Prop where
  rng : ∀ a b, f a b = -1 ∨ f a b = 0 ∨ f a b = 1
  anti : ∀ a b, f b a = -f a b
  eq0 : ∀ a b, f a b = 0 ↔ a = b
  trans : ∀ a b c, f a b = -1 → f b c = -1 → f a c = -1

theorem IsC.self {α : Type} {f : α → α → Int} (h : IsC f) (a : α) : f a a = 0 := (h.eq0 a a).2 rfl
theorem IsC.gt {α : Type} {f : α → α → Int} (h : IsC f) {a b : α} (x : f a b = 1) : f b a = -1 := by rw [h.anti, x]

def lexC {α : Type} (f : α → α → Int) : List α → List α → Int
  | [], [] => 0
  | [], _ :: _ => -1
  | _ :: _, [] => 1
  | a :: as, b :: bs => if f a b = 0 then lexC f as bs else f a b

theorem lexC_is {α : Type} {f : α → α → Int} (h : IsC f) : IsC (lexC f) := by
  refine ⟨?_, ?_, ?_, ?_⟩
  · intro a
    induction a with
    | nil => intro b; cases b <;> simp [lexC]
    | cons x a ih =>
      intro b
      cases b with
      | nil => simp [lexC]
      | cons y b =>
        simp only [lexC]
        split
        · exact ih b
        · exact h.rng x y
  · intro a
    induction a with
    | nil => intro b; cases b <;> simp [lexC]
    | cons x a ih =>
      intro b
      cases b with
      | nil => simp [lexC]
      | cons y b =>
        simp only [lexC, h.anti x y]
        by_cases e : f x y = 0
        · rw [if_pos (by rw [e]; rfl), if_pos e]; exact ih b
        · rw [if_neg (by omega), if_neg e]
  · intro a
    induction a with
    | nil => intro b; cases b <;> simp [lexC]
    | cons x a ih =>
      intro b
      cases b with
      | nil => simp [lexC]
      | cons y b =>
        simp only [lexC]
        by_cases e : f x y = 0
        · rw [if_pos e, ih b, (h.eq0 x y).1 e]
          simp
        · rw [if_neg e]
          refine ⟨fun k => (e k).elim, fun k => ?_⟩
          injection k with k1 k2
          exact (e ((h.eq0 x y).2 k1)).elim
  · intro a
    induction a with
    | nil =>
      intro b c
      cases c with
      | nil => cases b <;> simp [lexC]
      | cons z c => intro _ _; rfl
    | cons x a ih =>
      intro b c h1 h2
      cases b with
      | nil => simp [lexC] at h1
      | cons y b =>
        cases c with
        | nil => simp [lexC] at h2
        | cons z c =>
          simp only [lexC] at h1 h2 ⊢
          by_cases e1 : f x y = 0
          · rw [if_pos e1] at h1
            have := (h.eq0 x y).1 e1
            subst this
            by_cases e2 : f x z = 0
            · rw [if_pos e2] at h2 ⊢
              exact ih b c h1 h2
            · rw [if_neg e2] at h2 ⊢
              exact h2
          · rw [if_neg e1] at h1
            by_cases e2 : f y z = 0
            · have := (h.eq0 y z).1 e2
              subst this
              rw [if_neg e1]; exact h1
            · rw [if_neg e2] at h2
              have := h.trans x y z h1 h2
              rw [if_neg (by omega)]; exact this

/-- Two comparisons, one behind the other. -/
def thenC {α β : Type} (f : α → α → Int) (g : β → β → Int) (a b : α × β) : Int := if f a.1 b.1 = 0 then g a.2 b.2 else f a.1 b.1
theorem thenC_is {α β : Type} {f : α → α → Int} {g : β → β → Int} (hf : IsC f) (hg : IsC g) : IsC (thenC f g) := by
  refine ⟨fun a b => ?_, fun a b => ?_, fun a b => ?_, fun a b c h1 h2 => ?_⟩
  · unfold thenC; split
    · exact hg.rng _ _
    · exact hf.rng _ _
  · unfold thenC
    rw [hf.anti a.1 b.1]
    by_cases e : f a.1 b.1 = 0
    · rw [if_pos (by omega), if_pos e]; exact hg.anti _ _
    · rw [if_neg (by omega), if_neg e]
  · unfold thenC
    obtain ⟨a1, a2⟩ := a
    obtain ⟨b1, b2⟩ := b
    by_cases e : f a1 b1 = 0
    · have e1 := (hf.eq0 a1 b1).1 e
      subst e1
      simp only [e, if_true, hg.eq0, Prod.mk.injEq, true_and]
    · simp only [e, if_false, Prod.mk.injEq, false_iff]
      exact fun k => e ((hf.eq0 _ _).2 k.1)
  · unfold thenC at h1 h2 ⊢
    obtain ⟨a1, a2⟩ := a
    obtain ⟨b1, b2⟩ := b
    obtain ⟨c1, c2⟩ := c
    simp only at h1 h2 ⊢
    by_cases e1 : f a1 b1 = 0
    · rw [if_pos e1] at h1
      have := (hf.eq0 _ _).1 e1
      subst this
      by_cases e2 : f a1 c1 = 0
      · rw [if_pos e2] at h2 ⊢; exact hg.trans _ _ _ h1 h2
      · rw [if_neg e2] at h2 ⊢; exact h2
    · rw [if_neg e1] at h1
      by_cases e2 : f b1 c1 = 0
      · have := (hf.eq0 _ _).1 e2
        subst this
        rw [if_neg e1]; exact h1
      · rw [if_neg e2] at h2
        have := hf.trans _ _ _ h1 h2
        rw [if_neg (by omega)]; exact this

def cmpU (a b : UInt8) : Int := if a < b then -1 else if b < a then 1 else 0
theorem cmpU_is : IsC cmpU := by
  refine ⟨fun a b => ?_, fun a b => ?_, fun a b => ?_, fun a b c h1 h2 => ?_⟩
  · unfold cmpU
    split
    · exact .inl rfl
    · split
      · exact .inr (.inr rfl)
      · exact .inr (.inl rfl)
  · unfold cmpU
    simp only [UInt8.lt_iff_toNat_lt]
    repeat' split <;> first | rfl | omega
  · unfold cmpU
    simp only [UInt8.lt_iff_toNat_lt, ← UInt8.toNat_inj]
    split
    · exact ⟨fun h => by simp at h, fun h => by omega⟩
    · split
      · exact ⟨fun h => by simp at h, fun h => by omega⟩
      · exact ⟨fun _ => by omega, fun _ => rfl⟩
  · unfold cmpU at h1 h2 ⊢
    simp only [UInt8.lt_iff_toNat_lt] at h1 h2 ⊢
    have h1' : a.toNat < b.toNat := by
      by_cases h : a.toNat < b.toNat
      · exact h
      · rw [if_neg h] at h1; split at h1 <;> simp at h1
    have h2' : b.toNat < c.toNat := by
      by_cases h : b.toNat < c.toNat
      · exact h
      · rw [if_neg h] at h2; split at h2 <;> simp at h2
    rw [if_pos (by omega)]

theorem cmpBytes (a b : List UInt8) : Lib.compareBytes a b = lexC cmpU a b := by
  induction a generalizing b with
  | nil => cases b <;> rfl
  | cons x a ih =>
    cases b with
    | nil => rfl
    | cons y b =>
      simp only [Lib.compareBytes, lexC, ih]
      unfold cmpU
      by_cases h1 : x < y
      · simp [h1]
      · by_cases h2 : y < x
        · simp [h1, h2]
        · simp [h1, h2]

/-- Strings. -/
def cmpS (a b : ByteArray) : Int := lexC cmpU a.data.toList b.data.toList
theorem ba_inj {a b : ByteArray} (h : a.data.toList = b.data.toList) : a = b := ByteArray.ext (by simpa using h)
theorem cmpS_is : IsC cmpS := by
  have h := lexC_is cmpU_is
  exact ⟨fun a b => h.rng _ _, fun a b => h.anti _ _, fun a b => ⟨fun e => ba_inj ((h.eq0 _ _).1 e), fun e => by rw [e]; exact (h.eq0 _ _).2 rfl⟩, fun a b c => h.trans _ _ _⟩

abbrev sEq (a b : ByteArray) : Bool := a.toList == b.toList
abbrev sLt (a b : ByteArray) : Bool := Op.bytesLess a.toList b.toList
theorem sEq_iff {a b : ByteArray} : sEq a b = true ↔ a = b := by
  unfold sEq
  rw [ByteArray.toList_eq, ByteArray.toList_eq, beq_iff_eq]
  exact ⟨ba_inj, fun e => by rw [e]⟩
theorem sEq_self (a : ByteArray) : sEq a a = true := sEq_iff.2 rfl
theorem sEq_false {a b : ByteArray} : sEq a b = false ↔ a ≠ b := by
  rw [← Bool.not_eq_true, ne_eq, sEq_iff]
theorem bytesLess_cmp : ∀ (a b : List UInt8), Op.bytesLess a b = decide (lexC cmpU a b = -1)
  | [], [] => rfl
  | [], _ :: _ => rfl
  | _ :: _, [] => rfl
  | x :: a, y :: b => by
    simp only [Op.bytesLess, lexC, bytesLess_cmp a b]
    unfold cmpU
    by_cases h1 : x < y
    · simp [h1]
    · by_cases h2 : y < x
      · have : x ≠ y := fun e => by subst e; exact h1 h2
        simp [h1, h2, this]
      · have : x = y := by
          rw [← UInt8.toNat_inj]
          rw [UInt8.lt_iff_toNat_lt] at h1 h2
          omega
        simp [this]
theorem sLt_cmp (a b : ByteArray) : sLt a b = decide (cmpS a b = -1) := by
  unfold sLt cmpS
  rw [ByteArray.toList_eq, ByteArray.toList_eq, bytesLess_cmp]
theorem sLt_iff {a b : ByteArray} : sLt a b = true ↔ cmpS a b = -1 := by rw [sLt_cmp, decide_eq_true_iff]
end Go.PL
