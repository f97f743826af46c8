/-
  Plain laws: a disk: files and how much of each is safe, in one list of pairs; no program is in sight.
-/
import Derived.Test.YtdongnbkfgipdaaGKh
namespace Go.PL
open Go Go.GK

abbrev Fl := ByteArray × Int
abbrev ks (f : ByteArray) : Value := .string f
/-- A disk. 'nil': its maps were not made yet. -/
structure Dk where
  nil : Bool
  L : List (Value × Fl)
  left : Int
  cut : Bool
structure Dk.ok (B : Nat) (d : Dk) : Prop where
  keys : ∀ y ∈ d.L, sortB none y.1 = true
  nd : pnodup d.L
  sz : ∀ y ∈ d.L, y.2.1.size ≤ B ∧ -1 ≤ y.2.2 ∧ y.2.2 ≤ y.2.1.size
  nl : d.nil = true → d.L = []
  lo : 0 ≤ d.left
  hi : d.left ≤ 9223372036854775807
def dk0 : Dk := ⟨true, [], 0, false⟩
theorem dk0_ok (B : Nat) : dk0.ok B := ⟨by simp [dk0], by simp [dk0, pnodup], by simp [dk0], fun _ => rfl, by simp [dk0], by simp [dk0]⟩
theorem Dk.ok.mono {B B' : Nat} {d : Dk} (h : d.ok B) (hb : B ≤ B') : d.ok B' := ⟨h.keys, h.nd, fun y hy => ⟨by have := (h.sz y hy).1; omega, (h.sz y hy).2⟩, h.nl, h.lo, h.hi⟩

def onF (d : Dk) : Bool := !d.cut || decide (d.left > 0)
def doesF (d : Dk) : Dk := ⟨false, d.L, if d.cut = true then d.left - 1 else d.left, d.cut⟩
theorem doesF_ok {B : Nat} {d : Dk} (h : d.ok B) (ho : onF d = true) : (doesF d).ok B := by
  refine ⟨h.keys, h.nd, h.sz, fun h => (by cases h), ?_, ?_⟩
  · show 0 ≤ (if d.cut = true then d.left - 1 else d.left)
    have := h.lo
    split
    · rename_i hc
      have : d.left > 0 := by simpa [onF, hc] using ho
      omega
    · exact this
  · show (if d.cut = true then d.left - 1 else d.left) ≤ _
    have := h.hi
    split <;> omega
def fnd (f : ByteArray) (d : Dk) : Option Fl := pfind (ks f) d.L
def putF (f : ByteArray) (x : Fl) (d : Dk) : Dk := { d with L := pput (ks f) x d.L }
def delF (f : ByteArray) (d : Dk) : Dk := { d with L := pdel (ks f) d.L }
theorem pput_mem {α : Type} {k : Value} {x : α} : ∀ {l : List (Value × α)}, ∀ y ∈ pput k x l, y = (k, x) ∨ y ∈ l
  | [], y, hy => .inl (List.mem_singleton.1 hy)
  | (q, z) :: r, y, hy => by
    have hy' : y ∈ (if vkey k q = true then (k, x) :: r else (q, z) :: pput k x r) := hy
    by_cases h : vkey k q = true
    · rw [if_pos h] at hy'
      rcases List.mem_cons.1 hy' with h | h
      · exact .inl h
      · exact .inr (List.mem_cons_of_mem _ h)
    · rw [if_neg h] at hy'
      rcases List.mem_cons.1 hy' with h | h
      · exact .inr (by rw [h]; exact List.mem_cons_self)
      · rcases pput_mem y h with h | h
        · exact .inl h
        · exact .inr (List.mem_cons_of_mem _ h)
theorem putF_ok {B : Nat} {d : Dk} (h : d.ok B) (hn : d.nil = false) {f : ByteArray} {x : Fl} (h1 : x.1.size ≤ B) (h2 : -1 ≤ x.2) (h3 : x.2 ≤ x.1.size) : (putF f x d).ok B := by
  refine ⟨pput_keys rfl x d.L h.keys, (pput_nodup rfl x h.keys h.nd).1, fun y hy => ?_, fun e => (by rw [show (putF f x d).nil = d.nil from rfl, hn] at e; cases e), h.lo, h.hi⟩
  rcases pput_mem y hy with rfl | hy
  · exact ⟨h1, h2, h3⟩
  · exact h.sz y hy
theorem delF_ok {B : Nat} {d : Dk} (h : d.ok B) {f : ByteArray} : (delF f d).ok B :=
  ⟨pdel_keys _ d.L h.keys, pdel_nodup h.nd, fun y hy => h.sz y (pdel_mem y hy), fun e => (by show pdel _ d.L = []; rw [h.nl e]; rfl), h.lo, h.hi⟩
theorem fnd_mem {B : Nat} {d : Dk} (h : d.ok B) {f : ByteArray} {x : Fl} (hf : fnd f d = some x) : (ks f, x) ∈ d.L := (pfind_mem rfl h.keys h.nd).1 hf
theorem fnd_sz {B : Nat} {d : Dk} (h : d.ok B) {f : ByteArray} {x : Fl} (hf : fnd f d = some x) : x.1.size ≤ B ∧ -1 ≤ x.2 ∧ x.2 ≤ x.1.size := h.sz _ (fnd_mem h hf)
theorem fnd_put {B : Nat} {d : Dk} (h : d.ok B) (f g : ByteArray) (x : Fl) : fnd g (putF f x d) = if g = f then some x else fnd g d := by
  unfold fnd putF
  rw [pfind_put (kd := none) rfl rfl x d.L h.keys]
  by_cases e : g = f
  · subst e
    rw [if_pos rfl, if_pos (vkey_refl (kd := none) rfl)]
  · rw [if_neg e, if_neg fun hv => e (by have := vkey_eq (kd := none) rfl rfl hv; injection this)]
theorem fnd_del {B : Nat} {d : Dk} (h : d.ok B) (f g : ByteArray) : fnd g (delF f d) = if g = f then none else fnd g d := by
  unfold fnd delF
  rw [pfind_del (kd := none) rfl rfl h.keys h.nd]
  by_cases e : g = f
  · subst e
    rw [if_pos rfl, if_pos (vkey_refl (kd := none) rfl)]
  · rw [if_neg e, if_neg fun hv => e (by have := vkey_eq (kd := none) rfl rfl hv; injection this)]
/-- What is put in the place of what is there, and looks the same. -/
theorem pes_same {α : Type} (enc : α → GV) {k : Value} {x y : α} : ∀ {l : List (Value × α)}, (∀ z ∈ l, sortB none z.1 = true) → sortB none k = true → pfind k l = some x → enc y = enc x → pes enc (pput k y l) = pes enc l
  | (q, z) :: r, hs, hk, h, he => by
    have h' : (if vkey k q = true then some z else pfind k r) = some x := h
    show pes enc (if vkey k q = true then (k, y) :: r else (q, z) :: pput k y r) = _
    by_cases hv : vkey k q = true
    · rw [if_pos hv] at h' ⊢
      have e := vkey_eq (kd := none) hk (hs (q, z) (by simp)) hv
      subst e
      show (k, enc y) :: _ = (k, enc z) :: _
      rw [he, Option.some.inj h']
    · rw [if_neg hv] at h' ⊢
      show (q, enc z) :: pes enc (pput k y r) = (q, enc z) :: pes enc r
      rw [pes_same enc (fun w hw => hs w (by simp [hw])) hk h' he]
theorem pput_put {α : Type} {k : Value} (hk : sortB none k = true) (x y : α) : ∀ l : List (Value × α), pput k y (pput k x l) = pput k y l
  | [] => by
    show (if vkey k k = true then [(k, y)] else _) = _
    rw [if_pos (vkey_refl hk)]; rfl
  | (q, z) :: r => by
    show pput k y (if vkey k q = true then (k, x) :: r else (q, z) :: pput k x r) = (if vkey k q = true then (k, y) :: r else (q, z) :: pput k y r)
    by_cases hv : vkey k q = true
    · rw [if_pos hv, if_pos hv]
      show (if vkey k k = true then (k, y) :: r else _) = _
      rw [if_pos (vkey_refl hk)]
    · rw [if_neg hv, if_neg hv]
      show (if vkey k q = true then _ else (q, z) :: pput k y (pput k x r)) = _
      rw [if_neg hv, pput_put hk x y r]

def badN (f : ByteArray) : Bool := (f.toList == (⟨#[]⟩ : ByteArray).toList) || decide ((f.size : Int) > 60)
/-- Each change, and the error that is told of it. -/
def appendF (f s : ByteArray) (d : Dk) : Option Int × Dk :=
  if badN f = true then (some 1, d) else if onF d = true then (none, match fnd f d with | some x => putF f (x.1 ++ s, x.2) (doesF d) | none => putF f (s, -1) (doesF d)) else (some 14, d)
def syncF (f : ByteArray) (d : Dk) : Option Int × Dk :=
  match fnd f d with
  | none => (some 7, d)
  | some x => if onF d = true then (none, putF f (x.1, x.1.size) (doesF d)) else (some 14, d)
def moveF (f t : ByteArray) (d : Dk) : Option Int × Dk :=
  if badN t = true then (some 1, d) else match fnd f d with
  | none => (some 7, d)
  | some x => if onF d = true then (none, putF t x (delF f (doesF d))) else (some 14, d)
def removeF (f : ByteArray) (d : Dk) : Option Int × Dk :=
  match fnd f d with
  | none => (some 7, d)
  | some _ => if onF d = true then (none, delF f (doesF d)) else (some 14, d)
def cutF (n : Int) (d : Dk) : Dk := { d with cut := decide (n ≥ 0), left := if 0 > n then 0 else n }
/-- What is left of a file when the power comes back. -/
def keepF (keeps : Int) (x : Fl) : Option Fl :=
  if x.2 < 0 ∧ keeps < 1 then none else some (x.1.extract 0 (max x.2 0 + min (max keeps 0) (x.1.size - max x.2 0)).toNat, max x.2 0 + min (max keeps 0) (x.1.size - max x.2 0))
def startF (keeps : Int) (d : Dk) : Dk := { d with L := d.L.filterMap fun y => (keepF keeps y.2).map fun z => (y.1, z), cut := false }
end Go.PL
