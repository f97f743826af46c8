/-
  Plain laws: labels and matchers. No program is in sight.
-/
import Derived.Test.YtogpkeoahlkokaaDoorPCmp
namespace Go.PL
open Go Go.GK

structure Lb where
  name : ByteArray
  value : ByteArray
structure Mt where
  name : ByteArray
  op : Int
  value : ByteArray
instance : Inhabited Lb := ⟨⟨⟨#[]⟩, ⟨#[]⟩⟩⟩
instance : Inhabited Mt := ⟨⟨⟨#[]⟩, 0, ⟨#[]⟩⟩⟩

/-- One of the first n is so. -/
def anyB (n : Nat) (p : Nat → Bool) : Bool := (List.range n).any p
theorem anyB_true {n i : Nat} {p : Nat → Bool} (h : i < n) (hp : p i = true) : anyB n p = true := List.any_eq_true.2 ⟨i, List.mem_range.2 h, hp⟩
theorem anyB_false {n : Nat} {p : Nat → Bool} (h : ∀ i, i < n → p i = false) : anyB n p = false := by
  unfold anyB
  rw [List.any_eq_false]
  intro x hx
  rw [h x (List.mem_range.1 hx)]
  decide
theorem anyB_get {n : Nat} {p : Nat → Bool} (h : anyB n p = false) (i : Nat) (hi : i < n) : p i = false := by
  cases hp : p i with
  | false => rfl
  | true => rw [anyB_true hi hp] at h; cases h
theorem anyB_ex {n : Nat} {p : Nat → Bool} (h : anyB n p = true) : ∃ i, i < n ∧ p i = true := by
  obtain ⟨i, hi, hp⟩ := List.any_eq_true.1 h
  exact ⟨i, List.mem_range.1 hi, hp⟩
theorem anyB_congr {n : Nat} {p q : Nat → Bool} (h : ∀ i, i < n → p i = q i) : anyB n p = anyB n q := by
  unfold anyB
  rw [Bool.eq_iff_iff, List.any_eq_true, List.any_eq_true]
  refine ⟨fun ⟨i, hi, hp⟩ => ⟨i, hi, ?_⟩, fun ⟨i, hi, hp⟩ => ⟨i, hi, ?_⟩⟩
  · rw [← h i (List.mem_range.1 hi)]; exact hp
  · rw [h i (List.mem_range.1 hi)]; exact hp

def letB (c : UInt8) : Bool := decide (97 ≤ c.toNat ∧ c.toNat ≤ 122) || (decide (65 ≤ c.toNat ∧ c.toNat ≤ 90) || decide (c.toNat = 95))
def digB (c : UInt8) : Bool := decide (48 ≤ c.toNat ∧ c.toNat ≤ 57)
/-- what may not stand at i in a name -/
def nbad (s : ByteArray) (i : Nat) : Bool := match s[i]? with
  | some c => !letB c && (i == 0 || !digB c)
  | none => false
def nameF (s : ByteArray) : Bool := !anyB s.size (nbad s) && decide (1 ≤ s.size ∧ s.size ≤ 24)
def vbad (s : ByteArray) (i : Nat) : Bool := match s[i]? with
  | some c => decide (c.toNat < 32) || (decide (126 < c.toNat) || (decide (c.toNat = 34) || decide (c.toNat = 92)))
  | none => false
def valueF (s : ByteArray) : Bool := !anyB s.size (vbad s) && decide (s.size ≤ 24)

def lbad (l : List Lb) (i : Nat) : Bool :=
  !nameF (l.getD i default).name || (!valueF (l.getD i default).value || (sEq (l.getD i default).value ⟨#[]⟩ || (decide (0 < i) && !sLt (l.getD (i - 1) default).name (l.getD i default).name)))
def rightF (l : List Lb) : Bool := !anyB l.length (lbad l) && decide (1 ≤ l.length ∧ l.length ≤ 8)

def lgetF (l : List Lb) (n : ByteArray) : ByteArray := match l with
  | [] => ⟨#[]⟩
  | x :: r => if sEq x.name n = true then x.value else lgetF r n

def cmpL1 (a b : Lb) : Int := thenC cmpS cmpS (a.name, a.value) (b.name, b.value)
def cmpF (a b : List Lb) : Int := lexC cmpL1 a b
theorem cmpL1_is : IsC cmpL1 := by
  have h := thenC_is cmpS_is cmpS_is
  refine ⟨fun a b => h.rng _ _, fun a b => h.anti _ _, fun a b => ?_, fun a b c => h.trans _ _ _⟩
  rw [cmpL1, h.eq0]
  obtain ⟨a1, a2⟩ := a
  obtain ⟨b1, b2⟩ := b
  simp
theorem cmpF_is : IsC cmpF := lexC_is cmpL1_is

/-- strings, from bytes -/
def bs (l : List UInt8) : ByteArray := ⟨l.toArray⟩
theorem bs_app (a b : List UInt8) : bs a ++ bs b = bs (a ++ b) := by
  refine ByteArray.ext ?_
  rw [ByteArray.data_append]
  simp [bs]
theorem bs_data (s : ByteArray) : bs s.data.toList = s := ByteArray.ext (by simp [bs])
theorem data_bs (l : List UInt8) : (bs l).data.toList = l := by simp [bs]
theorem bs_size (l : List UInt8) : (bs l).size = l.length := by show l.toArray.size = _; simp
theorem size_data (s : ByteArray) : s.data.toList.length = s.size := Array.length_toList

/-- name="value" -/
def itemF (x : Lb) : List UInt8 := x.name.data.toList ++ ([61, 34] ++ (x.value.data.toList ++ [34]))
def textF (l : List Lb) : ByteArray := bs ([123] ++ (([44] : List UInt8).intercalate (l.map itemF) ++ [125]))

def onlyF (l : List Lb) (names : List ByteArray) : List Lb := l.filter fun x => names.any fun n => sEq n x.name

def mbad (m : Mt) : Bool := !nameF m.name || (!valueF m.value || !decide (0 ≤ m.op ∧ m.op ≤ 3))
def askedF (l : List Mt) : Bool := !anyB l.length (fun i => mbad (l.getD i default)) && decide (l.length ≤ 8)
def prefF (s p : ByteArray) : Bool := decide (p.size ≤ s.size) && sEq (s.extract 0 p.size) p
def loneF (l : List Lb) (m : Mt) : Bool :=
  if m.op = 0 then sEq (lgetF l m.name) m.value else if m.op = 1 then !sEq (lgetF l m.name) m.value else if m.op = 2 then prefF (lgetF l m.name) m.value else !prefF (lgetF l m.name) m.value
def allF (l : List Lb) (m : List Mt) : Bool := m.all (loneF l)

theorem data_take (s : ByteArray) (n : Nat) : (s.extract 0 n).data.toList = s.data.toList.take n := by
  rw [ByteArray.data_extract, Array.toList_extract]
  rfl
theorem prefF_iff {s p : ByteArray} : prefF s p = true ↔ p.data.toList <+: s.data.toList := by
  unfold prefF
  rw [Bool.and_eq_true, decide_eq_true_iff, sEq_iff, List.prefix_iff_eq_take, size_data]
  constructor
  · rintro ⟨h1, h2⟩
    rw [← data_take, h2]
  · intro h
    have h1 := congrArg List.length h
    rw [List.length_take, size_data, size_data] at h1
    refine ⟨by omega, ba_inj ?_⟩
    rw [data_take]
    exact h.symm
end Go.PL
