/-
  Plain laws: notes one behind the other, each with its length in two bytes; no program is in sight.
-/
import Derived.Test.YtdongnbkfgipdaaPDisk2
namespace Go.PL
open Go Go.GK

def len2 (n : Nat) : ByteArray := ⟨#[UInt8.ofNat (n / 256), UInt8.ofNat n]⟩
def frameF (s : ByteArray) : ByteArray := len2 s.size ++ s
def frs : List ByteArray → ByteArray
  | [] => ByteArray.empty
  | x :: r => frameF x ++ frs r
theorem frs_app : ∀ a b : List ByteArray, frs (a ++ b) = frs a ++ frs b
  | [], b => by simp [frs]
  | x :: r, b => by
    show frameF x ++ frs (r ++ b) = (frameF x ++ frs r) ++ frs b
    rw [frs_app r b, ByteArray.append_assoc]
theorem len2_size (n : Nat) : (len2 n).size = 2 := rfl
theorem frameF_size (s : ByteArray) : (frameF s).size = s.size + 2 := by
  unfold frameF
  rw [ByteArray.size_append, len2_size]; omega
theorem frs_len : ∀ l : List ByteArray, 2 * l.length ≤ (frs l).size
  | [] => by simp [frs]
  | x :: r => by
    have := frs_len r
    show _ ≤ (frameF x ++ frs r).size
    rw [ByteArray.size_append, frameF_size, List.length_cons]
    omega
theorem ba_get_r (a b : ByteArray) (j : Nat) : (a ++ b)[a.size + j]? = b[j]? := by
  by_cases h : j < b.size
  · rw [getElem?_pos (a ++ b) (a.size + j) (by rw [ByteArray.size_append]; omega), getElem?_pos b j h]
    congr 1
    rw [ByteArray.getElem_append_right (by omega)]
    congr 1
    omega
  · rw [getElem?_neg (a ++ b) _ (by rw [ByteArray.size_append]; omega), getElem?_neg b _ h]
theorem ba_get_l (a b : ByteArray) (j : Nat) (h : j < a.size) : (a ++ b)[j]? = a[j]? := by
  rw [getElem?_pos (a ++ b) j (by rw [ByteArray.size_append]; omega), getElem?_pos a j h]
  congr 1
  exact ByteArray.getElem_append_left h
theorem ba_ext_mid (a b c : ByteArray) : (a ++ (b ++ c)).extract a.size (a.size + b.size) = b := by
  apply ByteArray.ext
  simp only [ByteArray.data_extract, ByteArray.data_append]
  apply Array.ext'
  have ha : a.data.toList.length = a.size := by simp
  have hb : b.data.toList.length = b.size := by simp
  simp
  rw [List.drop_of_length_le (by omega), List.take_nil, List.nil_append]
  exact List.take_of_length_le (by omega)
theorem hd0 (A x R : ByteArray) : (A ++ (frameF x ++ R))[A.size]? = some (UInt8.ofNat (x.size / 256)) := by
  have := ba_get_r A (frameF x ++ R) 0
  rw [Nat.add_zero] at this
  rw [this, ba_get_l _ _ 0 (by rw [frameF_size]; omega)]
  unfold frameF
  rw [ba_get_l _ _ 0 (by rw [len2_size]; omega)]
  rfl
theorem hd1 (A x R : ByteArray) : (A ++ (frameF x ++ R))[A.size + 1]? = some (UInt8.ofNat x.size) := by
  rw [ba_get_r, ba_get_l _ _ 1 (by rw [frameF_size]; omega)]
  unfold frameF
  rw [ba_get_l _ _ 1 (by rw [len2_size]; omega)]
  rfl
theorem hd2 (A x R : ByteArray) : (A ++ (frameF x ++ R)).extract (A.size + 2) (A.size + 2 + x.size) = x := by
  have := ba_ext_mid (A ++ len2 x.size) x R
  rw [ByteArray.size_append, len2_size] at this
  rw [show A ++ (frameF x ++ R) = (A ++ len2 x.size) ++ (x ++ R) by unfold frameF; simp only [ByteArray.append_assoc]]
  exact this
/-- What is left of a note that is torn. -/
def Torn (p : ByteArray) : Prop := p.size < 2 ∨ ∃ a b, p[0]? = some a ∧ p[1]? = some b ∧ p.size < a.toNat * 256 + b.toNat + 2
theorem torn_empty : Torn ByteArray.empty := .inl (by decide)
/-- The beginning of a note that is not whole. -/
theorem torn_take (x : ByteArray) (hx : x.size < 65536) (k : Nat) (hk : k < x.size + 2) : Torn ((frameF x).extract 0 k) := by
  have hs : ((frameF x).extract 0 k).size = k := by rw [ByteArray.size_extract, frameF_size]; omega
  by_cases h2 : k < 2
  · exact .inl (by rw [hs]; exact h2)
  · refine .inr ⟨UInt8.ofNat (x.size / 256), UInt8.ofNat x.size, ?_, ?_, ?_⟩
    · rw [getElem?_pos _ 0 (by rw [hs]; omega), ByteArray.getElem_extract, ← getElem?_pos]
      have := hd0 ByteArray.empty x ByteArray.empty
      simpa using this
    · rw [getElem?_pos _ 1 (by rw [hs]; omega), ByteArray.getElem_extract, ← getElem?_pos]
      have := hd1 ByteArray.empty x ByteArray.empty
      simpa using this
    · rw [hs]
      simp only [UInt8.toNat_ofNat']
      omega
def nN : ByteArray := ⟨#[119, 97, 108, 47, 110, 111, 116, 101, 115]⟩
def fN : ByteArray := ⟨#[119, 97, 108, 47, 102, 114, 101, 115, 104]⟩
theorem appendF_ok {B : Nat} {d : Dk} (h : d.ok B) (f s : ByteArray) : (appendF f s d).2.ok (B + s.size) := by
  have hm := h.mono (B' := B + s.size) (by omega)
  unfold appendF
  split
  · exact hm
  · split
    · rename_i ho
      have hd := doesF_ok h ho
      have hd' := hd.mono (B' := B + s.size) (by omega)
      cases hf : fnd f d with
      | none => exact putF_ok hd' rfl (x := (s, -1)) (by show s.size ≤ _; omega) (by show (-1 : Int) ≤ -1; omega) (by show (-1 : Int) ≤ s.size; omega)
      | some x =>
        have := fnd_sz h hf
        exact putF_ok hd' rfl (x := (x.1 ++ s, x.2)) (by show (x.1 ++ s).size ≤ _; rw [ByteArray.size_append]; omega) this.2.1 (by show x.2 ≤ ((x.1 ++ s).size : Int); rw [ByteArray.size_append]; omega)
    · exact hm
theorem syncF_ok {B : Nat} {d : Dk} (h : d.ok B) (f : ByteArray) : (syncF f d).2.ok B := by
  unfold syncF
  cases hf : fnd f d with
  | none => exact h
  | some x =>
    have := fnd_sz h hf
    simp only []
    split
    · rename_i ho
      exact putF_ok (doesF_ok h ho) rfl (x := (x.1, x.1.size)) this.1 (by show (-1 : Int) ≤ x.1.size; omega) (Int.le_refl _)
    · exact h
theorem removeF_ok {B : Nat} {d : Dk} (h : d.ok B) (f : ByteArray) : (removeF f d).2.ok B := by
  unfold removeF
  cases hf : fnd f d with
  | none => exact h
  | some x =>
    simp only []
    split
    · rename_i ho
      exact delF_ok (doesF_ok h ho)
    · exact h
theorem moveF_ok {B : Nat} {d : Dk} (h : d.ok B) (f t : ByteArray) : (moveF f t d).2.ok B := by
  unfold moveF
  split
  · exact h
  · cases hf : fnd f d with
    | none => exact h
    | some x =>
      have := fnd_sz h hf
      simp only []
      split
      · rename_i ho
        exact putF_ok (delF_ok (doesF_ok h ho)) rfl this.1 this.2.1 this.2.2
      · exact h
/-- What comes first, and what comes if it went well. -/
def thenF (a : Option Int × Dk) (k : Dk → Option Int × Dk) : Option Int × Dk := match a.1 with | none => k a.2 | some _ => a
def addF (s : ByteArray) (down : Bool) (d : Dk) : Option Int × Bool × Dk :=
  if (s.size : Int) > 60000 then (some 1, down, d) else if down = true then (some 6, down, d) else
    let b := thenF (appendF nN (frameF s) d) (syncF nN)
    (b.1, b.1.isSome, b.2)
def clrF (d : Dk) : Option Int × Dk := match fnd fN d with | some _ => removeF fN d | none => (none, d)
def setF (l : List ByteArray) (d : Dk) : Option Int × Dk :=
  thenF (clrF d) fun d => thenF (appendF fN (frs l) d) fun d => thenF (syncF fN d) (moveF fN nN)
def longs (l : List ByteArray) : Bool := l.any fun x => decide ((x.size : Int) > 60000)
def setAllF (l : List ByteArray) (down : Bool) (d : Dk) : Option Int × Bool × Dk :=
  if longs l = true then (some 1, down, d) else if down = true then (some 6, down, d) else ((setF l d).1, (setF l d).1.isSome, (setF l d).2)
theorem clrF_ok {B : Nat} {d : Dk} (h : d.ok B) : (clrF d).2.ok B := by
  unfold clrF
  cases fnd fN d with
  | none => exact h
  | some x => exact removeF_ok h fN
theorem thenF_ok {B : Nat} {a : Option Int × Dk} {k : Dk → Option Int × Dk} (h : a.2.ok B) (hk : a.2.ok B → (k a.2).2.ok B) : (thenF a k).2.ok B := by
  unfold thenF
  split
  · exact hk h
  · exact h
theorem addF_ok {B : Nat} {s : ByteArray} {down : Bool} {d : Dk} (h : d.ok B) : (addF s down d).2.2.ok (B + (s.size + 2)) := by
  have hm := h.mono (B' := B + (s.size + 2)) (by omega)
  unfold addF
  split
  · exact hm
  · split
    · exact hm
    · have := appendF_ok h nN (frameF s)
      rw [frameF_size] at this
      exact thenF_ok this (fun h => syncF_ok h nN)
theorem setF_ok {B : Nat} {l : List ByteArray} {d : Dk} (h : d.ok B) : (setF l d).2.ok (B + (frs l).size) := by
  have hm := (clrF_ok h).mono (B' := B + (frs l).size) (by omega)
  refine thenF_ok hm fun _ => thenF_ok (appendF_ok (clrF_ok h) fN (frs l)) fun h2 => thenF_ok (syncF_ok h2 fN) fun h3 => moveF_ok h3 fN nN
theorem setAllF_ok {B : Nat} {l : List ByteArray} {down : Bool} {d : Dk} (h : d.ok B) : (setAllF l down d).2.2.ok (B + (frs l).size) := by
  have hm := h.mono (B' := B + (frs l).size) (by omega)
  unfold setAllF
  split
  · exact hm
  · split
    · exact hm
    · exact setF_ok h
theorem thenF_none (d : Dk) (k : Dk → Option Int × Dk) : thenF (none, d) k = k d := rfl
theorem thenF_some (m : Int) (d : Dk) (k : Dk → Option Int × Dk) : thenF (some m, d) k = (some m, d) := rfl
theorem setF_e0 {l : List ByteArray} {d d1 : Dk} {m : Int} (h : clrF d = (some m, d1)) : setF l d = (some m, d1) := by unfold setF; rw [h, thenF_some]
theorem setF_e1 {l : List ByteArray} {d d1 d2 : Dk} {m : Int} (h : clrF d = (none, d1)) (h1 : appendF fN (frs l) d1 = (some m, d2)) : setF l d = (some m, d2) := by
  unfold setF; rw [h, thenF_none, h1, thenF_some]
theorem setF_e2 {l : List ByteArray} {d d1 d2 d3 : Dk} {m : Int} (h : clrF d = (none, d1)) (h1 : appendF fN (frs l) d1 = (none, d2)) (h2 : syncF fN d2 = (some m, d3)) : setF l d = (some m, d3) := by
  unfold setF; rw [h, thenF_none, h1, thenF_none, h2, thenF_some]
theorem setF_e3 {l : List ByteArray} {d d1 d2 d3 : Dk} (h : clrF d = (none, d1)) (h1 : appendF fN (frs l) d1 = (none, d2)) (h2 : syncF fN d2 = (none, d3)) : setF l d = moveF fN nN d3 := by
  unfold setF; rw [h, thenF_none, h1, thenF_none, h2, thenF_none]
/-- What is noted. -/
def cont (d : Dk) : ByteArray := match fnd nN d with
  | some x => x.1
  | none => ByteArray.empty
def openF (l : List ByteArray) (p : ByteArray) (d : Dk) : Dk := if p.size = 0 then d else (setF l d).2
/-! while there is power -/
theorem onF_of {d : Dk} (h : d.cut = false) : onF d = true := by unfold onF; rw [h]; rfl
theorem badN_nN : badN nN = false := by decide +kernel
theorem badN_fN : badN fN = false := by decide +kernel
theorem fN_ne : nN ≠ fN := by decide
theorem append_on {d : Dk} (hc : d.cut = false) {f : ByteArray} (hf : badN f = false) (s : ByteArray) : appendF f s d = (none, match fnd f d with | some x => putF f (x.1 ++ s, x.2) (doesF d) | none => putF f (s, -1) (doesF d)) := by
  unfold appendF
  rw [if_neg (by rw [hf]; decide), if_pos (onF_of hc)]
  cases fnd f d <;> rfl
theorem add_on {d : Dk} {B : Nat} (hok : d.ok B) (hc : d.cut = false) (s : ByteArray) (hs : s.size ≤ 60000) : (addF s false d).1 = none ∧ (addF s false d).2.1 = false ∧ (addF s false d).2.2.cut = false ∧ cont (addF s false d).2.2 = cont d ++ frameF s := by
  unfold addF
  rw [if_neg (by omega), if_neg (by decide), append_on hc badN_nN]
  have hd := doesF_ok hok (onF_of hc)
  have hcd : (doesF d).cut = false := hc
  cases hf : fnd nN d with
  | none =>
    have hd2 : (putF nN (frameF s, -1) (doesF d)).cut = false := hc
    have e := fnd_put hd nN nN (frameF s, -1)
    rw [if_pos rfl] at e
    have hsy : syncF nN (putF nN (frameF s, -1) (doesF d)) = (none, putF nN (frameF s, (frameF s).size) (doesF (putF nN (frameF s, -1) (doesF d)))) := by unfold syncF; rw [e]; simp only []; rw [if_pos (onF_of hd2)]
    simp only [thenF_none, hsy]
    have hk : (doesF (putF nN (frameF s, -1) (doesF d))).ok (B + (s.size + 2)) := doesF_ok (putF_ok (hd.mono (by omega)) rfl (x := (frameF s, -1)) (by show (frameF s).size ≤ _; rw [frameF_size]; omega) (Int.le_refl _) (by show (-1 : Int) ≤ (frameF s).size; omega)) (onF_of hd2)
    refine ⟨by first | rfl | trivial, by first | rfl | trivial, hc, ?_⟩
    have e3 := fnd_put hk nN nN (frameF s, (frameF s).size)
    rw [if_pos rfl] at e3
    unfold cont
    rw [e3, hf]
    simp
  | some x =>
    have hd2 : (putF nN (x.1 ++ frameF s, x.2) (doesF d)).cut = false := hc
    have e := fnd_put hd nN nN (x.1 ++ frameF s, x.2)
    rw [if_pos rfl] at e
    have hsy : syncF nN (putF nN (x.1 ++ frameF s, x.2) (doesF d)) = (none, putF nN (x.1 ++ frameF s, (x.1 ++ frameF s).size) (doesF (putF nN (x.1 ++ frameF s, x.2) (doesF d)))) := by unfold syncF; rw [e]; simp only []; rw [if_pos (onF_of hd2)]
    simp only [thenF_none, hsy]
    have hx := fnd_sz hok hf
    have hk : (doesF (putF nN (x.1 ++ frameF s, x.2) (doesF d))).ok (B + (s.size + 2)) := doesF_ok (putF_ok (hd.mono (by omega)) rfl (x := (x.1 ++ frameF s, x.2)) (by show (x.1 ++ frameF s).size ≤ _; rw [ByteArray.size_append, frameF_size]; omega) hx.2.1 (by show x.2 ≤ ((x.1 ++ frameF s).size : Int); rw [ByteArray.size_append]; omega)) (onF_of hd2)
    refine ⟨by first | rfl | trivial, by first | rfl | trivial, hc, ?_⟩
    have e3 := fnd_put hk nN nN (x.1 ++ frameF s, (x.1 ++ frameF s).size)
    rw [if_pos rfl] at e3
    unfold cont
    rw [e3, hf]
theorem set_on {d : Dk} {B : Nat} (hok : d.ok B) (hc : d.cut = false) (l : List ByteArray) : (setF l d).1 = none ∧ (setF l d).2.cut = false ∧ cont (setF l d).2 = frs l := by
  have hcl : ∃ d1, clrF d = (none, d1) ∧ d1.ok B ∧ d1.cut = false ∧ fnd fN d1 = none := by
    have hk := clrF_ok hok
    unfold clrF at *
    cases hf : fnd fN d with
    | none => exact ⟨d, rfl, hok, hc, hf⟩
    | some x =>
      rw [hf] at hk
      simp only [] at hk ⊢
      have e : removeF fN d = (none, delF fN (doesF d)) := by unfold removeF; rw [hf]; simp only []; rw [if_pos (onF_of hc)]
      rw [e] at hk ⊢
      refine ⟨_, rfl, hk, hc, ?_⟩
      have := fnd_del (doesF_ok hok (onF_of hc)) fN fN
      rw [if_pos rfl] at this
      exact this
  obtain ⟨d1, h1, hk1, hc1, hf1⟩ := hcl
  have h2 : appendF fN (frs l) d1 = (none, putF fN (frs l, -1) (doesF d1)) := by rw [append_on hc1 badN_fN, hf1]
  have hk2 := appendF_ok hk1 fN (frs l)
  rw [h2] at hk2
  have hc2 : (putF fN (frs l, -1) (doesF d1)).cut = false := hc1
  have e2 := fnd_put (doesF_ok hk1 (onF_of hc1)) fN fN (frs l, -1)
  rw [if_pos rfl] at e2
  generalize putF fN (frs l, -1) (doesF d1) = d2 at *
  have h3 : syncF fN d2 = (none, putF fN (frs l, (frs l).size) (doesF d2)) := by unfold syncF; rw [e2]; simp only []; rw [if_pos (onF_of hc2)]
  have hk3 := syncF_ok hk2 fN
  rw [h3] at hk3
  have hc3 : (putF fN (frs l, (frs l).size) (doesF d2)).cut = false := hc2
  have e3 := fnd_put (doesF_ok hk2 (onF_of hc2)) fN fN (frs l, ((frs l).size : Int))
  rw [if_pos rfl] at e3
  generalize putF fN (frs l, ((frs l).size : Int)) (doesF d2) = d3 at *
  rw [setF_e3 h1 h2 h3]
  have h4 : moveF fN nN d3 = (none, putF nN (frs l, (frs l).size) (delF fN (doesF d3))) := by unfold moveF; rw [if_neg (by rw [badN_nN]; decide), e3]; simp only []; rw [if_pos (onF_of hc3)]
  rw [h4]
  refine ⟨rfl, hc3, ?_⟩
  have e4 := fnd_put (delF_ok (f := fN) (doesF_ok hk3 (onF_of hc3))) nN nN (frs l, ((frs l).size : Int))
  rw [if_pos rfl] at e4
  unfold cont
  rw [e4]
end Go.PL
