/-
  Plain laws on bits as letters: no program is in sight.
-/
import Derived.Test.YtogpkeoahlkokaaDoorPBits
namespace Go.PL
open Go Go.GK

def ch (b : Bool) : UInt8 := if b then 49 else 48
def lett (bs : List Bool) : ByteArray := ⟨(bs.map ch).toArray⟩

theorem lett_size (bs : List Bool) : (lett bs).size = bs.length := by
  show (bs.map ch).toArray.size = _
  simp
theorem lett_app (a b : List Bool) : lett a ++ lett b = lett (a ++ b) := by
  refine ByteArray.ext ?_
  rw [ByteArray.data_append]
  simp [lett]
theorem lett_get (bs : List Bool) (i : Nat) : (lett bs)[i]? = (bs[i]?).map ch := by
  by_cases h : i < bs.length
  · rw [List.getElem?_eq_getElem h, getElem?_pos (lett bs) i (by rw [lett_size]; exact h)]
    refine congrArg some ?_
    have e : (lett bs)[i]'(by rw [lett_size]; exact h) = (lett bs).data[i]'(by show i < (lett bs).size; rw [lett_size]; exact h) := rfl
    rw [e]
    simp [lett]
  · rw [List.getElem?_eq_none (by omega), getElem?_neg (lett bs) i (by rw [lett_size]; exact h)]
    rfl
theorem testBit_mod (u k : Nat) : u / 2 ^ k % 2 = (u.testBit k).toNat := by
  rw [Nat.testBit_eq_decide_div_mod_eq]
  rcases Nat.mod_two_eq_zero_or_one (u / 2 ^ k) with h | h <;> rw [h] <;> rfl
theorem lett_rep (n : Nat) : lett (List.replicate n true) = ⟨(List.replicate n (49 : UInt8)).toArray⟩ := by
  simp [lett, ch]

theorem lett_ext (bs : List Bool) (a b : Nat) : (lett bs).extract a b = lett ((bs.take b).drop a) := by
  refine ByteArray.ext ?_
  rw [ByteArray.data_extract]
  apply Array.toList_inj.1
  simp [lett, List.map_drop, List.map_take, List.extract]
  rw [List.drop_take]
theorem valB_le (l : List Bool) (i : Nat) (h : l.length ≤ 64) (hi : i ≤ l.length) : valB (l.take i) < 18446744073709551616 := by
  have h1 := valB_lt (l.take i)
  rw [List.length_take] at h1
  exact Nat.lt_of_lt_of_le h1 (Nat.pow_le_pow_right (n := 2) (by omega) (by omega : min i l.length ≤ 64))
/-- How long a class's numbers are. -/
def lenC (c : Nat) : Nat := c + sizeF c + min 1 (6 - c)
theorem putF_lenC (n : Int) : (putF n).length = lenC (clsF (zigF n)) := by
  unfold putF pre lenC
  have h6 := clsF_le (zigF n)
  rw [List.length_append, lowBits_len]
  generalize clsF (zigF n) = k at h6
  match k, h6 with
  | 0, _ => decide
  | 1, _ => decide
  | 2, _ => decide
  | 3, _ => decide
  | 4, _ => decide
  | 5, _ => decide
  | 6, _ => decide
theorem lenC_inj {a b : Nat} (ha : a ≤ 6) (hb : b ≤ 6) (h : lenC a = lenC b) : a = b := by
  have key : ∀ a b : Fin 7, lenC a.val = lenC b.val → a.val = b.val := by decide
  exact key ⟨a, by omega⟩ ⟨b, by omega⟩ h
theorem clsF_iff {u k : Nat} (hk : k ≤ 6) (hu : u < 2 ^ sizeF k) : clsF u = k ↔ ¬ (0 < k ∧ u >>> sizeF (k - 1) = 0) := by
  constructor
  · rintro rfl ⟨h0, h1⟩
    exact clsF_min (by omega) h1
  · intro h
    rw [Nat.shiftRight_eq_div_pow] at h
    have hge : k = 0 ∨ 2 ^ sizeF (k - 1) ≤ u := by
      rcases Nat.eq_zero_or_pos k with h0 | h0
      · exact .inl h0
      · refine .inr ?_
        rcases Nat.lt_or_ge u (2 ^ sizeF (k - 1)) with h2 | h2
        · exact absurd ⟨h0, Nat.div_eq_of_lt h2⟩ h
        · exact h2
    unfold clsF
    match k, hk with
    | 0, _ => simp [sizeF] at *; omega
    | 1, _ => simp [sizeF] at *; (repeat' split) <;> omega
    | 2, _ => simp [sizeF] at *; (repeat' split) <;> omega
    | 3, _ => simp [sizeF] at *; (repeat' split) <;> omega
    | 4, _ => simp [sizeF] at *; (repeat' split) <;> omega
    | 5, _ => simp [sizeF] at *; (repeat' split) <;> omega
    | 6, _ => simp [sizeF] at *; (repeat' split) <;> omega
theorem byteN_add (bs : List Bool) : byteN (bs ++ [true]) (bs.length / 8) = byteN bs (bs.length / 8) + 2 ^ (7 - bs.length % 8) := by
  unfold byteN
  have hr : bs.length % 8 < 8 := Nat.mod_lt _ (by omega)
  have hf : ∀ j, j < 8 → bitG (bs ++ [true]) (8 * (bs.length / 8) + j) = if j = bs.length % 8 then true else bitG bs (8 * (bs.length / 8) + j) := fun j hj => by
    rw [bitG_snoc]
    by_cases h : j = bs.length % 8
    · rw [if_pos (by omega), if_pos h]
    · rw [if_neg (by omega), if_neg h]
  have h0 : bitG bs (8 * (bs.length / 8) + bs.length % 8) = false := bitG_ge _ _ (by omega)
  rw [val8_congr hf]
  generalize bs.length % 8 = r at hr h0
  generalize 8 * (bs.length / 8) = q at h0
  unfold val8
  match r, hr with
  | 0, _ => simp only [Nat.add_zero] at h0; simp [h0]; omega
  | 1, _ => simp [h0]; omega
  | 2, _ => simp [h0]; omega
  | 3, _ => simp [h0]; omega
  | 4, _ => simp [h0]; omega
  | 5, _ => simp [h0]; omega
  | 6, _ => simp [h0]; omega
  | 7, _ => simp [h0]
end Go.PL
