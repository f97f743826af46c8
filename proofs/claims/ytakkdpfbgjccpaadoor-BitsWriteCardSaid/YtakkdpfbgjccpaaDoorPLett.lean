/-
  Plain laws on bits as letters: no program is in sight.
-/
import Derived.Test.YtakkdpfbgjccpaaDoorPBits
namespace Go.PL
open Go Go.GK

def ch (b : Bool) : UInt8 := if b then 49 else 48
def lett (bs : List Bool) : ByteArray := ⟨(bs.map ch).toArray⟩

theorem lett_size (bs : List Bool) : (lett bs).size = bs.length := by
  show (bs.map ch).toArray.size = _
  simp
theorem lett_app (a b : List Bool) : lett a ++ lett b = lett (a ++ b) := by
  refine ByteArray.ext ?_
  rw [ByteArray.data_append]
  simp [lett]
theorem lett_get (bs : List Bool) (i : Nat) : (lett bs)[i]? = (bs[i]?).map ch := by
  by_cases h : i < bs.length
  · rw [List.getElem?_eq_getElem h, getElem?_pos (lett bs) i (by rw [lett_size]; exact h)]
    refine congrArg some ?_
    have e : (lett bs)[i]'(by rw [lett_size]; exact h) = (lett bs).data[i]'(by show i < (lett bs).size; rw [lett_size]; exact h) := rfl
    rw [e]
    simp [lett]
  · rw [List.getElem?_eq_none (by omega), getElem?_neg (lett bs) i (by rw [lett_size]; exact h)]
    rfl
theorem testBit_mod (u k : Nat) : u / 2 ^ k % 2 = (u.testBit k).toNat := by
  rw [Nat.testBit_eq_decide_div_mod_eq]
  rcases Nat.mod_two_eq_zero_or_one (u / 2 ^ k) with h | h <;> rw [h] <;> rfl
theorem lett_rep (n : Nat) : lett (List.replicate n true) = ⟨(List.replicate n (49 : UInt8)).toArray⟩ := by
  simp [lett, ch]

theorem byteN_add (bs : List Bool) : byteN (bs ++ [true]) (bs.length / 8) = byteN bs (bs.length / 8) + 2 ^ (7 - bs.length % 8) := by
  unfold byteN
  have hr : bs.length % 8 < 8 := Nat.mod_lt _ (by omega)
  have hf : ∀ j, j < 8 → bitG (bs ++ [true]) (8 * (bs.length / 8) + j) = if j = bs.length % 8 then true else bitG bs (8 * (bs.length / 8) + j) := fun j hj => by
    rw [bitG_snoc]
    by_cases h : j = bs.length % 8
    · rw [if_pos (by omega), if_pos h]
    · rw [if_neg (by omega), if_neg h]
  have h0 : bitG bs (8 * (bs.length / 8) + bs.length % 8) = false := bitG_ge _ _ (by omega)
  rw [val8_congr hf]
  generalize bs.length % 8 = r at hr h0
  generalize 8 * (bs.length / 8) = q at h0
  unfold val8
  match r, hr with
  | 0, _ => simp only [Nat.add_zero] at h0; simp [h0]; omega
  | 1, _ => simp [h0]; omega
  | 2, _ => simp [h0]; omega
  | 3, _ => simp [h0]; omega
  | 4, _ => simp [h0]; omega
  | 5, _ => simp [h0]; omega
  | 6, _ => simp [h0]; omega
  | 7, _ => simp [h0]
end Go.PL
