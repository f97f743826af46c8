/-
  raingaugeref.Of: bytes as letters: walked over the library's own strings.Builder (the shelf's contracts).
-/
import Derived.Test.YtfnomonhfndbiaaGreatDoorCRefBits
import Derived.Test.YtfnomonhfndbiaaGreatDoorSBuilder
import Derived.Test.YtfnomonhfndbiaaGreatDoorCWriteByte
import Derived.WalkKit
import Derived.BigCall
import Derived.Lib.Hide
namespace Go.Proofs.YtfnomonhfndbiaaGreatDoor
open Go.GK Go.PL Go.RowKit

def ofL (s : ByteArray) (k : Nat) : List UInt8 := (bitsOf (s.data.toList.take k)).map ch
def ofB (x : UInt8) (j : Nat) : List UInt8 := ((byteBits x).take (8 - j)).map ch

theorem ofbit (x : UInt8) (m : Nat) (hm : m < 8) : (48 + Go.bits .and .u8 ((x.toNat : Int) / 2 ^ m) 1) % 256 = ((ch (x.toNat.testBit m)).toNat : Int) := by
  have key : ∀ (n : Fin 256) (m : Fin 8), (48 + Go.bits .and .u8 ((n.val : Int) / 2 ^ m.val) 1) % 256 = ((ch (n.val.testBit m.val)).toNat : Int) := by decide +kernel
  exact key ⟨x.toNat, x.toNat_lt⟩ ⟨m, hm⟩
theorem ofL_len (s : ByteArray) (k : Nat) : (ofL s k).length = 8 * min k s.size := by
  unfold ofL
  rw [List.length_map, bitsOf_len, List.length_take]
  rfl
theorem ofL_succ (s : ByteArray) (k : Nat) (h : k < s.size) : ofL s (k + 1) = ofL s k ++ ofB (s[k]'h) 0 := by
  unfold ofL ofB
  have h' : k < s.data.toList.length := by simpa using h
  rw [List.take_succ_eq_append_getElem h', ← List.map_append]
  congr 1
  unfold bitsOf
  rw [List.flatMap_append, List.flatMap_singleton]
  congr 1
theorem ofB_succ (x : UInt8) (m : Nat) (hm : m < 8) : ofB x m = ofB x (m + 1) ++ [ch (x.toNat.testBit m)] := by
  unfold ofB
  have h8 : (byteBits x).length = 8 := by simp [byteBits]
  rw [show 8 - m = (8 - (m + 1)) + 1 by omega, List.take_succ_eq_append_getElem (by omega), List.map_append]
  congr 1
  simp [byteBits]
  congr 2
  omega

set_option maxHeartbeats 4000000 in
set_option maxRecDepth 1000000 in
theorem of_walk (s : ByteArray) (w : World) (hs : s.size ≤ 1000000) :
    Calls Tryz.prog 70 #[.string s] w fun e w' => e = .returned (.string (lett (bitsOf s.data.toList))) ∧ Below w.heap.size w w' := by
  have h0 : Lib.IsBuilderF 81 5 w.heap.size w.heap.size [] (w.alloc (.cells #[.pointer none, .slice none 0 0] 81)) := Lib.IsBuilderF.of (Lib.fresh_isBuilder 81 5 w)
  have b0 : Below w.heap.size w (w.alloc (.cells #[.pointer none, .slice none 0 0] 81)) := (Below.refl _ w).alloc (Nat.le_refl _) _
  go_enter Tryz.func70, Tryz.ntmps70
  go_wp2
  go_loopw [8] (fun i wr => ∃ k : Nat, k ≤ s.size ∧ i = .int .i64 k ∧ Lib.IsBuilderF 81 5 w.heap.size w.heap.size (Lib.byteCells (ofL s k)) wr ∧ Below w.heap.size w wr) (fun i _ => s.size - (intOf i).toNat)
  case atStart =>
    exact ⟨0, by omega, rfl, h0, b0⟩
  case round =>
    obtain ⟨k, hk, rfl, hI, hb⟩ := hrel
    by_cases hlt : k < s.size
    · have hlen := ofL_len s k
      have hsucc := Lib.hid (ofL_succ s k hlt)
      go_wp2
      go_loopw [5] (fun i wr => ∃ m : Int, -1 ≤ m ∧ m ≤ 7 ∧ i = .int .i64 m ∧ Lib.IsBuilderF 81 5 w.heap.size w.heap.size (Lib.byteCells (ofL s k ++ ofB (s[k]'hlt) (m + 1).toNat)) wr ∧ Below w.heap.size w wr) (fun i _ => (intOf i + 1).toNat)
      case atStart =>
        exact ⟨7, by omega, by omega, rfl, by rw [show ofB (s[k]'hlt) (7 + 1 : Int).toNat = [] from rfl, List.append_nil]; exact hI, hb⟩
      case round =>
        obtain ⟨m, hm1, hm7, rfl, hI, hb⟩ := hrel
        by_cases hm : 0 ≤ m
        · go_wp2_with (go_at_call 93; refine (writeByte_k w.heap.size w.heap.size _ _ _ hI (by rw [Lib.byteCells_length, List.length_append, hlen]; have : (ofB (s[k]'hlt) (m + 1).toNat).length ≤ 8 := (by unfold ofB; rw [List.length_map, List.length_take]; omega); omega) hb.size).mono ?_)
          rintro e W1 ⟨rfl, h1, b1, k1⟩
          go_wp2
          go_roundw
          case rel =>
            refine ⟨m - 1, by omega, by omega, rfl, ?_, hb.trans b1⟩
            have e1 : (m - 1 + 1).toNat = m.toNat := by omega
            have e2 : (m + 1).toNat = m.toNat + 1 := by omega
            rw [e2, ofbit (s[k]'hlt) m.toNat (by omega)] at h1
            rw [e1, ofB_succ _ _ (by omega : m.toNat < 8), ← List.append_assoc, Lib.byteCells_append]
            exact Or.inr h1
          case measure =>
            simp [intOf]; omega
        · go_wp2
          go_roundw
          case rel =>
            refine ⟨k + 1, by omega, rfl, ?_, hb⟩
            rw [hsucc.out, show (0 : Nat) = (m + 1).toNat by omega]
            exact hI
          case measure =>
            simp [intOf]; omega
    · go_wp2_with (go_at_call 39; refine (Tryz.Builder_String_any_k w.heap.size w.heap.size (ofL s k) _ hI hb.size).mono ?_)
      rintro e W1 ⟨rfl, _, b1, _⟩
      go_wp2
      go_ret
      obtain rfl : k = s.size := by omega
      refine ⟨?_, hb.trans b1⟩
      unfold ofL lett
      rw [List.take_of_length_le (by simp)]
      rfl
theorem of_ct (s : ByteArray) (hs : s.size ≤ 1000000) : Ct pg 70 0 [gs s] [] (Val fun g => g = gs (lett (bitsOf s.data.toList))) :=
  Ct.of_below [.string s] _ fun w => of_walk s w hs
end Go.Proofs.YtfnomonhfndbiaaGreatDoor
