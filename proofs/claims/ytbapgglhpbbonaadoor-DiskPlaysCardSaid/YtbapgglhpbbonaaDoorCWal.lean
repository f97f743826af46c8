/-
  Contracts: notes: one framed, those that are whole.
-/
import Derived.Test.YtbapgglhpbbonaaDoorCDisk3
import Derived.Test.YtbapgglhpbbonaaDoorCBld
import Derived.Test.YtbapgglhpbbonaaDoorPWal
namespace Go.Proofs.YtbapgglhpbbonaaDoor
open Go.GK Go.PL Go.RowKit
set_option maxRecDepth 100000
theorem u8hi {n : Nat} : IntKind.u8.wrap (Int.fdiv (n : Int) (2 ^ 8)) = ((UInt8.ofNat (n / 256)).toNat : Int) := by
  have e : Int.fdiv (n : Int) (2 ^ 8) = ((n / 256 : Nat) : Int) := by
    rw [Int.fdiv_eq_ediv_of_nonneg _ (by decide)]
    simp
  rw [e, UInt8.toNat_ofNat']
  simp [IntKind.wrap, IntKind.signed, IntKind.bits]
theorem u8lo {n : Nat} : IntKind.u8.wrap (n : Int) = ((UInt8.ofNat n).toNat : Int) := by
  rw [UInt8.toNat_ofNat']
  simp [IntKind.wrap, IntKind.signed, IntKind.bits]
theorem frame_rt (s : ByteArray) (h : s.size ≤ 4000000000) : Rt pg 34 [gs s] (gs (frameF s)) := by
  refine Rt.of pg_ok Tryd.func34 rfl Tryd.ntmps34 rfl Tryd.results34 Tryd.call34 fun H0 S0 w0 h0 g0 => ?_
  refine ⟨by decide, ?_⟩
  refine ⟨[UInt8.ofNat (s.size / 256), UInt8.ofNat s.size], ?_, ?_⟩
  · show [[GV.v (.int .u8 (IntKind.u8.wrap (Int.fdiv (s.size : Int) (2 ^ 8))))], [.v (.int .u8 (IntKind.u8.wrap (s.size : Int)))]] = _
    rw [u8hi, u8lo]
    rfl
  · refine ⟨by show 2 + s.size ≤ _; omega, ?_⟩
    exact ⟨rfl, rfl⟩
theorem or8 (a b : UInt8) : bitsV .or .i64 (IntKind.i64.wrap ((a.toNat : Int) * 2 ^ 8)) (b.toNat : Int) = ((a.toNat * 256 + b.toNat : Nat) : Int) := by
  have ha := a.toNat_lt
  have hb := b.toNat_lt
  have e1 : IntKind.i64.wrap ((a.toNat : Int) * 2 ^ 8) = ((a.toNat * 256 : Nat) : Int) := by rw [wrap_id (by omega) (by omega)]; omega
  rw [e1]
  show IntKind.i64.wrap (((BitVec.ofInt 64 ((a.toNat * 256 : Nat) : Int)) ||| (BitVec.ofInt 64 (b.toNat : Int))).toNat : Int) = _
  rw [BitVec.ofInt_natCast, BitVec.ofInt_natCast, BitVec.toNat_or, BitVec.toNat_ofNat, BitVec.toNat_ofNat, Nat.mod_eq_of_lt (by omega), Nat.mod_eq_of_lt (by omega)]
  have := Nat.two_pow_add_eq_or_of_lt (i := 8) (b := b.toNat) (by omega) a.toNat
  rw [show a.toNat * 256 = 2 ^ 8 * a.toNat by omega, ← this]
  exact wrap_id (by omega) (by omega)
theorem len_ofNat {n : Nat} (h : n < 65536) : (UInt8.ofNat (n / 256)).toNat * 256 + (UInt8.ofNat n).toNat = n := by
  rw [UInt8.toNat_ofNat', UInt8.toNat_ofNat']
  omega
theorem nsz {a b : UInt8} : bitsV .or .i64 (IntKind.i64.wrap (IntKind.i64.wrap (a.toNat : Int) * 2 ^ min (Int.toNat 8) IntKind.i64.bits)) (IntKind.i64.wrap (b.toNat : Int)) = ((a.toNat * 256 + b.toNat : Nat) : Int) := by
  have ha := a.toNat_lt
  have hb := b.toNat_lt
  rw [wrap_id (x := (a.toNat : Int)) (by omega) (by omega), wrap_id (x := (b.toNat : Int)) (by omega) (by omega)]
  exact or8 a b
theorem notes_rt (l : List ByteArray) (p : ByteArray) (hl : ∀ x ∈ l, x.size < 65536) (hp : Torn p) (hsz : (frs l ++ p).size ≤ 4000000000000) : Rt pg 30 [gs (frs l ++ p)] (.tup [.sl 1 (l.map fun x => [gs x]), gi ((frs l).size : Int)]) := by
  refine Rt.of pg_ok Tryd.func30 rfl Tryd.ntmps30 rfl Tryd.results30 Tryd.call30 fun H0 S0 w0 h0 g0 => ?_
  have hsz' : (frs l).size + p.size ≤ 4000000000000 := by rw [ByteArray.size_append] at hsz; exact hsz
  have hlen := frs_len l
  refine JK.ownNil 4 9 1 rfl ?_
  refine JK.loopE (α := Nat) (β := Unit) (fun i => ⟨[(0, gs (frs l ++ p)), (5, gi ((frs (l.take i)).size : Int)), (4, .o 0)], [(0, .row 9 1 ((l.take i).map fun x => [gs x]))], 1⟩) (fun i => i ≤ l.length) (fun i => l.length - i)
    (fun _ => ⟨[(5, gi ((frs l).size : Int)), (4, .o 0)], [(0, .row 9 1 (l.map fun x => [gs x]))], 1⟩) (fun _ => True) 0 id ?_ (Nat.zero_le _) ?_ ?_
  · exact ⟨⟨rfl, rfl, rfl, trivial⟩, ⟨rfl, trivial⟩, rfl⟩
  · intro i hi
    refine V ?_
    by_cases hlt : i < l.length
    · have hx := hl l[i] (List.getElem_mem hlt)
      have hC : frs l ++ p = frs (l.take i) ++ (frameF l[i] ++ (frs (l.drop (i + 1)) ++ p)) := by
        have e : frs l = frs (l.take i) ++ (frameF l[i] ++ frs (l.drop (i + 1))) := by
          conv => lhs; rw [← List.take_append_drop i l, List.drop_eq_getElem_cons hlt]
          rw [frs_app]
          rfl
        rw [e]
        simp only [ByteArray.append_assoc]
      have hs1 : (frs l ++ p).size = (frs (l.take i)).size + (l[i].size + 2 + (frs (l.drop (i + 1)) ++ p).size) := by rw [hC, ByteArray.size_append, ByteArray.size_append, frameF_size]
      have b0 := hd0 (frs (l.take i)) l[i] (frs (l.drop (i + 1)) ++ p)
      have b1 := hd1 (frs (l.take i)) l[i] (frs (l.drop (i + 1)) ++ p)
      have b2 := hd2 (frs (l.take i)) l[i] (frs (l.drop (i + 1)) ++ p)
      rw [← hC] at b0 b1 b2
      have hA : (frs (l.take (i + 1))).size = (frs (l.take i)).size + (l[i].size + 2) := by
        rw [List.take_add_one, List.getElem?_eq_getElem hlt, frs_app, ByteArray.size_append]
        show _ + (frameF l[i] ++ ByteArray.empty).size = _
        rw [ByteArray.size_append, frameF_size]
        rfl
      generalize hCC : frs l ++ p = C at *
      generalize hAA : frs (l.take i) = A at *
      refine p1 ?_ (decide_eq_true (by rw [wrap_id (by omega) (by omega)]; omega))
      have ew : IntKind.i64.wrap ((A.size : Int) + 1) = ((A.size + 1 : Nat) : Int) := by rw [wrap_id (by omega) (by omega)]; omega
      refine ⟨by kernel_rfl, ?_⟩
      refine ⟨UInt8.ofNat (l[i].size / 256), Int.natCast_nonneg _, b0, ?_⟩
      refine ⟨by decide, ?_⟩
      refine ⟨UInt8.ofNat l[i].size, by rw [ew]; omega, by rw [ew]; exact b1, ?_⟩
      have hn := nsz (a := UInt8.ofNat (l[i].size / 256)) (b := UInt8.ofNat l[i].size)
      rw [len_ofNat hx] at hn
      have w1 : IntKind.i64.wrap (IntKind.i64.wrap ((C.size : Int) - A.size) - 2) = (C.size : Int) - A.size - 2 := by rw [wrap_id (x := (C.size : Int) - A.size) (by omega) (by omega), wrap_id (by omega) (by omega)]
      have w2 : IntKind.i64.wrap ((A.size : Int) + 2) = ((A.size + 2 : Nat) : Int) := by rw [wrap_id (by omega) (by omega)]; omega
      have w3 : IntKind.i64.wrap (((A.size + 2 : Nat) : Int) + (l[i].size : Int)) = ((A.size + 2 + l[i].size : Nat) : Int) := by rw [wrap_id (by omega) (by omega)]; omega
      have w4 : IntKind.i64.wrap ((A.size : Int) + IntKind.i64.wrap (2 + (l[i].size : Int))) = (((frs (l.take (i + 1))).size : Nat) : Int) := by rw [hA, wrap_id (x := 2 + (l[i].size : Int)) (by omega) (by omega), wrap_id (by omega) (by omega)]; omega
      refine p2 ?_ (decide_eq_false (by rw [hn, w1]; omega))
      refine ⟨by rw [w2]; omega, by rw [hn, w2, w3]; omega, by rw [hn, w2, w3]; omega, ?_⟩
      refine ⟨by simp only [List.length_map, List.length_take, List.length_cons, List.length_nil]; omega, ?_⟩
      refine ⟨i + 1, fun _ => 2, ⟨⟨rfl, ?_, rfl, trivial⟩, ⟨?_, trivial⟩, rfl⟩, hlt, by show l.length - (i + 1) < l.length - i; omega⟩
      · refine congrArg (fun n => some (gi n)) ?_
        rw [hn]
        exact w4
      · refine congrArg (fun x => some (Res.row 9 1 x)) ?_
        rw [List.take_add_one, List.getElem?_eq_getElem hlt, List.map_append]
        refine congrArg (fun x => _ ++ [[gs x]]) ?_
        rw [hn, w2, w3]
        exact b2
    · obtain rfl : i = l.length := by omega
      rw [List.take_length]
      have hC1 : (frs l ++ p).size = (frs l).size + p.size := ByteArray.size_append
      rcases hp with hp | ⟨a, b, ha, hb, hab⟩
      · refine p2 ?_ (decide_eq_false (by rw [hC1, wrap_id (by omega) (by omega)]; omega))
        exact ⟨(), id, ⟨⟨rfl, rfl, trivial⟩, ⟨rfl, trivial⟩, rfl⟩, trivial⟩
      · have hp1 : 1 < p.size := by
          rcases Nat.lt_or_ge 1 p.size with h | h
          · exact h
          · rw [getElem?_neg p 1 (by omega)] at hb; cases hb
        have b0 := ba_get_r (frs l) p 0
        have b1 := ba_get_r (frs l) p 1
        rw [ha, Nat.add_zero] at b0
        rw [hb] at b1
        have ew : IntKind.i64.wrap (((frs l).size : Int) + 1) = (((frs l).size + 1 : Nat) : Int) := by rw [wrap_id (by omega) (by omega)]; omega
        generalize hCC : frs l ++ p = C at *
        generalize hAA : frs l = A at *
        refine p1 ?_ (decide_eq_true (by rw [wrap_id (by omega) (by omega)]; omega))
        refine ⟨by kernel_rfl, ?_⟩
        refine ⟨a, Int.natCast_nonneg _, b0, ?_⟩
        refine ⟨by decide, ?_⟩
        refine ⟨b, by rw [ew]; omega, by rw [ew]; exact b1, ?_⟩
        have w1 : IntKind.i64.wrap (IntKind.i64.wrap ((C.size : Int) - A.size) - 2) = (C.size : Int) - A.size - 2 := by rw [wrap_id (x := (C.size : Int) - A.size) (by omega) (by omega), wrap_id (by omega) (by omega)]
        refine p1 ?_ (decide_eq_true (by rw [nsz, w1]; omega))
        exact ⟨(), id, ⟨⟨rfl, rfl, trivial⟩, ⟨rfl, trivial⟩, rfl⟩, trivial⟩
  · rintro _ _
    refine FRZ 0 rfl ?_
    exact ⟨⟨rfl, rfl, trivial⟩, rfl⟩
end Go.Proofs.YtbapgglhpbbonaaDoor
