/-
  Contracts: the document's answer on bits (raingaugeref: Zig, Zag, Add, Bytes, size, Put).
-/
import Derived.Test.YtfnomonhfndbiaaGreatDoorCBits
import Derived.Test.YtfnomonhfndbiaaGreatDoorPBa
import Derived.Test.YtfnomonhfndbiaaGreatDoorGKg
import Derived.Test.YtfnomonhfndbiaaGreatDoorSRepeat
namespace Go.Proofs.YtfnomonhfndbiaaGreatDoor
open Go.GK Go.PL
set_option maxRecDepth 100000

theorem refZig_ct (n : Int) (h1 : -9223372036854775808 ≤ n) (h2 : n ≤ 9223372036854775807) : Ct pg 74 0 [gi n] [] (Val fun g => g = gu (zigF n)) := by
  refine Ct.val (Ct.of_JK pg_ok Tryz.func74 rfl Tryz.ntmps74 rfl Tryz.results74 fun H0 S0 w0 h0 g0 => ?_)
  refine vc_sound pg_ok 200 _ _ ?_
  by_cases h : n < 0
  · refine pos (by simpa using h) ?_
    refine ⟨congrArg (fun x => GV.v (.int .u64 x)) ?_, rfl⟩
    simp only [IntKind.wrap_u64]
    unfold zigF
    rw [if_pos h]
    omega
  · refine neg (by simpa using h) ?_
    refine ⟨congrArg (fun x => GV.v (.int .u64 x)) ?_, rfl⟩
    simp only [IntKind.wrap_u64]
    unfold zigF
    rw [if_neg h]
    omega
theorem refZag_ct (u : Nat) (hu : u < 18446744073709551616) : Ct pg 91 0 [gu u] [] (Val fun g => g = gi (zagF u)) := by
  refine Ct.val (Ct.of_JK pg_ok Tryz.func91 rfl Tryz.ntmps91 rfl Tryz.results91 fun H0 S0 w0 h0 g0 => ?_)
  refine vc_sound pg_ok 200 _ _ ?_
  have e1 : ((u : Int).tmod 2) = ((u % 2 : Nat) : Int) := by rw [Int.tmod_eq_emod_of_nonneg (by omega)]; rfl
  have e2 : ((u : Int).tdiv 2) = ((u / 2 : Nat) : Int) := by rw [Int.tdiv_eq_ediv_of_nonneg (by omega)]; rfl
  refine ⟨by omega, ?_⟩
  by_cases h : u % 2 = 1
  · refine pos (by rw [e1, h]; rfl) ?_
    refine ⟨by omega, ?_⟩
    refine ⟨congrArg (fun x => GV.v (.int .i64 x)) ?_, rfl⟩
    rw [e2]
    simp only [IntKind.wrap_u64, IntKind.wrap_i64]
    unfold zagF
    rw [if_neg (by omega)]
    omega
  · refine neg (by rw [e1, show u % 2 = 0 by omega]; rfl) ?_
    refine ⟨by omega, ?_⟩
    refine ⟨congrArg (fun x => GV.v (.int .i64 x)) ?_, rfl⟩
    rw [e2]
    simp only [IntKind.wrap_u64, IntKind.wrap_i64]
    unfold zagF
    rw [if_pos (by omega)]
    omega
theorem size_ct (k : Nat) (h : k ≤ 6) : Ct pg 75 0 [gi k] [] (Val fun g => g = gi (sizeF k : Nat)) := by
  refine Ct.val (Ct.of_JK pg_ok Tryz.func75 rfl Tryz.ntmps75 rfl Tryz.results75 fun H0 S0 w0 h0 g0 => ?_)
  refine vc_sound pg_ok 200 _ _ ?_
  refine ⟨gi (sizeF k : Nat), by omega, by omega, ?_, ?_⟩
  · match k, h with
    | 0, _ => rfl
    | 1, _ => rfl
    | 2, _ => rfl
    | 3, _ => rfl
    | 4, _ => rfl
    | 5, _ => rfl
    | 6, _ => rfl
  · exact ⟨rfl, rfl⟩
theorem repeat_ct (s : ByteArray) (c : Nat) (hc : c ≤ 9223372036854775807) (hlen : s.size * c ≤ 140737488355328) : Ct pg 76 0 [gs s, gi c] [] (Val fun g => g = gs ⟨(Lib.repeatL s.data.toList c).toArray⟩) :=
  Ct.of_below [.string s, .int .i64 c] _ fun w => Tryz.strings_Repeat s c w hc hlen
theorem refAdd_ct (bs : List Bool) (u : Nat) (k : Int) (hu : u < 18446744073709551616) (hl : bs.length ≤ 1000000000) : Ct pg 77 0 [gs (lett bs), gu u, gi k] [] (Val fun g => g = gs (lett (bs ++ lowBits u (min k.toNat 64)))) := by
  refine Ct.val (Ct.of_JK pg_ok Tryz.func77 rfl Tryz.ntmps77 rfl Tryz.results77 fun H0 S0 w0 h0 g0 => ?_)
  generalize hkk : min k.toNat 64 = kk
  have ek : (if (if (64 : Int) < k then 64 else k) < 0 then 0 else (if (64 : Int) < k then 64 else k)) = (kk : Int) := by
    by_cases h1 : 64 < k
    · rw [if_pos h1, if_neg (by omega)]; omega
    · rw [if_neg h1]
      by_cases h2 : k < 0
      · rw [if_pos h2]; omega
      · rw [if_neg h2]; omega
  refine vc_sound pg_ok 200 _ _ ?_
  refine JK.loop (α := Nat) (fun j => ⟨[(0, gs (lett bs)), (1, gu (u / 2 ^ j)), (7, gs (lett (lowBits u j))), (10, gi kk), (11, gi j)], [], 0⟩) (fun j => j ≤ kk) (fun j => kk - j) 0 id ?_ (Nat.zero_le _) ?_
  · refine ⟨⟨rfl, ?_, rfl, ?_, rfl, trivial⟩, trivial, rfl⟩
    · show some (gu u) = some (gu (u / 2 ^ 0)); simp
    · exact congrArg (fun x => some (gi x)) ek
  · intro j hj
    refine vc_sound pg_ok 200 _ _ ?_
    have hl0 := lowBits_len u j
    by_cases hjk : j < kk
    · refine pos (by simp <;> omega) ?_
      refine ⟨by omega, ?_⟩
      have e1 : (((u / 2 ^ j : Nat) : Int).tmod 2) = (((u.testBit j).toNat : Nat) : Int) := by
        rw [← testBit_mod, Int.tmod_eq_emod_of_nonneg (Int.natCast_nonneg _)]; rfl
      have e2 : (((u / 2 ^ j : Nat) : Int).tdiv 2) = ((u / 2 ^ (j + 1) : Nat) : Int) := by
        rw [Int.tdiv_eq_ediv_of_nonneg (Int.natCast_nonneg _), Nat.pow_succ, ← Nat.div_div_eq_div_mul]; rfl
      refine ⟨[ch (u.testBit j)], ?_, ?_⟩
      · rw [e1]
        cases u.testBit j <;> rfl
      · have hs1 : (⟨[ch (u.testBit j)].toArray⟩ : ByteArray) = lett [u.testBit j] := rfl
        rw [hs1]
        refine ⟨by rw [lett_size, lett_size]; simp; omega, ?_⟩
        refine ⟨by omega, ?_⟩
        refine ⟨j + 1, id, ⟨⟨rfl, ?_, ?_, rfl, succ_gi (by omega), trivial⟩, trivial, rfl⟩, by omega, by show kk - (j + 1) < kk - j; omega⟩
        · show some (GV.v (.int .u64 _)) = some (gu _)
          rw [e2]
          have h3 : u / 2 ^ (j + 1) < 18446744073709551616 := Nat.lt_of_le_of_lt (Nat.div_le_self _ _) hu
          generalize u / 2 ^ (j + 1) = x at h3
          rw [IntKind.wrap_u64]
          congr 3
          omega
        · show some (gs _) = some (gs _)
          rw [lett_app, lowBits_succ]
          rfl
    · refine neg (by simp <;> omega) ?_
      have : j = kk := by omega
      subst this
      refine vc_sound pg_ok 200 _ _ ?_
      refine ⟨by rw [lett_size, lett_size]; omega, ?_⟩
      refine ⟨?_, rfl⟩
      show gs _ = gs _
      rw [lett_app]
theorem refPut_ct (bs : List Bool) (n : Int) (h1 : -9223372036854775808 ≤ n) (h2 : n ≤ 9223372036854775807) (hl : bs.length ≤ 100000000) : Ct pg 58 0 [gs (lett bs), gi n] [] (Val fun g => g = gs (lett (bs ++ putF n))) := by
  refine Ct.val (Ct.of_JK pg_ok Tryz.func58 rfl Tryz.ntmps58 rfl Tryz.results58 fun H0 S0 w0 h0 g0 => ?_)
  have hz := zig_lt h1 h2
  have hc6 := clsF_le (zigF n)
  refine vc_sound pg_ok 200 _ _ ?_
  refine JK.call (n0 := 0) (r := id) (refZig_ct n h1 h2) Tryz.call74 rfl rfl rfl rfl rfl trivial rfl (by simp) ?_
  rintro g σ' n' ⟨rfl, rfl, rfl⟩
  refine vc_sound pg_ok 200 _ _ ?_
  have hput : putF n = pre (clsF (zigF n)) ++ lowBits (zigF n) (sizeF (clsF (zigF n))) := rfl
  generalize hu : zigF n = u at hz hc6 hput
  have hmin : ∀ k, k < clsF u → u >>> sizeF k ≠ 0 := fun k h => clsF_min h
  have hmax : ∀ k, clsF u ≤ k → k < 6 → u >>> sizeF k = 0 := fun k h h' => clsF_max h h'
  generalize hc : clsF u = c at hc6 hput hmin hmax
  have hpw : ∀ k, k < 6 → IntKind.u64.wrap (1 * 2 ^ (min ((sizeF k : Nat) : Int).toNat IntKind.u64.bits)) = ((2 ^ sizeF k : Nat) : Int) := fun k hk => by
    match k, hk with
    | 0, _ => rfl
    | 1, _ => rfl
    | 2, _ => rfl
    | 3, _ => rfl
    | 4, _ => rfl
    | 5, _ => rfl
  refine JK.loopE (α := Nat) (β := Unit) (fun k => ⟨[(0, gs (lett bs)), (5, gu u), (6, gi k)], [], 0⟩) (fun k => k ≤ c) (fun k => c - k) (fun _ => ⟨[(0, gs (lett bs)), (5, gu u), (6, gi c)], [], 0⟩) (fun _ => True) 0 id ?_ (Nat.zero_le _) ?_ ?_
  · exact ⟨⟨rfl, rfl, rfl, trivial⟩, trivial, rfl⟩
  · intro k hk
    refine vc_sound pg_ok 200 _ _ ?_
    by_cases hk6 : k < 6
    · refine pos (by simp <;> omega) ?_
      refine JK.call (n0 := 0) (r := id) (size_ct k (by omega)) Tryz.call75 rfl rfl rfl rfl rfl trivial rfl (by simp) ?_
      rintro g σ' n' ⟨rfl, rfl, rfl⟩
      refine vc_sound pg_ok 200 _ _ ?_
      refine ⟨by omega, ?_⟩
      by_cases hck : c ≤ k
      · have e : k = c := by omega
        have e0 := hmax k hck hk6
        have hlt : u < 2 ^ sizeF k := by
          rw [Nat.shiftRight_eq_div_pow] at e0
          exact (Nat.div_eq_zero_iff_lt (Nat.two_pow_pos _)).1 e0
        refine neg (by rw [hpw k hk6]; exact decide_eq_false (by omega)) ?_
        subst e
        exact ⟨(), id, ⟨⟨rfl, rfl, rfl, trivial⟩, trivial, rfl⟩, trivial⟩
      · have e0 := hmin k (by omega)
        have hle : 2 ^ sizeF k ≤ u := by
          rw [Nat.shiftRight_eq_div_pow] at e0
          exact Nat.le_of_not_lt fun h => e0 (Nat.div_eq_of_lt h)
        refine pos (by rw [hpw k hk6]; exact decide_eq_true (by omega)) ?_
        exact ⟨k + 1, id, ⟨⟨rfl, rfl, succ_gi (by omega), trivial⟩, trivial, rfl⟩, by omega, by show c - (k + 1) < c - k; omega⟩
    · have e : k = 6 := by omega
      subst e
      have e : c = 6 := by omega
      subst e
      refine neg rfl ?_
      exact ⟨(), id, ⟨⟨rfl, rfl, rfl, trivial⟩, trivial, rfl⟩, trivial⟩
  · intro _ _
    have hs64 := sizeF_le c
    have hrep : (⟨(Lib.repeatL (⟨#[49]⟩ : ByteArray).data.toList c).toArray⟩ : ByteArray) = lett (List.replicate c true) := by
      rw [lett_rep, show (⟨#[49]⟩ : ByteArray).data.toList = List.replicate 1 (49 : UInt8) from rfl, Lib.repeatL_replicate, Nat.mul_one]
    refine vc_sound pg_ok 200 _ _ ?_
    refine JK.call (n0 := 0) (r := id) (repeat_ct ⟨#[49]⟩ c (by omega) (by show 1 * c ≤ _; omega)) Tryz.call76 rfl rfl rfl rfl rfl trivial rfl (by simp) ?_
    rintro g σ' n' ⟨rfl, rfl, rfl⟩
    refine vc_sound pg_ok 200 _ _ ?_
    rw [hrep]
    refine ⟨by rw [lett_size, lett_size]; simp; omega, ?_⟩
    rw [lett_app]
    by_cases hc6' : c < 6
    · have ep : bs ++ List.replicate c true ++ [false] ++ lowBits u (min ((sizeF c : Nat) : Int).toNat 64) = bs ++ putF n := by
        rw [hput, pre, if_pos hc6', show min ((sizeF c : Nat) : Int).toNat 64 = sizeF c by omega]; simp
      refine pos (by simp <;> omega) ?_
      have h0 : (⟨#[48]⟩ : ByteArray) = lett [false] := rfl
      rw [h0]
      refine ⟨by rw [lett_size, lett_size]; simp; omega, ?_⟩
      rw [lett_app]
      refine JK.call (n0 := 0) (r := id) (size_ct c (by omega)) Tryz.call75 rfl rfl rfl rfl rfl trivial rfl (by simp) ?_
      rintro g σ' n' ⟨rfl, rfl, rfl⟩
      refine JK.call (n0 := 0) (r := id) (refAdd_ct (bs ++ List.replicate c true ++ [false]) u (sizeF c : Nat) hz (by simp; omega)) Tryz.call77 rfl rfl rfl rfl rfl trivial rfl (by simp) ?_
      rintro g σ' n' ⟨rfl, rfl, rfl⟩
      refine vc_sound pg_ok 200 _ _ ?_
      rw [← ep]
      exact ⟨rfl, rfl⟩
    · have ep : bs ++ List.replicate c true ++ lowBits u (min ((sizeF c : Nat) : Int).toNat 64) = bs ++ putF n := by
        rw [hput, pre, if_neg hc6', show min ((sizeF c : Nat) : Int).toNat 64 = sizeF c by omega]; simp
      refine neg (by simp <;> omega) ?_
      refine JK.call (n0 := 0) (r := id) (size_ct c (by omega)) Tryz.call75 rfl rfl rfl rfl rfl trivial rfl (by simp) ?_
      rintro g σ' n' ⟨rfl, rfl, rfl⟩
      refine JK.call (n0 := 0) (r := id) (refAdd_ct (bs ++ List.replicate c true) u (sizeF c : Nat) hz (by simp; omega)) Tryz.call77 rfl rfl rfl rfl rfl trivial rfl (by simp) ?_
      rintro g σ' n' ⟨rfl, rfl, rfl⟩
      refine vc_sound pg_ok 200 _ _ ?_
      rw [← ep]
      exact ⟨rfl, rfl⟩
theorem refBytes_ct (bs : List Bool) (hl : bs.length ≤ 100000000) : Ct pg 59 0 [gs (lett bs)] [] (Val fun g => g = .v (.string ⟨(pack bs).toArray⟩)) := by
  refine Ct.val (Ct.of_JK pg_ok Tryz.func59 rfl Tryz.ntmps59 rfl Tryz.results59 fun H0 S0 w0 h0 g0 => ?_)
  refine vc_sound pg_ok 200 _ _ ?_
  refine JK.ownNil 3 5 1 rfl ?_
  refine JK.loop (α := Nat) (fun i => ⟨[(0, gs (lett bs)), (6, gi bs.length), (7, gi i), (3, .o 0)], [(0, .row 5 1 ((pack (bs.take i)).map byRow))], 1⟩) (fun i => i ≤ bs.length) (fun i => bs.length - i) 0 id ?_ (Nat.zero_le _) ?_
  · refine ⟨⟨rfl, ?_, rfl, rfl, trivial⟩, ⟨?_, trivial⟩, rfl⟩
    · show some (gi _) = some (gi _)
      rw [lett_size]
    · rw [List.take_zero]; rfl
  · intro i hi
    refine vc_sound pg_ok 200 _ _ ?_
    by_cases hlt : i < bs.length
    · refine pos (by simp <;> omega) ?_
      refine ⟨by omega, ?_⟩
      have hpl := pack_len (bs.take i)
      have hti : (bs.take i).length = i := by simp; omega
      rw [hti] at hpl
      have hbl : (lett bs)[(i : Int).toNat]? = some (ch bs[i]) := by
        rw [Int.toNat_natCast, lett_get, List.getElem?_eq_getElem hlt]; rfl
      have etk : bs.take (i + 1) = bs.take i ++ [bs[i]] := List.take_succ_eq_append_getElem hlt
      have hF : pack (bs.take i ++ [false]) = if i % 8 = 0 then pack (bs.take i) ++ [0] else pack (bs.take i) := by rw [pack_F, hti]
      have hT := pack_T (bs.take i)
      have hat := pack_at (bs.take i)
      have hadd := byteN_add (bs.take i)
      rw [hti] at hT hat hadd
      have hba : byteN (bs.take i ++ [true]) (i / 8) < 256 := val8_lt _
      have hor : byteN (bs.take i) (i / 8) ||| 128 >>> (i % 8) = byteN (bs.take i) (i / 8) + 2 ^ (7 - i % 8) := by
        rw [← hadd, byteN_snocT, hti, if_pos rfl]
      have ei : ((i : Int).tdiv 8) = ((i / 8 : Nat) : Int) := tdiv8 i
      have ewi : IntKind.i64.wrap ((i : Int).tdiv 8) = ((i / 8 : Nat) : Int) := by rw [ei, wrap_id (by omega) (by omega)]
      have em : ((i : Int).tmod 8) = ((i % 8 : Nat) : Int) := tmod8 i
      have esh : IntKind.u8.wrap (1 * 2 ^ (min (IntKind.i64.wrap (7 - (i : Int).tmod 8)).toNat IntKind.u8.bits)) = ((2 ^ (7 - i % 8) : Nat) : Int) := by
        have h8 : i % 8 < 8 := Nat.mod_lt _ (by omega)
        rw [em, wrap_id (by omega) (by omega)]
        generalize i % 8 = r at h8
        match r, h8 with
        | 0, _ => rfl
        | 1, _ => rfl
        | 2, _ => rfl
        | 3, _ => rfl
        | 4, _ => rfl
        | 5, _ => rfl
        | 6, _ => rfl
        | 7, _ => rfl
      have hatr : ((pack (bs.take i ++ [false])).map byRow)[i / 8]? = some (byRow (UInt8.ofNat (byteN (bs.take i) (i / 8)))) := by rw [List.getElem?_map, hat]; rfl
      have hset : ((pack (bs.take i ++ [false])).map byRow).set (i / 8) [GV.v (.int .u8 (IntKind.u8.wrap (((UInt8.ofNat (byteN (bs.take i) (i / 8))).toNat : Int) + ((2 ^ (7 - i % 8) : Nat) : Int))))] = (pack (bs.take i ++ [true])).map byRow := by
        have hb0 : byteN (bs.take i) (i / 8) < 256 := val8_lt _
        rw [← hT, List.map_set, hor]
        congr 1
        show _ = [GV.v (.int .u8 ((UInt8.ofNat _).toNat : Int))]
        rw [hadd] at hba
        rw [ofNat_toNat8 hba, ofNat_toNat8 hb0]
        generalize 2 ^ (7 - i % 8) = y at hba
        rw [IntKind.wrap_u8]
        congr 4
        omega
      by_cases h8 : i % 8 = 0
      · rw [if_pos h8] at hF
        refine pos (by rw [em, h8]; rfl) ?_
        refine ⟨by simp <;> omega, ?_⟩
        have er : (pack (bs.take i)).map byRow ++ [[GV.v (.int .u8 0)]] = (pack (bs.take i ++ [false])).map byRow := by rw [hF, List.map_append]; rfl
        refine ⟨ch bs[i], by omega, hbl, ?_⟩
        cases hb : bs[i] with
        | false =>
          refine neg rfl ?_
          refine ⟨i + 1, r1 0 2, ⟨⟨rfl, rfl, succ_gi (by omega), rfl, trivial⟩, ⟨?_, trivial⟩, rfl⟩, by omega, by show bs.length - (i + 1) < bs.length - i; omega⟩
          show some (Res.row _ 1 ((pack (bs.take i)).map byRow ++ [[GV.v (.int .u8 0)]])) = _
          rw [er, etk, hb]; rfl
        | true =>
          refine pos rfl ?_
          refine JK.draw [2] pg_ok ?_
          refine RA.run (e := true) pg_ok (by kernel_rfl) (fun _ _ h => h) (tk [0, 1, 2, 3, 5, 6, 7, 8] ++ al [4, 9, 10, 11]) (by kernel_rfl) ?_
          refine ⟨by omega, ?_⟩
          refine ⟨by rw [ewi]; omega, by rw [ewi]; simp <;> omega, ?_⟩
          refine ⟨by omega, ?_⟩
          refine ⟨by rw [em, wrap_id (by omega) (by omega)]; omega, ?_⟩
          refine ⟨byRow (UInt8.ofNat (byteN (bs.take i) (i / 8))), by rw [ewi, Int.toNat_natCast]; exact ((congrArg (fun l : List (List GV) => l[i / 8]?) er).trans hatr), ?_⟩
          refine ⟨by rw [ewi]; omega, by rw [ewi]; simp <;> omega, ?_⟩
          refine ⟨byRow (UInt8.ofNat (byteN (bs.take i) (i / 8))), by rw [ewi, Int.toNat_natCast]; exact ((congrArg (fun l : List (List GV) => l[i / 8]?) er).trans hatr), ?_⟩
          refine vc_sound pg_ok 200 _ _ ?_
          refine ⟨i + 1, r1 0 2, ⟨⟨rfl, rfl, succ_gi (by omega), rfl, trivial⟩, ⟨?_, trivial⟩, rfl⟩, by omega, by show bs.length - (i + 1) < bs.length - i; omega⟩
          show some (Res.row _ 1 (List.set _ (IntKind.i64.wrap ((i : Int).tdiv 8)).toNat [GV.v (.int .u8 (IntKind.u8.wrap (((UInt8.ofNat (byteN (bs.take i) (i / 8))).toNat : Int) + IntKind.u8.wrap (1 * 2 ^ (min (IntKind.i64.wrap (7 - (i : Int).tmod 8)).toNat IntKind.u8.bits)))))])) = some (Res.row _ 1 ((pack (bs.take (i + 1))).map byRow))
          rw [ewi, Int.toNat_natCast, esh, etk, hb, ← hset, ← er]
          rfl
      · rw [if_neg h8] at hF
        refine neg (by rw [em]; simp <;> omega) ?_
        refine ⟨ch bs[i], by omega, hbl, ?_⟩
        cases hb : bs[i] with
        | false =>
          refine neg rfl ?_
          refine ⟨i + 1, id, ⟨⟨rfl, rfl, succ_gi (by omega), rfl, trivial⟩, ⟨?_, trivial⟩, rfl⟩, by omega, by show bs.length - (i + 1) < bs.length - i; omega⟩
          rw [etk, hb, hF]; rfl
        | true =>
          refine pos rfl ?_
          refine JK.draw [0] pg_ok ?_
          refine RA.run (e := true) pg_ok (by kernel_rfl) (fun _ _ h => h) (tk [0, 1, 2, 3, 5, 6, 7, 8] ++ al [4, 9, 10, 11]) (by kernel_rfl) ?_
          refine ⟨by omega, ?_⟩
          refine ⟨by rw [ewi]; omega, by rw [ewi]; simp <;> omega, ?_⟩
          refine ⟨by omega, ?_⟩
          refine ⟨by rw [em, wrap_id (by omega) (by omega)]; omega, ?_⟩
          refine ⟨byRow (UInt8.ofNat (byteN (bs.take i) (i / 8))), by rw [ewi, Int.toNat_natCast]; exact (by rw [← hF]; exact hatr), ?_⟩
          refine ⟨by rw [ewi]; omega, by rw [ewi]; simp <;> omega, ?_⟩
          refine ⟨byRow (UInt8.ofNat (byteN (bs.take i) (i / 8))), by rw [ewi, Int.toNat_natCast]; exact (by rw [← hF]; exact hatr), ?_⟩
          refine vc_sound pg_ok 200 _ _ ?_
          refine ⟨i + 1, r1 0 0, ⟨⟨rfl, rfl, succ_gi (by omega), rfl, trivial⟩, ⟨?_, trivial⟩, rfl⟩, by omega, by show bs.length - (i + 1) < bs.length - i; omega⟩
          show some (Res.row _ 1 (List.set _ (IntKind.i64.wrap ((i : Int).tdiv 8)).toNat [GV.v (.int .u8 (IntKind.u8.wrap (((UInt8.ofNat (byteN (bs.take i) (i / 8))).toNat : Int) + IntKind.u8.wrap (1 * 2 ^ (min (IntKind.i64.wrap (7 - (i : Int).tmod 8)).toNat IntKind.u8.bits)))))])) = some (Res.row _ 1 ((pack (bs.take (i + 1))).map byRow))
          rw [ewi, Int.toNat_natCast, esh, etk, hb, ← hset, hF]
    · refine neg (by simp <;> omega) ?_
      have : i = bs.length := by omega
      subst this
      rw [List.take_length]
      refine vc_sound pg_ok 200 _ _ ?_
      refine ⟨pack bs, rfl, ?_⟩
      exact ⟨rfl, rfl⟩
end Go.Proofs.YtfnomonhfndbiaaGreatDoor
