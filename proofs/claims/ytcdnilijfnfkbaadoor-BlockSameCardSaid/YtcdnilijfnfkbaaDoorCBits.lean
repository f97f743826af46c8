/-
  Contracts: package bits.
-/
import Derived.Test.YtcdnilijfnfkbaaDoorCPg
import Derived.Test.YtcdnilijfnfkbaaDoorPBa
namespace Go.Proofs.YtcdnilijfnfkbaaDoor
open Go.GK Go.PL
set_option maxRecDepth 100000
abbrev gu (x : Nat) : GV := .v (.int .u64 (x : Int))
abbrev wHeap (b r : Nat) (bs : List Bool) : Heap := [(b, .blk 118 [.o r, gi bs.length]), (r, .row 5 1 ((pack bs).map byRow))]

theorem tmod8 (n : Nat) : ((n : Int).tmod 8) = ((n % 8 : Nat) : Int) := by rw [Int.tmod_eq_emod_of_nonneg (by omega)]; rfl
theorem tdiv8 (n : Nat) : ((n : Int).tdiv 8) = ((n / 8 : Nat) : Int) := by rw [Int.tdiv_eq_ediv_of_nonneg (by omega)]; rfl

theorem wbytes_ct (bs : List Bool) : Ct pg 71 2 [.p 0 0] (wHeap 0 1 bs) (fun g σ n => g = .v (.string ⟨(pack bs).toArray⟩) ∧ σ = wHeap 0 1 bs ∧ n = 2) := by
  refine Ct.of_JK pg_ok Tryd.func71 rfl Tryd.ntmps71 rfl Tryd.results71 fun H0 S0 w0 h0 g0 => ?_
  refine vc_sound pg_ok 200 _ _ ?_
  refine ⟨pack bs, rfl, ?_⟩
  exact ⟨rfl, rfl, rfl⟩
theorem bit_ct (bs : List Bool) (b : Bool) (hl : bs.length ≤ 1000000000) : Ct pg 82 2 [.p 0 0, .b b] (wHeap 0 1 bs) (fun g σ n => g = .tup [] ∧ σ = wHeap 0 2 (bs ++ [b]) ∧ n = 3) := by
  refine Ct.weak (Q := fun g σ n => g = .tup [] ∧ ∃ i, (i = 1 ∨ i = 3) ∧ hlook σ 0 = some (.blk 118 [.o i, gi (bs ++ [b]).length]) ∧ hlook σ i = some (.row 5 1 ((pack (bs ++ [b])).map byRow))) (Ct.of_JK pg_ok Tryd.func82 rfl Tryd.ntmps82 rfl Tryd.results82 fun H0 S0 w0 h0 g0 => ?_) ?_
  · have e1 : gi (IntKind.i64.wrap (bs.length + 1)) = gi ((bs ++ [b]).length : Nat) := by rw [wrap_id (by omega) (by omega)]; simp
    have hp := pack_F bs
    have hpl : (pack bs).length = (bs.length + 7) / 8 := pack_len bs
    have ei : IntKind.i64.wrap ((bs.length : Int).tdiv 8) = ((bs.length / 8 : Nat) : Int) := by rw [tdiv8, wrap_id (by omega) (by omega)]
    have hat : ((pack (bs ++ [false])).map byRow)[bs.length / 8]? = some (byRow (UInt8.ofNat (byteN bs (bs.length / 8)))) := by rw [List.getElem?_map, pack_at]; rfl
    have hset : ((pack (bs ++ [false])).map byRow).set (bs.length / 8) [GV.v (.int .u8 (bitsV .or .u8 ((UInt8.ofNat (byteN bs (bs.length / 8))).toNat : Int) ((128 : Int).fdiv (2 ^ (min ((bs.length % 8 : Nat) : Int).toNat 8)))))] = (pack (bs ++ [true])).map byRow := by
      have hb : byteN bs (bs.length / 8) < 256 := val8_lt _
      have hs : 128 >>> (bs.length % 8) < 256 := by rw [Nat.shiftRight_eq_div_pow]; exact Nat.lt_of_le_of_lt (Nat.div_le_self _ _) (by decide)
      have hor : byteN bs (bs.length / 8) ||| 128 >>> (bs.length % 8) < 256 := Nat.or_lt_two_pow (n := 8) hb hs
      rw [show (128 : Int) = ((128 : Nat) : Int) from rfl, fdiv_pow 128 (bs.length % 8) 8 (by omega), ofNat_toNat8 hb, or_u8 hb hs, ← pack_T, List.map_set]
      congr 1
      show _ = [GV.v (.int .u8 ((UInt8.ofNat _).toNat : Int))]
      rw [ofNat_toNat8 hor]
    refine vc_sound pg_ok 200 _ _ ?_
    refine ⟨by omega, ?_⟩
    by_cases h8 : bs.length % 8 = 0
    · rw [if_pos h8] at hp
      refine pos (by rw [tmod8, h8]; rfl) ?_
      refine ⟨by simp <;> omega, ?_⟩
      have er : (pack bs).map byRow ++ [[GV.v (.int .u8 0)]] = (pack (bs ++ [false])).map byRow := by rw [hp, List.map_append]; rfl
      cases b with
      | false =>
        refine neg rfl ?_
        refine ⟨rfl, 3, .inr rfl, ?_, ?_⟩
        · show some (Res.blk _ [GV.o 3, gi _]) = _
          rw [e1]
        · show some (Res.row _ 1 ((pack bs).map byRow ++ [[GV.v (.int .u8 0)]])) = _
          rw [er]
      | true =>
        refine pos rfl ?_
        refine JK.draw [3] pg_ok ?_
        refine RA.run (e := true) pg_ok (by kernel_rfl) (fun _ _ h => h) (tk [0, 1, 2, 3, 4, 5, 6, 7, 8, 9, 11, 12, 13, 14, 15, 16] ++ al [10, 17, 18, 19]) (by kernel_rfl) ?_
        refine ⟨by omega, ?_⟩
        refine ⟨by rw [ei]; omega, by rw [ei]; simp <;> omega, ?_⟩
        refine ⟨by omega, ?_⟩
        refine ⟨by rw [tmod8]; omega, ?_⟩
        refine ⟨byRow (UInt8.ofNat (byteN bs (bs.length / 8))), by rw [ei, Int.toNat_natCast]; exact (congrArg (fun l : List (List GV) => l[bs.length / 8]?) er).trans hat, ?_⟩
        refine ⟨by rw [ei]; omega, by rw [ei]; simp <;> omega, ?_⟩
        refine ⟨byRow (UInt8.ofNat (byteN bs (bs.length / 8))), by rw [ei, Int.toNat_natCast]; exact (congrArg (fun l : List (List GV) => l[bs.length / 8]?) er).trans hat, ?_⟩
        refine vc_sound pg_ok 200 _ _ ?_
        refine ⟨rfl, 3, .inr rfl, ?_, ?_⟩
        · show some (Res.blk _ [GV.o 3, gi _]) = _
          rw [e1]
        · show some (Res.row _ 1 (((pack bs).map byRow ++ [[GV.v (.int .u8 0)]]).set (IntKind.i64.wrap ((bs.length : Int).tdiv 8)).toNat [GV.v (.int .u8 (bitsV .or .u8 ((UInt8.ofNat (byteN bs (bs.length / 8))).toNat : Int) ((128 : Int).fdiv (2 ^ (min ((bs.length : Int).tmod 8).toNat 8)))))])) = _
          rw [ei, Int.toNat_natCast, er, tmod8, hset]
    · rw [if_neg h8] at hp
      refine neg (by rw [tmod8]; simp <;> omega) ?_
      cases b with
      | false =>
        refine neg rfl ?_
        refine ⟨rfl, 1, .inl rfl, ?_, ?_⟩
        · show some (Res.blk _ [GV.o 1, gi _]) = _
          rw [e1]
        · show some (Res.row _ 1 ((pack bs).map byRow)) = _
          rw [hp]
      | true =>
        refine pos rfl ?_
        refine JK.draw [1] pg_ok ?_
        refine RA.run (e := true) pg_ok (by kernel_rfl) (fun _ _ h => h) (tk [0, 1, 2, 3, 4, 5, 6, 7, 8, 9, 11, 12, 13, 14, 15, 16] ++ al [10, 17, 18, 19]) (by kernel_rfl) ?_
        refine ⟨by omega, ?_⟩
        refine ⟨by rw [ei]; omega, by rw [ei]; simp <;> omega, ?_⟩
        refine ⟨by omega, ?_⟩
        refine ⟨by rw [tmod8]; omega, ?_⟩
        refine ⟨byRow (UInt8.ofNat (byteN bs (bs.length / 8))), by rw [ei, Int.toNat_natCast, ← hp]; exact hat, ?_⟩
        refine ⟨by rw [ei]; omega, by rw [ei]; simp <;> omega, ?_⟩
        refine ⟨byRow (UInt8.ofNat (byteN bs (bs.length / 8))), by rw [ei, Int.toNat_natCast, ← hp]; exact hat, ?_⟩
        refine vc_sound pg_ok 200 _ _ ?_
        refine ⟨rfl, 1, .inl rfl, ?_, ?_⟩
        · show some (Res.blk _ [GV.o 1, gi _]) = _
          rw [e1]
        · show some (Res.row _ 1 (((pack bs).map byRow).set (IntKind.i64.wrap ((bs.length : Int).tdiv 8)).toNat [GV.v (.int .u8 (bitsV .or .u8 ((UInt8.ofNat (byteN bs (bs.length / 8))).toNat : Int) ((128 : Int).fdiv (2 ^ (min ((bs.length : Int).tmod 8).toNat 8)))))])) = _
          rw [ei, Int.toNat_natCast, ← hp, tmod8, hset]
  · rintro g σ n ⟨rfl, i, hi, h1, h2⟩
    refine ⟨fun j => if j = 2 then i else j, .tup [], wHeap 0 2 (bs ++ [b]), 3, ⟨rfl, rfl, rfl⟩, rfl, ⟨h1, h2, trivial⟩, ?_⟩
    rcases hi with rfl | rfl <;> rfl
theorem wbits_ct (bs : List Bool) (u : Nat) (k : Int) (hu : u < 18446744073709551616) (hk : 0 ≤ k) (hl : bs.length ≤ 100000000) : Ct pg 83 2 [.p 0 0, gu u, gi k] (wHeap 0 1 bs) (fun g σ n => g = .tup [] ∧ σ = wHeap 0 2 (bs ++ lowBits u (min k.toNat 64)) ∧ n = 3) := by
  refine Ct.weak (Q := fun g σ n => g = .tup [] ∧ ∃ i, i = 2 ∧ hlook σ 0 = some (.blk 118 [.o i, gi (bs ++ lowBits u (min k.toNat 64)).length]) ∧ hlook σ i = some (.row 5 1 ((pack (bs ++ lowBits u (min k.toNat 64))).map byRow))) (Ct.of_JK pg_ok Tryd.func83 rfl Tryd.ntmps83 rfl Tryd.results83 fun H0 S0 w0 h0 g0 => ?_) ?_
  · generalize hkk : min k.toNat 64 = kk
    have e0 : IntKind.i64.wrap ((if (64 : Int) < k then 64 else k) - 1) = ((kk : Nat) : Int) - 1 := by
      have : (if (64 : Int) < k then 64 else k) = ((kk : Nat) : Int) := by split <;> omega
      rw [this, wrap_id (by omega) (by omega)]
    have hll := lowBits_len u kk
    refine vc_sound pg_ok 200 _ _ ?_
    refine JK.loop (α := Nat) (fun j => ⟨[(0, .p 0 0), (1, gu u), (6, gi ((j : Int) - 1))], wHeap 0 2 (bs ++ (lowBits u kk).take (kk - j)), 3⟩) (fun j => j ≤ kk) (fun j => j) kk (r1 2 1) ?_ (Nat.le_refl _) ?_
    · refine ⟨⟨rfl, rfl, ?_, trivial⟩, ⟨?_, ?_, trivial⟩, rfl⟩
      · rw [← e0]; rfl
      · rw [Nat.sub_self, List.take_zero, List.append_nil]; rfl
      · rw [Nat.sub_self, List.take_zero, List.append_nil]; rfl
    · intro j hj
      refine vc_sound pg_ok 200 _ _ ?_
      cases j with
      | zero =>
        refine neg (by simp) ?_
        refine vc_sound pg_ok 200 _ _ ?_
        refine ⟨rfl, 2, rfl, ?_, ?_⟩
        · rw [List.take_of_length_le (by omega)]; rfl
        · rw [List.take_of_length_le (by omega)]; rfl
      | succ j =>
        have ej : (((j + 1 : Nat) : Int) - 1) = (j : Int) := by omega
        refine pos (by simp <;> omega) ?_
        refine ⟨by omega, ?_⟩
        have eb : (bitsV .and .u64 ((u : Int).fdiv (2 ^ (min (((j + 1 : Nat) : Int) - 1).toNat 64))) 1 == 1) = u.testBit j := by
          rw [ej, fdiv_pow u j 64 (by omega), show (1 : Int) = ((1 : Nat) : Int) from rfl, and_u64 (shr_lt hu) (by omega), bit_test]
          cases u.testBit j <;> rfl
        refine JK.call (n0 := 2) (r := rr 0 2) (bit_ct (bs ++ (lowBits u kk).take (kk - (j + 1))) _ (by simp <;> omega)) Tryd.call82 rfl rfl rfl rfl rfl ⟨rfl, rfl, trivial⟩ rfl (rr_lt rfl rfl) ?_
        rintro g σ' n' ⟨rfl, rfl, rfl⟩
        refine vc_sound pg_ok 200 _ _ ?_
        have en : (bs ++ (lowBits u kk).take (kk - (j + 1))) ++ [bitsV .and .u64 ((u : Int).fdiv (2 ^ (min (((j + 1 : Nat) : Int) - 1).toNat 64))) 1 == 1] = bs ++ (lowBits u kk).take (kk - j) := by
          rw [eb, List.append_assoc, low_next u kk j (by omega)]
        refine ⟨j, r1 2 3, ⟨⟨rfl, rfl, ?_, trivial⟩, ⟨?_, ?_, trivial⟩, rfl⟩, by omega, by show j < j + 1; omega⟩
        · show some (gi (IntKind.i64.wrap (((j + 1 : Nat) : Int) - 1 - 1))) = _
          rw [wrap_id (by omega) (by omega), ej]
          rfl
        · rw [← en]; rfl
        · rw [← en]; rfl
  · rintro g σ n ⟨rfl, i, rfl, h1, h2⟩
    exact ⟨id, .tup [], wHeap 0 2 (bs ++ lowBits u (min k.toNat 64)), 3, ⟨rfl, rfl, rfl⟩, rfl, ⟨h1, h2, trivial⟩, rfl⟩
theorem zig_ct (n : Int) (h1 : -9223372036854775808 ≤ n) (h2 : n ≤ 9223372036854775807) : Ct pg 81 0 [gi n] [] (Val fun g => g = gu (zigF n)) := by
  refine Ct.val (Ct.of_JK pg_ok Tryd.func81 rfl Tryd.ntmps81 rfl Tryd.results81 fun H0 S0 w0 h0 g0 => ?_)
  refine vc_sound pg_ok 200 _ _ ?_
  refine ⟨by omega, by omega, ?_⟩
  exact ⟨congrArg (fun x => GV.v (.int .u64 x)) (zig_word h1 h2), rfl⟩
theorem zag_ct (u : Nat) (hu : u < 18446744073709551616) : Ct pg 85 0 [gu u] [] (Val fun g => g = gi (zagF u)) := by
  refine Ct.val (Ct.of_JK pg_ok Tryd.func85 rfl Tryd.ntmps85 rfl Tryd.results85 fun H0 S0 w0 h0 g0 => ?_)
  refine vc_sound pg_ok 200 _ _ ?_
  refine ⟨by omega, ?_⟩
  exact ⟨congrArg (fun x => GV.v (.int .i64 x)) (zag_word hu), rfl⟩
theorem sizes_at (k : Nat) (h : k ≤ 6) : (List.drop ((k : Int).toNat * 1) (([0, 4, 7, 12, 20, 32, 64] : List Int).map fun x => GV.v (.int .i64 x)))[0]? = some (gi (sizeF k : Nat)) := by
  match k, h with
  | 0, _ => rfl
  | 1, _ => rfl
  | 2, _ => rfl
  | 3, _ => rfl
  | 4, _ => rfl
  | 5, _ => rfl
  | 6, _ => rfl
theorem sizeF_le (k : Nat) : sizeF k ≤ 64 := by
  by_cases h : k ≤ 6
  · match k, h with
    | 0, _ => decide
    | 1, _ => decide
    | 2, _ => decide
    | 3, _ => decide
    | 4, _ => decide
    | 5, _ => decide
    | 6, _ => decide
  · unfold sizeF
    rw [List.getD_eq_getElem?_getD, List.getElem?_eq_none (by simp; omega)]
    decide
theorem sizeF_lt {k : Nat} (h : k < 6) : sizeF k < 64 := by
  match k, h with
  | 0, _ => decide
  | 1, _ => decide
  | 2, _ => decide
  | 3, _ => decide
  | 4, _ => decide
  | 5, _ => decide
theorem put_ct (bs : List Bool) (n : Int) (h1 : -9223372036854775808 ≤ n) (h2 : n ≤ 9223372036854775807) (hl : bs.length ≤ 10000000) : Ct pg 70 2 [.p 0 0, gi n] (wHeap 0 1 bs) (fun g σ m => g = .tup [] ∧ σ = wHeap 0 2 (bs ++ putF n) ∧ m = 3) := by
  refine Ct.weak (Q := fun g σ m => g = .tup [] ∧ ∃ i, (i = 3 ∨ i = 4) ∧ hlook σ 0 = some (.blk 118 [.o i, gi (bs ++ putF n).length]) ∧ hlook σ i = some (.row 5 1 ((pack (bs ++ putF n)).map byRow))) (Ct.of_JK pg_ok Tryd.func70 rfl Tryd.ntmps70 rfl Tryd.results70 fun H0 S0 w0 h0 g0 => ?_) ?_
  · have hz := zig_lt h1 h2
    have hc6 := clsF_le (zigF n)
    refine vc_sound pg_ok 200 _ _ ?_
    refine JK.call (n0 := 0) (r := id) (zig_ct n h1 h2) Tryd.call81 rfl rfl rfl rfl rfl trivial rfl (by simp) ?_
    rintro g σ' n' ⟨rfl, rfl, rfl⟩
    refine vc_sound pg_ok 200 _ _ ?_
    generalize hu : zigF n = u at hz hc6
    generalize hc : clsF u = c at hc6
    refine JK.loopE (α := Nat) (β := Unit) (fun k => ⟨[(0, .p 0 0), (4, gu u), (5, gi k)], wHeap 0 1 bs, 2⟩) (fun k => k ≤ c) (fun k => c - k) (fun _ => ⟨[(0, .p 0 0), (4, gu u), (5, gi c)], wHeap 0 1 bs, 2⟩) (fun _ => True) 0 id ?_ (Nat.zero_le _) ?_ ?_
    · rw [← hu]; exact ⟨⟨rfl, rfl, rfl, trivial⟩, ⟨rfl, rfl, trivial⟩, rfl⟩
    · intro k hk
      refine vc_sound pg_ok 200 _ _ ?_
      refine ⟨by omega, by omega, ?_⟩
      refine ons_mk (sizes_at k (by omega)) ?_
      by_cases hk6 : k < 6
      · refine pos (by have := sizeF_lt hk6; simp <;> omega) ?_
        refine ⟨by omega, by omega, ?_⟩
        refine ons_mk (sizes_at k (by omega)) ?_
        refine ⟨by omega, ?_⟩
        have esh : (u : Int).fdiv (2 ^ (min ((sizeF k : Nat) : Int).toNat IntKind.u64.bits)) = ((u >>> sizeF k : Nat) : Int) := fdiv_pow u (sizeF k) 64 (sizeF_le k)
        by_cases hck : c ≤ k
        · have e : k = c := by omega
          have e0 := clsF_max (u := u) (by rw [hc]; exact hck) hk6
          refine neg (by rw [esh, e0]; rfl) ?_
          subst e
          exact ⟨(), id, ⟨⟨rfl, rfl, rfl, trivial⟩, ⟨rfl, rfl, trivial⟩, rfl⟩, trivial⟩
        · have e0 := clsF_min (u := u) (k := k) (by rw [hc]; omega)
          refine pos (by rw [esh]; exact decide_eq_true (Int.natCast_pos.2 (Nat.pos_of_ne_zero e0))) ?_
          exact ⟨k + 1, id, ⟨⟨rfl, rfl, succ_gi (by omega), trivial⟩, ⟨rfl, rfl, trivial⟩, rfl⟩, by omega, by show c - (k + 1) < c - k; omega⟩
      · have e : k = 6 := by omega
        subst e
        have e : c = 6 := by omega
        subst e
        refine neg rfl ?_
        exact ⟨(), id, ⟨⟨rfl, rfl, rfl, trivial⟩, ⟨rfl, rfl, trivial⟩, rfl⟩, trivial⟩
    · intro _ _
      refine vc_sound pg_ok 200 _ _ ?_
      refine JK.loopE (α := Nat) (β := Unit) (fun j => ⟨[(0, .p 0 0), (4, gu u), (5, gi c), (22, gi c), (23, gi j)], wHeap 0 2 (bs ++ List.replicate j true), 3⟩) (fun j => j ≤ c) (fun j => c - j) (fun _ => ⟨[(0, .p 0 0), (4, gu u), (5, gi c)], wHeap 0 2 (bs ++ List.replicate c true), 3⟩) (fun _ => True) 0 (r1 2 1) ?_ (Nat.zero_le _) ?_ ?_
      · refine ⟨⟨rfl, rfl, rfl, rfl, rfl, trivial⟩, ⟨?_, ?_, trivial⟩, rfl⟩
        · rw [List.replicate_zero, List.append_nil]; rfl
        · rw [List.replicate_zero, List.append_nil]; rfl
      · intro j hj
        refine vc_sound pg_ok 200 _ _ ?_
        by_cases hjc : j < c
        · refine pos (by simp <;> omega) ?_
          refine JK.call (n0 := 2) (r := rr 0 2) (Ct.bv (pre := [.p 0 0]) (suf := []) (bit_ct (bs ++ List.replicate j true) true (by simp <;> omega))) Tryd.call82 rfl rfl rfl rfl rfl ⟨rfl, rfl, trivial⟩ rfl (rr_lt rfl rfl) ?_
          rintro g σ' n' ⟨rfl, rfl, rfl⟩
          refine vc_sound pg_ok 200 _ _ ?_
          have en : (bs ++ List.replicate j true) ++ [true] = bs ++ List.replicate (j + 1) true := by rw [List.append_assoc, List.replicate_succ']
          refine ⟨j + 1, r1 2 3, ⟨⟨rfl, rfl, rfl, rfl, succ_gi (by omega), trivial⟩, ⟨?_, ?_, trivial⟩, rfl⟩, by omega, by show c - (j + 1) < c - j; omega⟩
          · rw [← en]; rfl
          · rw [← en]; rfl
        · have e : j = c := by omega
          subst e
          refine neg (by simp) ?_
          exact ⟨(), r1 2 2, ⟨⟨rfl, rfl, rfl, trivial⟩, ⟨rfl, rfl, trivial⟩, rfl⟩, trivial⟩
      · intro _ _
        have hp : putF n = pre c ++ lowBits u (sizeF c) := by unfold putF; rw [hu, hc]
        have hs64 := sizeF_le c
        have hmin : min ((sizeF c : Nat) : Int).toNat 64 = sizeF c := by omega
        refine vc_sound pg_ok 200 _ _ ?_
        by_cases hc6' : c < 6
        · have ep : bs ++ List.replicate c true ++ [false] ++ lowBits u (min ((sizeF c : Nat) : Int).toNat 64) = bs ++ putF n := by
            rw [hp, pre, if_pos hc6', hmin]; simp
          refine pos (by simp <;> omega) ?_
          refine JK.call (n0 := 2) (r := rr 0 2) (Ct.bv (pre := [.p 0 0]) (suf := []) (bit_ct (bs ++ List.replicate c true) false (by simp <;> omega))) Tryd.call82 rfl rfl rfl rfl rfl ⟨rfl, rfl, trivial⟩ rfl (rr_lt rfl rfl) ?_
          rintro g σ' n' ⟨rfl, rfl, rfl⟩
          refine vc_sound pg_ok 200 _ _ ?_
          refine ⟨by omega, by omega, ?_⟩
          refine ons_mk (sizes_at c (by omega)) ?_
          refine JK.call (n0 := 2) (r := rr 0 3) (wbits_ct (bs ++ List.replicate c true ++ [false]) u ((sizeF c : Nat) : Int) hz (by omega) (by simp <;> omega)) Tryd.call83 rfl rfl rfl rfl rfl ⟨rfl, rfl, trivial⟩ rfl (rr_lt rfl rfl) ?_
          rintro g σ' n' ⟨rfl, rfl, rfl⟩
          refine vc_sound pg_ok 200 _ _ ?_
          refine ⟨rfl, 4, .inr rfl, ?_, ?_⟩
          · rw [← ep]; rfl
          · rw [← ep]; rfl
        · have ep : bs ++ List.replicate c true ++ lowBits u (min ((sizeF c : Nat) : Int).toNat 64) = bs ++ putF n := by
            rw [hp, pre, if_neg hc6', hmin]; simp
          refine neg (by simp <;> omega) ?_
          refine ⟨by omega, by omega, ?_⟩
          refine ons_mk (sizes_at c (by omega)) ?_
          refine JK.call (n0 := 2) (r := rr 0 2) (wbits_ct (bs ++ List.replicate c true) u ((sizeF c : Nat) : Int) hz (by omega) (by simp <;> omega)) Tryd.call83 rfl rfl rfl rfl rfl ⟨rfl, rfl, trivial⟩ rfl (rr_lt rfl rfl) ?_
          rintro g σ' n' ⟨rfl, rfl, rfl⟩
          refine vc_sound pg_ok 200 _ _ ?_
          refine ⟨rfl, 3, .inl rfl, ?_, ?_⟩
          · rw [← ep]; rfl
          · rw [← ep]; rfl
  · rintro g σ m ⟨rfl, i, hi, h1, h2⟩
    refine ⟨r1 2 i, .tup [], wHeap 0 2 (bs ++ putF n), 3, ⟨rfl, rfl, rfl⟩, rfl, ?_, ?_⟩
    · rcases hi with rfl | rfl
      · exact ⟨h1, h2, trivial⟩
      · exact ⟨h1, h2, trivial⟩
    · rcases hi with rfl | rfl <;> rfl

abbrev rHeap (b : Nat) (s : ByteArray) (n : Nat) : Heap := [(b, .blk 133 [.v (.string s), gi n])]
theorem from_ct (s : ByteArray) : Ct pg 72 0 [.v (.string s)] [] (fun g σ n => g = .p 0 0 ∧ σ = rHeap 0 s 0 ∧ n = 1) := by
  refine Ct.of_JK pg_ok Tryd.func72 rfl Tryd.ntmps72 rfl Tryd.results72 fun H0 S0 w0 h0 g0 => ?_
  refine vc_sound pg_ok 200 _ _ ?_
  exact ⟨rfl, rfl, rfl⟩
theorem left_ct (s : ByteArray) (n : Nat) (hs : s.size ≤ 100000000) (hn : n ≤ 8 * s.size) : Ct pg 89 1 [.p 0 0] (rHeap 0 s n) (fun g σ m => g = gi ((8 * s.size - n : Nat) : Int) ∧ σ = rHeap 0 s n ∧ m = 1) := by
  refine Ct.of_JK pg_ok Tryd.func89 rfl Tryd.ntmps89 rfl Tryd.results89 fun H0 S0 w0 h0 g0 => ?_
  refine vc_sound pg_ok 200 _ _ ?_
  refine ⟨by kernel_rfl, ?_⟩
  refine ⟨?_, rfl, rfl⟩
  show gi (IntKind.i64.wrap (IntKind.i64.wrap (8 * (s.size : Int)) - n)) = _
  rw [wrap_id (x := 8 * (s.size : Int)) (by omega) (by omega), wrap_id (by omega) (by omega)]
  congr 2
  omega
theorem rform_ct (s : ByteArray) (n : Nat) (k : Nat) (hs : s.size ≤ 100000000) (hn : n ≤ 8 * s.size) (hk : k ≤ 64) (hl : 8 * s.size < n + k) : Ct pg 84 1 [.p 0 0, gi k] (rHeap 0 s n) (fun g σ m => g = .tup [gu 0, .ifc 72 (gi 3)] ∧ σ = rHeap 0 s n ∧ m = 1) := by
  refine Ct.of_JK pg_ok Tryd.func84 rfl Tryd.ntmps84 rfl Tryd.results84 fun H0 S0 w0 h0 g0 => ?_
  refine vc_sound pg_ok 200 _ _ ?_
  refine neg' (by simp <;> omega) ?_
  refine neg (by simp <;> omega) ?_
  refine JK.call (n0 := 1) (r := id) (left_ct s n hs hn) Tryd.call89 rfl rfl rfl rfl rfl ⟨rfl, trivial⟩ rfl (fun i h => h) ?_
  rintro g σ' n' ⟨rfl, rfl, rfl⟩
  refine vc_sound pg_ok 200 _ _ ?_
  refine pos (by simp <;> omega) ?_
  exact ⟨rfl, rfl, rfl⟩
theorem rbits_ct (s : ByteArray) (n : Nat) (k : Nat) (hs : s.size ≤ 100000000) (hk : k ≤ 64) (hl : n + k ≤ 8 * s.size) : Ct pg 84 1 [.p 0 0, gi k] (rHeap 0 s n) (fun g σ m => g = .tup [gu (valB (((sb s).drop n).take k)), .v .nilIface] ∧ σ = rHeap 0 s (n + k) ∧ m = 1) := by
  refine Ct.of_JK pg_ok Tryd.func84 rfl Tryd.ntmps84 rfl Tryd.results84 fun H0 S0 w0 h0 g0 => ?_
  refine vc_sound pg_ok 200 _ _ ?_
  refine neg' (by simp <;> omega) ?_
  refine neg (by simp <;> omega) ?_
  refine JK.call (n0 := 1) (r := id) (left_ct s n hs (by omega)) Tryd.call89 rfl rfl rfl rfl rfl ⟨rfl, trivial⟩ rfl (fun i h => h) ?_
  rintro g σ' n' ⟨rfl, rfl, rfl⟩
  refine vc_sound pg_ok 200 _ _ ?_
  refine neg (by simp <;> omega) ?_
  refine JK.loopE (α := Nat) (β := Unit) (fun i => ⟨[(0, .p 0 0), (21, gi k), (22, gi i), (6, gu (valB (((sb s).drop n).take i)))], rHeap 0 s (n + i), 1⟩) (fun i => i ≤ k) (fun i => k - i) (fun _ => ⟨[(0, .p 0 0), (6, gu (valB (((sb s).drop n).take k)))], rHeap 0 s (n + k), 1⟩) (fun _ => True) 0 id ?_ (Nat.zero_le _) ?_ ?_
  · exact ⟨⟨rfl, rfl, rfl, rfl, trivial⟩, ⟨rfl, trivial⟩, rfl⟩
  · intro i hi
    refine vc_sound pg_ok 200 _ _ ?_
    by_cases hik : i < k
    · refine pos (by simp <;> omega) ?_
      obtain ⟨x, hx, hb⟩ := sb_get (s := s) (k := n + i) (by omega)
      have e8 : IntKind.i64.wrap (((n + i : Nat) : Int).tdiv 8) = (((n + i) / 8 : Nat) : Int) := by rw [tdiv8, wrap_id (by omega) (by omega)]
      refine ⟨by kernel_rfl, ?_⟩
      refine ⟨by omega, ?_⟩
      refine ⟨by omega, ?_⟩
      refine ⟨x, by rw [e8]; omega, by rw [e8]; exact hx, ?_⟩
      refine ⟨by omega, ?_⟩
      have e7 : IntKind.i64.wrap (7 - ((n + i : Nat) : Int).tmod 8) = IntKind.i64.wrap (7 - (((n + i) % 8 : Nat) : Int)) := by rw [tmod8]
      refine ⟨by rw [e7, wrap_id (by omega) (by omega)]; omega, ?_⟩
      have hlen : (((sb s).drop n).take i).length ≤ 63 := by rw [List.length_take]; omega
      have hw := rd_word (valB (((sb s).drop n).take i)) x ((n + i) % 8) (by omega) (valB_low63 hlen)
      refine ⟨i + 1, id, ⟨⟨rfl, rfl, succ_gi (by omega), ?_, trivial⟩, ⟨?_, trivial⟩, rfl⟩, by omega, by show k - (i + 1) < k - i; omega⟩
      · rw [take_next hb, valB_snoc]
        rw [← tmod8] at hw
        exact congrArg (fun x => some (GV.v (.int .u64 x))) hw
      · show some (Res.blk _ [GV.v (.string s), gi (IntKind.i64.wrap (((n + i : Nat) : Int) + 1))]) = _
        rw [wrap_id (by omega) (by omega)]
        rfl
    · have e : i = k := by omega
      subst e
      refine neg (by simp) ?_
      exact ⟨(), id, ⟨⟨rfl, rfl, trivial⟩, ⟨rfl, trivial⟩, rfl⟩, trivial⟩
  · intro _ _
    refine vc_sound pg_ok 200 _ _ ?_
    exact ⟨rfl, rfl, rfl⟩
theorem pfx_step {f k : Nat} {B : List Bool} {b : Bool} (h : B[0]? = some b) : pfx (f + 1) k B = if b then pfx f (k + 1) (B.drop 1) else some (k, B.drop 1) := by
  cases B with
  | nil => cases h
  | cons x B => simp at h; subst h; rfl
theorem pfx_nil {f k : Nat} {B : List Bool} (h : B = []) : pfx (f + 1) k B = none := by subst h; rfl
theorem get_ct (s : ByteArray) (n : Nat) (hs : s.size ≤ 100000000) (hn : n ≤ 8 * s.size) : Ct pg 73 1 [.p 0 0] (rHeap 0 s n) (fun g σ m => m = 1 ∧ ∃ n', n ≤ n' ∧ n' ≤ 8 * s.size ∧ σ = rHeap 0 s n' ∧
    ((∃ v, getF ((sb s).drop n) = some (v, (sb s).drop n') ∧ g = .tup [gi v, .v .nilIface]) ∨ (getF ((sb s).drop n) = none ∧ g = .tup [gi 0, .ifc 72 (gi 3)]))) := by
  refine Ct.of_JK pg_ok Tryd.func73 rfl Tryd.ntmps73 rfl Tryd.results73 fun H0 S0 w0 h0 g0 => ?_
  have hsb := sb_len s
  refine vc_sound pg_ok 200 _ _ ?_
  refine JK.loopE (α := Nat) (β := Nat × Nat) (fun k => ⟨[(0, .p 0 0), (4, gi k)], rHeap 0 s (n + k), 1⟩) (fun k => k ≤ 6 ∧ n + k ≤ 8 * s.size ∧ pfx 6 0 ((sb s).drop n) = pfx (6 - k) k ((sb s).drop (n + k))) (fun k => 6 - k)
    (fun y => ⟨[(0, .p 0 0), (4, gi y.1)], rHeap 0 s y.2, 1⟩) (fun y => y.1 ≤ 6 ∧ n ≤ y.2 ∧ y.2 ≤ 8 * s.size ∧ pfx 6 0 ((sb s).drop n) = some (y.1, (sb s).drop y.2)) 0 id ?_ ⟨by omega, by omega, rfl⟩ ?_ ?_
  · exact ⟨⟨rfl, rfl, trivial⟩, ⟨rfl, trivial⟩, rfl⟩
  · rintro k ⟨hk, hnk, hp⟩
    refine vc_sound pg_ok 200 _ _ ?_
    by_cases hk6 : k < 6
    · refine pos (by simp <;> omega) ?_
      have e6 : 6 - k = 6 - (k + 1) + 1 := by omega
      rw [e6] at hp
      by_cases hfit : n + k + 1 ≤ 8 * s.size
      · obtain ⟨b, hb⟩ : ∃ b, (sb s)[n + k]? = some b := ⟨_, List.getElem?_eq_getElem (by omega)⟩
        have hb0 : ((sb s).drop (n + k))[0]? = some b := by rw [List.getElem?_drop]; exact hb
        have hv : valB (((sb s).drop (n + k)).take 1) = b.toNat := by
          have := take_next (i := 0) (n := n + k) hb
          rw [show (0 + 1) = 1 from rfl] at this
          rw [this]
          simp [valB]
        rw [pfx_step hb0, List.drop_drop] at hp
        refine JK.call (n0 := 1) (r := id) (rbits_ct s (n + k) 1 hs (by omega) hfit) Tryd.call84 rfl rfl rfl rfl rfl ⟨rfl, trivial⟩ rfl (fun i h => h) ?_
        rintro g σ' n' ⟨rfl, rfl, rfl⟩
        refine vc_sound pg_ok 200 _ _ ?_
        refine neg rfl ?_
        cases b with
        | true =>
          refine neg (by rw [hv]; rfl) ?_
          refine ⟨k + 1, id, ⟨⟨rfl, succ_gi (by omega), trivial⟩, ⟨rfl, trivial⟩, rfl⟩, ⟨by omega, by omega, ?_⟩, by show 6 - (k + 1) < 6 - k; omega⟩
          simp only [↓reduceIte] at hp
          exact hp
        | false =>
          refine pos (by rw [hv]; rfl) ?_
          refine ⟨(k, n + k + 1), id, ⟨⟨rfl, rfl, trivial⟩, ⟨rfl, trivial⟩, rfl⟩, hk, by show n ≤ n + k + 1; omega, hfit, ?_⟩
          simp only [Bool.false_eq_true, ↓reduceIte] at hp
          exact hp
      · refine JK.call (n0 := 1) (r := id) (rform_ct s (n + k) 1 hs hnk (by omega) (by omega)) Tryd.call84 rfl rfl rfl rfl rfl ⟨rfl, trivial⟩ rfl (fun i h => h) ?_
        rintro g σ' n' ⟨rfl, rfl, rfl⟩
        refine vc_sound pg_ok 200 _ _ ?_
        refine pos rfl ?_
        refine ⟨rfl, n + k, by omega, hnk, rfl, .inr ⟨?_, rfl⟩⟩
        rw [pfx_nil (B := (sb s).drop (n + k)) (f := 6 - (k + 1)) (k := k) (List.drop_eq_nil_of_le (by omega))] at hp
        unfold getF
        rw [hp]
    · have e : k = 6 := by omega
      subst e
      refine neg rfl ?_
      exact ⟨(6, n + 6), id, ⟨⟨rfl, rfl, trivial⟩, ⟨rfl, trivial⟩, rfl⟩, hk, by show n ≤ n + 6; omega, hnk, hp⟩
  · rintro ⟨k, p⟩ ⟨hk, hnp, hps, hp⟩
    simp only at hk hnp hps hp
    have hsz := sizeF_le k
    refine vc_sound pg_ok 200 _ _ ?_
    refine ⟨by omega, by omega, ?_⟩
    refine ons_mk (sizes_at k hk) ?_
    by_cases hfit : p + sizeF k ≤ 8 * s.size
    · refine JK.call (n0 := 1) (r := id) (rbits_ct s p (sizeF k) hs hsz hfit) Tryd.call84 rfl rfl rfl rfl rfl ⟨rfl, trivial⟩ rfl (fun i h => h) ?_
      rintro g σ' n' ⟨rfl, rfl, rfl⟩
      have hlen : ((((sb s).drop p).take (sizeF k)).length) ≤ 64 := by rw [List.length_take]; omega
      have hu := valB_low64 hlen
      have hg : getF ((sb s).drop n) = if 0 < k ∧ valB (((sb s).drop p).take (sizeF k)) >>> sizeF (k - 1) = 0 then none else some (zagF (valB (((sb s).drop p).take (sizeF k))), (sb s).drop (p + sizeF k)) := by
        unfold getF
        rw [hp]
        simp only
        rw [if_neg (by rw [List.length_drop]; omega), List.drop_drop]
      generalize hU : valB (((sb s).drop p).take (sizeF k)) = u at hu hg
      refine vc_sound pg_ok 200 _ _ ?_
      refine neg' rfl ?_
      by_cases hk0 : 0 < k
      · refine pos (by simp <;> omega) ?_
        have e1 : IntKind.i64.wrap ((k : Int) - 1) = ((k - 1 : Nat) : Int) := by rw [wrap_id (by omega) (by omega)]; omega
        refine ⟨by rw [e1]; omega, by rw [e1]; omega, ?_⟩
        refine ons_mk (g := gi (sizeF (k - 1) : Nat)) (by rw [e1]; exact sizes_at (k - 1) (by omega)) ?_
        refine ⟨by omega, ?_⟩
        have esh : (u : Int).fdiv (2 ^ (min ((sizeF (k - 1) : Nat) : Int).toNat IntKind.u64.bits)) = ((u >>> sizeF (k - 1) : Nat) : Int) := fdiv_pow u (sizeF (k - 1)) 64 (sizeF_le _)
        by_cases h0 : u >>> sizeF (k - 1) = 0
        · refine pos (by rw [esh, h0]; rfl) ?_
          refine ⟨rfl, p + sizeF k, by omega, hfit, rfl, .inr ⟨?_, rfl⟩⟩
          rw [hg, if_pos ⟨hk0, h0⟩]
        · refine neg (by rw [esh]; exact beq_eq_false_iff_ne.2 (fun h => h0 (Int.ofNat.inj h))) ?_
          refine JK.call (n0 := 0) (r := id) (zag_ct u hu) Tryd.call85 rfl rfl rfl rfl rfl trivial rfl (by simp) ?_
          rintro g σ' n' ⟨rfl, rfl, rfl⟩
          refine vc_sound pg_ok 200 _ _ ?_
          refine ⟨rfl, p + sizeF k, by omega, hfit, rfl, .inl ⟨zagF u, ?_, ?_⟩⟩
          · rw [hg, if_neg (fun h => h0 h.2)]
          · rfl
      · refine neg (by simp <;> omega) ?_
        refine JK.call (n0 := 0) (r := id) (zag_ct u hu) Tryd.call85 rfl rfl rfl rfl rfl trivial rfl (by simp) ?_
        rintro g σ' n' ⟨rfl, rfl, rfl⟩
        refine vc_sound pg_ok 200 _ _ ?_
        refine ⟨rfl, p + sizeF k, by omega, hfit, rfl, .inl ⟨zagF u, ?_, ?_⟩⟩
        · rw [hg, if_neg (fun h => hk0 h.1)]
        · rfl
    · refine JK.call (n0 := 1) (r := id) (rform_ct s p (sizeF k) hs hps hsz (by omega)) Tryd.call84 rfl rfl rfl rfl rfl ⟨rfl, trivial⟩ rfl (fun i h => h) ?_
      rintro g σ' n' ⟨rfl, rfl, rfl⟩
      refine vc_sound pg_ok 200 _ _ ?_
      refine pos' rfl ?_
      refine ⟨rfl, p, hnp, hps, rfl, .inr ⟨?_, rfl⟩⟩
      unfold getF
      rw [hp]
      simp only
      rw [if_pos (by rw [List.length_drop]; omega)]
end Go.Proofs.YtcdnilijfnfkbaaDoor
