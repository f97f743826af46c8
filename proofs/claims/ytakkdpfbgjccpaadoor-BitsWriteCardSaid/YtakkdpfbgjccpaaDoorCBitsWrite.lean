/-
  Contracts: BitsWrite.
-/
import Derived.Test.YtakkdpfbgjccpaaDoorCRefBits
import Derived.Test.YtakkdpfbgjccpaaDoorPChunk
namespace Go.Proofs.YtakkdpfbgjccpaaDoor
open Go.GK Go.PL
set_option maxRecDepth 100000
abbrev wr : Int × Int → List GV := fun x => [gi x.1, gi x.2]
def uW (n : Int) : Nat := (n % 18446744073709551616).toNat
theorem uW_lt (n : Int) : uW n < 18446744073709551616 := by unfold uW; omega
theorem uW_wrap (n : Int) : IntKind.u64.wrap n = (uW n : Int) := by rw [IntKind.wrap_u64]; unfold uW; omega
theorem and1_i64 (n : Int) : (bitsV .and .i64 n 1 == 1) = (uW n).testBit 0 := by
  have e : bitsV .and .i64 n 1 = ((uW n % 2 : Nat) : Int) := by
    show IntKind.i64.wrap ((BitVec.ofInt 64 n &&& BitVec.ofInt 64 1).toNat : Int) = _
    rw [BitVec.toNat_and, BitVec.toNat_ofInt, show (BitVec.ofInt 64 1).toNat = 1 from rfl, Nat.and_one_is_mod]
    have : (n % (2 ^ 64 : Nat)).toNat = uW n := rfl
    rw [this, wrap_id (by omega) (by omega)]
  rw [e, Nat.testBit_zero]
  rcases Nat.mod_two_eq_zero_or_one (uW n) with h | h <;> rw [h] <;> rfl
def stepW (x : Int × Int) : List Bool := if x.1 < 0 then putF x.2 else if x.1 = 0 then lowBits (uW x.2) 1 else lowBits (uW x.2) (min x.1.toNat 64)
def stepsW (l : List (Int × Int)) : List Bool := l.flatMap stepW
theorem stepsW_snoc (l : List (Int × Int)) (i : Nat) (h : i < l.length) : stepsW (l.take (i + 1)) = stepsW (l.take i) ++ stepW l[i] := by
  rw [List.take_succ_eq_append_getElem h]
  unfold stepsW
  rw [List.flatMap_append, List.flatMap_singleton]
theorem stepW_len (x : Int × Int) : (stepW x).length ≤ 70 := by
  unfold stepW
  split
  · exact (putF_len _).2
  · split
    · rw [lowBits_len]; omega
    · rw [lowBits_len]; omega
theorem stepsW_len (l : List (Int × Int)) : (stepsW l).length ≤ 70 * l.length := by
  induction l with
  | nil => exact Nat.le_refl _
  | cons x l ih =>
    have := stepW_len x
    simp [stepsW] at ih ⊢
    omega
theorem refAdd_w (bs : List Bool) (n : Int) (k : Int) (hl : bs.length ≤ 1000000000) : Ct pg 29 0 [gs (lett bs), .v (.int .u64 (IntKind.u64.wrap n)), gi k] [] (Val fun g => g = gs (lett (bs ++ lowBits (uW n) (min k.toNat 64)))) := by
  rw [uW_wrap]
  exact refAdd_ct bs (uW n) k (uW_lt n) hl
theorem wbits_w (bs : List Bool) (n : Int) (k : Int) (hk : 0 ≤ k) (hl : bs.length ≤ 100000000) : Ct pg 30 2 [.p 0 0, .v (.int .u64 (IntKind.u64.wrap n)), gi k] (wHeap 0 1 bs) (fun g σ m => g = .tup [] ∧ σ = wHeap 0 2 (bs ++ lowBits (uW n) (min k.toNat 64)) ∧ m = 3) := by
  rw [uW_wrap]
  exact wbits_ct bs (uW n) k (uW_lt n) hk hl
theorem bit_w (bs : List Bool) (n : Int) (hl : bs.length ≤ 1000000000) : Ct pg 28 2 [.p 0 0, .b (bitsV .and .i64 n 1 == 1)] (wHeap 0 1 bs) (fun g σ m => g = .tup [] ∧ σ = wHeap 0 2 (bs ++ lowBits (uW n) 1) ∧ m = 3) := by
  rw [and1_i64]
  exact bit_ct bs _ hl
theorem bitsWrite_ct (l : List (Int × Int)) (n : Int) (u : Nat) (hl : ∀ x ∈ l, In64 x.1 ∧ In64 x.2) (hn : In64 n) (hu : u < 18446744073709551616) : Ct pg 6 0 [.sl 2 (l.map wr), gi n, gu u] [] (Val fun g => g = .b true) := by
  refine Ct.bool (Ct.of_JK pg_ok Tryd.func6 rfl Tryd.ntmps6 rfl Tryd.results6 fun H0 S0 w0 h0 g0 => ?_)
  refine vc_sound pg_ok 200 _ _ ?_
  refine ⟨fun _ => .inl rfl, fun h40 => ?_⟩
  simp only [List.length_map, decide_eq_false_iff_not] at h40
  refine JK.ownNilB 0 0 5 1 rfl rfl ?_
  refine JK.loopE (α := Nat) (β := Unit) (fun i => ⟨[(0, .sl 2 (l.map wr)), (1, gi n), (2, gu u), (7, .p 0 0), (8, gs (lett (stepsW (l.take i)))), (9, gi i)], wHeap 0 1 (stepsW (l.take i)), 2⟩) (fun i => i ≤ l.length) (fun i => l.length - i) (fun _ => ⟨[(1, gi n), (2, gu u), (7, .p 0 0), (8, gs (lett (stepsW l)))], wHeap 0 1 (stepsW l), 2⟩) (fun _ => True) 0 id ?_ (Nat.zero_le _) ?_ ?_
  · exact ⟨⟨rfl, rfl, rfl, rfl, (by rw [List.take_zero]; rfl), rfl, trivial⟩, ⟨rfl, (by rw [List.take_zero]; rfl), trivial⟩, rfl⟩
  · intro i hi
    have hpl := stepsW_len (l.take i)
    rw [List.length_take] at hpl
    refine vc_sound pg_ok 200 _ _ ?_
    by_cases hlt : i < l.length
    · refine pos (by simp <;> omega) ?_
      have hx := hl _ (List.getElem_mem hlt)
      have hpb := stepW_len l[i]
      refine idx i rfl hlt ?_
      have hs := stepsW_snoc l i hlt
      generalize hsn : stepsW (l.take (i + 1)) = bs' at hs
      generalize stepsW (l.take i) = bs at hs hpl
      by_cases hk : l[i].1 < 0
      · refine pos (by simpa using hk) ?_
        have he : stepW l[i] = putF l[i].2 := by unfold stepW; rw [if_pos hk]
        rw [he] at hs
        refine JK.call (n0 := 2) (r := rr 0 1) (put_ct bs l[i].2 hx.2.1 hx.2.2 (by omega)) Tryd.call13 rfl rfl rfl rfl rfl ⟨rfl, rfl, trivial⟩ rfl (rr_lt rfl rfl) ?_
        rintro g σ' n' ⟨rfl, rfl, rfl⟩
        refine vc_sound pg_ok 200 _ _ ?_
        refine JK.call (n0 := 0) (r := id) (refPut_ct bs l[i].2 hx.2.1 hx.2.2 (by omega)) Tryd.call27 rfl rfl rfl rfl rfl trivial rfl (by simp) ?_
        rintro g σ' n' ⟨rfl, rfl, rfl⟩
        refine vc_sound pg_ok 200 _ _ ?_
        rw [← hs]
        refine JK.call (n0 := 2) (r := rr 0 3) (wlen_ct bs') Tryd.call12 rfl rfl rfl rfl rfl ⟨rfl, rfl, trivial⟩ rfl (rr_lt rfl rfl) ?_
        rintro g σ' n' ⟨rfl, rfl, rfl⟩
        refine vc_sound pg_ok 200 _ _ ?_
        refine neg (by rw [lett_size]; simp) ?_
        exact ⟨i + 1, r1 1 3, ⟨⟨rfl, rfl, rfl, rfl, (by rw [hsn]; rfl), succ_gi (by omega), trivial⟩, ⟨(by rw [hsn]; rfl), (by rw [hsn]; rfl), trivial⟩, rfl⟩, by omega, by show l.length - (i + 1) < l.length - i; omega⟩
      · refine neg (by simpa using hk) ?_
        by_cases hk0 : l[i].1 = 0
        · refine pos (by rw [hk0]; rfl) ?_
          have he : stepW l[i] = lowBits (uW l[i].2) 1 := by unfold stepW; rw [if_neg hk, if_pos hk0]
          rw [he] at hs
          refine JK.call (n0 := 2) (r := rr 0 1) (bit_w bs l[i].2 (by omega)) Tryd.call28 rfl rfl rfl rfl rfl ⟨rfl, rfl, trivial⟩ rfl (rr_lt rfl rfl) ?_
          rintro g σ' n' ⟨rfl, rfl, rfl⟩
          refine vc_sound pg_ok 200 _ _ ?_
          refine JK.call (n0 := 0) (r := id) (refAdd_w bs l[i].2 1 (by omega)) Tryd.call29 rfl rfl rfl rfl rfl trivial rfl (by simp) ?_
          rintro g σ' n' ⟨rfl, rfl, rfl⟩
          refine vc_sound pg_ok 200 _ _ ?_
          rw [show min (1 : Int).toNat 64 = 1 from rfl, ← hs]
          refine JK.call (n0 := 2) (r := rr 0 3) (wlen_ct bs') Tryd.call12 rfl rfl rfl rfl rfl ⟨rfl, rfl, trivial⟩ rfl (rr_lt rfl rfl) ?_
          rintro g σ' n' ⟨rfl, rfl, rfl⟩
          refine vc_sound pg_ok 200 _ _ ?_
          refine neg (by rw [lett_size]; simp) ?_
          exact ⟨i + 1, r1 1 3, ⟨⟨rfl, rfl, rfl, rfl, (by rw [hsn]; rfl), succ_gi (by omega), trivial⟩, ⟨(by rw [hsn]; rfl), (by rw [hsn]; rfl), trivial⟩, rfl⟩, by omega, by show l.length - (i + 1) < l.length - i; omega⟩
        · refine neg (by simpa using hk0) ?_
          have he : stepW l[i] = lowBits (uW l[i].2) (min l[i].1.toNat 64) := by unfold stepW; rw [if_neg hk, if_neg hk0]
          rw [he] at hs
          refine JK.call (n0 := 2) (r := rr 0 1) (wbits_w bs l[i].2 l[i].1 (by omega) (by omega)) Tryd.call30 rfl rfl rfl rfl rfl ⟨rfl, rfl, trivial⟩ rfl (rr_lt rfl rfl) ?_
          rintro g σ' n' ⟨rfl, rfl, rfl⟩
          refine vc_sound pg_ok 200 _ _ ?_
          refine JK.call (n0 := 0) (r := id) (refAdd_w bs l[i].2 l[i].1 (by omega)) Tryd.call29 rfl rfl rfl rfl rfl trivial rfl (by simp) ?_
          rintro g σ' n' ⟨rfl, rfl, rfl⟩
          refine vc_sound pg_ok 200 _ _ ?_
          rw [← hs]
          refine JK.call (n0 := 2) (r := rr 0 3) (wlen_ct bs') Tryd.call12 rfl rfl rfl rfl rfl ⟨rfl, rfl, trivial⟩ rfl (rr_lt rfl rfl) ?_
          rintro g σ' n' ⟨rfl, rfl, rfl⟩
          refine vc_sound pg_ok 200 _ _ ?_
          refine neg (by rw [lett_size]; simp) ?_
          exact ⟨i + 1, r1 1 3, ⟨⟨rfl, rfl, rfl, rfl, (by rw [hsn]; rfl), succ_gi (by omega), trivial⟩, ⟨(by rw [hsn]; rfl), (by rw [hsn]; rfl), trivial⟩, rfl⟩, by omega, by show l.length - (i + 1) < l.length - i; omega⟩
    · have e : i = l.length := by omega
      subst e
      refine neg (by simp) ?_
      rw [List.take_length]
      exact ⟨(), id, ⟨⟨rfl, rfl, rfl, rfl, trivial⟩, ⟨rfl, rfl, trivial⟩, rfl⟩, trivial⟩
  · intro _ _
    have hpl := stepsW_len l
    refine vc_sound pg_ok 200 _ _ ?_
    generalize stepsW l = bs at hpl
    refine JK.call (n0 := 2) (r := rr 0 1) (wbytes_ct bs) Tryd.call17 rfl rfl rfl rfl rfl ⟨rfl, rfl, trivial⟩ rfl (rr_lt rfl rfl) ?_
    rintro g σ' n' ⟨rfl, rfl, rfl⟩
    refine vc_sound pg_ok 200 _ _ ?_
    refine JK.call (n0 := 0) (r := id) (refBytes_ct bs (by omega)) Tryd.call31 rfl rfl rfl rfl rfl trivial rfl (by simp) ?_
    rintro g σ' n' ⟨rfl, rfl, rfl⟩
    refine vc_sound pg_ok 200 _ _ ?_
    refine pos (by simp) ?_
    refine JK.call (n0 := 0) (r := id) (zig_ct n hn.1 hn.2) Tryd.call15 rfl rfl rfl rfl rfl trivial rfl (by simp) ?_
    rintro g σ' n' ⟨rfl, rfl, rfl⟩
    refine vc_sound pg_ok 200 _ _ ?_
    refine JK.call (n0 := 0) (r := id) (refZig_ct n hn.1 hn.2) Tryd.call32 rfl rfl rfl rfl rfl trivial rfl (by simp) ?_
    rintro g σ' n' ⟨rfl, rfl, rfl⟩
    refine vc_sound pg_ok 200 _ _ ?_
    refine pos (by simp) ?_
    refine JK.call (n0 := 0) (r := id) (zag_ct u hu) Tryd.call14 rfl rfl rfl rfl rfl trivial rfl (by simp) ?_
    rintro g σ' n' ⟨rfl, rfl, rfl⟩
    refine vc_sound pg_ok 200 _ _ ?_
    refine JK.call (n0 := 0) (r := id) (refZag_ct u hu) Tryd.call33 rfl rfl rfl rfl rfl trivial rfl (by simp) ?_
    rintro g σ' n' ⟨rfl, rfl, rfl⟩
    refine vc_sound pg_ok 200 _ _ ?_
    refine .inr (congrArg GV.b ?_)
    simp
end Go.Proofs.YtakkdpfbgjccpaaDoor
