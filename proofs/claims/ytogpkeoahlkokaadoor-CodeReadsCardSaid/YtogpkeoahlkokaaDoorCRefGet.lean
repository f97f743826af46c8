/-
  Contracts: the document's answer on bits that are read (raingaugeref: Value, Get).
-/
import Derived.Test.YtogpkeoahlkokaaDoorCRefBits
import Derived.Test.YtogpkeoahlkokaaDoorCOf
import Derived.Test.YtogpkeoahlkokaaDoorCErr
namespace Go.Proofs.YtogpkeoahlkokaaDoor
open Go.GK Go.PL
set_option maxRecDepth 100000
theorem refValue_ct (bs : List Bool) (hl : bs.length ≤ 64) : Ct pg 65 0 [gs (lett bs)] [] (Val fun g => g = gu (valB bs)) := by
  refine Ct.val (Ct.of_JK pg_ok Tryd.func65 rfl Tryd.ntmps65 rfl Tryd.results65 fun H0 S0 w0 h0 g0 => ?_)
  refine vc_sound pg_ok 200 _ _ ?_
  refine JK.loop (α := Nat) (fun i => ⟨[(0, gs (lett bs)), (3, gu (valB (bs.take i))), (6, gi bs.length), (7, gi i)], [], 0⟩) (fun i => i ≤ bs.length) (fun i => bs.length - i) 0 id ?_ (Nat.zero_le _) ?_
  · refine ⟨⟨rfl, ?_, ?_, rfl, trivial⟩, trivial, rfl⟩
    · rw [List.take_zero]; rfl
    · show some (gi _) = some (gi _)
      rw [lett_size]
  · intro i hi
    refine vc_sound pg_ok 200 _ _ ?_
    by_cases hlt : i < bs.length
    · refine pos (by simp <;> omega) ?_
      have hbl : (lett bs)[(i : Int).toNat]? = some (ch bs[i]) := by
        rw [Int.toNat_natCast, lett_get, List.getElem?_eq_getElem hlt]; rfl
      refine ⟨ch bs[i], by omega, hbl, ?_⟩
      refine ⟨i + 1, id, ⟨⟨rfl, ?_, rfl, succ_gi (by omega), trivial⟩, trivial, rfl⟩, by omega, by show bs.length - (i + 1) < bs.length - i; omega⟩
      have h1 := valB_le bs (i + 1) hl (by omega)
      show some (GV.v (.int .u64 _)) = some (gu _)
      rw [List.take_succ_eq_append_getElem hlt, valB_snoc] at h1 ⊢
      congr 3
      have e : IntKind.u64.wrap (IntKind.u8.wrap (((ch bs[i]).toNat : Int) - 48)) = ((bs[i].toNat : Nat) : Int) := by cases bs[i] <;> rfl
      rw [e]
      generalize valB (bs.take i) = x at h1
      generalize bs[i].toNat = y at h1
      simp only [IntKind.wrap_u64]
      omega
    · refine neg (by simp <;> omega) ?_
      have : i = bs.length := by omega
      subst this
      refine vc_sound pg_ok 200 _ _ ?_
      rw [List.take_length]
      exact ⟨rfl, rfl⟩
def getG (bs : List Bool) : GV := match getF bs with
  | some (v, r) => .tup [gi v, gs (lett r), .v (.bool true)]
  | none => .tup [gi 0, gs ⟨#[]⟩, .v (.bool false)]
theorem rrange_ct (s : ByteArray) (n : Nat) (k : Int) (hk : 64 < k) : Ct pg 61 1 [.p 0 0, gi k] (rHeap 0 s n) (fun g σ m => g = .tup [gu 0, .ifc 61 (gi 2)] ∧ σ = rHeap 0 s n ∧ m = 1) := by
  refine Ct.of_JK pg_ok Tryd.func61 rfl Tryd.ntmps61 rfl Tryd.results61 fun H0 S0 w0 h0 g0 => ?_
  refine vc_sound pg_ok 200 _ _ ?_
  refine neg' (by simp <;> omega) ?_
  refine pos (by simp <;> omega) ?_
  exact ⟨rfl, rfl, rfl⟩
theorem getG_none {bs : List Bool} (h : getF bs = none) : getG bs = .tup [gi 0, gs ⟨#[]⟩, .v (.bool false)] := by unfold getG; rw [h]
theorem getG_some {bs r : List Bool} {v : Int} (h : getF bs = some (v, r)) : getG bs = .tup [gi v, gs (lett r), .v (.bool true)] := by unfold getG; rw [h]
theorem zag_in {u : Nat} (hu : u < 18446744073709551616) : -9223372036854775808 ≤ zagF u ∧ zagF u ≤ 9223372036854775807 := by
  unfold zagF
  split <;> omega
theorem refGet_ct (bs : List Bool) (hl : bs.length ≤ 1000000) : Ct pg 42 0 [gs (lett bs)] [] (Val fun g => g = getG bs) := by
  refine Ct.val (Ct.of_JK pg_ok Tryd.func42 rfl Tryd.ntmps42 rfl Tryd.results42 fun H0 S0 w0 h0 g0 => ?_)
  have hidb : ∀ g, g = getG bs → idb 0 g = true := by
    rintro g rfl
    unfold getG
    cases getF bs with
    | none => rfl
    | some x => rfl
  refine vc_sound pg_ok 200 _ _ ?_
  refine JK.loopE (α := Nat × List Bool) (β := Nat × List Bool) (fun x => ⟨[(0, gs (lett x.2)), (5, gi x.1)], [], 0⟩) (fun x => x.1 ≤ 6 ∧ x.2.length ≤ bs.length ∧ pfx 6 0 bs = pfx (6 - x.1) x.1 x.2) (fun x => 6 - x.1)
    (fun x => ⟨[(0, gs (lett x.2)), (5, gi x.1)], [], 0⟩) (fun x => x.1 ≤ 6 ∧ x.2.length ≤ bs.length ∧ pfx 6 0 bs = some (x.1, x.2)) (0, bs) id ?_ ⟨by omega, Nat.le_refl _, rfl⟩ ?_ ?_
  · exact ⟨⟨rfl, rfl, trivial⟩, trivial, rfl⟩
  · rintro ⟨k, b⟩ ⟨hk, hlb, hp⟩
    simp only at hk hlb hp
    refine (show JK _ _ _ (⟨[(0, gs (lett b)), (5, gi k)], [], 0⟩ : St) from ?_)
    refine vc_sound pg_ok 200 _ _ ?_
    by_cases hk6 : k < 6
    · refine pos (by simp <;> omega) ?_
      have e6 : 6 - k = 6 - (k + 1) + 1 := by omega
      cases b with
      | nil =>
        refine pos (by rw [lett_size]; rfl) ?_
        rw [e6, pfx_nil rfl] at hp
        have hg : getF bs = none := by unfold getF; rw [hp]
        have := getG_none hg
        exact ⟨this.symm, rfl⟩
      | cons c b =>
        refine neg (by rw [lett_size]; simp; omega) ?_
        refine ⟨ch c, by omega, rfl, ?_⟩
        have hs := lett_size (c :: b)
        refine ⟨by omega, by rw [hs, List.length_cons]; omega, by omega, ?_⟩
        have ee : (lett (c :: b)).extract (1 : Int).toNat ((lett (c :: b)).size : Int).toNat = lett b := by
          rw [Int.toNat_natCast, hs, lett_ext]
          simp
        rw [ee]
        rw [e6, pfx_step (f := 6 - (k + 1)) (k := k) (B := c :: b) (b := c) rfl] at hp
        simp only [List.drop_succ_cons, List.drop_zero] at hp
        simp only [List.length_cons] at hlb
        cases c with
        | false =>
          refine pos rfl ?_
          exact ⟨(k, b), id, ⟨⟨rfl, rfl, trivial⟩, trivial, rfl⟩, hk, by show b.length ≤ _; omega, hp⟩
        | true =>
          refine neg rfl ?_
          exact ⟨(k + 1, b), id, ⟨⟨rfl, succ_gi (by omega), trivial⟩, trivial, rfl⟩, ⟨by show k + 1 ≤ 6; omega, by show b.length ≤ _; omega, hp⟩, by show 6 - (k + 1) < 6 - k; omega⟩
    · refine neg (by simp <;> omega) ?_
      have e : k = 6 := by omega
      subst e
      exact ⟨(6, b), id, ⟨⟨rfl, rfl, trivial⟩, trivial, rfl⟩, Nat.le_refl _, hlb, hp⟩
  · rintro ⟨k, b⟩ ⟨hk, hlb, hp⟩
    simp only at hk hlb hp
    have hgf : getF bs = if b.length < sizeF k then none else if 0 < k ∧ valB (b.take (sizeF k)) >>> sizeF (k - 1) = 0 then none else some (zagF (valB (b.take (sizeF k))), b.drop (sizeF k)) := by unfold getF; rw [hp]
    have hs64 := sizeF_le k
    refine (show JK _ _ _ (⟨[(0, gs (lett b)), (5, gi k)], [], 0⟩ : St) from ?_)
    refine vc_sound pg_ok 200 _ _ ?_
    refine JK.call (n0 := 0) (r := id) (size_ct k hk) Tryd.call63 rfl rfl rfl rfl rfl trivial rfl (by simp) ?_
    rintro g σ' n' ⟨rfl, rfl, rfl⟩
    refine vc_sound pg_ok 200 _ _ ?_
    by_cases hlt : b.length < sizeF k
    · refine pos (by rw [lett_size]; exact decide_eq_true (by omega)) ?_
      rw [if_pos hlt] at hgf
      exact ⟨(getG_none hgf).symm, rfl⟩
    · refine neg (by rw [lett_size]; exact decide_eq_false (by omega)) ?_
      rw [if_neg hlt] at hgf
      refine ⟨by omega, by omega, by rw [lett_size]; omega, ?_⟩
      have ee : (lett b).extract (0 : Int).toNat ((sizeF k : Nat) : Int).toNat = lett (b.take (sizeF k)) := by
        rw [Int.toNat_natCast, lett_ext]
        simp
      rw [ee]
      have htl : (b.take (sizeF k)).length = sizeF k := by rw [List.length_take]; omega
      have hu := valB_lt (b.take (sizeF k))
      rw [htl] at hu
      have hu64 : valB (b.take (sizeF k)) < 18446744073709551616 := Nat.lt_of_lt_of_le hu (Nat.pow_le_pow_right (n := 2) (by omega) hs64)
      refine JK.call (n0 := 0) (r := id) (refValue_ct (b.take (sizeF k)) (by omega)) Tryd.call65 rfl rfl rfl rfl rfl trivial rfl (by simp) ?_
      rintro g σ' n' ⟨rfl, rfl, rfl⟩
      refine vc_sound pg_ok 200 _ _ ?_
      generalize hv : valB (b.take (sizeF k)) = u at hu hu64 hgf
      refine JK.call (n0 := 0) (r := id) (refZag_ct u hu64) Tryd.call64 rfl rfl rfl rfl rfl trivial rfl (by simp) ?_
      rintro g σ' n' ⟨rfl, rfl, rfl⟩
      refine vc_sound pg_ok 200 _ _ ?_
      have hz := zag_in hu64
      refine JK.call (n0 := 0) (r := id) (refPut_ct [] (zagF u) hz.1 hz.2 (by simp)) Tryd.call66 rfl rfl rfl rfl rfl trivial rfl (by simp) ?_
      rintro g σ' n' ⟨rfl, rfl, rfl⟩
      refine vc_sound pg_ok 200 _ _ ?_
      have hpl : (lett ([] ++ putF (zagF u))).size = lenC (clsF u) := by rw [lett_size, List.nil_append, putF_lenC, zig_zag]
      have hiff := clsF_iff hk hu
      have hinj := fun h => lenC_inj (clsF_le u) hk h
      have hLk : IntKind.i64.wrap (IntKind.i64.wrap ((k : Int) + ((sizeF k : Nat) : Int)) + (if IntKind.i64.wrap (6 - (k : Int)) < 1 then IntKind.i64.wrap (6 - (k : Int)) else 1)) = ((lenC k : Nat) : Int) := by
        rw [wrap_id (x := (k : Int) + _) (by omega) (by omega), wrap_id (x := 6 - (k : Int)) (by omega) (by omega)]
        unfold lenC
        split
        · rw [wrap_id (by omega) (by omega)]; omega
        · rw [wrap_id (by omega) (by omega)]; omega
      by_cases hck : clsF u = k
      · refine neg (by rw [hpl, hLk, hck]; simp) ?_
        rw [if_neg (hiff.1 hck)] at hgf
        refine ⟨by kernel_rfl, ?_⟩
        refine ⟨by omega, by rw [lett_size]; omega, by omega, ?_⟩
        have e2 : (lett b).extract ((sizeF k : Nat) : Int).toNat ((lett b).size : Int).toNat = lett (b.drop (sizeF k)) := by
          rw [Int.toNat_natCast, Int.toNat_natCast, lett_ext, lett_size, List.take_length]
        rw [e2]
        exact ⟨(getG_some hgf).symm, rfl⟩
      · refine pos (by rw [hpl, hLk]; simp; exact fun h => hck (hinj (by exact_mod_cast h))) ?_
        rw [if_pos (Classical.not_not.1 (fun h => hck (hiff.2 h)))] at hgf
        exact ⟨(getG_none hgf).symm, rfl⟩
end Go.Proofs.YtogpkeoahlkokaaDoor
