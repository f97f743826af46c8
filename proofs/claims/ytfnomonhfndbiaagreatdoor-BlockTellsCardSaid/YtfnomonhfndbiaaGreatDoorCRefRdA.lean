/-
  Contracts: the document's answer on bits that are read (raingaugeref: Value, Get).
-/
import Derived.Test.YtfnomonhfndbiaaGreatDoorCRefBits
import Derived.Test.YtfnomonhfndbiaaGreatDoorCOf
import Derived.Test.YtfnomonhfndbiaaGreatDoorCErr
import Derived.Test.YtfnomonhfndbiaaGreatDoorCRefChunk
import Derived.Test.YtfnomonhfndbiaaGreatDoorCRead
namespace Go.Proofs.YtfnomonhfndbiaaGreatDoor
open Go.GK Go.PL
set_option maxRecDepth 100000
theorem refValue_ct (bs : List Bool) (hl : bs.length ≤ 64) : Ct pg 92 0 [gs (lett bs)] [] (Val fun g => g = gu (valB bs)) := by
  refine Ct.val (Ct.of_JK pg_ok Tryz.func92 rfl Tryz.ntmps92 rfl Tryz.results92 fun H0 S0 w0 h0 g0 => ?_)
  refine vc_sound pg_ok 200 _ _ ?_
  refine JK.loop (α := Nat) (fun i => ⟨[(0, gs (lett bs)), (3, gu (valB (bs.take i))), (6, gi bs.length), (7, gi i)], [], 0⟩) (fun i => i ≤ bs.length) (fun i => bs.length - i) 0 id ?_ (Nat.zero_le _) ?_
  · refine ⟨⟨rfl, ?_, ?_, rfl, trivial⟩, trivial, rfl⟩
    · rw [List.take_zero]; rfl
    · show some (gi _) = some (gi _)
      rw [lett_size]
  · intro i hi
    refine vc_sound pg_ok 200 _ _ ?_
    by_cases hlt : i < bs.length
    · refine pos (by simp <;> omega) ?_
      have hbl : (lett bs)[(i : Int).toNat]? = some (ch bs[i]) := by
        rw [Int.toNat_natCast, lett_get, List.getElem?_eq_getElem hlt]; rfl
      refine ⟨ch bs[i], by omega, hbl, ?_⟩
      refine ⟨i + 1, id, ⟨⟨rfl, ?_, rfl, succ_gi (by omega), trivial⟩, trivial, rfl⟩, by omega, by show bs.length - (i + 1) < bs.length - i; omega⟩
      have h1 := valB_le bs (i + 1) hl (by omega)
      show some (GV.v (.int .u64 _)) = some (gu _)
      rw [List.take_succ_eq_append_getElem hlt, valB_snoc] at h1 ⊢
      congr 3
      have e : IntKind.u64.wrap (IntKind.u8.wrap (((ch bs[i]).toNat : Int) - 48)) = ((bs[i].toNat : Nat) : Int) := by cases bs[i] <;> rfl
      rw [e]
      generalize valB (bs.take i) = x at h1
      generalize bs[i].toNat = y at h1
      simp only [IntKind.wrap_u64]
      omega
    · refine neg (by simp <;> omega) ?_
      have : i = bs.length := by omega
      subst this
      refine vc_sound pg_ok 200 _ _ ?_
      rw [List.take_length]
      exact ⟨rfl, rfl⟩
def getG (bs : List Bool) : GV := match getF bs with
  | some (v, r) => .tup [gi v, gs (lett r), .v (.bool true)]
  | none => .tup [gi 0, gs ⟨#[]⟩, .v (.bool false)]
theorem rrange_ct (s : ByteArray) (n : Nat) (k : Int) (hk : 64 < k) : Ct pg 94 1 [.p 0 0, gi k] (rHeap 0 s n) (fun g σ m => g = .tup [gu 0, .ifc 26 (gi 2)] ∧ σ = rHeap 0 s n ∧ m = 1) := by
  refine Ct.of_JK pg_ok Tryz.func94 rfl Tryz.ntmps94 rfl Tryz.results94 fun H0 S0 w0 h0 g0 => ?_
  refine vc_sound pg_ok 200 _ _ ?_
  refine neg' (by simp <;> omega) ?_
  refine pos (by simp <;> omega) ?_
  exact ⟨rfl, rfl, rfl⟩
theorem getG_none {bs : List Bool} (h : getF bs = none) : getG bs = .tup [gi 0, gs ⟨#[]⟩, .v (.bool false)] := by unfold getG; rw [h]
theorem getG_some {bs r : List Bool} {v : Int} (h : getF bs = some (v, r)) : getG bs = .tup [gi v, gs (lett r), .v (.bool true)] := by unfold getG; rw [h]
theorem zag_in {u : Nat} (hu : u < 18446744073709551616) : -9223372036854775808 ≤ zagF u ∧ zagF u ≤ 9223372036854775807 := by
  unfold zagF
  split <;> omega
theorem refGet_ct (bs : List Bool) (hl : bs.length ≤ 1000000) : Ct pg 69 0 [gs (lett bs)] [] (Val fun g => g = getG bs) := by
  refine Ct.val (Ct.of_JK pg_ok Tryz.func69 rfl Tryz.ntmps69 rfl Tryz.results69 fun H0 S0 w0 h0 g0 => ?_)
  have hidb : ∀ g, g = getG bs → idb 0 g = true := by
    rintro g rfl
    unfold getG
    cases getF bs with
    | none => rfl
    | some x => rfl
  refine vc_sound pg_ok 200 _ _ ?_
  refine JK.loopE (α := Nat × List Bool) (β := Nat × List Bool) (fun x => ⟨[(0, gs (lett x.2)), (5, gi x.1)], [], 0⟩) (fun x => x.1 ≤ 6 ∧ x.2.length ≤ bs.length ∧ pfx 6 0 bs = pfx (6 - x.1) x.1 x.2) (fun x => 6 - x.1)
    (fun x => ⟨[(0, gs (lett x.2)), (5, gi x.1)], [], 0⟩) (fun x => x.1 ≤ 6 ∧ x.2.length ≤ bs.length ∧ pfx 6 0 bs = some (x.1, x.2)) (0, bs) id ?_ ⟨by omega, Nat.le_refl _, rfl⟩ ?_ ?_
  · exact ⟨⟨rfl, rfl, trivial⟩, trivial, rfl⟩
  · rintro ⟨k, b⟩ ⟨hk, hlb, hp⟩
    simp only at hk hlb hp
    refine (show JK _ _ _ (⟨[(0, gs (lett b)), (5, gi k)], [], 0⟩ : St) from ?_)
    refine vc_sound pg_ok 200 _ _ ?_
    by_cases hk6 : k < 6
    · refine pos (by simp <;> omega) ?_
      have e6 : 6 - k = 6 - (k + 1) + 1 := by omega
      cases b with
      | nil =>
        refine pos (by rw [lett_size]; rfl) ?_
        rw [e6, pfx_nil rfl] at hp
        have hg : getF bs = none := by unfold getF; rw [hp]
        have := getG_none hg
        exact ⟨this.symm, rfl⟩
      | cons c b =>
        refine neg (by rw [lett_size]; simp; omega) ?_
        refine ⟨ch c, by omega, rfl, ?_⟩
        have hs := lett_size (c :: b)
        refine ⟨by omega, by rw [hs, List.length_cons]; omega, by omega, ?_⟩
        have ee : (lett (c :: b)).extract (1 : Int).toNat ((lett (c :: b)).size : Int).toNat = lett b := by
          rw [Int.toNat_natCast, hs, lett_ext]
          simp
        rw [ee]
        rw [e6, pfx_step (f := 6 - (k + 1)) (k := k) (B := c :: b) (b := c) rfl] at hp
        simp only [List.drop_succ_cons, List.drop_zero] at hp
        simp only [List.length_cons] at hlb
        cases c with
        | false =>
          refine pos rfl ?_
          exact ⟨(k, b), id, ⟨⟨rfl, rfl, trivial⟩, trivial, rfl⟩, hk, by show b.length ≤ _; omega, hp⟩
        | true =>
          refine neg rfl ?_
          exact ⟨(k + 1, b), id, ⟨⟨rfl, succ_gi (by omega), trivial⟩, trivial, rfl⟩, ⟨by show k + 1 ≤ 6; omega, by show b.length ≤ _; omega, hp⟩, by show 6 - (k + 1) < 6 - k; omega⟩
    · refine neg (by simp <;> omega) ?_
      have e : k = 6 := by omega
      subst e
      exact ⟨(6, b), id, ⟨⟨rfl, rfl, trivial⟩, trivial, rfl⟩, Nat.le_refl _, hlb, hp⟩
  · rintro ⟨k, b⟩ ⟨hk, hlb, hp⟩
    simp only at hk hlb hp
    have hgf : getF bs = if b.length < sizeF k then none else if 0 < k ∧ valB (b.take (sizeF k)) >>> sizeF (k - 1) = 0 then none else some (zagF (valB (b.take (sizeF k))), b.drop (sizeF k)) := by unfold getF; rw [hp]
    have hs64 := sizeF_le k
    refine (show JK _ _ _ (⟨[(0, gs (lett b)), (5, gi k)], [], 0⟩ : St) from ?_)
    refine vc_sound pg_ok 200 _ _ ?_
    refine JK.call (n0 := 0) (r := id) (size_ct k hk) Tryz.call75 rfl rfl rfl rfl rfl trivial rfl (by simp) ?_
    rintro g σ' n' ⟨rfl, rfl, rfl⟩
    refine vc_sound pg_ok 200 _ _ ?_
    by_cases hlt : b.length < sizeF k
    · refine pos (by rw [lett_size]; exact decide_eq_true (by omega)) ?_
      rw [if_pos hlt] at hgf
      exact ⟨(getG_none hgf).symm, rfl⟩
    · refine neg (by rw [lett_size]; exact decide_eq_false (by omega)) ?_
      rw [if_neg hlt] at hgf
      refine ⟨by omega, by omega, by rw [lett_size]; omega, ?_⟩
      have ee : (lett b).extract (0 : Int).toNat ((sizeF k : Nat) : Int).toNat = lett (b.take (sizeF k)) := by
        rw [Int.toNat_natCast, lett_ext]
        simp
      rw [ee]
      have htl : (b.take (sizeF k)).length = sizeF k := by rw [List.length_take]; omega
      have hu := valB_lt (b.take (sizeF k))
      rw [htl] at hu
      have hu64 : valB (b.take (sizeF k)) < 18446744073709551616 := Nat.lt_of_lt_of_le hu (Nat.pow_le_pow_right (n := 2) (by omega) hs64)
      refine JK.call (n0 := 0) (r := id) (refValue_ct (b.take (sizeF k)) (by omega)) Tryz.call92 rfl rfl rfl rfl rfl trivial rfl (by simp) ?_
      rintro g σ' n' ⟨rfl, rfl, rfl⟩
      refine vc_sound pg_ok 200 _ _ ?_
      generalize hv : valB (b.take (sizeF k)) = u at hu hu64 hgf
      refine JK.call (n0 := 0) (r := id) (refZag_ct u hu64) Tryz.call91 rfl rfl rfl rfl rfl trivial rfl (by simp) ?_
      rintro g σ' n' ⟨rfl, rfl, rfl⟩
      refine vc_sound pg_ok 200 _ _ ?_
      have hz := zag_in hu64
      refine JK.call (n0 := 0) (r := id) (refPut_ct [] (zagF u) hz.1 hz.2 (by simp)) Tryz.call58 rfl rfl rfl rfl rfl trivial rfl (by simp) ?_
      rintro g σ' n' ⟨rfl, rfl, rfl⟩
      refine vc_sound pg_ok 200 _ _ ?_
      have hpl : (lett ([] ++ putF (zagF u))).size = lenC (clsF u) := by rw [lett_size, List.nil_append, putF_lenC, zig_zag]
      have hiff := clsF_iff hk hu
      have hinj := fun h => lenC_inj (clsF_le u) hk h
      have hLk : IntKind.i64.wrap (IntKind.i64.wrap ((k : Int) + ((sizeF k : Nat) : Int)) + (if IntKind.i64.wrap (6 - (k : Int)) < 1 then IntKind.i64.wrap (6 - (k : Int)) else 1)) = ((lenC k : Nat) : Int) := by
        rw [wrap_id (x := (k : Int) + _) (by omega) (by omega), wrap_id (x := 6 - (k : Int)) (by omega) (by omega)]
        unfold lenC
        split
        · rw [wrap_id (by omega) (by omega)]; omega
        · rw [wrap_id (by omega) (by omega)]; omega
      by_cases hck : clsF u = k
      · refine neg (by rw [hpl, hLk, hck]; simp) ?_
        rw [if_neg (hiff.1 hck)] at hgf
        refine ⟨by kernel_rfl, ?_⟩
        refine ⟨by omega, by rw [lett_size]; omega, by omega, ?_⟩
        have e2 : (lett b).extract ((sizeF k : Nat) : Int).toNat ((lett b).size : Int).toNat = lett (b.drop (sizeF k)) := by
          rw [Int.toNat_natCast, Int.toNat_natCast, lett_ext, lett_size, List.take_length]
        rw [e2]
        exact ⟨(getG_some hgf).symm, rfl⟩
      · refine pos (by rw [hpl, hLk]; simp; exact fun h => hck (hinj (by exact_mod_cast h))) ?_
        rw [if_pos (Classical.not_not.1 (fun h => hck (hiff.2 h)))] at hgf
        exact ⟨(getG_none hgf).symm, rfl⟩
end Go.Proofs.YtfnomonhfndbiaaGreatDoor


namespace Go.Proofs.YtfnomonhfndbiaaGreatDoor
open Go.GK Go.PL
set_option maxRecDepth 100000
/-- What reading comes to. -/
def ReadRQ (s : ByteArray) (g : GV) : Prop :=
  (∃ l, okS l = true ∧ V64 l ∧ s = enc l ∧ g = .tup [.sl 2 (l.map sm), gi 0]) ∨
  ((∀ l, okS l = true → V64 l → s ≠ enc l) ∧ g = .tup [.v (.slice none 0 0), gi 3])
theorem ReadRQ.no {s : ByteArray} (h : ∀ l, okS l = true → V64 l → s ≠ enc l) : ReadRQ s (.tup [.v (.slice none 0 0), gi 3]) ∧ idb 0 (.tup [.v (.slice none 0 0), gi 3]) = true := ⟨.inr ⟨h, rfl⟩, rfl⟩
theorem getNo_ct (bs : List Bool) (hl : bs.length ≤ 1000000) (h : getF bs = none) : Ct pg 69 0 [gs (lett bs)] [] (Val fun g => g = .tup [gi 0, gs ⟨#[]⟩, .v (.bool false)]) := by
  have := refGet_ct bs hl
  rw [getG_none h] at this
  exact this
theorem getYes_ct (bs r : List Bool) (v : Int) (hl : bs.length ≤ 1000000) (h : getF bs = some (v, r)) : Ct pg 69 0 [gs (lett bs)] [] (Val fun g => g = .tup [gi v, gs (lett r), .v (.bool true)]) := by
  have := refGet_ct bs hl
  rw [getG_some h] at this
  exact this
/-- What is known in a round. -/
def PartR (s : ByteArray) (n i : Nat) (li : List Sm) (last : Sm) (step : Int) (bs : List Bool) : Prop :=
  ∀ L, okS L = true → V64 L → s = enc L → n = L.length ∧ li = L.take i ∧ ∃ z, bs = chunkR (L.drop i) last step (i == 0) ++ z
theorem pfx_len : ∀ (f k : Nat) (bs r : List Bool) (c : Nat), pfx f k bs = some (c, r) → r.length ≤ bs.length
  | 0, k, bs, r, c, h => by
    simp only [pfx, Option.some.injEq, Prod.mk.injEq] at h
    rw [h.2]; exact Nat.le_refl _
  | f + 1, k, [], r, c, h => by simp [pfx] at h
  | f + 1, k, b :: bs, r, c, h => by
    simp only [pfx] at h
    split at h
    · have := pfx_len f (k + 1) bs r c h
      simp only [List.length_cons]
      omega
    · simp only [Option.some.injEq, Prod.mk.injEq] at h
      rw [← h.2]; simp
theorem getF_len {bs r : List Bool} {v : Int} (h : getF bs = some (v, r)) : r.length ≤ bs.length := by
  unfold getF at h
  split at h
  · cases h
  · rename_i k q hp
    have h1 := pfx_len _ _ _ _ _ hp
    split at h
    · cases h
    · split at h
      · cases h
      · simp only [Option.some.injEq, Prod.mk.injEq] at h
        rw [← h.2, List.length_drop]
        omega
theorem getF_in {bs r : List Bool} {v : Int} (h : getF bs = some (v, r)) : In64 v := by
  unfold getF at h
  split at h
  · cases h
  · rename_i k q hp
    split at h
    · cases h
    · split at h
      · cases h
      · simp only [Option.some.injEq, Prod.mk.injEq] at h
        rw [← h.1]
        have hu := valB_lt (q.take (sizeF k))
        rw [List.length_take] at hu
        have h64 := sizeF_le k
        exact zag_in (Nat.lt_of_lt_of_le hu (Nat.pow_le_pow_right (n := 2) (by omega) (by omega : min (sizeF k) q.length ≤ 64)))
theorem refRead_ct (s : ByteArray) (hs : s.size ≤ 100000) : Ct pg 52 0 [gs s] [] (Val (ReadRQ s)) := by
  have hsb := sb_len s
  refine Ct.val (Ct.of_JK pg_ok Tryz.func52 rfl Tryz.ntmps52 rfl Tryz.results52 fun H0 S0 w0 h0 g0 => ?_)
  have hfirst : ∀ L, okS L = true → s = enc L → getF (sb s) = some ((L.length : Int), chunkR L ⟨0, 0⟩ 0 true ++ List.replicate (8 * (((chunkF L).length + 7) / 8) - (chunkF L).length) false) := fun L hL e => by
    rw [e, enc_bits]
    unfold chunkF
    rw [List.append_assoc]
    have := ((okS_iff L).1 hL).2
    exact get_put _ (by omega) (by omega) _
  refine vc_sound pg_ok 200 _ _ ?_
  refine JK.call (n0 := 0) (r := id) (of_ct s (by omega)) Tryz.call70 rfl rfl rfl rfl rfl trivial rfl (by simp) ?_
  rintro g σ' n' ⟨rfl, rfl, rfl⟩
  refine vc_sound pg_ok 200 _ _ ?_
  cases hg : getF (sb s) with
  | none =>
    refine JK.call (n0 := 0) (r := id) (getNo_ct (sb s) (by omega) hg) Tryz.call69 rfl rfl rfl rfl rfl trivial rfl (by simp) ?_
    rintro g σ' n' ⟨rfl, rfl, rfl⟩
    refine vc_sound pg_ok 200 _ _ ?_
    exact ReadRQ.no fun L hL hV e => by rw [hfirst L hL e] at hg; cases hg
  | some y =>
    obtain ⟨v, r⟩ := y
    refine JK.call (n0 := 0) (r := id) (getYes_ct (sb s) r v (by omega) hg) Tryz.call69 rfl rfl rfl rfl rfl trivial rfl (by simp) ?_
    rintro g σ' n' ⟨rfl, rfl, rfl⟩
    refine vc_sound pg_ok 200 _ _ ?_
    refine JK.call (n0 := 0) (r := id) (in_ct v 0 2000) Tryz.call27 rfl rfl rfl rfl rfl trivial rfl (by simp) ?_
    rintro g σ' n' ⟨rfl, rfl, rfl⟩
    refine vc_sound pg_ok 200 _ _ ?_
    by_cases hv : 0 ≤ v ∧ v ≤ 2000
    · refine neg (by rw [decide_eq_true hv]; rfl) ?_
      refine JK.ownNil 7 65 2 rfl ?_
      obtain ⟨n, rfl⟩ := Int.eq_ofNat_of_zero_le hv.1
      have hn : n ≤ 2000 := by omega
      have hrl : r.length ≤ 800000 := by
        have h1 := getF_len hg
        omega
      refine JK.loopE (α := Nat × List Sm × Sm × Int × List Bool) (β := List Sm)
        (fun y => ⟨[(0, gs s), (5, gs (lett y.2.2.2.2)), (30, gi n), (31, gi y.1), (7, .o 0)], [(0, .row 65 2 (y.2.1.map sm))], 1⟩)
        (fun y => y.1 ≤ n ∧ y.2.1.length = y.1 ∧ y.2.2.2.2.length ≤ 800000 ∧ Ahead y.2.1 y.1 y.2.2.1 y.2.2.2.1 ∧ Fit y.2.2.1 y.2.2.2.1 ∧ V64 y.2.1 ∧ PartR s n y.1 y.2.1 y.2.2.1 y.2.2.2.1 y.2.2.2.2) (fun y => n - y.1)
        (fun li => ⟨[(0, gs s), (7, .o 0)], [(0, .row 65 2 (li.map sm))], 1⟩) (fun li => li.length ≤ 2000 ∧ V64 li ∧ ∀ L, okS L = true → V64 L → s = enc L → li = L)
        (0, [], ⟨0, 0⟩, 0, r) id ?_ ⟨Nat.zero_le _, rfl, hrl, .inl ⟨rfl, rfl, rfl⟩, .zero, fun x hx => by simp at hx, fun L hL hV e => ?_⟩ ?_ ?_
      · exact ⟨⟨rfl, rfl, rfl, rfl, rfl, trivial⟩, ⟨rfl, trivial⟩, rfl⟩
      · rw [hfirst L hL e] at hg
        simp only [Option.some.injEq, Prod.mk.injEq] at hg
        exact ⟨by omega, rfl, _, hg.2.symm⟩
      · rintro ⟨i, li, last, step, bs⟩ ⟨hi, hll, hbl, hah, hfit, hVl, hpart⟩
        simp only at hi hll hbl hah hfit hVl hpart
        refine (show JK _ _ _ (⟨[(0, gs s), (5, gs (lett bs)), (30, gi n), (31, gi i), (7, .o 0)], [(0, .row 65 2 (li.map sm))], 1⟩ : St) from ?_)
        have hL : ∀ L, okS L = true → V64 L → s = enc L → ∃ (_ : i < n → i < L.length) (z : List Bool), n = L.length ∧ li = L.take i ∧ ∀ h : i < L.length, bs = putF (L[i].time - last.time - step) ++ (putF (w64 (L[i].value - last.value)) ++ (chunkR (L.drop (i + 1)) L[i] (if (i == 0) = true then step else L[i].time - last.time) false ++ z)) := fun L h1 h2 h3 => by
          obtain ⟨e1, e2, z, e3⟩ := hpart L h1 h2 h3
          refine ⟨fun h => by omega, z, e1, e2, fun h => ?_⟩
          rw [e3, List.drop_eq_getElem_cons h, chunkR]
          simp only [List.append_assoc]
        have ht1 := hfit.t1
        have ht2 := hfit.t2
        have hs1 := hfit.s1
        have hs2 := hfit.s2
        refine vc_sound pg_ok 200 _ _ ?_
        by_cases hlt : i < n
        · refine pos (by simp <;> omega) ?_
          have hg1 : ∀ L (h : i < L.length), okS L = true → V64 L → s = enc L → ∃ z, getF bs = some (L[i].time - last.time - step, putF (w64 (L[i].value - last.value)) ++ (chunkR (L.drop (i + 1)) L[i] (if (i == 0) = true then step else L[i].time - last.time) false ++ z)) ∧ -4398046511104 ≤ L[i].time - last.time - step ∧ L[i].time - last.time - step ≤ 4398046511104 := fun L h h1 h2 h3 => by
            obtain ⟨_, z, e1, e2, e3⟩ := hL L h1 h2 h3
            obtain ⟨hr, _⟩ := (okS_iff L).1 h1
            have hd := hfit.diff (hr.lo _ (List.getElem_mem h)) (hr.hi _ (List.getElem_mem h))
            exact ⟨z, by rw [e3 h]; exact get_put _ (by omega) (by omega) _, hd⟩
          have hlen : ∀ L, okS L = true → V64 L → s = enc L → i < L.length := fun L h1 h2 h3 => (hL L h1 h2 h3).1 hlt
          cases hd : getF bs with
          | none =>
            refine JK.call (n0 := 0) (r := id) (getNo_ct bs (by omega) hd) Tryz.call69 rfl rfl rfl rfl rfl trivial rfl (by simp) ?_
            rintro g σ' n' ⟨rfl, rfl, rfl⟩
            refine vc_sound pg_ok 200 _ _ ?_
            refine ReadRQ.no fun L h1 h2 h3 => ?_
            obtain ⟨z, e, _⟩ := hg1 L (hlen L h1 h2 h3) h1 h2 h3
            rw [e] at hd
            cases hd
          | some y =>
            obtain ⟨d, bs1⟩ := y
            have hbl1 := getF_len hd
            have hg2 : ∀ L (h : i < L.length), okS L = true → V64 L → s = enc L → d = L[i].time - last.time - step ∧ ∃ z, getF bs1 = some (w64 (L[i].value - last.value), chunkR (L.drop (i + 1)) L[i] (if (i == 0) = true then step else L[i].time - last.time) false ++ z) := fun L h h1 h2 h3 => by
              obtain ⟨z, e1, e2⟩ := hg1 L h h1 h2 h3
              rw [e1] at hd
              simp only [Option.some.injEq, Prod.mk.injEq] at hd
              have hv := w64_in (L[i].value - last.value)
              exact ⟨hd.1.symm, z, by rw [← hd.2]; exact get_put _ hv.1 hv.2 _⟩
            refine JK.call (n0 := 0) (r := id) (getYes_ct bs bs1 d (by omega) hd) Tryz.call69 rfl rfl rfl rfl rfl trivial rfl (by simp) ?_
            rintro g σ' n' ⟨rfl, rfl, rfl⟩
            refine vc_sound pg_ok 200 _ _ ?_
            refine JK.call (n0 := 0) (r := id) (in_ct d (-8796093022208) 8796093022208) Tryz.call27 rfl rfl rfl rfl rfl trivial rfl (by simp) ?_
            rintro g σ' n' ⟨rfl, rfl, rfl⟩
            refine vc_sound pg_ok 200 _ _ ?_
            by_cases hd8 : -8796093022208 ≤ d ∧ d ≤ 8796093022208
            · refine neg (by rw [decide_eq_true hd8]; rfl) ?_
              cases hv2 : getF bs1 with
              | none =>
                refine JK.call (n0 := 0) (r := id) (getNo_ct bs1 (by omega) hv2) Tryz.call69 rfl rfl rfl rfl rfl trivial rfl (by simp) ?_
                rintro g σ' n' ⟨rfl, rfl, rfl⟩
                refine vc_sound pg_ok 200 _ _ ?_
                refine ReadRQ.no fun L h1 h2 h3 => ?_
                obtain ⟨_, z, e⟩ := hg2 L (hlen L h1 h2 h3) h1 h2 h3
                rw [e] at hv2
                cases hv2
              | some y =>
                obtain ⟨v, bs2⟩ := y
                have hbl2 := getF_len hv2
                refine JK.call (n0 := 0) (r := id) (getYes_ct bs1 bs2 v (by omega) hv2) Tryz.call69 rfl rfl rfl rfl rfl trivial rfl (by simp) ?_
                rintro g σ' n' ⟨rfl, rfl, rfl⟩
                refine vc_sound pg_ok 200 _ _ ?_
                have hvi : In64 v := getF_in hv2
                have elo : (if (0 : Int) > IntKind.i64.wrap ((i : Int) - 1) then 0 else IntKind.i64.wrap ((i : Int) - 1)) = ((i - 1 : Nat) : Int) := by
                  rw [wrap_id (by omega) (by omega)]
                  split <;> omega
                rcases hah with ⟨h0, rfl, rfl⟩ | ⟨h0, hl0, rfl⟩ | ⟨j, q, h0, hl1, hl0, rfl⟩
                · refine neg (by simp <;> omega) ?_
                  refine neg (by simp <;> omega) ?_
                  obtain ⟨x, hxe⟩ : ∃ x : Sm, x = ⟨d, v⟩ := ⟨_, rfl⟩
                  have hxs : sm x = sm ⟨d, v⟩ := by rw [hxe]
                  have hxL : ∀ L (h : i < L.length), okS L = true → V64 L → s = enc L → x = L[i] := fun L h h1 h2 h3 => by
                    obtain ⟨ea, z2, eb⟩ := hg2 L h h1 h2 h3
                    rw [eb] at hv2
                    simp only [Option.some.injEq, Prod.mk.injEq] at hv2
                    have hval := h2 _ (List.getElem_mem h)
                    obtain ⟨ev, _⟩ := hv2
                    have hz : L[i].value - (⟨0, 0⟩ : Sm).value = L[i].value := by simp
                    rw [hz, w64_id hval.1 hval.2] at ev
                    have hz2 : d = L[i].time := by rw [ea]; simp
                    rw [hxe, ← ev, hz2]
                  have hx : ∀ L, okS L = true → V64 L → s = enc L → li ++ [x] = L.take (i + 1) := fun L h1 h2 h3 => by
                    have hiL := hlen L h1 h2 h3
                    obtain ⟨_, _, _, e2, _⟩ := hL L h1 h2 h3
                    rw [List.take_succ_eq_append_getElem hiL, ← e2, hxL L hiL h1 h2 h3]
                  have hxv : In64 x.value := by rw [hxe]; exact hvi
                  refine ⟨by simp <;> omega, ?_⟩
                  refine JK.sliceO (ty := 65) (rows := li.map sm ++ [sm ⟨d, v⟩]) (sz := 2) pg_ok rfl rfl rfl rfl rfl rfl rfl rfl rfl rfl (by rw [elo]; omega) (by rw [elo]; simp <;> omega) (Int.le_refl _) ?_
                  refine JK.callB (samples_ct ((li ++ [x]).drop (i - 1)) (by simp; omega)) Tryz.call25 rfl rfl rfl rfl ⟨⟨rfl, rfl, by rw [elo]; simp <;> omega, ?_⟩, trivial⟩ (by rintro g σ' n' ⟨rfl, rfl, rfl⟩; rfl) ?_
                  · rw [elo, Int.toNat_natCast, Int.toNat_natCast]
                    show _ = List.take ((li.map sm ++ [sm ⟨d, v⟩]).length - (i - 1)) (List.drop (i - 1) (li.map sm ++ [sm ⟨d, v⟩]))
                    rw [← hxs, ← List.length_drop, List.take_length, List.map_drop, List.map_append]
                    rfl
                  rintro g σ' n' ⟨rfl, rfl, rfl⟩
                  refine vc_sound pg_ok 200 _ _ ?_
                  cases hok : okS ((li ++ [x]).drop (i - 1)) with
                  | false =>
                    refine pos rfl ?_
                    refine ReadRQ.no fun L h1 h2 h3 => ?_
                    have := hx L h1 h2 h3
                    rw [this] at hok
                    have hr := (okS_iff L).1 h1
                    have : okS ((L.take (i + 1)).drop (i - 1)) = true := (okS_iff _).2 ⟨(hr.1.takeN _).dropN _, by simp; omega⟩
                    rw [this] at hok
                    cases hok
                  | true =>
                    refine neg rfl ?_
                    obtain ⟨hr, _⟩ := (okS_iff _).1 hok
                    have hmem : x ∈ (li ++ [x]).drop (i - 1) := by
                      rw [List.drop_append_of_le_length (by omega)]; simp
                    have hb1 := hr.lo x hmem
                    have hb2 := hr.hi x hmem
                    refine ⟨(i + 1, li ++ [x], x, 0, bs2), (fun i => [3].getD i 0), ⟨⟨rfl, rfl, rfl, succ_gi (by omega), rfl, trivial⟩, ⟨?_, trivial⟩, rfl⟩, ⟨hlt, by simp [hll], by show bs2.length ≤ 800000; omega, .inr (.inl ⟨by omega, by simp [List.length_eq_zero_iff.1 (hll.trans h0)], rfl⟩), ⟨hb1, hb2, by omega, by omega⟩, ?_, ?_⟩, by show n - (i + 1) < n - i; omega⟩
                    · rw [List.map_append, show [x].map sm = [sm x] from rfl, hxs]; rfl
                    · intro y hy
                      rcases List.mem_append.1 hy with hy | hy
                      · exact hVl y hy
                      · have : y = x := by simpa using hy
                        subst this
                        exact hxv
                    · intro L h1 h2 h3
                      obtain ⟨_, z, e1, e2, _⟩ := hL L h1 h2 h3
                      have hiL := hlen L h1 h2 h3
                      obtain ⟨ea, z2, eb⟩ := hg2 L hiL h1 h2 h3
                      refine ⟨e1, hx L h1 h2 h3, z2, ?_⟩
                      rw [eb] at hv2
                      simp only [Option.some.injEq, Prod.mk.injEq] at hv2
                      rw [← hv2.2, hxL L hiL h1 h2 h3, if_pos (by simp [h0])]
                      rfl
                · refine pos (by simp <;> omega) ?_
                  have ew : IntKind.i64.wrap ((i : Int) - 1) = ((i - 1 : Nat) : Int) := by rw [wrap_id (by omega) (by omega)]; omega
                  have hrow : (li.map sm)[i - 1]? = some (sm last) := by rw [List.getElem?_map, show i - 1 = 0 by omega, hl0]; rfl
                  refine JK.draw [1] pg_ok ?_
                  refine RA.run (e := true) pg_ok (by kernel_rfl) (fun _ _ h => h) (tk [0, 2, 3, 4, 5, 6, 7] ++ al [1, 8, 9, 10]) (by kernel_rfl) ?_
                  refine ⟨by rw [ew]; omega, by rw [ew]; simp <;> omega, ?_⟩
                  refine ⟨sm last, by rw [ew, Int.toNat_natCast]; exact hrow, ?_⟩
                  refine vc_sound pg_ok 200 _ _ ?_
                  refine JK.draw [1] pg_ok ?_
                  refine RA.run (e := true) pg_ok (by kernel_rfl) (fun _ _ h => h) (tk [0, 2, 3, 4, 5, 6, 7] ++ al [1, 8, 9, 10]) (by kernel_rfl) ?_
                  refine ⟨by rw [ew]; omega, by rw [ew]; simp <;> omega, ?_⟩
                  refine ⟨sm last, by rw [ew, Int.toNat_natCast]; exact hrow, ?_⟩
                  refine vc_sound pg_ok 200 _ _ ?_
                  refine neg (by simp <;> omega) ?_
                  obtain ⟨x, hxe⟩ : ∃ x : Sm, x = ⟨IntKind.i64.wrap (d + last.time), IntKind.i64.wrap (v + last.value)⟩ := ⟨_, rfl⟩
                  have hxs : sm x = sm ⟨IntKind.i64.wrap (d + last.time), IntKind.i64.wrap (v + last.value)⟩ := by rw [hxe]
                  have hxL : ∀ L (h : i < L.length), okS L = true → V64 L → s = enc L → x = L[i] := fun L h h1 h2 h3 => by
                    obtain ⟨ea, z2, eb⟩ := hg2 L h h1 h2 h3
                    rw [eb] at hv2
                    simp only [Option.some.injEq, Prod.mk.injEq] at hv2
                    have hval := h2 _ (List.getElem_mem h)
                    obtain ⟨ev, _⟩ := hv2
                    have e1 : IntKind.i64.wrap (d + last.time) = L[i].time := by rw [wrap_id (by omega) (by omega), ea]; omega
                    have e2 : IntKind.i64.wrap (v + last.value) = L[i].value := by
                      rw [← ev, Int.add_comm]
                      show w64 (last.value + w64 (L[i].value - last.value)) = _
                      rw [w64_add_r, show last.value + (L[i].value - last.value) = L[i].value by omega]
                      exact w64_id hval.1 hval.2
                    rw [hxe, e1, e2]
                  have hx : ∀ L, okS L = true → V64 L → s = enc L → li ++ [x] = L.take (i + 1) := fun L h1 h2 h3 => by
                    have hiL := hlen L h1 h2 h3
                    obtain ⟨_, _, _, e2, _⟩ := hL L h1 h2 h3
                    rw [List.take_succ_eq_append_getElem hiL, ← e2, hxL L hiL h1 h2 h3]
                  have hxv : In64 x.value := by rw [hxe]; exact w64_in _
                  refine ⟨by simp <;> omega, ?_⟩
                  refine JK.sliceO (ty := 65) (rows := li.map sm ++ [sm ⟨IntKind.i64.wrap (d + last.time), IntKind.i64.wrap (v + last.value)⟩]) (sz := 2) pg_ok rfl rfl rfl rfl rfl rfl rfl rfl rfl rfl (by rw [elo]; omega) (by rw [elo]; simp <;> omega) (Int.le_refl _) ?_
                  refine JK.callB (samples_ct ((li ++ [x]).drop (i - 1)) (by simp; omega)) Tryz.call25 rfl rfl rfl rfl ⟨⟨rfl, rfl, by rw [elo]; simp <;> omega, ?_⟩, trivial⟩ (by rintro g σ' n' ⟨rfl, rfl, rfl⟩; rfl) ?_
                  · rw [elo, Int.toNat_natCast, Int.toNat_natCast]
                    show _ = List.take ((li.map sm ++ [sm ⟨IntKind.i64.wrap (d + last.time), IntKind.i64.wrap (v + last.value)⟩]).length - (i - 1)) (List.drop (i - 1) (li.map sm ++ [sm ⟨IntKind.i64.wrap (d + last.time), IntKind.i64.wrap (v + last.value)⟩]))
                    rw [← hxs, ← List.length_drop, List.take_length, List.map_drop, List.map_append]
                    rfl
                  rintro g σ' n' ⟨rfl, rfl, rfl⟩
                  refine vc_sound pg_ok 200 _ _ ?_
                  cases hok : okS ((li ++ [x]).drop (i - 1)) with
                  | false =>
                    refine pos rfl ?_
                    refine ReadRQ.no fun L h1 h2 h3 => ?_
                    have := hx L h1 h2 h3
                    rw [this] at hok
                    have hr := (okS_iff L).1 h1
                    have : okS ((L.take (i + 1)).drop (i - 1)) = true := (okS_iff _).2 ⟨(hr.1.takeN _).dropN _, by simp; omega⟩
                    rw [this] at hok
                    cases hok
                  | true =>
                    refine neg rfl ?_
                    obtain ⟨hr, _⟩ := (okS_iff _).1 hok
                    have hmem : x ∈ (li ++ [x]).drop (i - 1) := by
                      rw [List.drop_append_of_le_length (by omega)]; simp
                    have hb1 := hr.lo x hmem
                    have hb2 := hr.hi x hmem
                    refine ⟨(i + 1, li ++ [x], x, x.time - last.time, bs2), (fun i => [3].getD i 0), ⟨⟨rfl, rfl, rfl, succ_gi (by omega), rfl, trivial⟩, ⟨?_, trivial⟩, rfl⟩, ⟨hlt, by simp [hll], by show bs2.length ≤ 800000; omega, .inr (.inr ⟨0, last, by omega, by rw [List.getElem?_append_right (by omega)]; simp [hll, h0], by rw [List.getElem?_append_left (by omega)]; exact hl0, rfl⟩), ⟨hb1, hb2, by show -2199023255552 ≤ x.time - last.time; omega, by show x.time - last.time ≤ 2199023255552; omega⟩, ?_, ?_⟩, by show n - (i + 1) < n - i; omega⟩
                    · rw [List.map_append, show [x].map sm = [sm x] from rfl, hxs]; rfl
                    · intro y hy
                      rcases List.mem_append.1 hy with hy | hy
                      · exact hVl y hy
                      · have : y = x := by simpa using hy
                        subst this
                        exact hxv
                    · intro L h1 h2 h3
                      obtain ⟨_, z, e1, e2, _⟩ := hL L h1 h2 h3
                      have hiL := hlen L h1 h2 h3
                      obtain ⟨ea, z2, eb⟩ := hg2 L hiL h1 h2 h3
                      refine ⟨e1, hx L h1 h2 h3, z2, ?_⟩
                      rw [eb] at hv2
                      simp only [Option.some.injEq, Prod.mk.injEq] at hv2
                      rw [← hv2.2, hxL L hiL h1 h2 h3, if_neg (by simp [h0])]
                      rfl
                · refine pos (by simp <;> omega) ?_
                  have ew : IntKind.i64.wrap ((i : Int) - 1) = ((i - 1 : Nat) : Int) := by rw [wrap_id (by omega) (by omega)]; omega
                  have ew2 : IntKind.i64.wrap ((i : Int) - 2) = ((i - 2 : Nat) : Int) := by rw [wrap_id (by omega) (by omega)]; omega
                  have hrow : (li.map sm)[i - 1]? = some (sm last) := by rw [List.getElem?_map, show i - 1 = j + 1 by omega, hl1]; rfl
                  have hrow2 : (li.map sm)[i - 2]? = some (sm q) := by rw [List.getElem?_map, show i - 2 = j by omega, hl0]; rfl
                  refine JK.draw [1] pg_ok ?_
                  refine RA.run (e := true) pg_ok (by kernel_rfl) (fun _ _ h => h) (tk [0, 2, 3, 4, 5, 6, 7] ++ al [1, 8, 9, 10]) (by kernel_rfl) ?_
                  refine ⟨by rw [ew]; omega, by rw [ew]; simp <;> omega, ?_⟩
                  refine ⟨sm last, by rw [ew, Int.toNat_natCast]; exact hrow, ?_⟩
                  refine vc_sound pg_ok 200 _ _ ?_
                  refine JK.draw [1] pg_ok ?_
                  refine RA.run (e := true) pg_ok (by kernel_rfl) (fun _ _ h => h) (tk [0, 2, 3, 4, 5, 6, 7] ++ al [1, 8, 9, 10]) (by kernel_rfl) ?_
                  refine ⟨by rw [ew]; omega, by rw [ew]; simp <;> omega, ?_⟩
                  refine ⟨sm last, by rw [ew, Int.toNat_natCast]; exact hrow, ?_⟩
                  refine vc_sound pg_ok 200 _ _ ?_
                  refine pos (by simp <;> omega) ?_
                  refine JK.draw [1] pg_ok ?_
                  refine RA.run (e := true) pg_ok (by kernel_rfl) (fun _ _ h => h) (tk [0, 2, 3, 4, 5, 6, 7, 8, 9, 10, 11, 12, 13, 14] ++ al [1, 15, 16, 17]) (by kernel_rfl) ?_
                  refine ⟨by rw [ew]; omega, by rw [ew]; simp <;> omega, ?_⟩
                  refine ⟨sm last, by rw [ew, Int.toNat_natCast]; exact hrow, ?_⟩
                  refine ⟨by rw [ew2]; omega, by rw [ew2]; simp <;> omega, ?_⟩
                  refine ⟨sm q, by rw [ew2, Int.toNat_natCast]; exact hrow2, ?_⟩
                  refine vc_sound pg_ok 200 _ _ ?_
                  obtain ⟨x, hxe⟩ : ∃ x : Sm, x = ⟨IntKind.i64.wrap (IntKind.i64.wrap (d + last.time) + IntKind.i64.wrap (last.time - q.time)), IntKind.i64.wrap (v + last.value)⟩ := ⟨_, rfl⟩
                  have hxs : sm x = sm ⟨IntKind.i64.wrap (IntKind.i64.wrap (d + last.time) + IntKind.i64.wrap (last.time - q.time)), IntKind.i64.wrap (v + last.value)⟩ := by rw [hxe]
                  have hxL : ∀ L (h : i < L.length), okS L = true → V64 L → s = enc L → x = L[i] := fun L h h1 h2 h3 => by
                    obtain ⟨ea, z2, eb⟩ := hg2 L h h1 h2 h3
                    rw [eb] at hv2
                    simp only [Option.some.injEq, Prod.mk.injEq] at hv2
                    have hval := h2 _ (List.getElem_mem h)
                    obtain ⟨ev, _⟩ := hv2
                    have e0 : IntKind.i64.wrap (d + last.time) = d + last.time := wrap_id (by omega) (by omega)
                    have e3 : IntKind.i64.wrap (last.time - q.time) = last.time - q.time := wrap_id (by omega) (by omega)
                    have e1 : IntKind.i64.wrap (IntKind.i64.wrap (d + last.time) + IntKind.i64.wrap (last.time - q.time)) = L[i].time := by rw [e0, e3, wrap_id (by omega) (by omega), ea]; omega
                    have e2 : IntKind.i64.wrap (v + last.value) = L[i].value := by
                      rw [← ev, Int.add_comm]
                      show w64 (last.value + w64 (L[i].value - last.value)) = _
                      rw [w64_add_r, show last.value + (L[i].value - last.value) = L[i].value by omega]
                      exact w64_id hval.1 hval.2
                    rw [hxe, e1, e2]
                  have hx : ∀ L, okS L = true → V64 L → s = enc L → li ++ [x] = L.take (i + 1) := fun L h1 h2 h3 => by
                    have hiL := hlen L h1 h2 h3
                    obtain ⟨_, _, _, e2, _⟩ := hL L h1 h2 h3
                    rw [List.take_succ_eq_append_getElem hiL, ← e2, hxL L hiL h1 h2 h3]
                  have hxv : In64 x.value := by rw [hxe]; exact w64_in _
                  refine ⟨by simp <;> omega, ?_⟩
                  refine JK.sliceO (ty := 65) (rows := li.map sm ++ [sm ⟨IntKind.i64.wrap (IntKind.i64.wrap (d + last.time) + IntKind.i64.wrap (last.time - q.time)), IntKind.i64.wrap (v + last.value)⟩]) (sz := 2) pg_ok rfl rfl rfl rfl rfl rfl rfl rfl rfl rfl (by rw [elo]; omega) (by rw [elo]; simp <;> omega) (Int.le_refl _) ?_
                  refine JK.callB (samples_ct ((li ++ [x]).drop (i - 1)) (by simp; omega)) Tryz.call25 rfl rfl rfl rfl ⟨⟨rfl, rfl, by rw [elo]; simp <;> omega, ?_⟩, trivial⟩ (by rintro g σ' n' ⟨rfl, rfl, rfl⟩; rfl) ?_
                  · rw [elo, Int.toNat_natCast, Int.toNat_natCast]
                    show _ = List.take ((li.map sm ++ [sm ⟨IntKind.i64.wrap (IntKind.i64.wrap (d + last.time) + IntKind.i64.wrap (last.time - q.time)), IntKind.i64.wrap (v + last.value)⟩]).length - (i - 1)) (List.drop (i - 1) (li.map sm ++ [sm ⟨IntKind.i64.wrap (IntKind.i64.wrap (d + last.time) + IntKind.i64.wrap (last.time - q.time)), IntKind.i64.wrap (v + last.value)⟩]))
                    rw [← hxs, ← List.length_drop, List.take_length, List.map_drop, List.map_append]
                    rfl
                  rintro g σ' n' ⟨rfl, rfl, rfl⟩
                  refine vc_sound pg_ok 200 _ _ ?_
                  cases hok : okS ((li ++ [x]).drop (i - 1)) with
                  | false =>
                    refine pos rfl ?_
                    refine ReadRQ.no fun L h1 h2 h3 => ?_
                    have := hx L h1 h2 h3
                    rw [this] at hok
                    have hr := (okS_iff L).1 h1
                    have : okS ((L.take (i + 1)).drop (i - 1)) = true := (okS_iff _).2 ⟨(hr.1.takeN _).dropN _, by simp; omega⟩
                    rw [this] at hok
                    cases hok
                  | true =>
                    refine neg rfl ?_
                    obtain ⟨hr, _⟩ := (okS_iff _).1 hok
                    have hmem : x ∈ (li ++ [x]).drop (i - 1) := by
                      rw [List.drop_append_of_le_length (by omega)]; simp
                    have hb1 := hr.lo x hmem
                    have hb2 := hr.hi x hmem
                    refine ⟨(i + 1, li ++ [x], x, x.time - last.time, bs2), (fun i => [3].getD i 0), ⟨⟨rfl, rfl, rfl, succ_gi (by omega), rfl, trivial⟩, ⟨?_, trivial⟩, rfl⟩, ⟨hlt, by simp [hll], by show bs2.length ≤ 800000; omega, .inr (.inr ⟨j + 1, last, by omega, by rw [List.getElem?_append_right (by omega)]; simp [hll, h0], by rw [List.getElem?_append_left (by omega)]; exact hl1, rfl⟩), ⟨hb1, hb2, by show -2199023255552 ≤ x.time - last.time; omega, by show x.time - last.time ≤ 2199023255552; omega⟩, ?_, ?_⟩, by show n - (i + 1) < n - i; omega⟩
                    · rw [List.map_append, show [x].map sm = [sm x] from rfl, hxs]; rfl
                    · intro y hy
                      rcases List.mem_append.1 hy with hy | hy
                      · exact hVl y hy
                      · have : y = x := by simpa using hy
                        subst this
                        exact hxv
                    · intro L h1 h2 h3
                      obtain ⟨_, z, e1, e2, _⟩ := hL L h1 h2 h3
                      have hiL := hlen L h1 h2 h3
                      obtain ⟨ea, z2, eb⟩ := hg2 L hiL h1 h2 h3
                      refine ⟨e1, hx L h1 h2 h3, z2, ?_⟩
                      rw [eb] at hv2
                      simp only [Option.some.injEq, Prod.mk.injEq] at hv2
                      rw [← hv2.2, hxL L hiL h1 h2 h3, if_neg (by simp [h0])]
                      rfl
            · refine pos (by rw [decide_eq_false hd8]; rfl) ?_
              refine ReadRQ.no fun L h1 h2 h3 => ?_
              obtain ⟨_, _, e2⟩ := hg1 L (hlen L h1 h2 h3) h1 h2 h3
              have := (hg2 L (hlen L h1 h2 h3) h1 h2 h3).1
              omega
        · have e : i = n := by omega
          refine neg (by simp <;> omega) ?_
          refine ⟨li, id, ⟨⟨rfl, rfl, trivial⟩, ⟨rfl, trivial⟩, rfl⟩, by omega, hVl, fun L h1 h2 h3 => ?_⟩
          obtain ⟨_, _, e1, e2, _⟩ := hL L h1 h2 h3
          rw [e2]
          exact List.take_of_length_le (by omega)
      · rintro li ⟨hn2, hVl, hLl⟩
        refine vc_sound pg_ok 200 _ _ ?_
        cases hok : okS li with
        | true =>
          refine JK.callB (refWrite_ct li hVl hok) Tryz.call37 rfl rfl rfl rfl ⟨⟨rfl, rfl⟩, trivial⟩ (by rintro g σ' n' ⟨rfl, rfl, rfl⟩; rfl) ?_
          rintro g σ' n' ⟨rfl, rfl, rfl⟩
          refine JK.freeze 0 (ty := 65) (sz := 2) (rows := li.map sm) rfl ?_
          refine vc_sound pg_ok 200 _ _ ?_
          refine neg' rfl ?_
          by_cases he : enc li = s
          · refine neg (by rw [strEq, he]; simp) ?_
            exact ⟨.inl ⟨li, hok, hVl, he.symm, rfl⟩, rfl⟩
          · refine pos (by rw [strEq]; simp [he]) ?_
            refine ReadRQ.no fun L h1 h2 h3 => ?_
            have := hLl L h1 h2 h3
            subst this
            exact he h3.symm
        | false =>
          refine JK.callB (refWriteNo_ct li (by omega) hok) Tryz.call37 rfl rfl rfl rfl ⟨⟨rfl, rfl⟩, trivial⟩ (by rintro g σ' n' ⟨rfl, rfl, rfl⟩; rfl) ?_
          rintro g σ' n' ⟨rfl, rfl, rfl⟩
          refine vc_sound pg_ok 200 _ _ ?_
          refine pos' rfl ?_
          refine ReadRQ.no fun L h1 h2 h3 => ?_
          have := hLl L h1 h2 h3
          subst this
          rw [h1] at hok
          cases hok
    · refine pos (by rw [decide_eq_false hv]; rfl) ?_
      refine ReadRQ.no fun L hL hV e => ?_
      rw [hfirst L hL e] at hg
      simp only [Option.some.injEq, Prod.mk.injEq] at hg
      have := ((okS_iff L).1 hL).2
      omega
end Go.Proofs.YtfnomonhfndbiaaGreatDoor
