/-
  Contracts (printed by gen/gen_find.py): slices.IndexFunc, slices.ContainsFunc, slices.Clone.
-/
import Derived.Test.YtcdnilijfnfkbaaCLab3
import Derived.Test.YtcdnilijfnfkbaaCSe
import Derived.Test.YtcdnilijfnfkbaaCGo
import Derived.Test.YtcdnilijfnfkbaaGKh
import Derived.Test.YtcdnilijfnfkbaaPGnA
namespace Go.Proofs.Ytcdnilijfnfkbaa
open Go.GK Go.PL Go.RowKit
set_option maxRecDepth 100000
abbrev gn (g : Gn) : List GV := [.sl 3 (g.mt.map mt), gi g.lo, gi g.hi]
abbrev gns (l : List Gn) : GV := .sl 3 (l.map gn)
theorem idxFuncSm_rt (l : List Sm) (f : FuncId) (caps : List GV) (hcaps : idbL 0 caps = true) (p : Sm → Bool) (hf : ∀ x ∈ l, Rt pg f (.agg (sm x) :: caps) (.b (p x))) (n : Nat) (hn : n ≤ l.length) (h1 : ∀ i (h : i < l.length), i < n → p l[i] = false) (h2 : ∀ h : n < l.length, p l[n] = true) (hl : l.length < 4611686018427387904) :
    Rt pg 40 [.sl 2 (l.map sm), .fn (.func f) [] caps] (gi (if n < l.length then n else -1)) := by
  refine Rt.of pg_ok Try.func40 rfl Try.ntmps40 rfl Try.results40 Try.call40 fun H0 S0 w0 h0 g0 => ?_
  have hll : (l.map sm).length = l.length := by simp
  refine JK.loop (α := Nat) (fun i => ⟨[(0, .sl 2 (l.map sm)), (1, .fn (.func f) [] caps), (7, gi (l.map sm).length), (8, gi i)], [], 0⟩) (fun i => i ≤ n) (fun i => n - i) 0 id ?_ (Nat.zero_le _) ?_
  · exact ⟨⟨rfl, by simp only [ren, renL, renL_id]; rfl, rfl, rfl, trivial⟩, trivial, by simp [idbE, idb, idbL, hcaps, idbH, hids, distB, fixB]⟩
  · intro i hi
    refine V ?_
    by_cases hlt : i < l.length
    · refine p1 ?_
      refine ix (h := ?_)
      have hp := hf l[i] (List.getElem_mem hlt)
      by_cases hin : i < n
      · refine GO (hp.bt (h1 i hlt hin)) rfl ?_ (by simp [idbL, hcaps]; rfl)
        exact ⟨i + 1, id, ⟨⟨rfl, by simp only [ren, renL, renL_id]; rfl, rfl, succ_gi (by omega), trivial⟩, trivial, by simp [idbE, idb, idbL, hcaps, idbH, hids, distB, fixB]⟩, hin, by show n - (i + 1) < n - i; omega⟩
      · have hin' : i = n := by omega
        subst hin'
        refine GO (hp.bt (h2 hlt)) rfl ?_ (by simp [idbL, hcaps]; rfl)
        exact ⟨by rw [if_pos hlt]; rfl, rfl⟩
    · refine p2 ?_
      refine V ?_
      exact ⟨by rw [if_neg (by omega)]; rfl, rfl⟩
theorem idxFuncGn_rt (l : List Gn) (f : FuncId) (caps : List GV) (hcaps : idbL 0 caps = true) (p : Gn → Bool) (hf : ∀ x ∈ l, Rt pg f (.agg (gn x) :: caps) (.b (p x))) (n : Nat) (hn : n ≤ l.length) (h1 : ∀ i (h : i < l.length), i < n → p l[i] = false) (h2 : ∀ h : n < l.length, p l[n] = true) (hl : l.length < 4611686018427387904) :
    Rt pg 41 [.sl 3 (l.map gn), .fn (.func f) [] caps] (gi (if n < l.length then n else -1)) := by
  refine Rt.of pg_ok Try.func41 rfl Try.ntmps41 rfl Try.results41 Try.call41 fun H0 S0 w0 h0 g0 => ?_
  have hll : (l.map gn).length = l.length := by simp
  refine JK.loop (α := Nat) (fun i => ⟨[(0, .sl 3 (l.map gn)), (1, .fn (.func f) [] caps), (7, gi (l.map gn).length), (8, gi i)], [], 0⟩) (fun i => i ≤ n) (fun i => n - i) 0 id ?_ (Nat.zero_le _) ?_
  · exact ⟨⟨rfl, by simp only [ren, renL, renL_id]; rfl, rfl, rfl, trivial⟩, trivial, by simp [idbE, idb, idbL, hcaps, idbH, hids, distB, fixB]⟩
  · intro i hi
    refine V ?_
    by_cases hlt : i < l.length
    · refine p1 ?_
      refine ix (h := ?_)
      have hp := hf l[i] (List.getElem_mem hlt)
      by_cases hin : i < n
      · refine GO (hp.bt (h1 i hlt hin)) rfl ?_ (by simp [idbL, hcaps]; rfl)
        exact ⟨i + 1, id, ⟨⟨rfl, by simp only [ren, renL, renL_id]; rfl, rfl, succ_gi (by omega), trivial⟩, trivial, by simp [idbE, idb, idbL, hcaps, idbH, hids, distB, fixB]⟩, hin, by show n - (i + 1) < n - i; omega⟩
      · have hin' : i = n := by omega
        subst hin'
        refine GO (hp.bt (h2 hlt)) rfl ?_ (by simp [idbL, hcaps]; rfl)
        exact ⟨by rw [if_pos hlt]; rfl, rfl⟩
    · refine p2 ?_
      refine V ?_
      exact ⟨by rw [if_neg (by omega)]; rfl, rfl⟩
theorem conFuncGn_rt (l : List Gn) (f : FuncId) (caps : List GV) (hcaps : idbL 0 caps = true) (p : Gn → Bool) (hf : ∀ x ∈ l, Rt pg f (.agg (gn x) :: caps) (.b (p x))) (hl : l.length < 4611686018427387904) :
    Rt pg 28 [.sl 3 (l.map gn), .fn (.func f) [] caps] (.b (l.any p)) := by
  refine Rt.of pg_ok Try.func28 rfl Try.ntmps28 rfl Try.results28 Try.call28 fun H0 S0 w0 h0 g0 => ?_
  obtain ⟨n, h1, h2, h3, h4⟩ := first_ix l p
  refine GO (idxFuncGn_rt l f caps hcaps p hf n h1 h2 h3 hl) rfl ?_ (by simp [idbL, idb, hcaps])
  refine ⟨?_, rfl⟩
  rw [h4]
  show decide _ = _
  split
  · rename_i h; rw [decide_eq_true h]; exact decide_eq_true (by omega)
  · rename_i h; rw [decide_eq_false h]; rfl
theorem cloneSm_hf (l : List Sm) (hl : l.length ≤ 1000000) : Hf pg 26 0 [.sl 2 (l.map sm)] [] (fun g σ n => g = .o 0 ∧ σ = [(0, .row 47 2 (l.map sm))] ∧ n = 1) := by
  refine Hf.weak (Q := fun g σ m => ∃ id : Nat, g = .o id ∧ hlook σ id = some (.row 47 2 (l.map sm))) (Hf.ofJ pg_ok Try.func26 rfl Try.ntmps26 rfl Try.results26 Try.call26 fun H0 S0 w0 h0 g0 => ?_) ?_
  · refine VM 8 ?_
    refine JK.eqNil pg_ok rfl rfl rfl rfl rfl (fun hn => ?_) ?_
    · have hn' : l.map sm = [] := hn
      refine VM 6 ?_
      refine JK.ownNil 2 47 2 rfl ?_
      refine V ?_
      refine ⟨_, rfl, ?_⟩
      rw [hn']
      rfl
    · refine V ?_
      refine ⟨by simp only [List.length_map, List.length_nil]; omega, ?_⟩
      exact ⟨_, rfl, rfl⟩
  · rintro g σ m ⟨id, rfl, h⟩
    exact ⟨r1 0 id, .o 0, [(0, .row 47 2 (l.map sm))], 1, ⟨rfl, rfl, rfl⟩, rfl, ⟨h, trivial⟩, rfl⟩
theorem cloneSm_rt (l : List Sm) (hl : l.length ≤ 1000000) : Rt pg 26 [.sl 2 (l.map sm)] (.sl 2 (l.map sm)) := by
  refine Rt.ofJ pg_ok Try.func26 rfl Try.ntmps26 rfl Try.results26 Try.call26 fun H0 S0 w0 h0 g0 => ?_
  refine VM 8 ?_
  refine JK.eqNil pg_ok rfl rfl rfl rfl rfl (fun hn => ?_) ?_
  · have hn' : l.map sm = [] := hn
    refine VM 6 ?_
    refine JK.roNil 2 2 rfl ?_
    refine V ?_
    rw [hn']
    exact ⟨rfl, rfl⟩
  · refine VM 10 ?_
    refine ⟨by simp only [List.length_map, List.length_nil]; omega, ?_⟩
    refine FRZ 1 rfl ?_
    exact ⟨rfl, rfl⟩
theorem cloneLb_hf (l : List Lb) (hl : l.length ≤ 1000000) : Hf pg 31 0 [.sl 2 (l.map lb)] [] (fun g σ n => g = .o 0 ∧ σ = [(0, .row 63 2 (l.map lb))] ∧ n = 1) := by
  refine Hf.weak (Q := fun g σ m => ∃ id : Nat, g = .o id ∧ hlook σ id = some (.row 63 2 (l.map lb))) (Hf.ofJ pg_ok Try.func31 rfl Try.ntmps31 rfl Try.results31 Try.call31 fun H0 S0 w0 h0 g0 => ?_) ?_
  · refine VM 8 ?_
    refine JK.eqNil pg_ok rfl rfl rfl rfl rfl (fun hn => ?_) ?_
    · have hn' : l.map lb = [] := hn
      refine VM 6 ?_
      refine JK.ownNil 2 63 2 rfl ?_
      refine V ?_
      refine ⟨_, rfl, ?_⟩
      rw [hn']
      rfl
    · refine V ?_
      refine ⟨by simp only [List.length_map, List.length_nil]; omega, ?_⟩
      exact ⟨_, rfl, rfl⟩
  · rintro g σ m ⟨id, rfl, h⟩
    exact ⟨r1 0 id, .o 0, [(0, .row 63 2 (l.map lb))], 1, ⟨rfl, rfl, rfl⟩, rfl, ⟨h, trivial⟩, rfl⟩
theorem cloneLb_rt (l : List Lb) (hl : l.length ≤ 1000000) : Rt pg 31 [.sl 2 (l.map lb)] (.sl 2 (l.map lb)) := by
  refine Rt.ofJ pg_ok Try.func31 rfl Try.ntmps31 rfl Try.results31 Try.call31 fun H0 S0 w0 h0 g0 => ?_
  refine VM 8 ?_
  refine JK.eqNil pg_ok rfl rfl rfl rfl rfl (fun hn => ?_) ?_
  · have hn' : l.map lb = [] := hn
    refine VM 6 ?_
    refine JK.roNil 2 2 rfl ?_
    refine V ?_
    rw [hn']
    exact ⟨rfl, rfl⟩
  · refine VM 10 ?_
    refine ⟨by simp only [List.length_map, List.length_nil]; omega, ?_⟩
    refine FRZ 1 rfl ?_
    exact ⟨rfl, rfl⟩
end Go.Proofs.Ytcdnilijfnfkbaa


namespace Go.Proofs.Ytcdnilijfnfkbaa
open Go.GK Go.PL Go.RowKit
set_option maxRecDepth 100000
theorem take_set {α : Type} (R : List α) (i : Nat) (x : α) (h : i < R.length) : (R.set i x).take (i + 1) = R.take i ++ [x] := by
  rw [List.take_succ_eq_append_getElem (by simpa using h), List.getElem_set_self, List.take_set, List.set_eq_of_length_le (by simp; omega)]
theorem drop_set {α : Type} (R : List α) (i j : Nat) (x : α) (h : i < j) : (R.set i x).drop j = R.drop j := by
  rw [List.drop_set, if_pos h]
/-- An element of an own row. -/
theorem ex {α : Type} {f : α → List GV} {l : List α} {i : Nat} {K : List GV → Prop} (k : Nat) (hi : i = k) (hk : k < l.length) (h : K (f l[k])) : ∃ row, (l.map f)[i]? = some row ∧ K row := by
  subst hi
  exact ⟨f l[i], by simp [hk], h⟩
theorem filt_no {α : Type} (p : α → Bool) (l : List α) (h : ∀ i (h : i < l.length), p l[i] = false) : l.filter (fun x => !p x) = l := by
  refine List.filter_eq_self.2 fun x hx => ?_
  obtain ⟨i, hi, rfl⟩ := List.getElem_of_mem hx
  rw [h i hi]
  rfl
theorem filt_first {α : Type} (p : α → Bool) (l : List α) (n : Nat) (h : n < l.length) (h1 : ∀ i (h : i < l.length), i < n → p l[i] = false) (h2 : p l[n] = true) : (l.take (n + 1)).filter (fun x => !p x) = l.take n := by
  rw [List.take_succ_eq_append_getElem h, List.filter_append, List.filter_cons, h2]
  simp only [Bool.not_true, Bool.false_eq_true, if_false, List.filter_nil, List.append_nil]
  refine List.filter_eq_self.2 fun x hx => ?_
  obtain ⟨i, hi, rfl⟩ := List.getElem_of_mem hx
  rw [List.getElem_take, h1 i (by simp at hi; omega) (by simp at hi; omega)]
  rfl
theorem filt_step {α : Type} (p : α → Bool) (l : List α) (j : Nat) (h : j < l.length) : (l.take (j + 1)).filter (fun x => !p x) = (l.take j).filter (fun x => !p x) ++ if p l[j] = true then [] else [l[j]] := by
  rw [List.take_succ_eq_append_getElem h, List.filter_append, List.filter_cons]
  cases p l[j] <;> rfl
theorem del_hf (l : List Sm) (f : FuncId) (caps : List GV) (hcaps : idbL 0 caps = true) (p : Sm → Bool) (hf : ∀ x ∈ l, Rt pg f (.agg (sm x) :: caps) (.b (p x))) (hl : l.length ≤ 1000000) :
    Hf pg 25 1 [.o 0, .fn (.func f) [] caps] [(0, .row 47 2 (l.map sm))] (fun g σ n => g = .o 1 ∧ σ = [(1, .row 47 2 ((l.filter fun x => !p x).map sm))] ∧ n = 2) := by
  have hcap1 := idbL_up 1 caps hcaps
  have hr : ∀ r : Nat → Nat, renL r caps = caps := fun r => renL_none r caps hcaps
  have hll : (l.map sm).length = l.length := by simp
  obtain ⟨n, h1, h2, h3, h4⟩ := first_ix l p
  refine Hf.weak (Q := fun g σ m => ∃ id : Nat, g = .o id ∧ hlook σ id = some (.row 47 2 ((l.filter fun x => !p x).map sm))) (Hf.of pg_ok Try.func25 rfl Try.ntmps25 rfl Try.results25 Try.call25 fun H0 S0 w0 h0 g0 => ?_) ?_
  · refine GOB (idxFuncSm_rt l f caps hcaps p hf n h1 h2 h3 (by omega)) rfl ⟨⟨rfl, rfl⟩, ⟨rfl, by simp [idb, idbL, hcaps]⟩, trivial⟩ ?_
    by_cases hn : n < l.length
    · rw [if_pos hn]
      refine p2 ?_ (beq_false_of_ne (by omega))
      refine JK.loopE (α := Nat × Nat × List Sm) (β := Nat × List Sm) (fun x => ⟨[(0, .o 0), (1, .fn (.func f) [] caps), (5, gi x.1), (6, gi x.2.1)], [(0, .row 47 2 (x.2.2.map sm))], 1⟩)
        (fun x => x.1 < x.2.1 ∧ x.2.1 ≤ l.length ∧ x.2.2.length = l.length ∧ x.2.2.take x.1 = (l.take x.2.1).filter (fun y => !p y) ∧ x.2.2.drop x.2.1 = l.drop x.2.1) (fun x => l.length - x.2.1)
        (fun x => ⟨[(0, .o 0), (5, gi x.1)], [(0, .row 47 2 (x.2.map sm))], 1⟩) (fun x => x.1 ≤ x.2.length ∧ x.2.length = l.length ∧ x.2.take x.1 = l.filter (fun y => !p y)) (n, n + 1, l) id ?_ ?_ ?_ ?_
      · refine ⟨⟨rfl, by simp only [ren, renL, hr]; rfl, rfl, succ_gi (by omega), trivial⟩, ⟨rfl, trivial⟩, by simp [idbE, idb, idbL, hcap1, idbH, idbR, hids, distB, fixB, memB]⟩
      · exact ⟨Nat.lt_succ_self n, hn, rfl, (filt_first p l n hn h2 (h3 hn)).symm, rfl⟩
      · rintro ⟨i, j, R⟩ ⟨hij, hj, hlen, htk, hdr⟩
        simp only at hij hj hlen htk hdr
        have hRl : (R.map sm).length = R.length := by simp
        refine V ?_
        by_cases hlt : j < l.length
        · have hjR : j < R.length := by omega
          have hRj : R[j] = l[j] := by
            have e1 : (R.drop j)[0]? = (l.drop j)[0]? := by rw [hdr]
            rw [List.getElem?_drop, List.getElem?_drop, Nat.add_zero, List.getElem?_eq_getElem hjR, List.getElem?_eq_getElem hlt] at e1
            exact Option.some.inj e1
          have hdr1 : R.drop (j + 1) = l.drop (j + 1) := by
            rw [← List.drop_drop, ← List.drop_drop, hdr]
          have hst := filt_step p l j hlt
          refine p1 ?_ (decide_eq_true (by dsimp only; omega))
          refine ⟨by dsimp only; omega, by dsimp only; omega, ?_⟩
          refine ex (k := j) rfl hjR ?_
          rw [hRj]
          have hp := hf l[j] (List.getElem_mem hlt)
          cases hpj : p l[j] with
          | true =>
            rw [hpj] at hst
            refine GO (hp.bt hpj) rfl ?_ (by simp [idbL, idb, hcaps])
            exact ⟨(i, j + 1, R), id, ⟨⟨rfl, by simp only [ren, renL, hr]; rfl, rfl, succ_gi (by dsimp only; omega), trivial⟩, ⟨rfl, trivial⟩, by simp [idbE, idb, idbL, hcap1, idbH, idbR, hids, distB, fixB, memB]⟩, ⟨by simp; omega, by simp; omega, hlen, by rw [htk, hst]; simp, hdr1⟩, by show l.length - (j + 1) < l.length - j; omega⟩
          | false =>
            rw [hpj] at hst
            refine GO (hp.bt hpj) rfl ?_ (by simp [idbL, idb, hcaps])
            refine ⟨by dsimp only; omega, by dsimp only; omega, ?_⟩
            refine ex (k := i) rfl (by dsimp only; omega) ?_
            refine ⟨(i + 1, j + 1, R.set i l[j]), id, ⟨⟨rfl, by simp only [ren, renL, hr]; rfl, succ_gi (by dsimp only; omega), succ_gi (by dsimp only; omega), trivial⟩, ⟨?_, trivial⟩, by simp [idbE, idb, idbL, hcap1, idbH, idbR, hids, distB, fixB, memB]⟩, ⟨by simp; omega, by simp; omega, by simpa using hlen, ?_, ?_⟩, by show l.length - (j + 1) < l.length - j; omega⟩
            · exact congrArg (fun r => some (Res.row 47 2 r)) (List.map_set (f := sm)).symm
            · show (R.set i l[j]).take (i + 1) = _
              rw [take_set R i l[j] (by omega), htk, hst]
              rfl
            · show (R.set i l[j]).drop (j + 1) = _
              rw [drop_set R i (j + 1) l[j] (by omega)]
              exact hdr1
        · refine p2 ?_ (decide_eq_false (by dsimp only; omega))
          obtain rfl : j = l.length := by omega
          rw [List.take_length] at htk
          exact ⟨(i, R), id, ⟨⟨rfl, rfl, trivial⟩, ⟨rfl, trivial⟩, rfl⟩, by show i ≤ R.length; omega, hlen, htk⟩
      · rintro ⟨i, R⟩ ⟨hi, hlen, htk⟩
        simp only at hi hlen htk
        have hRl : (R.map sm).length = R.length := by simp
        refine V ?_
        refine JK.sliceO (ty := 47) (rows := R.map sm) (sz := 2) (l := i) (h := (R.map sm).length) pg_ok rfl rfl rfl rfl rfl rfl rfl rfl rfl rfl (by omega) (by omega) (Int.le_refl _) ?_
        refine JK.clearSub (rows := R.map sm) pg_ok rfl rfl rfl rfl rfl rfl rfl rfl rfl rfl (by omega) (fun zs hzs => ?_)
        refine V ?_
        refine JK.cutO (ty := 47) (rows := (R.map sm).take i ++ zs ++ (R.map sm).drop (i + ((R.map sm).length - i))) (sz := 2) (h := i) pg_ok rfl rfl rfl rfl rfl rfl rfl rfl rfl rfl (by omega) (by simp; omega) ?_
        refine V ?_
        refine ⟨_, rfl, ?_⟩
        refine congrArg (fun r => some (Res.row 47 2 r)) ?_
        rw [← htk, Int.toNat_natCast, List.append_assoc, List.take_append_of_le_length (by simp; omega), List.take_take, Nat.min_self, List.map_take]
    · rw [if_neg hn]
      refine p1 ?_ (by decide)
      refine ⟨0, rfl, ?_⟩
      rw [filt_no p l fun i hi => h2 i hi (by omega)]
      rfl
  · rintro g σ m ⟨id, rfl, h⟩
    exact ⟨r1 1 id, .o 1, [(1, .row 47 2 ((l.filter fun x => !p x).map sm))], 2, ⟨rfl, rfl, rfl⟩, rfl, ⟨h, trivial⟩, rfl⟩
end Go.Proofs.Ytcdnilijfnfkbaa


namespace Go.Proofs.Ytcdnilijfnfkbaa
open Go.GK Go.PL Go.RowKit
set_option maxRecDepth 100000
theorem hit1_rt (g : Gn) (x : Sm) (s : Ser) (hm : g.mt.length ≤ 1000000) : Rt pg 29 [.agg (gn g), .r (sm x), .r (se s)] (.b (gHit g s.labels x.time)) := by
  refine Rt.of pg_ok Try.func29 rfl Try.ntmps29 rfl Try.results29 Try.call29 fun H0 S0 w0 h0 g0 => ?_
  unfold gHit
  by_cases h1 : g.lo ≤ x.time
  · refine p1 ?_ (decide_eq_true h1)
    by_cases h2 : x.time ≤ g.hi
    · refine p1 ?_ (decide_eq_true h2)
      refine GO (lall_rt s.labels g.mt (by omega)) rfl ?_
      exact ⟨by rw [decide_eq_true h1, decide_eq_true h2]; rfl, rfl⟩
    · refine p2 ?_ (decide_eq_false h2)
      exact ⟨by rw [decide_eq_false h2, Bool.false_and, Bool.and_false]; rfl, rfl⟩
  · refine p2 ?_ (decide_eq_false h1)
    exact ⟨by rw [decide_eq_false h1]; rfl, rfl⟩
theorem hits_rt (gone : List Gn) (x : Sm) (s : Ser) (hg : gone.length ≤ 1000000) (hm : ∀ g ∈ gone, g.mt.length ≤ 1000000) : Rt pg 27 [.agg (sm x), .r [gns gone], .r (se s)] (.b (anyHit gone s.labels x.time)) := by
  refine Rt.of pg_ok Try.func27 rfl Try.ntmps27 rfl Try.results27 Try.call27 fun H0 S0 w0 h0 g0 => ?_
  refine FZB 0 rfl rfl ?_
  refine GO (conFuncGn_rt gone 29 [.r (sm x), .r (se s)] rfl (fun g => gHit g s.labels x.time) (fun g hgm => hit1_rt g x s (hm g hgm)) (by omega)) rfl ?_
  exact ⟨rfl, rfl⟩
def SmallS (l : List Ser) : Prop := ∀ x ∈ l, x.samples.length ≤ 1000000 ∧ x.labels.length ≤ 1000000
def SmallG (l : List Gn) : Prop := l.length ≤ 1000000 ∧ ∀ g ∈ l, g.mt.length ≤ 1000000
theorem without_rt (l : List Ser) (gone : List Gn) (hl : l.length ≤ 1000000) (hs : SmallS l) (hg : SmallG gone) : Rt pg 11 [ses l, gns gone] (ses (withoutF (anyHit gone) l)) := by
  have hll : (l.map se).length = l.length := by simp
  refine Rt.of pg_ok Try.func11 rfl Try.ntmps11 rfl Try.results11 Try.call11 fun H0 S0 w0 h0 g0 => ?_
  refine FZB 0 rfl rfl ?_
  refine JK.ownNil 5 44 2 rfl ?_
  refine JK.loopE (α := Nat) (β := Unit) (fun i => ⟨[(3, .r [gns gone]), (5, .o 0), (9, ses l), (10, gi (l.map se).length), (11, gi i)], [(0, .row 44 2 ((withoutF (anyHit gone) (l.take i)).map se))], 1⟩) (fun i => i ≤ l.length) (fun i => l.length - i)
    (fun _ => ⟨[(5, .o 0)], [(0, .row 44 2 ((withoutF (anyHit gone) l).map se))], 1⟩) (fun _ => True) 0 (fun _ => 1) ?_ (Nat.zero_le _) ?_ ?_
  · exact ⟨⟨rfl, rfl, rfl, rfl, rfl, trivial⟩, ⟨rfl, trivial⟩, rfl⟩
  · rintro i hi
    replace hi : i ≤ l.length := hi
    refine V ?_
    by_cases hlt : i < l.length
    · obtain ⟨hx1, hx2⟩ := hs l[i] (List.getElem_mem hlt)
      have hst := wo_step (anyHit gone) l i hlt
      have hlen : (withoutF (anyHit gone) (l.take i)).length ≤ l.length := Nat.le_trans (withoutF_len _ _) (by simp; omega)
      refine p1 ?_ (decide_eq_true (by omega))
      refine ix (h := ?_)
      refine FZB 1 rfl rfl ?_
      refine GOH (cloneSm_hf l[i].samples hx1) id rfl rfl trivial rfl (by exact id_lt rfl) ?_
      rintro _ _ _ ⟨rfl, rfl, rfl⟩
      refine GOH (del_hf l[i].samples 27 [.r [gns gone], .r (se l[i])] rfl (fun x => anyHit gone l[i].labels x.time) (fun x _ => hits_rt gone x l[i] hg.1 hg.2) hx1) (r1 0 2) rfl rfl ⟨rfl, trivial⟩ rfl (r1_lt rfl) ?_
      rintro _ _ _ ⟨rfl, rfl, rfl⟩
      have hfl : (l[i].samples.filter fun x => !anyHit gone l[i].labels x.time) = leftS (anyHit gone) l[i] := rfl
      rw [hfl]
      cases hleft : leftS (anyHit gone) l[i] with
      | nil =>
        refine p2 ?_ (decide_eq_false (by simp))
        refine ⟨i + 1, id, ⟨⟨rfl, rfl, rfl, rfl, succ_gi (by omega), trivial⟩, ⟨?_, trivial⟩, rfl⟩, hlt, by show l.length - (i + 1) < l.length - i; omega⟩
        rw [hst, withoutF_no _ hleft, show withoutF (anyHit gone) [] = [] from rfl, List.append_nil]
        rfl
      | cons y r =>
        refine p1 ?_ (decide_eq_true (by rw [List.length_map, List.length_cons]; omega))
        refine FRZ 3 rfl ?_
        refine GO (cloneLb_rt l[i].labels hx2) rfl ?_
        refine ⟨by simp only [List.length_map, List.length_cons, List.length_nil]; omega, ?_⟩
        refine ⟨i + 1, fun _ => 5, ⟨⟨rfl, rfl, rfl, rfl, succ_gi (by omega), trivial⟩, ⟨?_, trivial⟩, rfl⟩, hlt, by show l.length - (i + 1) < l.length - i; omega⟩
        refine congrArg (fun r => some (Res.row 44 2 r)) ?_
        rw [hst, withoutF_yes _ hleft, List.map_append]
        rfl
    · refine p2 ?_ (decide_eq_false (by omega))
      obtain rfl : i = l.length := by omega
      rw [List.take_length]
      exact ⟨(), id, ⟨⟨rfl, trivial⟩, ⟨rfl, trivial⟩, rfl⟩, trivial⟩
  · rintro _ _
    refine FRZ 0 rfl ?_
    exact ⟨rfl, rfl⟩
end Go.Proofs.Ytcdnilijfnfkbaa
