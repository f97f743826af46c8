/-
  Contracts: a head's series: where labels stand; samples put together; a copy of its series.
-/
import Derived.Test.YtaahmenpcpjbhaaGreatDoorK06
import Derived.Test.YtaahmenpcpjbhaaGreatDoorK07
import Derived.Test.YtaahmenpcpjbhaaGreatDoorK08
import Derived.Test.YtaahmenpcpjbhaaGreatDoorK09
import Derived.Test.YtaahmenpcpjbhaaGreatDoorChecked
import Derived.Shelf.Spec.SlicesInsertGrow
import Derived.Deep.RegionLaw
namespace Go.Proofs.YtaahmenpcpjbhaaGreatDoor
open Go.GK Go.PL Go.RowKit
set_option maxRecDepth 100000
theorem midE {s : Int} (n : Nat) (h : s = (n : Int)) (hn : n < 4611686018427387904) : IntKind.i64.wrap ((IntKind.u64.wrap (IntKind.i64.wrap s)).fdiv (2 ^ (min (1 : Int).toNat IntKind.u64.bits))) = ((n / 2 : Nat) : Int) := by
  subst h
  have e0 : IntKind.i64.wrap (n : Int) = (n : Int) := wrap_id (by omega) (by omega)
  rw [e0]
  have e1 : IntKind.u64.wrap (n : Int) = (n : Int) := by rw [IntKind.wrap_u64]; omega
  rw [e1]
  have e2 : (n : Int).fdiv (2 ^ (min (1 : Int).toNat IntKind.u64.bits)) = ((n / 2 : Nat) : Int) := by
    show (n : Int).fdiv 2 = _
    rw [Int.fdiv_eq_ediv_of_nonneg _ (by omega)]
    omega
  rw [e2, wrap_id (by omega) (by omega)]
theorem at1_rt (x : Ser) (ls : List Lb) : Rt pg 47 [.agg (se x), lbs ls] (gi (cmpF x.labels ls)) := by
  refine Rt.of pg_ok Tryz.func47 rfl Tryz.ntmps47 rfl Tryz.results47 Tryz.call47 fun H0 S0 w0 h0 g0 => ?_
  refine GO (lcompare_rt x.labels ls) rfl ?_
  exact ⟨rfl, rfl⟩
theorem bsf_rt (l : List Ser) (ls : List Lb) (f : FuncId) (hr : RisS l) (hf : ∀ x ∈ l, Rt pg f [.agg (se x), lbs ls] (gi (cmpF x.labels ls))) (hl : l.length ≤ 1000000) :
    Rt pg 46 [ses l, lbs ls, .fn (.func f) [] []] (.tup [gi (posL ls l), .v (.bool (atL ls l).isSome)]) := by
  refine Rt.of pg_ok Tryz.func46 rfl Tryz.ntmps46 rfl Tryz.results46 Tryz.call46 fun H0 S0 w0 h0 g0 => ?_
  have hll : (l.map se).length = l.length := by simp
  have hp := posL_le ls l
  refine JK.loopE (α := Nat × Nat) (β := Unit) (fun z => ⟨[(0, ses l), (1, lbs ls), (2, .fn (.func f) [] []), (8, gi (l.map se).length), (9, gi z.1), (10, gi z.2)], [], 0⟩) (fun z => z.1 ≤ posL ls l ∧ posL ls l ≤ z.2 ∧ z.2 ≤ l.length) (fun z => z.2 - z.1)
    (fun _ => ⟨[(0, ses l), (1, lbs ls), (2, .fn (.func f) [] []), (8, gi (l.map se).length), (9, gi (posL ls l))], [], 0⟩) (fun _ => True) (0, l.length) id ?_ ⟨Nat.zero_le _, hp, Nat.le_refl _⟩ ?_ ?_
  · exact ⟨⟨rfl, rfl, rfl, rfl, rfl, congrArg (fun i : Nat => some (gi (i : Int))) hll, trivial⟩, trivial, rfl⟩
  · rintro ⟨i, j⟩ ⟨hi, hj, hjl⟩
    simp only at hi hj hjl
    refine V ?_
    by_cases hlt : i < j
    · refine p1 ?_ (decide_eq_true (by dsimp only; omega))
      have hmid := midE (s := (i : Int) + (j : Int)) (i + j) (by omega) (by omega)
      have hm : (i + j) / 2 < l.length := by omega
      refine ⟨by omega, ?_⟩
      refine idx ((i + j) / 2) hmid hm ?_
      have hc := hf l[(i + j) / 2] (List.getElem_mem hm)
      refine GO hc rfl ?_
      by_cases hlo : (i + j) / 2 < posL ls l
      · refine p1 ?_ (decide_eq_true (posL_lt ls l _ hm hlo))
        refine ⟨((i + j) / 2 + 1, j), id, ⟨⟨rfl, rfl, rfl, rfl, ?_, rfl, trivial⟩, trivial, rfl⟩, ⟨by dsimp only; omega, hj, hjl⟩, by dsimp only; omega⟩
        exact congrArg (fun i => some (gi i)) (by dsimp only; rw [hmid, wrap_id (by omega) (by omega)]; omega)
      · refine p2 ?_ (decide_eq_false (posL_ge hr _ hm (by omega)))
        refine ⟨(i, (i + j) / 2), id, ⟨⟨rfl, rfl, rfl, rfl, rfl, ?_, trivial⟩, trivial, rfl⟩, ⟨hi, by dsimp only; omega, by dsimp only; omega⟩, by dsimp only; omega⟩
        exact congrArg (fun i => some (gi i)) hmid
    · refine p2 ?_ (decide_eq_false (by dsimp only; omega))
      obtain rfl : i = j := by omega
      obtain rfl : i = posL ls l := by omega
      exact ⟨(), id, ⟨⟨rfl, rfl, rfl, rfl, rfl, trivial⟩, trivial, rfl⟩, trivial⟩
  · rintro _ _
    refine V ?_
    by_cases hlt : posL ls l < l.length
    · refine p1 ?_ (decide_eq_true (by omega))
      refine ix (h := ?_)
      have hc := hf l[posL ls l] (List.getElem_mem hlt)
      refine GO hc rfl ?_
      refine ⟨?_, rfl⟩
      have : (atL ls l).isSome = decide (cmpF l[posL ls l].labels ls = 0) := by
        unfold atL
        rw [List.getElem?_eq_getElem hlt]
        by_cases h0 : cmpF l[posL ls l].labels ls = 0 <;> simp [h0]
      rw [this]
      exact ⟨rfl, show (cmpF l[posL ls l].labels ls == 0) = decide (cmpF l[posL ls l].labels ls = 0) by rw [Bool.eq_iff_iff]; simp, trivial⟩
    · refine p2 ?_ (decide_eq_false (by omega))
      refine ⟨?_, rfl⟩
      have : (atL ls l).isSome = false := by
        unfold atL
        rw [List.getElem?_eq_none (by omega)]
        rfl
      rw [this]
      exact ⟨rfl, rfl, trivial⟩
/-! ### slices.Grow, slices.Concat, slices.Clone -/
theorem grow_hf (n : Nat) (hn : n ≤ 1000000) : Hf pg 51 0 [.v (.slice none 0 0), gi n] [] (fun g σ m => g = .o 0 ∧ σ = [(0, .row 34 2 [])] ∧ m = 1) := by
  refine Hf.weak (Q := fun g σ _ => ∃ id : Nat, g = .o id ∧ hlook σ id = some (.row 34 2 [])) (Hf.ofJ pg_ok Tryz.func51 rfl Tryz.ntmps51 rfl Tryz.results51 Tryz.call51 fun H0 S0 w0 h0 g0 => ?_) ?_
  · refine VM 17 ?_
    refine p2 ?_ (decide_eq_false (by omega))
    refine JK.capNil pg_ok rfl rfl rfl rfl rfl ?_
    have hw : IntKind.i64.wrap ((n : Int) - IntKind.i64.wrap (0 - ((0 : Nat) : Int))) = (n : Int) := by
      rw [wrap_id (x := 0 - ((0 : Nat) : Int)) (by omega) (by omega), wrap_id (by omega) (by omega)]; omega
    by_cases h0 : n = 0
    · refine VM 14 ?_
      refine p2 ?_ (decide_eq_false (by rw [hw]; omega))
      refine JK.ownNil 0 34 2 rfl ?_
      refine V ?_
      exact ⟨_, rfl, rfl⟩
    · refine VM 15 ?_
      refine p1 ?_ (decide_eq_true (by rw [hw]; omega))
      refine JK.capNil pg_ok rfl rfl rfl rfl rfl ?_
      refine VM 2 ?_
      refine ⟨rfl, rfl, ?_⟩
      refine JK.appendZ (n := n) (sz := 2) (kn := .i64) pg_ok rfl rfl rfl rfl (by kernel_rfl) rfl rfl (by omega) rfl rfl (by exact congrArg (fun i => some (gi i)) hw) (by omega) (by dsimp only; omega) (by omega) (fun zs hz => ?_)
      refine VM 2 ?_
      refine JK.cutO pg_ok rfl rfl rfl rfl rfl rfl rfl rfl rfl rfl (by omega) (by omega) ?_
      refine V ?_
      exact ⟨_, rfl, rfl⟩
  · rintro G σ n ⟨id, rfl, h⟩
    exact ⟨r1 0 id, .o 0, [(0, .row 34 2 [])], 1, ⟨rfl, rfl, rfl⟩, rfl, ⟨h, trivial⟩, rfl⟩
theorem flat_step {α : Type} (L : List (List α)) (i : Nat) (h : i < L.length) : (L.take (i + 1)).flatten = (L.take i).flatten ++ L[i] := by
  rw [List.take_succ_eq_append_getElem h, List.flatten_append]
  simp
theorem flat_len {α : Type} (L : List (List α)) (i : Nat) : (L.take i).flatten.length ≤ L.flatten.length := by
  conv => rhs; rw [← List.take_append_drop i L, List.flatten_append, List.length_append]
  omega
/-- A slice of samples: none, or one that is only read. -/
def ocl : Option (List Sm) → GV
  | none => .v (.slice none 0 0)
  | some s => sms s
def ofl (L : List (Option (List Sm))) : List (List Sm) := L.map (·.getD [])
theorem ofl_len (L : List (Option (List Sm))) : (ofl L).length = L.length := by simp [ofl]
theorem concat_hf (L : List (Option (List Sm))) (hl : L.length ≤ 1000) (hs : (ofl L).flatten.length ≤ 1000000) :
    Hf pg 24 1 [.o 0] [(0, .row 35 1 (L.map fun s => [ocl s]))] (fun g σ n => g = sms (ofl L).flatten ∧ σ = [(0, .row 35 1 (L.map fun s => [ocl s]))] ∧ n = 1) := by
  refine Hf.weak (Q := fun g σ _ => g = sms (ofl L).flatten ∧ hlook σ 0 = some (.row 35 1 (L.map fun s => [ocl s]))) (Hf.of pg_ok Tryz.func24 rfl Tryz.ntmps24 rfl Tryz.results24 Tryz.call24 fun H0 S0 w0 h0 g0 => ?_) ?_
  · have hll : (L.map fun s => [ocl s]).length = L.length := by simp
    have hfl := ofl_len L
    refine JK.loopE (α := Nat) (β := Unit) (fun i => ⟨[(0, .o 0), (3, gi ((ofl L).take i).flatten.length), (9, .o 0), (10, gi (L.map fun s => [ocl s]).length), (11, gi i)], [(0, .row 35 1 (L.map fun s => [ocl s]))], 1⟩) (fun i => i ≤ L.length) (fun i => L.length - i)
      (fun _ => ⟨[(0, .o 0), (3, gi (ofl L).flatten.length)], [(0, .row 35 1 (L.map fun s => [ocl s]))], 1⟩) (fun _ => True) 0 id ?_ (Nat.zero_le _) ?_ ?_
    · exact ⟨⟨rfl, rfl, rfl, rfl, rfl, trivial⟩, ⟨rfl, trivial⟩, rfl⟩
    · rintro i hi
      replace hi : i ≤ L.length := hi
      refine V ?_
      by_cases hlt : i < L.length
      · have hst := flat_step (ofl L) i (by omega)
        have hle := flat_len (ofl L) (i + 1)
        rw [hst, List.length_append] at hle
        refine p1 ?_ (decide_eq_true (by omega))
        refine ⟨by omega, by omega, ?_⟩
        refine ⟨[ocl L[i]], by simp [hlt], ?_⟩
        have hfi : (ofl L)[i]'(by omega) = (L[i]).getD [] := by simp [ofl]
        rw [hfi] at hst hle
        cases hLi : L[i] with
        | none =>
          rw [hLi] at hst hle
          refine p2 ?_ (decide_eq_false (by rw [wrap_id (by omega) (by omega)]; omega))
          refine ⟨i + 1, id, ⟨⟨rfl, ?_, rfl, rfl, succ_gi (by omega), trivial⟩, ⟨rfl, trivial⟩, rfl⟩, hlt, by show L.length - (i + 1) < L.length - i; omega⟩
          exact congrArg (fun i => some (gi i)) (by rw [wrap_id (by omega) (by omega), hst, List.length_append]; simp)
        | some s =>
          rw [hLi] at hst hle
          have hsl : (s.map sm).length = s.length := by simp
          have hge : ((some s).getD []).length = s.length := rfl
          refine p2 ?_ (decide_eq_false (by rw [wrap_id (by omega) (by omega)]; omega))
          refine ⟨i + 1, id, ⟨⟨rfl, ?_, rfl, rfl, succ_gi (by omega), trivial⟩, ⟨rfl, trivial⟩, rfl⟩, hlt, by show L.length - (i + 1) < L.length - i; omega⟩
          exact congrArg (fun i => some (gi i)) (by rw [wrap_id (by omega) (by omega), hst, List.length_append, hsl, hge]; omega)
      · refine p2 ?_ (decide_eq_false (by omega))
        obtain rfl : i = L.length := by omega
        rw [← hfl, List.take_length]
        exact ⟨(), id, ⟨⟨rfl, rfl, trivial⟩, ⟨rfl, trivial⟩, rfl⟩, trivial⟩
    · rintro _ _
      refine V ?_
      refine GOH (grow_hf (ofl L).flatten.length hs) id rfl rfl trivial rfl (fun _ h => absurd h (Nat.not_lt_zero _)) ?_
      rintro _ _ _ ⟨rfl, rfl, rfl⟩
      refine JK.loopE (α := Nat) (β := Unit) (fun i => ⟨[(0, .o 0), (6, .o 1), (25, .o 0), (26, gi (L.map fun s => [ocl s]).length), (27, gi i)], [(1, .row 34 2 (((ofl L).take i).flatten.map sm)), (0, .row 35 1 (L.map fun s => [ocl s]))], 2⟩) (fun i => i ≤ L.length) (fun i => L.length - i)
        (fun _ => ⟨[(6, .o 1)], [(1, .row 34 2 ((ofl L).flatten.map sm)), (0, .row 35 1 (L.map fun s => [ocl s]))], 2⟩) (fun _ => True) 0 id ?_ (Nat.zero_le _) ?_ ?_
      · exact ⟨⟨rfl, rfl, rfl, rfl, rfl, trivial⟩, ⟨rfl, rfl, trivial⟩, rfl⟩
      · rintro i hi
        replace hi : i ≤ L.length := hi
        refine V ?_
        by_cases hlt : i < L.length
        · have hst := flat_step (ofl L) i (by omega)
          have hle := flat_len (ofl L) (i + 1)
          rw [hst, List.length_append] at hle
          have hfi : (ofl L)[i]'(by omega) = (L[i]).getD [] := by simp [ofl]
          rw [hfi] at hst hle
          refine p1 ?_ (decide_eq_true (by omega))
          refine ⟨by omega, by omega, ?_⟩
          refine ⟨[ocl L[i]], by simp [hlt], ?_⟩
          cases hLi : L[i] with
          | none =>
            rw [hLi] at hst hle
            refine ⟨by simp only [List.length_map, List.length_nil]; omega, ?_⟩
            refine ⟨i + 1, r1 1 2, ⟨⟨rfl, rfl, rfl, rfl, succ_gi (by omega), trivial⟩, ⟨?_, rfl, trivial⟩, rfl⟩, hlt, by show L.length - (i + 1) < L.length - i; omega⟩
            refine congrArg (fun r => some (Res.row 34 2 r)) ?_
            rw [hst, List.map_append]
            rfl
          | some s =>
            rw [hLi] at hst hle
            have hge : ((some s).getD []).length = s.length := rfl
            refine ⟨by simp only [List.length_map]; omega, ?_⟩
            refine ⟨i + 1, r1 1 2, ⟨⟨rfl, rfl, rfl, rfl, succ_gi (by omega), trivial⟩, ⟨?_, rfl, trivial⟩, rfl⟩, hlt, by show L.length - (i + 1) < L.length - i; omega⟩
            refine congrArg (fun r => some (Res.row 34 2 r)) ?_
            rw [hst, List.map_append]
            rfl
        · refine p2 ?_ (decide_eq_false (by omega))
          obtain rfl : i = L.length := by omega
          rw [← hfl, List.take_length]
          exact ⟨(), id, ⟨⟨rfl, trivial⟩, ⟨rfl, rfl, trivial⟩, rfl⟩, trivial⟩
      · rintro _ _
        refine FRZ 1 rfl ?_
        exact ⟨rfl, rfl⟩
  · rintro g σ n ⟨rfl, h⟩
    exact ⟨id, _, [(0, .row 35 1 (L.map fun s => [ocl s]))], 1, ⟨rfl, rfl, rfl⟩, (ren_id _).symm, ⟨h, trivial⟩, rfl⟩
/-- A copy of an own slice. -/
theorem cloneSe_hf (rows : List (List GV)) (hl : rows.length ≤ 1000000) : Hf pg 19 1 [.o 0] [(0, .row 37 2 rows)] (fun g σ n => g = .o 1 ∧ σ = [(1, .row 37 2 rows), (0, .row 37 2 rows)] ∧ n = 2) := by
  refine Hf.weak (Q := fun g σ m => ∃ id : Nat, (id = 1 ∨ id = 2) ∧ g = .o id ∧ hlook σ 0 = some (.row 37 2 rows) ∧ hlook σ id = some (.row 37 2 rows)) (Hf.ofJ pg_ok Tryz.func19 rfl Tryz.ntmps19 rfl Tryz.results19 Tryz.call19 fun H0 S0 w0 h0 g0 => ?_) ?_
  · refine VM 8 ?_
    refine JK.eqNilO pg_ok rfl rfl rfl rfl rfl rfl (fun hn => ?_) ?_
    · subst hn
      refine VM 6 ?_
      refine JK.ownNil 2 37 2 rfl ?_
      refine V ?_
      exact ⟨1, .inl rfl, rfl, rfl, rfl⟩
    · refine V ?_
      refine ⟨by simp only [List.map_nil, List.length_nil]; omega, ?_⟩
      exact ⟨2, .inr rfl, rfl, rfl, rfl⟩
  · rintro g σ m ⟨id, rfl | rfl, rfl, h0, h1⟩
    · exact ⟨r1 1 1, .o 1, [(1, .row 37 2 rows), (0, .row 37 2 rows)], 2, ⟨rfl, rfl, rfl⟩, rfl, ⟨h1, h0, trivial⟩, rfl⟩
    · exact ⟨r1 1 2, .o 1, [(1, .row 37 2 rows), (0, .row 37 2 rows)], 2, ⟨rfl, rfl, rfl⟩, rfl, ⟨h1, h0, trivial⟩, rfl⟩
end Go.Proofs.YtaahmenpcpjbhaaGreatDoor
/-
  Contracts: package label: Only; matchers.
-/
namespace Go.Proofs.YtaahmenpcpjbhaaGreatDoor
open Go.GK Go.PL Go.RowKit
set_option maxRecDepth 100000
theorem only_snoc (l : List Lb) (ns : List ByteArray) (i : Nat) (h : i < l.length) : onlyF (l.take (i + 1)) ns = onlyF (l.take i) ns ++ if conS ns l[i].name = true then [l[i]] else [] := by
  have e : (ns.any fun n => sEq n l[i].name) = conS ns l[i].name := by
    unfold conS
    congr 1
    funext y
    rw [Bool.eq_iff_iff, sEq_iff, sEq_iff]
    exact ⟨fun h => h.symm, fun h => h.symm⟩
  unfold onlyF
  rw [List.take_succ_eq_append_getElem h, List.filter_append]
  congr 1
  rw [List.filter_cons, e]
  rfl
theorem only_len (l : List Lb) (ns : List ByteArray) : (onlyF l ns).length ≤ l.length := List.length_filter_le _ _
/-- Short matchers. -/
def Sm2 (l : List Mt) : Prop := ∀ x ∈ l, x.value.size < 4611686018427387904
theorem idxFunc_rt (l : List Mt) (f : FuncId) (caps : List GV) (hcaps : idbL 0 caps = true) (p : Mt → Bool) (hf : ∀ x ∈ l, Rt pg f (.agg (mt x) :: caps) (.b (p x))) (n : Nat) (hn : n ≤ l.length) (h1 : ∀ i (h : i < l.length), i < n → p l[i] = false) (h2 : ∀ h : n < l.length, p l[n] = true) (hl : l.length < 4611686018427387904) :
    Rt pg 73 [.sl 3 (l.map mt), .fn (.func f) [] caps] (gi (if n < l.length then n else -1)) := by
  refine Rt.of pg_ok Tryz.func73 rfl Tryz.ntmps73 rfl Tryz.results73 Tryz.call73 fun H0 S0 w0 h0 g0 => ?_
  have hll : (l.map mt).length = l.length := by simp
  refine JK.loop (α := Nat) (fun i => ⟨[(0, .sl 3 (l.map mt)), (1, .fn (.func f) [] caps), (7, gi (l.map mt).length), (8, gi i)], [], 0⟩) (fun i => i ≤ n) (fun i => n - i) 0 id ?_ (Nat.zero_le _) ?_
  · exact ⟨⟨rfl, by simp only [ren, renL, renL_id]; rfl, rfl, rfl, trivial⟩, trivial, by simp [idbE, idb, idbL, hcaps, idbH, hids, distB, fixB]⟩
  · intro i hi
    refine V ?_
    by_cases hlt : i < l.length
    · refine p1 ?_
      refine ix (h := ?_)
      have hp := hf l[i] (List.getElem_mem hlt)
      by_cases hin : i < n
      · refine GO (hp.bt (h1 i hlt hin)) rfl ?_ (by simp [idbL, hcaps]; rfl)
        exact ⟨i + 1, id, ⟨⟨rfl, by simp only [ren, renL, renL_id]; rfl, rfl, succ_gi (by omega), trivial⟩, trivial, by simp [idbE, idb, idbL, hcaps, idbH, hids, distB, fixB]⟩, hin, by show n - (i + 1) < n - i; omega⟩
      · have hin' : i = n := by omega
        subst hin'
        refine GO (hp.bt (h2 hlt)) rfl ?_ (by simp [idbL, hcaps]; rfl)
        exact ⟨by rw [if_pos hlt]; rfl, rfl⟩
    · refine p2 ?_
      refine V ?_
      exact ⟨by rw [if_neg (by omega)]; rfl, rfl⟩
theorem first_ix {α : Type} (l : List α) (p : α → Bool) : ∃ n, n ≤ l.length ∧ (∀ i (h : i < l.length), i < n → p l[i] = false) ∧ (∀ h : n < l.length, p l[n] = true) ∧ l.any p = decide (n < l.length) := by
  induction l with
  | nil => exact ⟨0, Nat.le_refl _, fun i h => absurd h (by simp), fun h => absurd h (by simp), by simp⟩
  | cons a l ih =>
    cases hp : p a with
    | true => exact ⟨0, Nat.zero_le _, fun i h h' => absurd h' (by omega), fun _ => hp, by simp [hp]⟩
    | false =>
      obtain ⟨n, h1, h2, h3, h4⟩ := ih
      refine ⟨n + 1, by simpa using h1, fun i h h' => ?_, fun h => ?_, by simp [hp, h4]⟩
      · cases i with
        | zero => exact hp
        | succ i => exact h2 i (by simpa using h) (by omega)
      · exact h3 (by simpa using h)
theorem conFunc_rt (l : List Mt) (f : FuncId) (caps : List GV) (hcaps : idbL 0 caps = true) (p : Mt → Bool) (hf : ∀ x ∈ l, Rt pg f (.agg (mt x) :: caps) (.b (p x))) (hl : l.length < 4611686018427387904) :
    Rt pg 59 [.sl 3 (l.map mt), .fn (.func f) [] caps] (.b (l.any p)) := by
  refine Rt.of pg_ok Tryz.func59 rfl Tryz.ntmps59 rfl Tryz.results59 Tryz.call59 fun H0 S0 w0 h0 g0 => ?_
  obtain ⟨n, h1, h2, h3, h4⟩ := first_ix l p
  refine GO (idxFunc_rt l f caps hcaps p hf n h1 h2 h3 hl) rfl ?_ (by simp [idbL, idb, hcaps])
  refine ⟨?_, rfl⟩
  rw [h4]
  show decide _ = _
  split
  · rename_i h; rw [decide_eq_true h]; exact decide_eq_true (by omega)
  · rename_i h; rw [decide_eq_false h]; rfl
theorem any_anyB {α : Type} [Inhabited α] (l : List α) (p : α → Bool) : l.any p = anyB l.length (fun i => p (l.getD i default)) := by
  obtain ⟨n, h1, h2, h3, h4⟩ := first_ix l p
  rw [h4]
  by_cases h : n < l.length
  · rw [decide_eq_true h, anyB_true h]; simpa [h] using h3 h
  · rw [decide_eq_false h, anyB_false]
    intro i hi
    have := h2 i hi (by omega)
    simpa [hi] using this
theorem lone_rt (l : List Lb) (m : Mt) : Rt pg 61 [.sl 2 (l.map lb), .agg (mt m)] (.b (loneF l m)) := by
  refine Rt.of pg_ok Tryz.func61 rfl Tryz.ntmps61 rfl Tryz.results61 Tryz.call61 fun H0 S0 w0 h0 g0 => ?_
  refine GO (get_rt l m.name) rfl ?_
  unfold loneF
  by_cases h0 : m.op = 0
  · refine p1 ?_ (by simpa using h0)
    exact ⟨by rw [if_pos h0]; rfl, rfl⟩
  · refine p2 ?_ (by simpa using h0)
    rw [if_neg h0]
    by_cases h1 : m.op = 1
    · refine p1 ?_ (by simpa using h1)
      exact ⟨by rw [if_pos h1]; rfl, rfl⟩
    · refine p2 ?_ (by simpa using h1)
      rw [if_neg h1]
      by_cases h2 : m.op = 2
      · refine p1 ?_ (by simpa using h2)
        refine GO (hasPrefix_rt (lgetF l m.name) m.value) rfl ?_
        exact ⟨by rw [if_pos h2]; rfl, rfl⟩
      · refine p2 ?_ (by simpa using h2)
        refine GO (hasPrefix_rt (lgetF l m.name) m.value) rfl ?_
        exact ⟨by rw [if_neg h2]; rfl, rfl⟩
theorem all1_rt (l : List Lb) (m : Mt) : Rt pg 60 [.agg (mt m), .r [.sl 2 (l.map lb)]] (.b (!loneF l m)) := by
  refine Rt.of pg_ok Tryz.func60 rfl Tryz.ntmps60 rfl Tryz.results60 Tryz.call60 fun H0 S0 w0 h0 g0 => ?_
  refine GO (lone_rt l m) rfl ?_
  exact ⟨rfl, rfl⟩
theorem lall_rt (l : List Lb) (m : List Mt) (hm : m.length < 4611686018427387904) : Rt pg 42 [.sl 2 (l.map lb), .sl 3 (m.map mt)] (.b (allF l m)) := by
  refine Rt.of pg_ok Tryz.func42 rfl Tryz.ntmps42 rfl Tryz.results42 Tryz.call42 fun H0 S0 w0 h0 g0 => ?_
  refine FZB 0 rfl rfl ?_
  refine GO (conFunc_rt m 60 [.r [.sl 2 (l.map lb)]] rfl (fun x => !loneF l x) (fun x _ => all1_rt l x) hm) rfl ?_
  refine ⟨?_, rfl⟩
  show (!_) = allF l m
  unfold allF
  rw [List.all_eq_not_any_not]
end Go.Proofs.YtaahmenpcpjbhaaGreatDoor
/-
  Contracts (printed by gen/gen_find.py): slices.IndexFunc, slices.ContainsFunc, slices.Clone.
-/
namespace Go.Proofs.YtaahmenpcpjbhaaGreatDoor
open Go.GK Go.PL Go.RowKit
set_option maxRecDepth 100000
abbrev gn (g : Gn) : List GV := [.sl 3 (g.mt.map mt), gi g.lo, gi g.hi]
abbrev gns (l : List Gn) : GV := .sl 3 (l.map gn)
theorem cloneSm_hf (l : List Sm) (hl : l.length ≤ 1000000) : Hf pg 43 0 [.sl 2 (l.map sm)] [] (fun g σ n => g = .o 0 ∧ σ = [(0, .row 34 2 (l.map sm))] ∧ n = 1) := by
  refine Hf.weak (Q := fun g σ m => ∃ id : Nat, g = .o id ∧ hlook σ id = some (.row 34 2 (l.map sm))) (Hf.ofJ pg_ok Tryz.func43 rfl Tryz.ntmps43 rfl Tryz.results43 Tryz.call43 fun H0 S0 w0 h0 g0 => ?_) ?_
  · refine VM 8 ?_
    refine JK.eqNil pg_ok rfl rfl rfl rfl rfl (fun hn => ?_) ?_
    · have hn' : l.map sm = [] := hn
      refine VM 6 ?_
      refine JK.ownNil 2 34 2 rfl ?_
      refine V ?_
      refine ⟨_, rfl, ?_⟩
      rw [hn']
      rfl
    · refine V ?_
      refine ⟨by simp only [List.length_map, List.length_nil]; omega, ?_⟩
      exact ⟨_, rfl, rfl⟩
  · rintro g σ m ⟨id, rfl, h⟩
    exact ⟨r1 0 id, .o 0, [(0, .row 34 2 (l.map sm))], 1, ⟨rfl, rfl, rfl⟩, rfl, ⟨h, trivial⟩, rfl⟩
theorem cloneSm_rt (l : List Sm) (hl : l.length ≤ 1000000) : Rt pg 43 [.sl 2 (l.map sm)] (.sl 2 (l.map sm)) := by
  refine Rt.ofJ pg_ok Tryz.func43 rfl Tryz.ntmps43 rfl Tryz.results43 Tryz.call43 fun H0 S0 w0 h0 g0 => ?_
  refine VM 8 ?_
  refine JK.eqNil pg_ok rfl rfl rfl rfl rfl (fun hn => ?_) ?_
  · have hn' : l.map sm = [] := hn
    refine VM 6 ?_
    refine JK.roNil 2 2 rfl ?_
    refine V ?_
    rw [hn']
    exact ⟨rfl, rfl⟩
  · refine VM 10 ?_
    refine ⟨by simp only [List.length_map, List.length_nil]; omega, ?_⟩
    refine FRZ 1 rfl ?_
    exact ⟨rfl, rfl⟩
theorem cloneLb_hf (l : List Lb) (hl : l.length ≤ 1000000) : Hf pg 23 0 [.sl 2 (l.map lb)] [] (fun g σ n => g = .o 0 ∧ σ = [(0, .row 31 2 (l.map lb))] ∧ n = 1) := by
  refine Hf.weak (Q := fun g σ m => ∃ id : Nat, g = .o id ∧ hlook σ id = some (.row 31 2 (l.map lb))) (Hf.ofJ pg_ok Tryz.func23 rfl Tryz.ntmps23 rfl Tryz.results23 Tryz.call23 fun H0 S0 w0 h0 g0 => ?_) ?_
  · refine VM 8 ?_
    refine JK.eqNil pg_ok rfl rfl rfl rfl rfl (fun hn => ?_) ?_
    · have hn' : l.map lb = [] := hn
      refine VM 6 ?_
      refine JK.ownNil 2 31 2 rfl ?_
      refine V ?_
      refine ⟨_, rfl, ?_⟩
      rw [hn']
      rfl
    · refine V ?_
      refine ⟨by simp only [List.length_map, List.length_nil]; omega, ?_⟩
      exact ⟨_, rfl, rfl⟩
  · rintro g σ m ⟨id, rfl, h⟩
    exact ⟨r1 0 id, .o 0, [(0, .row 31 2 (l.map lb))], 1, ⟨rfl, rfl, rfl⟩, rfl, ⟨h, trivial⟩, rfl⟩
theorem cloneLb_rt (l : List Lb) (hl : l.length ≤ 1000000) : Rt pg 23 [.sl 2 (l.map lb)] (.sl 2 (l.map lb)) := by
  refine Rt.ofJ pg_ok Tryz.func23 rfl Tryz.ntmps23 rfl Tryz.results23 Tryz.call23 fun H0 S0 w0 h0 g0 => ?_
  refine VM 8 ?_
  refine JK.eqNil pg_ok rfl rfl rfl rfl rfl (fun hn => ?_) ?_
  · have hn' : l.map lb = [] := hn
    refine VM 6 ?_
    refine JK.roNil 2 2 rfl ?_
    refine V ?_
    rw [hn']
    exact ⟨rfl, rfl⟩
  · refine VM 10 ?_
    refine ⟨by simp only [List.length_map, List.length_nil]; omega, ?_⟩
    refine FRZ 1 rfl ?_
    exact ⟨rfl, rfl⟩
end Go.Proofs.YtaahmenpcpjbhaaGreatDoor
/-
  Contracts: package roll.
-/
namespace Go.Proofs.YtaahmenpcpjbhaaGreatDoor
open Go.GK Go.PL
set_option maxRecDepth 100000

theorem upF_snoc (l : List Sm) (s : Int) (i : Nat) (h : i < l.length) : upF (l.take (i + 1)) s = addF (upF (l.take i) s) (oneF s l[i]) := by
  rw [List.take_succ_eq_append_getElem h, upF_snoc']
theorem addF_len (l : List Bk) (b : Bk) : (addF l b).length ≤ l.length + 1 := by
  unfold addF
  split
  · split <;> simp
  · simp
theorem addsF_len (l : List Bk) : (addsF [] l).length ≤ l.length := by
  refine snoc_ind (P := fun l => (addsF [] l).length ≤ l.length) (by simp [addsF]) (fun l x ih => ?_) l
  rw [addsF_snoc]
  have := addF_len (addsF [] l) x
  simp
  omega
theorem upF_len (l : List Sm) (s : Int) : (upF l s).length ≤ l.length := by
  have := addsF_len (l.map (oneF s))
  simpa [upF] using this
theorem widerF_snoc (l : List Bk) (s : Int) (i : Nat) (h : i < l.length) : widerF (l.take (i + 1)) s = addF (widerF (l.take i) s) (widen s l[i]) := by
  unfold widerF
  rw [List.take_succ_eq_append_getElem h, List.map_append]
  exact addsF_snoc _ _ _
theorem widerF_len (l : List Bk) (s : Int) : (widerF l s).length ≤ l.length := by
  have := addsF_len (l.map (widen s))
  simpa [widerF] using this
end Go.Proofs.YtaahmenpcpjbhaaGreatDoor
/-
  Contracts: which samples may be.
-/
namespace Go.Proofs.YtaahmenpcpjbhaaGreatDoor
open Go.GK Go.PL
set_option maxRecDepth 100000
theorem right_ct (l : List Sm) : Ct pg 45 0 [.sl 2 (l.map sm)] [] (Val fun g => g = .b (okS l)) := by
  refine Ct.len 0 rfl fun hlen _ => ?_
  have hlen' : l.length ≤ 9223372036854775807 := by simpa [maxLen] using hlen
  refine Ct.bool (Ct.of_JK pg_ok Tryz.func45 rfl Tryz.ntmps45 rfl Tryz.results45 fun H0 S0 w0 h0 g0 => ?_)
  refine vc_sound pg_ok 200 _ _ ?_
  refine JK.loop (α := Nat) (fun i => ⟨[(0, .sl 2 (l.map sm)), (5, .sl 2 (l.map sm)), (6, gi (l.map sm).length), (7, gi i)], [], 0⟩) (fun i => i ≤ l.length ∧ ∀ j x, j < i → l[j]? = some x → ¬ badAt l j x) (fun i => l.length - i) 0 id ?_ ⟨Nat.zero_le _, fun j x hj => absurd hj (by omega)⟩ ?_
  · exact ⟨⟨rfl, rfl, rfl, rfl, trivial⟩, trivial, rfl⟩
  · rintro i ⟨hi, hgood⟩
    refine vc_sound pg_ok 200 _ _ ?_
    refine ⟨fun hb => ?_, fun hb => ?_⟩
    · have hlt : i < l.length := by simpa using hb
      refine idx i rfl hlt ?_
      refine ⟨by kernel_rfl, ?_⟩
      have hfalse : badAt l i l[i] → false = okS l := fun hb => by
        cases h : okS l with
        | false => rfl
        | true => exact ((okS_bad l).1 h |>.1 i l[i] (List.getElem?_eq_getElem hlt) hb).elim
      have hnext : ¬ badAt l i l[i] → i + 1 ≤ l.length ∧ ∀ j x, j < i + 1 → l[j]? = some x → ¬ badAt l j x := fun hn => ⟨hlt, fun j x hj hx => by
        rcases Nat.lt_succ_iff_lt_or_eq.1 hj with h1 | h1
        · exact hgood j x h1 hx
        · subst h1
          rw [List.getElem?_eq_getElem hlt] at hx
          cases hx
          exact hn⟩
      have e18 : some (gi (IntKind.i64.wrap (i + 1 : Int))) = some (gi ((i + 1 : Nat) : Int)) := by rw [wrap_id (by omega) (by omega)]; rfl
      refine ⟨fun ha => ?_, fun ha => ?_⟩
      · have ha' : ¬ l[i].time < -1099511627776 := by simpa using ha
        refine ⟨fun hc => ?_, fun hc => ?_⟩
        · have hc' : ¬ l[i].time > 1099511627776 := by simpa using hc
          refine ⟨fun hd => ?_, fun hd => ?_⟩
          · have hd' : 0 < i := by simpa using hd
            have ew : IntKind.i64.wrap ((i : Int) - 1) = ((i - 1 : Nat) : Int) := by rw [wrap_id (by omega) (by omega)]; omega
            refine idx (i - 1) ew (by omega) ?_
            refine ⟨fun he => ?_, fun he => ?_⟩
            · exact .inl (congrArg (fun c => GV.v (.bool c)) (hfalse (.inr (.inr ⟨hd', _, List.getElem?_eq_getElem (by omega), by simpa using he⟩))))
            · refine ⟨i + 1, id, ⟨⟨rfl, rfl, rfl, e18, trivial⟩, trivial, rfl⟩, hnext ?_, by show l.length - (i + 1) < l.length - i; omega⟩
              rintro (h | h | ⟨_, y, hy, h⟩)
              · exact ha' h
              · exact hc' h
              · rw [List.getElem?_eq_getElem (by omega)] at hy
                rw [Option.some.injEq] at hy
                rw [← hy] at h
                simp at he
                omega
          · have hd' : ¬ 0 < i := by simpa using hd
            refine ⟨i + 1, id, ⟨⟨rfl, rfl, rfl, e18, trivial⟩, trivial, rfl⟩, hnext ?_, by show l.length - (i + 1) < l.length - i; omega⟩
            rintro (h | h | ⟨h, _⟩)
            · exact ha' h
            · exact hc' h
            · exact hd' h
        · exact .inl (congrArg (fun c => GV.v (.bool c)) (hfalse (.inr (.inl (by simpa using hc)))))
      · exact .inl (congrArg (fun c => GV.v (.bool c)) (hfalse (.inl (by simpa using ha))))
    · have hge : i = l.length := by simp at hb; omega
      refine vc_sound pg_ok 200 _ _ ?_
      refine .inr (congrArg GV.b ?_)
      rw [Bool.eq_iff_iff, okS_bad, decide_eq_true_iff, List.length_map]
      exact ⟨fun h => ⟨fun j x hj => hgood j x (by rw [hge]; exact (List.getElem?_eq_some_iff.1 hj).1) hj, by omega⟩, fun h => by omega⟩
end Go.Proofs.YtaahmenpcpjbhaaGreatDoor
/-
  Contracts: package head: what a head says of one that comes.
-/
namespace Go.Proofs.YtaahmenpcpjbhaaGreatDoor
open Go.GK Go.PL Go.RowKit
set_option maxRecDepth 100000
abbrev HD (mk : Int) (S : List Ser) : Heap := [(0, .blk 65 [gi mk, .o 1]), (1, .row 37 2 (S.map se))]
/-- What is behind it, without what is no longer asked for. -/
theorem fin_hd {f : FuncId} {args : List GV} {σ : Heap} {mk : Int} {S : List Ser} {G : GV} (hG : idb 0 G = true) (h : Hf pg f 2 args σ (fun g σ' _ => g = G ∧ hlook σ' 0 = some (.blk 65 [gi mk, .o 1]) ∧ hlook σ' 1 = some (.row 37 2 (S.map se)))) :
    Hf pg f 2 args σ (fun g σ' n => g = G ∧ σ' = HD mk S ∧ n = 2) := by
  refine Hf.weak h ?_
  rintro g σ' n ⟨rfl, h0, h1⟩
  refine ⟨id, g, HD mk S, 2, ⟨rfl, rfl, rfl⟩, (ren_id g).symm, ⟨h0, h1, trivial⟩, ?_⟩
  rw [idb_up 2 hG]
  rfl
theorem at_hf (mk : Int) (S : List Ser) (ls : List Lb) (b : Bool) (hr : RisS S) (hl : S.length ≤ 1000000) (hb : (atL ls S).isSome = b) :
    Hf pg 21 2 [.p 0 0, lbs ls] (HD mk S) (fun g σ n => g = .tup [gi (posL ls S), .v (.bool b)] ∧ σ = HD mk S ∧ n = 2) := by
  refine fin_hd rfl (Hf.of pg_ok Tryz.func21 rfl Tryz.ntmps21 rfl Tryz.results21 Tryz.call21 fun H0 S0 w0 h0 g0 => ?_)
  subst hb
  refine GOB (bsf_rt S ls 47 hr (fun x _ => at1_rt x ls) hl) rfl ⟨⟨rfl, rfl⟩, ⟨rfl, rfl⟩, ⟨rfl, rfl⟩, trivial⟩ ?_
  exact ⟨rfl, rfl, rfl⟩
theorem errH_1 {mk : Int} {S : List Ser} {x : Ser} (h : rightF x.labels = false) : errH mk S x = 1 := by unfold errH; rw [if_pos (by rw [h]; rfl)]
theorem errH_2 {mk : Int} {S : List Ser} {x : Ser} (h : okS x.samples = false) : errH mk S x = 1 := by unfold errH; rw [if_pos (by rw [h, Bool.and_false]; rfl)]
theorem errH_3 {mk : Int} {S : List Ser} {x : Ser} (h : x.samples.length = 0) : errH mk S x = 1 := by unfold errH; rw [if_pos (by rw [decide_eq_true h, Bool.not_true, Bool.and_false])]
theorem errH_go {mk : Int} {S : List Ser} {x : Ser} (h1 : rightF x.labels = true) (h2 : okS x.samples = true) (h3 : ¬ x.samples.length = 0) : errH mk S x = if firstT x.samples ≤ mk then 10 else
  match atL x.labels S with
  | none => if 60 ≤ S.length then 12 else 0
  | some y => if firstT x.samples ≤ lastT y.samples then 10 else if 2000 < y.samples.length + x.samples.length then 12 else 0 := by
  unfold errH
  rw [if_neg (by rw [h1, h2, decide_eq_false h3]; decide)]
  rfl
theorem firstT_at {s : List Sm} (h : 0 < s.length) : firstT s = s[0].time := by
  cases s with
  | nil => simp at h
  | cons x r => rfl
theorem lastT_at {s : List Sm} (h : 0 < s.length) : lastT s = s[s.length - 1].time := by
  unfold lastT
  rw [List.getLast?_eq_getElem?, List.getElem?_eq_getElem (by omega)]
theorem hright_hf (mk : Int) (S : List Ser) (x : Ser) (hS : HOk S) (hx : Sh x.labels) (hlx : x.samples.length ≤ 1000000) :
    Hf pg 20 2 [.p 0 0, .agg (se x)] (HD mk S) (fun g σ n => g = gi (errH mk S x) ∧ σ = HD mk S ∧ n = 2) := by
  refine fin_hd rfl (Hf.of pg_ok Tryz.func20 rfl Tryz.ntmps20 rfl Tryz.results20 Tryz.call20 fun H0 S0 w0 h0 g0 => ?_)
  have hll : (S.map se).length = S.length := by simp
  have hsl : (x.samples.map sm).length = x.samples.length := by simp
  have hlen := hS.len
  have hr1 := right_rt x.labels hx
  have hr2 := Rq.old Tryz.call45 (right_ct x.samples)
  cases ha : atL x.labels S with
  | none =>
    refine GOH (at_hf mk S x.labels false hS.ris (by omega) (by rw [ha]; rfl)) id rfl rfl ⟨rfl, rfl, trivial⟩ rfl (id_lt rfl) ?_
    rintro _ _ _ ⟨rfl, rfl, rfl⟩
    rcases tf (rightF x.labels) with h1 | h1
    · refine GO (hr1.bt h1) rfl ?_
      rcases tf (okS x.samples) with h2 | h2
      · refine GO (hr2.bt h2) rfl ?_
        by_cases h3 : x.samples.length = 0
        · refine p1 ?_ (beq_iff_eq.2 (by omega))
          exact ⟨congrArg gi (errH_3 h3).symm, rfl, rfl⟩
        · refine p2 ?_ (beq_false_of_ne (by omega))
          have he := errH_go (mk := mk) (S := S) h1 h2 h3
          have hf := firstT_at (s := x.samples) (by omega)
          rw [ha] at he
          refine ⟨by kernel_rfl, ?_⟩
          refine idx 0 rfl (by omega) ?_
          by_cases h4 : firstT x.samples ≤ mk
          · refine p1 ?_ (decide_eq_true (by rw [← hf]; exact h4))
            rw [if_pos h4] at he
            exact ⟨congrArg gi he.symm, rfl, rfl⟩
          · refine p2 ?_ (decide_eq_false (by rw [← hf]; exact h4))
            rw [if_neg h4] at he
            simp only at he
            by_cases h5 : 60 ≤ S.length
            · refine p1 ?_ (decide_eq_true (by omega))
              rw [if_pos h5] at he
              exact ⟨congrArg gi he.symm, rfl, rfl⟩
            · refine p2 ?_ (decide_eq_false (by omega))
              rw [if_neg h5] at he
              exact ⟨congrArg gi he.symm, rfl, rfl⟩
      · refine GO (hr2.bt h2) rfl ?_
        exact ⟨congrArg gi (errH_2 h2).symm, rfl, rfl⟩
    · refine GO (hr1.bt h1) rfl ?_
      exact ⟨congrArg gi (errH_1 h1).symm, rfl, rfl⟩
  | some y =>
    refine GOH (at_hf mk S x.labels true hS.ris (by omega) (by rw [ha]; rfl)) id rfl rfl ⟨rfl, rfl, trivial⟩ rfl (id_lt rfl) ?_
    rintro _ _ _ ⟨rfl, rfl, rfl⟩
    obtain ⟨hn, e1, e2⟩ := atL_some ha
    have hy := hS.each y (e1 ▸ List.getElem_mem hn)
    have hyo := (okS_iff _).1 hy.2.1
    have hy0 : 0 < y.samples.length := List.length_pos_iff.2 hy.2.2
    have hyl : (y.samples.map sm).length = y.samples.length := by simp
    rcases tf (rightF x.labels) with h1 | h1
    · refine GO (hr1.bt h1) rfl ?_
      rcases tf (okS x.samples) with h2 | h2
      · refine GO (hr2.bt h2) rfl ?_
        by_cases h3 : x.samples.length = 0
        · refine p1 ?_ (beq_iff_eq.2 (by omega))
          exact ⟨congrArg gi (errH_3 h3).symm, rfl, rfl⟩
        · refine p2 ?_ (beq_false_of_ne (by omega))
          have he := errH_go (mk := mk) (S := S) h1 h2 h3
          have hf := firstT_at (s := x.samples) (by omega)
          have hla := lastT_at hy0
          rw [ha] at he
          refine ⟨by kernel_rfl, ?_⟩
          refine idx 0 rfl (by omega) ?_
          by_cases h4 : firstT x.samples ≤ mk
          · refine p1 ?_ (decide_eq_true (by rw [← hf]; exact h4))
            rw [if_pos h4] at he
            exact ⟨congrArg gi he.symm, rfl, rfl⟩
          · refine p2 ?_ (decide_eq_false (by rw [← hf]; exact h4))
            rw [if_neg h4] at he
            simp only at he
            refine ⟨by omega, by omega, ?_⟩
            refine ⟨se y, by simp [hn, e1], ?_⟩
            refine ⟨by kernel_rfl, ?_⟩
            refine p1 ?_ (decide_eq_true (by omega))
            refine idx (y.samples.length - 1) (by rw [wrap_id (by omega) (by omega)]; omega) (by omega) ?_
            refine idx 0 rfl (by omega) ?_
            by_cases h5 : firstT x.samples ≤ lastT y.samples
            · refine p1 ?_ (decide_eq_true (by rw [← hf, ← hla]; exact h5))
              rw [if_pos h5] at he
              exact ⟨congrArg gi he.symm, rfl, rfl⟩
            · refine p2 ?_ (decide_eq_false (by rw [← hf, ← hla]; exact h5))
              rw [if_neg h5] at he
              by_cases h6 : 2000 < y.samples.length + x.samples.length
              · refine p1 ?_ (decide_eq_true (by rw [wrap_id (by omega) (by omega)]; omega))
                rw [if_pos h6] at he
                exact ⟨congrArg gi he.symm, rfl, rfl⟩
              · refine p2 ?_ (decide_eq_false (by rw [wrap_id (by omega) (by omega)]; omega))
                rw [if_neg h6] at he
                exact ⟨congrArg gi he.symm, rfl, rfl⟩
      · refine GO (hr2.bt h2) rfl ?_
        exact ⟨congrArg gi (errH_2 h2).symm, rfl, rfl⟩
    · refine GO (hr1.bt h1) rfl ?_
      exact ⟨congrArg gi (errH_1 h1).symm, rfl, rfl⟩
end Go.Proofs.YtaahmenpcpjbhaaGreatDoor
/-
  slices.Insert of one series: a raw walk, its four roads.
-/
namespace Go.Proofs.YtaahmenpcpjbhaaGreatDoor
open Go.RowKit Go.Lib Go.GK
set_option linter.unusedVariables false
set_option linter.unusedSimpArgs false
set_option maxRecDepth 100000
theorem ins_ty : Tryz.prog.underlying 25 = some (.slice 37) := by kernel_rfl
theorem ins_info : ∃ (i : TypeInfo) (z : Value), Tryz.prog.info? 37 = some i ∧ i.size = 2 ∧ i.bytes = 48 ∧ i.zero = some z ∧ z.cells.size = 2 := by
  obtain ⟨i, z, hi, hisz, hiby, hiz, hzc, hzl⟩ := (pg_ok.tt 37 _ rfl).info
  exact ⟨i, z, hi, hisz, hiby, hiz, by rw [← Array.length_toList, hzc, hzl]⟩
set_option maxHeartbeats 4000000 in
theorem ins_fin (v : Value) (n vb vc : Nat) (xs vs : List Value) (w : World) (hown : w.ownsRow 0 37 2 v n xs) (hvl : vs.length = 2) (hvs : ∀ j u, vs[j]? = some u → w.cell? ⟨vb, 0 + j, none⟩ = some u) (h1v : ∀ u ∈ vs, u.oneCell' = true) (hn : n < 1000000) :
    Calls Tryz.prog 22 #[v, .int .i64 (n : Int), .slice (some ⟨vb, 0, none⟩) 1 vc] w fun ev w' => ∃ v', ev = .returned v' ∧ w'.ownsRow 0 37 2 v' (n + 1) (xs ++ vs) ∧ w.grownBy w' v.ownBlock ∧ (v'.ownBlock = v.ownBlock ∨ v'.ownBlock = some w.heap.size) := by
  obtain ⟨i, z, hi, hisz, hiby, hiz, hzs⟩ := ins_info
  obtain ⟨v', w', hr, h2, h3, _, h5⟩ := run_append_own_at (P := Tryz.prog) w 0 25 25 37 i z 2 48 ins_ty hi hiz hisz hiby hzs (by omega) v n xs hown ⟨vb, 0, none⟩ 1 vc vs hvl (fun j u hj => by rw [Addr.add_lit]; exact hvs j u hj) h1v (by unfold maxLen; omega) (by omega) (Nat.zero_le _)
  have u27 := run_underlying ins_ty
  rcases hown.2 with ⟨rfl, rfl⟩ | ⟨g, cap, cur, rfl, hb, hg, hnc, hcm, hrest⟩
  · go_enter Tryz.func22, Tryz.ntmps22
    go_wp2_with (at_builtin; refine Lib.wpList_append_run _ rfl _ _ _ _ rfl _ _ rfl rfl _ _ hr ?_)
    go_ret
    exact ⟨v', rfl, h2, h3, h5⟩
  · have hcm' : cap ≤ 9223372036854775807 := by unfold maxLen at hcm; omega
    clear hcm hrest hg hb hown
    go_enter Tryz.func22, Tryz.ntmps22
    go_wp2_with (at_builtin; refine Lib.wpList_append_run _ rfl _ _ _ _ rfl _ _ rfl rfl _ _ hr ?_)
    all_goals (go_ret; exact ⟨v', rfl, h2, h3, h5⟩)
theorem ins_ov (vb b p : Nat) (vc lb cb : Nat) (w : World) (hvb : vb ≠ b) (vcur cur : Array Value) (tv tb : TypeId) (hv : w.heap[vb]? = some (.cells vcur tv (0, 0))) (hb : w.heap[b]? = some (.cells cur tb (0, 0))) (hk : cur.size ≠ 0) :
    (callFunc 49 #[.slice (some ⟨vb, 0, none⟩) 1 vc, .slice (some ⟨b, p, none⟩) lb cb]).run Tryz.prog w = .ok (.value (.bool false)) w := by
  rw [run_callFunc_extern Tryz.func49 (by kernel_rfl) (by kernel_rfl) (by kernel_rfl) (e := Extern.SlicesOverlaps.overlaps #[25, 25] #[4]) (by kernel_rfl),
    Lib.run_overlaps_apart w 25 4 37 ins_ty 2 (fun w => by kernel_rfl) ⟨vb, 0, none⟩ ⟨b, p, none⟩ 1 vc lb cb hvb tv tb vcur.size cur.size (by simp [World.shape?, hv]) (by simp [World.shape?, hb]) hk (by simp [World.frozen?, hv]) (by simp [World.frozen?, hv])]
  rfl
set_option maxHeartbeats 4000000 in
theorem ins_shift (b n c i vb vc : Nat) (cs vs : List Value) (vcur cur : Array Value) (tv tb : TypeId) (w : World) (hi : i < n) (hroom : n + 1 ≤ c) (hc63 : c ≤ 9223372036854775807) (hvb : vb ≠ b) (hcl : cs.length = n * 2) (hvl : vs.length = 2)
    (hv : w.heap[vb]? = some (.cells vcur tv (0, 0))) (hb : w.heap[b]? = some (.cells cur tb (0, 0))) (hk : cur.size ≠ 0)
    (hcs : ∀ j v, cs[j]? = some v → w.cell? ⟨b, j, none⟩ = some v) (hsp : ∀ j, j < (n + 1) * 2 → (w.cell? ⟨b, j, none⟩).isSome = true) (hfz : ∀ j, w.frozen? ⟨b, j, none⟩ = false)
    (hvs : ∀ j v, vs[j]? = some v → w.cell? ⟨vb, j, none⟩ = some v) (h1c : ∀ v ∈ cs, v.oneCell' = true) (h1v : ∀ v ∈ vs, v.oneCell' = true) :
    Calls Tryz.prog 22 #[.slice (some ⟨b, 0, none⟩) n c, .int .i64 i, .slice (some ⟨vb, 0, none⟩) 1 vc] w fun e w' =>
      e = .returned (.slice (some ⟨b, 0, none⟩) (n + 1) c) ∧ w' = (w.drew.setCells b ((i + 1) * 2) (cs.drop (i * 2))).setCells b (i * 2) vs := by
  have hsz : (Tryz.prog.info? 37).map (·.size) = some 2 := by
    obtain ⟨i0, z, hi0, h1, _⟩ := ins_info
    rw [hi0]; simp [h1]
  have u27 := run_underlying ins_ty
  have hov : ∀ p lb cb, (callFunc 49 #[.slice (some ⟨vb, 0, none⟩) 1 vc, .slice (some ⟨b, p, none⟩) lb cb]).run Tryz.prog w = .ok (.value (.bool false)) w := fun p lb cb => ins_ov vb b p vc lb cb w hvb vcur cur tv tb hv hb hk
  have hz2 : ¬ ((i : Int) = (n : Int)) := by omega
  have hdl : (cs.drop (i * 2)).length = (n - i) * 2 := by rw [List.length_drop, hcl, Nat.sub_mul]
  have hw1 : IntKind.i64.wrap ((i : Int) + 1) = (i : Int) + 1 := by rw [IntKind.wrap_i64]; omega
  have hw2 : IntKind.i64.wrap ((n : Int) + 1) = (n : Int) + 1 := by rw [IntKind.wrap_i64]; omega
  have hb1 : (0 : Int) ≤ (i : Int) + 1 := by omega
  have hb0 : (0 : Int) ≤ (n : Int) + 1 := by omega
  have hin : i ≤ n := by omega
  have htn : ((i : Int) + 1).toNat = i + 1 := by omega
  have htn2 : ((n : Int) + 1).toNat = n + 1 := by omega
  have hb2 : ¬ (c = i + 1) := by omega
  have hb3 : (i : Int) ≤ (n : Int) + 1 := by omega
  have hb4 : ¬ (c = i) := by omega
  have hb5 : (n : Int) + 1 ≤ (c : Int) := by omega
  have hcp1 : ∀ ty dc sc, (Builtin.copy_ #[25, 25] ty #[.slice (some ⟨b, (i + 1) * 2, none⟩) (n - i) dc, .slice (some ⟨b, i * 2, none⟩) (n + 1 - i) sc]).run Tryz.prog w.drew = .ok (goInt ((n - i : Nat))) (w.drew.setCells b ((i + 1) * 2) (cs.drop (i * 2))) := fun ty dc sc =>
    run_copy_k w.drew _ _ ty 37 2 b ((i + 1) * 2) (n - i) dc ⟨b, i * 2, none⟩ (n + 1 - i) sc (n - i) (cs.drop (i * 2)) ins_ty hsz (by simp only [Nat.min_def]; split <;> omega) hdl
      (fun j v hj => by rw [Addr.add_lit]; exact hcs (i * 2 + j) v (by rwa [List.getElem?_drop] at hj))
      (fun j hj => hsp _ (by omega)) (fun j hj => hfz _) (fun v hv => h1c v (List.mem_of_mem_drop hv))
  obtain ⟨W1, hW1⟩ : ∃ W1, W1 = w.drew.setCells b ((i + 1) * 2) (cs.drop (i * 2)) := ⟨_, rfl⟩
  have hsp1 : ∀ k, k < (n + 1) * 2 → (W1.cell? ⟨b, k, none⟩).isSome = true := fun k hk => by
    rw [hW1]
    exact isSome_setCells b (cs.drop (i * 2)) ((i + 1) * 2) w.drew (fun j hj => hsp _ (by rw [hdl] at hj; omega)) k (hsp k hk)
  have hcp2 : ∀ ty dc, (Builtin.copy_ #[25, 25] ty #[.slice (some ⟨b, i * 2, none⟩) (n + 1 - i) dc, .slice (some ⟨vb, 0, none⟩) 1 vc]).run Tryz.prog W1 = .ok (goInt (1 : Nat)) (W1.setCells b (i * 2) vs) := fun ty dc =>
    run_copy_k W1 _ _ ty 37 2 b (i * 2) (n + 1 - i) dc ⟨vb, 0, none⟩ 1 vc 1 vs ins_ty hsz (by simp only [Nat.min_def]; split <;> omega) hvl
      (fun j v hj => by
        rw [Addr.add_lit, hW1, World.cell?_setCells_out b _ _ _ _ (fun h _ => absurd h hvb), Nat.zero_add]
        exact hvs j v hj)
      (fun j hj => hsp1 _ (by omega)) (fun j hj => by rw [hW1, World.frozen?_setCells]; exact hfz _) h1v
  rw [← hW1] at hcp1 ⊢
  clear hv hb hk hsp hsp1 hcs hvs h1c h1v hdl hW1
  go_enter Tryz.func22, Tryz.ntmps22
  go_wp2_with (simp only [hov])
  go_region_law (refine step_copy_runI rfl _ _ 25 25 rfl _ _ (by simp [Act.eval, Act.put]) (by simp [Act.eval, Act.put]) (hcp1 _ _ _) ?_)
  go_wp2_with (at_builtin; refine wpList_copy_runI _ rfl _ _ 25 25 rfl _ _ rfl rfl (hcp2 _ _) ?_)
  go_ret
  exact ⟨rfl, rfl⟩
set_option maxHeartbeats 4000000 in
theorem ins_grow (b n i vb vc : Nat) (cs vs : List Value) (w : World) (i0 : TypeInfo) (z : Value) (hi0 : Tryz.prog.info? 37 = some i0) (hzs : i0.size = 2) (hzb : i0.bytes = 48) (hz0 : i0.zero = some z) (hzc : z.cells.size = 2) (hi : i < n) (hn : n < 1000000) (hcl : cs.length = n * 2) (hvl : vs.length = 2)
    (hbw : b < w.heap.size) (hvw : vb < w.heap.size) (hcs : ∀ j v, cs[j]? = some v → w.cell? ⟨b, j, none⟩ = some v) (hvs : ∀ j v, vs[j]? = some v → w.cell? ⟨vb, j, none⟩ = some v) (h1c : ∀ v ∈ cs, v.oneCell' = true) (h1v : ∀ v ∈ vs, v.oneCell' = true) :
    Calls Tryz.prog 22 #[.slice (some ⟨b, 0, none⟩) n n, .int .i64 i, .slice (some ⟨vb, 0, none⟩) 1 vc] w fun e w' =>
      e = .returned (.slice (some ⟨w.heap.size, 0, none⟩) (n + 1) (grownCap w (n + 1) n 37)) ∧
      w' = (((w.alloc (.cells ((cs.take (i * 2)).toArray ++ Builtin.zeroCells z.cells (n + 1 - i) ++ Builtin.zeroCells z.cells (grownCap w (n + 1) n 37 - (n + 1))) 37)).drew.setCells w.heap.size (i * 2) vs).drew).setCells w.heap.size ((i + 1) * 2) (cs.drop (i * 2)) := by
  have hsz : (Tryz.prog.info? 37).map (·.size) = some 2 := by rw [hi0]; simp [hzs]
  have u27 := run_underlying ins_ty
  have tint : Tryz.prog.underlying 3 = some (.int .i64) := by kernel_rfl
  have hz2 : ¬ ((i : Int) = (n : Int)) := by omega
  have hz3 : (n : Int) < (n : Int) + 1 := by omega
  have hkk : (n : Int) + 1 - (i : Int) = ((n + 1 - i : Nat) : Int) := by omega
  have hik : i + (n + 1 - i) = n + 1 := by omega
  have hold : (Builtin.firstCells i0.size i (.slice (some ⟨b, 0, none⟩) i n)).run Tryz.prog w.drew = .ok (cs.take (i * 2)).toArray w.drew := by
    rw [hzs]
    exact run_firstCells_some w.drew 2 i ⟨b, 0, none⟩ i n (cs.take (i * 2)) (by rw [List.length_take]; omega) (fun j v hj => by
      rw [Addr.add_lit, Nat.zero_add]
      rw [List.getElem?_take] at hj
      split at hj
      · exact hcs j v hj
      · cases hj)
  have hrz : ∀ ty, (Builtin.append_ #[25, 3] ty #[.slice (some ⟨b, 0, none⟩) i n, .int .i64 ((n : Int) + 1 - (i : Int))]).run Tryz.prog w =
      .ok (.slice (some ⟨w.heap.size, 0, none⟩) (n + 1) (grownCap w (n + 1) n 37)) (w.drew.alloc (.cells ((cs.take (i * 2)).toArray ++ Builtin.zeroCells z.cells (n + 1 - i) ++ Builtin.zeroCells z.cells (grownCap w (n + 1) n 37 - (n + 1))) 37)) := fun ty => by
    have h := Lib.run_append_grow_zeros (P := Tryz.prog) w 25 3 ty 37 i0 z .i64 .i64 ins_ty tint hi0 hz0 (some ⟨b, 0, none⟩) i n (cs.take (i * 2)) hold (n + 1 - i) (by omega) (by omega) (by omega) (by omega) (by rw [hzb]; omega) (by rw [hzb, hik]; exact growslice_fits (by omega) (by omega))
    rw [hik] at h
    rw [hkk]
    exact h
  obtain ⟨G, hG⟩ : ∃ G, G = grownCap w (n + 1) n 37 := ⟨_, rfl⟩
  obtain ⟨ROW, hROW⟩ : ∃ ROW : Array Value, ROW = (cs.take (i * 2)).toArray ++ Builtin.zeroCells z.cells (n + 1 - i) ++ Builtin.zeroCells z.cells (G - (n + 1)) := ⟨_, rfl⟩
  rw [← hG] at hrz ⊢
  rw [← hROW] at hrz ⊢
  have hRl : (n + 1) * 2 ≤ ROW.size := by
    rw [hROW]
    simp only [Array.size_append, List.size_toArray, List.length_take, hcl, size_zeroCells, hzc]
    omega
  obtain ⟨W1, hW1⟩ : ∃ W1, W1 = w.drew.alloc (.cells ROW 37) := ⟨_, rfl⟩
  rw [← hW1] at hrz
  have hN : ∀ j, j < (n + 1) * 2 → (W1.cell? ⟨w.heap.size, j, none⟩).isSome = true := fun j hj => by
    rw [hW1, World.cell?_alloc_at (w := w.drew) ROW _ w.heap.size j rfl, Array.getElem?_eq_getElem (by omega)]; rfl
  have hNf : ∀ j, W1.frozen? ⟨w.heap.size, j, none⟩ = false := fun j => by rw [hW1]; exact World.frozen?_alloc_at (w := w.drew) ROW _ w.heap.size j rfl
  have hOb : ∀ j v, w.cell? ⟨b, j, none⟩ = some v → W1.cell? ⟨b, j, none⟩ = some v := fun j v h => by rw [hW1, World.cell?_alloc_past (w := w.drew) _ b j hbw]; exact h
  have hOv : ∀ j v, w.cell? ⟨vb, j, none⟩ = some v → W1.cell? ⟨vb, j, none⟩ = some v := fun j v h => by rw [hW1, World.cell?_alloc_past (w := w.drew) _ vb j hvw]; exact h
  have hcpA : ∀ (W : World), (∀ x, W.cell? x = W1.cell? x) → (∀ x, W.frozen? x = W1.frozen? x) → ∀ ty dc, (Builtin.copy_ #[25, 25] ty #[.slice (some ⟨w.heap.size, i * 2, none⟩) (n + 1 - i) dc, .slice (some ⟨vb, 0, none⟩) 1 vc]).run Tryz.prog W = .ok (goInt (1 : Nat)) (W.setCells w.heap.size (i * 2) vs) := fun W hWc hWf ty dc =>
    run_copy_k W _ _ ty 37 2 w.heap.size (i * 2) (n + 1 - i) dc ⟨vb, 0, none⟩ 1 vc 1 vs ins_ty hsz (by simp only [Nat.min_def]; split <;> omega) hvl
      (fun j v hj => by rw [Addr.add_lit, hWc, Nat.zero_add]; exact hOv _ v (hvs j v hj))
      (fun j hj => by rw [hWc]; exact hN _ (by omega)) (fun j hj => by rw [hWf]; exact hNf _) h1v
  have hGn : n + 1 ≤ G := by rw [hG]; exact grownCap_ge w _ _ _
  have hG63 : G ≤ 9223372036854775807 := by
    have := grownCap_le_maxLen w (n + 1) n 37 (by unfold maxLen; omega)
    rw [← hG] at this
    unfold maxLen at this
    omega
  have hGi : ¬ (G = i) := by omega
  have hGim : ¬ (G = i + 1) := by omega
  have hci : ¬ (n = i) := by omega
  have hbN : b ≠ w.heap.size := by omega
  have hdl : (cs.drop (i * 2)).length = (n - i) * 2 := by rw [List.length_drop, hcl, Nat.sub_mul]
  have hcpB : ∀ (W : World), (∀ x, W.cell? x = (W1.setCells w.heap.size (i * 2) vs).cell? x) → (∀ x, W.frozen? x = (W1.setCells w.heap.size (i * 2) vs).frozen? x) → ∀ ty dc sc, (Builtin.copy_ #[25, 25] ty #[.slice (some ⟨w.heap.size, (i + 1) * 2, none⟩) (n - i) dc, .slice (some ⟨b, i * 2, none⟩) (n - i) sc]).run Tryz.prog W = .ok (goInt ((n - i : Nat))) (W.setCells w.heap.size ((i + 1) * 2) (cs.drop (i * 2))) := fun W hWc hWf ty dc sc =>
    run_copy_k W _ _ ty 37 2 w.heap.size ((i + 1) * 2) (n - i) dc ⟨b, i * 2, none⟩ (n - i) sc (n - i) (cs.drop (i * 2)) ins_ty hsz (by simp only [Nat.min_def]; split <;> omega) hdl
      (fun j v hj => by
        rw [Addr.add_lit, hWc, World.cell?_setCells_out _ _ _ _ _ (fun h _ => absurd h hbN)]
        exact hOb _ v (hcs (i * 2 + j) v (by rwa [List.getElem?_drop] at hj)))
      (fun j hj => by rw [hWc]; exact isSome_setCells _ vs (i * 2) W1 (fun t ht => hN _ (by rw [hvl] at ht; omega)) _ (hN _ (by rw [hdl] at hj; omega)))
      (fun j hj => by rw [hWf, World.frozen?_setCells]; exact hNf _) (fun v hv => h1c v (List.mem_of_mem_drop hv))
  subst hW1
  have hE1 : ∀ x, ((w.alloc (.cells ROW 37)).drew).cell? x = (w.drew.alloc (.cells ROW 37)).cell? x := fun x => rfl
  have hE2 : ∀ x, ((w.alloc (.cells ROW 37)).drew).frozen? x = (w.drew.alloc (.cells ROW 37)).frozen? x := fun x => rfl
  have hF1 : ∀ x, (((w.alloc (.cells ROW 37)).drew.setCells w.heap.size (i * 2) vs).drew).cell? x = ((w.drew.alloc (.cells ROW 37)).setCells w.heap.size (i * 2) vs).cell? x := fun x => rfl
  have hF2 : ∀ x, (((w.alloc (.cells ROW 37)).drew.setCells w.heap.size (i * 2) vs).drew).frozen? x = ((w.drew.alloc (.cells ROW 37)).setCells w.heap.size (i * 2) vs).frozen? x := fun x => rfl
  have hw1 : IntKind.i64.wrap ((i : Int) + 1) = (i : Int) + 1 := by rw [IntKind.wrap_i64]; omega
  have hw2 : IntKind.i64.wrap ((n : Int) + 1) = (n : Int) + 1 := by rw [IntKind.wrap_i64]; omega
  have hw3 : IntKind.i64.wrap ((n : Int) + 1 - (i : Int)) = (n : Int) + 1 - (i : Int) := by rw [IntKind.wrap_i64]; omega
  have hb1 : (0 : Int) ≤ (i : Int) + 1 := by omega
  have hin : i ≤ n := by omega
  have htn : ((i : Int) + 1).toNat = i + 1 := by omega
  have hb3 : (i : Int) ≤ (n : Int) := by omega
  clear hkk hik hold hROW hG hRl hcs hvs h1c h1v hdl hN hNf hOb hOv tint
  go_enter Tryz.func22, Tryz.ntmps22
  go_wp2_with (first
    | (at_builtin; refine Lib.wpList_append_run _ rfl _ _ _ _ rfl _ _ rfl rfl _ _ (hrz _) ?_)
    | (at_builtin; refine wpList_copy_runI _ rfl _ _ 25 25 rfl _ _ rfl rfl (hcpA _ hE1 hE2 _ _) ?_)
    | (at_builtin; refine wpList_copy_runI _ rfl _ _ 25 25 rfl _ _ rfl rfl (hcpB _ (fun _ => rfl) (fun _ => rfl) _ _ _) ?_))
  go_region_law (refine step_copy_runI rfl _ _ 25 25 rfl (.slice (some ⟨w.heap.size, (i + 1) * 2, none⟩) (n - i) (G - (i + 1))) (.slice (some ⟨b, i * 2, none⟩) (n - i) (n - i)) (by simp [Act.eval, Act.put]) (by simp [Act.eval, Act.put]) (hcpB _ hF1 hF2 3 (G - (i + 1)) (n - i)) ?_)
  go_wp2
  go_ret
  exact ⟨rfl, rfl⟩
theorem ins_says : InsSays Tryz.prog 22 37 := by
  intro v n i vb vc xs vs vcur w hown hi hn hv hvc1 hvc hvs hvt hne h1c h1v
  have hvl : vs.length = 2 := by rw [← hvt, List.length_take, Array.length_toList, hvs]; omega
  have hvcell : ∀ j u, vs[j]? = some u → w.cell? ⟨vb, j, none⟩ = some u := fun j u hj => by
    have hlt : j < vs.length := (List.getElem?_eq_some_iff.1 hj).1
    rw [← hvt, List.getElem?_take, if_pos (by omega)] at hj
    simp only [World.cell?, hv]
    rw [if_neg (by simp)]
    simpa using hj
  rcases Nat.eq_or_lt_of_le hi with he | hlt
  · subst he
    have hx : xs.length = i * 2 := hown.1
    rw [← hx, List.take_length, List.drop_length, List.append_nil]
    exact ins_fin v i vb vc xs vs w hown hvl (fun j u hj => by rw [Nat.zero_add]; exact hvcell j u hj) h1v hn
  · rcases hown.2 with ⟨_, h0⟩ | ⟨g, cap, cur, rfl, hb, hg, hnc, hcm, hcs, htk⟩
    · omega
    have hxl : xs.length = n * 2 := hown.1
    have hcap2 : n * 2 ≤ cap * 2 := by omega
    have hcell : ∀ j u, xs[j]? = some u → w.cell? ⟨g, j, none⟩ = some u := fun j u hj => by
      have hlt : j < xs.length := (List.getElem?_eq_some_iff.1 hj).1
      rw [← htk, List.getElem?_take, if_pos (by omega)] at hj
      simp only [World.cell?, hg]
      rw [if_neg (by simp)]
      simpa using hj
    have hfz : ∀ j, w.frozen? ⟨g, j, none⟩ = false := fun j => by simp [World.frozen?, hg]
    have hdl : (xs.drop (i * 2)).length = (n - i) * 2 := by rw [List.length_drop, hxl, Nat.sub_mul]
    have hvb : vb ≠ g := fun e => hne (by rw [e]; rfl)
    by_cases hroom : n + 1 ≤ cap
    · refine (ins_shift g n cap i vb vc xs vs vcur cur _ _ w hlt hroom (by unfold maxLen at hcm; omega) hvb hxl hvl hv hg (by omega) hcell (fun j hj => ?_) hfz hvcell h1c h1v).mono ?_
      · simp only [World.cell?, hg]
        rw [if_neg (by simp), Array.getElem?_eq_getElem (by omega)]
        rfl
      · rintro _ w' ⟨rfl, rfl⟩
        have hgd : w.drew.heap[g]? = some (.cells cur 37 (0, 0)) := hg
        have e1 := setCells_row g 37 (xs.drop (i * 2)) ((i + 1) * 2) cur w.drew hgd (by rw [hdl, hcs]; omega)
        have hg1 := setRow_heap w.drew g cur (cur.toList.take ((i + 1) * 2) ++ xs.drop (i * 2) ++ cur.toList.drop ((i + 1) * 2 + (xs.drop (i * 2)).length)).toArray 37 _ hgd
        have e2 := setCells_row g 37 vs (i * 2) _ _ hg1 (by
          simp only [List.size_toArray, List.length_append, List.length_take, List.length_drop, Array.length_toList, hcs, hxl, hvl]; omega)
        rw [e1, e2, setRow_setRow]
        refine ⟨_, rfl, ⟨by rw [List.length_append, List.length_append, List.length_take, List.length_drop, hxl, hvl]; omega, .inr ⟨g, cap, _, rfl, hb, setRow_heap w.drew g cur _ 37 _ hgd, hroom, hcm, ?_, ?_⟩⟩, ⟨rfl, rfl, rfl, by simp, fun k _ hk => setRow_other w.drew g k _ (fun e => hk (by simp [Value.ownBlock, e]))⟩, .inl rfl⟩
        · simp only [List.size_toArray, List.length_append, List.length_take, List.length_drop, Array.length_toList, hcs, hxl, hvl]; omega
        · have := ins_take1 cur.toList vs (p := i * 2) (q := n * 2) hvl (by omega) (by simp only [Array.length_toList, hcs]; omega)
          rw [htk] at this
          rw [show (n + 1) * 2 = n * 2 + 2 by omega, show (i + 1) * 2 = i * 2 + 2 by omega]
          simpa using this
    · obtain rfl : cap = n := by omega
      obtain ⟨i0, z, hi0, hzs, hzb, hz0, hzc⟩ := ins_info
      have hgw : g < w.heap.size := (Array.getElem?_eq_some_iff.1 hg).1
      have hvw : vb < w.heap.size := (Array.getElem?_eq_some_iff.1 hv).1
      refine (ins_grow g cap i vb vc xs vs w i0 z hi0 hzs hzb hz0 hzc hlt hn hxl hvl hgw hvw hcell hvcell h1c h1v).mono ?_
      rintro _ w' ⟨rfl, rfl⟩
      have hge := grownCap_ge w (cap + 1) cap 37
      have hgm : grownCap w (cap + 1) cap 37 ≤ maxLen := grownCap_le_maxLen w (cap + 1) cap 37 (by unfold maxLen; omega)
      generalize grownCap w (cap + 1) cap 37 = G at hge hgm ⊢
      generalize hR : (xs.take (i * 2)).toArray ++ Builtin.zeroCells z.cells (cap + 1 - i) ++ Builtin.zeroCells z.cells (G - (cap + 1)) = R
      have hRs : R.size = G * 2 := by
        rw [← hR]
        simp only [Array.size_append, List.size_toArray, List.length_take, hxl, size_zeroCells, hzc]
        omega
      have hRt : R.toList.take (i * 2) = xs.take (i * 2) := by
        rw [← hR]
        simp only [Array.toList_append, List.append_assoc]
        exact List.take_left' (by rw [List.length_take, hxl]; omega)
      have hgd : (w.alloc (.cells R 37)).drew.heap[w.heap.size]? = some (.cells R 37 (0, 0)) := heap_alloc_new w _
      have e1 := setCells_row w.heap.size 37 vs (i * 2) R _ hgd (by rw [hvl, hRs]; omega)
      have hg1 := setRow_heap (w.alloc (.cells R 37)).drew w.heap.size R (R.toList.take (i * 2) ++ vs ++ R.toList.drop (i * 2 + vs.length)).toArray 37 _ hgd
      have e2 := setCells_row w.heap.size 37 (xs.drop (i * 2)) ((i + 1) * 2) _ ((w.alloc (.cells R 37)).drew.setRow w.heap.size (R.toList.take (i * 2) ++ vs ++ R.toList.drop (i * 2 + vs.length)).toArray).drew hg1 (by
        simp only [List.size_toArray, List.length_append, List.length_take, List.length_drop, Array.length_toList, hRs, hxl, hvl]; omega)
      rw [e1, e2]
      refine ⟨_, rfl, ⟨by rw [List.length_append, List.length_append, List.length_take, List.length_drop, hxl, hvl]; omega, .inr ⟨w.heap.size, G, _, rfl, Nat.zero_le _, setRow_heap _ w.heap.size _ _ 37 _ hg1, hge, hgm, ?_, ?_⟩⟩, ⟨rfl, rfl, rfl, by simp, fun k hk _ => ?_⟩, .inr rfl⟩
      · simp only [List.size_toArray, List.length_append, List.length_take, List.length_drop, Array.length_toList, hRs, hxl, hvl]; omega
      · have := ins_take2 R.toList vs (xs.drop (i * 2)) (p := i * 2) (q := cap * 2) hvl (by rw [List.length_drop, hxl]) (by omega) (by simp only [Array.length_toList, hRs]; omega)
        rw [hRt] at this
        rw [show (cap + 1) * 2 = cap * 2 + 2 by omega, show (i + 1) * 2 = i * 2 + 2 by omega]
        simpa [hRt] using this
      · rw [setRow_other _ w.heap.size k _ (by omega)]
        show ((w.alloc (.cells R 37)).drew.setRow w.heap.size _).heap[k]? = _
        rw [setRow_other _ w.heap.size k _ (by omega)]
        first | exact heap_alloc_old w _ k hk | exact heap_alloc_old w _ hk
theorem insert_rt (rows : List (List GV)) (r : List GV) (i : Nat) (hi : i ≤ rows.length) (hl : rows.length < 1000000) :
    Hf pg 22 2 [.o 0, gi i, .o 1] [(0, .row 37 2 rows), (1, .row 37 2 [r])] fun G σ n => G = .o 2 ∧ σ = [(2, .row 37 2 (rows.take i ++ [r] ++ rows.drop i)), (1, .row 37 2 [r])] ∧ n = 3 :=
  insert_hf (p := pg) (fun _ _ => by kernel_rfl) ins_says rows r i hi hl
end Go.Proofs.YtaahmenpcpjbhaaGreatDoor
/-
  The ghost machine: a region that draws its order: of two operations that may come up at once, one may be a call of values, or may read own things.
-/
namespace Go.GK
open Go.RowKit
section
variable {cx : Cx} {T : Post}
/-- .. that reads own things. -/
theorem Stp.read {ops : List Oper} {k : List It} {σs : Heap} {ρq : Env} {fuel : Nat} {listed : List Bool} {s : St} (i : Nat) {o : Oper} (hp : cx.pg.Ok) (hi : ops[i]? = some o) (hgd : gdOk ops s.ρ o.guard = true)
    (h : pv cx.pg s.ρ (s.σ ++ σs) o.op fun g => nf g fun g => dput cx.N s.ρ o.dst g fun ρ' => nfE (qput ρq o.dst g) fun ρq => RA cx T ops k σs ρq fuel (listed.set i true) ⟨ρ', s.σ, s.n⟩) : Stp cx T ops k σs ρq fuel listed s i o := by
  refine ⟨hi, hgd, fun n0 H0 S0 w0 h0 g0 H a w K Q' hg hs ha hsat hK => ?_⟩
  obtain ⟨u, g, hrun, hiu, hk⟩ := pv_sound hp hg ha.env hsat h
  simp only [nf_eq, nfE_eq] at hk
  have hlt := dput_lt hk
  refine upon_value_wp (u := u) (.inl (hrun w (Agr.refl hsat) o rfl)) ?_
  obtain ⟨ρ', ha', hra⟩ := ha.dput hiu hk
  exact hK H u g w s ρ' (Hid.le.refl H) hiu (hs.ρ _) ha' hlt hra
/-- .. that is a call of values. -/
theorem Stp.rt {ops : List Oper} {k : List It} {σs : Heap} {ρq : Env} {fuel : Nat} {listed : List Bool} {s : St} (i : Nat) {o : Oper} {f : FuncId} {cargs : List GV} {G : GV} (hr : Rt cx.pg f cargs G) (hi : ops[i]? = some o) (hk : callG cx.pg ops s.ρ o = some (f, cargs)) (hb : idbL 0 cargs = true)
    (h : dputV cx.N s.ρ o.dst G fun ρ' => nfE (qput ρq o.dst G) fun ρq => RA cx T ops k σs ρq fuel (listed.set i true) ⟨ρ', s.σ, s.n⟩) : Stp cx T ops k σs ρq fuel listed s i o := by
  obtain ⟨fo, args, ts, first, caps, gs, ho', hgd, hf, he, hargs⟩ := callG_spec hk
  refine ⟨hi, hgd, fun m0 H0 S0 w0 h0 g0 H a w K Q' hg hs ha _ hK => ?_⟩
  refine call_wp (cx := ⟨cx.pg, cx.N, m0, H0, S0, w0, h0, g0⟩) hr.ct hr.call id ho' hf he (by rw [renL_id]; exact hargs) (σc := []) trivial (by simp [hb, idbH, hids, distB]) (by simp) hg hs ha.env fun H'' u g σ' n' w' hle hiu hQ hsim => ?_
  obtain ⟨⟨rfl, hidb⟩, rfl, rfl⟩ := hQ
  have e1 : renH (sh id 0 s.n) [] ++ hrest (hids id []) s.σ = s.σ := by rw [show hids id [] = [] from rfl, hrest_nil]; rfl
  rw [ren_none _ hidb] at hiu
  rw [e1] at hsim
  rw [dputV_eq] at h
  simp only [nfE_eq] at h
  have hlt := dput_lt h
  obtain ⟨ρ', ha', hra⟩ := (ha.mono hle).dput hiu h
  exact hK H'' u _ w' ⟨ρ', _, _⟩ ρ' hle hiu (hsim ρ') ha' hlt hra
end
end Go.GK
/-
  Contracts: package head: what comes.
-/
namespace Go.Proofs.YtaahmenpcpjbhaaGreatDoor
open Go.GK Go.PL Go.RowKit
set_option maxRecDepth 100000
abbrev HD2 (mk : Int) (S : List Ser) : Heap := [(0, .blk 65 [gi mk, .o 2]), (2, .row 37 2 (S.map se))]
theorem fin_hd2 {f : FuncId} {args : List GV} {σ : Heap} {mk : Int} {S : List Ser} {G : GV} (hG : idb 0 G = true) (h : Hf pg f 2 args σ (fun g σ' _ => g = G ∧ ∃ id : Nat, (id = 1 ∨ id = 2 ∨ id = 3) ∧ hlook σ' 0 = some (.blk 65 [gi mk, .o id]) ∧ hlook σ' id = some (.row 37 2 (S.map se)))) :
    Hf pg f 2 args σ (fun g σ' n => g = G ∧ σ' = HD2 mk S ∧ n = 3) := by
  refine Hf.weak h ?_
  rintro g σ' n ⟨rfl, id, hid, h0, h1⟩
  have hg : ∀ r : Nat → Nat, g = ren r g := fun r => (ren_none r hG).symm
  rcases hid with rfl | rfl | rfl
  · refine ⟨r1 2 1, g, HD2 mk S, 3, ⟨rfl, rfl, rfl⟩, hg _, ⟨h0, h1, trivial⟩, ?_⟩
    rw [idb_up 3 hG]
    rfl
  · refine ⟨r1 2 2, g, HD2 mk S, 3, ⟨rfl, rfl, rfl⟩, hg _, ⟨h0, h1, trivial⟩, ?_⟩
    rw [idb_up 3 hG]
    rfl
  · refine ⟨r1 2 3, g, HD2 mk S, 3, ⟨rfl, rfl, rfl⟩, hg _, ⟨h0, h1, trivial⟩, ?_⟩
    rw [idb_up 3 hG]
    rfl
def apG (e : Int × Int) : GV := if e.1 = 0 then .v .nilIface else if e.2 < 0 then .ifc 38 (gi e.1) else .ifc 68 (.r [gi e.1, gi e.2])
theorem apG_idb (e : Int × Int) : idb 0 (apG e) = true := by
  unfold apG
  split
  · rfl
  · split <;> rfl
theorem happend_hf (mk : Int) (S l : List Ser) (hS : HOk S) (hl : l.length ≤ 100000) (hx : ∀ x ∈ l, Sh x.labels ∧ x.samples.length ≤ 100000 ∧ x.labels.length ≤ 100000) :
    Hf pg 5 2 [.p 0 0, ses l] (HD mk S) (fun g σ n => g = apG (headF mk S l).1 ∧ σ = HD2 mk (headF mk S l).2 ∧ n = 3) := by
  refine fin_hd2 (apG_idb _) (Hf.of pg_ok Tryz.func5 rfl Tryz.ntmps5 rfl Tryz.results5 Tryz.call5 fun H0 S0 w0 h0 g0 => ?_)
  have hll : (l.map se).length = l.length := by simp
  refine JK.loopE (α := Nat) (β := Unit) (fun i => ⟨[(0, .p 0 0), (1, ses l), (5, gi (tot (l.take i))), (14, ses l), (15, gi (l.map se).length), (16, gi i)], HD mk S, 2⟩) (fun i => i ≤ l.length ∧ tot (l.take i) ≤ 40) (fun i => l.length - i)
    (fun _ => ⟨[(0, .p 0 0), (1, ses l)], HD mk S, 2⟩) (fun _ => tot l ≤ 40) 0 id ?_ ⟨Nat.zero_le _, by simp [tot]⟩ ?_ ?_
  · exact ⟨⟨rfl, rfl, rfl, rfl, rfl, rfl, trivial⟩, ⟨rfl, rfl, trivial⟩, rfl⟩
  · rintro i ⟨hi, ht⟩
    refine V ?_
    by_cases hlt : i < l.length
    · have hst := tot_snoc l i hlt
      have hle := tot_take l (i + 1)
      have hxs := hx l[i] (List.getElem_mem hlt)
      have hsl : (l[i].samples.map sm).length = l[i].samples.length := by simp
      refine p1 ?_ (decide_eq_true (by omega))
      refine ix (h := ?_)
      by_cases h40 : 40 < tot (l.take (i + 1))
      · refine p1 ?_ (decide_eq_true (by rw [wrap_id (by split <;> omega) (by split <;> omega)]; split <;> omega))
        have e : headF mk S l = ((4, -1), S) := by unfold headF; rw [if_pos (by omega)]
        rw [e]
        exact ⟨rfl, 1, .inl rfl, rfl, rfl⟩
      · refine p2 ?_ (decide_eq_false (by rw [wrap_id (by split <;> omega) (by split <;> omega)]; split <;> omega))
        refine ⟨i + 1, id, ⟨⟨rfl, rfl, ?_, rfl, rfl, succ_gi (by omega), trivial⟩, ⟨rfl, rfl, trivial⟩, rfl⟩, ⟨hlt, by omega⟩, by show l.length - (i + 1) < l.length - i; omega⟩
        exact congrArg (fun i => some (gi i)) (by rw [wrap_id (by split <;> omega) (by split <;> omega)]; split <;> omega)
    · refine p2 ?_ (decide_eq_false (by omega))
      obtain rfl : i = l.length := by omega
      rw [List.take_length] at ht
      exact ⟨(), id, ⟨⟨rfl, rfl, trivial⟩, ⟨rfl, rfl, trivial⟩, rfl⟩, ht⟩
  · rintro _ ht
    refine V ?_
    refine GOH (cloneSe_hf (S.map se) (by have := hS.len; simp; omega)) (fun _ => 1) rfl rfl ⟨rfl, trivial⟩ rfl (fun _ _ => (by decide : 1 < 2)) ?_
    rintro _ _ _ ⟨rfl, rfl, rfl⟩
    have hH : headF mk S l = match tryH mk S l 0 with | none => ((0, -1), l.foldl addL S) | some (e, i) => ((e, (i : Int)), S) := by unfold headF; rw [if_neg (by omega)]; rfl
    refine JK.loop (α := Nat) (fun i => ⟨[(0, .p 0 0), (8, .o 2), (35, ses l), (36, gi (l.map se).length), (37, gi i)], [(0, .blk 65 [gi mk, .o 3]), (3, .row 37 2 (((l.take i).foldl addL S).map se)), (2, .row 37 2 (S.map se))], 4⟩)
      (fun i => i ≤ l.length ∧ HOk ((l.take i).foldl addL S) ∧ tryH mk S l 0 = tryH mk ((l.take i).foldl addL S) (l.drop i) i) (fun i => l.length - i) 0 (r1 3 1) ?_ ⟨Nat.zero_le _, hS, rfl⟩ ?_
    · exact ⟨⟨rfl, rfl, rfl, rfl, rfl, trivial⟩, ⟨rfl, rfl, rfl, trivial⟩, rfl⟩
    · rintro i ⟨hi, hA, hT⟩
      refine V ?_
      by_cases hlt : i < l.length
      · have hxs := hx l[i] (List.getElem_mem hlt)
        have hat := tryH_at hlt hT
        have hfo : (l.take (i + 1)).foldl addL S = addL ((l.take i).foldl addL S) l[i] := by rw [List.take_succ_eq_append_getElem hlt, List.foldl_append]; rfl
        generalize (l.take i).foldl addL S = A at hA hT hat hfo ⊢
        refine p1 ?_ (decide_eq_true (by omega))
        refine ix (h := ?_)
        have hlA := hA.len
        have hsl : (l[i].samples.map sm).length = l[i].samples.length := by simp
        have hr := hright_hf mk A l[i] hA hxs.1 (by omega)
        by_cases he : errH mk A l[i] = 0
        · rw [he] at hr
          refine GOH hr (rr 0 3) rfl rfl ⟨rfl, rfl, trivial⟩ rfl (rr_lt rfl rfl) ?_
          rintro _ _ _ ⟨rfl, rfl, rfl⟩
          refine p2 ?_ rfl
          cases ha : atL l[i].labels A with
          | none =>
            refine GOJ (at_hf mk A l[i].labels false hA.ris (by omega) (by rw [ha]; rfl)) (rr 0 3) rfl rfl ⟨rfl, rfl, trivial⟩ rfl (rr_lt rfl rfl) ?_
            rintro _ _ _ ⟨rfl, rfl, rfl⟩
            refine FZB 4 rfl rfl ?_
            have hcl := cloneLb_rt l[i].labels (by omega)
            have hpl := posL_le l[i].labels A
            have hins := insert_rt (A.map se) [lbs l[i].labels, .v (.slice none 0 0)] (posL l[i].labels A) (by simpa using hpl) (by simp; omega)
            refine JK.drawJ [0, 3] ⟨[(0, .p 0 0), (8, .o 2), (10, .r (se l[i])), (12, gi (posL l[i].labels A)), (35, ses l), (36, gi (l.map se).length), (37, gi i)], [(0, .blk 65 [gi mk, .o 3]), (3, .row 37 2 ((A.map se).take (posL l[i].labels A) ++ [[lbs l[i].labels, .v (.slice none 0 0)]] ++ (A.map se).drop (posL l[i].labels A))), (2, .row 37 2 (S.map se))], 4⟩ pg_ok ?_ (fun hk => ?_)
            · have hcc := concat_hf [none, some l[i].samples] (by simp) (by simp [ofl]; omega)
              have hfl : (ofl [none, some l[i].samples]).flatten = l[i].samples := by simp [ofl]
              rw [hfl] at hcc
              have hRl : ((A.map se).take (posL l[i].labels A) ++ [[lbs l[i].labels, .v (.slice none 0 0)]] ++ (A.map se).drop (posL l[i].labels A)).length = A.length + 1 := by simp; omega
              have hRi : ((A.map se).take (posL l[i].labels A) ++ [[lbs l[i].labels, .v (.slice none 0 0)]] ++ (A.map se).drop (posL l[i].labels A))[posL l[i].labels A]? = some [lbs l[i].labels, .v (.slice none 0 0)] := by
                rw [List.append_assoc, List.getElem?_append_right (by simp; omega)]
                simp [Nat.min_eq_left hpl]
              have hRs : ((A.map se).take (posL l[i].labels A) ++ [[lbs l[i].labels, .v (.slice none 0 0)]] ++ (A.map se).drop (posL l[i].labels A)).set (posL l[i].labels A) [lbs l[i].labels, sms l[i].samples] = (addL A l[i]).map se := by
                rw [addL_no ha, List.append_assoc, List.set_append_right _ _ (by simp; omega)]
                simp [Nat.min_eq_left hpl]
              generalize (A.map se).take (posL l[i].labels A) ++ [[lbs l[i].labels, .v (.slice none 0 0)]] ++ (A.map se).drop (posL l[i].labels A) = R at hRl hRi hRs ⊢
              refine DRAW [3] false (tk [0, 1, 2, 3, 4, 5, 6, 7, 8, 9, 10, 11, 13, 14] ++ al [12, 15]) (by kernel_rfl) ?_
              refine ⟨by omega, by omega, ?_⟩
              refine ⟨_, hRi, ?_⟩
              refine RGOH 16 true (tk [17, 18] ++ al [19]) hcc (r1 0 4) rfl rfl rfl ⟨rfl, trivial⟩ rfl (r1_lt rfl) (by kernel_rfl) ?_
              rintro _ _ _ ⟨rfl, rfl, rfl⟩
              refine ⟨by omega, by omega, ?_⟩
              refine ⟨_, hRi, ?_⟩
              refine V ?_
              refine ⟨i + 1, id, ⟨⟨rfl, rfl, rfl, rfl, succ_gi (by omega), trivial⟩, ⟨rfl, ?_, rfl, trivial⟩, rfl⟩, ⟨hlt, by rw [hfo]; exact errH_add hA he, hat.1 he⟩, by show l.length - (i + 1) < l.length - i; omega⟩
              rw [hfo, ← hRs]
              rfl
            · refine RA.run (cx := ⟨pg, _, _, _, _, _, _, _⟩) pg_ok (by kernel_rfl) (by intro _ _ h; exact h) (tk [0, 1, 2, 3, 5, 6, 7]) (e := false) (by kernel_rfl) ?_
              refine RA.both 4 8 (eqB_eq (by kernel_rfl)) (Stp.read 4 pg_ok rfl rfl ?_) (Stp.rt 8 hcl rfl rfl rfl ?_)
              · refine RGO 8 false (al [9, 10]) hcl rfl rfl (by kernel_rfl) ?_
                refine RGOH 11 false (tk [12, 13] ++ al [14]) hins (rr 3 5) rfl rfl rfl ⟨rfl, rfl, trivial⟩ rfl (rr_lt rfl rfl) (by kernel_rfl) ?_
                rintro _ _ _ ⟨rfl, rfl, rfl⟩
                refine RA.endJ (r1 3 6) (by kernel_rfl) hk ⟨⟨by rfl, by rfl, by rfl, by rfl, by rfl, by rfl, by rfl, trivial⟩, ⟨by rfl, by rfl, by rfl, trivial⟩, by rfl⟩
              · refine RA.both 4 9 (eqB_eq (by kernel_rfl)) (Stp.read 4 pg_ok rfl rfl ?_) (Stp.mem 9 pg_ok rfl rfl rfl ?_)
                · refine RA.run (cx := ⟨pg, _, _, _, _, _, _, _⟩) pg_ok (by kernel_rfl) (by intro _ _ h; exact h) (al [9, 10]) (e := false) (by kernel_rfl) ?_
                  refine RGOH 11 false (tk [12, 13] ++ al [14]) hins (rr 3 5) rfl rfl rfl ⟨rfl, rfl, trivial⟩ rfl (rr_lt rfl rfl) (by kernel_rfl) ?_
                  rintro _ _ _ ⟨rfl, rfl, rfl⟩
                  refine RA.endJ (r1 3 6) (by kernel_rfl) hk ⟨⟨by rfl, by rfl, by rfl, by rfl, by rfl, by rfl, by rfl, trivial⟩, ⟨by rfl, by rfl, by rfl, trivial⟩, by rfl⟩
                · refine RA.both 4 10 (eqB_eq (by kernel_rfl)) (Stp.read 4 pg_ok rfl rfl ?_) (Stp.mem 10 pg_ok rfl rfl rfl ?_)
                  · refine RA.run (cx := ⟨pg, _, _, _, _, _, _, _⟩) pg_ok (by kernel_rfl) (by intro _ _ h; exact h) (al [10]) (e := false) (by kernel_rfl) ?_
                    refine RGOH 11 false (tk [12, 13] ++ al [14]) hins (rr 3 5) rfl rfl rfl ⟨rfl, rfl, trivial⟩ rfl (rr_lt rfl rfl) (by kernel_rfl) ?_
                    rintro _ _ _ ⟨rfl, rfl, rfl⟩
                    refine RA.endJ (r1 3 6) (by kernel_rfl) hk ⟨⟨by rfl, by rfl, by rfl, by rfl, by rfl, by rfl, by rfl, trivial⟩, ⟨by rfl, by rfl, by rfl, trivial⟩, by rfl⟩
                  · refine RA.run (cx := ⟨pg, _, _, _, _, _, _, _⟩) pg_ok (by kernel_rfl) (by intro _ _ h; exact h) (al [4]) (e := false) (by kernel_rfl) ?_
                    refine RGOH 11 false (tk [12, 13] ++ al [14]) hins (rr 3 5) rfl rfl rfl ⟨rfl, rfl, trivial⟩ rfl (rr_lt rfl rfl) (by kernel_rfl) ?_
                    rintro _ _ _ ⟨rfl, rfl, rfl⟩
                    refine RA.endJ (r1 3 6) (by kernel_rfl) hk ⟨⟨by rfl, by rfl, by rfl, by rfl, by rfl, by rfl, by rfl, trivial⟩, ⟨by rfl, by rfl, by rfl, trivial⟩, by rfl⟩
          | some y =>
            refine GOJ (at_hf mk A l[i].labels true hA.ris (by omega) (by rw [ha]; rfl)) (rr 0 3) rfl rfl ⟨rfl, rfl, trivial⟩ rfl (rr_lt rfl rfl) ?_
            rintro _ _ _ ⟨rfl, rfl, rfl⟩
            refine FZB 4 rfl rfl ?_
            obtain ⟨hn, e1, e2⟩ := atL_some ha
            have hyl := (okS_iff _).1 (hA.each y (e1 ▸ List.getElem_mem hn)).2.1 |>.2
            have hcc := concat_hf [some y.samples, some l[i].samples] (by simp) (by simp [ofl]; omega)
            have hfl : (ofl [some y.samples, some l[i].samples]).flatten = y.samples ++ l[i].samples := by simp [ofl]
            rw [hfl] at hcc
            have hRl : (A.map se).length = A.length := by simp
            have hRi : (A.map se)[posL l[i].labels A]? = some (se y) := by simp [hn, e1]
            have hlb : y.labels = l[i].labels := (cmpF_is.eq0 _ _).1 e2
            have hRs : (A.map se).set (posL l[i].labels A) [lbs y.labels, sms (y.samples ++ l[i].samples)] = (addL A l[i]).map se := by
              rw [addL_yes ha, List.map_set, hlb]
            refine DRAW [3] false (tk [0, 1, 2, 3, 4, 5, 6, 7, 8, 9, 10, 11, 13, 14] ++ al [12, 15]) (by kernel_rfl) ?_
            refine ⟨by omega, by omega, ?_⟩
            refine ⟨_, hRi, ?_⟩
            refine RGOH 16 true (tk [17, 18] ++ al [19]) hcc (r1 0 5) rfl rfl rfl ⟨rfl, trivial⟩ rfl (r1_lt rfl) (by kernel_rfl) ?_
            rintro _ _ _ ⟨rfl, rfl, rfl⟩
            refine ⟨by omega, by omega, ?_⟩
            refine ⟨_, hRi, ?_⟩
            refine V ?_
            refine ⟨i + 1, id, ⟨⟨rfl, rfl, rfl, rfl, succ_gi (by omega), trivial⟩, ⟨rfl, ?_, rfl, trivial⟩, rfl⟩, ⟨hlt, by rw [hfo]; exact errH_add hA he, hat.1 he⟩, by show l.length - (i + 1) < l.length - i; omega⟩
            rw [hfo, ← hRs]
            rfl
        · refine GOJ hr (rr 0 3) rfl rfl ⟨rfl, rfl, trivial⟩ rfl (rr_lt rfl rfl) ?_
          rintro _ _ _ ⟨rfl, rfl, rfl⟩
          rw [hat.2 he] at hH
          have hrg := errH_rng mk A l[i]
          rw [hH]
          refine VM 22 ?_
          refine p1 ?_ (bne_iff_ne.2 he)
          refine FZB 5 rfl rfl ?_
          refine ⟨?_, 2, .inr (.inl rfl), rfl, rfl⟩
          unfold apG
          rw [if_neg he, if_neg (by dsimp only; omega)]
          rfl
      · refine p2 ?_ (decide_eq_false (by omega))
        obtain rfl : i = l.length := by omega
        rw [tryH_end hT] at hH
        rw [hH, List.take_length]
        refine V ?_
        exact ⟨rfl, 3, .inr (.inr rfl), rfl, rfl⟩
end Go.Proofs.YtaahmenpcpjbhaaGreatDoor
/-
  Contracts: package head: what is cut off, and what stays; its series.
-/
namespace Go.Proofs.YtaahmenpcpjbhaaGreatDoor
open Go.GK Go.PL Go.RowKit
set_option maxRecDepth 100000
theorem kstep {α : Type} (p : α → Bool) (l : List α) (j : Nat) (h : j < l.length) : (l.take (j + 1)).filter p = (l.take j).filter p ++ if p l[j] = true then [l[j]] else [] := by
  rw [List.take_succ_eq_append_getElem h, List.filter_append, List.filter_cons]
  rfl
theorem keep_hf (mk : Int) (S : List Ser) (f : FuncId) (caps : List GV) (hcaps : idbL 0 caps = true) (h : Hit) (hf : ∀ x ∈ S, ∀ s : Sm, Rt pg f (lbs x.labels :: .agg (sm s) :: caps) (.b (h x.labels s.time))) (hl : S.length ≤ 1000000) (hs : ∀ x ∈ S, x.samples.length ≤ 1000000) :
    Hf pg 37 2 [.p 0 0, .fn (.func f) [] caps] (HD mk S) (fun g σ n => g = ses (withoutF (notH h) S) ∧ σ = HD2 mk (withoutF h S) ∧ n = 3) := by
  have hr : ∀ r : Nat → Nat, renL r caps = caps := fun r => renL_none r caps hcaps
  have hfr : ∀ id sz rows, frzL id sz rows caps = caps := fun id sz rows => frzL_none id sz rows caps hcaps
  have hcapU := fun n => idbL_up n caps hcaps
  have hll : (S.map se).length = S.length := by simp
  refine fin_hd2 rfl (Hf.of pg_ok Tryz.func37 rfl Tryz.ntmps37 rfl Tryz.results37 Tryz.call37 fun H0 S0 w0 h0 g0 => ?_)
  refine JK.ownNil 5 37 2 rfl ?_
  refine JK.ownNil 6 37 2 rfl ?_
  refine JK.loopE (α := Nat) (β := Unit) (fun i => ⟨[(0, .p 0 0), (1, .fn (.func f) [] caps), (5, .o 2), (6, .o 3), (16, .o 1), (17, gi (S.map se).length), (18, gi i)], [(0, .blk 65 [gi mk, .o 1]), (1, .row 37 2 (S.map se)), (2, .row 37 2 ((withoutF h (S.take i)).map se)), (3, .row 37 2 ((withoutF (notH h) (S.take i)).map se))], 4⟩) (fun i => i ≤ S.length) (fun i => S.length - i)
    (fun _ => ⟨[(0, .p 0 0), (5, .o 2), (6, .o 3)], [(0, .blk 65 [gi mk, .o 1]), (1, .row 37 2 (S.map se)), (2, .row 37 2 ((withoutF h S).map se)), (3, .row 37 2 ((withoutF (notH h) S).map se))], 4⟩) (fun _ => True) 0 id ?_ (Nat.zero_le _) ?_ ?_
  · exact ⟨⟨rfl, by simp only [ren, renL, hr]; rfl, rfl, rfl, rfl, rfl, rfl, trivial⟩, ⟨rfl, rfl, rfl, rfl, trivial⟩, by simp [idbE, idb, idbL, hcapU, idbH, idbR, hids, distB, fixB, memB]; try decide⟩
  · rintro i hi
    replace hi : i ≤ S.length := hi
    refine V ?_
    by_cases hlt : i < S.length
    · have hx := hs S[i] (List.getElem_mem hlt)
      have hfi := hf S[i] (List.getElem_mem hlt)
      refine p1 ?_ (decide_eq_true (by omega))
      refine ⟨by omega, by omega, ?_⟩
      refine ⟨se S[i], by simp [hlt], ?_⟩
      refine JK.ownNil 9 34 2 rfl ?_
      refine JK.ownNil 10 34 2 rfl ?_
      have hsl : (S[i].samples.map sm).length = S[i].samples.length := by simp
      refine JK.loopE (α := Nat) (β := Unit) (fun j => ⟨[(0, .p 0 0), (1, .fn (.func f) [] caps), (5, .o 2), (6, .o 3), (8, .p 4 0), (9, .o 5), (10, .o 6), (16, .o 1), (17, gi (S.map se).length), (18, gi i), (23, sms S[i].samples), (24, gi (S[i].samples.map sm).length), (25, gi j)],
          [(0, .blk 65 [gi mk, .o 1]), (1, .row 37 2 (S.map se)), (2, .row 37 2 ((withoutF h (S.take i)).map se)), (3, .row 37 2 ((withoutF (notH h) (S.take i)).map se)), (4, .blk 37 (se S[i])), (5, .row 34 2 (((S[i].samples.take j).filter fun s => !h S[i].labels s.time).map sm)), (6, .row 34 2 (((S[i].samples.take j).filter fun s => h S[i].labels s.time).map sm))], 7⟩) (fun j => j ≤ S[i].samples.length) (fun j => S[i].samples.length - j)
        (fun _ => ⟨[(0, .p 0 0), (1, .fn (.func f) [] caps), (5, .o 2), (6, .o 3), (8, .p 4 0), (9, .o 5), (10, .o 6), (16, .o 1), (17, gi (S.map se).length), (18, gi i)],
          [(0, .blk 65 [gi mk, .o 1]), (1, .row 37 2 (S.map se)), (2, .row 37 2 ((withoutF h (S.take i)).map se)), (3, .row 37 2 ((withoutF (notH h) (S.take i)).map se)), (4, .blk 37 (se S[i])), (5, .row 34 2 ((S[i].samples.filter fun s => !h S[i].labels s.time).map sm)), (6, .row 34 2 ((S[i].samples.filter fun s => h S[i].labels s.time).map sm))], 7⟩) (fun _ => True) 0 id ?_ (Nat.zero_le _) ?_ ?_
      · exact ⟨⟨rfl, by simp only [ren, renL, hr]; rfl, rfl, rfl, rfl, rfl, rfl, rfl, rfl, rfl, rfl, rfl, rfl, trivial⟩, ⟨rfl, rfl, rfl, rfl, rfl, rfl, rfl, trivial⟩, by simp [idbE, idb, idbL, hcapU, idbH, idbR, hids, distB, fixB, memB]; try decide⟩
      · rintro j hj
        replace hj : j ≤ S[i].samples.length := hj
        refine V ?_
        by_cases hjl : j < S[i].samples.length
        · have hy := kstep (fun s : Sm => h S[i].labels s.time) S[i].samples j hjl
          have hn := kstep (fun s : Sm => !h S[i].labels s.time) S[i].samples j hjl
          have ly : ((S[i].samples.take j).filter fun s => h S[i].labels s.time).length ≤ j := Nat.le_trans (List.length_filter_le _ _) (by simp; omega)
          have ln : ((S[i].samples.take j).filter fun s => !h S[i].labels s.time).length ≤ j := Nat.le_trans (List.length_filter_le _ _) (by simp; omega)
          refine p1 ?_ (decide_eq_true (by omega))
          refine ix (h := ?_)
          have hc := hfi S[i].samples[j]
          rcases tf (h S[i].labels S[i].samples[j].time) with hb | hb
          · refine GO (hc.bt hb) rfl ?_ (by simp [idbL, idb, hcaps])
            refine ⟨by simp only [List.length_map, List.length_cons, List.length_nil]; omega, ?_⟩
            refine ⟨j + 1, fun k => bif Nat.beq k 6 then 9 else k, ⟨⟨rfl, by simp only [ren, renL, hr]; rfl, rfl, rfl, rfl, rfl, rfl, rfl, rfl, rfl, rfl, rfl, succ_gi (by omega), trivial⟩, ⟨rfl, rfl, rfl, rfl, rfl, ?_, ?_, trivial⟩, by simp [idbE, idb, idbL, hcapU, idbH, idbR, hids, distB, fixB, memB]; try decide⟩, hjl, by show S[i].samples.length - (j + 1) < S[i].samples.length - j; omega⟩
            · rw [hn, if_neg (by rw [hb]; decide), List.append_nil]; rfl
            · rw [hy, if_pos hb, List.map_append]; rfl
          · refine GO (hc.bt hb) rfl ?_ (by simp [idbL, idb, hcaps])
            refine ⟨by simp only [List.length_map, List.length_cons, List.length_nil]; omega, ?_⟩
            refine ⟨j + 1, fun k => bif Nat.beq k 5 then 9 else k, ⟨⟨rfl, by simp only [ren, renL, hr]; rfl, rfl, rfl, rfl, rfl, rfl, rfl, rfl, rfl, rfl, rfl, succ_gi (by omega), trivial⟩, ⟨rfl, rfl, rfl, rfl, rfl, ?_, ?_, trivial⟩, by simp [idbE, idb, idbL, hcapU, idbH, idbR, hids, distB, fixB, memB]; try decide⟩, hjl, by show S[i].samples.length - (j + 1) < S[i].samples.length - j; omega⟩
            · rw [hn, if_pos (by rw [hb]; rfl), List.map_append]; rfl
            · rw [hy, if_neg (by rw [hb]; decide), List.append_nil]; rfl
        · refine p2 ?_ (decide_eq_false (by omega))
          obtain rfl : j = S[i].samples.length := by omega
          rw [List.take_length]
          exact ⟨(), id, ⟨⟨rfl, by simp only [ren, renL, hr]; rfl, rfl, rfl, rfl, rfl, rfl, rfl, rfl, rfl, trivial⟩, ⟨rfl, rfl, rfl, rfl, rfl, rfl, rfl, trivial⟩, by simp [idbE, idb, idbL, hcapU, idbH, idbR, hids, distB, fixB, memB]; try decide⟩, trivial⟩
      · rintro _ _
        refine JK.freeze 5 rfl ?_
        refine FRZ 6 rfl ?_
        have hstY := wo_step (notH h) S i hlt
        have hstN := wo_step h S i hlt
        have lY : (withoutF (notH h) (S.take i)).length ≤ S.length := Nat.le_trans (withoutF_len _ _) (by simp; omega)
        have lN : (withoutF h (S.take i)).length ≤ S.length := Nat.le_trans (withoutF_len _ _) (by simp; omega)
        have hyes : leftS (notH h) S[i] = S[i].samples.filter fun s => h S[i].labels s.time := by
          unfold leftS notH
          simp only [Bool.not_not]
        cases hn : S[i].samples.filter fun s => !h S[i].labels s.time with
        | nil =>
          refine p2 ?_ (decide_eq_false (by simp))
          cases hy : S[i].samples.filter fun s => h S[i].labels s.time with
          | nil =>
            refine p2 ?_ (decide_eq_false (by simp))
            refine ⟨i + 1, id, ⟨⟨rfl, by simp only [ren, renL, hr]; exact congrArg (fun c => some (GV.fn (.func f) [] c)) ((congrArg (frzL _ _ _) (hfr _ _ _)).trans (hfr _ _ _)), rfl, rfl, rfl, rfl, succ_gi (by omega), trivial⟩, ⟨rfl, rfl, ?_, ?_, trivial⟩, by simp [idbE, idb, idbL, hcapU, idbH, idbR, hids, distB, fixB, memB]; try decide⟩, hlt, by show S.length - (i + 1) < S.length - i; omega⟩
            · rw [hstN, withoutF_no _ hn, show withoutF h [] = [] from rfl, List.append_nil]; rfl
            · rw [hstY, withoutF_no _ (hyes.trans hy), show withoutF (notH h) [] = [] from rfl, List.append_nil]; rfl
          | cons y r =>
            refine p1 ?_ (decide_eq_true (by rw [List.length_map, List.length_cons]; omega))
            refine ⟨by simp only [List.length_map, List.length_cons, List.length_nil]; omega, ?_⟩
            refine ⟨i + 1, (fun k => bif Nat.beq k 3 then 8 else k), ⟨⟨rfl, by simp only [ren, renL, hr]; exact congrArg (fun c => some (GV.fn (.func f) [] c)) ((congrArg (frzL _ _ _) (hfr _ _ _)).trans (hfr _ _ _)), rfl, rfl, rfl, rfl, succ_gi (by omega), trivial⟩, ⟨rfl, rfl, ?_, ?_, trivial⟩, by simp [idbE, idb, idbL, hcapU, idbH, idbR, hids, distB, fixB, memB]; try decide⟩, hlt, by show S.length - (i + 1) < S.length - i; omega⟩
            · rw [hstN, withoutF_no _ hn, show withoutF h [] = [] from rfl, List.append_nil]; rfl
            · rw [hstY, withoutF_yes _ (hyes.trans hy), List.map_append]; rfl
        | cons z q =>
          refine p1 ?_ (decide_eq_true (by rw [List.length_map, List.length_cons]; omega))
          refine ⟨by simp only [List.length_map, List.length_cons, List.length_nil]; omega, ?_⟩
          cases hy : S[i].samples.filter fun s => h S[i].labels s.time with
          | nil =>
            refine p2 ?_ (decide_eq_false (by simp))
            refine ⟨i + 1, (fun k => bif Nat.beq k 2 then 8 else k), ⟨⟨rfl, by simp only [ren, renL, hr]; exact congrArg (fun c => some (GV.fn (.func f) [] c)) ((congrArg (frzL _ _ _) (hfr _ _ _)).trans (hfr _ _ _)), rfl, rfl, rfl, rfl, succ_gi (by omega), trivial⟩, ⟨rfl, rfl, ?_, ?_, trivial⟩, by simp [idbE, idb, idbL, hcapU, idbH, idbR, hids, distB, fixB, memB]; try decide⟩, hlt, by show S.length - (i + 1) < S.length - i; omega⟩
            · rw [hstN, withoutF_yes _ hn, List.map_append]; rfl
            · rw [hstY, withoutF_no _ (hyes.trans hy), show withoutF (notH h) [] = [] from rfl, List.append_nil]; rfl
          | cons y r =>
            refine p1 ?_ (decide_eq_true (by rw [List.length_map, List.length_cons]; omega))
            refine ⟨by simp only [List.length_map, List.length_cons, List.length_nil]; omega, ?_⟩
            refine ⟨i + 1, (fun k => bif Nat.beq k 2 then 8 else bif Nat.beq k 3 then 10 else k), ⟨⟨rfl, by simp only [ren, renL, hr]; exact congrArg (fun c => some (GV.fn (.func f) [] c)) ((congrArg (frzL _ _ _) (hfr _ _ _)).trans (hfr _ _ _)), rfl, rfl, rfl, rfl, succ_gi (by omega), trivial⟩, ⟨rfl, rfl, ?_, ?_, trivial⟩, by simp [idbE, idb, idbL, hcapU, idbH, idbR, hids, distB, fixB, memB]; try decide⟩, hlt, by show S.length - (i + 1) < S.length - i; omega⟩
            · rw [hstN, withoutF_yes _ hn, List.map_append]; rfl
            · rw [hstY, withoutF_yes _ (hyes.trans hy), List.map_append]; rfl
    · refine p2 ?_ (decide_eq_false (by omega))
      obtain rfl : i = S.length := by omega
      rw [List.take_length]
      exact ⟨(), id, ⟨⟨rfl, rfl, rfl, trivial⟩, ⟨rfl, rfl, rfl, rfl, trivial⟩, rfl⟩, trivial⟩
  · rintro _ _
    refine FRZ 3 rfl ?_
    exact ⟨rfl, 2, .inr (.inl rfl), rfl, rfl⟩
end Go.Proofs.YtaahmenpcpjbhaaGreatDoor
/-
  Contracts: package head: a new one, its mark, its series, what is cut off.
-/
namespace Go.Proofs.YtaahmenpcpjbhaaGreatDoor
open Go.GK Go.PL Go.RowKit
set_option maxRecDepth 100000
theorem hnew_hf (mk : Int) : Hf pg 4 0 [gi mk] [] (fun g σ n => g = .p 0 0 ∧ σ = HD mk [] ∧ n = 2) := by
  refine Hf.weak (Q := fun g σ _ => g = .p 0 0 ∧ hlook σ 0 = some (.blk 65 [gi mk, .o 1]) ∧ hlook σ 1 = some (.row 37 2 [])) (Hf.ofJ pg_ok Tryz.func4 rfl Tryz.ntmps4 rfl Tryz.results4 Tryz.call4 fun H0 S0 w0 h0 g0 => ?_) ?_
  · refine VM 9 ?_
    refine JK.ownNilB 0 1 37 2 rfl rfl ?_
    refine V ?_
    exact ⟨rfl, rfl, rfl⟩
  · rintro g σ n ⟨rfl, h0, h1⟩
    exact ⟨id, .p 0 0, HD mk [], 2, ⟨rfl, rfl, rfl⟩, rfl, ⟨h0, h1, trivial⟩, rfl⟩
theorem hmark_hf (mk : Int) (S : List Ser) : Hf pg 17 2 [.p 0 0] (HD mk S) (fun g σ n => g = gi mk ∧ σ = HD mk S ∧ n = 2) := by
  refine fin_hd rfl (Hf.of pg_ok Tryz.func17 rfl Tryz.ntmps17 rfl Tryz.results17 Tryz.call17 fun H0 S0 w0 h0 g0 => ?_)
  exact ⟨rfl, rfl, rfl⟩
theorem cut1_rt (t : Int) (ls : List Lb) (s : Sm) : Rt pg 38 [lbs ls, .agg (sm s), .r [gi t]] (.b (cutH t ls s.time)) := by
  refine Rt.of pg_ok Tryz.func38 rfl Tryz.ntmps38 rfl Tryz.results38 Tryz.call38 fun H0 S0 w0 h0 g0 => ?_
  exact ⟨rfl, rfl⟩
theorem if_max (a b : Int) : (if a < b then b else a) = max a b := by
  rw [Int.max_def]
  split <;> split <;> omega
theorem hcut_hf (mk t : Int) (S : List Ser) (hl : S.length ≤ 1000000) (hs : ∀ x ∈ S, x.samples.length ≤ 1000000) :
    Hf pg 14 2 [.p 0 0, gi t] (HD mk S) (fun g σ n => g = ses (withoutF (notH (cutH t)) S) ∧ σ = HD2 (max mk t) (withoutF (cutH t) S) ∧ n = 3) := by
  refine fin_hd2 rfl (Hf.of pg_ok Tryz.func14 rfl Tryz.ntmps14 rfl Tryz.results14 Tryz.call14 fun H0 S0 w0 h0 g0 => ?_)
  refine FZB 2 rfl rfl ?_
  refine DRAW [0] true (tk [0, 1, 2, 3, 5] ++ al [4] ++ tk [6, 7, 8] ++ al [9]) (by kernel_rfl) ?_
  refine V ?_
  have hk := keep_hf (if mk < t then t else mk) S 38 [.r [gi t]] rfl (cutH t) (fun x _ s => cut1_rt t x.labels s) hl hs
  refine GOH hk id rfl rfl ⟨rfl, rfl, trivial⟩ rfl (id_lt rfl) ?_
  rintro _ _ _ ⟨rfl, rfl, rfl⟩
  refine ⟨rfl, 3, .inr (.inr rfl), ?_, rfl⟩
  rw [← if_max]
  rfl
theorem hseries_hf (mk : Int) (S : List Ser) (hl : S.length ≤ 1000000) (hs : ∀ x ∈ S, x.samples.length ≤ 1000000 ∧ x.labels.length ≤ 1000000) :
    Hf pg 18 2 [.p 0 0] (HD mk S) (fun g σ n => g = ses S ∧ σ = HD mk S ∧ n = 2) := by
  refine fin_hd rfl (Hf.of pg_ok Tryz.func18 rfl Tryz.ntmps18 rfl Tryz.results18 Tryz.call18 fun H0 S0 w0 h0 g0 => ?_)
  have hll : (S.map se).length = S.length := by simp
  refine JK.ownNil 3 37 2 rfl ?_
  refine JK.loopE (α := Nat) (β := Unit) (fun i => ⟨[(3, .o 2), (9, .o 1), (10, gi (S.map se).length), (11, gi i)], [(0, .blk 65 [gi mk, .o 1]), (1, .row 37 2 (S.map se)), (2, .row 37 2 ((S.take i).map se))], 3⟩) (fun i => i ≤ S.length) (fun i => S.length - i)
    (fun _ => ⟨[(3, .o 2)], [(0, .blk 65 [gi mk, .o 1]), (1, .row 37 2 (S.map se)), (2, .row 37 2 (S.map se))], 3⟩) (fun _ => True) 0 id ?_ (Nat.zero_le _) ?_ ?_
  · exact ⟨⟨rfl, rfl, rfl, rfl, trivial⟩, ⟨rfl, rfl, rfl, trivial⟩, rfl⟩
  · rintro i hi
    replace hi : i ≤ S.length := hi
    refine V ?_
    by_cases hlt : i < S.length
    · have hx := hs S[i] (List.getElem_mem hlt)
      refine p1 ?_ (decide_eq_true (by omega))
      refine ⟨by omega, by omega, ?_⟩
      refine ⟨se S[i], by simp [hlt], ?_⟩
      refine FZB 3 rfl rfl ?_
      refine DRAW [2] false (tk [0, 1, 2, 4, 5]) (by kernel_rfl) ?_
      refine RGO 3 false (tk []) (cloneLb_rt S[i].labels hx.2) rfl rfl (by kernel_rfl) ?_
      refine RGO 6 true (al [7, 8, 9] ++ tk [10]) (cloneSm_rt S[i].samples hx.1) rfl rfl (by kernel_rfl) ?_
      refine ⟨by simp only [List.length_map, List.length_cons, List.length_nil, List.length_take]; omega, ?_⟩
      refine V ?_
      refine ⟨i + 1, r1 2 5, ⟨⟨rfl, rfl, rfl, succ_gi (by omega), trivial⟩, ⟨rfl, rfl, ?_, trivial⟩, rfl⟩, hlt, by show S.length - (i + 1) < S.length - i; omega⟩
      refine congrArg (fun r => some (Res.row 37 2 r)) ?_
      rw [List.take_succ_eq_append_getElem hlt, List.map_append]
      rfl
    · refine p2 ?_ (decide_eq_false (by omega))
      obtain rfl : i = S.length := by omega
      rw [List.take_length]
      exact ⟨(), id, ⟨⟨rfl, trivial⟩, ⟨rfl, rfl, rfl, trivial⟩, rfl⟩, trivial⟩
  · rintro _ _
    refine FRZ 2 rfl ?_
    exact ⟨rfl, rfl, rfl⟩
end Go.Proofs.YtaahmenpcpjbhaaGreatDoor
/-
  Contracts: package head: what is taken out.
-/
namespace Go.Proofs.YtaahmenpcpjbhaaGreatDoor
open Go.GK Go.PL Go.RowKit
set_option maxRecDepth 100000
theorem gone1_rt (g : Gn) (ls : List Lb) (s : Sm) (hm : g.mt.length < 4611686018427387904) : Rt pg 41 [lbs ls, .agg (sm s), .r (gn g)] (.b (gHit g ls s.time)) := by
  refine Rt.of pg_ok Tryz.func41 rfl Tryz.ntmps41 rfl Tryz.results41 Tryz.call41 fun H0 S0 w0 h0 g0 => ?_
  unfold gHit
  by_cases h1 : g.lo ≤ s.time
  · refine p1 ?_ (decide_eq_true h1)
    rw [decide_eq_true h1, Bool.true_and]
    by_cases h2 : s.time ≤ g.hi
    · refine p1 ?_ (decide_eq_true h2)
      rw [decide_eq_true h2, Bool.true_and]
      refine GO (lall_rt ls g.mt hm) rfl ?_
      exact ⟨rfl, rfl⟩
    · refine p2 ?_ (decide_eq_false h2)
      rw [decide_eq_false h2, Bool.false_and]
      exact ⟨rfl, rfl⟩
  · refine p2 ?_ (decide_eq_false h1)
    rw [decide_eq_false h1, Bool.false_and]
    repeat (first | refine p1 ?_ | refine p2 ?_ | refine p3 ?_ | refine p4 ?_)
    exact ⟨rfl, rfl⟩
theorem hgone_hf (mk : Int) (S : List Ser) (g : Gn) (hl : S.length ≤ 1000000) (hs : ∀ x ∈ S, x.samples.length ≤ 1000000) (hm : g.mt.length < 4611686018427387904) :
    Hf pg 16 2 [.p 0 0, .agg (gn g)] (HD mk S) (fun G σ n => G = .tup [] ∧ σ = HD2 mk (withoutF (gHit g) S) ∧ n = 3) := by
  refine fin_hd2 rfl (Hf.of pg_ok Tryz.func16 rfl Tryz.ntmps16 rfl Tryz.results16 Tryz.call16 fun H0 S0 w0 h0 g0 => ?_)
  refine FZB 2 rfl rfl ?_
  have hk := keep_hf mk S 41 [.r (gn g)] rfl (gHit g) (fun x _ s => gone1_rt g x.labels s hm) hl hs
  refine GOH hk id rfl rfl ⟨rfl, rfl, trivial⟩ rfl (id_lt rfl) ?_
  rintro _ _ _ ⟨rfl, rfl, rfl⟩
  exact ⟨rfl, 3, .inr (.inr rfl), rfl, rfl⟩
end Go.Proofs.YtaahmenpcpjbhaaGreatDoor
/-
  Plain laws: insertion, and the merge of two sorted pieces in their place, as package sort does them; no program is in sight.
-/
namespace Go.PL
open Go
section
variable {α : Type}
/-- An order, in which some may be the same. -/
structure WO (lt : α → α → Bool) : Prop where
  asym : ∀ x y, lt x y = true → lt y x = false
  ntrans : ∀ x y z, lt y x = false → lt z y = false → lt z x = false
def Srt (lt : α → α → Bool) (l : List α) : Prop := l.Pairwise fun x y => lt y x = false
variable {lt : α → α → Bool}
theorem Srt.app {P Q : List α} : Srt lt (P ++ Q) ↔ Srt lt P ∧ Srt lt Q ∧ ∀ x ∈ P, ∀ y ∈ Q, lt y x = false := List.pairwise_append
/-- All of a sorted piece are up to its last one. -/
theorem Srt.last (hO : WO lt) {P : List α} (h : Srt lt P) {z : α} (hz : P.getLast? = some z) : ∀ x ∈ P, lt z x = false := by
  obtain ⟨Q, rfl⟩ := List.getLast?_eq_some_iff.1 hz
  intro x hx
  rcases List.mem_append.1 hx with h1 | h1
  · exact (Srt.app.1 h).2.2 x h1 z (by simp)
  · rw [List.mem_singleton.1 h1]
    cases hb : lt z z with
    | false => rfl
    | true => have := hO.asym z z hb; rw [hb] at this; cases this
theorem Srt.first (hO : WO lt) {P : List α} (h : Srt lt P) {z : α} (hz : P.head? = some z) : ∀ x ∈ P, lt x z = false := by
  obtain ⟨Q, rfl⟩ := List.head?_eq_some_iff.1 hz
  intro x hx
  rcases List.mem_cons.1 hx with rfl | h1
  · cases hb : lt x x with
    | false => rfl
    | true => have := hO.asym x x hb; rw [hb] at this; cases this
  · exact (List.pairwise_cons.1 h).1 x h1
/-- Two sorted pieces, of which the last of the one is up to the first of the other. -/
theorem Srt.le_all (hO : WO lt) {P Q : List α} (hP : Srt lt P) (hQ : Srt lt Q) (h : ∀ x ∈ P.getLast?, ∀ y ∈ Q.head?, lt y x = false) : ∀ x ∈ P, ∀ y ∈ Q, lt y x = false := by
  intro x hx y hy
  cases hp : P.getLast? with
  | none => rw [List.getLast?_eq_none_iff.1 hp] at hx; cases hx
  | some u =>
    cases hq : Q.head? with
    | none => rw [List.head?_eq_none_iff.1 hq] at hy; cases hy
    | some v =>
      have h1 := hP.last hO hp x hx
      have h2 := hQ.first hO hq y hy
      have h3 := h u (by rw [hp]; rfl) v (by rw [hq]; rfl)
      exact hO.ntrans x v y (hO.ntrans x u v h1 h3) h2
/-- One put into a sorted list. -/
theorem Srt.ins (hO : WO lt) {P Q : List α} {x : α} (h : Srt lt (P ++ Q)) (hP : ∀ z ∈ P.getLast?, lt x z = false) (hQ : ∀ z ∈ Q.head?, lt z x = false) : Srt lt (P ++ x :: Q) := by
  obtain ⟨h1, h2, h3⟩ := Srt.app.1 h
  have hp : ∀ z ∈ P, lt x z = false := by
    intro z hz
    have := h1.le_all hO (Q := [x]) (List.pairwise_singleton _ _) (fun u hu v hv => by
      simp at hv; subst hv; exact hP u hu) z hz x (by simp)
    exact this
  have hq : ∀ z ∈ Q, lt z x = false := by
    intro z hz
    exact Srt.le_all hO (P := [x]) (List.pairwise_singleton _ _) h2 (fun u hu v hv => by
      simp at hu; subst hu; exact hQ v hv) x (by simp) z hz
  refine Srt.app.2 ⟨h1, List.pairwise_cons.2 ⟨hq, h2⟩, fun u hu v hv => ?_⟩
  rcases List.mem_cons.1 hv with rfl | hv
  · exact hp u hu
  · exact h3 u hu v hv
theorem ins_perm (P Q : List α) (x : α) : (P ++ x :: Q).Perm (x :: (P ++ Q)) := List.perm_middle
/-- Two sorted pieces cut in two, the beginnings and the ends put together. -/
theorem Srt.cross (hO : WO lt) {X1 X2 Y1 Y2 Z1 Z2 : List α} (hX : Srt lt (X1 ++ X2)) (hY : Srt lt (Y1 ++ Y2)) (h1 : ∀ x ∈ X1.getLast?, ∀ y ∈ Y2.head?, lt y x = false) (h2 : ∀ y ∈ Y1.getLast?, ∀ x ∈ X2.head?, lt x y = false)
    (p1 : Z1.Perm (X1 ++ Y1)) (p2 : Z2.Perm (X2 ++ Y2)) (s1 : Srt lt Z1) (s2 : Srt lt Z2) : Srt lt (Z1 ++ Z2) := by
  obtain ⟨a1, a2, a3⟩ := Srt.app.1 hX
  obtain ⟨b1, b2, b3⟩ := Srt.app.1 hY
  have c1 := a1.le_all hO b2 h1
  have c2 := b1.le_all hO a2 h2
  refine Srt.app.2 ⟨s1, s2, fun u hu v hv => ?_⟩
  have hu' := p1.mem_iff.1 hu
  have hv' := p2.mem_iff.1 hv
  rcases List.mem_append.1 hu' with h | h <;> rcases List.mem_append.1 hv' with k | k
  · exact a3 u h v k
  · exact c1 u h v k
  · exact c2 u h v k
  · exact b3 u h v k
theorem cross_perm {X1 X2 Y1 Y2 Z1 Z2 : List α} (p1 : Z1.Perm (X1 ++ Y1)) (p2 : Z2.Perm (X2 ++ Y2)) : (Z1 ++ Z2).Perm (X1 ++ X2 ++ (Y1 ++ Y2)) := by
  refine (p1.append p2).trans ?_
  rw [List.append_assoc, List.append_assoc]
  refine List.Perm.append_left X1 ?_
  rw [← List.append_assoc, ← List.append_assoc]
  exact List.Perm.append_right Y2 List.perm_append_comm
/-- Two elements change places. -/
theorem swap_at (A M B : List α) (x y : α) {i j : Nat} (hi : i = A.length) (hj : j = A.length + 1 + M.length) : ((A ++ x :: (M ++ y :: B)).set i y).set j x = A ++ y :: (M ++ x :: B) := by
  subst hi
  subst hj
  rw [List.set_append_right _ _ (Nat.le_refl _), Nat.sub_self, List.set_cons_zero, List.set_append_right _ _ (by omega), show A.length + 1 + M.length - A.length = M.length + 1 by omega, List.set_cons_succ, List.set_append_right _ _ (Nat.le_refl _), Nat.sub_self, List.set_cons_zero]
theorem swap_at' (A M B : List α) (x y : α) {i j : Nat} (hi : i = A.length) (hj : j = A.length + 1 + M.length) : ((A ++ x :: (M ++ y :: B)).set j x).set i y = A ++ y :: (M ++ x :: B) := by
  rw [List.set_comm _ _ (by omega)]
  exact swap_at A M B x y hi hj
theorem stab_at (A B : List α) (x : α) {i : Nat} (hi : i = A.length) : (A ++ x :: B)[i]? = some x := by
  subst hi
  rw [List.getElem?_append_right (Nat.le_refl _), Nat.sub_self]
  rfl
theorem stab_at2 (A M B : List α) (x y : α) {j : Nat} (hj : j = A.length + 1 + M.length) : (A ++ x :: (M ++ y :: B))[j]? = some y := by
  subst hj
  rw [List.getElem?_append_right (by omega), show A.length + 1 + M.length - A.length = M.length + 1 by omega, List.getElem?_cons_succ, List.getElem?_append_right (Nat.le_refl _), Nat.sub_self]
  rfl
end
end Go.PL
