/-
  Contracts (printed by gen/gen_find.py): slices.IndexFunc, slices.ContainsFunc, slices.Clone.
-/
import Derived.Test.YtaaoljhfepmkjaaDoorCLab3
import Derived.Test.YtaaoljhfepmkjaaDoorCSe
import Derived.Test.YtaaoljhfepmkjaaDoorCGo
import Derived.Test.YtaaoljhfepmkjaaDoorGKh
import Derived.Test.YtaaoljhfepmkjaaDoorPGnA
namespace Go.Proofs.YtaaoljhfepmkjaaDoor
open Go.GK Go.PL Go.RowKit
set_option maxRecDepth 100000
abbrev gn (g : Gn) : List GV := [.sl 3 (g.mt.map mt), gi g.lo, gi g.hi]
abbrev gns (l : List Gn) : GV := .sl 3 (l.map gn)
theorem cloneSm_hf (l : List Sm) (hl : l.length ≤ 1000000) : Hf pg 20 0 [.sl 2 (l.map sm)] [] (fun g σ n => g = .o 0 ∧ σ = [(0, .row 42 2 (l.map sm))] ∧ n = 1) := by
  refine Hf.weak (Q := fun g σ m => ∃ id : Nat, g = .o id ∧ hlook σ id = some (.row 42 2 (l.map sm))) (Hf.ofJ pg_ok Tryd.func20 rfl Tryd.ntmps20 rfl Tryd.results20 Tryd.call20 fun H0 S0 w0 h0 g0 => ?_) ?_
  · refine VM 8 ?_
    refine JK.eqNil pg_ok rfl rfl rfl rfl rfl (fun hn => ?_) ?_
    · have hn' : l.map sm = [] := hn
      refine VM 6 ?_
      refine JK.ownNil 2 42 2 rfl ?_
      refine V ?_
      refine ⟨_, rfl, ?_⟩
      rw [hn']
      rfl
    · refine V ?_
      refine ⟨by simp only [List.length_map, List.length_nil]; omega, ?_⟩
      exact ⟨_, rfl, rfl⟩
  · rintro g σ m ⟨id, rfl, h⟩
    exact ⟨r1 0 id, .o 0, [(0, .row 42 2 (l.map sm))], 1, ⟨rfl, rfl, rfl⟩, rfl, ⟨h, trivial⟩, rfl⟩
theorem cloneSm_rt (l : List Sm) (hl : l.length ≤ 1000000) : Rt pg 20 [.sl 2 (l.map sm)] (.sl 2 (l.map sm)) := by
  refine Rt.ofJ pg_ok Tryd.func20 rfl Tryd.ntmps20 rfl Tryd.results20 Tryd.call20 fun H0 S0 w0 h0 g0 => ?_
  refine VM 8 ?_
  refine JK.eqNil pg_ok rfl rfl rfl rfl rfl (fun hn => ?_) ?_
  · have hn' : l.map sm = [] := hn
    refine VM 6 ?_
    refine JK.roNil 2 2 rfl ?_
    refine V ?_
    rw [hn']
    exact ⟨rfl, rfl⟩
  · refine VM 10 ?_
    refine ⟨by simp only [List.length_map, List.length_nil]; omega, ?_⟩
    refine FRZ 1 rfl ?_
    exact ⟨rfl, rfl⟩
theorem cloneLb_hf (l : List Lb) (hl : l.length ≤ 1000000) : Hf pg 19 0 [.sl 2 (l.map lb)] [] (fun g σ n => g = .o 0 ∧ σ = [(0, .row 54 2 (l.map lb))] ∧ n = 1) := by
  refine Hf.weak (Q := fun g σ m => ∃ id : Nat, g = .o id ∧ hlook σ id = some (.row 54 2 (l.map lb))) (Hf.ofJ pg_ok Tryd.func19 rfl Tryd.ntmps19 rfl Tryd.results19 Tryd.call19 fun H0 S0 w0 h0 g0 => ?_) ?_
  · refine VM 8 ?_
    refine JK.eqNil pg_ok rfl rfl rfl rfl rfl (fun hn => ?_) ?_
    · have hn' : l.map lb = [] := hn
      refine VM 6 ?_
      refine JK.ownNil 2 54 2 rfl ?_
      refine V ?_
      refine ⟨_, rfl, ?_⟩
      rw [hn']
      rfl
    · refine V ?_
      refine ⟨by simp only [List.length_map, List.length_nil]; omega, ?_⟩
      exact ⟨_, rfl, rfl⟩
  · rintro g σ m ⟨id, rfl, h⟩
    exact ⟨r1 0 id, .o 0, [(0, .row 54 2 (l.map lb))], 1, ⟨rfl, rfl, rfl⟩, rfl, ⟨h, trivial⟩, rfl⟩
theorem cloneLb_rt (l : List Lb) (hl : l.length ≤ 1000000) : Rt pg 19 [.sl 2 (l.map lb)] (.sl 2 (l.map lb)) := by
  refine Rt.ofJ pg_ok Tryd.func19 rfl Tryd.ntmps19 rfl Tryd.results19 Tryd.call19 fun H0 S0 w0 h0 g0 => ?_
  refine VM 8 ?_
  refine JK.eqNil pg_ok rfl rfl rfl rfl rfl (fun hn => ?_) ?_
  · have hn' : l.map lb = [] := hn
    refine VM 6 ?_
    refine JK.roNil 2 2 rfl ?_
    refine V ?_
    rw [hn']
    exact ⟨rfl, rfl⟩
  · refine VM 10 ?_
    refine ⟨by simp only [List.length_map, List.length_nil]; omega, ?_⟩
    refine FRZ 1 rfl ?_
    exact ⟨rfl, rfl⟩
end Go.Proofs.YtaaoljhfepmkjaaDoor


namespace Go.Proofs.YtaaoljhfepmkjaaDoor
open Go.GK Go.PL Go.RowKit
set_option maxRecDepth 100000
theorem take_set {α : Type} (R : List α) (i : Nat) (x : α) (h : i < R.length) : (R.set i x).take (i + 1) = R.take i ++ [x] := by
  rw [List.take_succ_eq_append_getElem (by simpa using h), List.getElem_set_self, List.take_set, List.set_eq_of_length_le (by simp; omega)]
theorem drop_set {α : Type} (R : List α) (i j : Nat) (x : α) (h : i < j) : (R.set i x).drop j = R.drop j := by
  rw [List.drop_set, if_pos h]
/-- An element of an own row. -/
theorem ex {α : Type} {f : α → List GV} {l : List α} {i : Nat} {K : List GV → Prop} (k : Nat) (hi : i = k) (hk : k < l.length) (h : K (f l[k])) : ∃ row, (l.map f)[i]? = some row ∧ K row := by
  subst hi
  exact ⟨f l[i], by simp [hk], h⟩
theorem filt_no {α : Type} (p : α → Bool) (l : List α) (h : ∀ i (h : i < l.length), p l[i] = false) : l.filter (fun x => !p x) = l := by
  refine List.filter_eq_self.2 fun x hx => ?_
  obtain ⟨i, hi, rfl⟩ := List.getElem_of_mem hx
  rw [h i hi]
  rfl
theorem filt_first {α : Type} (p : α → Bool) (l : List α) (n : Nat) (h : n < l.length) (h1 : ∀ i (h : i < l.length), i < n → p l[i] = false) (h2 : p l[n] = true) : (l.take (n + 1)).filter (fun x => !p x) = l.take n := by
  rw [List.take_succ_eq_append_getElem h, List.filter_append, List.filter_cons, h2]
  simp only [Bool.not_true, Bool.false_eq_true, if_false, List.filter_nil, List.append_nil]
  refine List.filter_eq_self.2 fun x hx => ?_
  obtain ⟨i, hi, rfl⟩ := List.getElem_of_mem hx
  rw [List.getElem_take, h1 i (by simp at hi; omega) (by simp at hi; omega)]
  rfl
theorem filt_step {α : Type} (p : α → Bool) (l : List α) (j : Nat) (h : j < l.length) : (l.take (j + 1)).filter (fun x => !p x) = (l.take j).filter (fun x => !p x) ++ if p l[j] = true then [] else [l[j]] := by
  rw [List.take_succ_eq_append_getElem h, List.filter_append, List.filter_cons]
  cases p l[j] <;> rfl
end Go.Proofs.YtaaoljhfepmkjaaDoor


namespace Go.Proofs.YtaaoljhfepmkjaaDoor
open Go.GK Go.PL Go.RowKit
set_option maxRecDepth 100000
def SmallS (l : List Ser) : Prop := ∀ x ∈ l, x.samples.length ≤ 1000000 ∧ x.labels.length ≤ 1000000
def SmallG (l : List Gn) : Prop := l.length ≤ 1000000 ∧ ∀ g ∈ l, g.mt.length ≤ 1000000
end Go.Proofs.YtaaoljhfepmkjaaDoor
