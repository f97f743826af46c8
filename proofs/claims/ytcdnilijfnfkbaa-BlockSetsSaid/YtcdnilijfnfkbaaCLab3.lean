/-
  Contracts: package label: Only; matchers.
-/
import Derived.Test.YtcdnilijfnfkbaaCLab2
namespace Go.Proofs.Ytcdnilijfnfkbaa
open Go.GK Go.PL Go.RowKit
set_option maxRecDepth 100000
theorem only_snoc (l : List Lb) (ns : List ByteArray) (i : Nat) (h : i < l.length) : onlyF (l.take (i + 1)) ns = onlyF (l.take i) ns ++ if conS ns l[i].name = true then [l[i]] else [] := by
  have e : (ns.any fun n => sEq n l[i].name) = conS ns l[i].name := by
    unfold conS
    congr 1
    funext y
    rw [Bool.eq_iff_iff, sEq_iff, sEq_iff]
    exact ⟨fun h => h.symm, fun h => h.symm⟩
  unfold onlyF
  rw [List.take_succ_eq_append_getElem h, List.filter_append]
  congr 1
  rw [List.filter_cons, e]
  rfl
theorem only_len (l : List Lb) (ns : List ByteArray) : (onlyF l ns).length ≤ l.length := List.length_filter_le _ _
/-- Short matchers. -/
def Sm2 (l : List Mt) : Prop := ∀ x ∈ l, x.value.size < 4611686018427387904
theorem idxFunc_rt (l : List Mt) (f : FuncId) (caps : List GV) (hcaps : idbL 0 caps = true) (p : Mt → Bool) (hf : ∀ x ∈ l, Rt pg f (.agg (mt x) :: caps) (.b (p x))) (n : Nat) (hn : n ≤ l.length) (h1 : ∀ i (h : i < l.length), i < n → p l[i] = false) (h2 : ∀ h : n < l.length, p l[n] = true) (hl : l.length < 4611686018427387904) :
    Rt pg 52 [.sl 3 (l.map mt), .fn (.func f) [] caps] (gi (if n < l.length then n else -1)) := by
  refine Rt.of pg_ok Try.func52 rfl Try.ntmps52 rfl Try.results52 Try.call52 fun H0 S0 w0 h0 g0 => ?_
  have hll : (l.map mt).length = l.length := by simp
  refine JK.loop (α := Nat) (fun i => ⟨[(0, .sl 3 (l.map mt)), (1, .fn (.func f) [] caps), (7, gi (l.map mt).length), (8, gi i)], [], 0⟩) (fun i => i ≤ n) (fun i => n - i) 0 id ?_ (Nat.zero_le _) ?_
  · exact ⟨⟨rfl, by simp only [ren, renL, renL_id]; rfl, rfl, rfl, trivial⟩, trivial, by simp [idbE, idb, idbL, hcaps, idbH, hids, distB, fixB]⟩
  · intro i hi
    refine V ?_
    by_cases hlt : i < l.length
    · refine p1 ?_
      refine ix (h := ?_)
      have hp := hf l[i] (List.getElem_mem hlt)
      by_cases hin : i < n
      · refine GO (hp.bt (h1 i hlt hin)) rfl ?_ (by simp [idbL, hcaps]; rfl)
        exact ⟨i + 1, id, ⟨⟨rfl, by simp only [ren, renL, renL_id]; rfl, rfl, succ_gi (by omega), trivial⟩, trivial, by simp [idbE, idb, idbL, hcaps, idbH, hids, distB, fixB]⟩, hin, by show n - (i + 1) < n - i; omega⟩
      · have hin' : i = n := by omega
        subst hin'
        refine GO (hp.bt (h2 hlt)) rfl ?_ (by simp [idbL, hcaps]; rfl)
        exact ⟨by rw [if_pos hlt]; rfl, rfl⟩
    · refine p2 ?_
      refine V ?_
      exact ⟨by rw [if_neg (by omega)]; rfl, rfl⟩
theorem first_ix {α : Type} (l : List α) (p : α → Bool) : ∃ n, n ≤ l.length ∧ (∀ i (h : i < l.length), i < n → p l[i] = false) ∧ (∀ h : n < l.length, p l[n] = true) ∧ l.any p = decide (n < l.length) := by
  induction l with
  | nil => exact ⟨0, Nat.le_refl _, fun i h => absurd h (by simp), fun h => absurd h (by simp), by simp⟩
  | cons a l ih =>
    cases hp : p a with
    | true => exact ⟨0, Nat.zero_le _, fun i h h' => absurd h' (by omega), fun _ => hp, by simp [hp]⟩
    | false =>
      obtain ⟨n, h1, h2, h3, h4⟩ := ih
      refine ⟨n + 1, by simpa using h1, fun i h h' => ?_, fun h => ?_, by simp [hp, h4]⟩
      · cases i with
        | zero => exact hp
        | succ i => exact h2 i (by simpa using h) (by omega)
      · exact h3 (by simpa using h)
theorem conFunc_rt (l : List Mt) (f : FuncId) (caps : List GV) (hcaps : idbL 0 caps = true) (p : Mt → Bool) (hf : ∀ x ∈ l, Rt pg f (.agg (mt x) :: caps) (.b (p x))) (hl : l.length < 4611686018427387904) :
    Rt pg 42 [.sl 3 (l.map mt), .fn (.func f) [] caps] (.b (l.any p)) := by
  refine Rt.of pg_ok Try.func42 rfl Try.ntmps42 rfl Try.results42 Try.call42 fun H0 S0 w0 h0 g0 => ?_
  obtain ⟨n, h1, h2, h3, h4⟩ := first_ix l p
  refine GO (idxFunc_rt l f caps hcaps p hf n h1 h2 h3 hl) rfl ?_ (by simp [idbL, idb, hcaps])
  refine ⟨?_, rfl⟩
  rw [h4]
  show decide _ = _
  split
  · rename_i h; rw [decide_eq_true h]; exact decide_eq_true (by omega)
  · rename_i h; rw [decide_eq_false h]; rfl
theorem any_anyB {α : Type} [Inhabited α] (l : List α) (p : α → Bool) : l.any p = anyB l.length (fun i => p (l.getD i default)) := by
  obtain ⟨n, h1, h2, h3, h4⟩ := first_ix l p
  rw [h4]
  by_cases h : n < l.length
  · rw [decide_eq_true h, anyB_true h]; simpa [h] using h3 h
  · rw [decide_eq_false h, anyB_false]
    intro i hi
    have := h2 i hi (by omega)
    simpa [hi] using this
theorem lone_rt (l : List Lb) (m : Mt) : Rt pg 44 [.sl 2 (l.map lb), .agg (mt m)] (.b (loneF l m)) := by
  refine Rt.of pg_ok Try.func44 rfl Try.ntmps44 rfl Try.results44 Try.call44 fun H0 S0 w0 h0 g0 => ?_
  refine GO (get_rt l m.name) rfl ?_
  unfold loneF
  by_cases h0 : m.op = 0
  · refine p1 ?_ (by simpa using h0)
    exact ⟨by rw [if_pos h0]; rfl, rfl⟩
  · refine p2 ?_ (by simpa using h0)
    rw [if_neg h0]
    by_cases h1 : m.op = 1
    · refine p1 ?_ (by simpa using h1)
      exact ⟨by rw [if_pos h1]; rfl, rfl⟩
    · refine p2 ?_ (by simpa using h1)
      rw [if_neg h1]
      by_cases h2 : m.op = 2
      · refine p1 ?_ (by simpa using h2)
        refine GO (hasPrefix_rt (lgetF l m.name) m.value) rfl ?_
        exact ⟨by rw [if_pos h2]; rfl, rfl⟩
      · refine p2 ?_ (by simpa using h2)
        refine GO (hasPrefix_rt (lgetF l m.name) m.value) rfl ?_
        exact ⟨by rw [if_neg h2]; rfl, rfl⟩
theorem all1_rt (l : List Lb) (m : Mt) : Rt pg 43 [.agg (mt m), .r [.sl 2 (l.map lb)]] (.b (!loneF l m)) := by
  refine Rt.of pg_ok Try.func43 rfl Try.ntmps43 rfl Try.results43 Try.call43 fun H0 S0 w0 h0 g0 => ?_
  refine GO (lone_rt l m) rfl ?_
  exact ⟨rfl, rfl⟩
theorem lall_rt (l : List Lb) (m : List Mt) (hm : m.length < 4611686018427387904) : Rt pg 30 [.sl 2 (l.map lb), .sl 3 (m.map mt)] (.b (allF l m)) := by
  refine Rt.of pg_ok Try.func30 rfl Try.ntmps30 rfl Try.results30 Try.call30 fun H0 S0 w0 h0 g0 => ?_
  refine FZB 0 rfl rfl ?_
  refine GO (conFunc_rt m 43 [.r [.sl 2 (l.map lb)]] rfl (fun x => !loneF l x) (fun x _ => all1_rt l x) hm) rfl ?_
  refine ⟨?_, rfl⟩
  show (!_) = allF l m
  unfold allF
  rw [List.all_eq_not_any_not]
end Go.Proofs.Ytcdnilijfnfkbaa
