/-
  Contracts: the document's series of two lists put together.
-/
import Derived.Test.YtcdnilijfnfkbaaCRefSort
import Derived.Test.YtcdnilijfnfkbaaCSets
import Derived.Test.YtcdnilijfnfkbaaPGnA
namespace Go.Proofs.Ytcdnilijfnfkbaa
open Go.GK Go.PL Go.RowKit
set_option maxRecDepth 100000
def LabB (l : List Ser) : Prop := ∀ x ∈ l, x.labels.length ≤ 1000000
theorem rfind_rt (out : List Ser) (ls : List Lb) (n : Nat) (hn : n ≤ out.length) (h1 : ∀ i (h : i < out.length), i < n → out[i].labels ≠ ls) (h2 : ∀ h : n < out.length, out[n].labels = ls) (hl : out.length ≤ 1000000) (hb : LabB out) (hls : ls.length ≤ 1000000) :
    Rt pg 34 [ses out, lbs ls] (gi (if n < out.length then n else -1)) := by
  refine Rt.of pg_ok Try.func34 rfl Try.ntmps34 rfl Try.results34 Try.call34 fun H0 S0 w0 h0 g0 => ?_
  have hll : (out.map se).length = out.length := by simp
  refine JK.loop (α := Nat) (fun i => ⟨[(1, lbs ls), (7, ses out), (8, gi (out.map se).length), (9, gi i)], [], 0⟩) (fun i => i ≤ n) (fun i => n - i) 0 id ?_ (Nat.zero_le _) ?_
  · exact ⟨⟨rfl, rfl, rfl, rfl, trivial⟩, trivial, rfl⟩
  · intro i hi
    refine V ?_
    by_cases hlt : i < out.length
    · refine p1 ?_ (decide_eq_true (by omega))
      refine ix (h := ?_)
      have hc := refCompare_rt out[i].labels ls (hb _ (List.getElem_mem hlt)) hls
      by_cases hin : i < n
      · have hne : cmpF out[i].labels ls ≠ 0 := fun e => h1 i hlt hin ((cmpF_is.eq0 _ _).1 e)
        refine GO hc rfl ?_
        refine p2 ?_ (beq_false_of_ne hne)
        exact ⟨i + 1, id, ⟨⟨rfl, rfl, rfl, succ_gi (by omega), trivial⟩, trivial, rfl⟩, hin, by show n - (i + 1) < n - i; omega⟩
      · obtain rfl : i = n := by omega
        have he : cmpF out[i].labels ls = 0 := (cmpF_is.eq0 _ _).2 (h2 hlt)
        refine GO hc rfl ?_
        refine p1 ?_ (beq_iff_eq.2 he)
        exact ⟨by rw [if_pos hlt]; rfl, rfl⟩
    · refine p2 ?_ (decide_eq_false (by omega))
      refine V ?_
      exact ⟨by rw [if_neg (by omega)]; rfl, rfl⟩
theorem rsorted_hf (l : List Ser) (hb : LabB l) (hl : l.length < 274877906944) : Hf pg 36 1 [.o 0] [(0, .row 44 2 (l.map se))] (fun G σ n => G = .o 0 ∧ (∃ l' : List Ser, l'.Perm l ∧ (l'.Pairwise fun x y => ¬ cmpF y.labels x.labels < 0) ∧ σ = [(0, .row 44 2 (l'.map se))]) ∧ n = 1) := by
  obtain ⟨lB, rfl⟩ : ∃ lB : List SerB, lB.map (·.1) = l := ⟨l.pmap (fun x h => ⟨x, h⟩) (fun x hx => hb x hx), by rw [List.map_pmap]; simp⟩
  have hm : ∀ m : List SerB, (m.map (·.1)).map se = m.map seB := fun m => by rw [List.map_map]; rfl
  rw [List.length_map] at hl
  rw [hm]
  refine Hf.weak (Q := fun G σ _ => G = .o 0 ∧ ∃ m : List SerB, m.Perm lB ∧ Srt ltB m ∧ hlook σ 0 = some (.row 44 2 (m.map seB))) (Hf.of pg_ok Try.func36 rfl Try.ntmps36 rfl Try.results36 Try.call36 fun H0 S0 w0 h0 g0 => ?_) ?_
  · refine GOH (series_entry (g := 51) lB (fun l' => l'.Perm lB ∧ Srt ltB l') (fun h1 => ⟨.refl _, ?_⟩) (by omega) (stable_hf series_se wo_ltB lB hl)) id rfl rfl ⟨rfl, rfl, trivial⟩ rfl (id_lt rfl) ?_
    · match lB, h1 with
      | [], _ => exact .nil
      | [x], _ => exact List.pairwise_singleton _ _
    · rintro _ _ _ ⟨rfl, ⟨m, ⟨hp, hs⟩, rfl⟩, rfl⟩
      exact ⟨rfl, m, hp, hs, rfl⟩
  · rintro G σ n ⟨rfl, m, hp, hs, h0⟩
    refine ⟨id, .o 0, [(0, .row 44 2 (m.map seB))], 1, ⟨rfl, ⟨m.map (·.1), hp.map _, ?_, by rw [hm]⟩, rfl⟩, rfl, ⟨h0, trivial⟩, rfl⟩
    rw [List.pairwise_map]
    exact hs.imp fun h => of_decide_eq_false h
theorem rms_rt (a b : List Ser) (ra : RisS a) (rb : RisS b) (ua : ∀ x ∈ a, UpS x.samples) (ub : ∀ x ∈ b, UpS x.samples) (ha : a.length ≤ 1000) (hb : b.length ≤ 1000) (sa : ∀ x ∈ a, x.samples.length ≤ 60 ∧ x.labels.length ≤ 1000000) (sb : ∀ x ∈ b, x.samples.length ≤ 60 ∧ x.labels.length ≤ 1000000) :
    Rt pg 13 [ses a, ses b] (ses (mergeL mgS a b)) := by
  refine Rt.of pg_ok Try.func13 rfl Try.ntmps13 rfl Try.results13 Try.call13 fun H0 S0 w0 h0 g0 => ?_
  have hall : (a.map se).length = a.length := by simp
  have hbll : (b.map se).length = b.length := by simp
  refine ⟨by simp only [List.length_map, List.length_nil]; omega, ?_⟩
  refine JK.loopE (α := Nat) (β := Unit) (fun i => ⟨[(5, .o 0), (12, ses b), (13, gi (b.map se).length), (14, gi i)], [(0, .row 44 2 (((b.take i).foldl (putL mgR) a).map se))], 1⟩) (fun i => i ≤ b.length) (fun i => b.length - i)
    (fun _ => ⟨[(5, .o 0)], [(0, .row 44 2 ((b.foldl (putL mgR) a).map se))], 1⟩) (fun _ => True) 0 (fun _ => 1) ?_ (Nat.zero_le _) ?_ ?_
  · exact ⟨⟨rfl, rfl, rfl, rfl, trivial⟩, ⟨rfl, trivial⟩, rfl⟩
  · rintro i hi
    replace hi : i ≤ b.length := hi
    refine V ?_
    by_cases hlt : i < b.length
    · have hst := foldL_step mgR a b i hlt
      have hbd := foldL_bound 60 1000000 (b.take i) a 60 sa (fun x hx => sb x (List.mem_of_mem_take hx))
      have hol := foldL_len mgR (b.take i) a
      rw [List.length_take, Nat.min_eq_left hi] at hbd hol
      have hbi := sb b[i] (List.getElem_mem hlt)
      generalize (b.take i).foldl (putL mgR) a = out at hst hbd hol ⊢
      have hoo : (out.map se).length = out.length := by simp
      obtain ⟨n, hn, n1, n2⟩ := first_at b[i].labels out
      have hf := rfind_rt out b[i].labels n hn n1 n2 (by omega) (fun x hx => (hbd x hx).2) hbi.2
      refine p1 ?_ (decide_eq_true (by omega))
      refine ix (h := ?_)
      refine GOB hf rfl ⟨⟨rfl, rfl⟩, ⟨rfl, rfl⟩, trivial⟩ ?_
      by_cases hlo : n < out.length
      · rw [if_pos hlo]
        have hno := (hbd out[n] (List.getElem_mem hlo)).1
        refine p1 ?_ (decide_eq_true (by omega))
        refine DRAW [0] false (tk [0, 1, 2, 3, 4, 5, 6, 7, 9, 10] ++ al [8]) (by kernel_rfl) ?_
        refine ⟨by omega, by omega, ?_⟩
        refine ⟨se out[n], by simp [hlo], ?_⟩
        refine RGO 11 true (al [12] ++ tk [13] ++ al [14]) (refMerge_rt out[n].samples b[i].samples (by omega) (by omega)) rfl rfl (by kernel_rfl) ?_
        refine ⟨by omega, by omega, ?_⟩
        refine ⟨se out[n], by simp [hlo], ?_⟩
        refine V ?_
        refine ⟨i + 1, id, ⟨⟨rfl, rfl, rfl, succ_gi (by omega), trivial⟩, ⟨?_, trivial⟩, rfl⟩, hlt, by show b.length - (i + 1) < b.length - i; omega⟩
        refine congrArg (fun r => some (Res.row 44 2 r)) ?_
        rw [hst, putL_yes hlo n1 (n2 hlo), List.map_set]
        rfl
      · rw [if_neg hlo]
        refine p2 ?_ (decide_eq_false (by omega))
        refine ⟨by simp only [List.length_map, List.length_cons, List.length_nil]; omega, ?_⟩
        refine ⟨i + 1, fun _ => 3, ⟨⟨rfl, rfl, rfl, succ_gi (by omega), trivial⟩, ⟨?_, trivial⟩, rfl⟩, hlt, by show b.length - (i + 1) < b.length - i; omega⟩
        refine congrArg (fun r => some (Res.row 44 2 r)) ?_
        rw [hst, putL_no fun j hj => n1 j hj (by omega), List.map_append]
        rfl
    · refine p2 ?_ (decide_eq_false (by omega))
      obtain rfl : i = b.length := by omega
      rw [List.take_length]
      exact ⟨(), id, ⟨⟨rfl, trivial⟩, ⟨rfl, trivial⟩, rfl⟩, trivial⟩
  · rintro _ _
    have hbd := foldL_bound 60 1000000 b a 60 sa sb
    have hol := foldL_len mgR b a
    refine V ?_
    refine GOJ (rsorted_hf (b.foldl (putL mgR) a) (fun x hx => (hbd x hx).2) (by omega)) id rfl rfl ⟨rfl, trivial⟩ rfl (id_lt rfl) ?_
    rintro _ _ _ ⟨rfl, ⟨l', hp, hs, rfl⟩, rfl⟩
    have e : l' = mergeL mgS a b := (foldL_merge mgR ra rb hp hs).trans (mergeL_congr a b fun x hx y hy => mgR_mgS (ua x hx) (ub y hy))
    subst e
    refine FRZ 0 rfl ?_
    exact ⟨rfl, rfl⟩
end Go.Proofs.Ytcdnilijfnfkbaa
