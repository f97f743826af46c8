/-
  Plain laws: buckets put together by a map, in whatever order; no program is in sight.
-/
import Derived.Test.YtfagagfokmlgiaaDoorPRoll
namespace Go.PL
open Go

/-- A bucket put to those that are there, by its start. -/
def combF : List Bk → Bk → List Bk
  | [], b => [b]
  | x :: r, b => if x.start = b.start then bothF x b :: r else x :: combF r b
def togM (l : List Bk) : List Bk := l.foldl combF []
def togF (l : List Bk) : List Bk := (togM l).mergeSort fun a b => decide (a.start ≤ b.start)

def lookB (t : Int) : List Bk → Option Bk
  | [] => none
  | x :: r => if x.start = t then some x else lookB t r
theorem lookB_start {t : Int} {b : Bk} : ∀ {l : List Bk}, lookB t l = some b → b.start = t ∧ b ∈ l
  | x :: r, h => by
    unfold lookB at h
    split at h
    · cases h; exact ⟨by assumption, by simp⟩
    · have := lookB_start h
      exact ⟨this.1, by simp [this.2]⟩
theorem lookB_none {t : Int} : ∀ {l : List Bk}, lookB t l = none ↔ ∀ x ∈ l, x.start ≠ t
  | [] => by simp [lookB]
  | x :: r => by
    unfold lookB
    by_cases h : x.start = t
    · simp [h]
    · rw [if_neg h, lookB_none (l := r)]
      simp [h]
theorem lookB_mem {b : Bk} : ∀ {l : List Bk}, (l.map (·.start)).Nodup → b ∈ l → lookB b.start l = some b
  | x :: r, hn, hb => by
    unfold lookB
    simp only [List.map_cons, List.nodup_cons] at hn
    rcases List.mem_cons.1 hb with rfl | hb
    · rw [if_pos rfl]
    · rw [if_neg (fun e => hn.1 (by rw [e]; exact List.mem_map_of_mem hb)), lookB_mem hn.2 hb]
/-- What one more does to what is found. -/
def opB (t : Int) (acc : Option Bk) (b : Bk) : Option Bk := if b.start = t then some (match acc with | none => b | some x => bothF x b) else acc
theorem look_comb (t : Int) (b : Bk) : ∀ l : List Bk, lookB t (combF l b) = opB t (lookB t l) b
  | [] => by simp [combF, lookB, opB]
  | x :: r => by
    unfold combF
    by_cases h : x.start = b.start
    · rw [if_pos h]
      unfold lookB
      rw [show (bothF x b).start = x.start from rfl]
      by_cases h2 : x.start = t
      · rw [if_pos h2, if_pos h2]; simp [opB, ← h, h2]
      · rw [if_neg h2, if_neg h2]; simp [opB, ← h, h2]
    · rw [if_neg h]
      unfold lookB
      by_cases h2 : x.start = t
      · rw [if_pos h2, if_pos h2]
        unfold opB
        rw [if_neg (fun e => h (by rw [h2, e]))]
      · rw [if_neg h2, if_neg h2, look_comb t b r]
theorem comb_starts (b : Bk) : ∀ l : List Bk, (combF l b).map (·.start) = if lookB b.start l = none then l.map (·.start) ++ [b.start] else l.map (·.start)
  | [] => by simp [combF, lookB]
  | x :: r => by
    unfold combF lookB
    by_cases h : x.start = b.start
    · rw [if_pos h, if_pos h]
      simp [bothF]
    · rw [if_neg h, if_neg h, List.map_cons, comb_starts b r]
      split <;> simp
theorem comb_nodup {b : Bk} {l : List Bk} (h : (l.map (·.start)).Nodup) : ((combF l b).map (·.start)).Nodup := by
  rw [comb_starts]
  split
  · rename_i hn
    rw [List.nodup_append]
    refine ⟨h, by simp, fun x hx y hy => ?_⟩
    obtain ⟨z, hz, rfl⟩ := List.mem_map.1 hx
    have := lookB_none.1 hn z hz
    simp only [List.mem_singleton] at hy
    rw [hy]; exact this
  · exact h
theorem fold_look (t : Int) : ∀ (l out : List Bk), lookB t (l.foldl combF out) = l.foldl (opB t) (lookB t out)
  | [], _ => rfl
  | b :: r, out => by
    rw [List.foldl_cons, List.foldl_cons, fold_look t r, look_comb]
theorem fold_nodup : ∀ (l out : List Bk), (out.map (·.start)).Nodup → ((l.foldl combF out).map (·.start)).Nodup
  | [], _, h => h
  | b :: r, out, h => by rw [List.foldl_cons]; exact fold_nodup r _ (comb_nodup h)
theorem togM_nodup (l : List Bk) : ((togM l).map (·.start)).Nodup := fold_nodup l [] (by simp)
theorem togM_look (t : Int) (l : List Bk) : lookB t (togM l) = l.foldl (opB t) none := fold_look t l []
theorem opB_start {t : Int} {acc : Option Bk} {b c : Bk} (h : ∀ x, acc = some x → x.start = t) (he : opB t acc b = some c) : c.start = t := by
  unfold opB at he
  split at he
  · rename_i hb
    cases acc with
    | none => cases he; exact hb
    | some x => cases he; exact h x rfl
  · exact h c he
theorem opB_swap {t : Int} {acc : Option Bk} (h : ∀ x, acc = some x → x.start = t) (x y : Bk) : opB t (opB t acc x) y = opB t (opB t acc y) x := by
  unfold opB
  by_cases hx : x.start = t
  · by_cases hy : y.start = t
    · rw [if_pos hx, if_pos hy, if_pos hy, if_pos hx]
      cases acc with
      | none => simp only; rw [bothF_comm (hx.trans hy.symm)]
      | some c =>
        simp only
        rw [bothF_assoc, bothF_assoc, bothF_comm (hx.trans hy.symm)]
    · rw [if_neg hy, if_neg hy]
  · rw [if_neg hx, if_neg hx]
theorem fold_perm {t : Int} {l l' : List Bk} (hp : l.Perm l') : ∀ acc : Option Bk, (∀ x, acc = some x → x.start = t) → l.foldl (opB t) acc = l'.foldl (opB t) acc := by
  induction hp with
  | nil => intro _ _; rfl
  | cons x _ ih => intro acc h; rw [List.foldl_cons, List.foldl_cons]; exact ih _ fun c hc => opB_start h hc
  | swap x y l => intro acc h; simp only [List.foldl_cons]; rw [opB_swap h]
  | trans _ _ ih1 ih2 => intro acc h; rw [ih1 acc h, ih2 acc h]
theorem nodup_of_map {α β : Type} {f : α → β} {l : List α} (h : (l.map f).Nodup) : l.Nodup := by
  rw [List.nodup_iff_pairwise_ne, List.pairwise_map] at h
  exact h.imp fun h e => h (by rw [e])
/-- Two that tell the same of each start are the same but for their order. -/
theorem perm_of_look {l m : List Bk} (hl : (l.map (·.start)).Nodup) (hm : (m.map (·.start)).Nodup) (h : ∀ t, lookB t l = lookB t m) : l.Perm m := by
  refine (List.perm_ext_iff_of_nodup (nodup_of_map hl) (nodup_of_map hm)).2 fun b => ⟨fun hb => ?_, fun hb => ?_⟩
  · have := lookB_mem hl hb
    rw [h] at this
    exact (lookB_start this).2
  · have := lookB_mem hm hb
    rw [← h] at this
    exact (lookB_start this).2
theorem togM_perm {l l' : List Bk} (hp : l.Perm l') : (togM l).Perm (togM l') :=
  perm_of_look (togM_nodup l) (togM_nodup l') fun t => by rw [togM_look, togM_look]; exact fold_perm hp none (by simp)
theorem sorted_eq {l m : List Bk} (hp : l.Perm m) (hn : (m.map (·.start)).Nodup) (hl : l.Pairwise (·.start ≤ ·.start)) (hm : m.Pairwise (·.start ≤ ·.start)) : l = m := by
  refine hp.eq_of_pairwise (fun a b ha hb h1 h2 => ?_) hl hm
  have e : a.start = b.start := Int.le_antisymm h1 h2
  have ha' := lookB_mem hn (hp.subset ha)
  have hb' := lookB_mem hn hb
  rw [e, hb'] at ha'
  exact (Option.some.inj ha').symm
theorem togF_sorted (l : List Bk) : (togF l).Pairwise (·.start ≤ ·.start) := by
  have := List.pairwise_mergeSort (le := fun a b : Bk => decide (a.start ≤ b.start)) (fun a b c h1 h2 => by simp only [decide_eq_true_eq] at *; omega) (fun a b => by simp; omega) (togM l)
  exact this.imp fun h => by simpa using h
theorem togF_is {l m : List Bk} (hp : m.Perm (togM l)) (hm : m.Pairwise (·.start ≤ ·.start)) : m = togF l := by
  have h2 : m.Perm (togF l) := hp.trans (List.mergeSort_perm _ _).symm
  have hn : ((togF l).map (·.start)).Nodup := ((List.mergeSort_perm (togM l) _).map _).nodup_iff.2 (togM_nodup l)
  exact sorted_eq h2 hn hm (togF_sorted l)
theorem togF_perm {l l' : List Bk} (hp : l.Perm l') : togF l = togF l' :=
  togF_is ((List.mergeSort_perm _ _).trans (togM_perm hp)) (togF_sorted l)

/-! ### Those that rise -/
theorem comb_last {b : Bk} : ∀ {l : List Bk}, Up l → (∀ x ∈ l, x.start ≤ b.start) → combF l b = addF l b
  | [], _, _ => rfl
  | [x], _, _ => by
    unfold combF addF
    simp [combF]
  | x :: y :: r, hu, hb => by
    have hxy : x.start < y.start := (List.pairwise_cons.1 hu).1 y (by simp)
    have hyb := hb y (by simp)
    have ih := comb_last (b := b) (l := y :: r) (List.pairwise_cons.1 hu).2 (fun z hz => hb z (by simp [hz]))
    rw [show combF (x :: y :: r) b = if x.start = b.start then bothF x b :: y :: r else x :: combF (y :: r) b from rfl, if_neg (by omega), ih]
    unfold addF
    rw [List.getLast?_cons_cons]
    cases hg : (y :: r).getLast? with
    | none => simp
    | some z =>
      simp only
      split <;> simp
/-- Buckets that rise (not strictly): put together by a map or one behind the other: the same. -/
theorem togM_rise (l : List Bk) : l.Pairwise (·.start ≤ ·.start) → togM l = addsF [] l ∧ Up (addsF [] l) ∧ ∀ x ∈ addsF [] l, ∃ y ∈ l, x.start = y.start := by
  refine snoc_ind (P := fun l => l.Pairwise (·.start ≤ ·.start) → togM l = addsF [] l ∧ Up (addsF [] l) ∧ ∀ x ∈ addsF [] l, ∃ y ∈ l, x.start = y.start) (fun _ => ⟨rfl, by simp [addsF], by simp [addsF]⟩) (fun l b ih hp => ?_) l
  have h1 := List.pairwise_append.1 hp
  obtain ⟨i1, i2, i3⟩ := ih h1.1
  have hle : ∀ x ∈ addsF [] l, x.start ≤ b.start := fun x hx => by
    obtain ⟨y, hy, e⟩ := i3 x hx
    rw [e]
    exact h1.2.2 y hy b (by simp)
  rw [addsF_snoc]
  refine ⟨?_, addF_up i2 hle, fun z hz => ?_⟩
  · unfold togM at i1 ⊢
    rw [List.foldl_append, i1]
    exact comb_last i2 hle
  · rcases addF_mem hz with ⟨x, hx, e⟩ | e
    · obtain ⟨y, hy, e2⟩ := i3 x hx
      exact ⟨y, by simp [hy], e.trans e2⟩
    · exact ⟨b, by simp, e⟩
theorem togF_rise {l : List Bk} (h : l.Pairwise (·.start ≤ ·.start)) : togF l = addsF [] l := by
  obtain ⟨h1, h2, _⟩ := togM_rise l h
  exact (togF_is (by rw [h1]) (h2.imp fun h => Int.le_of_lt h)).symm

/-! ### Two merged -/
theorem merge_is : ∀ (n : Nat) (out a b : List Bk), a.length + b.length ≤ n → a.Pairwise (·.start ≤ ·.start) → b.Pairwise (·.start ≤ ·.start) → ∃ m, m.Perm (a ++ b) ∧ m.Pairwise (·.start ≤ ·.start) ∧ mergeF n out a b = addsF out m
  | 0, out, a, b, hn, _, _ => ⟨[], by
      have : a = [] := List.length_eq_zero_iff.1 (by omega)
      have : b = [] := List.length_eq_zero_iff.1 (by omega)
      subst_vars; simp, .nil, by simp [mergeF, addsF]⟩
  | n + 1, out, [], [], _, _, _ => ⟨[], by simp, .nil, by simp [mergeF, addsF]⟩
  | n + 1, out, x :: a, [], hn, ha, hb => by
    obtain ⟨m, h1, h2, h3⟩ := merge_is n (addF out x) a [] (by simp at hn ⊢; omega) (List.pairwise_cons.1 ha).2 hb
    refine ⟨x :: m, by simpa using h1, List.pairwise_cons.2 ⟨fun y hy => ?_, h2⟩, by rw [mergeF, h3]; rfl⟩
    exact (List.pairwise_cons.1 ha).1 y (by simpa using h1.subset hy)
  | n + 1, out, [], y :: b, hn, ha, hb => by
    obtain ⟨m, h1, h2, h3⟩ := merge_is n (addF out y) [] b (by simp at hn ⊢; omega) ha (List.pairwise_cons.1 hb).2
    refine ⟨y :: m, by simpa using h1, List.pairwise_cons.2 ⟨fun z hz => ?_, h2⟩, by rw [mergeF, h3]; rfl⟩
    exact (List.pairwise_cons.1 hb).1 z (by simpa using h1.subset hz)
  | n + 1, out, x :: a, y :: b, hn, ha, hb => by
    by_cases h : x.start ≤ y.start
    · obtain ⟨m, h1, h2, h3⟩ := merge_is n (addF out x) a (y :: b) (by simp at hn ⊢; omega) (List.pairwise_cons.1 ha).2 hb
      refine ⟨x :: m, by simpa using h1, List.pairwise_cons.2 ⟨fun z hz => ?_, h2⟩, by rw [mergeF, if_pos h, h3]; rfl⟩
      rcases List.mem_append.1 (h1.subset hz) with hz | hz
      · exact (List.pairwise_cons.1 ha).1 z hz
      · rcases List.mem_cons.1 hz with rfl | hz
        · exact h
        · exact Int.le_trans h ((List.pairwise_cons.1 hb).1 z hz)
    · obtain ⟨m, h1, h2, h3⟩ := merge_is n (addF out y) (x :: a) b (by simp at hn ⊢; omega) ha (List.pairwise_cons.1 hb).2
      refine ⟨y :: m, (List.Perm.cons y h1).trans (List.perm_middle (a := y) (l₁ := x :: a) (l₂ := b)).symm, List.pairwise_cons.2 ⟨fun z hz => ?_, h2⟩, by rw [mergeF, if_neg h, h3]; rfl⟩
      rcases List.mem_append.1 (h1.subset hz) with hz | hz
      · rcases List.mem_cons.1 hz with rfl | hz
        · show y.start ≤ z.start; omega
        · have := (List.pairwise_cons.1 ha).1 z hz
          show y.start ≤ z.start; omega
      · exact (List.pairwise_cons.1 hb).1 z hz
theorem merge_tog {n : Nat} {a b : List Bk} (hn : a.length + b.length ≤ n) (ha : a.Pairwise (·.start ≤ ·.start)) (hb : b.Pairwise (·.start ≤ ·.start)) : mergeF n [] a b = togF (a ++ b) := by
  obtain ⟨m, h1, h2, h3⟩ := merge_is n [] a b hn ha hb
  rw [h3, ← togF_rise h2]
  exact togF_perm h1

/-- The document's floor. -/
def refFloorF (t s : Int) : Int := if w64 (w64 (t.tdiv s) * s) > t then w64 (w64 (w64 (t.tdiv s) - 1) * s) else w64 (w64 (t.tdiv s) * s)
theorem refFloor_eq {t s : Int} (h1 : 1 ≤ s) (h2 : s ≤ 4398046511104) (h3 : -4398046511104 ≤ t) (h4 : t ≤ 4398046511104) : refFloorF t s = floorF t s := by
  have e := Int.mul_tdiv_add_tmod t s
  have e' : t.tdiv s * s = t - t.tmod s := by rw [Int.mul_comm]; omega
  have hm : -s < t.tmod s ∧ t.tmod s < s := by
    have ht := Int.tmod_eq_emod (a := t) (b := s)
    have e1 := Int.emod_nonneg t (show s ≠ 0 by omega)
    have e2 := Int.emod_lt_of_pos t (show 0 < s by omega)
    have hs : (s.natAbs : Int) = s := by omega
    by_cases hc : 0 ≤ t ∨ s ∣ t
    · rw [if_pos hc] at ht; omega
    · rw [if_neg hc, hs] at ht; omega
  have hq : -4398046511104 ≤ t.tdiv s ∧ t.tdiv s ≤ 4398046511104 := by
    have h5 := Int.natAbs_tdiv_le_natAbs t s
    omega
  have e3 : (t.tdiv s - 1) * s = t - t.tmod s - s := by rw [Int.sub_mul, e']; omega
  unfold refFloorF floorF
  rw [w64_id (x := t.tdiv s) (by omega) (by omega), e', w64_id (x := t - t.tmod s) (by omega) (by omega)]
  by_cases hc : t.tmod s < 0
  · rw [if_pos (by omega), if_pos hc, w64_id (x := t.tdiv s - 1) (by omega) (by omega), e3, w64_id (x := t.tmod s + s) (by omega) (by omega)]
    congr 1
    omega
  · rw [if_neg (by omega), if_neg hc]
end Go.PL
