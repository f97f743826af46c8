/-
  Plain laws: samples put together by a map, in whatever order; two merged; no program is in sight.
-/
import Derived.Test.YtaaoljhfepmkjaaDoorPBa
namespace Go.PL
open Go

/-- A sample put to those that are there, by its time. -/
def putS : List Sm → Sm → List Sm
  | [], b => [b]
  | x :: r, b => if x.time = b.time then b :: r else x :: putS r b
def atM (l : List Sm) : List Sm := l.foldl putS []
def sortS (l : List Sm) : List Sm := l.mergeSort fun a b => decide (a.time ≤ b.time)
def lookS (t : Int) : List Sm → Option Sm
  | [] => none
  | x :: r => if x.time = t then some x else lookS t r
theorem lookS_time {t : Int} {b : Sm} : ∀ {l : List Sm}, lookS t l = some b → b.time = t ∧ b ∈ l
  | x :: r, h => by
    unfold lookS at h
    split at h
    · cases h; exact ⟨by assumption, by simp⟩
    · have := lookS_time h
      exact ⟨this.1, by simp [this.2]⟩
theorem lookS_none {t : Int} : ∀ {l : List Sm}, lookS t l = none ↔ ∀ x ∈ l, x.time ≠ t
  | [] => by simp [lookS]
  | x :: r => by
    unfold lookS
    by_cases h : x.time = t
    · simp [h]
    · rw [if_neg h, lookS_none (l := r)]
      simp [h]
theorem lookS_mem {b : Sm} : ∀ {l : List Sm}, (l.map (·.time)).Nodup → b ∈ l → lookS b.time l = some b
  | x :: r, hn, hb => by
    unfold lookS
    simp only [List.map_cons, List.nodup_cons] at hn
    rcases List.mem_cons.1 hb with rfl | hb
    · rw [if_pos rfl]
    · rw [if_neg (fun e => hn.1 (by rw [e]; exact List.mem_map_of_mem hb)), lookS_mem hn.2 hb]
theorem look_put (t : Int) (b : Sm) : ∀ l : List Sm, lookS t (putS l b) = if b.time = t then some b else lookS t l
  | [] => by simp [putS, lookS]
  | x :: r => by
    unfold putS
    by_cases h : x.time = b.time
    · rw [if_pos h]
      unfold lookS
      by_cases h2 : b.time = t
      · rw [if_pos h2, if_pos h2]
      · rw [if_neg h2, if_neg h2, if_neg (fun e => h2 (h.symm.trans e))]
    · rw [if_neg h]
      unfold lookS
      by_cases h2 : x.time = t
      · rw [if_pos h2, if_pos h2, if_neg (fun e => h (h2.trans e.symm))]
      · rw [if_neg h2, if_neg h2, look_put t b r]
theorem put_times (b : Sm) : ∀ l : List Sm, (putS l b).map (·.time) = if lookS b.time l = none then l.map (·.time) ++ [b.time] else l.map (·.time)
  | [] => by simp [putS, lookS]
  | x :: r => by
    unfold putS lookS
    by_cases h : x.time = b.time
    · rw [if_pos h, if_pos h]
      simp [h]
    · rw [if_neg h, if_neg h, List.map_cons, put_times b r]
      split <;> simp
theorem put_nodup {b : Sm} {l : List Sm} (h : (l.map (·.time)).Nodup) : ((putS l b).map (·.time)).Nodup := by
  rw [put_times]
  split
  · rename_i hn
    rw [List.nodup_append]
    refine ⟨h, by simp, fun x hx y hy => ?_⟩
    obtain ⟨z, hz, rfl⟩ := List.mem_map.1 hx
    have := lookS_none.1 hn z hz
    simp only [List.mem_singleton] at hy
    rw [hy]; exact this
  · exact h
theorem putF_nodup : ∀ (l out : List Sm), (out.map (·.time)).Nodup → ((l.foldl putS out).map (·.time)).Nodup
  | [], _, h => h
  | b :: r, out, h => by rw [List.foldl_cons]; exact putF_nodup r _ (put_nodup h)
theorem atM_nodup (l : List Sm) : ((atM l).map (·.time)).Nodup := putF_nodup l [] (by simp)
/-- What is found behind the putting of samples that are distinct. -/
theorem putF_look (t : Int) : ∀ (l out : List Sm), (l.map (·.time)).Nodup → lookS t (l.foldl putS out) = (lookS t l).or (lookS t out)
  | [], out, _ => by simp [lookS]
  | b :: r, out, h => by
    simp only [List.map_cons, List.nodup_cons] at h
    rw [List.foldl_cons, putF_look t r _ h.2, look_put, show lookS t (b :: r) = if b.time = t then some b else lookS t r from rfl]
    by_cases hb : b.time = t
    · rw [if_pos hb, if_pos hb]
      have : lookS t r = none := lookS_none.2 fun x hx e => h.1 (by rw [hb, ← e]; exact List.mem_map_of_mem hx)
      rw [this]
      rfl
    · rw [if_neg hb, if_neg hb]
theorem nodup_of_mapS {α β : Type} {f : α → β} {l : List α} (h : (l.map f).Nodup) : l.Nodup := by
  rw [List.nodup_iff_pairwise_ne, List.pairwise_map] at h
  exact h.imp fun h e => h (by rw [e])
theorem perm_of_lookS {l m : List Sm} (hl : (l.map (·.time)).Nodup) (hm : (m.map (·.time)).Nodup) (h : ∀ t, lookS t l = lookS t m) : l.Perm m := by
  refine (List.perm_ext_iff_of_nodup (nodup_of_mapS hl) (nodup_of_mapS hm)).2 fun b => ⟨fun hb => ?_, fun hb => ?_⟩
  · have := lookS_mem hl hb
    rw [h] at this
    exact (lookS_time this).2
  · have := lookS_mem hm hb
    rw [← h] at this
    exact (lookS_time this).2
theorem sortedS_eq {l m : List Sm} (hp : l.Perm m) (hn : (m.map (·.time)).Nodup) (hl : l.Pairwise (·.time ≤ ·.time)) (hm : m.Pairwise (·.time ≤ ·.time)) : l = m := by
  refine hp.eq_of_pairwise (fun a b ha hb h1 h2 => ?_) hl hm
  have e : a.time = b.time := Int.le_antisymm h1 h2
  have ha' := lookS_mem hn (hp.subset ha)
  have hb' := lookS_mem hn hb
  rw [e, hb'] at ha'
  exact (Option.some.inj ha').symm
theorem sortS_sorted (l : List Sm) : (sortS l).Pairwise (·.time ≤ ·.time) := by
  have := List.pairwise_mergeSort (le := fun a b : Sm => decide (a.time ≤ b.time)) (fun a b c h1 h2 => by simp only [decide_eq_true_eq] at *; omega) (fun a b => by simp; omega) l
  exact this.imp fun h => by simpa using h
theorem sortS_is {l m : List Sm} (hn : (l.map (·.time)).Nodup) (hp : m.Perm l) (hm : m.Pairwise (·.time ≤ ·.time)) : m = sortS l := by
  have h2 : m.Perm (sortS l) := hp.trans (List.mergeSort_perm _ _).symm
  exact sortedS_eq h2 (((List.mergeSort_perm l _).map _).nodup_iff.2 hn) hm (sortS_sorted l)

abbrev UpS (l : List Sm) : Prop := l.Pairwise (·.time < ·.time)
theorem UpS.nodup {l : List Sm} (h : UpS l) : (l.map (·.time)).Nodup := by
  rw [List.nodup_iff_pairwise_ne, List.pairwise_map]
  exact h.imp fun h => by omega
def mergeS : Nat → List Sm → List Sm → List Sm → List Sm
  | 0, out, _, _ => out
  | _ + 1, out, [], [] => out
  | n + 1, out, x :: a, [] => mergeS n (out ++ [x]) a []
  | n + 1, out, [], y :: b => mergeS n (out ++ [y]) [] b
  | n + 1, out, x :: a, y :: b => if x.time < y.time then mergeS n (out ++ [x]) a (y :: b) else if x.time = y.time then mergeS n (out ++ [y]) a b else mergeS n (out ++ [y]) (x :: a) b
theorem mergeS_fuel : ∀ (n : Nat) (out a b : List Sm), a.length + b.length ≤ n → mergeS (n + 1) out a b = mergeS n out a b
  | 0, out, a, b, hn => by
    have : a = [] := List.length_eq_zero_iff.1 (by omega)
    have : b = [] := List.length_eq_zero_iff.1 (by omega)
    subst_vars; rfl
  | n + 1, out, [], [], _ => rfl
  | n + 1, out, x :: a, [], hn => by
    rw [mergeS, mergeS, mergeS_fuel n _ _ _ (by simp at hn ⊢; omega)]
  | n + 1, out, [], y :: b, hn => by
    rw [mergeS, mergeS, mergeS_fuel n _ _ _ (by simp at hn ⊢; omega)]
  | n + 1, out, x :: a, y :: b, hn => by
    simp only [List.length_cons] at hn
    rw [mergeS, mergeS, mergeS_fuel n _ _ _ (by simp; omega), mergeS_fuel n _ _ _ (by omega), mergeS_fuel n _ _ _ (by simp; omega)]
/-- What two come to that rise. -/
theorem mergeS_is : ∀ (n : Nat) (out a b : List Sm), a.length + b.length ≤ n → UpS a → UpS b → ∃ m, mergeS n out a b = out ++ m ∧ UpS m ∧ (∀ z ∈ m, z ∈ a ∨ z ∈ b) ∧ ∀ t, lookS t m = (lookS t b).or (lookS t a)
  | 0, out, a, b, hn, _, _ => ⟨[], by simp [mergeS], .nil, by simp, fun t => by
      have : a = [] := List.length_eq_zero_iff.1 (by omega)
      have : b = [] := List.length_eq_zero_iff.1 (by omega)
      subst_vars; simp [lookS]⟩
  | n + 1, out, [], [], _, _, _ => ⟨[], by simp [mergeS], .nil, by simp, fun t => by simp [lookS]⟩
  | n + 1, out, x :: a, [], hn, ha, hb => by
    obtain ⟨m, h1, h2, h3, h4⟩ := mergeS_is n (out ++ [x]) a [] (by simp at hn ⊢; omega) (List.pairwise_cons.1 ha).2 hb
    refine ⟨x :: m, by rw [mergeS, h1]; simp, List.pairwise_cons.2 ⟨fun z hz => ?_, h2⟩, fun z hz => ?_, fun t => ?_⟩
    · rcases h3 z hz with h | h
      · exact (List.pairwise_cons.1 ha).1 z h
      · cases h
    · rcases List.mem_cons.1 hz with rfl | hz
      · exact .inl (by simp)
      · rcases h3 z hz with h | h
        · exact .inl (by simp [h])
        · exact .inr h
    · have := h4 t
      simp only [lookS, Option.none_or] at this ⊢
      rw [this]
  | n + 1, out, [], y :: b, hn, ha, hb => by
    obtain ⟨m, h1, h2, h3, h4⟩ := mergeS_is n (out ++ [y]) [] b (by simp at hn ⊢; omega) ha (List.pairwise_cons.1 hb).2
    refine ⟨y :: m, by rw [mergeS, h1]; simp, List.pairwise_cons.2 ⟨fun z hz => ?_, h2⟩, fun z hz => ?_, fun t => ?_⟩
    · rcases h3 z hz with h | h
      · cases h
      · exact (List.pairwise_cons.1 hb).1 z h
    · rcases List.mem_cons.1 hz with rfl | hz
      · exact .inr (by simp)
      · rcases h3 z hz with h | h
        · exact .inl h
        · exact .inr (by simp [h])
    · have := h4 t
      simp only [lookS, Option.or_none] at this ⊢
      rw [this]
  | n + 1, out, x :: a, y :: b, hn, ha, hb => by
    have hax := (List.pairwise_cons.1 ha).1
    have hby := (List.pairwise_cons.1 hb).1
    have noA : ∀ t, (∀ z ∈ a, t < z.time) → lookS t a = none := fun t h => lookS_none.2 fun z hz e => by have := h z hz; omega
    have noB : ∀ t, (∀ z ∈ b, t < z.time) → lookS t b = none := fun t h => lookS_none.2 fun z hz e => by have := h z hz; omega
    by_cases h : x.time < y.time
    · obtain ⟨m, h1, h2, h3, h4⟩ := mergeS_is n (out ++ [x]) a (y :: b) (by simp at hn ⊢; omega) (List.pairwise_cons.1 ha).2 hb
      refine ⟨x :: m, by rw [mergeS, if_pos h, h1]; simp, List.pairwise_cons.2 ⟨fun z hz => ?_, h2⟩, fun z hz => ?_, fun t => ?_⟩
      · rcases h3 z hz with hz | hz
        · exact hax z hz
        · rcases List.mem_cons.1 hz with rfl | hz
          · exact h
          · exact Int.lt_trans h (hby z hz)
      · rcases List.mem_cons.1 hz with rfl | hz
        · exact .inl (by simp)
        · rcases h3 z hz with h | h
          · exact .inl (by simp [h])
          · exact .inr h
      · rw [show lookS t (x :: m) = if x.time = t then some x else lookS t m from rfl, h4 t, show lookS t (x :: a) = if x.time = t then some x else lookS t a from rfl]
        by_cases ht : x.time = t
        · subst ht
          have e : lookS x.time (y :: b) = none := lookS_none.2 fun z hz => by
            rcases List.mem_cons.1 hz with rfl | hz
            · omega
            · have := hby z hz; omega
          rw [if_pos rfl, if_pos rfl, e]
          rfl
        · rw [if_neg ht, if_neg ht]
    · by_cases he : x.time = y.time
      · obtain ⟨m, h1, h2, h3, h4⟩ := mergeS_is n (out ++ [y]) a b (by simp at hn ⊢; omega) (List.pairwise_cons.1 ha).2 (List.pairwise_cons.1 hb).2
        refine ⟨y :: m, by rw [mergeS, if_neg h, if_pos he, h1]; simp, List.pairwise_cons.2 ⟨fun z hz => ?_, h2⟩, fun z hz => ?_, fun t => ?_⟩
        · rcases h3 z hz with hz | hz
          · have := hax z hz; show y.time < z.time; omega
          · exact hby z hz
        · rcases List.mem_cons.1 hz with rfl | hz
          · exact .inr (by simp)
          · rcases h3 z hz with h | h
            · exact .inl (by simp [h])
            · exact .inr (by simp [h])
        · rw [show lookS t (y :: m) = if y.time = t then some y else lookS t m from rfl, h4 t, show lookS t (x :: a) = if x.time = t then some x else lookS t a from rfl, show lookS t (y :: b) = if y.time = t then some y else lookS t b from rfl]
          by_cases ht : y.time = t
          · rw [if_pos ht, if_pos ht]; rfl
          · rw [if_neg ht, if_neg ht, if_neg (fun e => ht (by rw [← he]; exact e))]
      · obtain ⟨m, h1, h2, h3, h4⟩ := mergeS_is n (out ++ [y]) (x :: a) b (by simp at hn ⊢; omega) ha (List.pairwise_cons.1 hb).2
        refine ⟨y :: m, by rw [mergeS, if_neg h, if_neg he, h1]; simp, List.pairwise_cons.2 ⟨fun z hz => ?_, h2⟩, fun z hz => ?_, fun t => ?_⟩
        · rcases h3 z hz with hz | hz
          · rcases List.mem_cons.1 hz with rfl | hz
            · show y.time < z.time; omega
            · have := hax z hz; show y.time < z.time; omega
          · exact hby z hz
        · rcases List.mem_cons.1 hz with rfl | hz
          · exact .inr (by simp)
          · rcases h3 z hz with h | h
            · exact .inl h
            · exact .inr (by simp [h])
        · rw [show lookS t (y :: m) = if y.time = t then some y else lookS t m from rfl, h4 t, show lookS t (y :: b) = if y.time = t then some y else lookS t b from rfl]
          by_cases ht : y.time = t
          · rw [if_pos ht, if_pos ht]; rfl
          · rw [if_neg ht, if_neg ht]
theorem merge_sets {n : Nat} {a b : List Sm} (hn : a.length + b.length ≤ n) (ha : UpS a) (hb : UpS b) : mergeS n [] a b = sortS (atM (a ++ b)) := by
  obtain ⟨m, h1, h2, _, h4⟩ := mergeS_is n [] a b hn ha hb
  rw [h1, List.nil_append]
  refine sortS_is (atM_nodup _) (perm_of_lookS h2.nodup (atM_nodup _) fun t => ?_) (h2.imp fun h => Int.le_of_lt h)
  rw [h4 t]
  unfold atM
  rw [List.foldl_append, putF_look t b _ hb.nodup, putF_look t a [] ha.nodup]
  simp [lookS]
end Go.PL
