/-
  Plain laws on buckets: no program is in sight.
-/
import Derived.Test.YtaahmenpcpjbhaaGreatDoorK01
import Derived.Test.YtaahmenpcpjbhaaGreatDoorK06
import Derived.Laws.Strings
namespace Go.PL
open Go

abbrev w64 (x : Int) : Int := IntKind.i64.wrap x

theorem w64_eq (x : Int) : w64 x = (x + 9223372036854775808) % 18446744073709551616 - 9223372036854775808 := by
  unfold w64; rw [IntKind.wrap_i64]
theorem w64_id {x : Int} (h : -9223372036854775808 ≤ x) (h' : x ≤ 9223372036854775807) : w64 x = x := by rw [w64_eq]; omega
theorem w64_w64 (x : Int) : w64 (w64 x) = w64 x := by simp only [w64_eq]; omega
theorem w64_add_l (x y : Int) : w64 (w64 x + y) = w64 (x + y) := by simp only [w64_eq]; omega
theorem w64_add_r (x y : Int) : w64 (x + w64 y) = w64 (x + y) := by simp only [w64_eq]; omega

structure Bk where
  start : Int
  count : Int
  sum : Int
  min : Int
  max : Int
  deriving DecidableEq
structure Sm where
  time : Int
  value : Int
  deriving DecidableEq

def bothF (a b : Bk) : Bk := ⟨a.start, w64 (a.count + b.count), w64 (a.sum + b.sum), if b.min < a.min then b.min else a.min, if b.max > a.max then b.max else a.max⟩
def addF (l : List Bk) (b : Bk) : List Bk := match l.getLast? with
  | some x => if x.start = b.start then l.dropLast ++ [bothF x b] else l ++ [b]
  | none => l ++ [b]
def floorF (t s : Int) : Int := if t.tmod s < 0 then w64 (t - w64 (t.tmod s + s)) else w64 (t - t.tmod s)
def oneF (s : Int) (x : Sm) : Bk := ⟨floorF x.time s, 1, x.value, x.value, x.value⟩
def addsF (out : List Bk) (l : List Bk) : List Bk := l.foldl addF out
def upF (l : List Sm) (s : Int) : List Bk := addsF [] (l.map (oneF s))
def widen (s : Int) (b : Bk) : Bk := { b with start := floorF b.start s }
def widerF (l : List Bk) (s : Int) : List Bk := addsF [] (l.map (widen s))

def mergeF : Nat → List Bk → List Bk → List Bk → List Bk
  | 0, out, _, _ => out
  | _ + 1, out, [], [] => out
  | n + 1, out, x :: a, [] => mergeF n (addF out x) a []
  | n + 1, out, [], y :: b => mergeF n (addF out y) [] b
  | n + 1, out, x :: a, y :: b => if x.start ≤ y.start then mergeF n (addF out x) a (y :: b) else mergeF n (addF out y) (x :: a) b

theorem addF_nil (b : Bk) : addF [] b = [b] := rfl
theorem addF_snoc (l : List Bk) (x b : Bk) : addF (l ++ [x]) b = if x.start = b.start then l ++ [bothF x b] else l ++ [x, b] := by
  unfold addF
  simp
theorem addF_ne {l : List Bk} {b : Bk} : ∃ l' x, addF l b = l' ++ [x] ∧ x.start = b.start := by
  rcases List.eq_nil_or_concat l with rfl | ⟨l', x, e⟩
  · exact ⟨[], b, rfl, rfl⟩
  · rw [List.concat_eq_append] at e
    subst e
    rw [addF_snoc]
    by_cases h : x.start = b.start
    · rw [if_pos h]; exact ⟨l', _, rfl, h⟩
    · rw [if_neg h]; exact ⟨l' ++ [x], b, by simp, rfl⟩

theorem bothF_assoc (a b c : Bk) : bothF (bothF a b) c = bothF a (bothF b c) := by
  unfold bothF
  simp only [Bk.mk.injEq, true_and]
  refine ⟨by rw [w64_add_l, w64_add_r]; congr 1; omega, by rw [w64_add_l, w64_add_r]; congr 1; omega, ?_, ?_⟩
  · repeat' split
    all_goals omega
  · repeat' split
    all_goals omega
theorem bothF_comm {a b : Bk} (h : a.start = b.start) : bothF a b = bothF b a := by
  unfold bothF
  simp only [Bk.mk.injEq]
  refine ⟨h, by congr 1; omega, by congr 1; omega, ?_, ?_⟩
  · split <;> split <;> omega
  · split <;> split <;> omega

theorem addF_addF {out : List Bk} {y x : Bk} (h : y.start = x.start) : addF (addF out y) x = addF out (bothF y x) := by
  rcases List.eq_nil_or_concat out with rfl | ⟨l', z, e⟩
  · rw [addF_nil, addF_nil]
    have := addF_snoc [] y x
    rw [if_pos h] at this
    simpa using this
  · rw [List.concat_eq_append] at e
    subst e
    rw [addF_snoc l' z y, addF_snoc l' z (bothF y x)]
    by_cases hz : z.start = y.start
    · have h1 : z.start = (bothF y x).start := hz
      rw [if_pos hz, if_pos h1, addF_snoc, if_pos (show (bothF z y).start = x.start from hz.trans h), bothF_assoc]
    · have h1 : ¬ z.start = (bothF y x).start := hz
      rw [if_neg hz, if_neg h1]
      have : l' ++ [z, y] = (l' ++ [z]) ++ [y] := by simp
      rw [this, addF_snoc, if_pos h]
      simp

theorem addsF_snoc (out l : List Bk) (b : Bk) : addsF out (l ++ [b]) = addF (addsF out l) b := by
  unfold addsF; rw [List.foldl_append]; rfl
theorem addsF_app (out l m : List Bk) : addsF out (l ++ m) = addsF (addsF out l) m := by
  unfold addsF; rw [List.foldl_append]

/-- What was put together already, put together once more. -/
theorem regroup (f : Bk → Bk) (hf : ∀ x y : Bk, x.start = y.start → (f x).start = (f y).start ∧ f (bothF x y) = bothF (f x) (f y)) (out : List Bk) (l : List Bk) : addsF out ((addsF [] l).map f) = addsF out (l.map f) := by
  induction hn : l.length generalizing l with
  | zero => have : l = [] := List.length_eq_zero_iff.1 hn; subst this; rfl
  | succ n ih =>
    rcases List.eq_nil_or_concat l with rfl | ⟨l', x, e⟩
    · simp at hn
    · rw [List.concat_eq_append] at e
      subst e
      have ih' := ih l' (by simpa using hn)
      rw [addsF_snoc, List.map_append]
      rw [show List.map f [x] = [f x] from rfl, addsF_snoc, ← ih']
      rcases List.eq_nil_or_concat (addsF [] l') with e | ⟨m, y, e⟩
      · rw [e]; rfl
      · rw [List.concat_eq_append] at e
        rw [e, addF_snoc]
        by_cases h : y.start = x.start
        · rw [if_pos h, List.map_append, List.map_append]
          rw [show List.map f [bothF y x] = [f (bothF y x)] from rfl, show List.map f [y] = [f y] from rfl, addsF_snoc, addsF_snoc]
          rw [addF_addF (hf y x h).1, (hf y x h).2]
        · rw [if_neg h]
          rw [show m ++ [y, x] = (m ++ [y]) ++ [x] by simp, List.map_append (l₂ := [x])]
          rw [show List.map f [x] = [f x] from rfl, addsF_snoc]

theorem regroup_id (out l : List Bk) : addsF out (addsF [] l) = addsF out l := by
  have := regroup id (fun x y h => ⟨h, rfl⟩) out l
  simpa using this

theorem upF_app (a b : List Sm) (s : Int) : addsF (upF a s) (upF b s) = upF (a ++ b) s := by
  unfold upF
  rw [regroup_id, List.map_append, addsF_app]

theorem widen_up (l : List Sm) (s wide : Int) (h : ∀ x ∈ l, floorF (floorF x.time s) wide = floorF x.time wide) : widerF (upF l s) wide = upF l wide := by
  unfold widerF upF
  rw [regroup (widen wide) (fun x y h => ⟨by unfold widen; simp only; rw [h], rfl⟩)]
  rw [List.map_map]
  congr 1
  refine List.map_congr_left fun x hx => ?_
  simp only [Function.comp, widen, oneF, h x hx]

theorem floorF_eq {t s : Int} (h1 : 1 ≤ s) (h2 : s ≤ 4398046511104) (h3 : -4398046511104 ≤ t) (h4 : t ≤ 4398046511104) : floorF t s = t - t % s := by
  have ht := Int.tmod_eq_emod (a := t) (b := s)
  have e1 := Int.emod_nonneg t (show s ≠ 0 by omega)
  have e2 := Int.emod_lt_of_pos t (show 0 < s by omega)
  have hs : (s.natAbs : Int) = s := by omega
  unfold floorF
  by_cases hc : 0 ≤ t ∨ s ∣ t
  · rw [if_pos hc] at ht
    rw [if_neg (by omega), w64_id (by omega) (by omega)]
    omega
  · rw [if_neg hc] at ht
    rw [hs] at ht
    rw [if_pos (by omega), w64_id (x := t.tmod s + s) (by omega) (by omega), w64_id (by omega) (by omega)]
    omega

theorem floor_floor {t s k : Int} (h1 : 1 ≤ s) (h2 : s ≤ 1048576) (h3 : 1 ≤ k) (h4 : k ≤ 1048576) (h5 : -1099511627776 ≤ t) (h6 : t ≤ 1099511627776) : floorF (floorF t s) (s * k) = floorF t (s * k) := by
  have hk1 : s * k ≤ 1048576 * 1048576 := Int.mul_le_mul h2 h4 (by omega) (by omega)
  have hk2 : 1 * 1 ≤ s * k := Int.mul_le_mul h1 h3 (by omega) (by omega)
  have e1 := Int.emod_nonneg t (show s ≠ 0 by omega)
  have e2 := Int.emod_lt_of_pos t (show 0 < s by omega)
  rw [floorF_eq (s := s) h1 (by omega) (by omega) (by omega)]
  rw [floorF_eq (by omega) (by omega) (by omega) (by omega), floorF_eq (by omega) (by omega) (by omega) (by omega)]
  have d1 : t - t % s = s * (t / s) := by have := Int.mul_ediv_add_emod t s; omega
  have d2 : t - t % (s * k) = s * k * (t / (s * k)) := by have := Int.mul_ediv_add_emod t (s * k); omega
  rw [d1, d2, Int.mul_emod_mul_of_pos _ _ (by omega : 0 < s)]
  have d3 : t / (s * k) = t / s / k := by rw [Int.ediv_ediv_of_nonneg (by omega)]
  rw [d3, Int.mul_assoc, ← Int.mul_sub]
  congr 1
  have := Int.mul_ediv_add_emod (t / s) k
  omega

/-! ### Merge -/

theorem merge_left : ∀ (n : Nat) (out a b : List Bk), a.length + b.length ≤ n → (∀ x ∈ a, ∀ y ∈ b, x.start ≤ y.start) → mergeF n out a b = addsF (addsF out a) b
  | 0, out, a, b, h, _ => by
    have ha : a = [] := List.length_eq_zero_iff.1 (by omega)
    have hb : b = [] := List.length_eq_zero_iff.1 (by omega)
    subst ha hb; rfl
  | n + 1, out, [], [], _, _ => rfl
  | n + 1, out, x :: a, [], h, hs => by
    unfold mergeF
    rw [merge_left n _ a [] (by simp at h ⊢; omega) (by simp)]
    rfl
  | n + 1, out, [], y :: b, h, hs => by
    unfold mergeF
    rw [merge_left n _ [] b (by simp at h ⊢; omega) (by simp)]
    rfl
  | n + 1, out, x :: a, y :: b, h, hs => by
    unfold mergeF
    rw [if_pos (hs x (by simp) y (by simp))]
    rw [merge_left n _ a (y :: b) (by simp at h ⊢; omega) (fun x' hx y' hy => hs x' (List.mem_cons_of_mem _ hx) y' hy)]
    rfl

abbrev Up (l : List Bk) : Prop := l.Pairwise (·.start < ·.start)

theorem merge_right : ∀ (n : Nat) (out a b : List Bk), a.length + b.length ≤ n → Up a → Up b → (∀ x ∈ b, ∀ y ∈ a, x.start ≤ y.start) → mergeF n out a b = addsF (addsF out b) a
  | 0, out, a, b, h, _, _, _ => by
    have ha : a = [] := List.length_eq_zero_iff.1 (by omega)
    have hb : b = [] := List.length_eq_zero_iff.1 (by omega)
    subst ha hb; rfl
  | n + 1, out, [], [], _, _, _, _ => rfl
  | n + 1, out, y :: a, [], h, ha, hb, hs => by
    unfold mergeF
    rw [merge_right n _ a [] (by simp at h ⊢; omega) (List.pairwise_cons.1 ha).2 hb (by simp)]
    rfl
  | n + 1, out, [], x :: b, h, ha, hb, hs => by
    unfold mergeF
    rw [merge_right n _ [] b (by simp at h ⊢; omega) ha (List.pairwise_cons.1 hb).2 (by simp)]
    rfl
  | n + 1, out, y :: a, x :: b, h, ha, hb, hs => by
    unfold mergeF
    have hxy := hs x (by simp) y (by simp)
    by_cases hc : y.start ≤ x.start
    · rw [if_pos hc]
      have e : y.start = x.start := by omega
      have hb' : b = [] := by
        cases b with
        | nil => rfl
        | cons z b =>
          have h1 := (List.pairwise_cons.1 hb).1 z (by simp)
          have h2 := hs z (by simp) y (by simp)
          omega
      subst hb'
      have h1 := (List.pairwise_cons.1 ha).1
      cases n with
      | zero => simp at h
      | succ n =>
        have step : mergeF (n + 1) (addF out y) a [x] = mergeF n (addF (addF out y) x) a [] := by
          cases a with
          | nil => rfl
          | cons z a =>
            have := h1 z (by simp)
            show (if z.start ≤ x.start then _ else _) = _
            rw [if_neg (by omega)]
        rw [step, merge_right n _ a [] (by simp at h ⊢; omega) (List.pairwise_cons.1 ha).2 .nil (by simp)]
        show addsF (addsF (addF (addF out y) x) []) a = addsF (addF (addF out x) y) a
        rw [addF_addF e, addF_addF e.symm, bothF_comm e]
        rfl
    · rw [if_neg hc]
      rw [merge_right n _ (y :: a) b (by simp at h ⊢; omega) ha (List.pairwise_cons.1 hb).2 (fun x' hx y' hy => hs x' (List.mem_cons_of_mem _ hx) y' hy)]
      rfl

/-! ### What buckets hold -/

def cnt (l : List Bk) : Int := (l.map (·.count)).sum
def sums (l : List Bk) : Int := (l.map (·.sum)).sum
def vals (l : List Sm) : Int := (l.map (·.value)).sum

theorem cnt_snoc (l : List Bk) (b : Bk) : cnt (l ++ [b]) = cnt l + b.count := by simp [cnt]
theorem sums_snoc (l : List Bk) (b : Bk) : sums (l ++ [b]) = sums l + b.sum := by simp [sums]
theorem vals_snoc (l : List Sm) (b : Sm) : vals (l ++ [b]) = vals l + b.value := by simp [vals]

theorem snoc_ind {α : Type} {P : List α → Prop} (h0 : P []) (h1 : ∀ l x, P l → P (l ++ [x])) (l : List α) : P l := by
  induction hn : l.length generalizing l with
  | zero => have : l = [] := List.length_eq_zero_iff.1 hn; subst this; exact h0
  | succ n ih =>
    rcases List.eq_nil_or_concat l with rfl | ⟨l', x, e⟩
    · exact h0
    · rw [List.concat_eq_append] at e
      subst e
      exact h1 l' x (ih l' (by simpa using hn))

theorem upF_snoc' (l : List Sm) (x : Sm) (s : Int) : upF (l ++ [x]) s = addF (upF l s) (oneF s x) := by
  unfold upF; rw [List.map_append]; exact addsF_snoc _ _ _

theorem cnt_nonneg {l : List Bk} (h : ∀ b ∈ l, 1 ≤ b.count) : 0 ≤ cnt l := by
  induction l with
  | nil => exact Int.le_refl _
  | cons x r ih =>
    have h1 := h x (by simp)
    have h2 := ih fun b hb => h b (List.mem_cons_of_mem _ hb)
    simp only [cnt, List.map_cons, List.sum_cons] at h2 ⊢
    omega

/-- Each bucket: a multiple of the span, the least no greater than the greatest, one sample at least; all together so many. -/
structure Held (s : Int) (l : List Sm) (o : List Bk) : Prop where
  each : ∀ b ∈ o, 1 ≤ b.count ∧ b.min ≤ b.max ∧ ∃ x ∈ l, b.start = floorF x.time s
  cnt : cnt o = l.length
  sum : w64 (sums o) = w64 (vals l)

theorem held (s : Int) (l : List Sm) : l.length ≤ 1000000 → Held s l (upF l s) := by
  refine snoc_ind (P := fun l => l.length ≤ 1000000 → Held s l (upF l s)) (fun _ => ⟨by simp [upF, addsF], rfl, rfl⟩) (fun l x ih hlen => ?_) l
  simp only [List.length_append, List.length_cons, List.length_nil] at hlen
  obtain ⟨i1, i2, i3⟩ := ih (by omega)
  rw [upF_snoc']
  have hin : ∀ {b : Bk}, (∃ y ∈ l, b.start = floorF y.time s) → ∃ y ∈ l ++ [x], b.start = floorF y.time s := fun ⟨y, hy, e⟩ => ⟨y, List.mem_append_left _ hy, e⟩
  rcases List.eq_nil_or_concat (upF l s) with e | ⟨m, y, e⟩
  · rw [e] at i2 i3 ⊢
    rw [addF_nil]
    refine ⟨fun b hb => ?_, ?_, ?_⟩
    · have : b = oneF s x := by simpa using hb
      subst this
      exact ⟨Int.le_refl _, Int.le_refl _, x, by simp, rfl⟩
    · simp [PL.cnt, oneF] at i2 ⊢; omega
    · rw [vals_snoc, ← w64_add_l, ← i3]
      simp [sums, oneF, w64_add_l]
  · rw [List.concat_eq_append] at e
    rw [e] at i1 i2 i3 ⊢
    rw [addF_snoc]
    rw [cnt_snoc] at i2
    rw [sums_snoc] at i3
    have hm : 0 ≤ PL.cnt m := cnt_nonneg fun b hb => (i1 b (List.mem_append_left _ hb)).1
    have hy := i1 y (by simp)
    by_cases h : y.start = (oneF s x).start
    · rw [if_pos h]
      refine ⟨fun b hb => ?_, ?_, ?_⟩
      · rcases List.mem_append.1 hb with hb | hb
        · obtain ⟨a1, a2, a3⟩ := i1 b (List.mem_append_left _ hb)
          exact ⟨a1, a2, hin a3⟩
        · have : b = bothF y (oneF s x) := by simpa using hb
          subst this
          refine ⟨?_, ?_, hin hy.2.2⟩
          · show 1 ≤ w64 (y.count + 1)
            rw [w64_id (by omega) (by omega)]; omega
          · show (if x.value < y.min then x.value else y.min) ≤ (if x.value > y.max then x.value else y.max)
            have := hy.2.1
            split <;> split <;> omega
      · rw [cnt_snoc]
        show PL.cnt m + w64 (y.count + 1) = _
        rw [w64_id (by omega) (by omega)]
        simp; omega
      · rw [sums_snoc, vals_snoc, ← w64_add_l (vals l), ← i3, w64_add_l]
        show w64 (sums m + w64 (y.sum + x.value)) = _
        rw [w64_add_r]
        congr 1; omega
    · rw [if_neg h]
      rw [show m ++ [y, oneF s x] = (m ++ [y]) ++ [oneF s x] by simp]
      refine ⟨fun b hb => ?_, ?_, ?_⟩
      · rcases List.mem_append.1 hb with hb | hb
        · obtain ⟨a1, a2, a3⟩ := i1 b hb
          exact ⟨a1, a2, hin a3⟩
        · have : b = oneF s x := by simpa using hb
          subst this
          exact ⟨Int.le_refl _, Int.le_refl _, x, by simp, rfl⟩
      · rw [cnt_snoc, cnt_snoc]
        show _ + 1 = _
        simp; omega
      · rw [sums_snoc, sums_snoc, vals_snoc, ← w64_add_l (vals l), ← i3, w64_add_l]
        rfl

/-- Rising samples. -/
structure Ris (l : List Sm) : Prop where
  lo : ∀ x ∈ l, -1099511627776 ≤ x.time
  hi : ∀ x ∈ l, x.time ≤ 1099511627776
  up : l.Pairwise (·.time < ·.time)

open Classical in
noncomputable def okS (l : List Sm) : Bool := decide (Ris l ∧ l.length ≤ 2000)
theorem okS_iff (l : List Sm) : okS l = true ↔ Ris l ∧ l.length ≤ 2000 := by unfold okS; simp
def badAt (l : List Sm) (i : Nat) (x : Sm) : Prop := x.time < -1099511627776 ∨ x.time > 1099511627776 ∨ (0 < i ∧ ∃ y, l[i - 1]? = some y ∧ y.time ≥ x.time)
theorem ris_iff (l : List Sm) : Ris l ↔ ∀ i x, l[i]? = some x → ¬ badAt l i x := by
  constructor
  · rintro ⟨h1, h2, h3⟩ i x hx (h | h | ⟨hi, y, hy, h⟩)
    · have := h1 x (List.mem_of_getElem? hx); omega
    · have := h2 x (List.mem_of_getElem? hx); omega
    · obtain ⟨hi1, e1⟩ := List.getElem?_eq_some_iff.1 hx
      obtain ⟨hi2, e2⟩ := List.getElem?_eq_some_iff.1 hy
      have := List.pairwise_iff_getElem.1 h3 (i - 1) i hi2 hi1 (by omega)
      rw [e1, e2] at this
      omega
  · intro h
    have step : ∀ i, (hi : i + 1 < l.length) → l[i].time < l[i + 1].time := fun i hi => by
      have := h (i + 1) l[i + 1] (List.getElem?_eq_getElem hi)
      rcases Int.lt_or_le l[i].time l[i + 1].time with h1 | h1
      · exact h1
      · exact (this (.inr (.inr ⟨by omega, l[i], by rw [Nat.add_sub_cancel]; exact List.getElem?_eq_getElem (by omega), h1⟩))).elim
    have far : ∀ d i, (hi : i + d + 1 < l.length) → l[i].time < l[i + d + 1].time := fun d => by
      induction d with
      | zero => intro i hi; exact step i hi
      | succ d ih =>
        intro i hi
        have h1 := ih i (by omega)
        have h2 := step (i + d + 1) hi
        exact Int.lt_trans h1 h2
    refine ⟨fun x hx => ?_, fun x hx => ?_, List.pairwise_iff_getElem.2 fun i j hi hj hij => ?_⟩
    · obtain ⟨i, hi, e⟩ := List.getElem_of_mem hx
      have := h i x (by rw [List.getElem?_eq_getElem hi, e])
      rcases Int.lt_or_le x.time (-1099511627776) with h1 | h1
      · exact (this (.inl h1)).elim
      · exact h1
    · obtain ⟨i, hi, e⟩ := List.getElem_of_mem hx
      have := h i x (by rw [List.getElem?_eq_getElem hi, e])
      rcases Int.lt_or_le 1099511627776 x.time with h1 | h1
      · exact (this (.inr (.inl h1))).elim
      · exact h1
    · have := far (j - i - 1) i (by omega)
      have e : i + (j - i - 1) + 1 = j := by omega
      simp only [e] at this
      exact this
theorem okS_bad (l : List Sm) : okS l = true ↔ (∀ i x, l[i]? = some x → ¬ badAt l i x) ∧ l.length ≤ 2000 := by rw [okS_iff, ris_iff]

theorem floor_mono {t t' s : Int} (h1 : 1 ≤ s) (h2 : s ≤ 4398046511104) (h3 : -4398046511104 ≤ t) (h4 : t ≤ 4398046511104) (h5 : -4398046511104 ≤ t') (h6 : t' ≤ 4398046511104) (h : t ≤ t') : floorF t s ≤ floorF t' s := by
  rw [floorF_eq h1 h2 h3 h4, floorF_eq h1 h2 h5 h6]
  have d1 : t - t % s = s * (t / s) := by have := Int.mul_ediv_add_emod t s; omega
  have d2 : t' - t' % s = s * (t' / s) := by have := Int.mul_ediv_add_emod t' s; omega
  rw [d1, d2]
  exact Int.mul_le_mul_of_nonneg_left (Int.ediv_le_ediv (by omega) h) (by omega)

theorem addF_up {o : List Bk} {b : Bk} (h : Up o) (hb : ∀ x ∈ o, x.start ≤ b.start) : Up (addF o b) := by
  rcases List.eq_nil_or_concat o with rfl | ⟨m, y, e⟩
  · exact List.pairwise_singleton _ _
  · rw [List.concat_eq_append] at e
    subst e
    rw [addF_snoc]
    have hp := List.pairwise_append.1 h
    by_cases hy : y.start = b.start
    · rw [if_pos hy]
      refine List.pairwise_append.2 ⟨hp.1, List.pairwise_singleton _ _, fun x hx z hz => ?_⟩
      have : z = bothF y b := by simpa using hz
      subst this
      exact hp.2.2 x hx y (by simp)
    · rw [if_neg hy, show m ++ [y, b] = (m ++ [y]) ++ [b] by simp]
      refine List.pairwise_append.2 ⟨h, List.pairwise_singleton _ _, fun x hx z hz => ?_⟩
      have : z = b := by simpa using hz
      subst this
      have h1 := hb y (by simp)
      rcases List.mem_append.1 hx with hx | hx
      · have := hp.2.2 x hx y (by simp); omega
      · have : x = y := by simpa using hx
        subst this; omega

theorem addF_mem {o : List Bk} {b z : Bk} (h : z ∈ addF o b) : (∃ x ∈ o, z.start = x.start) ∨ z.start = b.start := by
  rcases List.eq_nil_or_concat o with rfl | ⟨m, y, e⟩
  · right; have : z = b := by simpa [addF_nil] using h
    rw [this]
  · rw [List.concat_eq_append] at e
    subst e
    rw [addF_snoc] at h
    by_cases hy : y.start = b.start
    · rw [if_pos hy] at h
      rcases List.mem_append.1 h with h | h
      · exact .inl ⟨z, by simp [h], rfl⟩
      · have : z = bothF y b := by simpa using h
        rw [this]; exact .inl ⟨y, by simp, rfl⟩
    · rw [if_neg hy] at h
      rcases List.mem_append.1 h with h | h
      · exact .inl ⟨z, by simp [h], rfl⟩
      · have : z = y ∨ z = b := by simpa using h
        rcases this with rfl | rfl
        · exact .inl ⟨z, by simp, rfl⟩
        · exact .inr rfl

theorem upF_up {s : Int} (h1 : 1 ≤ s) (h2 : s ≤ 4398046511104) (l : List Sm) : Ris l → Up (upF l s) ∧ ∀ z ∈ upF l s, ∃ x ∈ l, z.start = floorF x.time s := by
  refine snoc_ind (P := fun l => Ris l → Up (upF l s) ∧ ∀ z ∈ upF l s, ∃ x ∈ l, z.start = floorF x.time s) (fun _ => ⟨by simp [upF, addsF], by simp [upF, addsF]⟩) (fun l x ih hr => ?_) l
  have hp := List.pairwise_append.1 hr.up
  have hr' : Ris l := ⟨fun y hy => hr.lo y (by simp [hy]), fun y hy => hr.hi y (by simp [hy]), hp.1⟩
  obtain ⟨i1, i2⟩ := ih hr'
  rw [upF_snoc']
  refine ⟨addF_up i1 fun z hz => ?_, fun z hz => ?_⟩
  · obtain ⟨y, hy, e⟩ := i2 z hz
    rw [e]
    have a1 := hr.lo y (by simp [hy])
    have a2 := hr.hi y (by simp [hy])
    have a3 := hr.lo x (by simp)
    have a4 := hr.hi x (by simp)
    exact floor_mono h1 h2 (by omega) (by omega) (by omega) (by omega) (Int.le_of_lt (hp.2.2 y hy x (by simp)))
  · rcases addF_mem hz with ⟨y, hy, e⟩ | e
    · obtain ⟨u, hu, e'⟩ := i2 y hy
      exact ⟨u, by simp [hu], by rw [e, e']⟩
    · exact ⟨x, by simp, e⟩

theorem Ris.part {a b : List Sm} (h : Ris (a ++ b)) : Ris a ∧ Ris b ∧ ∀ x ∈ a, ∀ y ∈ b, x.time < y.time := by
  have hp := List.pairwise_append.1 h.up
  exact ⟨⟨fun y hy => h.lo y (by simp [hy]), fun y hy => h.hi y (by simp [hy]), hp.1⟩, ⟨fun y hy => h.lo y (by simp [hy]), fun y hy => h.hi y (by simp [hy]), hp.2.1⟩, hp.2.2⟩

theorem merge_up {s : Int} (h1 : 1 ≤ s) (h2 : s ≤ 4398046511104) (a b : List Sm) (h : Ris (a ++ b)) (n : Nat) (hn : (upF a s).length + (upF b s).length ≤ n) : mergeF n [] (upF a s) (upF b s) = upF (a ++ b) s ∧ mergeF n [] (upF b s) (upF a s) = upF (a ++ b) s := by
  obtain ⟨ha, hb, hab⟩ := h.part
  have hs : ∀ x ∈ upF a s, ∀ y ∈ upF b s, x.start ≤ y.start := fun x hx y hy => by
    obtain ⟨u, hu, e⟩ := (upF_up h1 h2 a ha).2 x hx
    obtain ⟨v, hv, e'⟩ := (upF_up h1 h2 b hb).2 y hy
    rw [e, e']
    have a1 := ha.lo u hu
    have a2 := ha.hi u hu
    have a3 := hb.lo v hv
    have a4 := hb.hi v hv
    exact floor_mono h1 h2 (by omega) (by omega) (by omega) (by omega) (Int.le_of_lt (hab u hu v hv))
  have e : addsF (addsF [] (upF a s)) (upF b s) = upF (a ++ b) s := by
    rw [← upF_app]
    congr 1
    unfold upF
    exact regroup_id _ _
  exact ⟨by rw [merge_left n [] _ _ hn hs, e], by rw [merge_right n [] _ _ (by omega) (upF_up h1 h2 b hb).1 (upF_up h1 h2 a ha).1 hs, e]⟩

theorem floorF_mod {t s : Int} (h1 : 1 ≤ s) (h2 : s ≤ 4398046511104) (h3 : -4398046511104 ≤ t) (h4 : t ≤ 4398046511104) : (floorF t s).tmod s = 0 ∧ floorF t s ≤ t ∧ t - floorF t s < s := by
  rw [floorF_eq h1 h2 h3 h4]
  have e1 := Int.emod_nonneg t (show s ≠ 0 by omega)
  have e2 := Int.emod_lt_of_pos t (show 0 < s by omega)
  refine ⟨?_, by omega, by omega⟩
  have d1 : t - t % s = s * (t / s) := by have := Int.mul_ediv_add_emod t s; omega
  rw [d1]
  exact Int.mul_tmod_right s _

/-- What a list of buckets holds, read one by one. -/
theorem cnt_take (l : List Bk) (i : Nat) (h : i < l.length) : cnt (l.take (i + 1)) = cnt (l.take i) + l[i].count := by
  rw [List.take_succ_eq_append_getElem h, cnt_snoc]
theorem sums_take (l : List Bk) (i : Nat) (h : i < l.length) : sums (l.take (i + 1)) = sums (l.take i) + l[i].sum := by
  rw [List.take_succ_eq_append_getElem h, sums_snoc]
theorem vals_take (l : List Sm) (i : Nat) (h : i < l.length) : vals (l.take (i + 1)) = vals (l.take i) + l[i].value := by
  rw [List.take_succ_eq_append_getElem h, vals_snoc]
end Go.PL
/-
  Samples and buckets, as the ghost machine holds them.
-/
namespace Go.Proofs.YtaahmenpcpjbhaaGreatDoor
open Go.GK Go.PL
abbrev bk (b : Bk) : List GV := [gi b.start, gi b.count, gi b.sum, gi b.min, gi b.max]
abbrev sm (x : Sm) : List GV := [gi x.time, gi x.value]
end Go.Proofs.YtaahmenpcpjbhaaGreatDoor
/-
  Plain laws on bits: no program is in sight.
-/
namespace Go.PL
open Go Go.GK

/-! ### Eight bits as a byte -/

def val8 (f : Nat → Bool) : Nat := (f 0).toNat * 128 + (f 1).toNat * 64 + (f 2).toNat * 32 + (f 3).toNat * 16 + (f 4).toNat * 8 + (f 5).toNat * 4 + (f 6).toNat * 2 + (f 7).toNat

theorem val8_lt (f : Nat → Bool) : val8 f < 256 := by
  unfold val8
  have h : ∀ b : Bool, b.toNat ≤ 1 := fun b => by cases b <;> decide
  have := h (f 0); have := h (f 1); have := h (f 2); have := h (f 3); have := h (f 4); have := h (f 5); have := h (f 6); have := h (f 7)
  omega

theorem val8_congr {f g : Nat → Bool} (h : ∀ j, j < 8 → f j = g j) : val8 f = val8 g := by
  unfold val8
  rw [h 0 (by omega), h 1 (by omega), h 2 (by omega), h 3 (by omega), h 4 (by omega), h 5 (by omega), h 6 (by omega), h 7 (by omega)]

theorem val8_or (f : Nat → Bool) (r : Nat) (hr : r < 8) (hf : f r = false) : val8 (fun j => j == r || f j) = val8 f ||| (128 >>> r) := by
  unfold val8
  match r, hr with
  | 0, _ => simp only [hf]; generalize f 1 = b1; generalize f 2 = b2; generalize f 3 = b3; generalize f 4 = b4; generalize f 5 = b5; generalize f 6 = b6; generalize f 7 = b7; revert b1 b2 b3 b4 b5 b6 b7; decide +kernel
  | 1, _ => simp only [hf]; generalize f 0 = b1; generalize f 2 = b2; generalize f 3 = b3; generalize f 4 = b4; generalize f 5 = b5; generalize f 6 = b6; generalize f 7 = b7; revert b1 b2 b3 b4 b5 b6 b7; decide +kernel
  | 2, _ => simp only [hf]; generalize f 0 = b1; generalize f 1 = b2; generalize f 3 = b3; generalize f 4 = b4; generalize f 5 = b5; generalize f 6 = b6; generalize f 7 = b7; revert b1 b2 b3 b4 b5 b6 b7; decide +kernel
  | 3, _ => simp only [hf]; generalize f 0 = b1; generalize f 1 = b2; generalize f 2 = b3; generalize f 4 = b4; generalize f 5 = b5; generalize f 6 = b6; generalize f 7 = b7; revert b1 b2 b3 b4 b5 b6 b7; decide +kernel
  | 4, _ => simp only [hf]; generalize f 0 = b1; generalize f 1 = b2; generalize f 2 = b3; generalize f 3 = b4; generalize f 5 = b5; generalize f 6 = b6; generalize f 7 = b7; revert b1 b2 b3 b4 b5 b6 b7; decide +kernel
  | 5, _ => simp only [hf]; generalize f 0 = b1; generalize f 1 = b2; generalize f 2 = b3; generalize f 3 = b4; generalize f 4 = b5; generalize f 6 = b6; generalize f 7 = b7; revert b1 b2 b3 b4 b5 b6 b7; decide +kernel
  | 6, _ => simp only [hf]; generalize f 0 = b1; generalize f 1 = b2; generalize f 2 = b3; generalize f 3 = b4; generalize f 4 = b5; generalize f 5 = b6; generalize f 7 = b7; revert b1 b2 b3 b4 b5 b6 b7; decide +kernel
  | 7, _ => simp only [hf]; generalize f 0 = b1; generalize f 1 = b2; generalize f 2 = b3; generalize f 3 = b4; generalize f 4 = b5; generalize f 5 = b6; generalize f 6 = b7; revert b1 b2 b3 b4 b5 b6 b7; decide +kernel

theorem val8_bit (f : Nat → Bool) (r : Nat) (hr : r < 8) : (val8 f).testBit (7 - r) = f r := by
  unfold val8
  generalize h0 : f 0 = b0; generalize h1 : f 1 = b1; generalize h2 : f 2 = b2; generalize h3 : f 3 = b3; generalize h4 : f 4 = b4; generalize h5 : f 5 = b5; generalize h6 : f 6 = b6; generalize h7 : f 7 = b7
  match r, hr with
  | 0, _ => rw [h0]; clear h0 h1 h2 h3 h4 h5 h6 h7; revert b0 b1 b2 b3 b4 b5 b6 b7; decide +kernel
  | 1, _ => rw [h1]; clear h0 h1 h2 h3 h4 h5 h6 h7; revert b0 b1 b2 b3 b4 b5 b6 b7; decide +kernel
  | 2, _ => rw [h2]; clear h0 h1 h2 h3 h4 h5 h6 h7; revert b0 b1 b2 b3 b4 b5 b6 b7; decide +kernel
  | 3, _ => rw [h3]; clear h0 h1 h2 h3 h4 h5 h6 h7; revert b0 b1 b2 b3 b4 b5 b6 b7; decide +kernel
  | 4, _ => rw [h4]; clear h0 h1 h2 h3 h4 h5 h6 h7; revert b0 b1 b2 b3 b4 b5 b6 b7; decide +kernel
  | 5, _ => rw [h5]; clear h0 h1 h2 h3 h4 h5 h6 h7; revert b0 b1 b2 b3 b4 b5 b6 b7; decide +kernel
  | 6, _ => rw [h6]; clear h0 h1 h2 h3 h4 h5 h6 h7; revert b0 b1 b2 b3 b4 b5 b6 b7; decide +kernel
  | 7, _ => rw [h7]; clear h0 h1 h2 h3 h4 h5 h6 h7; revert b0 b1 b2 b3 b4 b5 b6 b7; decide +kernel

/-! ### Bits as bytes -/

def bitG (bs : List Bool) (k : Nat) : Bool := bs[k]?.getD false
def byteN (bs : List Bool) (i : Nat) : Nat := val8 fun j => bitG bs (8 * i + j)
def pack (bs : List Bool) : List UInt8 := (List.range ((bs.length + 7) / 8)).map fun i => UInt8.ofNat (byteN bs i)

theorem pack_len (bs : List Bool) : (pack bs).length = (bs.length + 7) / 8 := by simp [pack]
theorem pack_get (bs : List Bool) (i : Nat) : (pack bs)[i]? = if i < (bs.length + 7) / 8 then some (UInt8.ofNat (byteN bs i)) else none := by
  unfold pack
  rw [List.getElem?_map]
  by_cases h : i < (bs.length + 7) / 8
  · rw [if_pos h, List.getElem?_range h]; rfl
  · rw [if_neg h, List.getElem?_eq_none (by simpa using h)]; rfl

theorem bitG_snoc (bs : List Bool) (b : Bool) (k : Nat) : bitG (bs ++ [b]) k = if k = bs.length then b else bitG bs k := by
  unfold bitG
  by_cases h : k < bs.length
  · rw [List.getElem?_append_left h, if_neg (by omega)]
  · by_cases h2 : k = bs.length
    · subst h2; rw [if_pos rfl, List.getElem?_append_right (Nat.le_refl _)]; simp
    · rw [if_neg h2, List.getElem?_eq_none (by simp; omega), List.getElem?_eq_none (by omega)]
theorem bitG_ge (bs : List Bool) (k : Nat) (h : bs.length ≤ k) : bitG bs k = false := by
  unfold bitG; rw [List.getElem?_eq_none h]; rfl

theorem byteN_snocF (bs : List Bool) (i : Nat) : byteN (bs ++ [false]) i = byteN bs i := by
  unfold byteN
  refine val8_congr fun j _ => ?_
  rw [bitG_snoc]
  split
  · rename_i h; rw [bitG_ge bs _ (by omega)]
  · rfl
theorem byteN_snocT (bs : List Bool) (i : Nat) : byteN (bs ++ [true]) i = if i = bs.length / 8 then byteN bs i ||| (128 >>> (bs.length % 8)) else byteN bs i := by
  by_cases hi : i = bs.length / 8
  · rw [if_pos hi]
    unfold byteN
    rw [← val8_or (fun j => bitG bs (8 * i + j)) (bs.length % 8) (Nat.mod_lt _ (by omega)) (bitG_ge _ _ (by omega))]
    refine val8_congr fun j hj => ?_
    rw [bitG_snoc]
    by_cases h : j = bs.length % 8
    · rw [if_pos (by omega)]; simp [h]
    · rw [if_neg (by omega)]; simp [h]
  · rw [if_neg hi]
    unfold byteN
    refine val8_congr fun j hj => ?_
    rw [bitG_snoc, if_neg (by omega)]

theorem pack_F (bs : List Bool) : pack (bs ++ [false]) = if bs.length % 8 = 0 then pack bs ++ [0] else pack bs := by
  by_cases h : bs.length % 8 = 0
  · rw [if_pos h]
    refine List.ext_getElem? fun i => ?_
    rw [pack_get]
    by_cases h1 : i < (pack bs).length
    · rw [List.getElem?_append_left h1, pack_get]
      rw [pack_len] at h1
      rw [if_pos h1, if_pos (by simp; omega), byteN_snocF]
    · rw [List.getElem?_append_right (by omega)]
      rw [pack_len] at h1 ⊢
      by_cases h2 : i = (bs.length + 7) / 8
      · subst h2
        rw [if_pos (by simp; omega), Nat.sub_self, byteN_snocF]
        have : byteN bs ((bs.length + 7) / 8) = 0 := by
          unfold byteN
          rw [val8_congr (g := fun _ => false) (fun j _ => bitG_ge _ _ (by omega))]
          rfl
        rw [this]; rfl
      · rw [if_neg (by simp; omega), List.getElem?_eq_none (by simp; omega)]
  · rw [if_neg h]
    refine List.ext_getElem? fun i => ?_
    rw [pack_get, pack_get, byteN_snocF]
    have : (bs ++ [false]).length = bs.length + 1 := by simp
    rw [this, show (bs.length + 1 + 7) / 8 = (bs.length + 7) / 8 by omega]

theorem pack_T (bs : List Bool) : (pack (bs ++ [false])).set (bs.length / 8) (UInt8.ofNat (byteN bs (bs.length / 8) ||| (128 >>> (bs.length % 8)))) = pack (bs ++ [true]) := by
  refine List.ext_getElem? fun i => ?_
  have e1 : (bs ++ [false]).length = bs.length + 1 := by simp
  have e2 : (bs ++ [true]).length = bs.length + 1 := by simp
  rw [pack_get, byteN_snocT, e2]
  by_cases hi : bs.length / 8 = i
  · subst hi
    rw [List.getElem?_set_self (by rw [pack_len, e1]; omega), if_pos (by omega), if_pos rfl]
  · have hi' : ¬ i = bs.length / 8 := fun h => hi h.symm
    rw [List.getElem?_set_ne hi, pack_get, e1, byteN_snocF]
    simp only [if_neg hi']

theorem pack_at (bs : List Bool) : (pack (bs ++ [false]))[bs.length / 8]? = some (UInt8.ofNat (byteN bs (bs.length / 8))) := by
  rw [pack_get, byteN_snocF, if_pos (by simp; omega)]

/-! ### Bytes as bits -/

def byteBits (x : UInt8) : List Bool := (List.range 8).map fun j => x.toNat.testBit (7 - j)
def bitsOf (s : List UInt8) : List Bool := s.flatMap byteBits

theorem bitsOf_len (s : List UInt8) : (bitsOf s).length = 8 * s.length := by
  unfold bitsOf
  induction s with
  | nil => rfl
  | cons x s ih => simp only [List.flatMap_cons, List.length_append, ih, List.length_cons]; simp [byteBits]; omega

theorem bitsOf_get (s : List UInt8) (k : Nat) : (bitsOf s)[k]? = (s[k / 8]?).map fun x => x.toNat.testBit (7 - k % 8) := by
  unfold bitsOf
  induction s generalizing k with
  | nil => simp
  | cons x s ih =>
    have h8 : (byteBits x).length = 8 := by simp [byteBits]
    rw [List.flatMap_cons]
    by_cases h : k < 8
    · rw [List.getElem?_append_left (by omega), show k / 8 = 0 by omega, show k % 8 = k by omega]
      simp [byteBits, h]
    · rw [List.getElem?_append_right (by omega), h8, ih, show k / 8 = (k - 8) / 8 + 1 by omega, show (k - 8) % 8 = k % 8 by omega]
      rfl

theorem bitsOf_pack (bs : List Bool) : bitsOf (pack bs) = bs ++ List.replicate (8 * ((bs.length + 7) / 8) - bs.length) false := by
  refine List.ext_getElem? fun k => ?_
  rw [bitsOf_get, pack_get]
  by_cases h : k / 8 < (bs.length + 7) / 8
  · rw [if_pos h]
    simp only [Option.map_some]
    have hb : (UInt8.ofNat (byteN bs (k / 8))).toNat = byteN bs (k / 8) := by
      have := val8_lt (fun j => bitG bs (8 * (k / 8) + j))
      show (UInt8.ofNat (byteN bs (k / 8))).toNat = _
      simp only [UInt8.toNat_ofNat']
      exact Nat.mod_eq_of_lt this
    rw [hb]
    unfold byteN
    rw [val8_bit _ _ (Nat.mod_lt _ (by omega)), show 8 * (k / 8) + k % 8 = k by omega]
    by_cases h2 : k < bs.length
    · rw [List.getElem?_append_left h2]
      unfold bitG
      rw [List.getElem?_eq_getElem h2]; rfl
    · rw [List.getElem?_append_right (by omega), bitG_ge _ _ (by omega), List.getElem?_replicate, if_pos (by omega)]
  · rw [if_neg h, List.getElem?_eq_none (by simp; omega)]
    rfl

/-! ### Numbers -/

def valB (l : List Bool) : Nat := l.foldl (fun u b => 2 * u + b.toNat) 0
theorem valB_snoc (l : List Bool) (b : Bool) : valB (l ++ [b]) = 2 * valB l + b.toNat := by simp [valB]
theorem valB_lt (l : List Bool) : valB l < 2 ^ l.length := by
  refine snoc_ind (P := fun l => valB l < 2 ^ l.length) (by decide) (fun l b ih => ?_) l
  rw [valB_snoc, List.length_append, List.length_singleton, Nat.pow_succ]
  cases b <;> simp <;> omega

def lowBits (u k : Nat) : List Bool := ((List.range k).map fun i => u.testBit i).reverse
theorem lowBits_len (u k : Nat) : (lowBits u k).length = k := by simp [lowBits]
theorem lowBits_succ (u k : Nat) : lowBits u (k + 1) = u.testBit k :: lowBits u k := by
  unfold lowBits
  rw [List.range_succ]
  simp
theorem lowBits_get (u k i : Nat) (h : i < k) : (lowBits u k)[i]? = some (u.testBit (k - 1 - i)) := by
  unfold lowBits
  rw [List.getElem?_reverse (by simpa using h)]
  simp
  exact ⟨k - 1 - i, by rw [List.getElem?_range (by omega)], rfl⟩
theorem valB_app (a b : List Bool) : valB (a ++ b) = valB a * 2 ^ b.length + valB b := by
  refine snoc_ind (P := fun b => valB (a ++ b) = valB a * 2 ^ b.length + valB b) (by simp [valB]) (fun l x ih => ?_) b
  rw [← List.append_assoc, valB_snoc, valB_snoc, ih, List.length_append, List.length_singleton, Nat.pow_succ]
  rw [Nat.mul_add, ← Nat.mul_assoc, Nat.mul_comm 2, Nat.mul_assoc, Nat.mul_comm 2]
  omega
theorem valB_low (u k : Nat) : valB (lowBits u k) = u % 2 ^ k := by
  induction k with
  | zero => simp [lowBits, valB]; omega
  | succ k ih =>
    rw [lowBits_succ, show u.testBit k :: lowBits u k = [u.testBit k] ++ lowBits u k from rfl, valB_app, ih, lowBits_len]
    have h1 : valB [u.testBit k] = (u.testBit k).toNat := by simp [valB]
    have h2 : (u.testBit k).toNat = u / 2 ^ k % 2 := by
      rw [Nat.testBit_eq_decide_div_mod_eq]
      rcases Nat.mod_two_eq_zero_or_one (u / 2 ^ k) with h | h <;> rw [h] <;> rfl
    rw [h1, h2, Nat.mod_pow_succ, Nat.mul_comm]
    omega

def zigF (n : Int) : Nat := if n < 0 then (-2 * n - 1).toNat else (2 * n).toNat
def zagF (u : Nat) : Int := if u % 2 = 0 then (u / 2 : Nat) else -((u / 2 : Nat) : Int) - 1
theorem zag_zig (n : Int) : zagF (zigF n) = n := by
  unfold zagF zigF
  by_cases h : n < 0
  · rw [if_pos h, if_neg (by omega)]; omega
  · rw [if_neg h, if_pos (by omega)]; omega
theorem zig_zag (u : Nat) : zigF (zagF u) = u := by
  unfold zagF zigF
  by_cases h : u % 2 = 0
  · rw [if_pos h, if_neg (by omega)]; omega
  · rw [if_neg h, if_pos (by omega)]; omega
theorem zig_lt {n : Int} (h1 : -9223372036854775808 ≤ n) (h2 : n ≤ 9223372036854775807) : zigF n < 18446744073709551616 := by
  unfold zigF; split <;> omega

def sizeF (k : Nat) : Nat := [0, 4, 7, 12, 20, 32, 64].getD k 0
def clsF (u : Nat) : Nat := if u < 1 then 0 else if u < 16 then 1 else if u < 128 then 2 else if u < 4096 then 3 else if u < 1048576 then 4 else if u < 4294967296 then 5 else 6
theorem clsF_le (u : Nat) : clsF u ≤ 6 := by unfold clsF; repeat' split
                                             all_goals omega
theorem clsF_lt {u : Nat} (h : u < 18446744073709551616) : u < 2 ^ sizeF (clsF u) := by
  unfold clsF; repeat' split
  all_goals (simp [sizeF]; try omega)
theorem clsF_min {u k : Nat} (h : k < clsF u) : u >>> sizeF k ≠ 0 := by
  rw [Nat.shiftRight_eq_div_pow]
  have h6 : k < 6 := Nat.lt_of_lt_of_le h (clsF_le u)
  have hd : ∀ m, 0 < m → m ≤ u → u / m ≠ 0 := fun m hm hu => Nat.ne_of_gt (Nat.div_pos hu hm)
  unfold clsF at h
  match k, h6 with
  | 0, _ => refine hd _ (by decide) ?_; simp only [sizeF]; repeat' split at h
            all_goals (simp; omega)
  | 1, _ => refine hd _ (by decide) ?_; simp only [sizeF]; repeat' split at h
            all_goals (simp; omega)
  | 2, _ => refine hd _ (by decide) ?_; simp only [sizeF]; repeat' split at h
            all_goals (simp; omega)
  | 3, _ => refine hd _ (by decide) ?_; simp only [sizeF]; repeat' split at h
            all_goals (simp; omega)
  | 4, _ => refine hd _ (by decide) ?_; simp only [sizeF]; repeat' split at h
            all_goals (simp; omega)
  | 5, _ => refine hd _ (by decide) ?_; simp only [sizeF]; repeat' split at h
            all_goals (simp; omega)
theorem clsF_max {u k : Nat} (h : clsF u ≤ k) (hk : k < 6) : u >>> sizeF k = 0 := by
  rw [Nat.shiftRight_eq_div_pow]
  refine Nat.div_eq_of_lt ?_
  unfold clsF at h
  match k, hk with
  | 0, _ => simp only [sizeF]; repeat' split at h
            all_goals (simp; omega)
  | 1, _ => simp only [sizeF]; repeat' split at h
            all_goals (simp; omega)
  | 2, _ => simp only [sizeF]; repeat' split at h
            all_goals (simp; omega)
  | 3, _ => simp only [sizeF]; repeat' split at h
            all_goals (simp; omega)
  | 4, _ => simp only [sizeF]; repeat' split at h
            all_goals (simp; omega)
  | 5, _ => simp only [sizeF]; repeat' split at h
            all_goals (simp; omega)

/-- A number's bits. -/
def pre (k : Nat) : List Bool := List.replicate k true ++ (if k < 6 then [false] else [])
def putF (n : Int) : List Bool := pre (clsF (zigF n)) ++ lowBits (zigF n) (sizeF (clsF (zigF n)))

/-- How many 1 stand ahead; what is behind them. -/
def pfx : Nat → Nat → List Bool → Option (Nat × List Bool)
  | 0, k, bs => some (k, bs)
  | _ + 1, _, [] => none
  | n + 1, k, b :: bs => if b then pfx n (k + 1) bs else some (k, bs)

def getF (bs : List Bool) : Option (Int × List Bool) :=
  match pfx 6 0 bs with
  | none => none
  | some (k, r) => if r.length < sizeF k then none else if 0 < k ∧ valB (r.take (sizeF k)) >>> sizeF (k - 1) = 0 then none else some (zagF (valB (r.take (sizeF k))), r.drop (sizeF k))

theorem pfx_pre : ∀ (n k j : Nat) (r : List Bool), j ≤ n → k + n = 6 → pfx n k (List.replicate j true ++ (if k + j < 6 then [false] else []) ++ r) = some (k + j, r)
  | 0, k, j, r, h1, h2 => by
    have : j = 0 := by omega
    subst this
    simp [pfx, show ¬ k < 6 by omega]
  | n + 1, k, 0, r, h1, h2 => by simp [pfx, show k < 6 by omega]
  | n + 1, k, j + 1, r, h1, h2 => by
    have ih := pfx_pre n (k + 1) j r (by omega) (by omega)
    rw [show k + 1 + j = k + (j + 1) by omega] at ih
    rw [List.replicate_succ]
    simpa [pfx] using ih

theorem get_put (n : Int) (h1 : -9223372036854775808 ≤ n) (h2 : n ≤ 9223372036854775807) (r : List Bool) : getF (putF n ++ r) = some (n, r) := by
  have hz := zig_lt h1 h2
  have hl := clsF_lt hz
  have h6 := clsF_le (zigF n)
  unfold getF putF pre
  have := pfx_pre 6 0 (clsF (zigF n)) (lowBits (zigF n) (sizeF (clsF (zigF n))) ++ r) h6 rfl
  rw [Nat.zero_add] at this
  rw [List.append_assoc, this]
  simp only
  have hlen : (lowBits (zigF n) (sizeF (clsF (zigF n)))).length = sizeF (clsF (zigF n)) := lowBits_len _ _
  rw [if_neg (by simp [hlen])]
  have ht : (lowBits (zigF n) (sizeF (clsF (zigF n))) ++ r).take (sizeF (clsF (zigF n))) = lowBits (zigF n) (sizeF (clsF (zigF n))) := by
    rw [List.take_append_of_le_length (by omega), List.take_of_length_le (by omega)]
  have hd : (lowBits (zigF n) (sizeF (clsF (zigF n))) ++ r).drop (sizeF (clsF (zigF n))) = r := by
    rw [List.drop_append_of_le_length (by omega), List.drop_of_length_le (by omega)]
    rfl
  rw [ht, hd, valB_low, Nat.mod_eq_of_lt hl]
  rw [if_neg (fun h => clsF_min (by omega) h.2), zag_zig]

theorem putF_len (n : Int) : 1 ≤ (putF n).length ∧ (putF n).length ≤ 70 := by
  unfold putF pre
  have h6 := clsF_le (zigF n)
  rw [List.length_append, lowBits_len]
  generalize clsF (zigF n) = k at h6
  match k, h6 with
  | 0, _ => decide
  | 1, _ => decide
  | 2, _ => decide
  | 3, _ => decide
  | 4, _ => decide
  | 5, _ => decide
  | 6, _ => decide

/-! ### The machine's words -/

theorem wrap_u8_nat {x : Nat} (h : x < 256) : IntKind.u8.wrap (x : Int) = x := by rw [IntKind.wrap_u8]; omega
theorem wrap_u64_nat {x : Nat} (h : x < 18446744073709551616) : IntKind.u64.wrap (x : Int) = x := by rw [IntKind.wrap_u64]; omega
theorem bv8 {x : Nat} (h : x < 256) : (BitVec.ofInt IntKind.u8.bits (x : Int)).toNat = x := by
  show (BitVec.ofInt 8 (x : Int)).toNat = x
  rw [BitVec.ofInt_natCast, BitVec.toNat_ofNat]
  exact Nat.mod_eq_of_lt h
theorem bv64 {x : Nat} (h : x < 18446744073709551616) : (BitVec.ofInt IntKind.u64.bits (x : Int)).toNat = x := by
  show (BitVec.ofInt 64 (x : Int)).toNat = x
  rw [BitVec.ofInt_natCast, BitVec.toNat_ofNat]
  exact Nat.mod_eq_of_lt h
theorem or_u8 {x y : Nat} (hx : x < 256) (hy : y < 256) : bitsV .or .u8 (x : Int) (y : Int) = ((x ||| y : Nat) : Int) := by
  have h : x ||| y < 2 ^ 8 := Nat.or_lt_two_pow hx hy
  show IntKind.u8.wrap ((BitVec.ofInt IntKind.u8.bits (x : Int) ||| BitVec.ofInt IntKind.u8.bits (y : Int)).toNat : Int) = _
  rw [BitVec.toNat_or, bv8 hx, bv8 hy, wrap_u8_nat h]
theorem and_u8 {x y : Nat} (hx : x < 256) (hy : y < 256) : bitsV .and .u8 (x : Int) (y : Int) = ((x &&& y : Nat) : Int) := by
  have h : x &&& y < 256 := Nat.lt_of_le_of_lt Nat.and_le_left hx
  show IntKind.u8.wrap ((BitVec.ofInt IntKind.u8.bits (x : Int) &&& BitVec.ofInt IntKind.u8.bits (y : Int)).toNat : Int) = _
  rw [BitVec.toNat_and, bv8 hx, bv8 hy, wrap_u8_nat h]
theorem or_u64 {x y : Nat} (hx : x < 18446744073709551616) (hy : y < 18446744073709551616) : bitsV .or .u64 (x : Int) (y : Int) = ((x ||| y : Nat) : Int) := by
  have h : x ||| y < 2 ^ 64 := Nat.or_lt_two_pow hx hy
  show IntKind.u64.wrap ((BitVec.ofInt IntKind.u64.bits (x : Int) ||| BitVec.ofInt IntKind.u64.bits (y : Int)).toNat : Int) = _
  rw [BitVec.toNat_or, bv64 hx, bv64 hy, wrap_u64_nat h]
theorem and_u64 {x y : Nat} (hx : x < 18446744073709551616) (hy : y < 18446744073709551616) : bitsV .and .u64 (x : Int) (y : Int) = ((x &&& y : Nat) : Int) := by
  have h : x &&& y < 18446744073709551616 := Nat.lt_of_le_of_lt Nat.and_le_left hx
  show IntKind.u64.wrap ((BitVec.ofInt IntKind.u64.bits (x : Int) &&& BitVec.ofInt IntKind.u64.bits (y : Int)).toNat : Int) = _
  rw [BitVec.toNat_and, bv64 hx, bv64 hy, wrap_u64_nat h]
theorem fdiv_pow (x r m : Nat) (h : r ≤ m) : (x : Int).fdiv (2 ^ (min (r : Int).toNat m)) = ((x >>> r : Nat) : Int) := by
  rw [Int.toNat_natCast, Nat.min_eq_left h, Nat.shiftRight_eq_div_pow]
  have e : ((2 : Int) ^ r) = ((2 ^ r : Nat) : Int) := by simp
  rw [e, Int.fdiv_eq_ediv_of_nonneg _ (Int.natCast_nonneg _)]
  rfl
theorem ofNat_toNat8 {x : Nat} (h : x < 256) : (UInt8.ofNat x).toNat = x := by
  simp only [UInt8.toNat_ofNat']
  exact Nat.mod_eq_of_lt h
theorem bit_test {u i : Nat} : ((u >>> i &&& 1 : Nat) : Int) = (if u.testBit i then 1 else 0 : Nat) := by
  rw [Nat.and_one_is_mod, Nat.shiftRight_eq_div_pow, Nat.testBit_eq_decide_div_mod_eq]
  rcases Nat.mod_two_eq_zero_or_one (u / 2 ^ i) with h | h <;> rw [h] <;> rfl
theorem shr_lt {u i m : Nat} (hu : u < m) : u >>> i < m := by rw [Nat.shiftRight_eq_div_pow]; exact Nat.lt_of_le_of_lt (Nat.div_le_self _ _) hu
theorem low_next (u k j : Nat) (h : j < k) : (lowBits u k).take (k - (j + 1)) ++ [u.testBit j] = (lowBits u k).take (k - j) := by
  have hl := lowBits_len u k
  rw [show k - j = k - (j + 1) + 1 by omega, List.take_succ_eq_append_getElem (by omega)]
  have := lowBits_get u k (k - (j + 1)) (by omega)
  rw [List.getElem?_eq_getElem (by omega)] at this
  rw [Option.some.inj this]
  congr 3
  omega
theorem xor_zero {k : IntKind} {x : Int} : bitsV .xor k x 0 = k.wrap ((BitVec.ofInt k.bits x).toNat : Int) := by
  show k.wrap ((BitVec.ofInt k.bits x ^^^ BitVec.ofInt k.bits 0).toNat : Int) = _
  rw [BitVec.ofInt_ofNat]
  simp
theorem zig_word {n : Int} (h1 : -9223372036854775808 ≤ n) (h2 : n ≤ 9223372036854775807) : bitsV .xor .u64 (IntKind.u64.wrap (IntKind.u64.wrap n * 2 ^ (min (1 : Int).toNat 64))) (IntKind.u64.wrap (n.fdiv (2 ^ (min (63 : Int).toNat 64)))) = (zigF n : Int) := by
  have e1 : min (1 : Int).toNat 64 = 1 := by decide
  have e2 : min (63 : Int).toNat 64 = 63 := by decide
  have hx : ∃ x : Nat, x < 18446744073709551616 ∧ IntKind.u64.wrap (IntKind.u64.wrap n * 2 ^ 1) = (x : Int) := ⟨(IntKind.u64.wrap (IntKind.u64.wrap n * 2 ^ 1)).toNat, by rw [IntKind.wrap_u64]; omega, by rw [IntKind.wrap_u64]; omega⟩
  rw [e1, e2]
  obtain ⟨x, hx1, hx2⟩ := hx
  rw [hx2]
  simp only [IntKind.wrap_u64] at hx2
  rw [Int.fdiv_eq_ediv_of_nonneg _ (by decide)]
  unfold zigF
  by_cases hn : n < 0
  · have e3 : n / 2 ^ 63 = -1 := by omega
    rw [e3, if_pos hn]
    have e4 : BitVec.ofInt IntKind.u64.bits (IntKind.u64.wrap (-1)) = BitVec.allOnes 64 := by show BitVec.ofInt 64 _ = BitVec.allOnes 64; decide
    show IntKind.u64.wrap ((BitVec.ofInt IntKind.u64.bits (x : Int) ^^^ BitVec.ofInt IntKind.u64.bits (IntKind.u64.wrap (-1))).toNat : Int) = _
    rw [e4]
    show IntKind.u64.wrap ((BitVec.ofInt 64 (x : Int) ^^^ BitVec.allOnes 64).toNat : Int) = _
    rw [BitVec.xor_allOnes, BitVec.toNat_not]
    have := bv64 hx1
    rw [show IntKind.u64.bits = 64 from rfl] at this
    rw [this, IntKind.wrap_u64]
    omega
  · have e3 : n / 2 ^ 63 = 0 := by omega
    rw [e3, if_neg hn, show IntKind.u64.wrap 0 = 0 from by decide, xor_zero, bv64 hx1, wrap_u64_nat hx1]
    omega
theorem zag_word {u : Nat} (hu : u < 18446744073709551616) : bitsV .xor .i64 (IntKind.i64.wrap ((u : Int).fdiv (2 ^ (min (1 : Int).toNat 64)))) (IntKind.i64.wrap (0 - IntKind.i64.wrap (bitsV .and .u64 (u : Int) 1))) = zagF u := by
  have e1 : (u : Int).fdiv (2 ^ (min (1 : Int).toNat 64)) = ((u / 2 : Nat) : Int) := by
    have := fdiv_pow u 1 64 (by omega)
    rw [Nat.shiftRight_eq_div_pow] at this
    exact this
  have e2 : bitsV .and .u64 (u : Int) 1 = ((u % 2 : Nat) : Int) := by
    have := and_u64 (x := u) (y := 1) hu (by omega)
    rw [Nat.and_one_is_mod] at this
    exact this
  have hw : IntKind.i64.wrap ((u / 2 : Nat) : Int) = ((u / 2 : Nat) : Int) := w64_id (by omega) (by omega)
  have hbv : (BitVec.ofInt IntKind.i64.bits ((u / 2 : Nat) : Int)).toNat = u / 2 := by
    show (BitVec.ofInt 64 ((u / 2 : Nat) : Int)).toNat = u / 2
    rw [BitVec.ofInt_natCast, BitVec.toNat_ofNat]
    omega
  rw [e1, e2, hw]
  unfold zagF
  rcases Nat.mod_two_eq_zero_or_one u with h | h
  · rw [h, if_pos rfl, show IntKind.i64.wrap (0 - IntKind.i64.wrap ((0 : Nat) : Int)) = 0 from by decide, xor_zero, hbv]
    exact w64_id (by omega) (by omega)
  · rw [h, if_neg (by decide)]
    have e4 : BitVec.ofInt IntKind.i64.bits (IntKind.i64.wrap (0 - IntKind.i64.wrap ((1 : Nat) : Int))) = BitVec.allOnes 64 := by show BitVec.ofInt 64 _ = BitVec.allOnes 64; decide
    show IntKind.i64.wrap ((BitVec.ofInt IntKind.i64.bits ((u / 2 : Nat) : Int) ^^^ BitVec.ofInt IntKind.i64.bits (IntKind.i64.wrap (0 - IntKind.i64.wrap ((1 : Nat) : Int)))).toNat : Int) = _
    rw [e4]
    show IntKind.i64.wrap ((BitVec.ofInt 64 ((u / 2 : Nat) : Int) ^^^ BitVec.allOnes 64).toNat : Int) = _
    rw [BitVec.xor_allOnes, BitVec.toNat_not]
    rw [show IntKind.i64.bits = 64 from rfl] at hbv
    rw [hbv, IntKind.wrap_i64]
    omega
theorem two_or (u b : Nat) (h : b < 2) : 2 * u ||| b = 2 * u + b := by
  have := Nat.two_pow_add_eq_or_of_lt (i := 1) (b := b) (by omega) u
  simpa using this.symm
theorem rd_word (u : Nat) (x : UInt8) (r : Nat) (hr : r < 8) (hu : u < 9223372036854775808) : bitsV .or .u64 (IntKind.u64.wrap ((u : Int) * 2 ^ (min (1 : Int).toNat IntKind.u64.bits))) (IntKind.u64.wrap (bitsV .and .u8 ((x.toNat : Int).fdiv (2 ^ (min (IntKind.i64.wrap (7 - (r : Int))).toNat IntKind.u8.bits))) 1)) = ((2 * u + (x.toNat.testBit (7 - r)).toNat : Nat) : Int) := by
  have e1 : IntKind.u64.wrap ((u : Int) * 2 ^ (min (1 : Int).toNat IntKind.u64.bits)) = ((2 * u : Nat) : Int) := by
    rw [show min (1 : Int).toNat IntKind.u64.bits = 1 from rfl, show (u : Int) * 2 ^ 1 = ((2 * u : Nat) : Int) by omega]
    exact wrap_u64_nat (by omega)
  have e2 : IntKind.i64.wrap (7 - (r : Int)) = ((7 - r : Nat) : Int) := by
    have := w64_id (x := 7 - (r : Int)) (by omega) (by omega)
    show w64 _ = _
    rw [this]; omega
  have hx := x.toNat_lt
  have e3 : (x.toNat : Int).fdiv (2 ^ (min ((7 - r : Nat) : Int).toNat IntKind.u8.bits)) = ((x.toNat >>> (7 - r) : Nat) : Int) := fdiv_pow x.toNat (7 - r) 8 (by omega)
  have hb : x.toNat >>> (7 - r) &&& 1 = (x.toNat.testBit (7 - r)).toNat := by
    have h2 := Int.ofNat.inj (bit_test (u := x.toNat) (i := 7 - r))
    rw [h2]
    cases x.toNat.testBit (7 - r) <;> rfl
  have hb1 : (x.toNat.testBit (7 - r)).toNat < 2 := by cases x.toNat.testBit (7 - r) <;> decide
  rw [e1, e2, e3, show (1 : Int) = ((1 : Nat) : Int) from rfl, and_u8 (shr_lt hx) (by omega), hb, wrap_u64_nat (by omega), or_u64 (by omega) (by omega), two_or _ _ hb1]
/-- A text's bits. -/
def sb (s : ByteArray) : List Bool := bitsOf s.data.toList
theorem sb_len (s : ByteArray) : (sb s).length = 8 * s.size := by rw [sb, bitsOf_len]; rfl
theorem sb_get {s : ByteArray} {k : Nat} (h : k < 8 * s.size) : ∃ x : UInt8, s[k / 8]? = some x ∧ (sb s)[k]? = some (x.toNat.testBit (7 - k % 8)) := by
  have hk : k / 8 < s.data.size := by show k / 8 < s.size; omega
  have e : s.data.toList[k / 8]? = some (s.data[k / 8]) := by rw [Array.getElem?_toList, Array.getElem?_eq_getElem hk]
  refine ⟨s.data[k / 8], ?_, ?_⟩
  · have : k / 8 < s.size := hk
    simp [this]
    rfl
  · rw [sb, bitsOf_get, e]; rfl
theorem valB_low63 {l : List Bool} (h : l.length ≤ 63) : valB l < 9223372036854775808 := by
  have := valB_lt l
  have h2 : 2 ^ l.length ≤ 2 ^ 63 := Nat.pow_le_pow_right (by omega) h
  have : (2 : Nat) ^ 63 = 9223372036854775808 := by decide
  omega
theorem valB_low64 {l : List Bool} (h : l.length ≤ 64) : valB l < 18446744073709551616 := by
  have := valB_lt l
  have h2 : 2 ^ l.length ≤ 2 ^ 64 := Nat.pow_le_pow_right (by omega) h
  have : (2 : Nat) ^ 64 = 18446744073709551616 := by decide
  omega
theorem take_next {l : List Bool} {n i : Nat} {b : Bool} (h : l[n + i]? = some b) : (l.drop n).take (i + 1) = (l.drop n).take i ++ [b] := by
  obtain ⟨hlt, e⟩ := List.getElem?_eq_some_iff.1 h
  rw [List.take_succ_eq_append_getElem (by rw [List.length_drop]; omega)]
  congr 2
  rw [List.getElem_drop]
  exact e
/-- The bits of a text that bits were written into. -/
theorem sb_pack (bs : List Bool) : sb ⟨(pack bs).toArray⟩ = bs ++ List.replicate (8 * ((bs.length + 7) / 8) - bs.length) false := bitsOf_pack bs
theorem size_pack (bs : List Bool) : (⟨(pack bs).toArray⟩ : ByteArray).size = (bs.length + 7) / 8 := by
  show (pack bs).toArray.size = _
  rw [List.size_toArray, pack_len]
theorem valB_zero (n : Nat) : valB (List.replicate n false) = 0 := by
  induction n with
  | zero => rfl
  | succ n ih => rw [List.replicate_succ', valB_snoc, ih]; rfl
end Go.PL
/-
  Plain laws on samples in few bits: no program is in sight.
-/
namespace Go.PL
open Go Go.GK

def chunkR : List Sm → Sm → Int → Bool → List Bool
  | [], _, _, _ => []
  | x :: r, last, step, f => putF (x.time - last.time - step) ++ (putF (w64 (x.value - last.value)) ++ chunkR r x (if f then step else x.time - last.time) false)
def chunkF (l : List Sm) : List Bool := putF l.length ++ chunkR l ⟨0, 0⟩ 0 true
def enc (l : List Sm) : ByteArray := ⟨(pack (chunkF l)).toArray⟩

abbrev In64 (x : Int) : Prop := -9223372036854775808 ≤ x ∧ x ≤ 9223372036854775807
theorem w64_in (x : Int) : In64 (w64 x) := by rw [w64_eq]; constructor <;> omega
/-- Values fit. -/
def V64 (l : List Sm) : Prop := ∀ x ∈ l, In64 x.value

theorem putF_inj {a b : Int} {x y : List Bool} (ha : In64 a) (hb : In64 b) (h : putF a ++ x = putF b ++ y) : a = b ∧ x = y := by
  have h1 := get_put a ha.1 ha.2 x
  rw [h, get_put b hb.1 hb.2 y] at h1
  simp only [Option.some.injEq, Prod.mk.injEq] at h1
  exact ⟨h1.1.symm, h1.2.symm⟩

/-- Steps fit. -/
structure Fit (last : Sm) (step : Int) : Prop where
  t1 : -1099511627776 ≤ last.time
  t2 : last.time ≤ 1099511627776
  s1 : -2199023255552 ≤ step
  s2 : step ≤ 2199023255552

theorem Fit.diff {last : Sm} {step : Int} (h : Fit last step) {x : Sm} (h1 : -1099511627776 ≤ x.time) (h2 : x.time ≤ 1099511627776) : -4398046511104 ≤ x.time - last.time - step ∧ x.time - last.time - step ≤ 4398046511104 := by
  have := h.t1; have := h.t2; have := h.s1; have := h.s2
  omega
theorem Fit.next {last : Sm} {step : Int} (h : Fit last step) {x : Sm} (h1 : -1099511627776 ≤ x.time) (h2 : x.time ≤ 1099511627776) (f : Bool) : Fit x (if f then step else x.time - last.time) := by
  have := h.t1; have := h.t2; have := h.s1; have := h.s2
  refine ⟨h1, h2, ?_, ?_⟩ <;> cases f <;> simp <;> omega
theorem Fit.zero : Fit ⟨0, 0⟩ 0 := ⟨by decide, by decide, by decide, by decide⟩

theorem chunkR_inj : ∀ (l m : List Sm) (last : Sm) (step : Int) (f : Bool) (x y : List Bool), l.length = m.length → (∀ s ∈ l, -1099511627776 ≤ s.time ∧ s.time ≤ 1099511627776) → (∀ s ∈ m, -1099511627776 ≤ s.time ∧ s.time ≤ 1099511627776) → V64 l → V64 m → Fit last step →
    chunkR l last step f ++ x = chunkR m last step f ++ y → l = m ∧ x = y
  | [], [], _, _, _, x, y, _, _, _, _, _, _, h => ⟨rfl, h⟩
  | [], _ :: _, _, _, _, _, _, h, _, _, _, _, _, _ => by simp at h
  | _ :: _, [], _, _, _, _, _, h, _, _, _, _, _, _ => by simp at h
  | a :: l, b :: m, last, step, f, x, y, hl, h1, h2, h3, h4, hf, h => by
    unfold chunkR at h
    have ha := h1 a (by simp)
    have hb := h2 b (by simp)
    have da := hf.diff ha.1 ha.2
    have db := hf.diff hb.1 hb.2
    simp only [List.append_assoc] at h
    obtain ⟨e1, h⟩ := putF_inj (a := a.time - last.time - step) (b := b.time - last.time - step) ⟨by omega, by omega⟩ ⟨by omega, by omega⟩ h
    obtain ⟨e2, h⟩ := putF_inj (w64_in _) (w64_in _) h
    have et : a.time = b.time := by omega
    have ev : a.value = b.value := by
      have va := h3 a (by simp)
      have vb := h4 b (by simp)
      simp only [w64_eq] at e2
      omega
    have eab : a = b := by cases a; cases b; simp at et ev; rw [et, ev]
    subst eab
    obtain ⟨e3, e4⟩ := chunkR_inj l m a _ false x y (by simpa using hl) (fun s hs => h1 s (by simp [hs])) (fun s hs => h2 s (by simp [hs])) (fun s hs => h3 s (by simp [hs])) (fun s hs => h4 s (by simp [hs])) (hf.next ha.1 ha.2 f) h
    exact ⟨by rw [e3], e4⟩

theorem chunkF_inj {l m : List Sm} {x y : List Bool} (h1 : Ris l) (h2 : Ris m) (n1 : l.length ≤ 2000) (n2 : m.length ≤ 2000) (h3 : V64 l) (h4 : V64 m) (h : chunkF l ++ x = chunkF m ++ y) : l = m ∧ x = y := by
  unfold chunkF at h
  rw [List.append_assoc, List.append_assoc] at h
  obtain ⟨e1, h⟩ := putF_inj ⟨by omega, by omega⟩ ⟨by omega, by omega⟩ h
  exact chunkR_inj l m ⟨0, 0⟩ 0 true x y (by omega) (fun s hs => ⟨h1.lo s hs, h1.hi s hs⟩) (fun s hs => ⟨h2.lo s hs, h2.hi s hs⟩) h3 h4 .zero h

theorem enc_bits (l : List Sm) : sb (enc l) = chunkF l ++ List.replicate (8 * (((chunkF l).length + 7) / 8) - (chunkF l).length) false := sb_pack _
theorem enc_inj {l m : List Sm} (h1 : Ris l) (h2 : Ris m) (n1 : l.length ≤ 2000) (n2 : m.length ≤ 2000) (h3 : V64 l) (h4 : V64 m) (h : enc l = enc m) : l = m := by
  have := enc_bits l
  rw [h, enc_bits m] at this
  exact (chunkF_inj h2 h1 n2 n1 h4 h3 this).1.symm

theorem sb_cut (s : ByteArray) (k : Nat) : sb (s.extract 0 k) = (sb s).take (8 * k) := by
  refine List.ext_getElem? fun i => ?_
  have e : (s.extract 0 k).data.toList = s.data.toList.take k := by
    have : (s.extract 0 k).data = s.data.extract 0 k := by simp
    rw [this]
    simp
  unfold sb
  rw [e, bitsOf_get, List.getElem?_take, List.getElem?_take, bitsOf_get]
  by_cases h : i < 8 * k
  · rw [if_pos h, if_pos (by omega)]
  · rw [if_neg h, if_neg (by omega)]; rfl

/-- No beginning of what samples are written as is any. -/
theorem enc_cut {l m : List Sm} (h1 : Ris l) (h2 : Ris m) (n1 : l.length ≤ 2000) (n2 : m.length ≤ 2000) (h3 : V64 l) (h4 : V64 m) {k : Nat} (hk : k < (enc l).size) : (enc l).extract 0 k ≠ enc m := by
  intro h
  have e := sb_cut (enc l) k
  rw [h, enc_bits m] at e
  have e2 : sb (enc l) = (sb (enc l)).take (8 * k) ++ (sb (enc l)).drop (8 * k) := (List.take_append_drop _ _).symm
  rw [← e, enc_bits l, List.append_assoc] at e2
  have := (chunkF_inj h1 h2 n1 n2 h3 h4 e2).1
  subst this
  have hs := congrArg ByteArray.size h
  rw [ByteArray.size_extract] at hs
  omega

theorem chunkR_len (l : List Sm) : ∀ (last : Sm) (step : Int) (f : Bool), (chunkR l last step f).length ≤ 140 * l.length := by
  induction l with
  | nil => intro _ _ _; exact Nat.le_refl _
  | cons x l ih =>
    intro last step f
    unfold chunkR
    have a := (putF_len (x.time - last.time - step)).2
    have b := (putF_len (w64 (x.value - last.value))).2
    have c := ih x (if f then step else x.time - last.time) false
    simp only [List.length_append, List.length_cons]
    omega
theorem chunkF_len (l : List Sm) : (chunkF l).length ≤ 70 + 140 * l.length := by
  unfold chunkF
  have a := (putF_len l.length).2
  have b := chunkR_len l ⟨0, 0⟩ 0 true
  rw [List.length_append]
  omega
theorem Ris.takeN {l : List Sm} (h : Ris l) (i : Nat) : Ris (l.take i) :=
  ⟨fun x hx => h.lo x (List.mem_of_mem_take hx), fun x hx => h.hi x (List.mem_of_mem_take hx), h.up.sublist (List.take_sublist _ _)⟩
theorem Ris.dropN {l : List Sm} (h : Ris l) (i : Nat) : Ris (l.drop i) :=
  ⟨fun x hx => h.lo x (List.mem_of_mem_drop hx), fun x hx => h.hi x (List.mem_of_mem_drop hx), h.up.sublist (List.drop_sublist _ _)⟩

/-! ### Even steps -/

def evenS (t step v : Int) (k : Nat) : List Sm := (List.range k).map fun i : Nat => ⟨t + (i : Int) * step, v⟩
theorem evenS_succ (t step v : Int) (k : Nat) : evenS t step v (k + 1) = ⟨t, v⟩ :: evenS (t + step) step v k := by
  unfold evenS
  rw [List.range_succ_eq_map, List.map_cons, List.map_map]
  congr 1
  · simp
  · refine List.map_congr_left fun i _ => ?_
    simp only [Function.comp, Sm.mk.injEq, and_true]
    rw [Nat.succ_eq_add_one, Int.natCast_add, Int.add_mul]
    simp
    omega
theorem evenS_snoc (t step v : Int) (k : Nat) : evenS t step v (k + 1) = evenS t step v k ++ [⟨t + (k : Int) * step, v⟩] := by
  unfold evenS
  rw [List.range_succ, List.map_append]
  rfl
theorem even_bits (step v : Int) : ∀ (k : Nat) (t : Int), (chunkR (evenS (t + step) step v k) ⟨t, v⟩ step false).length = 2 * k
  | 0, t => rfl
  | k + 1, t => by
    rw [evenS_succ, chunkR]
    dsimp only
    have e2 : v - v = 0 := by omega
    have e3 : t + step - t = step := by omega
    simp only [e2, Int.sub_self, Bool.false_eq_true, if_false, e3, List.length_append]
    rw [even_bits step v k (t + step)]
    have : (putF 0).length = 1 := by decide
    have h0 : w64 0 = 0 := by decide
    rw [h0, this]
    omega
theorem even_len (t step v : Int) (k : Nat) : (chunkF (evenS t step v k)).length ≤ 281 + 2 * k := by
  unfold chunkF
  rw [List.length_append]
  have a := (putF_len (evenS t step v k).length).2
  have h1 : (putF 0).length = 1 := by decide
  have h0 : w64 0 = 0 := by decide
  match k with
  | 0 => show _ + ([] : List Bool).length ≤ _; simp; omega
  | 1 =>
    rw [evenS_succ, chunkR] at *
    dsimp only
    have b := (putF_len (t - 0 - 0)).2
    have c := (putF_len (w64 (v - 0))).2
    simp only [List.length_append]
    have d : ∀ x, (chunkR (evenS (t + step) step v 0) ⟨t, v⟩ x false).length = 0 := fun _ => rfl
    rw [d]
    omega
  | k + 2 =>
    rw [evenS_succ, evenS_succ, chunkR, chunkR] at *
    dsimp only
    have b := (putF_len (t - 0 - 0)).2
    have c := (putF_len (w64 (v - 0))).2
    have d := (putF_len (t + step - t - 0)).2
    have e2 : v - v = 0 := by omega
    have e3 : t + step - t = step := by omega
    simp only [if_true, e2, h0, h1, Bool.false_eq_true, if_false, e3, List.length_append] at *
    rw [even_bits step v k (t + step)]
    omega
end Go.PL
/-
  Plain laws: numbers, texts, labels, series as bytes; no program is in sight.
-/
namespace Go.PL
/-- A number's bytes, the greatest first. -/
def beN (l : List UInt8) : Nat := l.foldl (fun u b => u * 256 + b.toNat) 0
theorem beN_snoc (l : List UInt8) (b : UInt8) : beN (l ++ [b]) = beN l * 256 + b.toNat := by
  unfold beN
  rw [List.foldl_append]
  rfl
theorem beN_lt (l : List UInt8) : beN l < 256 ^ l.length := by
  have h : ∀ (l : List UInt8) (u k : Nat), u < 256 ^ k → l.foldl (fun u b => u * 256 + b.toNat) u < 256 ^ (k + l.length) := by
    intro l
    induction l with
    | nil => intro u k h; exact h
    | cons b l ih =>
      intro u k h
      have := b.toNat_lt
      have h2 : u * 256 + b.toNat < 256 ^ (k + 1) := by
        rw [Nat.pow_succ]
        omega
      have := ih _ _ h2
      rw [List.foldl_cons, List.length_cons]
      rw [show k + (l.length + 1) = k + 1 + l.length by omega]
      exact this
  have := h l 0 0 Nat.one_pos
  rwa [Nat.zero_add] at this
def numF (s : ByteArray) : Int := IntKind.i64.wrap (beN (s.data.toList.take 8) : Int)
def rest8 (s : ByteArray) : ByteArray := s.extract 8 s.size
def numP (s : ByteArray) : Option (Int × ByteArray) := if s.size < 8 then none else some (numF s, rest8 s)
def textP (s : ByteArray) : Option (ByteArray × ByteArray) :=
  match numP s with
  | none => none
  | some (n, r) => if 0 ≤ n ∧ n ≤ r.size then some (r.extract 0 n.toNat, r.extract n.toNat r.size) else none
def pairsP : Nat → ByteArray → Option (List Lb × ByteArray)
  | 0, s => some ([], s)
  | j + 1, s => match pairsP j s with
    | none => none
    | some (l, r) => match textP r with
      | none => none
      | some (a, r1) => match textP r1 with
        | none => none
        | some (b, r2) => some (l ++ [⟨a, b⟩], r2)
def labelsP (s : ByteArray) : Option (List Lb × ByteArray) :=
  match numP s with
  | none => none
  | some (k, r) => if 0 ≤ k ∧ k ≤ 8 then pairsP k.toNat r else none
open Classical in
/-- The samples that bytes are. -/
noncomputable def decS (t : ByteArray) : Option (List Sm) := if h : ∃ l, okS l = true ∧ V64 l ∧ t = enc l then some h.choose else none
theorem decS_of {t : ByteArray} {l : List Sm} (h1 : okS l = true) (h2 : V64 l) (h3 : t = enc l) : decS t = some l := by
  have h : ∃ l, okS l = true ∧ V64 l ∧ t = enc l := ⟨l, h1, h2, h3⟩
  unfold decS
  rw [dif_pos h]
  obtain ⟨a1, a2, a3⟩ := h.choose_spec
  have r1 := (okS_iff l).1 h1
  have r2 := (okS_iff _).1 a1
  exact congrArg some (enc_inj r2.1 r1.1 r2.2 r1.2 a2 h2 (a3.symm.trans h3))
theorem decS_no {t : ByteArray} (h : ∀ l, okS l = true → V64 l → t ≠ enc l) : decS t = none := by
  unfold decS
  rw [dif_neg]
  rintro ⟨l, h1, h2, h3⟩
  exact h l h1 h2 h3
structure Ser where
  labels : List Lb
  samples : List Sm
noncomputable def oneP (s : ByteArray) : Option (Ser × ByteArray) :=
  match labelsP s with
  | none => none
  | some (l, r) => if rightF l = true then (match textP r with
    | none => none
    | some (t, r2) => match decS t with
      | none => none
      | some xs => some (⟨l, xs⟩, r2)) else none
noncomputable def sersP : Nat → ByteArray → Option (List Ser × ByteArray)
  | 0, s => some ([], s)
  | i + 1, s => match sersP i s with
    | none => none
    | some (l, r) => match oneP r with
      | none => none
      | some (x, r2) => some (l ++ [x], r2)
noncomputable def seriesP (s : ByteArray) : Option (List Ser × ByteArray) :=
  match numP s with
  | none => none
  | some (n, r) => if 0 ≤ n ∧ n ≤ r.size then sersP n.toNat r else none
theorem numP_size {s r : ByteArray} {n : Int} (h : numP s = some (n, r)) : r.size + 8 = s.size ∧ n = numF s ∧ r = rest8 s := by
  unfold numP at h
  split at h
  · cases h
  · cases h
    refine ⟨?_, rfl, rfl⟩
    unfold rest8
    rw [ByteArray.size_extract]
    omega
theorem textP_size {s t r : ByteArray} (h : textP s = some (t, r)) : t.size + r.size + 8 = s.size := by
  unfold textP at h
  cases hn : numP s with
  | none => rw [hn] at h; cases h
  | some x =>
    obtain ⟨n, r0⟩ := x
    rw [hn] at h
    have h0 := (numP_size hn).1
    simp only at h
    split at h
    · cases h
      rw [ByteArray.size_extract, ByteArray.size_extract]
      omega
    · cases h
theorem pairsP_size : ∀ {j : Nat} {s r : ByteArray} {l : List Lb}, pairsP j s = some (l, r) → r.size + 16 * j ≤ s.size ∧ l.length = j ∧ ∀ x ∈ l, x.name.size ≤ s.size ∧ x.value.size ≤ s.size
  | 0, s, r, l, h => by cases h; exact ⟨Nat.le_refl _, rfl, by simp⟩
  | j + 1, s, r, l, h => by
    unfold pairsP at h
    cases h1 : pairsP j s with
    | none => rw [h1] at h; cases h
    | some y =>
      obtain ⟨l1, r1⟩ := y
      rw [h1] at h
      simp only at h
      cases h2 : textP r1 with
      | none => rw [h2] at h; cases h
      | some y =>
        obtain ⟨a, r2⟩ := y
        rw [h2] at h
        simp only at h
        cases h3 : textP r2 with
        | none => rw [h3] at h; cases h
        | some y =>
          obtain ⟨b, r3⟩ := y
          rw [h3] at h
          cases h
          obtain ⟨i1, i2, i3⟩ := pairsP_size h1
          have s2 := textP_size h2
          have s3 := textP_size h3
          refine ⟨by omega, by simp [i2], fun x hx => ?_⟩
          rcases List.mem_append.1 hx with hx | hx
          · exact i3 x hx
          · rw [List.mem_singleton.1 hx]
            exact ⟨by show a.size ≤ _; omega, by show b.size ≤ _; omega⟩
theorem labelsP_size {s r : ByteArray} {l : List Lb} (h : labelsP s = some (l, r)) : r.size + 8 ≤ s.size ∧ l.length ≤ 8 ∧ ∀ x ∈ l, x.name.size ≤ s.size ∧ x.value.size ≤ s.size := by
  unfold labelsP at h
  cases hn : numP s with
  | none => rw [hn] at h; cases h
  | some x =>
    obtain ⟨k, r0⟩ := x
    rw [hn] at h
    have h0 := (numP_size hn).1
    simp only at h
    split at h
    · obtain ⟨i1, i2, i3⟩ := pairsP_size h
      refine ⟨by omega, by omega, fun x hx => ?_⟩
      have := i3 x hx
      omega
    · cases h
theorem oneP_size {s r : ByteArray} {x : Ser} (h : oneP s = some (x, r)) : r.size + 16 ≤ s.size := by
  unfold oneP at h
  cases hl : labelsP s with
  | none => rw [hl] at h; cases h
  | some y =>
    obtain ⟨l, r1⟩ := y
    rw [hl] at h
    have h1 := (labelsP_size hl).1
    simp only at h
    split at h
    · cases ht : textP r1 with
      | none => rw [ht] at h; cases h
      | some y =>
        obtain ⟨t, r2⟩ := y
        rw [ht] at h
        have h2 := textP_size ht
        simp only at h
        cases hd : decS t with
        | none => rw [hd] at h; cases h
        | some xs =>
          rw [hd] at h
          cases h
          omega
    · cases h
theorem sersP_size : ∀ {i : Nat} {s r : ByteArray} {l : List Ser}, sersP i s = some (l, r) → r.size + 16 * i ≤ s.size ∧ l.length = i
  | 0, s, r, l, h => by cases h; exact ⟨Nat.le_refl _, rfl⟩
  | i + 1, s, r, l, h => by
    unfold sersP at h
    cases h1 : sersP i s with
    | none => rw [h1] at h; cases h
    | some y =>
      obtain ⟨l1, r1⟩ := y
      rw [h1] at h
      simp only at h
      cases h2 : oneP r1 with
      | none => rw [h2] at h; cases h
      | some y =>
        obtain ⟨x, r2⟩ := y
        rw [h2] at h
        cases h
        obtain ⟨i1, i2⟩ := sersP_size h1
        have := oneP_size h2
        exact ⟨by omega, by simp [i2]⟩
/-- Series that do not fit are none. -/
theorem sersP_no {n : Nat} {s : ByteArray} (h : s.size < n) : sersP n s = none := by
  cases hs : sersP n s with
  | none => rfl
  | some y =>
    obtain ⟨l, r⟩ := y
    have := (sersP_size hs).1
    omega
theorem sersP_mono {s : ByteArray} : ∀ {i j : Nat}, i ≤ j → sersP i s = none → sersP j s = none := by
  intro i j hij h
  induction hij with
  | refl => exact h
  | step _ ih => unfold sersP; rw [ih]
theorem pairsP_mono {s : ByteArray} : ∀ {i j : Nat}, i ≤ j → pairsP i s = none → pairsP j s = none := by
  intro i j hij h
  induction hij with
  | refl => exact h
  | step _ ih => unfold pairsP; rw [ih]
end Go.PL
/-
  Plain laws: what is written is what is read, and what was read was written just so; no program is in sight.
-/
namespace Go.PL
open Go
def be8 (u : Nat) : List UInt8 := [UInt8.ofNat (u / 72057594037927936), UInt8.ofNat (u / 281474976710656), UInt8.ofNat (u / 1099511627776), UInt8.ofNat (u / 4294967296), UInt8.ofNat (u / 16777216), UInt8.ofNat (u / 65536), UInt8.ofNat (u / 256), UInt8.ofNat u]
theorem beN_be8 {u : Nat} (h : u < 18446744073709551616) : beN (be8 u) = u := by
  simp only [beN, be8, List.foldl_cons, List.foldl_nil, UInt8.toNat_ofNat']
  omega
theorem be8_beN {l : List UInt8} (h : l.length = 8) : be8 (beN l) = l := by
  match l, h with
  | [a, b, c, d, e, f, g, k], _ =>
    have ha := a.toNat_lt
    have hb := b.toNat_lt
    have hc := c.toNat_lt
    have hd := d.toNat_lt
    have he := e.toNat_lt
    have hf := f.toNat_lt
    have hg := g.toNat_lt
    have hk := k.toNat_lt
    have ext : ∀ {n : Nat} {x : UInt8}, n % 256 = x.toNat → UInt8.ofNat n = x := fun {n x} h => by
      apply UInt8.toNat_inj.1
      rw [UInt8.toNat_ofNat']
      exact h
    simp only [beN, be8, List.foldl_cons, List.foldl_nil]
    congr 1
    · exact ext (by omega)
    · congr 1
      · exact ext (by omega)
      · congr 1
        · exact ext (by omega)
        · congr 1
          · exact ext (by omega)
          · congr 1
            · exact ext (by omega)
            · congr 1
              · exact ext (by omega)
              · congr 1
                · exact ext (by omega)
                · congr 1
                  exact ext (by omega)
def uN (n : Int) : Nat := (n % 18446744073709551616).toNat
def wrN (n : Int) : ByteArray := ⟨(be8 (uN n)).toArray⟩
theorem wrN_size (n : Int) : (wrN n).size = 8 := rfl
def wrT (s : ByteArray) : ByteArray := wrN s.size ++ s
def wrP : List Lb → ByteArray
  | [] => ByteArray.empty
  | x :: l => wrT x.name ++ (wrT x.value ++ wrP l)
def wrL (l : List Lb) : ByteArray := wrN l.length ++ wrP l
def wr1 (x : Ser) : ByteArray := wrL x.labels ++ wrT (enc x.samples)
def wrR : List Ser → ByteArray
  | [] => ByteArray.empty
  | x :: l => wr1 x ++ wrR l
def wrS (l : List Ser) : ByteArray := wrN l.length ++ wrR l
theorem wrP_app (l m : List Lb) : wrP (l ++ m) = wrP l ++ wrP m := by
  induction l with
  | nil => exact (ByteArray.empty_append).symm
  | cons x l ih => simp only [List.cons_append, wrP, ih, ByteArray.append_assoc]
theorem wrR_app (l m : List Ser) : wrR (l ++ m) = wrR l ++ wrR m := by
  induction l with
  | nil => exact (ByteArray.empty_append).symm
  | cons x l ih => simp only [List.cons_append, wrR, ih, ByteArray.append_assoc]
theorem app_nil (s : ByteArray) : s ++ ByteArray.empty = s := ByteArray.append_empty
theorem ba_l (a b : ByteArray) : (a ++ b).extract 0 a.size = a := by
  rw [ByteArray.extract_append_eq_left rfl]
theorem ba_r (a b : ByteArray) : (a ++ b).extract a.size (a ++ b).size = b := by
  rw [ByteArray.extract_append_eq_right rfl ByteArray.size_append]
theorem numP_wr {n : Int} (h : In64 n) (r : ByteArray) : numP (wrN n ++ r) = some (n, r) := by
  unfold numP
  have hs : (wrN n ++ r).size = 8 + r.size := by rw [ByteArray.size_append, wrN_size]
  rw [if_neg (by omega)]
  refine congrArg some (Prod.ext ?_ (ba_r (wrN n) r))
  show IntKind.i64.wrap (beN ((wrN n ++ r).data.toList.take 8) : Int) = n
  have e : (wrN n ++ r).data.toList.take 8 = be8 (uN n) := by
    rw [show (wrN n ++ r).data = (wrN n).data ++ r.data from ByteArray.data_append, Array.toList_append]
    exact List.take_left' rfl
  have hu : uN n < 18446744073709551616 := by unfold uN; omega
  rw [e, beN_be8 hu]
  unfold uN
  rw [IntKind.wrap_i64]
  obtain ⟨h1, h2⟩ := h
  omega
theorem numF_in (s : ByteArray) : In64 (numF s) := by
  unfold numF
  rw [IntKind.wrap_i64]
  constructor <;> omega
theorem numP_inv {s r : ByteArray} {n : Int} (h : numP s = some (n, r)) : s = wrN n ++ r ∧ In64 n := by
  obtain ⟨h1, rfl, rfl⟩ := numP_size h
  refine ⟨?_, numF_in s⟩
  have hl : (s.data.toList.take 8).length = 8 := by
    rw [List.length_take]
    have : s.data.toList.length = s.size := rfl
    omega
  have hlt := beN_lt (s.data.toList.take 8)
  rw [hl] at hlt
  have hu : uN (numF s) = beN (s.data.toList.take 8) := by
    unfold uN numF
    rw [IntKind.wrap_i64]
    omega
  have e : wrN (numF s) = s.extract 0 8 := by
    unfold wrN
    rw [hu, be8_beN hl]
    apply ByteArray.ext
    rw [ByteArray.data_extract]
    apply Array.toList_inj.1
    rw [Array.toList_extract]
    simp
  rw [e]
  unfold rest8
  rw [ByteArray.extract_append_extract]
  simp
theorem textP_wr {t : ByteArray} (h : t.size < 9223372036854775808) (r : ByteArray) : textP (wrT t ++ r) = some (t, r) := by
  unfold textP wrT
  rw [ByteArray.append_assoc, numP_wr ⟨by omega, by omega⟩]
  have hs : (t ++ r).size = t.size + r.size := ByteArray.size_append
  simp only
  rw [if_pos ⟨by omega, by omega⟩]
  refine congrArg some (Prod.ext ?_ ?_)
  · exact ba_l t r
  · exact ba_r t r
theorem textP_inv {s t r : ByteArray} (h : textP s = some (t, r)) : s = wrT t ++ r := by
  unfold textP at h
  cases hn : numP s with
  | none => rw [hn] at h; cases h
  | some x =>
    obtain ⟨n, r0⟩ := x
    rw [hn] at h
    obtain ⟨h0, -⟩ := numP_inv hn
    simp only at h
    split at h
    · rename_i hc
      cases h
      have hsz : (r0.extract 0 n.toNat).size = n.toNat := by rw [ByteArray.size_extract]; omega
      unfold wrT
      rw [hsz, ByteArray.append_assoc, ByteArray.extract_append_extract, h0]
      have e1 : ((n.toNat : Nat) : Int) = n := by omega
      have e2 : r0.extract (min 0 n.toNat) (max n.toNat r0.size) = r0 := by
        rw [show min 0 n.toNat = 0 by omega, show max n.toNat r0.size = r0.size by omega]
        exact ByteArray.extract_zero_size
      rw [e1, e2]
    · cases h
theorem pairsP_wr (l : List Lb) (hl : ∀ x ∈ l, x.name.size < 9223372036854775808 ∧ x.value.size < 9223372036854775808) (r : ByteArray) : ∀ j, j ≤ l.length → pairsP j (wrP l ++ r) = some (l.take j, wrP (l.drop j) ++ r) := by
  intro j
  induction j with
  | zero => intro _; rfl
  | succ j ih =>
    intro hj
    unfold pairsP
    rw [ih (by omega), List.drop_eq_getElem_cons (by omega)]
    have hx := hl l[j] (List.getElem_mem (by omega))
    simp only [wrP, ByteArray.append_assoc]
    rw [textP_wr hx.1]
    simp only
    rw [textP_wr hx.2]
    simp only
    rw [List.take_add_one, List.getElem?_eq_getElem (by omega)]
    rfl
theorem pairsP_inv : ∀ {j : Nat} {s r : ByteArray} {l : List Lb}, pairsP j s = some (l, r) → s = wrP l ++ r
  | 0, s, r, l, h => by cases h; exact ByteArray.empty_append.symm
  | j + 1, s, r, l, h => by
    unfold pairsP at h
    cases h1 : pairsP j s with
    | none => rw [h1] at h; cases h
    | some y =>
      obtain ⟨l1, r1⟩ := y
      rw [h1] at h
      simp only at h
      cases h2 : textP r1 with
      | none => rw [h2] at h; cases h
      | some y =>
        obtain ⟨a, r2⟩ := y
        rw [h2] at h
        simp only at h
        cases h3 : textP r2 with
        | none => rw [h3] at h; cases h
        | some y =>
          obtain ⟨b, r3⟩ := y
          rw [h3] at h
          cases h
          rw [wrP_app]
          simp only [wrP, app_nil, ByteArray.append_assoc]
          rw [← textP_inv h3, ← textP_inv h2]
          exact pairsP_inv h1
theorem labelsP_wr {l : List Lb} (hl : ∀ x ∈ l, x.name.size < 9223372036854775808 ∧ x.value.size < 9223372036854775808) (h8 : l.length ≤ 8) (r : ByteArray) : labelsP (wrL l ++ r) = some (l, r) := by
  unfold labelsP wrL
  rw [ByteArray.append_assoc, numP_wr ⟨by omega, by omega⟩]
  simp only
  rw [if_pos ⟨by omega, by omega⟩, Int.toNat_natCast, pairsP_wr l hl r l.length (Nat.le_refl _), List.take_length, List.drop_length]
  exact congrArg (fun x => some (l, x)) ByteArray.empty_append
theorem labelsP_inv {s r : ByteArray} {l : List Lb} (h : labelsP s = some (l, r)) : s = wrL l ++ r := by
  unfold labelsP at h
  cases hn : numP s with
  | none => rw [hn] at h; cases h
  | some x =>
    obtain ⟨k, r0⟩ := x
    rw [hn] at h
    obtain ⟨h0, -⟩ := numP_inv hn
    simp only at h
    split at h
    · rename_i hk
      have h1 := (pairsP_size h).2.1
      unfold wrL
      rw [h1, ByteArray.append_assoc, ← pairsP_inv h, h0, show ((k.toNat : Nat) : Int) = k by omega]
    · cases h
/-- Series that may be. -/
def GoodS (x : Ser) : Prop := rightF x.labels = true ∧ okS x.samples = true ∧ V64 x.samples
theorem right_small {l : List Lb} (h : rightF l = true) : l.length ≤ 8 ∧ ∀ x ∈ l, x.name.size ≤ 24 ∧ x.value.size ≤ 24 := by
  unfold rightF at h
  simp only [Bool.and_eq_true, Bool.not_eq_true', decide_eq_true_eq] at h
  obtain ⟨h1, -, h3⟩ := h
  refine ⟨h3, fun x hx => ?_⟩
  obtain ⟨i, hi, rfl⟩ := List.mem_iff_getElem.1 hx
  have hb : lbad l i = false := by
    cases hc : lbad l i with
    | false => rfl
    | true =>
      have := anyB_true hi hc
      rw [h1] at this
      cases this
  unfold lbad at hb
  simp only [Bool.or_eq_false_iff, Bool.not_eq_false'] at hb
  have e : l.getD i default = l[i] := by rw [List.getD_eq_getElem?_getD, List.getElem?_eq_getElem hi]; rfl
  rw [e] at hb
  obtain ⟨n1, n2, -⟩ := hb
  unfold nameF at n1
  unfold valueF at n2
  simp only [Bool.and_eq_true, decide_eq_true_eq] at n1 n2
  exact ⟨n1.2.2, n2.2⟩
theorem enc_small {l : List Sm} (h : okS l = true) : (enc l).size ≤ 100000 := by
  have h1 := chunkF_len l
  have h2 := ((okS_iff l).1 h).2
  show (pack (chunkF l)).toArray.size ≤ _
  rw [List.size_toArray, pack_len]
  omega
theorem oneP_wr {x : Ser} (h : GoodS x) (r : ByteArray) : oneP (wr1 x ++ r) = some (x, r) := by
  obtain ⟨h1, h2, h3⟩ := h
  obtain ⟨r1, r2⟩ := right_small h1
  have h4 := enc_small h2
  unfold oneP wr1
  rw [ByteArray.append_assoc, labelsP_wr (fun y hy => by have := r2 y hy; omega) r1]
  simp only
  rw [if_pos h1, textP_wr (by omega)]
  simp only
  rw [decS_of h2 h3 rfl]
theorem decS_some {t : ByteArray} {l : List Sm} (h : decS t = some l) : okS l = true ∧ V64 l ∧ t = enc l := by
  unfold decS at h
  split at h
  · rename_i hc
    cases h
    exact hc.choose_spec
  · cases h
theorem oneP_inv {s r : ByteArray} {x : Ser} (h : oneP s = some (x, r)) : s = wr1 x ++ r ∧ GoodS x := by
  unfold oneP at h
  cases hl : labelsP s with
  | none => rw [hl] at h; cases h
  | some y =>
    obtain ⟨l, r1⟩ := y
    rw [hl] at h
    have h1 := labelsP_inv hl
    simp only at h
    split at h
    · rename_i hr
      cases ht : textP r1 with
      | none => rw [ht] at h; cases h
      | some y =>
        obtain ⟨t, r2⟩ := y
        rw [ht] at h
        have h2 := textP_inv ht
        simp only at h
        cases hd : decS t with
        | none => rw [hd] at h; cases h
        | some xs =>
          rw [hd] at h
          cases h
          obtain ⟨d1, d2, d3⟩ := decS_some hd
          refine ⟨?_, hr, d1, d2⟩
          unfold wr1
          rw [ByteArray.append_assoc, ← d3, ← h2, ← h1]
    · cases h
theorem sersP_wr (l : List Ser) (hl : ∀ x ∈ l, GoodS x) (r : ByteArray) : ∀ j, j ≤ l.length → sersP j (wrR l ++ r) = some (l.take j, wrR (l.drop j) ++ r) := by
  intro j
  induction j with
  | zero => intro _; rfl
  | succ j ih =>
    intro hj
    unfold sersP
    rw [ih (by omega), List.drop_eq_getElem_cons (by omega)]
    simp only [wrR, ByteArray.append_assoc]
    rw [oneP_wr (hl l[j] (List.getElem_mem (by omega)))]
    simp only
    rw [List.take_add_one, List.getElem?_eq_getElem (by omega)]
    rfl
theorem sersP_inv : ∀ {j : Nat} {s r : ByteArray} {l : List Ser}, sersP j s = some (l, r) → s = wrR l ++ r ∧ ∀ x ∈ l, GoodS x
  | 0, s, r, l, h => by cases h; exact ⟨ByteArray.empty_append.symm, by simp⟩
  | j + 1, s, r, l, h => by
    unfold sersP at h
    cases h1 : sersP j s with
    | none => rw [h1] at h; cases h
    | some y =>
      obtain ⟨l1, r1⟩ := y
      rw [h1] at h
      simp only at h
      cases h2 : oneP r1 with
      | none => rw [h2] at h; cases h
      | some y =>
        obtain ⟨a, r2⟩ := y
        rw [h2] at h
        cases h
        obtain ⟨i1, i2⟩ := sersP_inv h1
        obtain ⟨o1, o2⟩ := oneP_inv h2
        refine ⟨?_, fun x hx => ?_⟩
        · rw [wrR_app]
          simp only [wrR, app_nil, ByteArray.append_assoc]
          rw [← o1]
          exact i1
        · rcases List.mem_append.1 hx with hx | hx
          · exact i2 x hx
          · rw [List.mem_singleton.1 hx]; exact o2
theorem wr1_big (x : Ser) : 16 ≤ (wr1 x).size := by
  unfold wr1 wrL wrT
  simp only [ByteArray.size_append, wrN_size]
  omega
theorem wrR_big (l : List Ser) : 16 * l.length ≤ (wrR l).size := by
  induction l with
  | nil => exact Nat.le_refl _
  | cons x l ih =>
    have := wr1_big x
    simp only [wrR, ByteArray.size_append, List.length_cons]
    omega
theorem seriesP_wr {l : List Ser} (hl : ∀ x ∈ l, GoodS x) (hn : l.length < 9223372036854775808) (r : ByteArray) : seriesP (wrS l ++ r) = some (l, r) := by
  unfold seriesP wrS
  rw [ByteArray.append_assoc, numP_wr ⟨by omega, by omega⟩]
  have h1 := wrR_big l
  have h2 : (wrR l ++ r).size = (wrR l).size + r.size := ByteArray.size_append
  simp only
  rw [if_pos ⟨by omega, by omega⟩, Int.toNat_natCast, sersP_wr l hl r l.length (Nat.le_refl _), List.take_length, List.drop_length]
  exact congrArg (fun x => some (l, x)) ByteArray.empty_append
theorem seriesP_inv {s r : ByteArray} {l : List Ser} (h : seriesP s = some (l, r)) : s = wrS l ++ r ∧ ∀ x ∈ l, GoodS x := by
  unfold seriesP at h
  cases hn : numP s with
  | none => rw [hn] at h; cases h
  | some x =>
    obtain ⟨k, r0⟩ := x
    rw [hn] at h
    obtain ⟨h0, -⟩ := numP_inv hn
    simp only at h
    split at h
    · have h1 := (sersP_size h).2
      obtain ⟨i1, i2⟩ := sersP_inv h
      refine ⟨?_, i2⟩
      unfold wrS
      rw [h1, ByteArray.append_assoc, ← i1, h0, show ((k.toNat : Nat) : Int) = k by omega]
    · cases h
theorem seriesP_size {s r : ByteArray} {l : List Ser} (h : seriesP s = some (l, r)) : r.size ≤ s.size := by
  obtain ⟨h1, -⟩ := seriesP_inv h
  rw [h1, ByteArray.size_append]
  omega
/-- What the given program asks of the number ahead of series. -/
theorem seriesP_c (s : ByteArray) : seriesP s = (match numP s with
    | none => none
    | some (n, r) => if 0 ≤ n ∧ n ≤ s.size then sersP n.toNat r else none) := by
  unfold seriesP
  cases hn : numP s with
  | none => rfl
  | some x =>
    obtain ⟨n, r⟩ := x
    have h0 := (numP_size hn).1
    simp only
    by_cases h : 0 ≤ n ∧ n ≤ r.size
    · rw [if_pos h, if_pos ⟨h.1, by omega⟩]
    · rw [if_neg h]
      by_cases h' : 0 ≤ n ∧ n ≤ s.size
      · rw [if_pos h', sersP_no (by omega)]
      · rw [if_neg h']
end Go.PL
/-
  Series, as the ghost machine holds them.
-/
namespace Go.Proofs.YtaahmenpcpjbhaaGreatDoor
open Go.GK Go.PL Go.RowKit
abbrev lbs (l : List Lb) : GV := .sl 2 (l.map lb)
abbrev sms (l : List Sm) : GV := .sl 2 (l.map sm)
abbrev se (x : Ser) : List GV := [lbs x.labels, sms x.samples]
abbrev ses (l : List Ser) : GV := .sl 2 (l.map se)
theorem se_snoc (l : List Ser) (x : Ser) : some (Res.row 37 2 (l.map se ++ [se x])) = some (Res.row 37 2 ((l ++ [x]).map se)) := by rw [List.map_append]; rfl
end Go.Proofs.YtaahmenpcpjbhaaGreatDoor
/-
  The ghost machine: a map behind its range loop.
-/
namespace Go.GK
open Go.RowKit
section
variable {cx : Cx} {T : Post}

/-- A map that was ranged is a map again: the iterator is looked at no more. -/
theorem JK.unrange {k : List It} {s : St} (id it : Nat) {kd : Option IntKind} {es : List (Value × GV)} {left : List Value} {cur : Option Value} (hid : hlook s.σ id = some (.itr it)) (hit : hlook s.σ it = some (.mr kd es left cur)) (hne : Nat.beq it id = false)
    (h : nfH ((id, .mp kd es) :: hdel (hdel s.σ it) id) fun σ => JK cx T k ⟨s.ρ, σ, s.n⟩) : JK cx T k s := by
  rw [nfH_eq] at h
  refine JK.upd _ (fun H a w hg hs ha => ?_) h
  obtain ⟨l1, l2, e1, e2, e0⟩ := hlook_split hit
  clear e0
  have hid2 : hlook (hdel s.σ it) id = some (.itr it) := by
    rw [e2]
    rw [e1] at hid
    clear e1 e2 h hg hs ha
    induction l1 with
    | nil =>
      have hid' : (bif Nat.beq it id then some (Res.mr kd es left cur) else hlook l2 id) = some (.itr it) := hid
      rw [hne] at hid'
      exact hid'
    | cons x r ih =>
      obtain ⟨j, y⟩ := x
      have hid' : (bif Nat.beq j id then some y else hlook (r ++ (it, Res.mr kd es left cur) :: l2) id) = some (.itr it) := hid
      show (bif Nat.beq j id then some y else hlook (r ++ l2) id) = some (.itr it)
      cases hb : Nat.beq j id with
      | true => rw [hb] at hid'; exact hid'
      | false => rw [hb] at hid'; exact ih hid'
  obtain ⟨m1, m2, e3, e4, _⟩ := hlook_split hid2
  have hmem := hlook_mem hit
  have hmem2 := hlook_mem hid
  obtain ⟨b, arr, clock, seen, hv, hbne, hwb, hok, hwi, hleft, hcur⟩ := hs.sat.holds _ hmem
  obtain ⟨hlt, hsv, _⟩ := hs.sat.holds _ hmem2
  have hsv' : H.sv id = H.sv it := hsv
  have hv' : H.sv id = .map (some b) := by rw [hsv', hv]
  have hsub : ∀ x ∈ m1 ++ m2, x ∈ s.σ := fun x hx => by
    have h1 : x ∈ hdel s.σ it := by
      rw [e3]
      rcases List.mem_append.1 hx with h | h <;> simp [h]
    rw [e2] at h1
    rw [e1]
    rcases List.mem_append.1 h1 with h | h <;> simp [h]
  have hbl : blks H (m1 ++ m2) = blks H (l1 ++ l2) := by
    rw [← e2, e3]
    simp [blks_append, blks_cons, blocks]
  have hnd := hs.sat.nodup
  rw [e1, blks_append, blks_cons] at hnd
  have n1 := List.nodup_append.1 hnd
  have n2 := List.nodup_append.1 n1.2.1
  have hbin : b ∈ blocks H (it, .mr kd es left cur) := by simp [blocks, hv, mapBlk]
  have hbo : b ∉ blks H (l1 ++ l2) := fun hb => by
    rw [blks_append] at hb
    rcases List.mem_append.1 hb with h1 | h1
    · exact n1.2.2 b h1 b (by simp [hbin]) rfl
    · exact n2.2.2 b hbin b h1 rfl
  have hbs : b ∈ blks H s.σ := by
    rw [e1, blks_append, blks_cons]
    simp [hbin]
  have hnew : blks H ((id, .mp kd es) :: (m1 ++ m2)) = b :: blks H (l1 ++ l2) := by
    rw [blks_cons, hbl]
    simp [blocks, hv', mapBlk]
  have hin : ∀ c ∈ blks H (l1 ++ l2), c ∈ blks H s.σ := fun c hc => by
    rw [e1, blks_append, blks_cons]
    rw [blks_append] at hc
    rcases List.mem_append.1 hc with h1 | h1 <;> simp [h1]
  refine ⟨H, hg, ⟨hs.n, ⟨hs.sat.ro, fun x hx => ?_, ?_, fun c hc => ?_, fun x hx => ?_⟩, ?_⟩, ⟨ha.env, ha.size, ha.defers⟩⟩
  · rw [e4] at hx
    rcases List.mem_cons.1 hx with rfl | hx
    · exact ⟨b, arr, clock, hv', hwb, hok⟩
    · exact hs.sat.holds x (hsub x hx)
  · rw [e4, hnew]
    refine List.nodup_cons.2 ⟨hbo, ?_⟩
    rw [blks_append]
    exact List.nodup_append.2 ⟨n1.1, n2.2.1, fun c hc d hd e => n1.2.2 c hc d (by simp [hd]) e⟩
  · rw [e4, hnew] at hc
    rcases List.mem_cons.1 hc with rfl | hc
    · exact hs.sat.free _ hbs
    · exact hs.sat.free _ (hin c hc)
  · rw [e4] at hx
    rcases List.mem_cons.1 hx with rfl | hx
    · exact hs.sat.ids (id, .itr it) hmem2
    · exact hs.sat.ids x (hsub x hx)
  · have hf := hs.fr
    refine ⟨hf.os, hf.tape, hf.output, hf.size, hf.keep, fun c hc => ?_, hf.fro, hf.le⟩
    rw [e4, hnew] at hc
    rcases List.mem_cons.1 hc with rfl | hc
    · exact hf.own _ hbs
    · exact hf.own _ (hin c hc)
end
end Go.GK
/-
  The ghost machine: maps given by lists of pairs, whose values are no own things.
-/
namespace Go.GK
open Go.RowKit
section
variable {α : Type}

/-- The same operations, on pairs. -/
def pfind (k : Value) : List (Value × α) → Option α
  | [] => none
  | (k', x) :: r => if vkey k k' = true then some x else pfind k r
def pput (k : Value) (x : α) : List (Value × α) → List (Value × α)
  | [] => [(k, x)]
  | (k', x') :: r => if vkey k k' = true then (k, x) :: r else (k', x') :: pput k x r
def pdel (k : Value) : List (Value × α) → List (Value × α)
  | [] => []
  | (k', x') :: r => if vkey k k' = true then r else (k', x') :: pdel k r
abbrev pes (enc : α → GV) (l : List (Value × α)) : List (Value × GV) := l.map fun x => (x.1, enc x.2)

theorem mfind_pes (enc : α → GV) (k : Value) : ∀ l : List (Value × α), mfind k (pes enc l) = (pfind k l).map enc
  | [] => rfl
  | (k', x) :: r => by
    show (if vkey k k' = true then some (enc x) else mfind k (pes enc r)) = (if vkey k k' = true then some x else pfind k r).map enc
    rw [mfind_pes enc k r]
    split <;> rfl
theorem mput_pes (enc : α → GV) (k : Value) (x : α) : ∀ l : List (Value × α), mput k (enc x) (pes enc l) = pes enc (pput k x l)
  | [] => rfl
  | (k', x') :: r => by
    show (if vkey k k' = true then (k, enc x) :: pes enc r else (k', enc x') :: mput k (enc x) (pes enc r)) = pes enc (if vkey k k' = true then (k, x) :: r else (k', x') :: pput k x r)
    rw [mput_pes enc k x r]
    split <;> rfl
theorem mdel_pes (enc : α → GV) (k : Value) : ∀ l : List (Value × α), mdel k (pes enc l) = pes enc (pdel k l)
  | [] => rfl
  | (k', x') :: r => by
    show (if vkey k k' = true then pes enc r else (k', enc x') :: mdel k (pes enc r)) = pes enc (if vkey k k' = true then r else (k', x') :: pdel k r)
    rw [mdel_pes enc k r]
    split <;> rfl
theorem idbM_pes (enc : α → GV) (n : Nat) (henc : ∀ x, idb n (enc x) = true) : ∀ l : List (Value × α), idbM n (pes enc l) = true
  | [] => rfl
  | (k, x) :: r => by
    show (idb n (enc x) && idbM n (pes enc r)) = true
    rw [idbM_pes enc n henc r, henc x]
    rfl
theorem renM_pes (enc : α → GV) (henc : ∀ x, idb 0 (enc x) = true) (f : Nat → Nat) (l : List (Value × α)) : renM f (pes enc l) = pes enc l := by
  unfold renM pes
  rw [List.map_map]
  exact List.map_congr_left fun x _ => by show (x.1, ren f (enc x.2)) = _; rw [ren_none f (henc x.2)]
theorem vkey_iff {kd : Option IntKind} {k k' : Value} (hk : sortB kd k = true) (hk' : sortB kd k' = true) : vkey k k' = true ↔ k = k' :=
  ⟨fun h => vkey_eq hk hk' h, fun h => by subst h; exact vkey_refl hk⟩
/-- What is found behind a put. -/
theorem pfind_put {kd : Option IntKind} {k k' : Value} (hk : sortB kd k = true) (hk' : sortB kd k' = true) (x : α) : ∀ l : List (Value × α), (∀ y ∈ l, sortB kd y.1 = true) → pfind k' (pput k x l) = if vkey k' k = true then some x else pfind k' l
  | [], _ => rfl
  | (q, y) :: r, hl => by
    have hq : sortB kd q = true := hl (q, y) (by simp)
    have ih := pfind_put hk hk' x r (fun z hz => hl z (by simp [hz]))
    show pfind k' (if vkey k q = true then (k, x) :: r else (q, y) :: pput k x r) = if vkey k' k = true then some x else (if vkey k' q = true then some y else pfind k' r)
    by_cases h : vkey k q = true
    · rw [if_pos h]
      have e : k = q := vkey_eq hk hq h
      show (if vkey k' k = true then some x else pfind k' r) = _
      by_cases h2 : vkey k' k = true
      · rw [if_pos h2, if_pos h2]
      · rw [if_neg h2, if_neg h2, ← e, if_neg h2]
    · rw [if_neg h]
      show (if vkey k' q = true then some y else pfind k' (pput k x r)) = _
      rw [ih]
      by_cases h2 : vkey k' k = true
      · rw [if_pos h2]
        have e : k' = k := vkey_eq hk' hk h2
        rw [e, if_neg h, if_pos (vkey_refl hk)]
      · rw [if_neg h2, if_neg h2]
theorem pput_keys {kd : Option IntKind} {k : Value} (hk : sortB kd k = true) (x : α) : ∀ l : List (Value × α), (∀ y ∈ l, sortB kd y.1 = true) → ∀ y ∈ pput k x l, sortB kd y.1 = true
  | [], _, y, hy => by
    rw [List.mem_singleton.1 hy]; exact hk
  | (q, z) :: r, hl, y, hy => by
    have hy' : y ∈ (if vkey k q = true then (k, x) :: r else (q, z) :: pput k x r) := hy
    by_cases h : vkey k q = true
    · rw [if_pos h] at hy'
      rcases List.mem_cons.1 hy' with rfl | hy'
      · exact hk
      · exact hl y (by simp [hy'])
    · rw [if_neg h] at hy'
      rcases List.mem_cons.1 hy' with rfl | hy'
      · exact hl (q, z) (by simp)
      · exact pput_keys hk x r (fun w hw => hl w (by simp [hw])) y hy'
theorem pdel_keys {kd : Option IntKind} (k : Value) : ∀ l : List (Value × α), (∀ y ∈ l, sortB kd y.1 = true) → ∀ y ∈ pdel k l, sortB kd y.1 = true
  | [], _, y, hy => by cases hy
  | (q, z) :: r, hl, y, hy => by
    have hy' : y ∈ (if vkey k q = true then r else (q, z) :: pdel k r) := hy
    by_cases h : vkey k q = true
    · rw [if_pos h] at hy'
      exact hl y (by simp [hy'])
    · rw [if_neg h] at hy'
      rcases List.mem_cons.1 hy' with rfl | hy'
      · exact hl (q, z) (by simp)
      · exact pdel_keys k r (fun w hw => hl w (by simp [hw])) y hy'
/-- No key twice. -/
def pnodup (l : List (Value × α)) : Prop := (l.map (·.1)).Nodup
theorem pfind_none {kd : Option IntKind} {k : Value} (hk : sortB kd k = true) : ∀ {l : List (Value × α)}, (∀ y ∈ l, sortB kd y.1 = true) → (pfind k l = none ↔ k ∉ l.map (·.1))
  | [], _ => by simp [pfind]
  | (q, y) :: r, hl => by
    have hq : sortB kd q = true := hl (q, y) (by simp)
    have ih := pfind_none hk (l := r) (fun z hz => hl z (by simp [hz]))
    show (if vkey k q = true then some y else pfind k r) = none ↔ _
    by_cases h : vkey k q = true
    · rw [if_pos h]
      have e := vkey_eq hk hq h
      simp [e]
    · rw [if_neg h, ih]
      have e : k ≠ q := fun e => h (by subst e; exact vkey_refl hk)
      simp [e]
theorem pput_nodup {kd : Option IntKind} {k : Value} (hk : sortB kd k = true) (x : α) : ∀ {l : List (Value × α)}, (∀ y ∈ l, sortB kd y.1 = true) → pnodup l → pnodup (pput k x l) ∧ ∀ q ∈ (pput k x l).map (·.1), q = k ∨ q ∈ l.map (·.1)
  | [], _, _ => ⟨by simp [pput, pnodup], by simp [pput]⟩
  | (q, y) :: r, hl, hn => by
    have hq : sortB kd q = true := hl (q, y) (by simp)
    obtain ⟨hn1, hn2⟩ := List.nodup_cons.1 hn
    obtain ⟨i1, i2⟩ := pput_nodup hk x (l := r) (fun z hz => hl z (by simp [hz])) hn2
    have e0 : pput k x ((q, y) :: r) = if vkey k q = true then (k, x) :: r else (q, y) :: pput k x r := rfl
    rw [e0]
    by_cases h : vkey k q = true
    · rw [if_pos h]
      have e := vkey_eq hk hq h
      subst e
      exact ⟨hn, fun z hz => .inr hz⟩
    · rw [if_neg h]
      have hne : q ≠ k := fun e => h (by subst e; exact vkey_refl hk)
      refine ⟨List.nodup_cons.2 ⟨fun hm => ?_, i1⟩, fun z hz => ?_⟩
      · rcases i2 _ hm with h1 | h1
        · exact hne h1
        · exact hn1 h1
      · rcases List.mem_cons.1 hz with rfl | hz
        · exact .inr (by simp)
        · rcases i2 _ hz with h1 | h1
          · exact .inl h1
          · exact .inr (by simp at h1 ⊢; exact .inr h1)
theorem pdel_mem {k : Value} : ∀ {l : List (Value × α)}, ∀ y ∈ pdel k l, y ∈ l
  | (q, z) :: r, y, hy => by
    have hy' : y ∈ (if vkey k q = true then r else (q, z) :: pdel k r) := hy
    by_cases h : vkey k q = true
    · rw [if_pos h] at hy'
      exact List.mem_cons_of_mem _ hy'
    · rw [if_neg h] at hy'
      rcases List.mem_cons.1 hy' with rfl | hy'
      · exact List.mem_cons_self
      · exact List.mem_cons_of_mem _ (pdel_mem y hy')
theorem pdel_nodup {k : Value} : ∀ {l : List (Value × α)}, pnodup l → pnodup (pdel k l)
  | [], _ => by simp [pdel, pnodup]
  | (q, y) :: r, hn => by
    obtain ⟨hn1, hn2⟩ := List.nodup_cons.1 hn
    show pnodup (if vkey k q = true then r else (q, y) :: pdel k r)
    by_cases h : vkey k q = true
    · rw [if_pos h]; exact hn2
    · rw [if_neg h]
      refine List.nodup_cons.2 ⟨fun hm => ?_, pdel_nodup hn2⟩
      obtain ⟨z, hz, e⟩ := List.mem_map.1 hm
      exact hn1 (by rw [← e]; exact List.mem_map_of_mem (pdel_mem z hz))
/-- What is found behind a delete. -/
theorem pfind_del {kd : Option IntKind} {k k' : Value} (hk : sortB kd k = true) (hk' : sortB kd k' = true) : ∀ {l : List (Value × α)}, (∀ y ∈ l, sortB kd y.1 = true) → pnodup l → pfind k' (pdel k l) = if vkey k' k = true then none else pfind k' l
  | [], _, _ => by show none = _; split <;> rfl
  | (q, y) :: r, hl, hn => by
    have hq : sortB kd q = true := hl (q, y) (by simp)
    have hr : ∀ z ∈ r, sortB kd z.1 = true := fun z hz => hl z (by simp [hz])
    obtain ⟨hn1, hn2⟩ := List.nodup_cons.1 hn
    have ih := pfind_del hk hk' hr hn2
    show pfind k' (if vkey k q = true then r else (q, y) :: pdel k r) = if vkey k' k = true then none else (if vkey k' q = true then some y else pfind k' r)
    by_cases h : vkey k q = true
    · rw [if_pos h]
      have e := vkey_eq hk hq h
      subst e
      by_cases h2 : vkey k' k = true
      · rw [if_pos h2]
        have e2 := vkey_eq hk' hk h2
        subst e2
        exact (pfind_none hk' hr).2 hn1
      · rw [if_neg h2, if_neg h2]
    · rw [if_neg h]
      show (if vkey k' q = true then some y else pfind k' (pdel k r)) = _
      rw [ih]
      by_cases h2 : vkey k' k = true
      · rw [if_pos h2]
        have e := vkey_eq hk' hk h2
        subst e
        rw [if_neg h, if_pos (vkey_refl hk')]
      · rw [if_neg h2, if_neg h2]
/-- What lies in a list without keys twice is found. -/
theorem pfind_mem {kd : Option IntKind} {k : Value} {x : α} (hk : sortB kd k = true) : ∀ {l : List (Value × α)}, (∀ y ∈ l, sortB kd y.1 = true) → pnodup l → (pfind k l = some x ↔ (k, x) ∈ l)
  | [], _, _ => by simp [pfind]
  | (q, y) :: r, hl, hn => by
    have hq : sortB kd q = true := hl (q, y) (by simp)
    obtain ⟨hn1, hn2⟩ := List.nodup_cons.1 hn
    have ih := pfind_mem (x := x) hk (l := r) (fun z hz => hl z (by simp [hz])) hn2
    show (if vkey k q = true then some y else pfind k r) = some x ↔ _
    by_cases h : vkey k q = true
    · rw [if_pos h]
      have e := vkey_eq hk hq h
      subst e
      constructor
      · intro h; cases h; simp
      · intro hm
        rcases List.mem_cons.1 hm with h1 | h1
        · cases h1; rfl
        · exact absurd (List.mem_map_of_mem (f := (·.1)) h1) hn1
    · rw [if_neg h, ih]
      have e : k ≠ q := fun e => h (by subst e; exact vkey_refl hk)
      simp [e]
end
end Go.GK
