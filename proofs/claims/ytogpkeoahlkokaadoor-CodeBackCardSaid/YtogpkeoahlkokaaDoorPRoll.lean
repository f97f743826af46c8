/-
  Plain laws on buckets: no program is in sight.
-/
import Derived.Test.YtogpkeoahlkokaaDoorGKa
namespace Go.PL
open Go

abbrev w64 (x : Int) : Int := IntKind.i64.wrap x

theorem w64_eq (x : Int) : w64 x = (x + 9223372036854775808) % 18446744073709551616 - 9223372036854775808 := by
  unfold w64; rw [IntKind.wrap_i64]
theorem w64_id {x : Int} (h : -9223372036854775808 ≤ x) (h' : x ≤ 9223372036854775807) : w64 x = x := by rw [w64_eq]; omega
theorem w64_w64 (x : Int) : w64 (w64 x) = w64 x := by simp only [w64_eq]; omega
theorem w64_add_l (x y : Int) : w64 (w64 x + y) = w64 (x + y) := by simp only [w64_eq]; omega
theorem w64_add_r (x y : Int) : w64 (x + w64 y) = w64 (x + y) := by simp only [w64_eq]; omega

structure Bk where
  start : Int
  count : Int
  sum : Int
  min : Int
  max : Int
  deriving DecidableEq
structure Sm where
  time : Int
  value : Int
  deriving DecidableEq

def bothF (a b : Bk) : Bk := ⟨a.start, w64 (a.count + b.count), w64 (a.sum + b.sum), if b.min < a.min then b.min else a.min, if b.max > a.max then b.max else a.max⟩
def addF (l : List Bk) (b : Bk) : List Bk := match l.getLast? with
  | some x => if x.start = b.start then l.dropLast ++ [bothF x b] else l ++ [b]
  | none => l ++ [b]
def floorF (t s : Int) : Int := if t.tmod s < 0 then w64 (t - w64 (t.tmod s + s)) else w64 (t - t.tmod s)
def oneF (s : Int) (x : Sm) : Bk := ⟨floorF x.time s, 1, x.value, x.value, x.value⟩
def addsF (out : List Bk) (l : List Bk) : List Bk := l.foldl addF out
def upF (l : List Sm) (s : Int) : List Bk := addsF [] (l.map (oneF s))
def widen (s : Int) (b : Bk) : Bk := { b with start := floorF b.start s }
def widerF (l : List Bk) (s : Int) : List Bk := addsF [] (l.map (widen s))

def mergeF : Nat → List Bk → List Bk → List Bk → List Bk
  | 0, out, _, _ => out
  | _ + 1, out, [], [] => out
  | n + 1, out, x :: a, [] => mergeF n (addF out x) a []
  | n + 1, out, [], y :: b => mergeF n (addF out y) [] b
  | n + 1, out, x :: a, y :: b => if x.start ≤ y.start then mergeF n (addF out x) a (y :: b) else mergeF n (addF out y) (x :: a) b

theorem addF_nil (b : Bk) : addF [] b = [b] := rfl
theorem addF_snoc (l : List Bk) (x b : Bk) : addF (l ++ [x]) b = if x.start = b.start then l ++ [bothF x b] else l ++ [x, b] := by
  unfold addF
  simp
theorem addF_ne {l : List Bk} {b : Bk} : ∃ l' x, addF l b = l' ++ [x] ∧ x.start = b.start := by
  rcases List.eq_nil_or_concat l with rfl | ⟨l', x, e⟩
  · exact ⟨[], b, rfl, rfl⟩
  · rw [List.concat_eq_append] at e
    subst e
    rw [addF_snoc]
    by_cases h : x.start = b.start
    · rw [if_pos h]; exact ⟨l', _, rfl, h⟩
    · rw [if_neg h]; exact ⟨l' ++ [x], b, by simp, rfl⟩

theorem bothF_assoc (a b c : Bk) : bothF (bothF a b) c = bothF a (bothF b c) := by
  unfold bothF
  simp only [Bk.mk.injEq, true_and]
  refine ⟨by rw [w64_add_l, w64_add_r]; congr 1; omega, by rw [w64_add_l, w64_add_r]; congr 1; omega, ?_, ?_⟩
  · repeat' split
    all_goals omega
  · repeat' split
    all_goals omega
theorem bothF_comm {a b : Bk} (h : a.start = b.start) : bothF a b = bothF b a := by
  unfold bothF
  simp only [Bk.mk.injEq]
  refine ⟨h, by congr 1; omega, by congr 1; omega, ?_, ?_⟩
  · split <;> split <;> omega
  · split <;> split <;> omega

theorem addF_addF {out : List Bk} {y x : Bk} (h : y.start = x.start) : addF (addF out y) x = addF out (bothF y x) := by
  rcases List.eq_nil_or_concat out with rfl | ⟨l', z, e⟩
  · rw [addF_nil, addF_nil]
    have := addF_snoc [] y x
    rw [if_pos h] at this
    simpa using this
  · rw [List.concat_eq_append] at e
    subst e
    rw [addF_snoc l' z y, addF_snoc l' z (bothF y x)]
    by_cases hz : z.start = y.start
    · have h1 : z.start = (bothF y x).start := hz
      rw [if_pos hz, if_pos h1, addF_snoc, if_pos (show (bothF z y).start = x.start from hz.trans h), bothF_assoc]
    · have h1 : ¬ z.start = (bothF y x).start := hz
      rw [if_neg hz, if_neg h1]
      have : l' ++ [z, y] = (l' ++ [z]) ++ [y] := by simp
      rw [this, addF_snoc, if_pos h]
      simp

theorem addsF_snoc (out l : List Bk) (b : Bk) : addsF out (l ++ [b]) = addF (addsF out l) b := by
  unfold addsF; rw [List.foldl_append]; rfl
theorem addsF_app (out l m : List Bk) : addsF out (l ++ m) = addsF (addsF out l) m := by
  unfold addsF; rw [List.foldl_append]

/-- What was put together already, put together once more. -/
theorem regroup (f : Bk → Bk) (hf : ∀ x y : Bk, x.start = y.start → (f x).start = (f y).start ∧ f (bothF x y) = bothF (f x) (f y)) (out : List Bk) (l : List Bk) : addsF out ((addsF [] l).map f) = addsF out (l.map f) := by
  induction hn : l.length generalizing l with
  | zero => have : l = [] := List.length_eq_zero_iff.1 hn; subst this; rfl
  | succ n ih =>
    rcases List.eq_nil_or_concat l with rfl | ⟨l', x, e⟩
    · simp at hn
    · rw [List.concat_eq_append] at e
      subst e
      have ih' := ih l' (by simpa using hn)
      rw [addsF_snoc, List.map_append]
      rw [show List.map f [x] = [f x] from rfl, addsF_snoc, ← ih']
      rcases List.eq_nil_or_concat (addsF [] l') with e | ⟨m, y, e⟩
      · rw [e]; rfl
      · rw [List.concat_eq_append] at e
        rw [e, addF_snoc]
        by_cases h : y.start = x.start
        · rw [if_pos h, List.map_append, List.map_append]
          rw [show List.map f [bothF y x] = [f (bothF y x)] from rfl, show List.map f [y] = [f y] from rfl, addsF_snoc, addsF_snoc]
          rw [addF_addF (hf y x h).1, (hf y x h).2]
        · rw [if_neg h]
          rw [show m ++ [y, x] = (m ++ [y]) ++ [x] by simp, List.map_append (l₂ := [x])]
          rw [show List.map f [x] = [f x] from rfl, addsF_snoc]

theorem regroup_id (out l : List Bk) : addsF out (addsF [] l) = addsF out l := by
  have := regroup id (fun x y h => ⟨h, rfl⟩) out l
  simpa using this

theorem upF_app (a b : List Sm) (s : Int) : addsF (upF a s) (upF b s) = upF (a ++ b) s := by
  unfold upF
  rw [regroup_id, List.map_append, addsF_app]

theorem widen_up (l : List Sm) (s wide : Int) (h : ∀ x ∈ l, floorF (floorF x.time s) wide = floorF x.time wide) : widerF (upF l s) wide = upF l wide := by
  unfold widerF upF
  rw [regroup (widen wide) (fun x y h => ⟨by unfold widen; simp only; rw [h], rfl⟩)]
  rw [List.map_map]
  congr 1
  refine List.map_congr_left fun x hx => ?_
  simp only [Function.comp, widen, oneF, h x hx]

theorem floorF_eq {t s : Int} (h1 : 1 ≤ s) (h2 : s ≤ 4398046511104) (h3 : -4398046511104 ≤ t) (h4 : t ≤ 4398046511104) : floorF t s = t - t % s := by
  have ht := Int.tmod_eq_emod (a := t) (b := s)
  have e1 := Int.emod_nonneg t (show s ≠ 0 by omega)
  have e2 := Int.emod_lt_of_pos t (show 0 < s by omega)
  have hs : (s.natAbs : Int) = s := by omega
  unfold floorF
  by_cases hc : 0 ≤ t ∨ s ∣ t
  · rw [if_pos hc] at ht
    rw [if_neg (by omega), w64_id (by omega) (by omega)]
    omega
  · rw [if_neg hc] at ht
    rw [hs] at ht
    rw [if_pos (by omega), w64_id (x := t.tmod s + s) (by omega) (by omega), w64_id (by omega) (by omega)]
    omega

theorem floor_floor {t s k : Int} (h1 : 1 ≤ s) (h2 : s ≤ 1048576) (h3 : 1 ≤ k) (h4 : k ≤ 1048576) (h5 : -1099511627776 ≤ t) (h6 : t ≤ 1099511627776) : floorF (floorF t s) (s * k) = floorF t (s * k) := by
  have hk1 : s * k ≤ 1048576 * 1048576 := Int.mul_le_mul h2 h4 (by omega) (by omega)
  have hk2 : 1 * 1 ≤ s * k := Int.mul_le_mul h1 h3 (by omega) (by omega)
  have e1 := Int.emod_nonneg t (show s ≠ 0 by omega)
  have e2 := Int.emod_lt_of_pos t (show 0 < s by omega)
  rw [floorF_eq (s := s) h1 (by omega) (by omega) (by omega)]
  rw [floorF_eq (by omega) (by omega) (by omega) (by omega), floorF_eq (by omega) (by omega) (by omega) (by omega)]
  have d1 : t - t % s = s * (t / s) := by have := Int.mul_ediv_add_emod t s; omega
  have d2 : t - t % (s * k) = s * k * (t / (s * k)) := by have := Int.mul_ediv_add_emod t (s * k); omega
  rw [d1, d2, Int.mul_emod_mul_of_pos _ _ (by omega : 0 < s)]
  have d3 : t / (s * k) = t / s / k := by rw [Int.ediv_ediv_of_nonneg (by omega)]
  rw [d3, Int.mul_assoc, ← Int.mul_sub]
  congr 1
  have := Int.mul_ediv_add_emod (t / s) k
  omega

/-! ### Merge -/

theorem merge_left : ∀ (n : Nat) (out a b : List Bk), a.length + b.length ≤ n → (∀ x ∈ a, ∀ y ∈ b, x.start ≤ y.start) → mergeF n out a b = addsF (addsF out a) b
  | 0, out, a, b, h, _ => by
    have ha : a = [] := List.length_eq_zero_iff.1 (by omega)
    have hb : b = [] := List.length_eq_zero_iff.1 (by omega)
    subst ha hb; rfl
  | n + 1, out, [], [], _, _ => rfl
  | n + 1, out, x :: a, [], h, hs => by
    unfold mergeF
    rw [merge_left n _ a [] (by simp at h ⊢; omega) (by simp)]
    rfl
  | n + 1, out, [], y :: b, h, hs => by
    unfold mergeF
    rw [merge_left n _ [] b (by simp at h ⊢; omega) (by simp)]
    rfl
  | n + 1, out, x :: a, y :: b, h, hs => by
    unfold mergeF
    rw [if_pos (hs x (by simp) y (by simp))]
    rw [merge_left n _ a (y :: b) (by simp at h ⊢; omega) (fun x' hx y' hy => hs x' (List.mem_cons_of_mem _ hx) y' hy)]
    rfl

abbrev Up (l : List Bk) : Prop := l.Pairwise (·.start < ·.start)

theorem merge_right : ∀ (n : Nat) (out a b : List Bk), a.length + b.length ≤ n → Up a → Up b → (∀ x ∈ b, ∀ y ∈ a, x.start ≤ y.start) → mergeF n out a b = addsF (addsF out b) a
  | 0, out, a, b, h, _, _, _ => by
    have ha : a = [] := List.length_eq_zero_iff.1 (by omega)
    have hb : b = [] := List.length_eq_zero_iff.1 (by omega)
    subst ha hb; rfl
  | n + 1, out, [], [], _, _, _, _ => rfl
  | n + 1, out, y :: a, [], h, ha, hb, hs => by
    unfold mergeF
    rw [merge_right n _ a [] (by simp at h ⊢; omega) (List.pairwise_cons.1 ha).2 hb (by simp)]
    rfl
  | n + 1, out, [], x :: b, h, ha, hb, hs => by
    unfold mergeF
    rw [merge_right n _ [] b (by simp at h ⊢; omega) ha (List.pairwise_cons.1 hb).2 (by simp)]
    rfl
  | n + 1, out, y :: a, x :: b, h, ha, hb, hs => by
    unfold mergeF
    have hxy := hs x (by simp) y (by simp)
    by_cases hc : y.start ≤ x.start
    · rw [if_pos hc]
      have e : y.start = x.start := by omega
      have hb' : b = [] := by
        cases b with
        | nil => rfl
        | cons z b =>
          have h1 := (List.pairwise_cons.1 hb).1 z (by simp)
          have h2 := hs z (by simp) y (by simp)
          omega
      subst hb'
      have h1 := (List.pairwise_cons.1 ha).1
      cases n with
      | zero => simp at h
      | succ n =>
        have step : mergeF (n + 1) (addF out y) a [x] = mergeF n (addF (addF out y) x) a [] := by
          cases a with
          | nil => rfl
          | cons z a =>
            have := h1 z (by simp)
            show (if z.start ≤ x.start then _ else _) = _
            rw [if_neg (by omega)]
        rw [step, merge_right n _ a [] (by simp at h ⊢; omega) (List.pairwise_cons.1 ha).2 .nil (by simp)]
        show addsF (addsF (addF (addF out y) x) []) a = addsF (addF (addF out x) y) a
        rw [addF_addF e, addF_addF e.symm, bothF_comm e]
        rfl
    · rw [if_neg hc]
      rw [merge_right n _ (y :: a) b (by simp at h ⊢; omega) ha (List.pairwise_cons.1 hb).2 (fun x' hx y' hy => hs x' (List.mem_cons_of_mem _ hx) y' hy)]
      rfl

/-! ### What buckets hold -/

def cnt (l : List Bk) : Int := (l.map (·.count)).sum
def sums (l : List Bk) : Int := (l.map (·.sum)).sum
def vals (l : List Sm) : Int := (l.map (·.value)).sum

theorem cnt_snoc (l : List Bk) (b : Bk) : cnt (l ++ [b]) = cnt l + b.count := by simp [cnt]
theorem sums_snoc (l : List Bk) (b : Bk) : sums (l ++ [b]) = sums l + b.sum := by simp [sums]
theorem vals_snoc (l : List Sm) (b : Sm) : vals (l ++ [b]) = vals l + b.value := by simp [vals]

theorem snoc_ind {α : Type} {P : List α → Prop} (h0 : P []) (h1 : ∀ l x, P l → P (l ++ [x])) (l : List α) : P l := by
  induction hn : l.length generalizing l with
  | zero => have : l = [] := List.length_eq_zero_iff.1 hn; subst this; exact h0
  | succ n ih =>
    rcases List.eq_nil_or_concat l with rfl | ⟨l', x, e⟩
    · exact h0
    · rw [List.concat_eq_append] at e
      subst e
      exact h1 l' x (ih l' (by simpa using hn))

theorem upF_snoc' (l : List Sm) (x : Sm) (s : Int) : upF (l ++ [x]) s = addF (upF l s) (oneF s x) := by
  unfold upF; rw [List.map_append]; exact addsF_snoc _ _ _

theorem cnt_nonneg {l : List Bk} (h : ∀ b ∈ l, 1 ≤ b.count) : 0 ≤ cnt l := by
  induction l with
  | nil => exact Int.le_refl _
  | cons x r ih =>
    have h1 := h x (by simp)
    have h2 := ih fun b hb => h b (List.mem_cons_of_mem _ hb)
    simp only [cnt, List.map_cons, List.sum_cons] at h2 ⊢
    omega

/-- Each bucket: a multiple of the span, the least no greater than the greatest, one sample at least; all together so many. -/
structure Held (s : Int) (l : List Sm) (o : List Bk) : Prop where
  each : ∀ b ∈ o, 1 ≤ b.count ∧ b.min ≤ b.max ∧ ∃ x ∈ l, b.start = floorF x.time s
  cnt : cnt o = l.length
  sum : w64 (sums o) = w64 (vals l)

theorem held (s : Int) (l : List Sm) : l.length ≤ 1000000 → Held s l (upF l s) := by
  refine snoc_ind (P := fun l => l.length ≤ 1000000 → Held s l (upF l s)) (fun _ => ⟨by simp [upF, addsF], rfl, rfl⟩) (fun l x ih hlen => ?_) l
  simp only [List.length_append, List.length_cons, List.length_nil] at hlen
  obtain ⟨i1, i2, i3⟩ := ih (by omega)
  rw [upF_snoc']
  have hin : ∀ {b : Bk}, (∃ y ∈ l, b.start = floorF y.time s) → ∃ y ∈ l ++ [x], b.start = floorF y.time s := fun ⟨y, hy, e⟩ => ⟨y, List.mem_append_left _ hy, e⟩
  rcases List.eq_nil_or_concat (upF l s) with e | ⟨m, y, e⟩
  · rw [e] at i2 i3 ⊢
    rw [addF_nil]
    refine ⟨fun b hb => ?_, ?_, ?_⟩
    · have : b = oneF s x := by simpa using hb
      subst this
      exact ⟨Int.le_refl _, Int.le_refl _, x, by simp, rfl⟩
    · simp [PL.cnt, oneF] at i2 ⊢; omega
    · rw [vals_snoc, ← w64_add_l, ← i3]
      simp [sums, oneF, w64_add_l]
  · rw [List.concat_eq_append] at e
    rw [e] at i1 i2 i3 ⊢
    rw [addF_snoc]
    rw [cnt_snoc] at i2
    rw [sums_snoc] at i3
    have hm : 0 ≤ PL.cnt m := cnt_nonneg fun b hb => (i1 b (List.mem_append_left _ hb)).1
    have hy := i1 y (by simp)
    by_cases h : y.start = (oneF s x).start
    · rw [if_pos h]
      refine ⟨fun b hb => ?_, ?_, ?_⟩
      · rcases List.mem_append.1 hb with hb | hb
        · obtain ⟨a1, a2, a3⟩ := i1 b (List.mem_append_left _ hb)
          exact ⟨a1, a2, hin a3⟩
        · have : b = bothF y (oneF s x) := by simpa using hb
          subst this
          refine ⟨?_, ?_, hin hy.2.2⟩
          · show 1 ≤ w64 (y.count + 1)
            rw [w64_id (by omega) (by omega)]; omega
          · show (if x.value < y.min then x.value else y.min) ≤ (if x.value > y.max then x.value else y.max)
            have := hy.2.1
            split <;> split <;> omega
      · rw [cnt_snoc]
        show PL.cnt m + w64 (y.count + 1) = _
        rw [w64_id (by omega) (by omega)]
        simp; omega
      · rw [sums_snoc, vals_snoc, ← w64_add_l (vals l), ← i3, w64_add_l]
        show w64 (sums m + w64 (y.sum + x.value)) = _
        rw [w64_add_r]
        congr 1; omega
    · rw [if_neg h]
      rw [show m ++ [y, oneF s x] = (m ++ [y]) ++ [oneF s x] by simp]
      refine ⟨fun b hb => ?_, ?_, ?_⟩
      · rcases List.mem_append.1 hb with hb | hb
        · obtain ⟨a1, a2, a3⟩ := i1 b hb
          exact ⟨a1, a2, hin a3⟩
        · have : b = oneF s x := by simpa using hb
          subst this
          exact ⟨Int.le_refl _, Int.le_refl _, x, by simp, rfl⟩
      · rw [cnt_snoc, cnt_snoc]
        show _ + 1 = _
        simp; omega
      · rw [sums_snoc, sums_snoc, vals_snoc, ← w64_add_l (vals l), ← i3, w64_add_l]
        rfl

/-- Rising samples. -/
structure Ris (l : List Sm) : Prop where
  lo : ∀ x ∈ l, -1099511627776 ≤ x.time
  hi : ∀ x ∈ l, x.time ≤ 1099511627776
  up : l.Pairwise (·.time < ·.time)

open Classical in
noncomputable def okS (l : List Sm) : Bool := decide (Ris l ∧ l.length ≤ 2000)
theorem okS_iff (l : List Sm) : okS l = true ↔ Ris l ∧ l.length ≤ 2000 := by unfold okS; simp
def badAt (l : List Sm) (i : Nat) (x : Sm) : Prop := x.time < -1099511627776 ∨ x.time > 1099511627776 ∨ (0 < i ∧ ∃ y, l[i - 1]? = some y ∧ y.time ≥ x.time)
theorem ris_iff (l : List Sm) : Ris l ↔ ∀ i x, l[i]? = some x → ¬ badAt l i x := by
  constructor
  · rintro ⟨h1, h2, h3⟩ i x hx (h | h | ⟨hi, y, hy, h⟩)
    · have := h1 x (List.mem_of_getElem? hx); omega
    · have := h2 x (List.mem_of_getElem? hx); omega
    · obtain ⟨hi1, e1⟩ := List.getElem?_eq_some_iff.1 hx
      obtain ⟨hi2, e2⟩ := List.getElem?_eq_some_iff.1 hy
      have := List.pairwise_iff_getElem.1 h3 (i - 1) i hi2 hi1 (by omega)
      rw [e1, e2] at this
      omega
  · intro h
    have step : ∀ i, (hi : i + 1 < l.length) → l[i].time < l[i + 1].time := fun i hi => by
      have := h (i + 1) l[i + 1] (List.getElem?_eq_getElem hi)
      rcases Int.lt_or_le l[i].time l[i + 1].time with h1 | h1
      · exact h1
      · exact (this (.inr (.inr ⟨by omega, l[i], by rw [Nat.add_sub_cancel]; exact List.getElem?_eq_getElem (by omega), h1⟩))).elim
    have far : ∀ d i, (hi : i + d + 1 < l.length) → l[i].time < l[i + d + 1].time := fun d => by
      induction d with
      | zero => intro i hi; exact step i hi
      | succ d ih =>
        intro i hi
        have h1 := ih i (by omega)
        have h2 := step (i + d + 1) hi
        exact Int.lt_trans h1 h2
    refine ⟨fun x hx => ?_, fun x hx => ?_, List.pairwise_iff_getElem.2 fun i j hi hj hij => ?_⟩
    · obtain ⟨i, hi, e⟩ := List.getElem_of_mem hx
      have := h i x (by rw [List.getElem?_eq_getElem hi, e])
      rcases Int.lt_or_le x.time (-1099511627776) with h1 | h1
      · exact (this (.inl h1)).elim
      · exact h1
    · obtain ⟨i, hi, e⟩ := List.getElem_of_mem hx
      have := h i x (by rw [List.getElem?_eq_getElem hi, e])
      rcases Int.lt_or_le 1099511627776 x.time with h1 | h1
      · exact (this (.inr (.inl h1))).elim
      · exact h1
    · have := far (j - i - 1) i (by omega)
      have e : i + (j - i - 1) + 1 = j := by omega
      simp only [e] at this
      exact this
theorem okS_bad (l : List Sm) : okS l = true ↔ (∀ i x, l[i]? = some x → ¬ badAt l i x) ∧ l.length ≤ 2000 := by rw [okS_iff, ris_iff]

theorem floor_mono {t t' s : Int} (h1 : 1 ≤ s) (h2 : s ≤ 4398046511104) (h3 : -4398046511104 ≤ t) (h4 : t ≤ 4398046511104) (h5 : -4398046511104 ≤ t') (h6 : t' ≤ 4398046511104) (h : t ≤ t') : floorF t s ≤ floorF t' s := by
  rw [floorF_eq h1 h2 h3 h4, floorF_eq h1 h2 h5 h6]
  have d1 : t - t % s = s * (t / s) := by have := Int.mul_ediv_add_emod t s; omega
  have d2 : t' - t' % s = s * (t' / s) := by have := Int.mul_ediv_add_emod t' s; omega
  rw [d1, d2]
  exact Int.mul_le_mul_of_nonneg_left (Int.ediv_le_ediv (by omega) h) (by omega)

theorem addF_up {o : List Bk} {b : Bk} (h : Up o) (hb : ∀ x ∈ o, x.start ≤ b.start) : Up (addF o b) := by
  rcases List.eq_nil_or_concat o with rfl | ⟨m, y, e⟩
  · exact List.pairwise_singleton _ _
  · rw [List.concat_eq_append] at e
    subst e
    rw [addF_snoc]
    have hp := List.pairwise_append.1 h
    by_cases hy : y.start = b.start
    · rw [if_pos hy]
      refine List.pairwise_append.2 ⟨hp.1, List.pairwise_singleton _ _, fun x hx z hz => ?_⟩
      have : z = bothF y b := by simpa using hz
      subst this
      exact hp.2.2 x hx y (by simp)
    · rw [if_neg hy, show m ++ [y, b] = (m ++ [y]) ++ [b] by simp]
      refine List.pairwise_append.2 ⟨h, List.pairwise_singleton _ _, fun x hx z hz => ?_⟩
      have : z = b := by simpa using hz
      subst this
      have h1 := hb y (by simp)
      rcases List.mem_append.1 hx with hx | hx
      · have := hp.2.2 x hx y (by simp); omega
      · have : x = y := by simpa using hx
        subst this; omega

theorem addF_mem {o : List Bk} {b z : Bk} (h : z ∈ addF o b) : (∃ x ∈ o, z.start = x.start) ∨ z.start = b.start := by
  rcases List.eq_nil_or_concat o with rfl | ⟨m, y, e⟩
  · right; have : z = b := by simpa [addF_nil] using h
    rw [this]
  · rw [List.concat_eq_append] at e
    subst e
    rw [addF_snoc] at h
    by_cases hy : y.start = b.start
    · rw [if_pos hy] at h
      rcases List.mem_append.1 h with h | h
      · exact .inl ⟨z, by simp [h], rfl⟩
      · have : z = bothF y b := by simpa using h
        rw [this]; exact .inl ⟨y, by simp, rfl⟩
    · rw [if_neg hy] at h
      rcases List.mem_append.1 h with h | h
      · exact .inl ⟨z, by simp [h], rfl⟩
      · have : z = y ∨ z = b := by simpa using h
        rcases this with rfl | rfl
        · exact .inl ⟨z, by simp, rfl⟩
        · exact .inr rfl

theorem upF_up {s : Int} (h1 : 1 ≤ s) (h2 : s ≤ 4398046511104) (l : List Sm) : Ris l → Up (upF l s) ∧ ∀ z ∈ upF l s, ∃ x ∈ l, z.start = floorF x.time s := by
  refine snoc_ind (P := fun l => Ris l → Up (upF l s) ∧ ∀ z ∈ upF l s, ∃ x ∈ l, z.start = floorF x.time s) (fun _ => ⟨by simp [upF, addsF], by simp [upF, addsF]⟩) (fun l x ih hr => ?_) l
  have hp := List.pairwise_append.1 hr.up
  have hr' : Ris l := ⟨fun y hy => hr.lo y (by simp [hy]), fun y hy => hr.hi y (by simp [hy]), hp.1⟩
  obtain ⟨i1, i2⟩ := ih hr'
  rw [upF_snoc']
  refine ⟨addF_up i1 fun z hz => ?_, fun z hz => ?_⟩
  · obtain ⟨y, hy, e⟩ := i2 z hz
    rw [e]
    have a1 := hr.lo y (by simp [hy])
    have a2 := hr.hi y (by simp [hy])
    have a3 := hr.lo x (by simp)
    have a4 := hr.hi x (by simp)
    exact floor_mono h1 h2 (by omega) (by omega) (by omega) (by omega) (Int.le_of_lt (hp.2.2 y hy x (by simp)))
  · rcases addF_mem hz with ⟨y, hy, e⟩ | e
    · obtain ⟨u, hu, e'⟩ := i2 y hy
      exact ⟨u, by simp [hu], by rw [e, e']⟩
    · exact ⟨x, by simp, e⟩

theorem Ris.part {a b : List Sm} (h : Ris (a ++ b)) : Ris a ∧ Ris b ∧ ∀ x ∈ a, ∀ y ∈ b, x.time < y.time := by
  have hp := List.pairwise_append.1 h.up
  exact ⟨⟨fun y hy => h.lo y (by simp [hy]), fun y hy => h.hi y (by simp [hy]), hp.1⟩, ⟨fun y hy => h.lo y (by simp [hy]), fun y hy => h.hi y (by simp [hy]), hp.2.1⟩, hp.2.2⟩

theorem merge_up {s : Int} (h1 : 1 ≤ s) (h2 : s ≤ 4398046511104) (a b : List Sm) (h : Ris (a ++ b)) (n : Nat) (hn : (upF a s).length + (upF b s).length ≤ n) : mergeF n [] (upF a s) (upF b s) = upF (a ++ b) s ∧ mergeF n [] (upF b s) (upF a s) = upF (a ++ b) s := by
  obtain ⟨ha, hb, hab⟩ := h.part
  have hs : ∀ x ∈ upF a s, ∀ y ∈ upF b s, x.start ≤ y.start := fun x hx y hy => by
    obtain ⟨u, hu, e⟩ := (upF_up h1 h2 a ha).2 x hx
    obtain ⟨v, hv, e'⟩ := (upF_up h1 h2 b hb).2 y hy
    rw [e, e']
    have a1 := ha.lo u hu
    have a2 := ha.hi u hu
    have a3 := hb.lo v hv
    have a4 := hb.hi v hv
    exact floor_mono h1 h2 (by omega) (by omega) (by omega) (by omega) (Int.le_of_lt (hab u hu v hv))
  have e : addsF (addsF [] (upF a s)) (upF b s) = upF (a ++ b) s := by
    rw [← upF_app]
    congr 1
    unfold upF
    exact regroup_id _ _
  exact ⟨by rw [merge_left n [] _ _ hn hs, e], by rw [merge_right n [] _ _ (by omega) (upF_up h1 h2 b hb).1 (upF_up h1 h2 a ha).1 hs, e]⟩

theorem floorF_mod {t s : Int} (h1 : 1 ≤ s) (h2 : s ≤ 4398046511104) (h3 : -4398046511104 ≤ t) (h4 : t ≤ 4398046511104) : (floorF t s).tmod s = 0 ∧ floorF t s ≤ t ∧ t - floorF t s < s := by
  rw [floorF_eq h1 h2 h3 h4]
  have e1 := Int.emod_nonneg t (show s ≠ 0 by omega)
  have e2 := Int.emod_lt_of_pos t (show 0 < s by omega)
  refine ⟨?_, by omega, by omega⟩
  have d1 : t - t % s = s * (t / s) := by have := Int.mul_ediv_add_emod t s; omega
  rw [d1]
  exact Int.mul_tmod_right s _

/-- What a list of buckets holds, read one by one. -/
theorem cnt_take (l : List Bk) (i : Nat) (h : i < l.length) : cnt (l.take (i + 1)) = cnt (l.take i) + l[i].count := by
  rw [List.take_succ_eq_append_getElem h, cnt_snoc]
theorem sums_take (l : List Bk) (i : Nat) (h : i < l.length) : sums (l.take (i + 1)) = sums (l.take i) + l[i].sum := by
  rw [List.take_succ_eq_append_getElem h, sums_snoc]
theorem vals_take (l : List Sm) (i : Nat) (h : i < l.length) : vals (l.take (i + 1)) = vals (l.take i) + l[i].value := by
  rw [List.take_succ_eq_append_getElem h, vals_snoc]
end Go.PL
