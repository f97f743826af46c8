/-
  Contracts: package label: Only; matchers.
-/
import Derived.Test.YtkoalgjlkcaonaaGreatDoorK06
import Derived.Test.YtkoalgjlkcaonaaGreatDoorK01
import Derived.Laws.Strings
import Derived.Shelf.Strings.BuilderK
import Derived.Laws.OwnMore
import Derived.Test.YtkoalgjlkcaonaaGreatDoorK05
import Derived.Lib.AppendStr
import Derived.Laws.CopyRow
import Derived.Lib.SliceRun
import Derived.Lib.ReflectliteSwap
import Derived.Lib.AppendZerosOnto
import Derived.Lib.ItoaNum
set_option linter.unusedSimpArgs false
namespace Go.Proofs.YtkoalgjlkcaonaaGreatDoor
open Go.GK Go.PL Go.RowKit
set_option maxRecDepth 100000
theorem only_snoc (l : List Lb) (ns : List ByteArray) (i : Nat) (h : i < l.length) : onlyF (l.take (i + 1)) ns = onlyF (l.take i) ns ++ if conS ns l[i].name = true then [l[i]] else [] := by
  have e : (ns.any fun n => sEq n l[i].name) = conS ns l[i].name := by
    unfold conS
    congr 1
    funext y
    rw [Bool.eq_iff_iff, sEq_iff, sEq_iff]
    exact ⟨fun h => h.symm, fun h => h.symm⟩
  unfold onlyF
  rw [List.take_succ_eq_append_getElem h, List.filter_append]
  congr 1
  rw [List.filter_cons, e]
  rfl
theorem only_len (l : List Lb) (ns : List ByteArray) : (onlyF l ns).length ≤ l.length := List.length_filter_le _ _
theorem lonly_rt (l : List Lb) (ns : List ByteArray) (hl : l.length ≤ 1000000) (hn : ns.length ≤ 1000000) : Rt pg 127 [.sl 2 (l.map lb), .sl 1 (ns.map fun x => [gs x])] (.sl 2 ((onlyF l ns).map lb)) := by
  refine Rt.of pg_ok Tryz.func127 rfl Tryz.ntmps127 rfl Tryz.results127 Tryz.call127 fun H0 S0 w0 h0 g0 => ?_
  have hll : (l.map lb).length = l.length := by simp
  refine JK.ownNil 5 95 2 rfl ?_
  refine JK.loopE (α := Nat) (β := Unit) (fun i => ⟨[(1, .sl 1 (ns.map fun x => [gs x])), (5, .o 0), (8, .sl 2 (l.map lb)), (9, gi (l.map lb).length), (10, gi i)], [(0, .row 95 2 ((onlyF (l.take i) ns).map lb))], 1⟩) (fun i => i ≤ l.length) (fun i => l.length - i)
    (fun _ => ⟨[(5, .o 0)], [(0, .row 95 2 ((onlyF l ns).map lb))], 1⟩) (fun _ => True) 0 id ?_ (Nat.zero_le _) ?_ ?_
  · exact ⟨⟨rfl, rfl, rfl, rfl, rfl, trivial⟩, ⟨rfl, trivial⟩, rfl⟩
  · rintro i hi
    refine V ?_
    by_cases hlt : i < l.length
    · have hon := only_snoc l ns i hlt
      have hlen := only_len (l.take i) ns
      rw [List.length_take] at hlen
      refine p1 ?_
      refine ix (h := ?_)
      cases h : conS ns l[i].name with
      | true =>
        refine GO ((conS_rt ns l[i].name (by omega)).bt h) rfl ?_
        refine ⟨by simp; omega, ?_⟩
        exact ⟨i + 1, fun _ => 3, ⟨⟨rfl, rfl, rfl, rfl, succ_gi (by omega), trivial⟩, ⟨by rw [hon, h, List.map_append]; rfl, trivial⟩, rfl⟩, hlt, by show l.length - (i + 1) < l.length - i; omega⟩
      | false =>
        refine GO ((conS_rt ns l[i].name (by omega)).bt h) rfl ?_
        exact ⟨i + 1, id, ⟨⟨rfl, rfl, rfl, rfl, succ_gi (by omega), trivial⟩, ⟨by rw [hon, h]; simp; rfl, trivial⟩, rfl⟩, hlt, by show l.length - (i + 1) < l.length - i; omega⟩
    · refine p2 ?_
      obtain rfl : i = l.length := by omega
      exact ⟨(), id, ⟨⟨rfl, trivial⟩, ⟨by rw [List.take_length]; rfl, trivial⟩, rfl⟩, trivial⟩
  · rintro _ _
    refine FRZ 0 rfl ?_
    exact ⟨rfl, rfl⟩

def Sm2 (l : List Mt) : Prop := ∀ x ∈ l, x.value.size < 4611686018427387904
theorem asked1_rt (m : Mt) (hm : m.value.size < 4611686018427387904) : Rt pg 111 [.agg (mt m)] (.b (mbad m)) := by
  refine Rt.of pg_ok Tryz.func111 rfl Tryz.ntmps111 rfl Tryz.results111 Tryz.call111 fun H0 S0 w0 h0 g0 => ?_
  have hval := value_rt m.value hm
  unfold mbad
  cases h1 : nameF m.name with
  | false =>
    refine GO ((name_rt m.name).bt h1) rfl ?_
    exact ⟨rfl, rfl⟩
  | true =>
    refine GO ((name_rt m.name).bt h1) rfl ?_
    cases h2 : valueF m.value with
    | false =>
      refine GO (hval.bt h2) rfl ?_
      exact ⟨rfl, rfl⟩
    | true =>
      refine GO (hval.bt h2) rfl ?_
      by_cases h3 : m.op < 0
      · repeat (first | refine p1 ?_ | refine p2 ?_ | refine p3 ?_ | refine p4 ?_)
        exact ⟨by rw [decide_eq_false (by omega : ¬ (0 ≤ m.op ∧ m.op ≤ 3))]; rfl, rfl⟩
      · repeat (first | refine p1 ?_ | refine p2 ?_ | refine p3 ?_ | refine p4 ?_)
        refine ⟨?_, rfl⟩
        show decide (m.op > 3) = !decide (0 ≤ m.op ∧ m.op ≤ 3)
        by_cases h4 : m.op ≤ 3
        · rw [decide_eq_true (by omega : 0 ≤ m.op ∧ m.op ≤ 3), decide_eq_false (by omega)]; rfl
        · rw [decide_eq_false (by omega : ¬ (0 ≤ m.op ∧ m.op ≤ 3)), decide_eq_true (by omega)]; rfl

theorem idxFunc_rt (l : List Mt) (f : FuncId) (caps : List GV) (hcaps : idbL 0 caps = true) (p : Mt → Bool) (hf : ∀ x ∈ l, Rt pg f (.agg (mt x) :: caps) (.b (p x))) (n : Nat) (hn : n ≤ l.length) (h1 : ∀ i (h : i < l.length), i < n → p l[i] = false) (h2 : ∀ h : n < l.length, p l[n] = true) (hl : l.length < 4611686018427387904) :
    Rt pg 133 [.sl 3 (l.map mt), .fn (.func f) [] caps] (gi (if n < l.length then n else -1)) := by
  refine Rt.of pg_ok Tryz.func133 rfl Tryz.ntmps133 rfl Tryz.results133 Tryz.call133 fun H0 S0 w0 h0 g0 => ?_
  have hll : (l.map mt).length = l.length := by simp
  refine JK.loop (α := Nat) (fun i => ⟨[(0, .sl 3 (l.map mt)), (1, .fn (.func f) [] caps), (7, gi (l.map mt).length), (8, gi i)], [], 0⟩) (fun i => i ≤ n) (fun i => n - i) 0 id ?_ (Nat.zero_le _) ?_
  · exact ⟨⟨rfl, by simp only [ren, renL, renL_id]; rfl, rfl, rfl, trivial⟩, trivial, by simp [idbE, idb, idbL, hcaps, idbH, hids, distB, fixB]⟩
  · intro i hi
    refine V ?_
    by_cases hlt : i < l.length
    · refine p1 ?_
      refine ix (h := ?_)
      have hp := hf l[i] (List.getElem_mem hlt)
      by_cases hin : i < n
      · refine GO (hp.bt (h1 i hlt hin)) rfl ?_ (by simp [idbL, hcaps]; rfl)
        exact ⟨i + 1, id, ⟨⟨rfl, by simp only [ren, renL, renL_id]; rfl, rfl, succ_gi (by omega), trivial⟩, trivial, by simp [idbE, idb, idbL, hcaps, idbH, hids, distB, fixB]⟩, hin, by show n - (i + 1) < n - i; omega⟩
      · have hin' : i = n := by omega
        subst hin'
        refine GO (hp.bt (h2 hlt)) rfl ?_ (by simp [idbL, hcaps]; rfl)
        exact ⟨by rw [if_pos hlt]; rfl, rfl⟩
    · refine p2 ?_
      refine V ?_
      exact ⟨by rw [if_neg (by omega)]; rfl, rfl⟩
theorem first_ix {α : Type} (l : List α) (p : α → Bool) : ∃ n, n ≤ l.length ∧ (∀ i (h : i < l.length), i < n → p l[i] = false) ∧ (∀ h : n < l.length, p l[n] = true) ∧ l.any p = decide (n < l.length) := by
  induction l with
  | nil => exact ⟨0, Nat.le_refl _, fun i h => absurd h (by simp), fun h => absurd h (by simp), by simp⟩
  | cons a l ih =>
    cases hp : p a with
    | true => exact ⟨0, Nat.zero_le _, fun i h h' => absurd h' (by omega), fun _ => hp, by simp [hp]⟩
    | false =>
      obtain ⟨n, h1, h2, h3, h4⟩ := ih
      refine ⟨n + 1, by simpa using h1, fun i h h' => ?_, fun h => ?_, by simp [hp, h4]⟩
      · cases i with
        | zero => exact hp
        | succ i => exact h2 i (by simpa using h) (by omega)
      · exact h3 (by simpa using h)
theorem conFunc_rt (l : List Mt) (f : FuncId) (caps : List GV) (hcaps : idbL 0 caps = true) (p : Mt → Bool) (hf : ∀ x ∈ l, Rt pg f (.agg (mt x) :: caps) (.b (p x))) (hl : l.length < 4611686018427387904) :
    Rt pg 98 [.sl 3 (l.map mt), .fn (.func f) [] caps] (.b (l.any p)) := by
  refine Rt.of pg_ok Tryz.func98 rfl Tryz.ntmps98 rfl Tryz.results98 Tryz.call98 fun H0 S0 w0 h0 g0 => ?_
  obtain ⟨n, h1, h2, h3, h4⟩ := first_ix l p
  refine GO (idxFunc_rt l f caps hcaps p hf n h1 h2 h3 hl) rfl ?_ (by simp [idbL, idb, hcaps])
  refine ⟨?_, rfl⟩
  rw [h4]
  show decide _ = _
  split
  · rename_i h; rw [decide_eq_true h]; exact decide_eq_true (by omega)
  · rename_i h; rw [decide_eq_false h]; rfl
theorem any_anyB {α : Type} [Inhabited α] (l : List α) (p : α → Bool) : l.any p = anyB l.length (fun i => p (l.getD i default)) := by
  obtain ⟨n, h1, h2, h3, h4⟩ := first_ix l p
  rw [h4]
  by_cases h : n < l.length
  · rw [decide_eq_true h, anyB_true h]; simpa [h] using h3 h
  · rw [decide_eq_false h, anyB_false]
    intro i hi
    have := h2 i hi (by omega)
    simpa [hi] using this
theorem lasked_rt (l : List Mt) (hm : Sm2 l) : Rt pg 78 [.sl 3 (l.map mt)] (.b (askedF l)) := by
  refine Rt.of pg_ok Tryz.func78 rfl Tryz.ntmps78 rfl Tryz.results78 Tryz.call78 fun H0 S0 w0 h0 g0 => ?_
  have hll : (l.map mt).length = l.length := by simp
  unfold askedF
  by_cases h : l.length ≤ 8
  · refine p1 ?_
    refine GO (conFunc_rt l 111 [] rfl mbad (fun x hx => asked1_rt x (hm x hx)) (by omega)) rfl ?_
    refine ⟨?_, rfl⟩
    rw [decide_eq_true h, Bool.and_true, ← any_anyB l mbad]
    rfl
  · refine p2 ?_
    exact ⟨by rw [decide_eq_false h, Bool.and_false]; rfl, rfl⟩
theorem lone_rt (l : List Lb) (m : Mt) : Rt pg 100 [.sl 2 (l.map lb), .agg (mt m)] (.b (loneF l m)) := by
  refine Rt.of pg_ok Tryz.func100 rfl Tryz.ntmps100 rfl Tryz.results100 Tryz.call100 fun H0 S0 w0 h0 g0 => ?_
  refine GO (get_rt l m.name) rfl ?_
  unfold loneF
  by_cases h0 : m.op = 0
  · refine p1 ?_ (by simpa using h0)
    exact ⟨by rw [if_pos h0]; rfl, rfl⟩
  · refine p2 ?_ (by simpa using h0)
    rw [if_neg h0]
    by_cases h1 : m.op = 1
    · refine p1 ?_ (by simpa using h1)
      exact ⟨by rw [if_pos h1]; rfl, rfl⟩
    · refine p2 ?_ (by simpa using h1)
      rw [if_neg h1]
      by_cases h2 : m.op = 2
      · refine p1 ?_ (by simpa using h2)
        refine GO (hasPrefix_rt (lgetF l m.name) m.value) rfl ?_
        exact ⟨by rw [if_pos h2]; rfl, rfl⟩
      · refine p2 ?_ (by simpa using h2)
        refine GO (hasPrefix_rt (lgetF l m.name) m.value) rfl ?_
        exact ⟨by rw [if_neg h2]; rfl, rfl⟩
theorem all1_rt (l : List Lb) (m : Mt) : Rt pg 99 [.agg (mt m), .r [.sl 2 (l.map lb)]] (.b (!loneF l m)) := by
  refine Rt.of pg_ok Tryz.func99 rfl Tryz.ntmps99 rfl Tryz.results99 Tryz.call99 fun H0 S0 w0 h0 g0 => ?_
  refine GO (lone_rt l m) rfl ?_
  exact ⟨rfl, rfl⟩
theorem lall_rt (l : List Lb) (m : List Mt) (hm : m.length < 4611686018427387904) : Rt pg 65 [.sl 2 (l.map lb), .sl 3 (m.map mt)] (.b (allF l m)) := by
  refine Rt.of pg_ok Tryz.func65 rfl Tryz.ntmps65 rfl Tryz.results65 Tryz.call65 fun H0 S0 w0 h0 g0 => ?_
  refine FZB 0 rfl rfl ?_
  refine GO (conFunc_rt m 99 [.r [.sl 2 (l.map lb)]] rfl (fun x => !loneF l x) (fun x _ => all1_rt l x) hm) rfl ?_
  refine ⟨?_, rfl⟩
  show (!_) = allF l m
  unfold allF
  rw [List.all_eq_not_any_not]
end Go.Proofs.YtkoalgjlkcaonaaGreatDoor
/-
  Plain laws on buckets: no program is in sight.
-/
namespace Go.PL
open Go

abbrev w64 (x : Int) : Int := IntKind.i64.wrap x

theorem w64_eq (x : Int) : w64 x = (x + 9223372036854775808) % 18446744073709551616 - 9223372036854775808 := by
  unfold w64; rw [IntKind.wrap_i64]
theorem w64_id {x : Int} (h : -9223372036854775808 ≤ x) (h' : x ≤ 9223372036854775807) : w64 x = x := by rw [w64_eq]; omega
theorem w64_add_l (x y : Int) : w64 (w64 x + y) = w64 (x + y) := by simp only [w64_eq]; omega
theorem w64_add_r (x y : Int) : w64 (x + w64 y) = w64 (x + y) := by simp only [w64_eq]; omega

structure Bk where
  start : Int
  count : Int
  sum : Int
  min : Int
  max : Int
  deriving DecidableEq
structure Sm where
  time : Int
  value : Int
  deriving DecidableEq

def bothF (a b : Bk) : Bk := ⟨a.start, w64 (a.count + b.count), w64 (a.sum + b.sum), if b.min < a.min then b.min else a.min, if b.max > a.max then b.max else a.max⟩
def addF (l : List Bk) (b : Bk) : List Bk := match l.getLast? with
  | some x => if x.start = b.start then l.dropLast ++ [bothF x b] else l ++ [b]
  | none => l ++ [b]
def floorF (t s : Int) : Int := if t.tmod s < 0 then w64 (t - w64 (t.tmod s + s)) else w64 (t - t.tmod s)
def oneF (s : Int) (x : Sm) : Bk := ⟨floorF x.time s, 1, x.value, x.value, x.value⟩
def addsF (out : List Bk) (l : List Bk) : List Bk := l.foldl addF out
def upF (l : List Sm) (s : Int) : List Bk := addsF [] (l.map (oneF s))
theorem addF_nil (b : Bk) : addF [] b = [b] := rfl
theorem addF_snoc (l : List Bk) (x b : Bk) : addF (l ++ [x]) b = if x.start = b.start then l ++ [bothF x b] else l ++ [x, b] := by
  unfold addF
  simp
theorem addsF_snoc (out l : List Bk) (b : Bk) : addsF out (l ++ [b]) = addF (addsF out l) b := by
  unfold addsF; rw [List.foldl_append]; rfl
def cnt (l : List Bk) : Int := (l.map (·.count)).sum
def sums (l : List Bk) : Int := (l.map (·.sum)).sum
def vals (l : List Sm) : Int := (l.map (·.value)).sum

theorem cnt_snoc (l : List Bk) (b : Bk) : cnt (l ++ [b]) = cnt l + b.count := by simp [cnt]
theorem sums_snoc (l : List Bk) (b : Bk) : sums (l ++ [b]) = sums l + b.sum := by simp [sums]
theorem vals_snoc (l : List Sm) (b : Sm) : vals (l ++ [b]) = vals l + b.value := by simp [vals]

theorem snoc_ind {α : Type} {P : List α → Prop} (h0 : P []) (h1 : ∀ l x, P l → P (l ++ [x])) (l : List α) : P l := by
  induction hn : l.length generalizing l with
  | zero => have : l = [] := List.length_eq_zero_iff.1 hn; subst this; exact h0
  | succ n ih =>
    rcases List.eq_nil_or_concat l with rfl | ⟨l', x, e⟩
    · exact h0
    · rw [List.concat_eq_append] at e
      subst e
      exact h1 l' x (ih l' (by simpa using hn))

theorem upF_snoc' (l : List Sm) (x : Sm) (s : Int) : upF (l ++ [x]) s = addF (upF l s) (oneF s x) := by
  unfold upF; rw [List.map_append]; exact addsF_snoc _ _ _

theorem cnt_nonneg {l : List Bk} (h : ∀ b ∈ l, 1 ≤ b.count) : 0 ≤ cnt l := by
  induction l with
  | nil => exact Int.le_refl _
  | cons x r ih =>
    have h1 := h x (by simp)
    have h2 := ih fun b hb => h b (List.mem_cons_of_mem _ hb)
    simp only [cnt, List.map_cons, List.sum_cons] at h2 ⊢
    omega

structure Held (s : Int) (l : List Sm) (o : List Bk) : Prop where
  each : ∀ b ∈ o, 1 ≤ b.count ∧ b.min ≤ b.max ∧ ∃ x ∈ l, b.start = floorF x.time s
  cnt : cnt o = l.length
  sum : w64 (sums o) = w64 (vals l)

theorem held (s : Int) (l : List Sm) : l.length ≤ 1000000 → Held s l (upF l s) := by
  refine snoc_ind (P := fun l => l.length ≤ 1000000 → Held s l (upF l s)) (fun _ => ⟨by simp [upF, addsF], rfl, rfl⟩) (fun l x ih hlen => ?_) l
  simp only [List.length_append, List.length_cons, List.length_nil] at hlen
  obtain ⟨i1, i2, i3⟩ := ih (by omega)
  rw [upF_snoc']
  have hin : ∀ {b : Bk}, (∃ y ∈ l, b.start = floorF y.time s) → ∃ y ∈ l ++ [x], b.start = floorF y.time s := fun ⟨y, hy, e⟩ => ⟨y, List.mem_append_left _ hy, e⟩
  rcases List.eq_nil_or_concat (upF l s) with e | ⟨m, y, e⟩
  · rw [e] at i2 i3 ⊢
    rw [addF_nil]
    refine ⟨fun b hb => ?_, ?_, ?_⟩
    · have : b = oneF s x := by simpa using hb
      subst this
      exact ⟨Int.le_refl _, Int.le_refl _, x, by simp, rfl⟩
    · simp [PL.cnt, oneF] at i2 ⊢; omega
    · rw [vals_snoc, ← w64_add_l, ← i3]
      simp [sums, oneF, w64_add_l]
  · rw [List.concat_eq_append] at e
    rw [e] at i1 i2 i3 ⊢
    rw [addF_snoc]
    rw [cnt_snoc] at i2
    rw [sums_snoc] at i3
    have hm : 0 ≤ PL.cnt m := cnt_nonneg fun b hb => (i1 b (List.mem_append_left _ hb)).1
    have hy := i1 y (by simp)
    by_cases h : y.start = (oneF s x).start
    · rw [if_pos h]
      refine ⟨fun b hb => ?_, ?_, ?_⟩
      · rcases List.mem_append.1 hb with hb | hb
        · obtain ⟨a1, a2, a3⟩ := i1 b (List.mem_append_left _ hb)
          exact ⟨a1, a2, hin a3⟩
        · have : b = bothF y (oneF s x) := by simpa using hb
          subst this
          refine ⟨?_, ?_, hin hy.2.2⟩
          · show 1 ≤ w64 (y.count + 1)
            rw [w64_id (by omega) (by omega)]; omega
          · show (if x.value < y.min then x.value else y.min) ≤ (if x.value > y.max then x.value else y.max)
            have := hy.2.1
            split <;> split <;> omega
      · rw [cnt_snoc]
        show PL.cnt m + w64 (y.count + 1) = _
        rw [w64_id (by omega) (by omega)]
        simp; omega
      · rw [sums_snoc, vals_snoc, ← w64_add_l (vals l), ← i3, w64_add_l]
        show w64 (sums m + w64 (y.sum + x.value)) = _
        rw [w64_add_r]
        congr 1; omega
    · rw [if_neg h]
      rw [show m ++ [y, oneF s x] = (m ++ [y]) ++ [oneF s x] by simp]
      refine ⟨fun b hb => ?_, ?_, ?_⟩
      · rcases List.mem_append.1 hb with hb | hb
        · obtain ⟨a1, a2, a3⟩ := i1 b hb
          exact ⟨a1, a2, hin a3⟩
        · have : b = oneF s x := by simpa using hb
          subst this
          exact ⟨Int.le_refl _, Int.le_refl _, x, by simp, rfl⟩
      · rw [cnt_snoc, cnt_snoc]
        show _ + 1 = _
        simp; omega
      · rw [sums_snoc, sums_snoc, vals_snoc, ← w64_add_l (vals l), ← i3, w64_add_l]
        rfl

structure Ris (l : List Sm) : Prop where
  lo : ∀ x ∈ l, -1099511627776 ≤ x.time
  hi : ∀ x ∈ l, x.time ≤ 1099511627776
  up : l.Pairwise (·.time < ·.time)

open Classical in
noncomputable def okS (l : List Sm) : Bool := decide (Ris l ∧ l.length ≤ 2000)
theorem okS_iff (l : List Sm) : okS l = true ↔ Ris l ∧ l.length ≤ 2000 := by unfold okS; simp
def badAt (l : List Sm) (i : Nat) (x : Sm) : Prop := x.time < -1099511627776 ∨ x.time > 1099511627776 ∨ (0 < i ∧ ∃ y, l[i - 1]? = some y ∧ y.time ≥ x.time)
theorem ris_iff (l : List Sm) : Ris l ↔ ∀ i x, l[i]? = some x → ¬ badAt l i x := by
  constructor
  · rintro ⟨h1, h2, h3⟩ i x hx (h | h | ⟨hi, y, hy, h⟩)
    · have := h1 x (List.mem_of_getElem? hx); omega
    · have := h2 x (List.mem_of_getElem? hx); omega
    · obtain ⟨hi1, e1⟩ := List.getElem?_eq_some_iff.1 hx
      obtain ⟨hi2, e2⟩ := List.getElem?_eq_some_iff.1 hy
      have := List.pairwise_iff_getElem.1 h3 (i - 1) i hi2 hi1 (by omega)
      rw [e1, e2] at this
      omega
  · intro h
    have step : ∀ i, (hi : i + 1 < l.length) → l[i].time < l[i + 1].time := fun i hi => by
      have := h (i + 1) l[i + 1] (List.getElem?_eq_getElem hi)
      rcases Int.lt_or_le l[i].time l[i + 1].time with h1 | h1
      · exact h1
      · exact (this (.inr (.inr ⟨by omega, l[i], by rw [Nat.add_sub_cancel]; exact List.getElem?_eq_getElem (by omega), h1⟩))).elim
    have far : ∀ d i, (hi : i + d + 1 < l.length) → l[i].time < l[i + d + 1].time := fun d => by
      induction d with
      | zero => intro i hi; exact step i hi
      | succ d ih =>
        intro i hi
        have h1 := ih i (by omega)
        have h2 := step (i + d + 1) hi
        exact Int.lt_trans h1 h2
    refine ⟨fun x hx => ?_, fun x hx => ?_, List.pairwise_iff_getElem.2 fun i j hi hj hij => ?_⟩
    · obtain ⟨i, hi, e⟩ := List.getElem_of_mem hx
      have := h i x (by rw [List.getElem?_eq_getElem hi, e])
      rcases Int.lt_or_le x.time (-1099511627776) with h1 | h1
      · exact (this (.inl h1)).elim
      · exact h1
    · obtain ⟨i, hi, e⟩ := List.getElem_of_mem hx
      have := h i x (by rw [List.getElem?_eq_getElem hi, e])
      rcases Int.lt_or_le 1099511627776 x.time with h1 | h1
      · exact (this (.inr (.inl h1))).elim
      · exact h1
    · have := far (j - i - 1) i (by omega)
      have e : i + (j - i - 1) + 1 = j := by omega
      simp only [e] at this
      exact this
theorem okS_bad (l : List Sm) : okS l = true ↔ (∀ i x, l[i]? = some x → ¬ badAt l i x) ∧ l.length ≤ 2000 := by rw [okS_iff, ris_iff]

theorem Ris.part {a b : List Sm} (h : Ris (a ++ b)) : Ris a ∧ Ris b ∧ ∀ x ∈ a, ∀ y ∈ b, x.time < y.time := by
  have hp := List.pairwise_append.1 h.up
  exact ⟨⟨fun y hy => h.lo y (by simp [hy]), fun y hy => h.hi y (by simp [hy]), hp.1⟩, ⟨fun y hy => h.lo y (by simp [hy]), fun y hy => h.hi y (by simp [hy]), hp.2.1⟩, hp.2.2⟩

end Go.PL
/-
  Samples and buckets, as the ghost machine holds them.
-/
namespace Go.Proofs.YtkoalgjlkcaonaaGreatDoor
open Go.GK Go.PL
abbrev sm (x : Sm) : List GV := [gi x.time, gi x.value]
end Go.Proofs.YtkoalgjlkcaonaaGreatDoor
/-
  Plain laws on bits: no program is in sight.
-/
namespace Go.PL
open Go Go.GK


def val8 (f : Nat → Bool) : Nat := (f 0).toNat * 128 + (f 1).toNat * 64 + (f 2).toNat * 32 + (f 3).toNat * 16 + (f 4).toNat * 8 + (f 5).toNat * 4 + (f 6).toNat * 2 + (f 7).toNat

def bitG (bs : List Bool) (k : Nat) : Bool := bs[k]?.getD false
def byteN (bs : List Bool) (i : Nat) : Nat := val8 fun j => bitG bs (8 * i + j)
def pack (bs : List Bool) : List UInt8 := (List.range ((bs.length + 7) / 8)).map fun i => UInt8.ofNat (byteN bs i)

def lowBits (u k : Nat) : List Bool := ((List.range k).map fun i => u.testBit i).reverse
def zigF (n : Int) : Nat := if n < 0 then (-2 * n - 1).toNat else (2 * n).toNat
def sizeF (k : Nat) : Nat := [0, 4, 7, 12, 20, 32, 64].getD k 0
def clsF (u : Nat) : Nat := if u < 1 then 0 else if u < 16 then 1 else if u < 128 then 2 else if u < 4096 then 3 else if u < 1048576 then 4 else if u < 4294967296 then 5 else 6
def pre (k : Nat) : List Bool := List.replicate k true ++ (if k < 6 then [false] else [])
def putF (n : Int) : List Bool := pre (clsF (zigF n)) ++ lowBits (zigF n) (sizeF (clsF (zigF n)))

end Go.PL
/-
  Plain laws on samples in few bits: no program is in sight.
-/
namespace Go.PL
open Go Go.GK

def chunkR : List Sm → Sm → Int → Bool → List Bool
  | [], _, _, _ => []
  | x :: r, last, step, f => putF (x.time - last.time - step) ++ (putF (w64 (x.value - last.value)) ++ chunkR r x (if f then step else x.time - last.time) false)
def chunkF (l : List Sm) : List Bool := putF l.length ++ chunkR l ⟨0, 0⟩ 0 true
def enc (l : List Sm) : ByteArray := ⟨(pack (chunkF l)).toArray⟩

abbrev In64 (x : Int) : Prop := -9223372036854775808 ≤ x ∧ x ≤ 9223372036854775807
def V64 (l : List Sm) : Prop := ∀ x ∈ l, In64 x.value

structure Fit (last : Sm) (step : Int) : Prop where
  t1 : -1099511627776 ≤ last.time
  t2 : last.time ≤ 1099511627776
  s1 : -2199023255552 ≤ step
  s2 : step ≤ 2199023255552

theorem Fit.next {last : Sm} {step : Int} (h : Fit last step) {x : Sm} (h1 : -1099511627776 ≤ x.time) (h2 : x.time ≤ 1099511627776) (f : Bool) : Fit x (if f then step else x.time - last.time) := by
  have := h.t1; have := h.t2; have := h.s1; have := h.s2
  refine ⟨h1, h2, ?_, ?_⟩ <;> cases f <;> simp <;> omega
theorem Fit.zero : Fit ⟨0, 0⟩ 0 := ⟨by decide, by decide, by decide, by decide⟩

end Go.PL
/-
  Plain laws: numbers, texts, labels, series as bytes; no program is in sight.
-/
namespace Go.PL
structure Ser where
  labels : List Lb
  samples : List Sm
end Go.PL
/-
  Plain laws: what is written is what is read, and what was read was written just so; no program is in sight.
-/
namespace Go.PL
open Go
end Go.PL
/-
  Series, as the ghost machine holds them.
-/
namespace Go.Proofs.YtkoalgjlkcaonaaGreatDoor
open Go.GK Go.PL Go.RowKit
abbrev lbs (l : List Lb) : GV := .sl 2 (l.map lb)
abbrev sms (l : List Sm) : GV := .sl 2 (l.map sm)
abbrev se (x : Ser) : List GV := [lbs x.labels, sms x.samples]
abbrev ses (l : List Ser) : GV := .sl 2 (l.map se)
end Go.Proofs.YtkoalgjlkcaonaaGreatDoor
/-
  The ghost machine: a map behind its range loop.
-/
namespace Go.GK
open Go.RowKit
section
variable {cx : Cx} {T : Post}

end
end Go.GK
/-
  The ghost machine: maps given by lists of pairs, whose values are no own things.
-/
namespace Go.GK
open Go.RowKit
section
variable {α : Type}

end
end Go.GK
/-
  The ghost machine: own things packed behind one number.
-/
namespace Go.GK
open Go.RowKit

def packP (n : Nat) (τ : Heap) (fp : List Nat) (ro : Nat → Option Obj) (b : Nat) (v : Value) (w : World) : Prop :=
  ∃ Hl : Hid, Hl.n = n ∧ Hl.bl 0 = b ∧ Hl.sv 0 = v ∧ (∀ c o, Hl.ro c = some o → ro c = some o) ∧ (∀ x ∈ τ, holds Hl w x) ∧ (∀ x ∈ τ, x.1 < n) ∧ blks Hl τ = fp

def pack (n : Nat) (τ : Heap) (fp : List Nat) : Abs where
  P := packP n τ fp
  fp := fp
  ex := fun ro b v w h c hc => by
    obtain ⟨Hl, _, _, _, _, h1, _, rfl⟩ := h
    obtain ⟨x, hx, hcx⟩ := List.mem_flatMap.1 hc
    exact holds_lt (h1 x hx) c hcx
  congr := fun ro b v w w' hw h => by
    obtain ⟨Hl, e1, e2, e3, h1, h2, h3, rfl⟩ := h
    exact ⟨Hl, e1, e2, e3, h1, fun x hx => holds_congr (fun c hc => hw c (List.mem_flatMap.2 ⟨x, hx, hc⟩)) (h2 x hx), h3, rfl⟩
  mono := fun ro ro' b v w hro h => by
    obtain ⟨Hl, e1, e2, e3, h1, h⟩ := h
    exact ⟨Hl, e1, e2, e3, fun c o hc => hro c o (h1 c o hc), h⟩

theorem Sat.pack {H : Hid} {σ : Heap} {w : World} (h : Sat H σ w) {r : Nat → Nat} {n id : Nat} {τ : Heap} (hl : leσ r τ σ) (hb : idbH n τ = true) (hd : distB (hids r τ) = true) (h0 : r 0 = id) (hid : id < H.n) :
    ∃ fp, Sat H ((id, .ab (pack n τ fp)) :: hrest (hids r τ) σ) w ∧ ∀ b ∈ blks H ((id, .ab (GK.pack n τ fp)) :: hrest (hids r τ) σ), b ∈ blks H σ := by
  obtain ⟨hp, hpb⟩ := h.part hl hb hd
  have hbl : blks H ((id, .ab (GK.pack n τ (blks (H.via r n) τ))) :: hrest (hids r τ) σ) = blks (H.via r n) τ ++ blks H (hrest (hids r τ) σ) := by
    rw [blks_cons]; rfl
  have hin : ∀ b ∈ blks H ((id, .ab (GK.pack n τ (blks (H.via r n) τ))) :: hrest (hids r τ) σ), b ∈ blks H σ := fun b hb => by
    rw [hbl] at hb
    rcases List.mem_append.1 hb with hb | hb
    · obtain ⟨x, hx, _, hbx⟩ := hpb b hb
      exact List.mem_flatMap.2 ⟨x, hx, hbx⟩
    · obtain ⟨x, hx, hbx⟩ := List.mem_flatMap.1 hb
      exact List.mem_flatMap.2 ⟨x, (hrest_mem hx).1, hbx⟩
  refine ⟨blks (H.via r n) τ, ⟨h.ro, fun x hx => ?_, ?_, fun b hb => h.free b (hin b hb), fun x hx => ?_⟩, hin⟩
  · rcases List.mem_cons.1 hx with rfl | hx
    · exact ⟨H.via r n, rfl, by show H.bl (r 0) = _; rw [h0], by show H.sv (r 0) = _; rw [h0], fun _ _ h => h, hp.holds, hp.ids, rfl⟩
    · exact h.holds x (hrest_mem hx).1
  · rw [hbl]
    refine List.nodup_append.2 ⟨hp.nodup, hrest_nodup h.nodup, fun b hb c hc e => ?_⟩
    subst e
    obtain ⟨x, hx, hxi, hbx⟩ := hpb b hb
    obtain ⟨y, hy, hby⟩ := List.mem_flatMap.1 hc
    exact blks_apart h.nodup hx (hrest_mem hy).1 (fun e => (hrest_mem hy).2 (by rw [← e]; exact hxi)) b hbx hby
  · rcases List.mem_cons.1 hx with rfl | hx
    · exact hid
    · exact h.ids x (hrest_mem hx).1

section
variable {cx : Cx} {T : Post}

theorem JK.pack {k : List It} {s : St} (r : Nat → Nat) (n id : Nat) (τ : Heap) (hl : leσ r τ s.σ) (chk : (idbH n τ && distB (hids r τ) && Nat.beq (r 0) id && Nat.blt id s.n) = true)
    (h : ∀ fp, nfH ((id, .ab (GK.pack n τ fp)) :: hrest (hids r τ) s.σ) fun σ => JK cx T k ⟨s.ρ, σ, s.n⟩) : JK cx T k s := by
  simp only [Bool.and_eq_true] at chk
  obtain ⟨⟨⟨h1, h2⟩, h3⟩, h4⟩ := chk
  intro H a w hg hs ha
  obtain ⟨fp, hsat, hin⟩ := hs.sat.pack hl h1 h2 (beq_eq h3) (by rw [hs.n]; exact blt_lt h4)
  have hk := h fp
  rw [nfH_eq] at hk
  refine hk H a w hg ⟨hs.n, hsat, ?_⟩ ha
  have hf := hs.fr
  exact ⟨hf.os, hf.tape, hf.output, hf.size, hf.keep, fun c hc => hf.own c (hin c hc), hf.fro, hf.le⟩

end

theorem leσ_cons0 {A : Abs} {σ : Heap} : ∀ l : Heap, memB 0 (hids id l) = false → leσ id l σ → leσ id l ((0, .ab A) :: σ)
  | [], _, _ => trivial
  | (j, y) :: r, hm, hl => by
    simp only [hids, memB, Bool.or_eq_false_iff] at hm
    refine ⟨?_, leσ_cons0 r hm.2 hl.2⟩
    show (bif Nat.beq 0 (id j) then _ else hlook σ (id j)) = _
    rw [hm.1]
    exact hl.1

theorem Hf.pack {p : Pg} {f : FuncId} {n0 : Nat} {args : List GV} {σ : Heap} {Q Q' : GV → Heap → Nat → Prop} (h : Hf p f n0 args σ Q)
    (hQ : ∀ g σ' n', Q g σ' n' → ∃ rest, (Nat.blt 0 n0 && Nat.ble n0 n' && idb n0 g && idbH n0 rest && distB (0 :: hids id rest)) = true ∧
      ((∃ (r : Nat → Nat) (n : Nat) (τ : Heap), leσ r τ σ' ∧ leσ id rest (hrest (hids r τ) σ') ∧ (idbH n τ && distB (hids r τ) && Nat.beq (r 0) 0) = true ∧ ∀ fp, Q' g ((0, .ab (GK.pack n τ fp)) :: rest) n0) ∨
       ∃ A, hlook σ' 0 = some (.ab A) ∧ leσ id rest σ' ∧ Q' g ((0, .ab A) :: rest) n0)) : Hf p f n0 args σ Q' := by
  refine ⟨h.call, ?_⟩
  have key : Ct p f n0 args σ (fun g σ' n' => ∃ rest A, hlook σ' 0 = some (.ab A) ∧ leσ id rest σ' ∧ (Nat.blt 0 n0 && Nat.ble n0 n' && idb n0 g && idbH n0 rest && distB (0 :: hids id rest)) = true ∧ Q' g ((0, .ab A) :: rest) n0) := by
    intro H us w hn hg hc hs
    refine Calls.mono (h.ct H us w hn hg hc hs) (fun e w' he => ?_)
    obtain ⟨u, g, H', σ', rfl, hi, hs', hfr, hq⟩ := he
    obtain ⟨rest, hchk, hq⟩ := hQ g σ' _ hq
    rcases hq with ⟨r, n, τ, h1, h2, hchk2, h3⟩ | ⟨A, h1, h2, h3⟩
    · have hc1 := hchk
      simp only [Bool.and_eq_true] at hchk hchk2
      obtain ⟨⟨⟨⟨c4, c5⟩, c6⟩, c7⟩, c8⟩ := hchk
      obtain ⟨⟨c1, c2⟩, c3⟩ := hchk2
      have hn' := Nat.le_of_ble_eq_true c5
      have h00 := blt_lt c4
      obtain ⟨fp, hsat, hin⟩ := hs'.pack h1 c1 c2 (beq_eq c3) (by omega)
      simp only [distB, Bool.and_eq_true, Bool.not_eq_true'] at c8
      refine ⟨u, g, H', _, rfl, hi, hsat, ?_, rest, _, rfl, leσ_cons0 rest c8.1 h2, hc1, h3 fp⟩
      exact ⟨hfr.os, hfr.tape, hfr.output, hfr.size, hfr.keep, fun c hc => hfr.own c (hin c hc), hfr.fro, hfr.le⟩
    · exact ⟨u, g, H', σ', rfl, hi, hs', hfr, rest, A, h1, h2, hchk, h3⟩
  refine key.weak fun g σ' n' hq => ?_
  obtain ⟨rest, A, hh, hl, hchk, hq⟩ := hq
  simp only [Bool.and_eq_true] at hchk
  obtain ⟨⟨⟨⟨c4, c5⟩, c6⟩, c7⟩, c8⟩ := hchk
  have hfix : ∀ n, fixB id n = true := fun n => by
    induction n with
    | zero => rfl
    | succ n ih => simp [fixB, ih]
  refine ⟨id, g, (0, .ab A) :: rest, n0, hq, (ren_id g).symm, ⟨hh, hl⟩, ?_⟩
  simp only [idbH, idbR, Bool.and_eq_true]
  exact ⟨⟨⟨⟨c6, ⟨⟨c4, trivial⟩, c7⟩⟩, c8⟩, hfix n0⟩, by rw [Nat.ble_eq]; exact Nat.le_refl n0⟩

theorem Hf.eqG {p : Pg} {f : FuncId} {n0 : Nat} {args : List GV} {σ : Heap} {g : GV} {R : Heap → Nat → Prop} (h : Hf p f n0 args σ fun g' σ' n' => GK.eqG g g' ∧ R σ' n') : Hf p f n0 args σ fun g' σ' n' => g' = g ∧ R σ' n' := by
  refine ⟨h.call, fun H us w hn hg hc hs => ?_⟩
  refine Calls.mono (h.ct H us w hn hg hc hs) (fun e w' he => ?_)
  obtain ⟨u, g', H', σ', rfl, hi, hs', hfr, he, hR⟩ := he
  exact ⟨u, g, H', σ', rfl, eqG_is he hi, hs', hfr, rfl, hR⟩

section
variable {cx : Cx} {T : Post}
end
end Go.GK
/-
  strings.Builder: the shelf's walks once more, with what they change told exactly (one block, and its row of bytes).
-/
set_option linter.unusedVariables false
namespace Go.Lib
section
variable {P : Program} (w : World)
end
end Go.Lib
namespace Go.Proofs
open Go.Shelf Go.RowKit
variable {P : Program} {ρ : Ren}
end Go.Proofs
/-
  The ghost machine: calls on one packed thing, off the shelf; a strings.Builder.
-/
namespace Go.GK
open Go.RowKit

section
variable {cx : Cx} {T : Post}
end
section
variable {cx : Cx} {T : Post}
theorem RA.goH {ops : List Oper} {k : List It} {σs : Heap} {ρq : Env} {fuel : Nat} {listed : List Bool} {s : St} (i : Nat) (order : List (Nat × Bool)) (e : Bool) {o : Oper} {f : FuncId} {n0 : Nat} {cargs gs : List GV} {σc : Heap} {Q : GV → Heap → Nat → Prop} (hp : cx.pg.Ok) (hsel : Region.noSelect ops.toArray = true) (hT : ∀ ch s, ¬ T (.panic ch) s) (hr : Hf cx.pg f n0 cargs σc Q) (r : Nat → Nat) (hi : ops[i]? = some o) (hk : callG cx.pg ops s.ρ o = some (f, gs)) (hargs : gs = renL r cargs) (hσ : leσ r σc s.σ)
    (chk : (idbL n0 cargs && idbH n0 σc && distB (hids r σc)) = true) (hrn : ∀ i, i < n0 → r i < s.n)
    (hB : (eqB (Region.ready .any ops.toArray listed.toArray) [i] && ordB ops e order (listed.set i true)) = true)
    (h : ∀ g σ' n', Q g σ' n' → nf (ren (sh r n0 s.n) g) fun g => nfH (renH (sh r n0 s.n) σ' ++ hrest (hids r σc) s.σ) fun σ => nfN (s.n + (n' - n0)) fun n => nfE (qput ρq o.dst g) fun ρq => dputV cx.N s.ρ o.dst g fun ρ' => rvc cx T ops k σs e order fuel (listed.set i true) ρq ⟨ρ', σ, n⟩) : RA cx T ops k σs ρq (fuel + 1) listed s := by
  obtain ⟨fo, args, ts, first, caps, gs', ho', hgd, hf, he, hargs'⟩ := callG_spec hk
  simp only [Bool.and_eq_true] at hB
  refine RA.call (n0 := n0) (r := r) (σc := σc) i hr.ct hr.call hi (eqB_eq hB.1) hgd ho' hf he (hargs'.trans hargs) hσ chk hrn ?_
  intro g σ' n' hq
  have := h g σ' n' hq
  rw [nf_eq, nfH_eq, nfN_eq, nfE_eq] at this ⊢
  revert this
  cases o.dst with
  | none => exact fun h => RA.run hp hsel hT order hB.2 h
  | some d =>
    simp only [dputV, dput]
    cases Nat.blt d cx.N with
    | false => exact fun h => h
    | true => simp only [cond_true, nf_eq]; exact fun h => RA.run hp hsel hT order hB.2 h
end
end Go.GK
/-
  The ghost machine: make of a slice whose elements take one cell.
-/
namespace Go.GK
open Go.RowKit
section
variable {cx : Cx} {T : Post}
end
end Go.GK
/-
  The ghost machine: a region that draws its order, two of whose operations that make memory may come up at once; its end told once.
-/
namespace Go.GK
open Go.RowKit
section
variable {cx : Cx} {T : Post}

def Stp (cx : Cx) (T : Post) (ops : List Oper) (k : List It) (σs : Heap) (ρq : Env) (fuel : Nat) (listed : List Bool) (s : St) (i : Nat) (o : Oper) : Prop :=
  ops[i]? = some o ∧ gdOk ops s.ρ o.guard = true ∧ ∀ (n0 : Nat) (H0 : Hid) (S0 : List Nat) (w0 : World) (h0 : H0.n = n0) (g0 : GlOk cx.pg H0) (H : Hid) (a : Act) (w : World) (K : Act → World → Prop) (Q' : Exit → Act → World → Prop), GlOk cx.pg H → Sim ⟨cx.pg, cx.N, n0, H0, S0, w0, h0, g0⟩ H s w → ActOk cx H s.ρ a → Sat H (s.σ ++ σs) w →
      (∀ (H' : Hid) (u : Value) (g : GV) (w' : World) (s' : St) (ρ' : Env), H.le H' → Is H' g u → Sim ⟨cx.pg, cx.N, n0, H0, S0, w0, h0, g0⟩ H' { s' with ρ := ρ' } w' → ActOk cx H' ρ' (a.put o.dst u) → (∀ d, o.dst = some d → d < cx.N) → RA cx T ops k σs (qput ρq o.dst g) fuel (listed.set i true) { s' with ρ := ρ' } → K (a.put o.dst u) w') →
      o.wp cx.pg.P a w K Q'

theorem RA.both {ops : List Oper} {k : List It} {σs : Heap} {ρq : Env} {fuel : Nat} {listed : List Bool} {s : St} (i j : Nat) {oi oj : Oper} (hr : Region.ready .any ops.toArray listed.toArray = [i, j])
    (hi : Stp cx T ops k σs ρq fuel listed s i oi) (hj : Stp cx T ops k σs ρq fuel listed s j oj) : RA cx T ops k σs ρq (fuel + 1) listed s := by
  have one : ∀ {q : Nat} {o : Oper}, Stp cx T ops k σs ρq fuel listed s q o → ∀ (n0 : Nat) (H0 : Hid) (S0 : List Nat) (w0 : World) (h0 : H0.n = n0) (g0 : GlOk cx.pg H0), Sat H0 σs w0 → (∀ b ∈ blks H0 σs, b ∉ S0) → (∀ b ∈ S0, H0.ro b = none) →
      (∀ H s' w', Sim ⟨cx.pg, cx.N, n0, H0, S0, w0, h0, g0⟩ H s' w' → Sim cx H ⟨s'.ρ, s'.σ ++ σs, s'.n⟩ w') →
      ∀ H a w, Sim ⟨cx.pg, cx.N, n0, H0, S0, w0, h0, g0⟩ H s w → ActOk cx H s.ρ a → EnvOk (H.at H0.ro) ρq a →
      wpOp cx.pg.P ops.toArray (cont cx.pg.P (post cx T) k) q (fun a w => Held S0 w0 w ∧ wpAnyH cx.pg.P .any ops.toArray (cont cx.pg.P (post cx T) k) (Held S0 w0) fuel (listed.toArray.setIfInBounds q true) a w) a w := by
    intro q o hst n0 H0 S0 w0 h0 g0 hσ hap hfree hlink H a w hs ha hq
    obtain ⟨hq', hgd, h⟩ := hst
    unfold wpOp
    have hi' : ops.toArray[q]? = some o := by simpa using hq'
    rw [hi']
    simp only
    have hw := gdOk_wanted (o := o) ha.env hgd
    rw [if_pos hw]
    refine .inl (h n0 H0 S0 w0 h0 g0 H a w _ _ (g0.mono hs.fr.le) hs ha (hlink H s w hs).sat fun H' u g w' s' ρ' hle hi hs' ha' hd hra => ?_)
    rw [set_list]
    refine ⟨hs'.keeps, hra n0 H0 S0 w0 h0 g0 hσ hap hfree hlink H' (a.put o.dst u) w' hs' ha' ?_⟩
    exact EnvOk.at_put (H := H) hq hle (fun d hdd => by rw [ha.size]; exact hd d hdd) hi
  intro n0 H0 S0 w0 h0 g0 hσ hap hfree hlink H a w hs ha hq
  refine wpAnyH_all hr (by simp) (fun q hq' => ?_)
  rcases List.mem_cons.1 hq' with rfl | hq'
  · exact one hi n0 H0 S0 w0 h0 g0 hσ hap hfree hlink H a w hs ha hq
  · obtain rfl := List.mem_singleton.1 hq'
    exact one hj n0 H0 S0 w0 h0 g0 hσ hap hfree hlink H a w hs ha hq

theorem Stp.mem {ops : List Oper} {k : List It} {σs : Heap} {ρq : Env} {fuel : Nat} {listed : List Bool} {s : St} (i : Nat) {o : Oper} (hp : cx.pg.Ok) (hi : ops[i]? = some o) (hgd : gdOk ops s.ρ o.guard = true) (hpu : isPure o.op = false)
    (h : goVC cx false s o (fun s' => RA cx T ops k σs (qput ρq o.dst (match s'.ρ with | (_, g) :: _ => g | [] => .v undef)) fuel (listed.set i true) s') (fun _ => False) s.ρ) : Stp cx T ops k σs ρq fuel listed s i o := by
  refine ⟨hi, hgd, fun n0 H0 S0 w0 h0 g0 H a w K Q' hg hs ha _ hK => ?_⟩
  have ha' : ActOk ⟨cx.pg, cx.N, n0, H0, S0, w0, h0, g0⟩ H s.ρ a := ⟨ha.env, ha.size, ha.defers⟩
  have h' : goVC ⟨cx.pg, cx.N, n0, H0, S0, w0, h0, g0⟩ false s o (fun s' => RA cx T ops k σs (qput ρq o.dst (match s'.ρ with | (_, g) :: _ => g | [] => .v undef)) fuel (listed.set i true) s') (fun _ => False) s.ρ := h
  rcases go_mem (cx := ⟨cx.pg, cx.N, n0, H0, S0, w0, h0, g0⟩) hp hg hs ha' hpu h' with hl | ⟨H', u, g, w', s0, hle, hrun, hi, hd, hsim⟩
  · exact hl.elim
  · refine upon_value_wp hrun ?_
    have hlt := dput_lt hd
    cases hdst : o.dst with
    | none =>
      rw [hdst] at hd
      have h1 := hK H' u g w' s0 s.ρ hle hi (hsim s.ρ) (by rw [hdst]; exact ha.mono hle) hlt (by rw [hdst]; exact hd)
      rw [hdst] at h1
      exact h1
    | some d =>
      rw [hdst] at hd
      simp only [dput, nf_eq] at hd
      have hdl := hlt d hdst
      have hb : Nat.blt d cx.N = true := by rw [Nat.blt_eq]; exact hdl
      rw [hb] at hd
      have hput : ActOk cx H' ((d, g) :: s.ρ) (a.put (some d) u) := ⟨(ha.mono hle).env.put (by rw [ha.size]; exact hdl) hi, by simp [Act.put, ha.size], by simp [Act.put, ha.defers]⟩
      have h1 := hK H' u g w' s0 ((d, g) :: s.ρ) hle hi (hsim _) (by rw [hdst]; exact hput) hlt (by rw [hdst]; exact hd)
      rw [hdst] at h1
      exact h1

theorem JK.drawJ {id : Nat} {ops : Array Oper} {k : List It} {s : St} (M : List Nat) (I : St) (hp : cx.pg.Ok) (hk : JK cx T k I)
    (h : JK cx T k I → RA cx T ops.toList k (hrest M s.σ ++ lns (hsel M s.σ)) s.ρ ops.toList.length (List.replicate ops.toList.length false) ⟨s.ρ, hsel M s.σ, s.n⟩) : JK cx T (.code (.region id ops true) :: k) s :=
  JK.draw M hp (h hk)
theorem RA.endJ {ops : List Oper} {k : List It} {σs : Heap} {ρq : Env} {fuel : Nat} {listed : List Bool} {s I : St} (f : Nat → Nat) (hr : eqB (Region.ready .any ops.toArray listed.toArray) [] = true) (hk : JK cx T k I) (hl : Le cx.n0 f I ⟨s.ρ, s.σ ++ σs, s.n⟩) : RA cx T ops k σs ρq fuel listed s :=
  RA.done (eqB_eq hr) (JK.weaken f I hl hk)

def cutT {α : Type} (cx : Cx) (T : Post) (k : List It) (I : α → St) (pre : α → Prop) : Post := fun e s =>
  match e with
  | .normal => ∃ (y : α) (f : Nat → Nat), Le cx.n0 f (I y) s ∧ pre y
  | e => outT cx T k e s
theorem JK.cut {α : Type} {c : Code} {k : List It} {s : St} (I : α → St) (pre : α → Prop) (hb : JK cx (cutT cx T k I pre) [.code c] s) (hk : ∀ x, pre x → JK cx T k (I x)) : JK cx T (.code c :: k) s := by
  intro H a w hg hs ha
  have h1 := hb H a w hg hs ha
  have hgx : ∀ {H' : Hid}, Hid.le cx.H0 H' → GlOk cx.pg H' := fun hle => cx.g0.mono hle
  refine Code.wp_mono (fun e a' w' hq => ?_) h1
  obtain ⟨H', s', hs', ha', hT⟩ := hq
  cases e with
  | normal =>
    obtain ⟨y, f, hl, hpy⟩ := hT
    obtain ⟨H2, hg2, hs2, ha2⟩ := GK.weaken (hgx hs'.fr.le) hs' ha' hl
    exact hk y hpy H2 a' w' hg2 hs2 ha2
  | exit id => exact cont_out (hgx hs'.fr.le) hs' ha' hT
  | goto l => exact cont_out (hgx hs'.fr.le) hs' ha' hT
  | ret => exact cont_out (hgx hs'.fr.le) hs' ha' hT
  | panic ch => exact cont_out (hgx hs'.fr.le) hs' ha' hT
  | outgrown => exact cont_out (hgx hs'.fr.le) hs' ha' hT
end
end Go.GK
/-
  The ghost machine: a value that is told otherwise (a nil slice as an empty one that is only read).
-/
namespace Go.GK
open Go.RowKit
def Sub (g' g : GV) : Prop := ∀ {H : Hid} {u : Value}, Is H g u → Is H g' u
theorem Sub.rfl {g : GV} : Sub g g := fun h => h
theorem Sub.nil (sz : Nat) : Sub (.sl sz []) (.v (.slice none 0 0)) := fun {H u} h => by
  rw [h.inv_v]
  exact .ro .slnil
theorem Hf.imp {p : Pg} {f : FuncId} {n0 : Nat} {args : List GV} {σ : Heap} {Q Q' : GV → Heap → Nat → Prop} (h : Hf p f n0 args σ Q) (hQ : ∀ g σ' n', Q g σ' n' → Q' g σ' n') : Hf p f n0 args σ Q' :=
  ⟨h.call, fun H us w a b c d => (h.ct H us w a b c d).mono fun _ _ ⟨u, g, H', σ', e1, e2, e3, e4, hq⟩ => ⟨u, g, H', σ', e1, e2, e3, e4, hQ _ _ _ hq⟩⟩
theorem Hf.sub {p : Pg} {f : FuncId} {n0 : Nat} {args : List GV} {σ : Heap} {Q Q' : GV → Heap → Nat → Prop} (h : Hf p f n0 args σ Q) (hQ : ∀ g σ' n', Q g σ' n' → ∃ g', Sub g' g ∧ Q' g' σ' n') : Hf p f n0 args σ Q' := by
  refine ⟨h.call, fun H us w hn hg hc hs => ?_⟩
  refine Calls.mono (h.ct H us w hn hg hc hs) (fun e w' he => ?_)
  obtain ⟨u, g, H', σ', rfl, hi, hs', hfr, hq⟩ := he
  obtain ⟨g', hs2, hq'⟩ := hQ g σ' _ hq
  exact ⟨u, g', H', σ', rfl, hs2 hi, hs', hfr, hq'⟩
theorem Rq.sub {p : Pg} {f : FuncId} {args : List GV} {Q Q' : GV → Prop} (h : Rq p f args Q) (hQ : ∀ g, Q g → ∃ g', Sub g' g ∧ Q' g' ∧ idb 0 g' = true) : Rq p f args Q' :=
  ⟨h.call, fun H us w hn hg hcs hs => (h.ct H us w hn hg hcs hs).mono fun _ _ ⟨u, g, H', σ', e, hi, hs', hfr, hv, r⟩ => by
    obtain ⟨g', hs2, hq', hid⟩ := hQ g hv.1
    exact ⟨u, g', H', σ', e, hs2 hi, hs', hfr, ⟨hq', hid⟩, r⟩⟩
section
variable {cx : Cx} {T : Post}
theorem JK.sub {k : List It} {s : St} (t : Nat) {g : GV} (g' : GV) (hl : look s.ρ t = some g) (hg : Sub g' g) (h : JK cx T k ⟨(t, g') :: s.ρ, s.σ, s.n⟩) : JK cx T k s := by
  refine JK.upd _ (fun H a w hgl hs ha => ⟨H, hgl, hs.ρ _, ⟨ha.env.cons ?_, ha.size, ha.defers⟩⟩) h
  exact hg (ha.env t _ hl)
end
end Go.GK
/-
  Rules: calls that have own things, what stands behind them not told as conditions yet; so many steps; a map's lookup.
-/
namespace Go.Proofs.YtkoalgjlkcaonaaGreatDoor
open Go.GK Go.RowKit
section
variable {N n0 : Nat} {H0 : Hid} {S0 : List Nat} {w0 : World} {h0 : H0.n = n0} {g0 : GlOk pg H0} {T : Post} {k : List It} {s : St}
theorem GOJ {all : List Oper} {o : Oper} {rest : List Oper} {f : FuncId} {m : Nat} {cargs gs : List GV} {σc : Heap} {Q : GV → Heap → Nat → Prop} (hr : Hf pg f m cargs σc Q) (r : Nat → Nat) (hk : callG pg all s.ρ o = some (f, gs)) (hargs : gs = renL r cargs) (hσ : leσ r σc s.σ)
    (chk : (idbL m cargs && idbH m σc && distB (hids r σc)) = true) (hrn : ∀ i, i < m → r i < s.n)
    (h : ∀ g σ' n', Q g σ' n' → nf (ren (sh r m s.n) g) fun g => nfH (renH (sh r m s.n) σ' ++ hrest (hids r σc) s.σ) fun σ => nfN (s.n + (n' - m)) fun n => dputV N s.ρ o.dst g fun ρ' => JK ⟨pg, N, n0, H0, S0, w0, h0, g0⟩ T (.ops false all rest :: k) ⟨ρ', σ, n⟩) :
    JK ⟨pg, N, n0, H0, S0, w0, h0, g0⟩ T (.ops false all (o :: rest) :: k) s := by
  obtain ⟨fo, args, ts, first, caps, gs', ho, hgd, hf, he, hargs'⟩ := callG_spec hk
  refine JK.call hr.ct hr.call r ho hgd hf he (hargs'.trans hargs) hσ chk hrn (fun g σ' n' hq => ?_)
  have := h g σ' n' hq
  simp only [dputV_eq] at this
  exact this
theorem VM (n : Nat) (h : vc ⟨pg, N, n0, H0, S0, w0, h0, g0⟩ T n k s) : JK ⟨pg, N, n0, H0, S0, w0, h0, g0⟩ T k s := vc_sound pg_ok n k s h
end
theorem _root_.Go.GK.Rq.hf {f : FuncId} {args : List GV} {G : GV} (h : Rt pg f args G) : Hf pg f 0 args [] (fun g σ n => g = G ∧ σ = [] ∧ n = 0) :=
  ⟨h.call, fun H us w hn hg hcs hs => (h.ct H us w hn hg hcs hs).mono fun _ _ ⟨u, g, H', σ', e, hi, hs', hfr, ⟨hq, _⟩, h1, h2⟩ => ⟨u, g, H', σ', e, hi, hs', hfr, hq, h1, h2⟩⟩
theorem id_lt {a n : Nat} (h : Nat.ble a n = true) : ∀ i, i < a → id i < n := fun _ hi => Nat.lt_of_lt_of_le hi (Nat.le_of_ble_eq_true h)
end Go.Proofs.YtkoalgjlkcaonaaGreatDoor
/-
  The ghost machine: a region that draws its order: one operation comes up, whose guard is told by a proof.
-/
namespace Go.GK
open Go.RowKit
section
variable {cx : Cx} {T : Post}
theorem RA.one {ops : List Oper} {k : List It} {σs : Heap} {ρq : Env} {fuel : Nat} {listed : List Bool} {s : St} (i : Nat) {oi : Oper} (hr : Region.ready .any ops.toArray listed.toArray = [i])
    (hi : Stp cx T ops k σs ρq fuel listed s i oi) : RA cx T ops k σs ρq (fuel + 1) listed s := by
  have one : ∀ {q : Nat} {o : Oper}, Stp cx T ops k σs ρq fuel listed s q o → ∀ (n0 : Nat) (H0 : Hid) (S0 : List Nat) (w0 : World) (h0 : H0.n = n0) (g0 : GlOk cx.pg H0), Sat H0 σs w0 → (∀ b ∈ blks H0 σs, b ∉ S0) → (∀ b ∈ S0, H0.ro b = none) →
      (∀ H s' w', Sim ⟨cx.pg, cx.N, n0, H0, S0, w0, h0, g0⟩ H s' w' → Sim cx H ⟨s'.ρ, s'.σ ++ σs, s'.n⟩ w') →
      ∀ H a w, Sim ⟨cx.pg, cx.N, n0, H0, S0, w0, h0, g0⟩ H s w → ActOk cx H s.ρ a → EnvOk (H.at H0.ro) ρq a →
      wpOp cx.pg.P ops.toArray (cont cx.pg.P (post cx T) k) q (fun a w => Held S0 w0 w ∧ wpAnyH cx.pg.P .any ops.toArray (cont cx.pg.P (post cx T) k) (Held S0 w0) fuel (listed.toArray.setIfInBounds q true) a w) a w := by
    intro q o hst n0 H0 S0 w0 h0 g0 hσ hap hfree hlink H a w hs ha hq
    obtain ⟨hq', hgd, h⟩ := hst
    unfold wpOp
    have hi' : ops.toArray[q]? = some o := by simpa using hq'
    rw [hi']
    simp only
    have hw := gdOk_wanted (o := o) ha.env hgd
    rw [if_pos hw]
    refine .inl (h n0 H0 S0 w0 h0 g0 H a w _ _ (g0.mono hs.fr.le) hs ha (hlink H s w hs).sat fun H' u g w' s' ρ' hle hi hs' ha' hd hra => ?_)
    rw [set_list]
    refine ⟨hs'.keeps, hra n0 H0 S0 w0 h0 g0 hσ hap hfree hlink H' (a.put o.dst u) w' hs' ha' ?_⟩
    exact EnvOk.at_put (H := H) hq hle (fun d hdd => by rw [ha.size]; exact hd d hdd) hi
  intro n0 H0 S0 w0 h0 g0 hσ hap hfree hlink H a w hs ha hq
  refine wpAnyH_all hr (by simp) (fun q hq' => ?_)
  obtain rfl := List.mem_singleton.1 hq'
  exact one hi n0 H0 S0 w0 h0 g0 hσ hap hfree hlink H a w hs ha hq

end
end Go.GK
/-
  The ghost machine: a contract of a call that sets one cell of an own block, told by its world; what is given beside it is told by a handle.
-/
namespace Go.GK
open Go.RowKit
section
variable {p : Pg}
theorem Is.r0 {H : Hid} {σ : Heap} {w : World} {x : Value} {cs : List GV} {u : Value} (hs : Sat H σ w) (h : Is H (.r (.v x :: cs)) u) : ∃ a, u = .pointer (some a) ∧ w.cell? a = some x := by
  cases h with
  | ro h =>
    cases h with
    | r us h1 h2 =>
      rename_i ad
      have e := h1 0 (.v x) rfl
      have e2 := h2 0 (.v x) rfl
      cases e2
      exact ⟨ad, rfl, roCell_cell hs.ro e⟩
end
end Go.GK
/-
  The ghost machine: a string's bytes appended to own bytes.
-/
namespace Go.GK
open Go.RowKit
section
variable {p : Pg} {H : Hid} {w : World}
theorem Sim.regrown {cx : Cx} {s : St} (hs : Sim cx H s w) {e sz : Nat} {ud u : Value} {rows news : List (List GV)} {σ' : Heap} {xs ys : List Value} {w' : World}
    (hown' : w'.ownsRow 0 e sz u (rows.length + news.length) (xs ++ ys)) (hrow : RowOk H.ro sz rows xs) (hyr : RowOk H.ro sz news ys) (hin : ∀ b ∈ ud.ownBlock.toList, b ∈ blks H s.σ) (hsub : ∀ x ∈ σ', x ∈ s.σ) (hnd : (blks H σ').Nodup) (hout : ∀ b ∈ ud.ownBlock.toList, b ∉ blks H σ')
    (hgr : w.grownBy w' ud.ownBlock) (hblk : u.ownBlock = ud.ownBlock ∨ u.ownBlock = some w.heap.size) (ρ : Env) :
    ∃ H', H.le H' ∧ Is H' (.o s.n) u ∧ Sim cx H' { ρ := ρ, σ := (s.n, .row e sz (rows ++ news)) :: σ', n := s.n + 1 } w' := by
  have hsl : ∃ A' c', u = .slice A' (rows.length + news.length) c' := by
    rcases hown'.2 with ⟨rfl, hn⟩ | ⟨g, cap, cur, rfl, _⟩
    · exact ⟨none, 0, by rw [hn]⟩
    · exact ⟨_, _, rfl⟩
  obtain ⟨A', c', hue⟩ := hsl
  have hle := H.le_more w.heap.size u
  have esv : (H.more w.heap.size u).sv s.n = u := by simp [Hid.more, hs.n]
  have hn : s.n < (H.more w.heap.size u).n := by simp [Hid.more, hs.n]
  have hlt : ∀ b ∈ blks H s.σ, b < w.heap.size := hs.sat.lt
  have hblkin : ∀ b ∈ u.ownBlock.toList, b ∈ ud.ownBlock.toList ∨ b = w.heap.size := fun b hb => by
    rcases hblk with h | h
    · rw [h] at hb; exact .inl hb
    · rw [h] at hb; simp at hb; exact .inr hb
  have hsubB : ∀ b ∈ blks H σ', b ∈ blks H s.σ := fun b hb => by
    obtain ⟨x, hx, hbx⟩ := List.mem_flatMap.1 hb
    exact List.mem_flatMap.2 ⟨x, hsub x hx, hbx⟩
  have hbl : blks (H.more w.heap.size u) σ' = blks H σ' := blks_le hle (fun x hx => hs.sat.ids x (hsub x hx))
  have hkeep : ∀ b, b < w.heap.size → b ∉ ud.ownBlock.toList → w'.heap[b]? = w.heap[b]? := fun b h1 h2 => hgr.block b h1 (fun e => h2 (by rw [← e]; simp))
  have hblocks : blocks (H.more w.heap.size u) (s.n, Res.row e sz (rows ++ news)) = u.ownBlock.toList := by simp [blocks, esv]
  refine ⟨H.more w.heap.size u, hle, ?_, ?_⟩
  · rw [hue] at esv ⊢
    exact .o hn esv rfl
  · have hfr := hs.fr
    refine ⟨by simp [Hid.more, hs.n], ⟨fun b o ho => ?_, fun x hx => ?_, ?_, fun b hbm => ?_, fun x hx => ?_⟩, ?_⟩
    · have h1 := hs.sat.ro b o ho
      rw [hkeep b (Array.getElem?_eq_some_iff.1 h1).1 (fun hbx => by have h2 := hs.sat.free b (hin b hbx); have h3 : H.ro b = some o := ho; rw [h2] at h3; cases h3)]
      exact h1
    · rcases List.mem_cons.1 hx with rfl | hx
      · refine ⟨xs ++ ys, ?_, (hrow.append hyr).mono hle.ro⟩
        rw [esv]
        simpa using hown'
      · refine holds_congr (w := w) (fun b hb => ?_) (holds_le hle (hs.sat.ids x (hsub x hx)) (hs.sat.holds x (hsub x hx)))
        rw [blocks_le hle (hs.sat.ids x (hsub x hx))] at hb
        have hbm : b ∈ blks H σ' := List.mem_flatMap.2 ⟨x, hx, hb⟩
        exact hkeep b (hlt b (hsubB b hbm)) (fun hc => hout b hc hbm)
    · rw [blks_cons, hbl, hblocks]
      refine List.nodup_append.2 ⟨by cases u.ownBlock <;> simp, hnd, fun b hb c hc e => ?_⟩
      subst e
      rcases hblkin b hb with h | h
      · exact hout b h hc
      · have := hlt b (hsubB b hc); omega
    · show H.ro b = none
      rw [blks_cons, hbl, hblocks] at hbm
      rcases List.mem_append.1 hbm with h | h
      · rcases hblkin b h with h | h
        · exact hs.sat.free b (hin b h)
        · exact hs.sat.none_size b (by omega)
      · exact hs.sat.free b (hsubB b h)
    · rcases List.mem_cons.1 hx with rfl | hx
      · exact hn
      · exact Nat.lt_of_lt_of_le (hs.sat.ids x (hsub x hx)) hle.n
    · refine ⟨hgr.os.trans hfr.os, hgr.tape.trans hfr.tape, hgr.output.trans hfr.output, Nat.le_trans hfr.size hgr.size, fun b h1 h2 => ?_, fun b hbm => ?_, hfr.fro, hfr.le.trans hle⟩
      · rw [hkeep b (Nat.lt_of_lt_of_le h1 hfr.size) (fun hbx => ?_)]
        · exact hfr.keep b h1 h2
        · rcases hfr.own b (hin b hbx) with h | h
          · exact h2 h
          · omega
      · simp only at hbm
        rw [blks_cons, hbl, hblocks] at hbm
        rcases List.mem_append.1 hbm with h | h
        · rcases hblkin b h with h | h
          · exact hfr.own b (hin b h)
          · exact .inr (by have := hfr.size; omega)
        · exact hfr.own b (hsubB b h)
end
section
variable {cx : Cx} {T : Post}
end
end Go.GK
/-
  The ghost machine: a piece of an own slice is cleared; an own slice is cut to its beginning.
-/
namespace Go.GK
open Go.RowKit
section
variable {p : Pg} {H : Hid} {w : World}
theorem RowOk.vals (ro : Nat → Option Obj) (sz n : Nat) (us : List Value) (hl : us.length = n * sz) (h1 : ∀ u ∈ us, u.oneCell' = true) : ∃ zs : List (List GV), zs.length = n ∧ RowOk ro sz zs us := by
  refine ⟨(List.range n).map fun i => (List.range sz).map fun j => .v (us.getD (i * sz + j) undef), by simp, by simp [hl], fun row hr => ?_, fun i row hr j g hj => ?_, h1⟩
  · obtain ⟨i, _, rfl⟩ := List.mem_map.1 hr
    simp
  · rw [List.getElem?_map] at hr
    obtain ⟨i', hi, rfl⟩ := Option.map_eq_some_iff.1 hr
    have hi1 := (List.getElem?_eq_some_iff.1 hi)
    obtain ⟨hi2, hi3⟩ := hi1
    simp at hi2 hi3
    subst hi3
    rw [List.getElem?_map] at hj
    obtain ⟨j', hj', rfl⟩ := Option.map_eq_some_iff.1 hj
    obtain ⟨hj2, hj3⟩ := List.getElem?_eq_some_iff.1 hj'
    simp at hj2 hj3
    subst hj3
    have hlt : i * sz + j < us.length := by
      rw [hl]
      have := Nat.mul_le_mul_right sz (show i + 1 ≤ n by omega)
      rw [Nat.add_mul] at this
      omega
    exact ⟨us.getD (i * sz + j) undef, by simp [hlt], .v _⟩
theorem RowOk.take {ro : Nat → Option Obj} {sz : Nat} {rows : List (List GV)} {xs : List Value} (h : RowOk ro sz rows xs) (m : Nat) : RowOk ro sz (rows.take m) (xs.take (m * sz)) := by
  refine ⟨?_, fun row hr => h.each row (List.mem_of_mem_take hr), fun i row hr j g hj => ?_, fun u hu => h.one u (List.mem_of_mem_take hu)⟩
  · rw [List.length_take, List.length_take, h.len]
    by_cases hm : m ≤ rows.length
    · have := Nat.mul_le_mul_right sz hm
      rw [Nat.min_eq_left hm, Nat.min_eq_left this]
    · have := Nat.mul_le_mul_right sz (show rows.length ≤ m by omega)
      rw [Nat.min_eq_right (show rows.length ≤ m by omega), Nat.min_eq_right this]
  · rw [List.getElem?_take] at hr
    split at hr
    · rename_i hi
      obtain ⟨u, hu, his⟩ := h.is i row hr j g hj
      refine ⟨u, ?_, his⟩
      have hj' : j < sz := by rw [← h.each row (List.mem_of_getElem? hr)]; exact (List.getElem?_eq_some_iff.1 hj).1
      have := Nat.mul_le_mul_right sz (show i + 1 ≤ m by omega)
      rw [Nat.add_mul] at this
      rw [List.getElem?_take, if_pos (by omega)]
      exact hu
    · cases hr
theorem RowOk.drop {ro : Nat → Option Obj} {sz : Nat} {rows : List (List GV)} {xs : List Value} (h : RowOk ro sz rows xs) (m : Nat) : RowOk ro sz (rows.drop m) (xs.drop (m * sz)) := by
  refine ⟨?_, fun row hr => h.each row (List.mem_of_mem_drop hr), fun i row hr j g hj => ?_, fun u hu => h.one u (List.mem_of_mem_drop hu)⟩
  · rw [List.length_drop, List.length_drop, h.len, Nat.sub_mul]
  · rw [List.getElem?_drop] at hr
    obtain ⟨u, hu, his⟩ := h.is (m + i) row hr j g hj
    refine ⟨u, ?_, his⟩
    rw [List.getElem?_drop, ← hu]
    congr 1
    rw [Nat.add_mul]
    omega
end
section
variable {cx : Cx} {T : Post}
theorem JK.eqNil {all : List Oper} {o : Oper} {rest : List Oper} {k : List It} {s : St} {t e t' : TypeId} {x : Operand} {ti : TI} {sz : Nat} {rows : List (List GV)} (hp : cx.pg.Ok) (ho : o.op = .binOp .eql t x (.const (.slice none 0 0)) t') (hgd : gdOk all s.ρ o.guard = true)
    (ht : tget cx.pg.tt t = some ti) (htd : ti.d = .slice e) (hx : ev cx.pg s.ρ x = some (.sl sz rows))
    (hk1 : rows = [] → dput cx.N s.ρ o.dst (.v (.bool true)) fun ρ' => JK cx T (.ops false all rest :: k) ⟨ρ', s.σ, s.n⟩)
    (hk2 : dput cx.N s.ρ o.dst (.v (.bool false)) fun ρ' => JK cx T (.ops false all rest :: k) ⟨ρ', s.σ, s.n⟩) : JK cx T (.ops false all (o :: rest) :: k) s := by
  intro H a w hg hs ha
  have hw := gdOk_wanted (o := o) ha.env hgd
  have hu : cx.pg.P.underlying t = some (.slice e) := by have := (hp.tt _ _ ht).d; rw [htd] at this; exact this
  obtain ⟨A, c, us, hv, hc, hm, he, hne⟩ := (ev_is hg ha.env hx).inv_sl.inv_sl
  have hrun : (execOp a.eval o).run cx.pg.P w = .ok (.value (.bool A.isNone)) w := by
    have := Lib.run_eql_slice_nil (P := cx.pg.P) w t e A rows.length c 0 0 hu
    have hgd : (eqGuard .eql t x (.const (.slice none 0 0)) (.slice A rows.length c) (.slice none 0 0)).run cx.pg.P w = .ok () w := by simp [eqGuard]
    have hc : a.eval (.const (.slice none 0 0)) = .slice none 0 0 := rfl
    simp only [execOp, ho, hv, hc, Sem.run_bind, hgd, Result.andThen_ok, this]
    rfl
  cases A with
  | none =>
    have hr : rows = [] := by
      by_cases h : rows = []
      · exact h
      · obtain ⟨ad, h1, _⟩ := hne h; cases h1
    obtain ⟨ρ', ha', hJ⟩ := ha.dput (u := .bool true) (.ro (.v _)) (hk1 hr)
    exact wpList_run hw hrun (hJ _ (a.put o.dst _) w hg (hs.ρ ρ') ha')
  | some ad =>
    obtain ⟨ρ', ha', hJ⟩ := ha.dput (u := .bool false) (.ro (.v _)) hk2
    exact wpList_run hw hrun (hJ _ (a.put o.dst _) w hg (hs.ρ ρ') ha')
end
theorem Hf.ofJ {p : Pg} {f : FuncId} {fn : Func} {c : Code} {n0 N : Nat} {args : List GV} {σ : Heap} {Q : GV → Heap → Nat → Prop} (hp : p.Ok) (hf : p.P.funcs[f]? = some fn) (hb : fn.body = some c) (hN : fn.ntmps = N) (hl : Nat.ble args.length N = true) {rs : Array ResultVar} (hr : fn.results = rs)
    (hc : ∀ ar w, (callFunc f ar).run p.P w = .ok (.enter f ar) w)
    (h : ∀ (H0 : Hid) (S0 : List Nat) (w0 : World) (h0 : H0.n = n0) (g0 : GlOk p H0), JK ⟨p, N, n0, H0, S0, w0, h0, g0⟩ (retT p rs.toList Q) [.code c] ⟨argEnv 0 args, σ, n0⟩) : Hf p f n0 args σ Q :=
  ⟨hc, Ct.of_JK hp hf hb hN hl hr h⟩
theorem Rt.ofJ {p : Pg} {f : FuncId} {fn : Func} {c : Code} {N : Nat} {args : List GV} {G : GV} (hp : p.Ok) (hf : p.P.funcs[f]? = some fn) (hb : fn.body = some c) (hN : fn.ntmps = N) (hl : Nat.ble args.length N = true) {rs : Array ResultVar} (hr : fn.results = rs)
    (hc : ∀ ar w, (callFunc f ar).run p.P w = .ok (.enter f ar) w)
    (h : ∀ (H0 : Hid) (S0 : List Nat) (w0 : World) (h0 : H0.n = 0) (g0 : GlOk p H0), JK ⟨p, N, 0, H0, S0, w0, h0, g0⟩ (retT p rs.toList fun g _ _ => eqG G g ∧ idb 0 g = true) [.code c] ⟨argEnv 0 args, [], 0⟩) : Rt p f args G := by
  have hq : Rq p f args (eqG G) := ⟨hc, Ct.weak (Ct.of_JK hp hf hb hN hl hr h) fun g σ' n' hq => ⟨id, g, [], 0, ⟨hq, rfl, rfl⟩, (ren_id g).symm, trivial, by simp [hq.2, idbH, hids, distB, fixB]⟩⟩
  refine ⟨hc, fun H us w hn hg hcs hs => ?_⟩
  refine (hq.ct H us w hn hg hcs hs).mono ?_
  rintro e w' ⟨u, g, H', σ', rfl, hi, hs', hfr, hq, h1, h2⟩
  exact ⟨u, G, H', σ', rfl, eqG_is hq.1 hi, hs', hfr, ⟨rfl, eqG_idb hq.1 hq.2⟩, h1, h2⟩
def SubR (g' g : GV) : Prop := ∀ {ro : Nat → Option Obj} {u : Value}, IsR ro g u → IsR ro g' u
theorem SubR.rfl {g : GV} : SubR g g := fun h => h
theorem SubR.nil (sz : Nat) : SubR (.sl sz []) (.v (.slice none 0 0)) := fun {ro u} h => by
  cases h
  exact .slnil
inductive SubL : List GV → List GV → Prop
  | nil : SubL [] []
  | cons {x y : GV} {xs ys : List GV} (h : SubR x y) (t : SubL xs ys) : SubL (x :: xs) (y :: ys)
inductive SubRows : List (List GV) → List (List GV) → Prop
  | nil : SubRows [] []
  | cons {x y : List GV} {xs ys : List (List GV)} (h : SubL x y) (t : SubRows xs ys) : SubRows (x :: xs) (y :: ys)
theorem SubL.get : ∀ {xs ys : List GV}, SubL xs ys → xs.length = ys.length ∧ ∀ (j : Nat) (x : GV), xs[j]? = some x → ∃ y, ys[j]? = some y ∧ SubR x y
  | [], [], _ => ⟨_root_.rfl, fun j x h => by simp at h⟩
  | _ :: _, _ :: _, .cons h t => by
    obtain ⟨h1, h2⟩ := t.get
    refine ⟨by simp [h1], fun j x hx => ?_⟩
    cases j with
    | zero => simp at hx; subst hx; exact ⟨_, _root_.rfl, h⟩
    | succ j => obtain ⟨y, hy, hs⟩ := h2 j x (by simpa using hx); exact ⟨y, by simpa using hy, hs⟩
theorem SubRows.get : ∀ {xs ys : List (List GV)}, SubRows xs ys → xs.length = ys.length ∧ ∀ (j : Nat) (x : List GV), xs[j]? = some x → ∃ y, ys[j]? = some y ∧ SubL x y
  | [], [], _ => ⟨_root_.rfl, fun j x h => by simp at h⟩
  | _ :: _, _ :: _, .cons h t => by
    obtain ⟨h1, h2⟩ := t.get
    refine ⟨by simp [h1], fun j x hx => ?_⟩
    cases j with
    | zero => simp at hx; subst hx; exact ⟨_, _root_.rfl, h⟩
    | succ j => obtain ⟨y, hy, hs⟩ := h2 j x (by simpa using hx); exact ⟨y, by simpa using hy, hs⟩
theorem Sub.rows {sz : Nat} {rows rows' : List (List GV)} (h : SubRows rows' rows) : Sub (.sl sz rows') (.sl sz rows) := fun {H u} hi => by
  have hr := hi.inv_sl
  obtain ⟨hlen, hget⟩ := h.get
  refine .ro ?_
  cases hr with
  | slnil =>
    have : rows' = [] := List.length_eq_zero_iff.1 hlen
    subst this
    exact .slnil
  | sl us h0 hc hm h1 h2 h3 =>
    rw [← hlen]
    refine .sl us (fun row hrow => ?_) (by rw [hlen]; exact hc) hm (fun i row hrow j g hj => ?_) (fun i row hrow j g hj => ?_) h3
    · obtain ⟨i, hi⟩ := List.getElem?_of_mem hrow
      obtain ⟨y, hy, hs⟩ := hget i row hi
      rw [hs.get.1]
      exact h0 y (List.mem_of_getElem? hy)
    · obtain ⟨y, hy, hs⟩ := hget i row hrow
      obtain ⟨y2, hy2, _⟩ := hs.get.2 j g hj
      exact h1 i y hy j y2 hy2
    · obtain ⟨y, hy, hs⟩ := hget i row hrow
      obtain ⟨y2, hy2, hs2⟩ := hs.get.2 j g hj
      exact hs2 (h2 i y hy j y2 hy2)
end Go.GK
/-
  Plain laws: which blocks may be, their bytes, the block that bytes are; no program is in sight.
-/
namespace Go.PL
open Go
def lastB (to_ : Int) (xs : List Sm) : Bool := match xs[xs.length - 1]? with
  | some y => decide (to_ < y.time)
  | none => false
def prevB (l : List Ser) (i : Nat) (x : Ser) : Bool := decide (0 < i) && (match l[i - 1]? with
  | some p => decide (0 ≤ cmpF p.labels x.labels)
  | none => false)
noncomputable def blkBad (to_ : Int) (l : List Ser) (i : Nat) : Bool := match l[i]? with
  | none => false
  | some x => !rightF x.labels || (!okS x.samples || (decide (x.samples.length = 0) || (lastB to_ x.samples || prevB l i x)))
theorem blkBad_at {to_ : Int} {l : List Ser} {i : Nat} (h : i < l.length) : blkBad to_ l i = (!rightF l[i].labels || (!okS l[i].samples || (decide (l[i].samples.length = 0) || (lastB to_ l[i].samples || prevB l i l[i])))) := by
  unfold blkBad
  rw [List.getElem?_eq_getElem h]
theorem lastB_at {to_ : Int} {xs : List Sm} (h : xs.length - 1 < xs.length) : lastB to_ xs = decide (to_ < xs[xs.length - 1].time) := by
  unfold lastB
  rw [List.getElem?_eq_getElem h]
theorem prevB_at {l : List Ser} {i : Nat} {x : Ser} (h : i - 1 < l.length) (h0 : 0 < i) : prevB l i x = decide (0 ≤ cmpF l[i - 1].labels x.labels) := by
  unfold prevB
  rw [List.getElem?_eq_getElem h, decide_eq_true h0]
  rfl
noncomputable def blkR (to_ old : Int) (l : List Ser) : Bool := !anyB l.length (blkBad to_ l) && (decide (-1099511627776 ≤ to_ ∧ to_ ≤ 1099511627776) && decide (-1 ≤ old))
theorem blkR_all {to_ old : Int} {l : List Ser} (h : blkR to_ old l = true) : ∀ x ∈ l, rightF x.labels = true ∧ okS x.samples = true := by
  unfold blkR at h
  rw [Bool.and_eq_true, Bool.not_eq_true'] at h
  intro x hx
  obtain ⟨i, hi, rfl⟩ := List.getElem_of_mem hx
  have := anyB_get h.1 i hi
  unfold blkBad at this
  rw [List.getElem?_eq_getElem hi] at this
  simp only [Bool.or_eq_false_iff, Bool.not_eq_false'] at this
  exact ⟨this.1, this.2.1⟩
end Go.PL
/-
  Plain laws: series without what is gone; no program is in sight.
-/
namespace Go.PL
open Go
end Go.PL
/-
  Contracts (printed by gen/gen_find.py): slices.IndexFunc, slices.ContainsFunc, slices.Clone.
-/
namespace Go.Proofs.YtkoalgjlkcaonaaGreatDoor
open Go.GK Go.PL Go.RowKit
set_option maxRecDepth 100000
theorem cloneLb_rt (l : List Lb) (hl : l.length ≤ 1000000) : Rt pg 125 [.sl 2 (l.map lb)] (.sl 2 (l.map lb)) := by
  refine Rt.ofJ pg_ok Tryz.func125 rfl Tryz.ntmps125 rfl Tryz.results125 Tryz.call125 fun H0 S0 w0 h0 g0 => ?_
  refine VM 8 ?_
  refine JK.eqNil pg_ok rfl rfl rfl rfl rfl (fun hn => ?_) ?_
  · have hn' : l.map lb = [] := hn
    refine VM 6 ?_
    refine JK.roNil 2 2 rfl ?_
    refine V ?_
    rw [hn']
    exact ⟨rfl, rfl⟩
  · refine VM 10 ?_
    refine ⟨by simp only [List.length_map, List.length_nil]; omega, ?_⟩
    refine FRZ 1 rfl ?_
    exact ⟨rfl, rfl⟩
end Go.Proofs.YtkoalgjlkcaonaaGreatDoor
/-
  The ghost machine: two elements of an own row change places, by the function that reflectlite.Swapper hands out.
-/
namespace Go.GK
open Go.RowKit
theorem setCells_row (g : Nat) (t : TypeId) : ∀ (vs : List Value) (o : Nat) (cur : Array Value) (w : World), w.heap[g]? = some (.cells cur t (0, 0)) → o + vs.length ≤ cur.size →
    w.setCells g o vs = w.setRow g (cur.toList.take o ++ vs ++ cur.toList.drop (o + vs.length)).toArray
  | [], o, cur, w, hg, _ => by
    simp only [World.setCells, List.append_nil, List.length_nil, Nat.add_zero, List.take_append_drop, Array.toArray_toList]
    exact (setRow_self w g cur t (0, 0) hg).symm
  | v :: r, o, cur, w, hg, hl => by
    simp only [List.length_cons] at hl
    rw [World.setCells, setCell_eq_setRow w g o cur t (0, 0) v hg, setCells_row g t r (o + 1) (cur.setIfInBounds o v) (w.setRow g (cur.setIfInBounds o v)) (setRow_heap w g cur _ t _ hg) (by simp; omega), setRow_setRow]
    have e := list_seg_step cur.toList o v r (by simp; omega)
    simp only [Array.toList_setIfInBounds]
    rw [e]
    rfl
theorem RowOk.one1 {ro : Nat → Option Obj} {sz : Nat} {row : List GV} {vs : List Value} (hl : vs.length = sz) (hr : row.length = sz) (his : ∀ (j : Nat) (g : GV), row[j]? = some g → ∃ u, vs[j]? = some u ∧ IsR ro g u) (h1 : ∀ u ∈ vs, u.oneCell' = true) : RowOk ro sz [row] vs := by
  refine ⟨by simp [hl], fun r h => by rw [List.mem_singleton.1 h]; exact hr, fun i r hir j g hj => ?_, h1⟩
  cases i with
  | zero =>
    simp at hir
    subst hir
    simpa using his j g hj
  | succ i => simp at hir
theorem RowOk.put {ro : Nat → Option Obj} {sz : Nat} {rows : List (List GV)} {xs : List Value} (h : RowOk ro sz rows xs) {i : Nat} (hi : i < rows.length) {row : List GV} {vs : List Value} (hl : vs.length = sz) (hr : row.length = sz) (his : ∀ (j : Nat) (g : GV), row[j]? = some g → ∃ u, vs[j]? = some u ∧ IsR ro g u) (h1 : ∀ u ∈ vs, u.oneCell' = true) :
    RowOk ro sz (rows.set i row) (xs.take (i * sz) ++ vs ++ xs.drop (i * sz + vs.length)) := by
  have e : rows.set i row = rows.take i ++ [row] ++ rows.drop (i + 1) := by
    rw [List.set_eq_take_append_cons_drop, if_pos hi]
    simp
  have e2 : i * sz + vs.length = (i + 1) * sz := by rw [hl, Nat.add_mul, Nat.one_mul]
  rw [e, e2]
  exact ((h.take i).append (.one1 hl hr his h1)).append (h.drop (i + 1))
section
variable {cx : Cx} {T : Post}
end
end Go.GK
/-
  The ghost machine: a region that draws its order: a struct that is built of values may be built as soon as it may be.
-/
namespace Go.GK
open Go.RowKit
section
variable {cx : Cx} {T : Post}
end
end Go.GK
/-
  The ghost machine: a slice grown from nothing (slices.Grow of nil); a copy of elements of any size.
-/
namespace Go.GK
open Go.RowKit
section
variable {cx : Cx} {T : Post}
end
section
variable {P : Program}
theorem run_copy_k (w : World) (dT sT ty elem : TypeId) (k b o dLen dCap : Nat) (a : Addr) (sLen sCap n : Nat) (cs : List Value)
    (hu : P.underlying dT = some (.slice elem)) (hs : (P.info? elem).map (·.size) = some k) (hn : n = Nat.min sLen dLen) (hl : cs.length = n * k)
    (hsrc : ∀ j v, cs[j]? = some v → w.cell? (a.add j) = some v) (hc : ∀ j, j < cs.length → (w.cell? ⟨b, o + j, none⟩).isSome = true) (hf : ∀ j, j < cs.length → w.frozen? ⟨b, o + j, none⟩ = false) (h1 : ∀ v ∈ cs, v.oneCell' = true) :
    (Builtin.copy_ #[dT, sT] ty #[.slice (some ⟨b, o, none⟩) dLen dCap, .slice (some a) sLen sCap]).run P w = .ok (goInt n) (w.setCells b o cs) := by
  have hld := run_loadCells_list (P := P) w a cs hsrc
  have hst := run_storeCells_cells (P := P) b o cs 0 w (by simpa using hc) (by simpa using hf) h1
  cases hq : P.info? elem with
  | none => simp [hq] at hs
  | some i =>
    have hi : i.size = k := by simpa [hq] using hs
    simp [Builtin.copy_, run_underlying hu, Builtin.lenOf, Builtin.firstCells, sizeOf, typeInfo, hq, hi, ← hn, ← hl, hld, hst]
end
end Go.GK
/-
  The ghost machine: slices.Insert of one element of two cells into an own slice, by what a raw walk says of it.
-/
namespace Go.GK
open Go.RowKit
theorem ins_take1 (A vs : List Value) {p q m : Nat} (hv : vs.length = m) (hpq : p ≤ q) (hl : q + m ≤ A.length) :
    ((A.take (p + m) ++ (A.take q).drop p ++ A.drop (p + m + ((A.take q).drop p).length)).take p ++ vs ++ (A.take (p + m) ++ (A.take q).drop p ++ A.drop (p + m + ((A.take q).drop p).length)).drop (p + vs.length)).take (q + m) = (A.take q).take p ++ vs ++ (A.take q).drop p := by
  have e1 : ((A.take q).drop p).length = q - p := by simp; omega
  have e2 : (A.take (p + m)).length = p + m := by simp; omega
  rw [e1, hv]
  have a1 : (A.take (p + m) ++ (A.take q).drop p ++ A.drop (p + m + (q - p))).take p = A.take p := by
    rw [List.append_assoc, List.take_append_of_le_length (by omega), List.take_take, Nat.min_eq_left (by omega)]
  have a2 : (A.take (p + m) ++ (A.take q).drop p ++ A.drop (p + m + (q - p))).drop (p + m) = (A.take q).drop p ++ A.drop (p + m + (q - p)) := by
    rw [List.append_assoc, List.drop_left' e2]
  have a3 : (A.take q).take p = A.take p := by rw [List.take_take, Nat.min_eq_left hpq]
  rw [a1, a2, a3, ← List.append_assoc, List.take_left' (by simp; omega)]
theorem ins_take2 (R vs D : List Value) {p q m : Nat} (hv : vs.length = m) (hd : D.length = q - p) (hpq : p ≤ q) (hl : q + m ≤ R.length) :
    ((R.take p ++ vs ++ R.drop (p + vs.length)).take (p + m) ++ D ++ (R.take p ++ vs ++ R.drop (p + vs.length)).drop (p + m + D.length)).take (q + m) = R.take p ++ vs ++ D := by
  have a1 : (R.take p ++ vs ++ R.drop (p + vs.length)).take (p + m) = R.take p ++ vs := List.take_left' (by simp [hv]; omega)
  rw [a1, List.take_left' (by simp [hv, hd]; omega)]
def InsSays (P : Program) (f : FuncId) (e : TypeId) : Prop :=
  ∀ (v : Value) (n i vb vc : Nat) (xs vs : List Value) (vcur : Array Value) (w : World), w.ownsRow 0 e 2 v n xs → i ≤ n → n < 1000000 → w.heap[vb]? = some (.cells vcur e (0, 0)) → 1 ≤ vc → vc ≤ maxLen → vcur.size = vc * 2 → vcur.toList.take 2 = vs → v.ownBlock ≠ some vb → (∀ u ∈ xs, u.oneCell' = true) → (∀ u ∈ vs, u.oneCell' = true) →
    Calls P f #[v, .int .i64 (i : Int), .slice (some ⟨vb, 0, none⟩) 1 vc] w fun ev w' => ∃ v', ev = .returned v' ∧ w'.ownsRow 0 e 2 v' (n + 1) (xs.take (i * 2) ++ vs ++ xs.drop (i * 2)) ∧ w.grownBy w' v.ownBlock ∧ (v'.ownBlock = v.ownBlock ∨ v'.ownBlock = some w.heap.size)
theorem insert_hf {p : Pg} {f : FuncId} {e : TypeId} (hc : ∀ ar w, (callFunc f ar).run p.P w = .ok (.enter f ar) w) (hI : InsSays p.P f e) (rows : List (List GV)) (r : List GV) (i : Nat) (hi : i ≤ rows.length) (hl : rows.length < 1000000) :
    Hf p f 2 [.o 0, .v (.int .i64 (i : Int)), .o 1] [(0, .row e 2 rows), (1, .row e 2 [r])] fun G σ n => G = .o 2 ∧ σ = [(2, .row e 2 (rows.take i ++ [r] ++ rows.drop i)), (1, .row e 2 [r])] ∧ n = 3 := by
  refine ⟨hc, fun H us w hn hg hcs hs => ?_⟩
  obtain ⟨g0, h0⟩ := (hcs.2 0 _ rfl).inv_o
  have g1 := (hcs.2 1 _ rfl).inv_v
  obtain ⟨g2, h2⟩ := (hcs.2 2 _ rfl).inv_o
  have hue : us = #[H.sv 0, .int .i64 (i : Int), H.sv 1] := by
    have h4 : us.size = 3 := hcs.1.symm
    apply Array.ext
    · exact h4
    · intro q h5 h6
      have hq : us[q] = us.getD q undef := by simp [Array.getD, h5]
      rw [hq]
      match q, h6 with
      | 0, _ => exact g0
      | 1, _ => exact g1
      | 2, _ => exact g2
  obtain ⟨xs, hown, hrow⟩ := hs.holds (0, .row e 2 rows) (by simp)
  obtain ⟨ys, hown1, hrow1⟩ := hs.holds (1, .row e 2 [r]) (by simp)
  rcases hown1.2 with ⟨_, hn1⟩ | ⟨vb, vc, vcur, hsv, _, hgc, hnc, hcm, hcz, htk⟩
  · simp at hn1
  have hnd := hs.nodup
  simp only [blks, List.flatMap_cons, List.flatMap_nil, blocks, List.append_nil] at hnd
  have n1 := List.nodup_append.1 hnd
  have hne : (H.sv 0).ownBlock ≠ some vb := fun e0 => n1.2.2 vb (by rw [e0]; simp) vb (by rw [hsv]; simp [Value.ownBlock]) rfl
  rw [hue]
  have hC := hI (H.sv 0) rows.length i vb vc xs ys vcur w hown hi hl hgc hnc hcm hcz (by simpa using htk) hne hrow.one hrow1.one
  rw [hsv]
  refine hC.mono ?_
  rintro _ w' ⟨v', rfl, hown', hgr, hblk⟩
  let cx : Cx := ⟨p, 0, 2, H, blks H [(0, .row e 2 rows), (1, .row e 2 [r])], w, hn, hg⟩
  have hS : Sim cx H ⟨[], [(0, .row e 2 rows), (1, .row e 2 [r])], 2⟩ w := ⟨hn, hs, Fr.refl _ _ _⟩
  have hR : RowOk H.ro 2 (rows.take i ++ [r] ++ rows.drop i) (xs.take (i * 2) ++ ys ++ xs.drop (i * 2)) := ((hrow.take i).append hrow1).append (hrow.drop i)
  have hlen : (rows.take i ++ [r] ++ rows.drop i).length + ([] : List (List GV)).length = rows.length + 1 := by simp; omega
  obtain ⟨H', hle, hiu, hsim⟩ := hS.regrown (e := e) (sz := 2) (ud := H.sv 0) (u := v') (rows := rows.take i ++ [r] ++ rows.drop i) (news := []) (ys := []) (σ' := [(1, .row e 2 [r])])
    (by rw [hlen, List.append_nil]; exact hown') hR .nil (fun b hb => by simp [blks, blocks, hb]) (fun x hx => by simp at hx; simp [hx]) (by simp only [blks, List.flatMap_cons, List.flatMap_nil, blocks, List.append_nil]; exact n1.2.1)
    (fun b hb hc => by
      simp only [blks, List.flatMap_cons, List.flatMap_nil, blocks, List.append_nil] at hc
      exact n1.2.2 b hb b hc rfl) hgr hblk []
  rw [List.append_nil] at hsim
  exact ⟨v', .o 2, H', _, rfl, hiu, hsim.sat, hsim.fr, rfl, rfl, hsim.n⟩
section
variable {cx : Cx} {T : Post}
end
end Go.GK
/-
  Plain laws: series of two lists, in order; no program is in sight.
-/
namespace Go.PL
open Go
def mergeL (mg : List Sm → List Sm → List Sm) : List Ser → List Ser → List Ser
  | [], b => b
  | x :: a, [] => x :: a
  | x :: a, y :: b =>
    if cmpF x.labels y.labels < 0 then x :: mergeL mg a (y :: b)
    else if cmpF x.labels y.labels = 0 then ⟨y.labels, mg x.samples y.samples⟩ :: mergeL mg a b
    else y :: mergeL mg (x :: a) b
termination_by a b => a.length + b.length
theorem mergeL_nil (mg : List Sm → List Sm → List Sm) (a : List Ser) : mergeL mg a [] = a := by
  cases a with
  | nil => unfold mergeL; rfl
  | cons x a => unfold mergeL; rfl
theorem mergeL_nil' (mg : List Sm → List Sm → List Sm) (b : List Ser) : mergeL mg [] b = b := by unfold mergeL; rfl
theorem cmpF_lt_trans {a b c : List Lb} (h : cmpF a b < 0) (k : cmpF b c < 0) : cmpF a c < 0 := by
  have h1 := cmpF_is.rng a b
  have h2 := cmpF_is.rng b c
  have := cmpF_is.trans a b c (by omega) (by omega)
  omega
def RisS (l : List Ser) : Prop := l.Pairwise fun x y => cmpF x.labels y.labels < 0
theorem mem_mergeL {mg : List Sm → List Sm → List Sm} : ∀ (a b : List Ser) (z : Ser), z ∈ mergeL mg a b → ∃ y, (y ∈ a ∨ y ∈ b) ∧ y.labels = z.labels
  | [], b, z, h => by rw [mergeL_nil'] at h; exact ⟨z, .inr h, rfl⟩
  | x :: a, [], z, h => by rw [mergeL_nil] at h; exact ⟨z, .inl h, rfl⟩
  | x :: a, y :: b, z, h => by
    unfold mergeL at h
    split at h
    · rcases List.mem_cons.1 h with rfl | h
      · exact ⟨z, .inl (by simp), rfl⟩
      · obtain ⟨w, hw, e⟩ := mem_mergeL a (y :: b) z h
        exact ⟨w, hw.imp (fun h => by simp [h]) id, e⟩
    · split at h
      · rcases List.mem_cons.1 h with rfl | h
        · exact ⟨y, .inr (by simp), rfl⟩
        · obtain ⟨w, hw, e⟩ := mem_mergeL a b z h
          exact ⟨w, hw.imp (fun h => by simp [h]) (fun h => by simp [h]), e⟩
      · rcases List.mem_cons.1 h with rfl | h
        · exact ⟨z, .inr (by simp), rfl⟩
        · obtain ⟨w, hw, e⟩ := mem_mergeL (x :: a) b z h
          exact ⟨w, hw.imp id (fun h => by simp [h]), e⟩
termination_by a b => a.length + b.length
theorem mergeL_ris {mg : List Sm → List Sm → List Sm} : ∀ (a b : List Ser), RisS a → RisS b → RisS (mergeL mg a b)
  | [], b, _, hb => by rw [mergeL_nil']; exact hb
  | x :: a, [], ha, _ => by rw [mergeL_nil]; exact ha
  | x :: a, y :: b, ha, hb => by
    obtain ⟨ha1, ha2⟩ := List.pairwise_cons.1 ha
    obtain ⟨hb1, hb2⟩ := List.pairwise_cons.1 hb
    unfold mergeL
    split
    · rename_i hxy
      refine List.pairwise_cons.2 ⟨fun z hz => ?_, mergeL_ris a (y :: b) ha2 hb⟩
      obtain ⟨w, hw, e⟩ := mem_mergeL _ _ _ hz
      rw [← e]
      rcases hw with hw | hw
      · exact ha1 w hw
      · rcases List.mem_cons.1 hw with rfl | hw
        · exact hxy
        · exact cmpF_lt_trans hxy (hb1 w hw)
    · rename_i hxy
      split
      · rename_i h0
        have hl : x.labels = y.labels := (cmpF_is.eq0 _ _).1 h0
        refine List.pairwise_cons.2 ⟨fun z hz => ?_, mergeL_ris a b ha2 hb2⟩
        obtain ⟨w, hw, e⟩ := mem_mergeL _ _ _ hz
        show cmpF y.labels z.labels < 0
        rw [← e]
        rcases hw with hw | hw
        · rw [← hl]; exact ha1 w hw
        · exact hb1 w hw
      · rename_i h0
        have hyx : cmpF y.labels x.labels < 0 := by
          have h1 := cmpF_is.anti x.labels y.labels
          have h2 := cmpF_is.rng x.labels y.labels
          omega
        refine List.pairwise_cons.2 ⟨fun z hz => ?_, mergeL_ris (x :: a) b ha hb2⟩
        obtain ⟨w, hw, e⟩ := mem_mergeL _ _ _ hz
        rw [← e]
        rcases hw with hw | hw
        · rcases List.mem_cons.1 hw with rfl | hw
          · exact hyx
          · exact cmpF_lt_trans hyx (ha1 w hw)
        · exact hb1 w hw
termination_by a b => a.length + b.length
end Go.PL
/-
  Plain laws: samples put together by a map, in whatever order; two merged; no program is in sight.
-/
namespace Go.PL
open Go

abbrev UpS (l : List Sm) : Prop := l.Pairwise (·.time < ·.time)
theorem UpS.nodup {l : List Sm} (h : UpS l) : (l.map (·.time)).Nodup := by
  rw [List.nodup_iff_pairwise_ne, List.pairwise_map]
  exact h.imp fun h => by omega
end Go.PL
/-
  Plain laws: samples of two lists, as package chunk puts them together; no program is in sight.
-/
namespace Go.PL
open Go
theorem mergeL_cons (mg : List Sm → List Sm → List Sm) (x y : Ser) (a b : List Ser) : mergeL mg (x :: a) (y :: b) = if cmpF x.labels y.labels < 0 then x :: mergeL mg a (y :: b) else if cmpF x.labels y.labels = 0 then ⟨y.labels, mg x.samples y.samples⟩ :: mergeL mg a b else y :: mergeL mg (x :: a) b := by
  conv => lhs; unfold mergeL
end Go.PL
/-
  Plain laws for BlockSame: a block is read as it was written; what is gone, ahead of a merge or behind it; no program is in sight.
-/
namespace Go.PL
open Go
theorem blkR_ris {to_ old : Int} {l : List Ser} (h : blkR to_ old l = true) : RisS l ∧ ∀ x ∈ l, UpS x.samples ∧ x.samples ≠ [] := by
  have hall := blkR_all h
  unfold blkR at h
  rw [Bool.and_eq_true, Bool.not_eq_true'] at h
  have hb := fun i (hi : i < l.length) => (blkBad_at (to_ := to_) hi).symm.trans (anyB_get h.1 i hi)
  have hne : ∀ x ∈ l, x.samples ≠ [] := fun x hx => by
    obtain ⟨i, hi, rfl⟩ := List.getElem_of_mem hx
    have := hb i hi
    simp only [Bool.or_eq_false_iff, decide_eq_false_iff_not] at this
    exact fun e => this.2.2.1 (by rw [e]; rfl)
  have hst : ∀ i (hi : i + 1 < l.length), cmpF l[i].labels l[i + 1].labels < 0 := fun i hi => by
    have := hb (i + 1) hi
    simp only [Bool.or_eq_false_iff] at this
    have h5 := this.2.2.2.2
    rw [prevB_at (show i + 1 - 1 < l.length by omega) (Nat.succ_pos i)] at h5
    have h6 := of_decide_eq_false h5
    simp only [Nat.add_sub_cancel] at h6
    omega
  refine ⟨?_, fun x hx => ⟨((okS_iff _).1 (hall x hx).2).1.up, hne x hx⟩⟩
  refine List.pairwise_iff_getElem.2 fun i j hi hj hij => ?_
  obtain ⟨d, rfl⟩ : ∃ d, j = i + 1 + d := ⟨j - (i + 1), by omega⟩
  clear hij
  induction d with
  | zero => exact hst i hj
  | succ d ih => exact cmpF_lt_trans (ih (by omega)) (hst (i + 1 + d) hj)
end Go.PL
/-
  Plain laws: series of two lists put together one by one, and sorted then; no program is in sight.
-/
namespace Go.PL
open Go
instance decLbs : DecidableEq (List Lb) := fun a b => decidable_of_iff (cmpF a b = 0) (cmpF_is.eq0 a b)
def both (mg : List Sm → List Sm → List Sm) : Option (List Sm) → Option (List Sm) → Option (List Sm)
  | none, y => y
  | some x, none => some x
  | some x, some y => some (mg x y)
end Go.PL
/-
  Plain laws: a head: what comes, and what is refused; what is cut off, and what stays; no program is in sight.
-/
namespace Go.PL
open Go
structure HOk (S : List Ser) : Prop where
  ris : RisS S
  len : S.length ≤ 60
  each : ∀ x ∈ S, rightF x.labels = true ∧ okS x.samples = true ∧ x.samples ≠ []
theorem HOk.nil : HOk [] := ⟨.nil, by simp, by simp⟩
end Go.PL
/-
  Contracts: a head's series: where labels stand; samples put together; a copy of its series.
-/
namespace Go.Proofs.YtkoalgjlkcaonaaGreatDoor
open Go.GK Go.PL Go.RowKit
set_option maxRecDepth 100000
theorem midE {s : Int} (n : Nat) (h : s = (n : Int)) (hn : n < 4611686018427387904) : IntKind.i64.wrap ((IntKind.u64.wrap (IntKind.i64.wrap s)).fdiv (2 ^ (min (1 : Int).toNat IntKind.u64.bits))) = ((n / 2 : Nat) : Int) := by
  subst h
  have e0 : IntKind.i64.wrap (n : Int) = (n : Int) := wrap_id (by omega) (by omega)
  rw [e0]
  have e1 : IntKind.u64.wrap (n : Int) = (n : Int) := by rw [IntKind.wrap_u64]; omega
  rw [e1]
  have e2 : (n : Int).fdiv (2 ^ (min (1 : Int).toNat IntKind.u64.bits)) = ((n / 2 : Nat) : Int) := by
    show (n : Int).fdiv 2 = _
    rw [Int.fdiv_eq_ediv_of_nonneg _ (by omega)]
    omega
  rw [e2, wrap_id (by omega) (by omega)]
theorem flat_len {α : Type} (L : List (List α)) (i : Nat) : (L.take i).flatten.length ≤ L.flatten.length := by
  conv => rhs; rw [← List.take_append_drop i L, List.flatten_append, List.length_append]
  omega
end Go.Proofs.YtkoalgjlkcaonaaGreatDoor
/-
  Plain laws: labels are written alike just if they are alike. No program is in sight.
-/
namespace Go.PL
open Go Go.GK

end Go.PL
/-
  Plain laws: an index: of each name, and what it says, the series that say so. No program is in sight.
-/
namespace Go.PL
open Go Go.GK

section
variable {α : Type}
def modA (k : ByteArray) (f : α → α) (d : α) : List (ByteArray × α) → List (ByteArray × α)
  | [] => [(k, f d)]
  | (k', a) :: r => if k' = k then (k', f a) :: r else (k', a) :: modA k f d r
def getA (k : ByteArray) (d : α) : List (ByteArray × α) → α
  | [] => d
  | (k', a) :: r => if k' = k then a else getA k d r
abbrev keysA (l : List (ByteArray × α)) : List ByteArray := l.map (·.1)
theorem getA_mod (k k' : ByteArray) (f : α → α) (d : α) : ∀ l, getA k' d (modA k f d l) = if k' = k then f (getA k d l) else getA k' d l
  | [] => by
    unfold modA getA getA
    by_cases h : k = k'
    · subst h; simp [getA]
    · rw [if_neg h, if_neg fun e => h e.symm]
  | (q, a) :: r => by
    unfold modA
    by_cases h : q = k
    · subst h
      rw [if_pos rfl]
      unfold getA
      by_cases h' : q = k'
      · subst h'; rw [if_pos rfl, if_pos rfl, if_pos rfl]
      · rw [if_neg h', if_neg h', if_neg fun e => h' e.symm]
    · rw [if_neg h]
      unfold getA
      rw [getA_mod k k' f d r]
      by_cases h' : q = k'
      · subst h'; rw [if_pos rfl, if_pos rfl, if_neg h]
      · rw [if_neg h', if_neg h', if_neg h]
theorem modA_new {k : ByteArray} {f : α → α} {d : α} : ∀ {l : List (ByteArray × α)}, k ∉ keysA l → modA k f d l = l ++ [(k, f d)]
  | [], _ => rfl
  | (q, a) :: r, h => by
    simp only [keysA, List.map_cons, List.mem_cons, not_or] at h
    unfold modA
    rw [if_neg fun e => h.1 e.symm, modA_new (l := r) h.2]
    rfl
theorem modA_old {k : ByteArray} {f : α → α} {d a : α} {l2 : List (ByteArray × α)} : ∀ {l1 : List (ByteArray × α)}, k ∉ keysA l1 → modA k f d (l1 ++ (k, a) :: l2) = l1 ++ (k, f a) :: l2
  | [], _ => by show modA k f d ((k, a) :: l2) = _; unfold modA; rw [if_pos rfl]; rfl
  | (q, x) :: r, h => by
    simp only [keysA, List.map_cons, List.mem_cons, not_or] at h
    show modA k f d ((q, x) :: (r ++ (k, a) :: l2)) = _
    unfold modA
    rw [if_neg fun e => h.1 e.symm, modA_old (l1 := r) h.2]
    rfl
theorem splitA {k : ByteArray} : ∀ {l : List (ByteArray × α)}, k ∈ keysA l → ∃ l1 a l2, l = l1 ++ (k, a) :: l2 ∧ k ∉ keysA l1
  | [], h => by cases h
  | (q, a) :: r, h => by
    by_cases e : q = k
    · subst e; exact ⟨[], a, r, rfl, by simp⟩
    · have h' : k ∈ keysA r := by
        simp only [keysA, List.map_cons, List.mem_cons] at h
        rcases h with h | h
        · exact absurd h.symm e
        · exact h
      obtain ⟨l1, b, l2, rfl, hn⟩ := splitA h'
      refine ⟨(q, a) :: l1, b, l2, rfl, ?_⟩
      simp only [keysA, List.map_cons, List.mem_cons, not_or]
      exact ⟨fun e' => e e'.symm, hn⟩
theorem keysA_mod (k : ByteArray) (f : α → α) (d : α) (l : List (ByteArray × α)) : (k ∈ keysA l → keysA (modA k f d l) = keysA l) ∧ (k ∉ keysA l → keysA (modA k f d l) = keysA l ++ [k]) := by
  refine ⟨fun h => ?_, fun h => by rw [modA_new h]; simp [keysA]⟩
  obtain ⟨l1, a, l2, rfl, hn⟩ := splitA h
  rw [modA_old hn]
  simp [keysA]
theorem keysA_mem (k k' : ByteArray) (f : α → α) (d : α) (l : List (ByteArray × α)) : k' ∈ keysA (modA k f d l) ↔ k' ∈ keysA l ∨ k' = k := by
  by_cases h : k ∈ keysA l
  · rw [(keysA_mod k f d l).1 h]
    exact ⟨.inl, fun h' => h'.elim id fun e => e ▸ h⟩
  · rw [(keysA_mod k f d l).2 h]
    simp
theorem keysA_nodup {k : ByteArray} {f : α → α} {d : α} {l : List (ByteArray × α)} (h : (keysA l).Nodup) : (keysA (modA k f d l)).Nodup := by
  by_cases hk : k ∈ keysA l
  · rw [(keysA_mod k f d l).1 hk]; exact h
  · rw [(keysA_mod k f d l).2 hk]
    refine List.nodup_append.2 ⟨h, by simp, fun a ha b hb => ?_⟩
    rw [List.mem_singleton.1 hb]
    exact fun e => hk (e ▸ ha)
theorem keysA_len (k : ByteArray) (f : α → α) (d : α) (l : List (ByteArray × α)) : (modA k f d l).length ≤ l.length + 1 := by
  have h1 := keysA_mod k f d l
  by_cases h : k ∈ keysA l
  · have := congrArg List.length (h1.1 h); simp only [keysA, List.length_map] at this; omega
  · have := congrArg List.length (h1.2 h); simp only [keysA, List.length_map, List.length_append, List.length_singleton] at this; omega
end

abbrev In1 := List (ByteArray × List Int)
abbrev Ix := List (ByteArray × In1)
def addI (i : Nat) (L : Ix) (y : Lb) : Ix := modA y.name (fun M => modA y.value (fun r => r ++ [(i : Int)]) [] M) [] L
def rowI (L : Ix) (n v : ByteArray) : List Int := getA v [] (getA n [] L)
structure IxOk (P : Nat → ByteArray → ByteArray → Prop) (N : Nat) (L : Ix) : Prop where
  nd : (keysA L).Nodup
  nd2 : ∀ x ∈ L, (keysA x.2).Nodup
  names : ∀ n, n ∈ keysA L ↔ ∃ i v, i < N ∧ P i n v
  vals : ∀ n v, v ∈ keysA (getA n [] L) ↔ ∃ i, i < N ∧ P i n v
  rows : ∀ n v, (rowI L n v).Pairwise (· < ·) ∧ ∀ z : Int, z ∈ rowI L n v ↔ ∃ i : Nat, z = i ∧ i < N ∧ P i n v
theorem mem_modA {α : Type} {k : ByteArray} {f : α → α} {d : α} {x : ByteArray × α} : ∀ {l : List (ByteArray × α)}, x ∈ modA k f d l → x ∈ l ∨ ∃ a, x = (k, f a) ∧ (a = d ∨ (k, a) ∈ l)
  | [], h => by
    simp only [modA, List.mem_singleton] at h
    exact .inr ⟨d, h, .inl rfl⟩
  | (q, a) :: r, h => by
    unfold modA at h
    split at h
    · rename_i e
      subst e
      rcases List.mem_cons.1 h with rfl | h
      · exact .inr ⟨a, rfl, .inr (by simp)⟩
      · exact .inl (by simp [h])
    · rcases List.mem_cons.1 h with rfl | h
      · exact .inl (by simp)
      · rcases mem_modA h with h | ⟨b, e, h | h⟩
        · exact .inl (by simp [h])
        · exact .inr ⟨b, e, .inl h⟩
        · exact .inr ⟨b, e, .inr (by simp [h])⟩
theorem IxOk.nil : IxOk (fun _ _ _ => False) 0 [] := by
  refine ⟨by simp [keysA], by simp, fun n => ?_, fun n v => ?_, fun n v => ⟨.nil, fun z => ?_⟩⟩
  · simp [keysA]
  · simp [keysA, getA]
  · simp [rowI, getA]
theorem IxOk.add {P : Nat → ByteArray → ByteArray → Prop} {i : Nat} {L : Ix} (h : IxOk P (i + 1) L) (y : Lb) (hy : ¬ P i y.name y.value) : IxOk (fun j n v => P j n v ∨ (j = i ∧ n = y.name ∧ v = y.value)) (i + 1) (addI i L y) := by
  have hg : ∀ n, getA n [] (addI i L y) = if n = y.name then modA y.value (fun r => r ++ [(i : Int)]) [] (getA y.name [] L) else getA n [] L := fun n => getA_mod _ _ _ _ _
  have hr : ∀ n v, rowI (addI i L y) n v = if n = y.name ∧ v = y.value then rowI L n v ++ [(i : Int)] else rowI L n v := by
    intro n v
    unfold rowI
    rw [hg]
    by_cases h1 : n = y.name
    · rw [if_pos h1, getA_mod]
      by_cases h2 : v = y.value
      · rw [if_pos h2, if_pos ⟨h1, h2⟩, h1, h2]
      · rw [if_neg h2, if_neg fun e => h2 e.2, h1]
    · rw [if_neg h1, if_neg fun e => h1 e.1]
  refine ⟨keysA_nodup h.nd, fun x hx => ?_, fun n => ?_, fun n v => ?_, fun n v => ?_⟩
  · rcases mem_modA hx with hx | ⟨a, rfl, rfl | ha⟩
    · exact h.nd2 x hx
    · exact keysA_nodup (by simp [keysA])
    · exact keysA_nodup (h.nd2 _ ha)
  · rw [addI, keysA_mem, h.names]
    constructor
    · rintro (⟨j, v, h1, h2⟩ | rfl)
      · exact ⟨j, v, h1, .inl h2⟩
      · exact ⟨i, y.value, Nat.lt_succ_self i, .inr ⟨rfl, rfl, rfl⟩⟩
    · rintro ⟨j, v, h1, h2 | ⟨_, rfl, _⟩⟩
      · exact .inl ⟨j, v, h1, h2⟩
      · exact .inr rfl
  · rw [hg]
    by_cases h1 : n = y.name
    · rw [if_pos h1, keysA_mem, h.vals]
      subst h1
      constructor
      · rintro (⟨j, h1, h2⟩ | rfl)
        · exact ⟨j, h1, .inl h2⟩
        · exact ⟨i, Nat.lt_succ_self i, .inr ⟨rfl, rfl, rfl⟩⟩
      · rintro ⟨j, h1, h2 | ⟨_, _, rfl⟩⟩
        · exact .inl ⟨j, h1, h2⟩
        · exact .inr rfl
    · rw [if_neg h1, h.vals]
      constructor
      · rintro ⟨j, h1, h2⟩; exact ⟨j, h1, .inl h2⟩
      · rintro ⟨j, h2, h3 | ⟨_, e, _⟩⟩
        · exact ⟨j, h2, h3⟩
        · exact absurd e h1
  · obtain ⟨r1, r2⟩ := h.rows n v
    rw [hr]
    by_cases h1 : n = y.name ∧ v = y.value
    · rw [if_pos h1]
      obtain ⟨rfl, rfl⟩ := h1
      refine ⟨List.pairwise_append.2 ⟨r1, List.pairwise_singleton _ _, fun a ha b hb => ?_⟩, fun z => ?_⟩
      · rw [List.mem_singleton.1 hb]
        obtain ⟨j, rfl, hj, hp⟩ := (r2 a).1 ha
        have : j ≠ i := fun e => hy (e ▸ hp)
        omega
      · rw [List.mem_append, r2, List.mem_singleton]
        constructor
        · rintro (⟨j, h1, h2, h3⟩ | h1)
          · exact ⟨j, h1, h2, .inl h3⟩
          · exact ⟨i, h1, Nat.lt_succ_self i, .inr ⟨rfl, rfl, rfl⟩⟩
        · rintro ⟨j, h1, h2, h3 | ⟨h3, _⟩⟩
          · exact .inl ⟨j, h1, h2, h3⟩
          · exact .inr (by rw [h1, h3])
    · rw [if_neg h1]
      refine ⟨r1, fun z => ?_⟩
      rw [r2]
      constructor
      · rintro ⟨j, h1, h2, h3⟩; exact ⟨j, h1, h2, .inl h3⟩
      · rintro ⟨j, h3, h4, h5 | ⟨_, e⟩⟩
        · exact ⟨j, h3, h4, h5⟩
        · exact absurd e h1
theorem IxOk.congr {P Q : Nat → ByteArray → ByteArray → Prop} {N M : Nat} {L : Ix} (h : IxOk P N L) (e : ∀ i n v, (i < N ∧ P i n v) ↔ (i < M ∧ Q i n v)) : IxOk Q M L := by
  refine ⟨h.nd, h.nd2, fun n => ?_, fun n v => ?_, fun n v => ⟨(h.rows n v).1, fun z => ?_⟩⟩
  · rw [h.names]
    exact ⟨fun ⟨i, v, hp⟩ => ⟨i, v, (e i n v).1 hp⟩, fun ⟨i, v, hp⟩ => ⟨i, v, (e i n v).2 hp⟩⟩
  · rw [h.vals]
    exact ⟨fun ⟨i, hp⟩ => ⟨i, (e i n v).1 hp⟩, fun ⟨i, hp⟩ => ⟨i, (e i n v).2 hp⟩⟩
  · rw [(h.rows n v).2]
    exact ⟨fun ⟨i, hz, hp⟩ => ⟨i, hz, (e i n v).1 hp⟩, fun ⟨i, hz, hp⟩ => ⟨i, hz, (e i n v).2 hp⟩⟩
def RowsLe (K : Nat) (L : Ix) : Prop := ∀ x ∈ L, ∀ y ∈ x.2, y.2.length ≤ K
theorem RowsLe.add {K : Nat} {L : Ix} (h : RowsLe K L) (i : Nat) (y : Lb) : RowsLe (K + 1) (addI i L y) := fun x hx z hz => by
  have h1 : ∀ M : In1, (∀ z ∈ M, z.2.length ≤ K) → ∀ z ∈ modA y.value (fun r => r ++ [(i : Int)]) [] M, z.2.length ≤ K + 1 := fun M hM z hz => by
    rcases mem_modA hz with hz | ⟨a, rfl, rfl | ha⟩
    · have := hM z hz; omega
    · simp
    · have := hM _ ha; simp at this ⊢; omega
  rcases mem_modA hx with hx | ⟨a, rfl, rfl | ha⟩
  · have := h x hx z hz; omega
  · exact h1 [] (by simp) z hz
  · exact h1 a (h _ ha) z hz
end Go.PL
/-
  Plain laws: sets of series' numbers, as rising lists; what an index finds. No program is in sight.
-/
namespace Go.PL
open Go Go.GK

def LenLe (K : Nat) (L : Ix) : Prop := L.length ≤ K ∧ ∀ x ∈ L, x.2.length ≤ K
theorem LenLe.add {K : Nat} {L : Ix} (h : LenLe K L) (i : Nat) (y : Lb) : LenLe (K + 1) (addI i L y) := by
  refine ⟨Nat.le_trans (keysA_len _ _ _ _) (by have := h.1; omega), fun x hx => ?_⟩
  rcases mem_modA hx with hx | ⟨a, rfl, rfl | ha⟩
  · have := h.2 x hx; omega
  · exact Nat.le_trans (keysA_len _ _ _ _) (by simp)
  · exact Nat.le_trans (keysA_len _ _ _ _) (by have := h.2 _ ha; simp at this; omega)
end Go.PL
/-
  Plain laws: questions: tokens, and how they are read. No program is in sight.
-/
namespace Go.PL
open Go Go.GK

structure Tok where
  kind : Int
  text : ByteArray
  pos : Int
instance : Inhabited Tok := ⟨⟨5, ⟨#[]⟩, 0⟩⟩
def marksL : List (List UInt8) := [[33, 61], [94, 61], [33, 94], [61], [123], [125], [91], [93], [40], [41], [44], [43], [45], [42], [47]]
def lexF (l : List UInt8) : Nat × Int := match l with
  | [] => (0, 4)
  | c :: r =>
    if letB c then ((l.takeWhile fun b => letB b || digB b).length, 1)
    else if digB c then ((l.takeWhile digB).length, 2)
    else if c.toNat = 34 then (match r.findIdx? (· == 34) with | some j => j + 2 | none => 0, 3)
    else (match marksL.find? (fun m => m.isPrefixOf l) with | some m => m.length | none => 0, 4)
def tokF (s : List UInt8) : Nat → Nat → Nat → Except (Int × Int) (List Tok)
  | 0, _, _ => .error (0, 0)
  | fuel + 1, i, cnt =>
    let i := i + ((s.drop i).takeWhile (· == 32)).length
    if s.length ≤ i then .ok [⟨5, ⟨#[]⟩, i⟩]
    else
      let (n, k) := lexF (s.drop i)
      if n = 0 then .error (3, i)
      else if (k = 2 ∧ 18 < n) ∨ 120 ≤ cnt then .error (4, i)
      else match tokF s fuel (i + n) (cnt + 1) with
        | .ok l => .ok (⟨k, ⟨((s.drop i).take n).toArray⟩, i⟩ :: l)
        | .error e => .error e

inductive Qn where
  | nil
  | mk (code num : Int) (m : List Mt) (span : Int) (by_ : List ByteArray) (l r : Qn)
abbrev PRes (α : Type) := Except (Int × Int) (α × List Tok)
def hdT (l : List Tok) : Tok := l.headD default
def failP {α : Type} (e : Int) (l : List Tok) : PRes α := .error (e, (hdT l).pos)
def isP (s : ByteArray) (l : List Tok) : Bool := sEq (hdT l).text s && decide ((hdT l).kind ≠ 3)
def takesP (s : ByteArray) (l : List Tok) : Bool := isP s l && decide ((hdT l).kind ≠ 5)
def mustP (s : ByteArray) (l : List Tok) : PRes Unit := if takesP s l then .ok ((), l.tail) else failP 3 l
def anyP (k : Int) (l : List Tok) : PRes ByteArray := if (hdT l).kind = k then .ok ((hdT l).text, l.tail) else failP 3 l
def nameP (l : List Tok) : PRes ByteArray := if (hdT l).kind = 1 ∧ nameF (hdT l).text = false then failP 4 l else anyP 1 l
def numT (s : ByteArray) : Int := s.data.toList.foldl (fun n c => n * 10 + ((c.toNat : Int) - 48)) 0
def numberP (most : Int) (l : List Tok) : PRes Int := if (hdT l).kind = 2 ∧ most < numT (hdT l).text then failP 4 l else match anyP 2 l with
  | .ok (s, l) => .ok (numT s, l)
  | .error e => .error e
def bS (l : List UInt8) : ByteArray := ⟨l.toArray⟩
def opsL : List ByteArray := [bS [61], bS [33, 61], bS [94, 61], bS [33, 94]]
def oversL : List ByteArray := [bS [99, 111, 117, 110, 116], bS [115, 117, 109], bS [109, 105, 110], bS [109, 97, 120], bS [100, 101, 108, 116, 97]]
def allsL : List ByteArray := [bS [116, 111, 116, 97, 108], bS [108, 101, 97, 115, 116], bS [109, 111, 115, 116], bS [109, 97, 110, 121]]
def matcherP (l : List Tok) : PRes Mt :=
  match nameP l with
  | .error e => .error e
  | .ok (n, l) => match opsL.findIdx? fun s => isP s l with
    | none => failP 3 l
    | some k => match mustP (opsL.getD k ⟨#[]⟩) l with
      | .error e => .error e
      | .ok (_, l) => match anyP 3 l with
        | .error e => .error e
        | .ok (s, l') => if valueF (s.extract 1 (s.size - 1)) then .ok (⟨n, k, s.extract 1 (s.size - 1)⟩, l') else failP 4 l
def matchersL : Nat → List Mt → List Tok → PRes (List Mt)
  | 0, _, _ => .error (0, 0)
  | f + 1, acc, l =>
    if takesP (bS [125]) l then .ok (acc, l.tail)
    else match (if acc.length = 0 then .ok ((), l) else mustP (bS [44]) l) with
      | .error e => .error e
      | .ok (_, l) => if 8 ≤ acc.length then failP 4 l else match matcherP l with
        | .error e => .error e
        | .ok (m, l) => matchersL f (acc ++ [m]) l
def matchersP (l : List Tok) : PRes (List Mt) := match mustP (bS [123]) l with
  | .error e => .error e
  | .ok (_, l) => matchersL (l.length + 1) [] l
def namesL : Nat → List ByteArray → List Tok → PRes (List ByteArray)
  | 0, _, _ => .error (0, 0)
  | f + 1, acc, l => if 8 ≤ acc.length then failP 4 l else match nameP l with
    | .error e => .error e
    | .ok (s, l) => if takesP (bS [44]) l then namesL f (acc ++ [s]) l.tail else .ok (acc ++ [s], l)
mutual
def oneP : Nat → Nat → List Tok → PRes Qn
  | 0, _, _ => .error (0, 0)
  | f + 1, n, l =>
    if 8 < n then failP 4 l
    else if takesP (bS [45]) l then (match oneP f (n + 1) l.tail with
      | .error e => .error e
      | .ok (q, l) => .ok (.mk 12 0 [] 0 [] q .nil, l))
    else if takesP (bS [40]) l then (match sumP f (n + 1) l.tail with
      | .error e => .error e
      | .ok (q, l) => match mustP (bS [41]) l with
        | .error e => .error e
        | .ok (_, l) => .ok (q, l))
    else if (hdT l).kind = 2 then (match numberP 9223372036854775807 l with
      | .error e => .error e
      | .ok (k, l) => .ok (.mk 1 k [] 0 [] .nil .nil, l))
    else if isP (bS [123]) l then (match matchersP l with
      | .error e => .error e
      | .ok (m, l) => .ok (.mk 2 0 m 300 [] .nil .nil, l))
    else match oversL.findIdx? fun s => isP s l with
      | some k => (match mustP (oversL.getD k ⟨#[]⟩) l with
        | .error e => .error e
        | .ok (_, l) => match mustP (bS [40]) l with
          | .error e => .error e
          | .ok (_, l) => match matchersP l with
            | .error e => .error e
            | .ok (m, l) => match mustP (bS [91]) l with
              | .error e => .error e
              | .ok (_, l) => match numberP 1099511627776 l with
                | .error e => .error e
                | .ok (sp, l) => match mustP (bS [93]) l with
                  | .error e => .error e
                  | .ok (_, l) => match mustP (bS [41]) l with
                    | .error e => .error e
                    | .ok (_, l) => .ok (.mk (3 + k) 0 m (if sp < 1 then 1 else sp) [] .nil .nil, l))
      | none => match allsL.findIdx? fun s => isP s l with
        | none => failP 3 l
        | some k => match mustP (allsL.getD k ⟨#[]⟩) l with
          | .error e => .error e
          | .ok (_, l) => match mustP (bS [40]) l with
            | .error e => .error e
            | .ok (_, l) => match sumP f (n + 1) l with
              | .error e => .error e
              | .ok (q, l) => match mustP (bS [41]) l with
                | .error e => .error e
                | .ok (_, l) => if takesP (bS [98, 121]) l then (match mustP (bS [40]) l.tail with
                    | .error e => .error e
                    | .ok (_, l) => match namesL (l.length + 1) [] l with
                      | .error e => .error e
                      | .ok (ns, l) => match mustP (bS [41]) l with
                        | .error e => .error e
                        | .ok (_, l) => .ok (.mk (8 + k) 0 [] 0 ns q .nil, l))
                  else .ok (.mk (8 + k) 0 [] 0 [] q .nil, l)
def productL : Nat → Nat → Qn → List Tok → PRes Qn
  | 0, _, _, _ => .error (0, 0)
  | f + 1, n, q, l =>
    if takesP (bS [42]) l then (match oneP f n l.tail with
      | .error e => .error e
      | .ok (r, l) => productL f n (.mk 15 0 [] 0 [] q r) l)
    else if takesP (bS [47]) l then (match oneP f n l.tail with
      | .error e => .error e
      | .ok (r, l) => productL f n (.mk 16 0 [] 0 [] q r) l)
    else .ok (q, l)
def productP : Nat → Nat → List Tok → PRes Qn
  | 0, _, _ => .error (0, 0)
  | f + 1, n, l => match oneP f n l with
    | .error e => .error e
    | .ok (q, l) => productL f n q l
def sumL : Nat → Nat → Qn → List Tok → PRes Qn
  | 0, _, _, _ => .error (0, 0)
  | f + 1, n, q, l =>
    if takesP (bS [43]) l then (match productP f n l.tail with
      | .error e => .error e
      | .ok (r, l) => sumL f n (.mk 13 0 [] 0 [] q r) l)
    else if takesP (bS [45]) l then (match productP f n l.tail with
      | .error e => .error e
      | .ok (r, l) => sumL f n (.mk 14 0 [] 0 [] q r) l)
    else .ok (q, l)
def sumP : Nat → Nat → List Tok → PRes Qn
  | 0, _, _ => .error (0, 0)
  | f + 1, n, l => match productP f n l with
    | .error e => .error e
    | .ok (q, l) => sumL f n q l
end
end Go.PL
/-
  Plain laws: questions as rows of lexemes, and how these are read as tokens. No program is in sight.
-/
namespace Go.PL
open Go Go.GK

structure Lx where
  pre : Nat
  text : List UInt8
  kind : Int
  post : Nat
def spc (n : Nat) : List UInt8 := List.replicate n 32
def Lx.bytes (x : Lx) : List UInt8 := spc x.pre ++ x.text ++ spc x.post
def bytesL (l : List Lx) : List UInt8 := l.flatMap Lx.bytes
def Lx.st (x : Lx) : Int × ByteArray := (x.kind, bS x.text)
def Tok.st (t : Tok) : Int × ByteArray := (t.kind, t.text)
def wL (s : List UInt8) : Lx := ⟨0, s, 1, 0⟩
def dL (s : List UInt8) : Lx := ⟨0, s, 2, 0⟩
def qL (v : List UInt8) : Lx := ⟨0, 34 :: v ++ [34], 3, 0⟩
def mL (s : List UInt8) : Lx := ⟨0, s, 4, 0⟩
def TxOk (k : Int) (t : List UInt8) : Prop :=
  (k = 1 ∧ ∃ c r, t = c :: r ∧ letB c = true ∧ ∀ b ∈ r, (letB b || digB b) = true) ∨
  (k = 2 ∧ t ≠ [] ∧ t.length ≤ 18 ∧ ∀ b ∈ t, digB b = true) ∨
  (k = 3 ∧ ∃ v, t = 34 :: v ++ [34] ∧ ∀ b ∈ v, b.toNat ≠ 34) ∨
  (k = 4 ∧ t ∈ marksL)
def Lx.Ok (x : Lx) : Prop := TxOk x.kind x.text

theorem let_ne {c : UInt8} (h : letB c = true) : c.toNat ≠ 34 ∧ c ≠ 32 := by
  have : c ≠ 32 := by rintro rfl; revert h; decide
  simp [letB] at h
  exact ⟨by omega, this⟩
theorem dig_ne {c : UInt8} (h : digB c = true) : c.toNat ≠ 34 ∧ c ≠ 32 ∧ letB c = false := by
  have : c ≠ 32 := by rintro rfl; revert h; decide
  simp [digB] at h
  refine ⟨by omega, this, ?_⟩
  simp [letB]
  omega
theorem tw_all {p : UInt8 → Bool} {l r : List UInt8} (h : ∀ b ∈ l, p b = true) (hr : ∀ c, r.head? = some c → p c = false) : (l ++ r).takeWhile p = l := by
  induction l with
  | nil =>
    cases r with
    | nil => rfl
    | cons c r => simp [hr c rfl]
  | cons b l ih =>
    simp only [List.cons_append, List.takeWhile, h b List.mem_cons_self]
    rw [ih fun b hb => h b (List.mem_cons_of_mem _ hb)]
theorem marks_ne {t : List UInt8} (h : t ∈ marksL) : ∃ c r, t = c :: r ∧ letB c = false ∧ digB c = false ∧ c ≠ 34 ∧ c ≠ 32 ∧ c.toNat ≠ 34 := by
  simp only [marksL, List.mem_cons, List.not_mem_nil, or_false] at h
  rcases h with rfl | rfl | rfl | rfl | rfl | rfl | rfl | rfl | rfl | rfl | rfl | rfl | rfl | rfl | rfl <;> exact ⟨_, _, rfl, by decide, by decide, by decide, by decide, by decide⟩
theorem marks_find {t : List UInt8} (h : t ∈ marksL) (r : List UInt8) : marksL.find? (fun m => m.isPrefixOf (t ++ r)) = some t := by
  simp only [marksL, List.mem_cons, List.not_mem_nil, or_false] at h
  rcases h with rfl | rfl | rfl | rfl | rfl | rfl | rfl | rfl | rfl | rfl | rfl | rfl | rfl | rfl | rfl <;> simp [marksL, List.find?, List.isPrefixOf]
theorem find_q {v r : List UInt8} (h : ∀ b ∈ v, b.toNat ≠ 34) : (v ++ 34 :: r).findIdx? (· == 34) = some v.length := by
  induction v with
  | nil => simp [List.findIdx?_cons]
  | cons b v ih =>
    have hb : (b == 34) = false := by
      cases hh : b == 34 with
      | false => rfl
      | true => exact absurd (by rw [eq_of_beq hh]; rfl) (h b List.mem_cons_self)
    rw [List.cons_append, List.findIdx?_cons, hb, ih fun b hb => h b (List.mem_cons_of_mem _ hb)]
    simp
theorem lex_ok {k : Int} {t : List UInt8} (h : TxOk k t) (r : List UInt8) (hr : k = 1 → ∀ c, r.head? = some c → (letB c || digB c) = false) (hd : k = 2 → ∀ c, r.head? = some c → digB c = false) :
    lexF (t ++ r) = (t.length, k) ∧ t ≠ [] ∧ t.head? ≠ some 32 ∧ (k = 2 → t.length ≤ 18) := by
  rcases h with ⟨rfl, c, l, rfl, hc, hl⟩ | ⟨rfl, hne, h18, hl⟩ | ⟨rfl, v, rfl, hv⟩ | ⟨rfl, hm⟩
  · refine ⟨?_, by simp, by simpa using (let_ne hc).2, by simp⟩
    have := tw_all (p := fun b => letB b || digB b) (l := c :: l) (r := r) (fun b hb => by
      rcases List.mem_cons.1 hb with rfl | hb
      · simp [hc]
      · exact hl b hb) (hr rfl)
    simp only [List.cons_append] at this ⊢
    simp only [lexF, hc, if_true, this]
  · cases t with
    | nil => exact absurd rfl hne
    | cons c l =>
      have hc := hl c List.mem_cons_self
      refine ⟨?_, by simp, by simpa using (dig_ne hc).2.1, fun _ => h18⟩
      have := tw_all (p := digB) (l := c :: l) (r := r) hl (hd rfl)
      simp only [List.cons_append] at this ⊢
      simp only [lexF, (dig_ne hc).2.2, hc, if_true, Bool.false_eq_true, if_false, this]
  · refine ⟨?_, by simp, by simp, by simp⟩
    have e : 34 :: v ++ [34] ++ r = 34 :: (v ++ 34 :: r) := by simp
    rw [e]
    simp only [lexF, find_q hv]
    simp [letB, digB]
  · obtain ⟨c, l, e, h1, h2, h3, h4, h5⟩ := marks_ne hm
    refine ⟨?_, by simp [e], by simpa [e] using h4, by simp⟩
    have := marks_find hm r
    subst e
    simp only [List.cons_append] at this ⊢
    simp only [lexF, h1, h2, h5, Bool.false_eq_true, if_false, this]

def lk (x y : Lx) : Prop := (x.kind = 1 ∨ x.kind = 2) → x.post ≠ 0 ∨ y.pre ≠ 0 ∨ y.kind = 4
def chn : List Lx → Prop
  | x :: y :: r => lk x y ∧ chn (y :: r)
  | _ => True
theorem chn_cons {x : Lx} {l : List Lx} (h : x.kind = 4 ∨ x.kind = 3 ∨ x.post ≠ 0) (hl : chn l) : chn (x :: l) := by
  cases l with
  | nil => trivial
  | cons y r =>
    refine ⟨fun hx => ?_, hl⟩
    rcases h with h | h | h
    · omega
    · omega
    · exact .inl h
theorem chn_mark {x y : Lx} {l : List Lx} (h : y.kind = 4 ∨ y.pre ≠ 0) (hl : chn (y :: l)) : chn (x :: y :: l) :=
  ⟨fun _ => by rcases h with h | h <;> simp [h], hl⟩
theorem chn_app {a : List Lx} {y : Lx} {b : List Lx} (ha : chn a) (h : y.kind = 4 ∨ y.pre ≠ 0) (hb : chn (y :: b)) : chn (a ++ y :: b) := by
  induction a with
  | nil => exact hb
  | cons x r ih =>
    cases r with
    | nil => exact chn_mark h hb
    | cons z r => exact ⟨ha.1, ih ha.2⟩

theorem bytesL_cons (x : Lx) (l : List Lx) : bytesL (x :: l) = x.bytes ++ bytesL l := rfl
theorem bytesL_append (a b : List Lx) : bytesL (a ++ b) = bytesL a ++ bytesL b := by simp [bytesL]
theorem spc_head {n : Nat} {l : List UInt8} (h : n ≠ 0) : (spc n ++ l).head? = some 32 := by
  cases n with
  | zero => exact absurd rfl h
  | succ n => rfl
theorem spc_add (a b : Nat) : spc (a + b) = spc a ++ spc b := by simp [spc, List.replicate_append_replicate]
theorem tw_spc (a : Nat) {l : List UInt8} (h : l.head? ≠ some 32) : ((spc a ++ l).takeWhile (· == 32)).length = a := by
  rw [tw_all (p := (· == 32)) (fun b hb => by simp [spc] at hb; simp [hb.2]) (fun c hc => by
    cases h' : c == 32 with
    | false => rfl
    | true => exact absurd (by rw [hc, eq_of_beq h']) h)]
  simp [spc]
theorem sp_head {p : UInt8 → Bool} (hp : p 32 = false) {x : Lx} {l : List Lx} (hc : chn (x :: l)) (hx : x.kind = 1 ∨ x.kind = 2) (hm : ∀ t c, t ∈ marksL → t.head? = some c → p c = false) (hl : ∀ y ∈ l, y.Ok) :
    ∀ c, (spc x.post ++ bytesL l).head? = some c → p c = false := by
  intro c hcc
  by_cases h0 : x.post = 0
  · cases l with
    | nil => rw [h0] at hcc; cases hcc
    | cons y r =>
      rcases hc.1 hx with h | h | h
      · exact absurd h0 h
      · rw [h0, bytesL_cons] at hcc
        have : (y.bytes ++ bytesL r).head? = some 32 := by simp only [Lx.bytes, List.append_assoc]; exact spc_head h
        have e : (spc 0 ++ (y.bytes ++ bytesL r)) = y.bytes ++ bytesL r := rfl
        rw [e, this] at hcc
        cases hcc
        exact hp
      · by_cases hy : y.pre = 0
        · rcases hl y List.mem_cons_self with h' | h' | h' | ⟨_, h'⟩
          · have := h'.1; omega
          · have := h'.1; omega
          · have := h'.1; omega
          · obtain ⟨c', r', e, -⟩ := marks_ne h'
            refine hm y.text c h' ?_
            rw [h0, bytesL_cons, Lx.bytes, hy] at hcc
            rw [e] at hcc ⊢
            exact hcc
        · rw [h0, bytesL_cons] at hcc
          have : (y.bytes ++ bytesL r).head? = some 32 := by simp only [Lx.bytes, List.append_assoc]; exact spc_head hy
          have e : (spc 0 ++ (y.bytes ++ bytesL r)) = y.bytes ++ bytesL r := rfl
          rw [e, this] at hcc
          cases hcc
          exact hp
  · rw [spc_head h0] at hcc
    cases hcc
    exact hp
theorem tok_ok (s : List UInt8) : ∀ (L : List Lx) (fuel i cnt a : Nat), (∀ x ∈ L, x.Ok) → chn L → s.drop i = spc a ++ bytesL L → i ≤ s.length → cnt + L.length ≤ 120 → L.length < fuel →
    ∃ l, tokF s fuel i cnt = .ok l ∧ l.map Tok.st = L.map Lx.st ++ [(5, bS [])]
  | [], 0, _, _, _, _, _, _, _, _, hf => by simp at hf
  | [], fuel + 1, i, cnt, a, _, _, hs, hi, _, _ => by
    have hlen := congrArg List.length hs
    simp [bytesL, spc] at hlen
    have h1 : ((s.drop i).takeWhile (· == 32)).length = a := by
      rw [hs]
      exact tw_spc a (by simp [bytesL])
    refine ⟨[⟨5, ⟨#[]⟩, (i + a : Nat)⟩], ?_, by simp [Tok.st, bS]⟩
    simp only [tokF, h1]
    rw [if_pos (by omega)]
  | x :: r, 0, _, _, _, _, _, _, _, _, hf => by simp at hf
  | x :: r, fuel + 1, i, cnt, a, hok, hc, hs, hi, hn, hf => by
    have hx := hok x List.mem_cons_self
    have hr : ∀ y ∈ r, y.Ok := fun y hy => hok y (List.mem_cons_of_mem _ hy)
    have hcr : chn r := by
      cases r with
      | nil => trivial
      | cons y r => exact hc.2
    obtain ⟨h1, h2, h3, h4⟩ := lex_ok hx (spc x.post ++ bytesL r) (fun hk => sp_head (p := fun c => letB c || digB c) (by decide) hc (.inl hk) (fun t c ht hh => by
      obtain ⟨c', r', e, g1, g2, -⟩ := marks_ne ht
      rw [e] at hh
      cases hh
      simp [g1, g2]) hr) (fun hk => sp_head (p := digB) (by decide) hc (.inr hk) (fun t c ht hh => by
      obtain ⟨c', r', e, g1, g2, -⟩ := marks_ne ht
      rw [e] at hh
      cases hh
      exact g2) hr)
    have hs2 : s.drop i = spc (a + x.pre) ++ (x.text ++ (spc x.post ++ bytesL r)) := by
      rw [hs, bytesL_cons, Lx.bytes, spc_add]
      simp
    have hh : (x.text ++ (spc x.post ++ bytesL r)).head? ≠ some 32 := by
      cases ht : x.text with
      | nil => exact absurd ht h2
      | cons c t => rw [ht] at h3; simpa using h3
    have h5 : ((s.drop i).takeWhile (· == 32)).length = a + x.pre := by
      rw [hs2]
      exact tw_spc _ hh
    have hd : s.drop (i + (a + x.pre)) = x.text ++ (spc x.post ++ bytesL r) := by
      rw [← List.drop_drop, hs2]
      have : (spc (a + x.pre)).length = a + x.pre := by simp [spc]
      rw [List.drop_append_of_le_length (by omega), List.drop_of_length_le (by omega)]
      rfl
    have hpos : 0 < x.text.length := by cases ht : x.text with | nil => exact absurd ht h2 | cons c t => simp
    have hlen := congrArg List.length hd
    simp only [List.length_drop, List.length_append] at hlen
    have hd2 : s.drop (i + (a + x.pre) + x.text.length) = spc x.post ++ bytesL r := by
      rw [← List.drop_drop, hd]
      simp
    obtain ⟨l, e1, e2⟩ := tok_ok s r fuel (i + (a + x.pre) + x.text.length) (cnt + 1) x.post hr hcr hd2 (by omega) (by simp at hn; omega) (by simp at hf; omega)
    refine ⟨⟨x.kind, ⟨(x.text).toArray⟩, (i + (a + x.pre) : Nat)⟩ :: l, ?_, ?_⟩
    · simp only [tokF, h5]
      rw [if_neg (by omega)]
      rw [hd, h1]
      simp only
      rw [if_neg (by omega), if_neg (by
        simp at hn
        intro h
        rcases h with h | h
        · have := h4 h.1
          omega
        · omega)]
      rw [e1]
      simp
    · simp [e2, Tok.st, Lx.st, bS]

def Tok.Ok (t : Tok) : Prop := TxOk t.kind t.text.data.toList ∨ (t.kind = 5 ∧ t.text = ⟨#[]⟩)
end Go.PL
