/-
  Plain laws: labels are written alike just if they are alike. No program is in sight.
-/
import Derived.Test.YtihakhdinkkdmaaGreatDoorK06
import Derived.Lib.ItoaNum
import Derived.Test.YtihakhdinkkdmaaGreatDoorK07
import Derived.Test.YtihakhdinkkdmaaGreatDoorK08
import Derived.Shelf.LaysM
import Derived.Shelf.Strconv.Itoa4
import Derived.Shelf.LaysC
import Derived.Shelf.Strconv.ParseIntPublic10
import Derived.Test.YtihakhdinkkdmaaGreatDoorProg
import Derived.Lib.AppendIntMem
import Derived.Lib.ParseIntB
import Derived.Lib.SlTrimSet
namespace Go.PL
open Go Go.GK

theorem split_uniq {α : Type} {c : α} : ∀ {x y r s : List α}, c ∉ x → c ∉ y → x ++ c :: r = y ++ c :: s → x = y ∧ r = s
  | [], [], r, s, _, _, h => by simpa using h
  | [], b :: y, r, s, _, hy, h => by
    simp only [List.nil_append, List.cons_append, List.cons.injEq] at h
    exact (hy (by rw [h.1]; exact List.mem_cons_self)).elim
  | a :: x, [], r, s, hx, _, h => by
    simp only [List.nil_append, List.cons_append, List.cons.injEq] at h
    exact (hx (by rw [← h.1]; exact List.mem_cons_self)).elim
  | a :: x, b :: y, r, s, hx, hy, h => by
    simp only [List.cons_append, List.cons.injEq] at h
    obtain ⟨h1, h2⟩ := split_uniq (fun e => hx (List.mem_cons_of_mem _ e)) (fun e => hy (List.mem_cons_of_mem _ e)) h.2
    exact ⟨by rw [h.1, h1], h2⟩

def cleanL (l : List Lb) : Prop := ∀ x ∈ l, (61 : UInt8) ∉ x.name.data.toList ∧ (34 : UInt8) ∉ x.value.data.toList

theorem right_clean {l : List Lb} (h : rightF l = true) : cleanL l := by
  intro x hx
  unfold rightF at h
  rw [Bool.and_eq_true, Bool.not_eq_true'] at h
  obtain ⟨i, hi, rfl⟩ := List.getElem_of_mem hx
  have hb := anyB_get h.1 i hi
  unfold lbad at hb
  rw [show l.getD i default = l[i] by simp [hi], Bool.or_eq_false_iff, Bool.or_eq_false_iff, Bool.not_eq_false', Bool.not_eq_false'] at hb
  obtain ⟨h1, h2, _⟩ := hb
  constructor
  · intro hc
    unfold nameF at h1
    rw [Bool.and_eq_true, Bool.not_eq_true'] at h1
    obtain ⟨j, hj, e⟩ := List.getElem_of_mem hc
    rw [size_data] at hj
    have := anyB_get h1.1 j hj
    rw [nbad_some hj] at this
    have e' : l[i].name[j] = 61 := e
    rw [e'] at this
    revert this
    cases (j == 0) <;> decide
  · intro hc
    unfold valueF at h2
    rw [Bool.and_eq_true, Bool.not_eq_true'] at h2
    obtain ⟨j, hj, e⟩ := List.getElem_of_mem hc
    rw [size_data] at hj
    have := anyB_get h2.1 j hj
    unfold vbad at this
    rw [getElem?_pos l[i].value j hj] at this
    have e' : l[i].value[j] = 34 := e
    simp only [e'] at this
    revert this
    decide

def tailF : List Lb → List UInt8
  | [] => [125]
  | x :: r => 44 :: (itemF x ++ tailF r)
theorem text_tail (x : Lb) (r : List Lb) : ([44] : List UInt8).intercalate ((x :: r).map itemF) ++ [125] = itemF x ++ tailF r := by
  induction r generalizing x with
  | nil => simp [List.intercalate, tailF]
  | cons y r ih =>
    have e : ([44] : List UInt8).intercalate ((x :: y :: r).map itemF) = itemF x ++ ([44] ++ ([44] : List UInt8).intercalate ((y :: r).map itemF)) := by simp [List.intercalate]
    rw [e, List.append_assoc, List.append_assoc, ih y]
    rfl
theorem item_uniq {x y : Lb} {r s : List UInt8} (hx : (61 : UInt8) ∉ x.name.data.toList ∧ (34 : UInt8) ∉ x.value.data.toList) (hy : (61 : UInt8) ∉ y.name.data.toList ∧ (34 : UInt8) ∉ y.value.data.toList) (h : itemF x ++ r = itemF y ++ s) : x = y ∧ r = s := by
  unfold itemF at h
  simp only [List.append_assoc, List.cons_append, List.nil_append] at h
  obtain ⟨h1, h2⟩ := split_uniq hx.1 hy.1 h
  simp only [List.cons.injEq, true_and] at h2
  obtain ⟨h3, h4⟩ := split_uniq hx.2 hy.2 h2
  obtain ⟨x1, x2⟩ := x
  obtain ⟨y1, y2⟩ := y
  have e1 := ba_inj h1
  have e2 := ba_inj h3
  simp only at e1 e2
  exact ⟨by rw [e1, e2], h4⟩
theorem tail_uniq : ∀ {a b : List Lb}, cleanL a → cleanL b → tailF a = tailF b → a = b
  | [], [], _, _, _ => rfl
  | [], y :: b, _, _, h => by simp [tailF] at h
  | x :: a, [], _, _, h => by simp [tailF] at h
  | x :: a, y :: b, ha, hb, h => by
    simp only [tailF, List.cons.injEq, true_and] at h
    obtain ⟨h1, h2⟩ := item_uniq (ha x List.mem_cons_self) (hb y List.mem_cons_self) h
    rw [h1, tail_uniq (fun z hz => ha z (List.mem_cons_of_mem _ hz)) (fun z hz => hb z (List.mem_cons_of_mem _ hz)) h2]
theorem text_iff {a b : List Lb} (ha : cleanL a) (hb : cleanL b) : textF a = textF b ↔ a = b := by
  refine ⟨fun h => ?_, fun h => by rw [h]⟩
  have h1 := congrArg (fun s : ByteArray => s.data.toList) h
  simp only [textF, data_bs, List.cons_append, List.nil_append, List.cons.injEq, true_and] at h1
  have hlen : ∀ (x : Lb) (r : List Lb), (itemF x ++ tailF r).length ≥ 3 := fun x r => by simp [itemF]; omega
  cases a with
  | nil =>
    cases b with
    | nil => rfl
    | cons y b =>
      rw [text_tail] at h1
      have := hlen y b
      rw [← h1] at this
      simp [List.intercalate] at this
  | cons x a =>
    cases b with
    | nil =>
      rw [text_tail] at h1
      have := hlen x a
      rw [h1] at this
      simp [List.intercalate] at this
    | cons y b =>
      rw [text_tail, text_tail] at h1
      obtain ⟨h2, h3⟩ := item_uniq (ha x List.mem_cons_self) (hb y List.mem_cons_self) h1
      rw [h2, tail_uniq (fun z hz => ha z (List.mem_cons_of_mem _ hz)) (fun z hz => hb z (List.mem_cons_of_mem _ hz)) h3]

def flipM (m : Mt) : Mt := { m with op := if m.op = 0 then 1 else if m.op = 1 then 0 else if m.op = 2 then 3 else 2 }
theorem flip_one (l : List Lb) (m : Mt) (h : 0 ≤ m.op ∧ m.op ≤ 3) : loneF l (flipM m) = !loneF l m := by
  obtain ⟨n, op, v⟩ := m
  simp only at h
  have h4 : op = 0 ∨ op = 1 ∨ op = 2 ∨ op = 3 := by omega
  rcases h4 with rfl | rfl | rfl | rfl <;> simp [loneF, flipM]
end Go.PL
/-
  Plain laws: an index: of each name, and what it says, the series that say so. No program is in sight.
-/
namespace Go.PL
open Go Go.GK

section
variable {α : Type}
def modA (k : ByteArray) (f : α → α) (d : α) : List (ByteArray × α) → List (ByteArray × α)
  | [] => [(k, f d)]
  | (k', a) :: r => if k' = k then (k', f a) :: r else (k', a) :: modA k f d r
def getA (k : ByteArray) (d : α) : List (ByteArray × α) → α
  | [] => d
  | (k', a) :: r => if k' = k then a else getA k d r
abbrev keysA (l : List (ByteArray × α)) : List ByteArray := l.map (·.1)
theorem getA_mod (k k' : ByteArray) (f : α → α) (d : α) : ∀ l, getA k' d (modA k f d l) = if k' = k then f (getA k d l) else getA k' d l
  | [] => by
    unfold modA getA getA
    by_cases h : k = k'
    · subst h; simp [getA]
    · rw [if_neg h, if_neg fun e => h e.symm]
  | (q, a) :: r => by
    unfold modA
    by_cases h : q = k
    · subst h
      rw [if_pos rfl]
      unfold getA
      by_cases h' : q = k'
      · subst h'; rw [if_pos rfl, if_pos rfl, if_pos rfl]
      · rw [if_neg h', if_neg h', if_neg fun e => h' e.symm]
    · rw [if_neg h]
      unfold getA
      rw [getA_mod k k' f d r]
      by_cases h' : q = k'
      · subst h'; rw [if_pos rfl, if_pos rfl, if_neg h]
      · rw [if_neg h', if_neg h', if_neg h]
theorem modA_new {k : ByteArray} {f : α → α} {d : α} : ∀ {l : List (ByteArray × α)}, k ∉ keysA l → modA k f d l = l ++ [(k, f d)]
  | [], _ => rfl
  | (q, a) :: r, h => by
    simp only [keysA, List.map_cons, List.mem_cons, not_or] at h
    unfold modA
    rw [if_neg fun e => h.1 e.symm, modA_new (l := r) h.2]
    rfl
theorem modA_old {k : ByteArray} {f : α → α} {d a : α} {l2 : List (ByteArray × α)} : ∀ {l1 : List (ByteArray × α)}, k ∉ keysA l1 → modA k f d (l1 ++ (k, a) :: l2) = l1 ++ (k, f a) :: l2
  | [], _ => by show modA k f d ((k, a) :: l2) = _; unfold modA; rw [if_pos rfl]; rfl
  | (q, x) :: r, h => by
    simp only [keysA, List.map_cons, List.mem_cons, not_or] at h
    show modA k f d ((q, x) :: (r ++ (k, a) :: l2)) = _
    unfold modA
    rw [if_neg fun e => h.1 e.symm, modA_old (l1 := r) h.2]
    rfl
theorem splitA {k : ByteArray} : ∀ {l : List (ByteArray × α)}, k ∈ keysA l → ∃ l1 a l2, l = l1 ++ (k, a) :: l2 ∧ k ∉ keysA l1
  | [], h => by cases h
  | (q, a) :: r, h => by
    by_cases e : q = k
    · subst e; exact ⟨[], a, r, rfl, by simp⟩
    · have h' : k ∈ keysA r := by
        simp only [keysA, List.map_cons, List.mem_cons] at h
        rcases h with h | h
        · exact absurd h.symm e
        · exact h
      obtain ⟨l1, b, l2, rfl, hn⟩ := splitA h'
      refine ⟨(q, a) :: l1, b, l2, rfl, ?_⟩
      simp only [keysA, List.map_cons, List.mem_cons, not_or]
      exact ⟨fun e' => e e'.symm, hn⟩
theorem getA_old {k : ByteArray} {d a : α} {l2 : List (ByteArray × α)} : ∀ {l1 : List (ByteArray × α)}, k ∉ keysA l1 → getA k d (l1 ++ (k, a) :: l2) = a
  | [], _ => by show getA k d ((k, a) :: l2) = _; unfold getA; rw [if_pos rfl]
  | (q, x) :: r, h => by
    simp only [keysA, List.map_cons, List.mem_cons, not_or] at h
    show getA k d ((q, x) :: (r ++ (k, a) :: l2)) = _
    unfold getA
    rw [if_neg fun e => h.1 e.symm, getA_old (l1 := r) h.2]
theorem getA_new {k : ByteArray} {d : α} : ∀ {l : List (ByteArray × α)}, k ∉ keysA l → getA k d l = d
  | [], _ => rfl
  | (q, x) :: r, h => by
    simp only [keysA, List.map_cons, List.mem_cons, not_or] at h
    unfold getA
    rw [if_neg fun e => h.1 e.symm, getA_new (l := r) h.2]
theorem keysA_mod (k : ByteArray) (f : α → α) (d : α) (l : List (ByteArray × α)) : (k ∈ keysA l → keysA (modA k f d l) = keysA l) ∧ (k ∉ keysA l → keysA (modA k f d l) = keysA l ++ [k]) := by
  refine ⟨fun h => ?_, fun h => by rw [modA_new h]; simp [keysA]⟩
  obtain ⟨l1, a, l2, rfl, hn⟩ := splitA h
  rw [modA_old hn]
  simp [keysA]
theorem keysA_mem (k k' : ByteArray) (f : α → α) (d : α) (l : List (ByteArray × α)) : k' ∈ keysA (modA k f d l) ↔ k' ∈ keysA l ∨ k' = k := by
  by_cases h : k ∈ keysA l
  · rw [(keysA_mod k f d l).1 h]
    exact ⟨.inl, fun h' => h'.elim id fun e => e ▸ h⟩
  · rw [(keysA_mod k f d l).2 h]
    simp
theorem keysA_nodup {k : ByteArray} {f : α → α} {d : α} {l : List (ByteArray × α)} (h : (keysA l).Nodup) : (keysA (modA k f d l)).Nodup := by
  by_cases hk : k ∈ keysA l
  · rw [(keysA_mod k f d l).1 hk]; exact h
  · rw [(keysA_mod k f d l).2 hk]
    refine List.nodup_append.2 ⟨h, by simp, fun a ha b hb => ?_⟩
    rw [List.mem_singleton.1 hb]
    exact fun e => hk (e ▸ ha)
theorem keysA_len (k : ByteArray) (f : α → α) (d : α) (l : List (ByteArray × α)) : (modA k f d l).length ≤ l.length + 1 := by
  have h1 := keysA_mod k f d l
  by_cases h : k ∈ keysA l
  · have := congrArg List.length (h1.1 h); simp only [keysA, List.length_map] at this; omega
  · have := congrArg List.length (h1.2 h); simp only [keysA, List.length_map, List.length_append, List.length_singleton] at this; omega
end

abbrev In1 := List (ByteArray × List Int)
abbrev Ix := List (ByteArray × In1)
def addI (i : Nat) (L : Ix) (y : Lb) : Ix := modA y.name (fun M => modA y.value (fun r => r ++ [(i : Int)]) [] M) [] L
def ixF (S : List (List Lb)) : Ix := (S.foldl (fun p s => (p.1 + 1, s.foldl (addI p.1) p.2)) (0, [])).2
theorem ixF_snd (S : List (List Lb)) : (S.foldl (fun p s => (p.1 + 1, s.foldl (addI p.1) p.2)) ((0, []) : Nat × Ix)).1 = S.length := by
  suffices h : ∀ (S : List (List Lb)) (p : Nat × Ix), (S.foldl (fun p s => (p.1 + 1, s.foldl (addI p.1) p.2)) p).1 = p.1 + S.length by rw [h]; simp
  intro S
  induction S with
  | nil => intro p; rfl
  | cons x r ih => intro p; rw [List.foldl_cons, ih]; simp; omega
theorem ixF_snoc (S : List (List Lb)) (s : List Lb) : ixF (S ++ [s]) = s.foldl (addI S.length) (ixF S) := by
  unfold ixF
  rw [List.foldl_append, List.foldl_cons, List.foldl_nil, ixF_snd]
theorem ixF_take (S : List (List Lb)) (i : Nat) (h : i < S.length) : ixF (S.take (i + 1)) = S[i].foldl (addI i) (ixF (S.take i)) := by
  rw [List.take_succ_eq_append_getElem h, ixF_snoc, List.length_take, Nat.min_eq_left (Nat.le_of_lt h)]

def rowI (L : Ix) (n v : ByteArray) : List Int := getA v [] (getA n [] L)
structure IxOk (P : Nat → ByteArray → ByteArray → Prop) (N : Nat) (L : Ix) : Prop where
  nd : (keysA L).Nodup
  nd2 : ∀ x ∈ L, (keysA x.2).Nodup
  names : ∀ n, n ∈ keysA L ↔ ∃ i v, i < N ∧ P i n v
  vals : ∀ n v, v ∈ keysA (getA n [] L) ↔ ∃ i, i < N ∧ P i n v
  rows : ∀ n v, (rowI L n v).Pairwise (· < ·) ∧ ∀ z : Int, z ∈ rowI L n v ↔ ∃ i : Nat, z = i ∧ i < N ∧ P i n v
def Says (S : List (List Lb)) (i : Nat) (n v : ByteArray) : Prop := ∃ s, S[i]? = some s ∧ (⟨n, v⟩ : Lb) ∈ s
theorem mem_modA {α : Type} {k : ByteArray} {f : α → α} {d : α} {x : ByteArray × α} : ∀ {l : List (ByteArray × α)}, x ∈ modA k f d l → x ∈ l ∨ ∃ a, x = (k, f a) ∧ (a = d ∨ (k, a) ∈ l)
  | [], h => by
    simp only [modA, List.mem_singleton] at h
    exact .inr ⟨d, h, .inl rfl⟩
  | (q, a) :: r, h => by
    unfold modA at h
    split at h
    · rename_i e
      subst e
      rcases List.mem_cons.1 h with rfl | h
      · exact .inr ⟨a, rfl, .inr (by simp)⟩
      · exact .inl (by simp [h])
    · rcases List.mem_cons.1 h with rfl | h
      · exact .inl (by simp)
      · rcases mem_modA h with h | ⟨b, e, h | h⟩
        · exact .inl (by simp [h])
        · exact .inr ⟨b, e, .inl h⟩
        · exact .inr ⟨b, e, .inr (by simp [h])⟩
theorem IxOk.nil : IxOk (fun _ _ _ => False) 0 [] := by
  refine ⟨by simp [keysA], by simp, fun n => ?_, fun n v => ?_, fun n v => ⟨.nil, fun z => ?_⟩⟩
  · simp [keysA]
  · simp [keysA, getA]
  · simp [rowI, getA]
theorem IxOk.add {P : Nat → ByteArray → ByteArray → Prop} {i : Nat} {L : Ix} (h : IxOk P (i + 1) L) (y : Lb) (hy : ¬ P i y.name y.value) : IxOk (fun j n v => P j n v ∨ (j = i ∧ n = y.name ∧ v = y.value)) (i + 1) (addI i L y) := by
  have hg : ∀ n, getA n [] (addI i L y) = if n = y.name then modA y.value (fun r => r ++ [(i : Int)]) [] (getA y.name [] L) else getA n [] L := fun n => getA_mod _ _ _ _ _
  have hr : ∀ n v, rowI (addI i L y) n v = if n = y.name ∧ v = y.value then rowI L n v ++ [(i : Int)] else rowI L n v := by
    intro n v
    unfold rowI
    rw [hg]
    by_cases h1 : n = y.name
    · rw [if_pos h1, getA_mod]
      by_cases h2 : v = y.value
      · rw [if_pos h2, if_pos ⟨h1, h2⟩, h1, h2]
      · rw [if_neg h2, if_neg fun e => h2 e.2, h1]
    · rw [if_neg h1, if_neg fun e => h1 e.1]
  refine ⟨keysA_nodup h.nd, fun x hx => ?_, fun n => ?_, fun n v => ?_, fun n v => ?_⟩
  · rcases mem_modA hx with hx | ⟨a, rfl, rfl | ha⟩
    · exact h.nd2 x hx
    · exact keysA_nodup (by simp [keysA])
    · exact keysA_nodup (h.nd2 _ ha)
  · rw [addI, keysA_mem, h.names]
    constructor
    · rintro (⟨j, v, h1, h2⟩ | rfl)
      · exact ⟨j, v, h1, .inl h2⟩
      · exact ⟨i, y.value, Nat.lt_succ_self i, .inr ⟨rfl, rfl, rfl⟩⟩
    · rintro ⟨j, v, h1, h2 | ⟨_, rfl, _⟩⟩
      · exact .inl ⟨j, v, h1, h2⟩
      · exact .inr rfl
  · rw [hg]
    by_cases h1 : n = y.name
    · rw [if_pos h1, keysA_mem, h.vals]
      subst h1
      constructor
      · rintro (⟨j, h1, h2⟩ | rfl)
        · exact ⟨j, h1, .inl h2⟩
        · exact ⟨i, Nat.lt_succ_self i, .inr ⟨rfl, rfl, rfl⟩⟩
      · rintro ⟨j, h1, h2 | ⟨_, _, rfl⟩⟩
        · exact .inl ⟨j, h1, h2⟩
        · exact .inr rfl
    · rw [if_neg h1, h.vals]
      constructor
      · rintro ⟨j, h1, h2⟩; exact ⟨j, h1, .inl h2⟩
      · rintro ⟨j, h2, h3 | ⟨_, e, _⟩⟩
        · exact ⟨j, h2, h3⟩
        · exact absurd e h1
  · obtain ⟨r1, r2⟩ := h.rows n v
    rw [hr]
    by_cases h1 : n = y.name ∧ v = y.value
    · rw [if_pos h1]
      obtain ⟨rfl, rfl⟩ := h1
      refine ⟨List.pairwise_append.2 ⟨r1, List.pairwise_singleton _ _, fun a ha b hb => ?_⟩, fun z => ?_⟩
      · rw [List.mem_singleton.1 hb]
        obtain ⟨j, rfl, hj, hp⟩ := (r2 a).1 ha
        have : j ≠ i := fun e => hy (e ▸ hp)
        omega
      · rw [List.mem_append, r2, List.mem_singleton]
        constructor
        · rintro (⟨j, h1, h2, h3⟩ | h1)
          · exact ⟨j, h1, h2, .inl h3⟩
          · exact ⟨i, h1, Nat.lt_succ_self i, .inr ⟨rfl, rfl, rfl⟩⟩
        · rintro ⟨j, h1, h2, h3 | ⟨h3, _⟩⟩
          · exact .inl ⟨j, h1, h2, h3⟩
          · exact .inr (by rw [h1, h3])
    · rw [if_neg h1]
      refine ⟨r1, fun z => ?_⟩
      rw [r2]
      constructor
      · rintro ⟨j, h1, h2, h3⟩; exact ⟨j, h1, h2, .inl h3⟩
      · rintro ⟨j, h3, h4, h5 | ⟨_, e⟩⟩
        · exact ⟨j, h3, h4, h5⟩
        · exact absurd e h1
theorem IxOk.congr {P Q : Nat → ByteArray → ByteArray → Prop} {N M : Nat} {L : Ix} (h : IxOk P N L) (e : ∀ i n v, (i < N ∧ P i n v) ↔ (i < M ∧ Q i n v)) : IxOk Q M L := by
  refine ⟨h.nd, h.nd2, fun n => ?_, fun n v => ?_, fun n v => ⟨(h.rows n v).1, fun z => ?_⟩⟩
  · rw [h.names]
    exact ⟨fun ⟨i, v, hp⟩ => ⟨i, v, (e i n v).1 hp⟩, fun ⟨i, v, hp⟩ => ⟨i, v, (e i n v).2 hp⟩⟩
  · rw [h.vals]
    exact ⟨fun ⟨i, hp⟩ => ⟨i, (e i n v).1 hp⟩, fun ⟨i, hp⟩ => ⟨i, (e i n v).2 hp⟩⟩
  · rw [(h.rows n v).2]
    exact ⟨fun ⟨i, hz, hp⟩ => ⟨i, hz, (e i n v).1 hp⟩, fun ⟨i, hz, hp⟩ => ⟨i, hz, (e i n v).2 hp⟩⟩
theorem right_names {s : List Lb} (h : rightF s = true) : s.Pairwise fun a b => cmpS a.name b.name = -1 := by
  unfold rightF at h
  rw [Bool.and_eq_true, Bool.not_eq_true'] at h
  have h1 : ∀ i (hi : i + 1 < s.length), cmpS s[i].name s[i + 1].name = -1 := fun i hi => by
    have := anyB_get h.1 (i + 1) hi
    unfold lbad at this
    simp only [Bool.or_eq_false_iff, Bool.and_eq_false_iff, decide_eq_false_iff_not, Bool.not_eq_false', Nat.add_sub_cancel] at this
    rcases this.2.2.2 with h | h
    · omega
    · rw [show s.getD i default = s[i] by simp [show i < s.length by omega], show s.getD (i + 1) default = s[i + 1] by simp [hi]] at h
      exact sLt_iff.1 h
  rw [List.pairwise_iff_getElem]
  intro i j hi hj hij
  induction j with
  | zero => omega
  | succ j ih =>
    by_cases e : i = j
    · subst e; exact h1 i hj
    · exact cmpS_is.trans _ _ _ (ih (by omega) (by omega)) (h1 j hj)
theorem ixF_ok : ∀ (S : List (List Lb)), (∀ s ∈ S, rightF s = true) → IxOk (Says S) S.length (ixF S) := by
  intro S
  induction hn : S.length generalizing S with
  | zero =>
    intro _
    obtain rfl := List.length_eq_zero_iff.1 hn
    refine IxOk.nil.congr fun i n v => ⟨fun h => h.2.elim, fun h => by omega⟩
  | succ N ih =>
    intro hS
    obtain ⟨A, s, rfl⟩ : ∃ A s, S = A ++ [s] := by
      cases hl : S.getLast? with
      | none => rw [List.getLast?_eq_none_iff] at hl; subst hl; cases hn
      | some s => exact ⟨_, s, (List.getLast?_eq_some_iff.1 hl).choose_spec⟩
    have hA : A.length = N := by simpa using hn
    have h0 := ih A hA fun x hx => hS x (by simp [hx])
    have hs := hS s (by simp)
    have hnm := right_names hs
    rw [ixF_snoc, hA]
    suffices h : ∀ j, j ≤ s.length → IxOk (fun i n v => (i < N ∧ Says A i n v) ∨ (i = N ∧ (⟨n, v⟩ : Lb) ∈ s.take j)) (N + 1) ((s.take j).foldl (addI N) (ixF A)) by
      have := h s.length (Nat.le_refl _)
      rw [List.take_length] at this
      refine this.congr fun i n v => ?_
      unfold Says
      constructor
      · rintro ⟨h1, ⟨h2, t, h3, h4⟩ | ⟨rfl, h2⟩⟩
        · exact ⟨h1, t, by rw [List.getElem?_append_left (by omega)]; exact h3, h4⟩
        · exact ⟨h1, s, by rw [List.getElem?_append_right (by omega), hA]; simp, h2⟩
      · rintro ⟨h1, t, h2, h3⟩
        refine ⟨h1, ?_⟩
        by_cases e : i < N
        · rw [List.getElem?_append_left (by omega)] at h2
          exact .inl ⟨e, t, h2, h3⟩
        · obtain rfl : i = N := by omega
          rw [List.getElem?_append_right (by omega), hA] at h2
          simp at h2
          subst h2
          exact .inr ⟨rfl, h3⟩
    intro j
    induction j with
    | zero =>
      intro _
      refine h0.congr fun i n v => ⟨fun h => ⟨by omega, .inl h⟩, fun h => ?_⟩
      rcases h.2 with h | h
      · exact h
      · simp at h
    | succ j ihj =>
      intro hj
      have hlt : j < s.length := hj
      rw [List.take_succ_eq_append_getElem hlt, List.foldl_append]
      have hk := (ihj (by omega)).add (y := s[j]) (fun h => by
        rcases h with ⟨h, _⟩ | ⟨_, h⟩
        · omega
        · obtain ⟨q, hq, e⟩ := List.getElem_of_mem h
          rw [List.getElem_take] at e
          rw [List.length_take] at hq
          have := List.pairwise_iff_getElem.1 hnm q j (by omega) hlt (by omega)
          rw [e] at this
          rw [cmpS_is.self] at this
          omega)
      refine hk.congr fun i n v => ?_
      simp only [List.mem_append, List.mem_singleton]
      constructor
      · rintro ⟨h1, (h2 | ⟨h2, h3⟩) | ⟨h2, h3, h4⟩⟩
        · exact ⟨h1, .inl h2⟩
        · exact ⟨h1, .inr ⟨h2, .inl h3⟩⟩
        · exact ⟨h1, .inr ⟨h2, .inr (by rw [h3, h4])⟩⟩
      · rintro ⟨h1, h2 | ⟨h2, h3 | h3⟩⟩
        · exact ⟨h1, .inl (.inl h2)⟩
        · exact ⟨h1, .inl (.inr ⟨h2, h3⟩)⟩
        · exact ⟨h1, .inr ⟨h2, by rw [← h3], by rw [← h3]⟩⟩
def RowsLe (K : Nat) (L : Ix) : Prop := ∀ x ∈ L, ∀ y ∈ x.2, y.2.length ≤ K
theorem RowsLe.add {K : Nat} {L : Ix} (h : RowsLe K L) (i : Nat) (y : Lb) : RowsLe (K + 1) (addI i L y) := fun x hx z hz => by
  have h1 : ∀ M : In1, (∀ z ∈ M, z.2.length ≤ K) → ∀ z ∈ modA y.value (fun r => r ++ [(i : Int)]) [] M, z.2.length ≤ K + 1 := fun M hM z hz => by
    rcases mem_modA hz with hz | ⟨a, rfl, rfl | ha⟩
    · have := hM z hz; omega
    · simp
    · have := hM _ ha; simp at this ⊢; omega
  rcases mem_modA hx with hx | ⟨a, rfl, rfl | ha⟩
  · have := h x hx z hz; omega
  · exact h1 [] (by simp) z hz
  · exact h1 a (h _ ha) z hz
theorem RowsLe.fold {i : Nat} : ∀ {l : List Lb} {K : Nat} {L : Ix}, RowsLe K L → RowsLe (K + l.length) (l.foldl (addI i) L)
  | [], _, _, h => h
  | y :: r, K, L, h => by
    have := RowsLe.fold (i := i) (l := r) (h.add i y)
    rw [List.foldl_cons]
    simp only [List.length_cons]
    rwa [show K + (r.length + 1) = K + 1 + r.length by omega]
theorem ixF_rows (B : Nat) : ∀ (S : List (List Lb)), (∀ s ∈ S, s.length ≤ B) → RowsLe (S.length * B) (ixF S) := by
  intro S
  induction hn : S.length generalizing S with
  | zero =>
    intro _
    obtain rfl := List.length_eq_zero_iff.1 hn
    intro x hx
    cases hx
  | succ N ih =>
    intro hS
    obtain ⟨A, s, rfl⟩ : ∃ A s, S = A ++ [s] := by
      cases hl : S.getLast? with
      | none => rw [List.getLast?_eq_none_iff] at hl; subst hl; cases hn
      | some s => exact ⟨_, s, (List.getLast?_eq_some_iff.1 hl).choose_spec⟩
    have hA : A.length = N := by simpa using hn
    have h0 := ih A hA fun x hx => hS x (by simp [hx])
    rw [ixF_snoc]
    intro x hx y hy
    have h1 := RowsLe.fold (i := A.length) (l := s) h0 x hx y hy
    have h2 := hS s (by simp)
    rw [Nat.succ_mul]
    omega
end Go.PL
/-
  Plain laws: sets of series' numbers, as rising lists; what an index finds. No program is in sight.
-/
namespace Go.PL
open Go Go.GK

abbrev Ris (l : List Int) : Prop := l.Pairwise (· < ·)
theorem ris_ext : ∀ {a b : List Int}, Ris a → Ris b → (∀ z, z ∈ a ↔ z ∈ b) → a = b
  | [], [], _, _, _ => rfl
  | [], y :: r, _, _, h => absurd ((h y).2 (by simp)) (by simp)
  | x :: r, [], _, _, h => absurd ((h x).1 (by simp)) (by simp)
  | x :: r, y :: s, ha, hb, h => by
    obtain ⟨a1, a2⟩ := List.pairwise_cons.1 ha
    obtain ⟨b1, b2⟩ := List.pairwise_cons.1 hb
    have hxy : x = y := by
      rcases List.mem_cons.1 ((h x).1 (by simp)) with h1 | h1
      · exact h1
      · rcases List.mem_cons.1 ((h y).2 (by simp)) with h2 | h2
        · exact h2.symm
        · have := b1 x h1; have := a1 y h2; omega
    subst hxy
    rw [ris_ext a2 b2 fun z => ⟨fun hz => ?_, fun hz => ?_⟩]
    · rcases List.mem_cons.1 ((h z).1 (by simp [hz])) with rfl | h1
      · have := a1 z hz; omega
      · exact h1
    · rcases List.mem_cons.1 ((h z).2 (by simp [hz])) with rfl | h1
      · have := b1 z hz; omega
      · exact h1
def upL (N : Nat) (p : Nat → Bool) : List Int := ((List.range N).filter p).map Int.ofNat
theorem mem_upL {N : Nat} {p : Nat → Bool} {z : Int} : z ∈ upL N p ↔ ∃ i : Nat, z = i ∧ i < N ∧ p i = true := by
  unfold upL
  rw [List.mem_map]
  constructor
  · rintro ⟨i, h, rfl⟩
    obtain ⟨h1, h2⟩ := List.mem_filter.1 h
    exact ⟨i, rfl, List.mem_range.1 h1, h2⟩
  · rintro ⟨i, rfl, h1, h2⟩
    exact ⟨i, List.mem_filter.2 ⟨List.mem_range.2 h1, h2⟩, rfl⟩
theorem mem_upL' {N : Nat} {p : Nat → Bool} {i : Nat} (h : i < N) : (i : Int) ∈ upL N p ↔ p i = true := by
  rw [mem_upL]
  constructor
  · rintro ⟨j, e, _, hp⟩
    obtain rfl : i = j := by omega
    exact hp
  · exact fun hp => ⟨i, rfl, h, hp⟩
theorem upL_ris (N : Nat) (p : Nat → Bool) : Ris (upL N p) := by
  unfold upL
  rw [Ris, List.pairwise_map]
  refine List.Pairwise.filter _ ?_
  exact List.pairwise_lt_range.imp fun h => Int.ofNat_lt.2 h
theorem upL_len (N : Nat) (p : Nat → Bool) : (upL N p).length ≤ N := by
  unfold upL
  rw [List.length_map]
  exact Nat.le_trans (List.length_filter_le _ _) (by simp)
theorem upL_congr {N : Nat} {p q : Nat → Bool} (h : ∀ i, i < N → p i = q i) : upL N p = upL N q :=
  ris_ext (upL_ris N p) (upL_ris N q) fun z => by
    rw [mem_upL, mem_upL]
    exact ⟨fun ⟨i, e, h1, h2⟩ => ⟨i, e, h1, by rw [← h i h1]; exact h2⟩, fun ⟨i, e, h1, h2⟩ => ⟨i, e, h1, by rw [h i h1]; exact h2⟩⟩
theorem upL_false (N : Nat) : upL N (fun _ => false) = [] := by
  unfold upL
  rw [List.filter_eq_nil_iff.2 (by simp)]
  rfl
theorem upL_inj {N : Nat} {p q : Nat → Bool} (h : upL N p = upL N q) : ∀ i, i < N → p i = q i := fun i hi => by
  have h1 := mem_upL' (p := p) hi
  have h2 := mem_upL' (p := q) hi
  rw [h] at h1
  rw [Bool.eq_iff_iff, ← h1, ← h2]
def keepF (a b : List Int) (c : Bool) : List Int := a.filter fun n => decide (n ∈ b) == c
theorem keep_up (N : Nat) (p q : Nat → Bool) (c : Bool) : keepF (upL N p) (upL N q) c = upL N fun i => p i && (q i == c) := by
  refine ris_ext ((upL_ris N p).filter _) (upL_ris N _) fun z => ?_
  unfold keepF
  rw [List.mem_filter]
  refine Iff.trans (and_congr_left' mem_upL) (Iff.trans ?_ mem_upL.symm)
  constructor
  · rintro ⟨⟨i, rfl, h1, h2⟩, h3⟩
    refine ⟨i, rfl, h1, ?_⟩
    rw [h2, Bool.true_and]
    have h4 := mem_upL' (p := q) h1
    cases hq : q i with
    | true => rw [decide_eq_true (h4.2 hq)] at h3; exact h3
    | false => rw [decide_eq_false fun h => by rw [h4.1 h] at hq; cases hq] at h3; exact h3
  · rintro ⟨i, rfl, h1, h2⟩
    rw [Bool.and_eq_true] at h2
    refine ⟨⟨i, rfl, h1, h2.1⟩, ?_⟩
    have h4 := mem_upL' (p := q) h1
    cases hq : q i with
    | true => rw [decide_eq_true (h4.2 hq)]; rw [hq] at h2; exact h2.2
    | false => rw [decide_eq_false fun h => by rw [h4.1 h] at hq; cases hq]; rw [hq] at h2; exact h2.2
theorem keep_len (a b : List Int) (c : Bool) : (keepF a b c).length ≤ a.length := List.length_filter_le _ _
def IsOr (a b l : List Int) : Prop := Ris l ∧ ∀ z, z ∈ l ↔ z ∈ a ∨ z ∈ b
theorem or_up {N : Nat} {p q : Nat → Bool} {l : List Int} (h : IsOr (upL N p) (upL N q) l) : l = upL N fun i => p i || q i := by
  refine ris_ext h.1 (upL_ris N _) fun z => ?_
  rw [h.2, mem_upL, mem_upL, mem_upL]
  constructor
  · rintro (⟨i, e, h1, h2⟩ | ⟨i, e, h1, h2⟩)
    · exact ⟨i, e, h1, by rw [h2]; rfl⟩
    · exact ⟨i, e, h1, by rw [h2, Bool.or_true]⟩
  · rintro ⟨i, e, h1, h2⟩
    rcases Bool.or_eq_true_iff.1 h2 with h | h
    · exact .inl ⟨i, e, h1, h⟩
    · exact .inr ⟨i, e, h1, h⟩

def saysB (S : List (List Lb)) (i : Nat) (n v : ByteArray) : Bool := (S.getD i []).any fun y => sEq y.name n && sEq y.value v
def hasB (S : List (List Lb)) (i : Nat) (n : ByteArray) : Bool := (S.getD i []).any fun y => sEq y.name n
theorem saysB_iff {S : List (List Lb)} {i : Nat} {n v : ByteArray} (hi : i < S.length) : saysB S i n v = true ↔ Says S i n v := by
  unfold saysB Says
  rw [show S.getD i [] = S[i] by simp [hi], List.any_eq_true, List.getElem?_eq_getElem hi]
  constructor
  · rintro ⟨y, hy, h⟩
    rw [Bool.and_eq_true, sEq_iff, sEq_iff] at h
    obtain ⟨rfl, rfl⟩ := h
    exact ⟨_, rfl, hy⟩
  · rintro ⟨s, hs, h⟩
    cases hs
    exact ⟨_, h, by simp⟩
theorem row_up {S : List (List Lb)} (hS : ∀ s ∈ S, rightF s = true) (n v : ByteArray) : rowI (ixF S) n v = upL S.length fun i => saysB S i n v := by
  have h := (ixF_ok S hS).rows n v
  refine ris_ext h.1 (upL_ris _ _) fun z => ?_
  rw [h.2, mem_upL]
  exact ⟨fun ⟨i, e, h1, h2⟩ => ⟨i, e, h1, (saysB_iff h1).2 h2⟩, fun ⟨i, e, h1, h2⟩ => ⟨i, e, h1, (saysB_iff h1).1 h2⟩⟩
theorem says_get {s : List Lb} (h : rightF s = true) {n v : ByteArray} : ((s.any fun y => sEq y.name n && sEq y.value v) = true) ↔ ((s.any fun y => sEq y.name n) = true ∧ lgetF s n = v) := by
  have hp := right_names h
  clear h
  induction s with
  | nil => simp
  | cons x r ih =>
    obtain ⟨p1, p2⟩ := List.pairwise_cons.1 hp
    have ih := ih p2
    simp only [List.any_cons, Bool.or_eq_true, Bool.and_eq_true]
    by_cases e : x.name = n
    · have hno : ∀ y ∈ r, sEq y.name n = false := fun y hy => by
        rw [sEq_false]
        intro e'
        have := p1 y hy
        rw [e, e', cmpS_is.self] at this
        omega
      have h1 : (r.any fun y => sEq y.name n && sEq y.value v) = false := by
        rw [List.any_eq_false]
        intro y hy
        rw [hno y hy]
        simp
      rw [h1, sEq_iff.2 e, lgetF, if_pos (sEq_iff.2 e), sEq_iff]
      simp
    · have h0 : sEq x.name n = false := sEq_false.2 e
      rw [h0, lgetF, if_neg (by rw [h0]; decide)]
      simp only [Bool.false_eq_true, false_and, false_or]
      exact ih
theorem get_has {s : List Lb} {n : ByteArray} (h : (s.any fun y => sEq y.name n) = false) : lgetF s n = ⟨#[]⟩ := by
  induction s with
  | nil => rfl
  | cons x r ih =>
    simp only [List.any_cons, Bool.or_eq_false_iff] at h
    rw [lgetF, if_neg (by rw [h.1]; decide), ih h.2]
theorem getD_right {S : List (List Lb)} (hS : ∀ s ∈ S, rightF s = true) {i : Nat} (hi : i < S.length) : rightF (S.getD i []) = true := by
  rw [show S.getD i [] = S[i] by simp [hi]]
  exact hS _ (List.getElem_mem hi)
def yesF (m : Mt) (v : ByteArray) : Bool := if m.op = 0 ∨ m.op = 1 then sEq v m.value else if m.op = 2 ∨ m.op = 3 then prefF v m.value else false
abbrev valsI (L : Ix) (n : ByteArray) : List ByteArray := keysA (getA n [] L)
theorem says_any {S : List (List Lb)} (hS : ∀ s ∈ S, rightF s = true) (n : ByteArray) (q : ByteArray → Bool) {i : Nat} (hi : i < S.length) : ((valsI (ixF S) n).any fun v => q v && saysB S i n v) = (hasB S i n && q (lgetF (S.getD i []) n)) := by
  have hr := getD_right hS hi
  rw [Bool.eq_iff_iff, List.any_eq_true, Bool.and_eq_true]
  constructor
  · rintro ⟨v, hv, h⟩
    rw [Bool.and_eq_true] at h
    obtain ⟨h1, h2⟩ := (says_get hr).1 h.2
    exact ⟨h1, by rw [h2]; exact h.1⟩
  · rintro ⟨h1, h2⟩
    have h3 : saysB S i n (lgetF (S.getD i []) n) = true := (says_get hr).2 ⟨h1, rfl⟩
    exact ⟨_, ((ixF_ok S hS).vals n _).2 ⟨i, hi, (saysB_iff hi).1 h3⟩, by rw [h2, h3]; rfl⟩
theorem yes_empty {m : Mt} (hop : 0 ≤ m.op ∧ m.op ≤ 3) : yesF m ⟨#[]⟩ = sEq m.value ⟨#[]⟩ := by
  unfold yesF
  by_cases h : m.op = 0 ∨ m.op = 1
  · rw [if_pos h, Bool.eq_iff_iff, sEq_iff, sEq_iff]; exact eq_comm
  · rw [if_neg h, if_pos (by omega), Bool.eq_iff_iff, prefF_iff, sEq_iff]
    constructor
    · intro hp
      exact ba_inj (List.prefix_nil.1 hp)
    · rintro e
      rw [e]
      exact List.prefix_refl _
theorem some_up {S : List (List Lb)} (hS : ∀ s ∈ S, rightF s = true) {m : Mt} (hop : 0 ≤ m.op ∧ m.op ≤ 3) {i : Nat} (hi : i < S.length) :
    (((valsI (ixF S) m.name).any fun v => yesF m v && saysB S i m.name v) || (sEq m.value ⟨#[]⟩ && ((valsI (ixF S) m.name).any (fun v => true && saysB S i m.name v) == false))) = yesF m (lgetF (S.getD i []) m.name) := by
  rw [says_any hS m.name (yesF m) hi, says_any hS m.name (fun _ => true) hi, Bool.and_true]
  cases hh : hasB S i m.name with
  | true => simp
  | false =>
    rw [get_has hh, yes_empty hop]
    simp
theorem lone_yes {l : List Lb} {m : Mt} (hop : 0 ≤ m.op ∧ m.op ≤ 3) : loneF l m = if m.op = 0 ∨ m.op = 2 then yesF m (lgetF l m.name) else !yesF m (lgetF l m.name) := by
  unfold loneF yesF
  by_cases h0 : m.op = 0
  · simp [h0]
  · by_cases h1 : m.op = 1
    · simp [h1]
    · by_cases h2 : m.op = 2
      · simp [h2]
      · obtain h3 : m.op = 3 := by omega
        simp [h3]
def cntU (p : Nat → Bool) (i : Nat) : Nat := ((List.range i).filter p).length
theorem cnt_step (p : Nat → Bool) (i : Nat) : cntU p (i + 1) = cntU p i + if p i = true then 1 else 0 := by
  unfold cntU
  rw [List.range_succ, List.filter_append, List.length_append, List.filter_cons]
  cases p i <;> rfl
theorem cnt_le (p : Nat → Bool) (i : Nat) : cntU p i ≤ i := Nat.le_trans (List.length_filter_le _ _) (by simp)
theorem cnt_len (N : Nat) (p : Nat → Bool) : cntU p N = (upL N p).length := by simp [cntU, upL]
theorem upL_at {N : Nat} {p : Nat → Bool} {i : Nat} (h : i < N) (hp : p i = true) : (upL N p)[cntU p i]? = some (i : Int) := by
  unfold upL cntU
  obtain ⟨k, rfl⟩ : ∃ k, N = i + (1 + k) := ⟨N - i - 1, by omega⟩
  rw [List.range_add, List.filter_append, List.map_append, List.getElem?_append_right (by simp)]
  simp only [List.length_map, Nat.sub_self]
  rw [List.range_add]
  simp [List.range_succ, hp]
def LenLe (K : Nat) (L : Ix) : Prop := L.length ≤ K ∧ ∀ x ∈ L, x.2.length ≤ K
theorem LenLe.add {K : Nat} {L : Ix} (h : LenLe K L) (i : Nat) (y : Lb) : LenLe (K + 1) (addI i L y) := by
  refine ⟨Nat.le_trans (keysA_len _ _ _ _) (by have := h.1; omega), fun x hx => ?_⟩
  rcases mem_modA hx with hx | ⟨a, rfl, rfl | ha⟩
  · have := h.2 x hx; omega
  · exact Nat.le_trans (keysA_len _ _ _ _) (by simp)
  · exact Nat.le_trans (keysA_len _ _ _ _) (by have := h.2 _ ha; simp at this; omega)
theorem LenLe.fold {i : Nat} : ∀ {l : List Lb} {K : Nat} {L : Ix}, LenLe K L → LenLe (K + l.length) (l.foldl (addI i) L)
  | [], _, _, h => h
  | y :: r, K, L, h => by
    have := LenLe.fold (i := i) (l := r) (h.add i y)
    rw [List.foldl_cons]
    simp only [List.length_cons]
    rwa [show K + (r.length + 1) = K + 1 + r.length by omega]
theorem ixF_len (B : Nat) : ∀ (S : List (List Lb)), (∀ s ∈ S, s.length ≤ B) → LenLe (S.length * B) (ixF S) := by
  intro S
  induction hn : S.length generalizing S with
  | zero =>
    intro _
    obtain rfl := List.length_eq_zero_iff.1 hn
    exact ⟨by simp [ixF], fun x hx => by cases hx⟩
  | succ N ih =>
    intro hS
    obtain ⟨A, s, rfl⟩ : ∃ A s, S = A ++ [s] := by
      cases hl : S.getLast? with
      | none => rw [List.getLast?_eq_none_iff] at hl; subst hl; cases hn
      | some s => exact ⟨_, s, (List.getLast?_eq_some_iff.1 hl).choose_spec⟩
    have hA : A.length = N := by simpa using hn
    have h0 := ih A hA fun x hx => hS x (by simp [hx])
    rw [ixF_snoc]
    have h1 := LenLe.fold (i := A.length) (l := s) h0
    have h2 := hS s (by simp)
    have h3 : N * B + s.length ≤ (N + 1) * B := by rw [Nat.succ_mul]; omega
    exact ⟨Nat.le_trans h1.1 h3, fun x hx => Nat.le_trans (h1.2 x hx) h3⟩
theorem vals_len {S : List (List Lb)} {K : Nat} (h : LenLe K (ixF S)) (n : ByteArray) : (valsI (ixF S) n).length ≤ K := by
  unfold valsI
  by_cases hn : n ∈ keysA (ixF S)
  · obtain ⟨l1, M, l2, hL, hn1⟩ := splitA hn
    rw [hL, getA_old hn1, keysA, List.length_map]
    exact h.2 (n, M) (by rw [hL]; simp)
  · rw [getA_new hn]; simp
theorem vals_nodup {S : List (List Lb)} (hS : ∀ s ∈ S, rightF s = true) (n : ByteArray) : (valsI (ixF S) n).Nodup := by
  unfold valsI
  by_cases hn : n ∈ keysA (ixF S)
  · obtain ⟨l1, M, l2, hL, hn1⟩ := splitA hn
    rw [hL, getA_old hn1]
    exact (ixF_ok S hS).nd2 (n, M) (by rw [hL]; simp)
  · rw [getA_new hn]; simp
theorem right_value {s : List Lb} (h : rightF s = true) {y : Lb} (hy : y ∈ s) : y.value ≠ ⟨#[]⟩ := by
  unfold rightF at h
  rw [Bool.and_eq_true, Bool.not_eq_true'] at h
  obtain ⟨i, hi, rfl⟩ := List.getElem_of_mem hy
  have := anyB_get h.1 i hi
  unfold lbad at this
  simp only [Bool.or_eq_false_iff] at this
  have h2 := this.2.2.1
  rw [show s.getD i default = s[i] by simp [hi]] at h2
  exact sEq_false.1 h2
theorem vals_mem {S : List (List Lb)} (hS : ∀ s ∈ S, rightF s = true) (n v : ByteArray) : v ∈ valsI (ixF S) n ↔ ∃ s ∈ S, lgetF s n = v ∧ v ≠ ⟨#[]⟩ := by
  rw [valsI, (ixF_ok S hS).vals]
  have hget : ∀ s ∈ S, ((⟨n, v⟩ : Lb) ∈ s ↔ (s.any fun y => sEq y.name n && sEq y.value v) = true) := fun s _ => by
    rw [List.any_eq_true]
    constructor
    · intro h; exact ⟨_, h, by simp⟩
    · rintro ⟨y, hy, h⟩
      rw [Bool.and_eq_true, sEq_iff, sEq_iff] at h
      obtain ⟨rfl, rfl⟩ := h
      exact hy
  constructor
  · rintro ⟨i, hi, s, hs, h⟩
    have hm := List.mem_of_getElem? hs
    have hne := right_value (hS s hm) h
    exact ⟨s, hm, ((says_get (hS s hm)).1 ((hget s hm).1 h)).2, hne⟩
  · rintro ⟨s, hm, e, hne⟩
    obtain ⟨i, hi, rfl⟩ := List.getElem_of_mem hm
    refine ⟨i, hi, S[i], by simp [hi], (hget _ hm).2 ((says_get (hS _ hm)).2 ⟨?_, e⟩)⟩
    cases hh : S[i].any fun y => sEq y.name n with
    | true => rfl
    | false => exact absurd (e.symm.trans (get_has hh)) hne
theorem names_some {S : List (List Lb)} (hS : ∀ s ∈ S, rightF s = true) {n : ByteArray} (h : n ∈ keysA (ixF S)) : ∃ v, v ∈ valsI (ixF S) n := by
  obtain ⟨i, v, hi, hv⟩ := ((ixF_ok S hS).names n).1 h
  exact ⟨v, ((ixF_ok S hS).vals n v).2 ⟨i, hi, hv⟩⟩
end Go.PL
/-
  Plain laws: questions: tokens, and how they are read. No program is in sight.
-/
namespace Go.PL
open Go Go.GK

structure Tok where
  kind : Int
  text : ByteArray
  pos : Int
instance : Inhabited Tok := ⟨⟨5, ⟨#[]⟩, 0⟩⟩
def mkB (s : String) : List UInt8 := s.toUTF8.data.toList
def marksL : List (List UInt8) := [[33, 61], [94, 61], [33, 94], [61], [123], [125], [91], [93], [40], [41], [44], [43], [45], [42], [47]]
def lexF (l : List UInt8) : Nat × Int := match l with
  | [] => (0, 4)
  | c :: r =>
    if letB c then ((l.takeWhile fun b => letB b || digB b).length, 1)
    else if digB c then ((l.takeWhile digB).length, 2)
    else if c.toNat = 34 then (match r.findIdx? (· == 34) with | some j => j + 2 | none => 0, 3)
    else (match marksL.find? (fun m => m.isPrefixOf l) with | some m => m.length | none => 0, 4)
def tokF (s : List UInt8) : Nat → Nat → Nat → Except (Int × Int) (List Tok)
  | 0, _, _ => .error (0, 0)
  | fuel + 1, i, cnt =>
    let i := i + ((s.drop i).takeWhile (· == 32)).length
    if s.length ≤ i then .ok [⟨5, ⟨#[]⟩, i⟩]
    else
      let (n, k) := lexF (s.drop i)
      if n = 0 then .error (3, i)
      else if (k = 2 ∧ 18 < n) ∨ 120 ≤ cnt then .error (4, i)
      else match tokF s fuel (i + n) (cnt + 1) with
        | .ok l => .ok (⟨k, ⟨((s.drop i).take n).toArray⟩, i⟩ :: l)
        | .error e => .error e

inductive Qn where
  | nil
  | mk (code num : Int) (m : List Mt) (span : Int) (by_ : List ByteArray) (l r : Qn)
abbrev PRes (α : Type) := Except (Int × Int) (α × List Tok)
def hdT (l : List Tok) : Tok := l.headD default
def failP {α : Type} (e : Int) (l : List Tok) : PRes α := .error (e, (hdT l).pos)
def isP (s : ByteArray) (l : List Tok) : Bool := sEq (hdT l).text s && decide ((hdT l).kind ≠ 3)
def takesP (s : ByteArray) (l : List Tok) : Bool := isP s l && decide ((hdT l).kind ≠ 5)
def mustP (s : ByteArray) (l : List Tok) : PRes Unit := if takesP s l then .ok ((), l.tail) else failP 3 l
def anyP (k : Int) (l : List Tok) : PRes ByteArray := if (hdT l).kind = k then .ok ((hdT l).text, l.tail) else failP 3 l
def nameP (l : List Tok) : PRes ByteArray := if (hdT l).kind = 1 ∧ nameF (hdT l).text = false then failP 4 l else anyP 1 l
def numT (s : ByteArray) : Int := s.data.toList.foldl (fun n c => n * 10 + ((c.toNat : Int) - 48)) 0
def numberP (most : Int) (l : List Tok) : PRes Int := if (hdT l).kind = 2 ∧ most < numT (hdT l).text then failP 4 l else match anyP 2 l with
  | .ok (s, l) => .ok (numT s, l)
  | .error e => .error e
def bS (l : List UInt8) : ByteArray := ⟨l.toArray⟩
def opsL : List ByteArray := [bS [61], bS [33, 61], bS [94, 61], bS [33, 94]]
def oversL : List ByteArray := [bS [99, 111, 117, 110, 116], bS [115, 117, 109], bS [109, 105, 110], bS [109, 97, 120], bS [100, 101, 108, 116, 97]]
def allsL : List ByteArray := [bS [116, 111, 116, 97, 108], bS [108, 101, 97, 115, 116], bS [109, 111, 115, 116], bS [109, 97, 110, 121]]
def matcherP (l : List Tok) : PRes Mt :=
  match nameP l with
  | .error e => .error e
  | .ok (n, l) => match opsL.findIdx? fun s => isP s l with
    | none => failP 3 l
    | some k => match mustP (opsL.getD k ⟨#[]⟩) l with
      | .error e => .error e
      | .ok (_, l) => match anyP 3 l with
        | .error e => .error e
        | .ok (s, l') => if valueF (s.extract 1 (s.size - 1)) then .ok (⟨n, k, s.extract 1 (s.size - 1)⟩, l') else failP 4 l
def matchersL : Nat → List Mt → List Tok → PRes (List Mt)
  | 0, _, _ => .error (0, 0)
  | f + 1, acc, l =>
    if takesP (bS [125]) l then .ok (acc, l.tail)
    else match (if acc.length = 0 then .ok ((), l) else mustP (bS [44]) l) with
      | .error e => .error e
      | .ok (_, l) => if 8 ≤ acc.length then failP 4 l else match matcherP l with
        | .error e => .error e
        | .ok (m, l) => matchersL f (acc ++ [m]) l
def matchersP (l : List Tok) : PRes (List Mt) := match mustP (bS [123]) l with
  | .error e => .error e
  | .ok (_, l) => matchersL (l.length + 1) [] l
def namesL : Nat → List ByteArray → List Tok → PRes (List ByteArray)
  | 0, _, _ => .error (0, 0)
  | f + 1, acc, l => if 8 ≤ acc.length then failP 4 l else match nameP l with
    | .error e => .error e
    | .ok (s, l) => if takesP (bS [44]) l then namesL f (acc ++ [s]) l.tail else .ok (acc ++ [s], l)
mutual
def oneP : Nat → Nat → List Tok → PRes Qn
  | 0, _, _ => .error (0, 0)
  | f + 1, n, l =>
    if 8 < n then failP 4 l
    else if takesP (bS [45]) l then (match oneP f (n + 1) l.tail with
      | .error e => .error e
      | .ok (q, l) => .ok (.mk 12 0 [] 0 [] q .nil, l))
    else if takesP (bS [40]) l then (match sumP f (n + 1) l.tail with
      | .error e => .error e
      | .ok (q, l) => match mustP (bS [41]) l with
        | .error e => .error e
        | .ok (_, l) => .ok (q, l))
    else if (hdT l).kind = 2 then (match numberP 9223372036854775807 l with
      | .error e => .error e
      | .ok (k, l) => .ok (.mk 1 k [] 0 [] .nil .nil, l))
    else if isP (bS [123]) l then (match matchersP l with
      | .error e => .error e
      | .ok (m, l) => .ok (.mk 2 0 m 300 [] .nil .nil, l))
    else match oversL.findIdx? fun s => isP s l with
      | some k => (match mustP (oversL.getD k ⟨#[]⟩) l with
        | .error e => .error e
        | .ok (_, l) => match mustP (bS [40]) l with
          | .error e => .error e
          | .ok (_, l) => match matchersP l with
            | .error e => .error e
            | .ok (m, l) => match mustP (bS [91]) l with
              | .error e => .error e
              | .ok (_, l) => match numberP 1099511627776 l with
                | .error e => .error e
                | .ok (sp, l) => match mustP (bS [93]) l with
                  | .error e => .error e
                  | .ok (_, l) => match mustP (bS [41]) l with
                    | .error e => .error e
                    | .ok (_, l) => .ok (.mk (3 + k) 0 m (if sp < 1 then 1 else sp) [] .nil .nil, l))
      | none => match allsL.findIdx? fun s => isP s l with
        | none => failP 3 l
        | some k => match mustP (allsL.getD k ⟨#[]⟩) l with
          | .error e => .error e
          | .ok (_, l) => match mustP (bS [40]) l with
            | .error e => .error e
            | .ok (_, l) => match sumP f (n + 1) l with
              | .error e => .error e
              | .ok (q, l) => match mustP (bS [41]) l with
                | .error e => .error e
                | .ok (_, l) => if takesP (bS [98, 121]) l then (match mustP (bS [40]) l.tail with
                    | .error e => .error e
                    | .ok (_, l) => match namesL (l.length + 1) [] l with
                      | .error e => .error e
                      | .ok (ns, l) => match mustP (bS [41]) l with
                        | .error e => .error e
                        | .ok (_, l) => .ok (.mk (8 + k) 0 [] 0 ns q .nil, l))
                  else .ok (.mk (8 + k) 0 [] 0 [] q .nil, l)
def productL : Nat → Nat → Qn → List Tok → PRes Qn
  | 0, _, _, _ => .error (0, 0)
  | f + 1, n, q, l =>
    if takesP (bS [42]) l then (match oneP f n l.tail with
      | .error e => .error e
      | .ok (r, l) => productL f n (.mk 15 0 [] 0 [] q r) l)
    else if takesP (bS [47]) l then (match oneP f n l.tail with
      | .error e => .error e
      | .ok (r, l) => productL f n (.mk 16 0 [] 0 [] q r) l)
    else .ok (q, l)
def productP : Nat → Nat → List Tok → PRes Qn
  | 0, _, _ => .error (0, 0)
  | f + 1, n, l => match oneP f n l with
    | .error e => .error e
    | .ok (q, l) => productL f n q l
def sumL : Nat → Nat → Qn → List Tok → PRes Qn
  | 0, _, _, _ => .error (0, 0)
  | f + 1, n, q, l =>
    if takesP (bS [43]) l then (match productP f n l.tail with
      | .error e => .error e
      | .ok (r, l) => sumL f n (.mk 13 0 [] 0 [] q r) l)
    else if takesP (bS [45]) l then (match productP f n l.tail with
      | .error e => .error e
      | .ok (r, l) => sumL f n (.mk 14 0 [] 0 [] q r) l)
    else .ok (q, l)
def sumP : Nat → Nat → List Tok → PRes Qn
  | 0, _, _ => .error (0, 0)
  | f + 1, n, l => match productP f n l with
    | .error e => .error e
    | .ok (q, l) => sumL f n q l
end
end Go.PL
/-
  Plain laws: questions as rows of lexemes, and how these are read as tokens. No program is in sight.
-/
namespace Go.PL
open Go Go.GK

structure Lx where
  pre : Nat
  text : List UInt8
  kind : Int
  post : Nat
def spc (n : Nat) : List UInt8 := List.replicate n 32
def Lx.bytes (x : Lx) : List UInt8 := spc x.pre ++ x.text ++ spc x.post
def bytesL (l : List Lx) : List UInt8 := l.flatMap Lx.bytes
def Lx.st (x : Lx) : Int × ByteArray := (x.kind, bS x.text)
def Tok.st (t : Tok) : Int × ByteArray := (t.kind, t.text)
def wL (s : List UInt8) : Lx := ⟨0, s, 1, 0⟩
def dL (s : List UInt8) : Lx := ⟨0, s, 2, 0⟩
def qL (v : List UInt8) : Lx := ⟨0, 34 :: v ++ [34], 3, 0⟩
def mL (s : List UInt8) : Lx := ⟨0, s, 4, 0⟩
def TxOk (k : Int) (t : List UInt8) : Prop :=
  (k = 1 ∧ ∃ c r, t = c :: r ∧ letB c = true ∧ ∀ b ∈ r, (letB b || digB b) = true) ∨
  (k = 2 ∧ t ≠ [] ∧ t.length ≤ 18 ∧ ∀ b ∈ t, digB b = true) ∨
  (k = 3 ∧ ∃ v, t = 34 :: v ++ [34] ∧ ∀ b ∈ v, b.toNat ≠ 34) ∨
  (k = 4 ∧ t ∈ marksL)
def Lx.Ok (x : Lx) : Prop := TxOk x.kind x.text

theorem let_not_dig {c : UInt8} (h : letB c = true) : digB c = false := by
  simp [letB] at h
  simp [digB]
  omega
theorem let_ne {c : UInt8} (h : letB c = true) : c.toNat ≠ 34 ∧ c ≠ 32 := by
  have : c ≠ 32 := by rintro rfl; revert h; decide
  simp [letB] at h
  exact ⟨by omega, this⟩
theorem dig_ne {c : UInt8} (h : digB c = true) : c.toNat ≠ 34 ∧ c ≠ 32 ∧ letB c = false := by
  have : c ≠ 32 := by rintro rfl; revert h; decide
  simp [digB] at h
  refine ⟨by omega, this, ?_⟩
  simp [letB]
  omega
theorem tw_all {p : UInt8 → Bool} {l r : List UInt8} (h : ∀ b ∈ l, p b = true) (hr : ∀ c, r.head? = some c → p c = false) : (l ++ r).takeWhile p = l := by
  induction l with
  | nil =>
    cases r with
    | nil => rfl
    | cons c r => simp [hr c rfl]
  | cons b l ih =>
    simp only [List.cons_append, List.takeWhile, h b List.mem_cons_self]
    rw [ih fun b hb => h b (List.mem_cons_of_mem _ hb)]
theorem marks_ne {t : List UInt8} (h : t ∈ marksL) : ∃ c r, t = c :: r ∧ letB c = false ∧ digB c = false ∧ c ≠ 34 ∧ c ≠ 32 ∧ c.toNat ≠ 34 := by
  simp only [marksL, List.mem_cons, List.not_mem_nil, or_false] at h
  rcases h with rfl | rfl | rfl | rfl | rfl | rfl | rfl | rfl | rfl | rfl | rfl | rfl | rfl | rfl | rfl <;> exact ⟨_, _, rfl, by decide, by decide, by decide, by decide, by decide⟩
theorem marks_find {t : List UInt8} (h : t ∈ marksL) (r : List UInt8) : marksL.find? (fun m => m.isPrefixOf (t ++ r)) = some t := by
  simp only [marksL, List.mem_cons, List.not_mem_nil, or_false] at h
  rcases h with rfl | rfl | rfl | rfl | rfl | rfl | rfl | rfl | rfl | rfl | rfl | rfl | rfl | rfl | rfl <;> simp [marksL, List.find?, List.isPrefixOf]
theorem find_q {v r : List UInt8} (h : ∀ b ∈ v, b.toNat ≠ 34) : (v ++ 34 :: r).findIdx? (· == 34) = some v.length := by
  induction v with
  | nil => simp [List.findIdx?_cons]
  | cons b v ih =>
    have hb : (b == 34) = false := by
      cases hh : b == 34 with
      | false => rfl
      | true => exact absurd (by rw [eq_of_beq hh]; rfl) (h b List.mem_cons_self)
    rw [List.cons_append, List.findIdx?_cons, hb, ih fun b hb => h b (List.mem_cons_of_mem _ hb)]
    simp
theorem lex_ok {k : Int} {t : List UInt8} (h : TxOk k t) (r : List UInt8) (hr : k = 1 → ∀ c, r.head? = some c → (letB c || digB c) = false) (hd : k = 2 → ∀ c, r.head? = some c → digB c = false) :
    lexF (t ++ r) = (t.length, k) ∧ t ≠ [] ∧ t.head? ≠ some 32 ∧ (k = 2 → t.length ≤ 18) := by
  rcases h with ⟨rfl, c, l, rfl, hc, hl⟩ | ⟨rfl, hne, h18, hl⟩ | ⟨rfl, v, rfl, hv⟩ | ⟨rfl, hm⟩
  · refine ⟨?_, by simp, by simpa using (let_ne hc).2, by simp⟩
    have := tw_all (p := fun b => letB b || digB b) (l := c :: l) (r := r) (fun b hb => by
      rcases List.mem_cons.1 hb with rfl | hb
      · simp [hc]
      · exact hl b hb) (hr rfl)
    simp only [List.cons_append] at this ⊢
    simp only [lexF, hc, if_true, this]
  · cases t with
    | nil => exact absurd rfl hne
    | cons c l =>
      have hc := hl c List.mem_cons_self
      refine ⟨?_, by simp, by simpa using (dig_ne hc).2.1, fun _ => h18⟩
      have := tw_all (p := digB) (l := c :: l) (r := r) hl (hd rfl)
      simp only [List.cons_append] at this ⊢
      simp only [lexF, (dig_ne hc).2.2, hc, if_true, Bool.false_eq_true, if_false, this]
  · refine ⟨?_, by simp, by simp, by simp⟩
    have e : 34 :: v ++ [34] ++ r = 34 :: (v ++ 34 :: r) := by simp
    rw [e]
    simp only [lexF, find_q hv]
    simp [letB, digB]
  · obtain ⟨c, l, e, h1, h2, h3, h4, h5⟩ := marks_ne hm
    refine ⟨?_, by simp [e], by simpa [e] using h4, by simp⟩
    have := marks_find hm r
    subst e
    simp only [List.cons_append] at this ⊢
    simp only [lexF, h1, h2, h5, Bool.false_eq_true, if_false, this]

def lk (x y : Lx) : Prop := (x.kind = 1 ∨ x.kind = 2) → x.post ≠ 0 ∨ y.pre ≠ 0 ∨ y.kind = 4
def chn : List Lx → Prop
  | x :: y :: r => lk x y ∧ chn (y :: r)
  | _ => True
theorem chn_cons {x : Lx} {l : List Lx} (h : x.kind = 4 ∨ x.kind = 3 ∨ x.post ≠ 0) (hl : chn l) : chn (x :: l) := by
  cases l with
  | nil => trivial
  | cons y r =>
    refine ⟨fun hx => ?_, hl⟩
    rcases h with h | h | h
    · omega
    · omega
    · exact .inl h
theorem chn_mark {x y : Lx} {l : List Lx} (h : y.kind = 4 ∨ y.pre ≠ 0) (hl : chn (y :: l)) : chn (x :: y :: l) :=
  ⟨fun _ => by rcases h with h | h <;> simp [h], hl⟩
theorem chn_app {a : List Lx} {y : Lx} {b : List Lx} (ha : chn a) (h : y.kind = 4 ∨ y.pre ≠ 0) (hb : chn (y :: b)) : chn (a ++ y :: b) := by
  induction a with
  | nil => exact hb
  | cons x r ih =>
    cases r with
    | nil => exact chn_mark h hb
    | cons z r => exact ⟨ha.1, ih ha.2⟩

theorem bytesL_cons (x : Lx) (l : List Lx) : bytesL (x :: l) = x.bytes ++ bytesL l := rfl
theorem bytesL_append (a b : List Lx) : bytesL (a ++ b) = bytesL a ++ bytesL b := by simp [bytesL]
theorem spc_head {n : Nat} {l : List UInt8} (h : n ≠ 0) : (spc n ++ l).head? = some 32 := by
  cases n with
  | zero => exact absurd rfl h
  | succ n => rfl
theorem spc_add (a b : Nat) : spc (a + b) = spc a ++ spc b := by simp [spc, List.replicate_append_replicate]
theorem tw_spc (a : Nat) {l : List UInt8} (h : l.head? ≠ some 32) : ((spc a ++ l).takeWhile (· == 32)).length = a := by
  rw [tw_all (p := (· == 32)) (fun b hb => by simp [spc] at hb; simp [hb.2]) (fun c hc => by
    cases h' : c == 32 with
    | false => rfl
    | true => exact absurd (by rw [hc, eq_of_beq h']) h)]
  simp [spc]
theorem sp_head {p : UInt8 → Bool} (hp : p 32 = false) {x : Lx} {l : List Lx} (hc : chn (x :: l)) (hx : x.kind = 1 ∨ x.kind = 2) (hm : ∀ t c, t ∈ marksL → t.head? = some c → p c = false) (hl : ∀ y ∈ l, y.Ok) :
    ∀ c, (spc x.post ++ bytesL l).head? = some c → p c = false := by
  intro c hcc
  by_cases h0 : x.post = 0
  · cases l with
    | nil => rw [h0] at hcc; cases hcc
    | cons y r =>
      rcases hc.1 hx with h | h | h
      · exact absurd h0 h
      · rw [h0, bytesL_cons] at hcc
        have : (y.bytes ++ bytesL r).head? = some 32 := by simp only [Lx.bytes, List.append_assoc]; exact spc_head h
        have e : (spc 0 ++ (y.bytes ++ bytesL r)) = y.bytes ++ bytesL r := rfl
        rw [e, this] at hcc
        cases hcc
        exact hp
      · by_cases hy : y.pre = 0
        · rcases hl y List.mem_cons_self with h' | h' | h' | ⟨_, h'⟩
          · have := h'.1; omega
          · have := h'.1; omega
          · have := h'.1; omega
          · obtain ⟨c', r', e, -⟩ := marks_ne h'
            refine hm y.text c h' ?_
            rw [h0, bytesL_cons, Lx.bytes, hy] at hcc
            rw [e] at hcc ⊢
            exact hcc
        · rw [h0, bytesL_cons] at hcc
          have : (y.bytes ++ bytesL r).head? = some 32 := by simp only [Lx.bytes, List.append_assoc]; exact spc_head hy
          have e : (spc 0 ++ (y.bytes ++ bytesL r)) = y.bytes ++ bytesL r := rfl
          rw [e, this] at hcc
          cases hcc
          exact hp
  · rw [spc_head h0] at hcc
    cases hcc
    exact hp
theorem tok_ok (s : List UInt8) : ∀ (L : List Lx) (fuel i cnt a : Nat), (∀ x ∈ L, x.Ok) → chn L → s.drop i = spc a ++ bytesL L → i ≤ s.length → cnt + L.length ≤ 120 → L.length < fuel →
    ∃ l, tokF s fuel i cnt = .ok l ∧ l.map Tok.st = L.map Lx.st ++ [(5, bS [])]
  | [], 0, _, _, _, _, _, _, _, _, hf => by simp at hf
  | [], fuel + 1, i, cnt, a, _, _, hs, hi, _, _ => by
    have hlen := congrArg List.length hs
    simp [bytesL, spc] at hlen
    have h1 : ((s.drop i).takeWhile (· == 32)).length = a := by
      rw [hs]
      exact tw_spc a (by simp [bytesL])
    refine ⟨[⟨5, ⟨#[]⟩, (i + a : Nat)⟩], ?_, by simp [Tok.st, bS]⟩
    simp only [tokF, h1]
    rw [if_pos (by omega)]
  | x :: r, 0, _, _, _, _, _, _, _, _, hf => by simp at hf
  | x :: r, fuel + 1, i, cnt, a, hok, hc, hs, hi, hn, hf => by
    have hx := hok x List.mem_cons_self
    have hr : ∀ y ∈ r, y.Ok := fun y hy => hok y (List.mem_cons_of_mem _ hy)
    have hcr : chn r := by
      cases r with
      | nil => trivial
      | cons y r => exact hc.2
    obtain ⟨h1, h2, h3, h4⟩ := lex_ok hx (spc x.post ++ bytesL r) (fun hk => sp_head (p := fun c => letB c || digB c) (by decide) hc (.inl hk) (fun t c ht hh => by
      obtain ⟨c', r', e, g1, g2, -⟩ := marks_ne ht
      rw [e] at hh
      cases hh
      simp [g1, g2]) hr) (fun hk => sp_head (p := digB) (by decide) hc (.inr hk) (fun t c ht hh => by
      obtain ⟨c', r', e, g1, g2, -⟩ := marks_ne ht
      rw [e] at hh
      cases hh
      exact g2) hr)
    have hs2 : s.drop i = spc (a + x.pre) ++ (x.text ++ (spc x.post ++ bytesL r)) := by
      rw [hs, bytesL_cons, Lx.bytes, spc_add]
      simp
    have hh : (x.text ++ (spc x.post ++ bytesL r)).head? ≠ some 32 := by
      cases ht : x.text with
      | nil => exact absurd ht h2
      | cons c t => rw [ht] at h3; simpa using h3
    have h5 : ((s.drop i).takeWhile (· == 32)).length = a + x.pre := by
      rw [hs2]
      exact tw_spc _ hh
    have hd : s.drop (i + (a + x.pre)) = x.text ++ (spc x.post ++ bytesL r) := by
      rw [← List.drop_drop, hs2]
      have : (spc (a + x.pre)).length = a + x.pre := by simp [spc]
      rw [List.drop_append_of_le_length (by omega), List.drop_of_length_le (by omega)]
      rfl
    have hpos : 0 < x.text.length := by cases ht : x.text with | nil => exact absurd ht h2 | cons c t => simp
    have hlen := congrArg List.length hd
    simp only [List.length_drop, List.length_append] at hlen
    have hd2 : s.drop (i + (a + x.pre) + x.text.length) = spc x.post ++ bytesL r := by
      rw [← List.drop_drop, hd]
      simp
    obtain ⟨l, e1, e2⟩ := tok_ok s r fuel (i + (a + x.pre) + x.text.length) (cnt + 1) x.post hr hcr hd2 (by omega) (by simp at hn; omega) (by simp at hf; omega)
    refine ⟨⟨x.kind, ⟨(x.text).toArray⟩, (i + (a + x.pre) : Nat)⟩ :: l, ?_, ?_⟩
    · simp only [tokF, h5]
      rw [if_neg (by omega)]
      rw [hd, h1]
      simp only
      rw [if_neg (by omega), if_neg (by
        simp at hn
        intro h
        rcases h with h | h
        · have := h4 h.1
          omega
        · omega)]
      rw [e1]
      simp
    · simp [e2, Tok.st, Lx.st, bS]

def Tok.Ok (t : Tok) : Prop := TxOk t.kind t.text.data.toList ∨ (t.kind = 5 ∧ t.text = ⟨#[]⟩)
end Go.PL
/-
  Contracts: questions: the parser's small methods.
-/
namespace Go.Proofs.YtihakhdinkkdmaaGreatDoor
open Go.GK Go.RowKit Go.PL
set_option maxRecDepth 100000
def tokR (t : Tok) : List GV := [gi t.kind, gs t.text, gi t.pos]
abbrev tks (l : List Tok) : GV := .sl 3 (l.map tokR)
abbrev ps (l : List Tok) : Heap := [(0, .blk 61 [tks l])]
abbrev wrongG (e p : Int) : GV := .ifc 88 (.agg [.ifc 85 (.r [gi e, gi p])])
theorem fail_hx (t : Tok) (l : List Tok) (e : Int) : Hx pg 23 1 [.p 0 0, gi e] (ps (t :: l)) (fun _ _ _ => False) (fun g => g = wrongG e t.pos) := by
  refine Hx.ofJ pg_ok Tryz.func23 rfl Tryz.ntmps23 rfl Tryz.results23 Tryz.call23 fun H0 S0 w0 h0 g0 => ?_
  refine VM 14 ?_
  refine ⟨tokR t, by decide, rfl, ?_⟩
  show JK _ _ _ _
  refine JK.freezeB 1 rfl rfl ?_
  refine JK.throw rfl rfl rfl rfl ?_
  intro v X σ n hX
  exact ⟨v, _, X, rfl, hX, rfl, rfl⟩
def okQ {α : Type} (P : PRes α) (G : α → GV) (g : GV) (σ : Heap) (n : Nat) : Prop := ∃ a l', P = .ok (a, l') ∧ g = G a ∧ σ = ps l' ∧ n = 1
def erR {α : Type} (P : PRes α) (g : GV) : Prop := ∃ e p, P = .error (e, p) ∧ g = wrongG e p
abbrev Thr (T : Post) (R' : GV → Prop) : Prop := ∀ (v : Value) (g : GV) (X : Nat) (ρ : Env) (σ : Heap) (n : Nat), R' g → idb 0 g = true → hlook σ X = some (.ab (panA v g)) → T (thrown v) ⟨ρ, σ, n⟩
section
variable {N n0 : Nat} {H0 : Hid} {S0 : List Nat} {w0 : World} {h0 : H0.n = n0} {g0 : GlOk pg H0} {T : Post} {k : List It} {s : St}
theorem GOX (R' : GV → Prop) {all : List Oper} {o : Oper} {rest : List Oper} {f : FuncId} {m : Nat} {cargs gs : List GV} {σc : Heap} {Q : GV → Heap → Nat → Prop} {R : GV → Prop} (hr : Hx pg f m cargs σc Q R) (hR : ∀ g, R g → R' g) (r : Nat → Nat) (hk : callG pg all s.ρ o = some (f, gs)) (hargs : gs = renL r cargs) (hσ : leσ r σc s.σ)
    (chk : (idbL m cargs && idbH m σc && distB (hids r σc)) = true) (hrn : ∀ i, i < m → r i < s.n)
    (h : ∀ g σ' n', Q g σ' n' → nf (ren (sh r m s.n) g) fun g => nfH (renH (sh r m s.n) σ' ++ hrest (hids r σc) s.σ) fun σ => nfN (s.n + (n' - m)) fun n => dputV N s.ρ o.dst g fun ρ' => JK ⟨pg, N, n0, H0, S0, w0, h0, g0⟩ T (.ops false all rest :: k) ⟨ρ', σ, n⟩)
    (hT : Thr T R' := by exact fun v g X _ _ _ h1 h2 h3 => ⟨v, g, X, rfl, h3, h1, h2⟩) :
    JK ⟨pg, N, n0, H0, S0, w0, h0, g0⟩ T (.ops false all (o :: rest) :: k) s :=
  JK.callX hr r hk hargs hσ chk hrn (fun g v X _ _ hg hb hX => hT v g X _ _ _ (hR g hg) hb hX) h
theorem DRAWX {id : Nat} {ops : Array Oper} (M : List Nat) (e : Bool) (order : List (Nat × Bool)) (hB : (Region.noSelect ops && ordB ops.toList e order (List.replicate ops.toList.length false)) = true)
    (h : rvc ⟨pg, N, n0, H0, S0, w0, h0, g0⟩ T ops.toList k (hrest M s.σ ++ lns (hsel M s.σ)) e order ops.toList.length (List.replicate ops.toList.length false) s.ρ ⟨s.ρ, hsel M s.σ, s.n⟩)
    (hT : ∀ ch ρ σ n, T (.panic ch) ⟨ρ, σ, n⟩ → T (.panic ch) ⟨[], σ, n⟩ := by exact fun _ _ _ _ h => h) : JK ⟨pg, N, n0, H0, S0, w0, h0, g0⟩ T (.code (.region id ops true) :: k) s := by
  simp only [Bool.and_eq_true] at hB
  exact JK.draw M pg_ok (RA.runX pg_ok hB.1 hT order hB.2 h)
theorem RGOX (R' : GV → Prop) {ops : List Oper} {σs : Heap} {ρq : Env} {fuel : Nat} {listed : List Bool} (i : Nat) (e : Bool) (order : List (Nat × Bool)) {o : Oper} {f : FuncId} {m : Nat} {cargs gs : List GV} {σc : Heap} {Q : GV → Heap → Nat → Prop} {R : GV → Prop} (hr : Hx pg f m cargs σc Q R) (hR : ∀ g, R g → R' g) (r : Nat → Nat) (hi : ops[i]? = some o) (hk : callG pg ops s.ρ o = some (f, gs)) (hargs : gs = renL r cargs) (hσ : leσ r σc s.σ)
    (chk : (idbL m cargs && idbH m σc && distB (hids r σc)) = true) (hrn : ∀ i, i < m → r i < s.n)
    (hB : (Region.noSelect ops.toArray && eqB (Region.ready .any ops.toArray listed.toArray) [i] && ordB ops e order (listed.set i true)) = true)
    (h : ∀ g σ' n', Q g σ' n' → nf (ren (sh r m s.n) g) fun g => nfH (renH (sh r m s.n) σ' ++ hrest (hids r σc) s.σ) fun σ => nfN (s.n + (n' - m)) fun n => nfE (qput ρq o.dst g) fun ρq => dputV N s.ρ o.dst g fun ρ' => rvc ⟨pg, N, n0, H0, S0, w0, h0, g0⟩ T ops k σs e order fuel (listed.set i true) ρq ⟨ρ', σ, n⟩)
    (hT : Thr T R' := by exact fun v g X _ _ _ h1 h2 h3 => ⟨v, g, X, rfl, h3, h1, h2⟩)
    (hTb : ∀ ch ρ σ n, T (.panic ch) ⟨ρ, σ, n⟩ → T (.panic ch) ⟨[], σ, n⟩ := by exact fun _ _ _ _ h => h) : RA ⟨pg, N, n0, H0, S0, w0, h0, g0⟩ T ops k σs ρq (fuel + 1) listed s := by
  simp only [Bool.and_eq_true] at hB
  refine RA.callX i hr r hi (eqB_eq hB.1.2) hk hargs hσ chk hrn (fun g v X _ _ hg hb hX => hT v g X _ _ _ (hR g hg) hb hX) fun g σ' n' hq => ?_
  have := h g σ' n' hq
  rw [nf_eq, nfH_eq, nfN_eq, nfE_eq] at this ⊢
  revert this
  cases o.dst with
  | none => exact fun h => RA.runX pg_ok hB.1.1 hTb order hB.2 h
  | some d =>
    simp only [dputV, dput]
    cases Nat.blt d N with
    | false => exact fun h => h
    | true => simp only [cond_true, nf_eq]; exact fun h => RA.runX pg_ok hB.1.1 hTb order hB.2 h
end
theorem is_hf (t : Tok) (l : List Tok) (s : ByteArray) : Hf pg 58 1 [.p 0 0, gs s] (ps (t :: l)) (fun g σ n => g = .b (isP s (t :: l)) ∧ σ = ps (t :: l) ∧ n = 1) := by
  refine Hf.eqG (R := fun σ n => σ = ps (t :: l) ∧ n = 1) ?_
  refine Hf.of pg_ok Tryz.func58 rfl Tryz.ntmps58 rfl Tryz.results58 Tryz.call58 fun H0 S0 w0 h0 g0 => ?_
  refine ⟨tokR t, by decide, rfl, ?_⟩
  rcases tf (sEq t.text s) with h | h
  · refine p1 ?_ h
    refine ⟨tokR t, by decide, rfl, ?_⟩
    repeat (first | refine p1 ?_ | refine p2 ?_ | refine p3 ?_ | refine p4 ?_)
    refine ⟨?_, rfl, rfl⟩
    show (t.kind != 3) = isP s (t :: l)
    simp only [isP, hdT, List.headD_cons, h, Bool.true_and]
    rw [Bool.eq_iff_iff]
    exact ⟨fun h => decide_eq_true (by simpa using h), fun h => by simpa using of_decide_eq_true h⟩
  · refine p2 ?_ h
    repeat (first | refine p1 ?_ | refine p2 ?_ | refine p3 ?_ | refine p4 ?_)
    refine ⟨?_, rfl, rfl⟩
    show false = isP s (t :: l)
    simp [isP, hdT, h]
theorem tl_eq (t : Tok) (l : List Tok) : ([(0, .blk 61 [.sl 3 ((((t :: l).map tokR).take (((t :: l).map tokR).length : Int).toNat).drop (1 : Int).toNat)])] : Heap) = ps l :=
  congrArg (fun g => match g with | some g => ([(0, .blk 61 [g])] : Heap) | none => []) (tail_map 3 tokR t l)
theorem takesP_iff {s : ByteArray} {t : Tok} {l : List Tok} : takesP s (t :: l) = true ↔ isP s (t :: l) = true ∧ t.kind ≠ 5 := by
  simp [takesP, hdT]
theorem takes_yes (t : Tok) (l : List Tok) (s : ByteArray) (h : takesP s (t :: l) = true) : Hf pg 43 1 [.p 0 0, gs s] (ps (t :: l)) (fun g σ n => g = .v (.bool true) ∧ σ = ps l ∧ n = 1) := by
  obtain ⟨h1, h2⟩ := takesP_iff.1 h
  refine Hf.eqG (R := fun σ n => σ = ps l ∧ n = 1) ?_
  refine Hf.of pg_ok Tryz.func43 rfl Tryz.ntmps43 rfl Tryz.results43 Tryz.call43 fun H0 S0 w0 h0 g0 => ?_
  refine GOH (is_hf t l s) id rfl rfl ⟨rfl, trivial⟩ rfl (id_lt rfl) ?_
  rintro g σ' n' ⟨rfl, rfl, rfl⟩
  refine p1 ?_ h1
  refine ⟨tokR t, by decide, rfl, ?_⟩
  have hk : (t.kind != 5) = true := by simp [h2]
  refine p1 ?_ hk
  refine ⟨by decide, by simp; omega, by simp, ?_⟩
  exact ⟨hk, tl_eq t l, rfl⟩
theorem takes_no (t : Tok) (l : List Tok) (s : ByteArray) (h : takesP s (t :: l) = false) : Hf pg 43 1 [.p 0 0, gs s] (ps (t :: l)) (fun g σ n => g = .v (.bool false) ∧ σ = ps (t :: l) ∧ n = 1) := by
  refine Hf.eqG (R := fun σ n => σ = ps (t :: l) ∧ n = 1) ?_
  refine Hf.of pg_ok Tryz.func43 rfl Tryz.ntmps43 rfl Tryz.results43 Tryz.call43 fun H0 S0 w0 h0 g0 => ?_
  refine GOH (is_hf t l s) id rfl rfl ⟨rfl, trivial⟩ rfl (id_lt rfl) ?_
  rintro g σ' n' ⟨rfl, rfl, rfl⟩
  rcases tf (isP s (t :: l)) with h1 | h1
  · have h2 : t.kind = 5 := Classical.byContradiction fun hh => by rw [takesP_iff.2 ⟨h1, hh⟩] at h; cases h
    refine p1 ?_ h1
    refine ⟨tokR t, by decide, rfl, ?_⟩
    have hk : (t.kind != 5) = false := by simp [h2]
    refine p2 ?_ hk
    exact ⟨hk, rfl, rfl⟩
  · refine p2 ?_ h1
    exact ⟨rfl, rfl, rfl⟩
theorem must_hx (t : Tok) (l : List Tok) (s : ByteArray) : Hx pg 55 1 [.p 0 0, gs s] (ps (t :: l)) (fun g σ n => mustP s (t :: l) = .ok ((), l) ∧ takesP s (t :: l) = true ∧ g = .tup [] ∧ σ = ps l ∧ n = 1) (erR (mustP s (t :: l))) := by
  refine Hx.ofJ pg_ok Tryz.func55 rfl Tryz.ntmps55 rfl Tryz.results55 Tryz.call55 fun H0 S0 w0 h0 g0 => ?_
  refine V ?_
  rcases tf (takesP s (t :: l)) with h | h
  · refine GOH (takes_yes t l s h) id rfl rfl ⟨rfl, trivial⟩ rfl (id_lt rfl) ?_
    rintro g σ' n' ⟨rfl, rfl, rfl⟩
    repeat (first | refine p1 ?_ | refine p2 ?_ | refine p3 ?_ | refine p4 ?_)
    exact ⟨by simp [mustP, h], h, rfl, rfl, rfl⟩
  · refine GOH (takes_no t l s h) id rfl rfl ⟨rfl, trivial⟩ rfl (id_lt rfl) ?_
    rintro g σ' n' ⟨rfl, rfl, rfl⟩
    repeat (first | refine p1 ?_ | refine p2 ?_ | refine p3 ?_ | refine p4 ?_)
    refine GOX (erR (mustP s (t :: l))) (fail_hx t l 3) (fun g hg => ⟨3, t.pos, by simp [mustP, h, failP, hdT], hg⟩) id rfl rfl ⟨rfl, trivial⟩ rfl (id_lt rfl) ?_
    exact fun _ _ _ h => h.elim
theorem any_hx (t : Tok) (l : List Tok) (k : Int) : Hx pg 59 1 [.p 0 0, gi k] (ps (t :: l)) (fun g σ n => anyP k (t :: l) = .ok (t.text, l) ∧ t.kind = k ∧ g = gs t.text ∧ σ = ps l ∧ n = 1) (erR (anyP k (t :: l))) := by
  refine Hx.ofJ pg_ok Tryz.func59 rfl Tryz.ntmps59 rfl Tryz.results59 Tryz.call59 fun H0 S0 w0 h0 g0 => ?_
  refine V ?_
  refine ⟨tokR t, by decide, rfl, ?_⟩
  rcases tf (t.kind != k) with h | h
  · have hk : t.kind ≠ k := by simpa using h
    refine p1 ?_ h
    refine GOX (erR (anyP k (t :: l))) (fail_hx t l 3) (fun g hg => ⟨3, t.pos, by simp [anyP, failP, hdT, hk], hg⟩) id rfl rfl ⟨rfl, trivial⟩ rfl (id_lt rfl) ?_
    exact fun _ _ _ h => h.elim
  · have hk : t.kind = k := by simpa using h
    refine p2 ?_ h
    refine ⟨tokR t, by decide, rfl, ?_⟩
    refine ⟨by decide, by simp; omega, by simp, ?_⟩
    exact ⟨by simp [anyP, hdT, hk], hk, rfl, tl_eq t l, rfl⟩
theorem name_hx (t : Tok) (l : List Tok) : Hx pg 56 1 [.p 0 0] (ps (t :: l)) (fun g σ n => nameP (t :: l) = .ok (t.text, l) ∧ t.kind = 1 ∧ g = gs t.text ∧ σ = ps l ∧ n = 1) (erR (nameP (t :: l))) := by
  refine Hx.ofJ pg_ok Tryz.func56 rfl Tryz.ntmps56 rfl Tryz.results56 Tryz.call56 fun H0 S0 w0 h0 g0 => ?_
  refine V ?_
  refine ⟨tokR t, by decide, rfl, ?_⟩
  have fin : (¬ (t.kind = 1 ∧ nameF t.text = false)) → nameP (t :: l) = anyP 1 (t :: l) := fun h => if_neg h
  rcases tf (t.kind == 1) with h | h
  · have hk : t.kind = 1 := by simpa using h
    refine p1 ?_ h
    refine ⟨tokR t, by decide, rfl, ?_⟩
    refine GO (lname_rt t.text) rfl ?_
    rcases tf (nameF t.text) with h2 | h2
    · repeat (first | refine p1 ?_ | refine p2 ?_ | refine p3 ?_ | refine p4 ?_)
      refine GOX (erR (nameP (t :: l))) (any_hx t l 1) (fun g ⟨e, p, h3, h4⟩ => ⟨e, p, by rw [fin (by simp [h2])]; exact h3, h4⟩) id rfl rfl ⟨rfl, trivial⟩ rfl (id_lt rfl) ?_
      rintro g σ' n' ⟨h3, h4, rfl, rfl, rfl⟩
      refine V ?_
      exact ⟨by rw [fin (by simp [h2])]; exact h3, hk, rfl, rfl, rfl⟩
    · repeat (first | refine p1 ?_ | refine p2 ?_ | refine p3 ?_ | refine p4 ?_)
      refine GOX (erR (nameP (t :: l))) (fail_hx t l 4) (fun g hg => ⟨4, t.pos, by simp [nameP, failP, hdT, hk, h2], hg⟩) id rfl rfl ⟨rfl, trivial⟩ rfl (id_lt rfl) ?_
      exact fun _ _ _ h => h.elim
  · have hk : t.kind ≠ 1 := by simpa using h
    refine p2 ?_ h
    repeat (first | refine p1 ?_ | refine p2 ?_ | refine p3 ?_ | refine p4 ?_)
    refine GOX (erR (nameP (t :: l))) (any_hx t l 1) (fun g ⟨e, p, h3, h4⟩ => ⟨e, p, by rw [fin (by simp [hk])]; exact h3, h4⟩) id rfl rfl ⟨rfl, trivial⟩ rfl (id_lt rfl) ?_
    rintro g σ' n' ⟨h3, h4, rfl, rfl, rfl⟩
    exact absurd h4 hk
end Go.Proofs.YtihakhdinkkdmaaGreatDoor
/-
  The ghost machine: contracts of library functions of values that read variables of the package's.
-/
namespace Go.GK
open Go.RowKit
theorem Rq.callsG {p : Pg} {f : FuncId} (hc : ∀ a w, (callFunc f a).run p.P w = .ok (.enter f a) w) (vs : List Value) (Q : GV → Prop)
    (h : ∀ H w, GlOk p H → (∀ b o, H.ro b = some o → w.heap[b]? = some o) → Calls p.P f vs.toArray w fun e w' => ∃ u g, e = .returned u ∧ Below w.heap.size w w' ∧ (∀ ro, IsR ro g u) ∧ Q g ∧ idb 0 g = true) : Rq p f (vs.map .v) Q := by
  refine ⟨hc, fun H us w hn hg hcs hs => ?_⟩
  rw [cells_vals hcs]
  refine Calls.mono (h H w hg hs.ro) (fun e w' he => ?_)
  obtain ⟨u, g, rfl, hb, hi, hq, hid⟩ := he
  exact ⟨u, g, H, [], rfl, .ro (hi H.ro), hs.below hb, Fr.of_below hb, ⟨hq, hid⟩, rfl, hn⟩
theorem GlOk.cellR {p : Pg} {H : Hid} {w : World} (hg : GlOk p H) (hro : ∀ b o, H.ro b = some o → w.heap[b]? = some o) {g : Nat} {cs : List GV} (hl : look p.gl g = some (.r cs)) {j : Nat} {x : GV} (hj : cs[j]? = some x) : ∃ u, w.cell? ⟨g, j, none⟩ = some u ∧ IsR H.ro x u := by
  have h := hg g _ hl
  cases h with
  | r us h1 h2 =>
    refine ⟨us j, ?_, h2 j x hj⟩
    have := roCell_cell hro (h1 j x hj)
    rw [addr_add_none] at this
    simpa using this
theorem GlOk.vals {p : Pg} {H : Hid} {w : World} (hg : GlOk p H) (hro : ∀ b o, H.ro b = some o → w.heap[b]? = some o) {g : Nat} {vs : List Value} (hl : look p.gl g = some (.r (vs.map .v))) : ∃ ty fz, w.heap[g]? = some (.cells vs.toArray ty fz) := by
  obtain ⟨c, ty, fz, e, hz⟩ := hg.ex g _ hl
  refine ⟨ty, fz, ?_⟩
  have hc : c = vs.toArray := by
    refine Array.ext (by simpa using hz) (fun i h1 h2 => ?_)
    have h2' : i < vs.length := by simpa using h2
    obtain ⟨u, hu, hi⟩ := hg.cellR hro hl (j := i) (x := .v vs[i]) (by simp [h2'])
    cases hi
    unfold World.cell? at hu
    rw [hro _ _ e] at hu
    simp [h1] at hu
    simpa using hu
  rw [← hc]
  exact hro _ _ e
end Go.GK
/-
  DERIVED: THE SHELF's CONTRACTS AT THIS DUMP, IN PLAIN WORDS (tools/lay-plain.mjs out of 'TryzShelf.lean', which tools/lay-shelf.mjs wrote): THE SAME DECLARATIONS UNDER THE SAME NAMES: 'import', 'namespace', 'open', 'def', 'theorem' AND NOTHING ELSE: no command of the shelf's: FOR A HAND-IN. Each laying: the table of numbers ('.._ren') and one theorem, a field a fact of the dump's own or the kernel's comparison; each contract: ONE APPLICATION.
-/
namespace Go.Proofs
open Go.Shelf
def Tryz.laysM173_ren : Go.Shelf.Ren := ⟨fun | 173 => 27 | 246 => 46 | 283 => 68 | 284 => 69 | 285 => 70 | 286 => 71 | 129 => 92 | 317 => 91 | 318 => 93 | 319 => 94 | 320 => 95 | 337 => 107 | 338 => 108 | n => n, fun | 2 => 2 | 3 => 3 | 9 => 9 | 4 => 4 | 171 => 112 | 0 => 0 | 53 => 113 | 37 => 97 | 5 => 5 | 173 => 116 | 212 => 142 | 51 => 143 | 20 => 20 | 213 => 144 | 46 => 146 | 232 => 171 | 233 => 172 | n => n, fun | 17 => 6 | 18 => 8 | 19 => 9 | n => n⟩
theorem Tryz.laysM173 : Go.Proofs.LaysM.n173 Tryz.prog Tryz.laysM173_ren := {
  mixed := by kernel_rfl
  f129 := Tryz.func92.trans (congrArg some (by kernel_rfl))
  f173 := Tryz.func27.trans (congrArg some (by kernel_rfl))
  f246 := Tryz.func46.trans (congrArg some (by kernel_rfl))
  f283 := Tryz.func68.trans (congrArg some (by kernel_rfl))
  f284 := Tryz.func69.trans (congrArg some (by kernel_rfl))
  f285 := Tryz.func70.trans (congrArg some (by kernel_rfl))
  f286 := Tryz.func71.trans (congrArg some (by kernel_rfl))
  f317 := Tryz.func91.trans (congrArg some (by kernel_rfl))
  f318 := Tryz.func93.trans (congrArg some (by kernel_rfl))
  f319 := Tryz.func94.trans (congrArg some (by kernel_rfl))
  f320 := Tryz.func95.trans (congrArg some (by kernel_rfl))
  f337 := Tryz.func107.trans (congrArg some (by kernel_rfl))
  f338 := Tryz.func108.trans (congrArg some (by kernel_rfl))
  t0 := Tryz.underlying0
  a0 := Tryz.isAgg0
  z0 := Tryz.sizeOf0
  v0 := Tryz.zeroValue0
  t2 := Tryz.underlying2
  a2 := Tryz.isAgg2
  z2 := Tryz.sizeOf2
  v2 := Tryz.zeroValue2
  t3 := Tryz.underlying3
  a3 := Tryz.isAgg3
  z3 := Tryz.sizeOf3
  v3 := Tryz.zeroValue3
  t4 := Tryz.underlying4
  a4 := Tryz.isAgg4
  z4 := Tryz.sizeOf4
  v4 := Tryz.zeroValue4
  t5 := Tryz.underlying5
  a5 := Tryz.isAgg5
  z5 := Tryz.sizeOf5
  v5 := Tryz.zeroValue5
  t9 := Tryz.underlying9
  a9 := Tryz.isAgg9
  z9 := Tryz.sizeOf9
  v9 := Tryz.zeroValue9
  t20 := Tryz.underlying20
  a20 := Tryz.isAgg20
  z20 := Tryz.sizeOf20
  v20 := Tryz.zeroValue20
  t37 := Tryz.underlying97
  a37 := Tryz.isAgg97
  z37 := Tryz.sizeOf97
  v37 := Tryz.zeroValue97
  t46 := Tryz.underlying146
  a46 := Tryz.isAgg146
  z46 := Tryz.sizeOf146
  v46 := Tryz.zeroValue146
  t51 := Tryz.underlying143
  a51 := Tryz.isAgg143
  z51 := Tryz.sizeOf143
  v51 := Tryz.zeroValue143
  t53 := Tryz.underlying113
  a53 := Tryz.isAgg113
  z53 := Tryz.sizeOf113
  v53 := Tryz.zeroValue113
  t171 := Tryz.underlying112
  a171 := Tryz.isAgg112
  z171 := Tryz.sizeOf112
  v171 := Tryz.zeroValue112
  t173 := Tryz.underlying116
  a173 := Tryz.isAgg116
  z173 := Tryz.sizeOf116
  v173 := Tryz.zeroValue116
  t212 := Tryz.underlying142
  a212 := Tryz.isAgg142
  z212 := Tryz.sizeOf142
  v212 := Tryz.zeroValue142
  t213 := Tryz.underlying144
  a213 := Tryz.isAgg144
  z213 := Tryz.sizeOf144
  t232 := Tryz.underlying171
  a232 := Tryz.isAgg171
  z232 := Tryz.sizeOf171
  v232 := Tryz.zeroValue171
  t233 := Tryz.underlying172
  a233 := Tryz.isAgg172
  z233 := Tryz.sizeOf172
  v233 := Tryz.zeroValue172
  g17 := by kernel_rfl
  g18 := by kernel_rfl
  g19 := by kernel_rfl
  i0 := by kernel_rfl
  i2 := by kernel_rfl
  i3 := by kernel_rfl
  i4 := by kernel_rfl
  i5 := by kernel_rfl
  i9 := by kernel_rfl
  i20 := by kernel_rfl
  i37 := by kernel_rfl
  i46 := by kernel_rfl
  i51 := by kernel_rfl
  i53 := by kernel_rfl
  i171 := by kernel_rfl
  i173 := by kernel_rfl
  i212 := by kernel_rfl
  i232 := by kernel_rfl
  i233 := by kernel_rfl
  m17 := by kernel_rfl
  m18 := by kernel_rfl
  m19 := by kernel_rfl }
open Go.RowKit Go.Sort Go.Lib in
theorem Tryz.strconv_FormatInt_10 (n : Int) (h0 : -9223372036854775808 ≤ n) (h1 : n ≤ 9223372036854775807) (w : World) (htab : Lib.TabIs Tryz.prog w "internal/strconv.uint64pow10" .u64 Lib.pow10Tab) :
    Calls Tryz.prog 27 #[.int .i64 n, .int .i64 10] w fun e w' => e = .returned (.string ⟨(Lib.itoa n).toArray⟩) ∧ ∃ k os, w' = grow (w.drewN k) os := Any.strconv_FormatInt_10 Tryz.laysM173 n h0 h1 w htab
def Tryz.laysC174_ren : Go.Shelf.Ren := ⟨fun | 174 => 103 | 247 => 114 | 245 => 115 | 287 => 120 | 279 => 121 | 280 => 122 | 281 => 123 | 282 => 124 | 321 => 126 | 322 => 127 | 316 => 128 | 171 => 130 | 205 => 129 | 243 => 131 | 246 => 46 | 283 => 68 | 284 => 69 | 285 => 70 | 286 => 71 | 129 => 92 | 317 => 91 | 318 => 93 | 319 => 94 | 320 => 95 | 337 => 107 | 338 => 108 | n => n, fun | 9 => 9 | 3 => 3 | 2 => 2 | 75 => 29 | 85 => 154 | 4 => 4 | 167 => 178 | 5 => 5 | 53 => 113 | 175 => 179 | 46 => 146 | 168 => 181 | 37 => 97 | 0 => 0 | 210 => 187 | 21 => 21 | 127 => 118 | 145 => 191 | 143 => 189 | 171 => 112 | 173 => 116 | 212 => 142 | 51 => 143 | 20 => 20 | 213 => 144 | 232 => 171 | 233 => 172 | 80 => 103 | n => n, fun | 15 => 12 | 16 => 13 | 17 => 6 | 18 => 8 | 19 => 9 | n => n⟩
theorem Tryz.laysC174 : Go.Proofs.LaysC.n174 Tryz.prog Tryz.laysC174_ren := {
  mixed := by kernel_rfl
  f129 := Tryz.func92.trans (congrArg some (by kernel_rfl))
  f171 := Tryz.func130.trans (congrArg some (by kernel_rfl))
  f174 := Tryz.func103.trans (congrArg some (by kernel_rfl))
  f205 := Tryz.func129.trans (congrArg some (by kernel_rfl))
  f243 := Tryz.func131.trans (congrArg some (by kernel_rfl))
  f245 := Tryz.func115.trans (congrArg some (by kernel_rfl))
  f246 := Tryz.func46.trans (congrArg some (by kernel_rfl))
  f247 := Tryz.func114.trans (congrArg some (by kernel_rfl))
  f279 := Tryz.func121.trans (congrArg some (by kernel_rfl))
  f280 := Tryz.func122.trans (congrArg some (by kernel_rfl))
  f281 := Tryz.func123.trans (congrArg some (by kernel_rfl))
  f282 := Tryz.func124.trans (congrArg some (by kernel_rfl))
  f283 := Tryz.func68.trans (congrArg some (by kernel_rfl))
  f284 := Tryz.func69.trans (congrArg some (by kernel_rfl))
  f285 := Tryz.func70.trans (congrArg some (by kernel_rfl))
  f286 := Tryz.func71.trans (congrArg some (by kernel_rfl))
  f287 := Tryz.func120.trans (congrArg some (by kernel_rfl))
  f316 := Tryz.func128.trans (congrArg some (by kernel_rfl))
  f317 := Tryz.func91.trans (congrArg some (by kernel_rfl))
  f318 := Tryz.func93.trans (congrArg some (by kernel_rfl))
  f319 := Tryz.func94.trans (congrArg some (by kernel_rfl))
  f320 := Tryz.func95.trans (congrArg some (by kernel_rfl))
  f321 := Tryz.func126.trans (congrArg some (by kernel_rfl))
  f322 := Tryz.func127.trans (congrArg some (by kernel_rfl))
  f337 := Tryz.func107.trans (congrArg some (by kernel_rfl))
  f338 := Tryz.func108.trans (congrArg some (by kernel_rfl))
  t0 := Tryz.underlying0
  a0 := Tryz.isAgg0
  z0 := Tryz.sizeOf0
  v0 := Tryz.zeroValue0
  t2 := Tryz.underlying2
  a2 := Tryz.isAgg2
  z2 := Tryz.sizeOf2
  v2 := Tryz.zeroValue2
  t3 := Tryz.underlying3
  a3 := Tryz.isAgg3
  z3 := Tryz.sizeOf3
  v3 := Tryz.zeroValue3
  t4 := Tryz.underlying4
  a4 := Tryz.isAgg4
  z4 := Tryz.sizeOf4
  v4 := Tryz.zeroValue4
  t5 := Tryz.underlying5
  a5 := Tryz.isAgg5
  z5 := Tryz.sizeOf5
  v5 := Tryz.zeroValue5
  t9 := Tryz.underlying9
  a9 := Tryz.isAgg9
  z9 := Tryz.sizeOf9
  v9 := Tryz.zeroValue9
  t20 := Tryz.underlying20
  a20 := Tryz.isAgg20
  z20 := Tryz.sizeOf20
  v20 := Tryz.zeroValue20
  t21 := Tryz.underlying21
  a21 := Tryz.isAgg21
  z21 := Tryz.sizeOf21
  v21 := Tryz.zeroValue21
  t37 := Tryz.underlying97
  a37 := Tryz.isAgg97
  z37 := Tryz.sizeOf97
  v37 := Tryz.zeroValue97
  t46 := Tryz.underlying146
  a46 := Tryz.isAgg146
  z46 := Tryz.sizeOf146
  v46 := Tryz.zeroValue146
  t51 := Tryz.underlying143
  a51 := Tryz.isAgg143
  z51 := Tryz.sizeOf143
  v51 := Tryz.zeroValue143
  t53 := Tryz.underlying113
  a53 := Tryz.isAgg113
  z53 := Tryz.sizeOf113
  v53 := Tryz.zeroValue113
  t75 := Tryz.underlying29
  a75 := Tryz.isAgg29
  z75 := Tryz.sizeOf29
  v75 := Tryz.zeroValue29
  t85 := Tryz.underlying154
  a85 := Tryz.isAgg154
  z85 := Tryz.sizeOf154
  v85 := Tryz.zeroValue154
  t127 := Tryz.underlying118
  a127 := Tryz.isAgg118
  z127 := Tryz.sizeOf118
  v127 := Tryz.zeroValue118
  t143 := Tryz.underlying189
  a143 := Tryz.isAgg189
  z143 := Tryz.sizeOf189
  v143 := Tryz.zeroValue189
  t145 := Tryz.underlying191
  a145 := Tryz.isAgg191
  z145 := Tryz.sizeOf191
  v145 := Tryz.zeroValue191
  t167 := Tryz.underlying178
  a167 := Tryz.isAgg178
  z167 := Tryz.sizeOf178
  v167 := Tryz.zeroValue178
  t168 := Tryz.underlying181
  a168 := Tryz.isAgg181
  z168 := Tryz.sizeOf181
  v168 := Tryz.zeroValue181
  t171 := Tryz.underlying112
  a171 := Tryz.isAgg112
  z171 := Tryz.sizeOf112
  v171 := Tryz.zeroValue112
  t173 := Tryz.underlying116
  a173 := Tryz.isAgg116
  z173 := Tryz.sizeOf116
  v173 := Tryz.zeroValue116
  t175 := Tryz.underlying179
  a175 := Tryz.isAgg179
  z175 := Tryz.sizeOf179
  v175 := Tryz.zeroValue179
  t210 := Tryz.underlying187
  a210 := Tryz.isAgg187
  z210 := Tryz.sizeOf187
  v210 := Tryz.zeroValue187
  t212 := Tryz.underlying142
  a212 := Tryz.isAgg142
  z212 := Tryz.sizeOf142
  v212 := Tryz.zeroValue142
  t213 := Tryz.underlying144
  a213 := Tryz.isAgg144
  z213 := Tryz.sizeOf144
  t232 := Tryz.underlying171
  a232 := Tryz.isAgg171
  z232 := Tryz.sizeOf171
  v232 := Tryz.zeroValue171
  t233 := Tryz.underlying172
  a233 := Tryz.isAgg172
  z233 := Tryz.sizeOf172
  v233 := Tryz.zeroValue172
  g15 := by kernel_rfl
  g16 := by kernel_rfl
  g17 := by kernel_rfl
  g18 := by kernel_rfl
  g19 := by kernel_rfl
  t80 := Tryz.underlying103
  a80 := Tryz.isAgg103
  z80 := Tryz.sizeOf103
  v80 := Tryz.zeroValue103
  i0 := by kernel_rfl
  i2 := by kernel_rfl
  i3 := by kernel_rfl
  i4 := by kernel_rfl
  i5 := by kernel_rfl
  i9 := by kernel_rfl
  i20 := by kernel_rfl
  i21 := by kernel_rfl
  i37 := by kernel_rfl
  i46 := by kernel_rfl
  i51 := by kernel_rfl
  i53 := by kernel_rfl
  i75 := by kernel_rfl
  i80 := by kernel_rfl
  i85 := by kernel_rfl
  i127 := by kernel_rfl
  i143 := by kernel_rfl
  i145 := by kernel_rfl
  i167 := by kernel_rfl
  i168 := by kernel_rfl
  i171 := by kernel_rfl
  i173 := by kernel_rfl
  i175 := by kernel_rfl
  i210 := by kernel_rfl
  i212 := by kernel_rfl
  i232 := by kernel_rfl
  i233 := by kernel_rfl
  m15 := by kernel_rfl
  m16 := by kernel_rfl
  m17 := by kernel_rfl
  m18 := by kernel_rfl
  m19 := by kernel_rfl
  c0 := by kernel_rfl
  c2 := by kernel_rfl
  c3 := by kernel_rfl
  c4 := by kernel_rfl
  c5 := by kernel_rfl
  c9 := by kernel_rfl
  c20 := by kernel_rfl
  c21 := by kernel_rfl
  c37 := by kernel_rfl
  c46 := by kernel_rfl
  c51 := by kernel_rfl
  c53 := by kernel_rfl
  c75 := by kernel_rfl
  c80 := by kernel_rfl
  c85 := by kernel_rfl
  c127 := by kernel_rfl
  c143 := by kernel_rfl
  c145 := by kernel_rfl
  c167 := by kernel_rfl
  c168 := by kernel_rfl
  c171 := by kernel_rfl
  c173 := by kernel_rfl
  c175 := by kernel_rfl
  c210 := by kernel_rfl
  c212 := by kernel_rfl
  c213 := by kernel_rfl
  c232 := by kernel_rfl
  c233 := by kernel_rfl }
open Go.RowKit in
theorem Tryz.strconv_ParseInt_10_at64_ok (s : ByteArray) (hmax : s.size ≤ 9223372036854775806) (v : Int) (h : Lib.parseIntB 64 s.data.toList = .ok v) (w : World) :
    Calls Tryz.prog 103 #[.string s, .int .i64 10, .int .i64 64] w fun e w' => e = .returned (.tuple #[.int .i64 v, .nilIface]) ∧ (w' = w ∨ ∃ t, w' = Lib.bytesWorld w 5 t) := Any.strconv_ParseInt_10_at64_ok Tryz.laysC174 s hmax v h w
open Go.RowKit in
theorem Tryz.strconv_ParseInt_10_at64_syntax (s : ByteArray) (hlim : s.size ≤ 281474976710656) (h1 : ∀ v, Lib.parseIntB 64 s.data.toList ≠ .ok v) (h2 : Lib.parseIntB 64 s.data.toList ≠ .range) (ev : Value) (w : World) (hv : w.cell? ⟨12, 0, none⟩ = some ev) (hev : ev = .nilIface ∨ ∃ te pe, ev = .iface te pe) :
    Calls Tryz.prog 103 #[.string s, .int .i64 10, .int .i64 64] w fun e w' => ∃ N, e = .returned (.tuple #[.int .i64 (0), .iface 181 (.pointer (some ⟨N, 0, none⟩))]) ∧ w.heap.size ≤ N ∧ w'.heap[N]? = some (.cells #[.string ⟨#[80, 97, 114, 115, 101, 73, 110, 116]⟩, .string s, ev] 187 (0, 0)) ∧ Below w.heap.size w w' := by
  rcases h : Lib.parseIntB 64 s.data.toList with v | _ | _
  · exact absurd h (h1 v)
  · exact Any.strconv_ParseInt_10_at64_syntax Tryz.laysC174 s hlim h ev w hv hev
  · exact absurd h h2
open Go.RowKit in
theorem Tryz.strconv_ParseInt_10_at64_range (s : ByteArray) (hlim : s.size ≤ 281474976710656) (h : Lib.parseIntB 64 s.data.toList = .range) (ev : Value) (w : World) (hv : w.cell? ⟨13, 0, none⟩ = some ev) (hev : ev = .nilIface ∨ ∃ te pe, ev = .iface te pe) :
    Calls Tryz.prog 103 #[.string s, .int .i64 10, .int .i64 64] w fun e w' => ∃ N, e = .returned (.tuple #[.int .i64 (Lib.intSat 64 s.data.toList), .iface 181 (.pointer (some ⟨N, 0, none⟩))]) ∧ w.heap.size ≤ N ∧ w'.heap[N]? = some (.cells #[.string ⟨#[80, 97, 114, 115, 101, 73, 110, 116]⟩, .string s, ev] 187 (0, 0)) ∧ Below w.heap.size w w' := Any.strconv_ParseInt_10_at64_range Tryz.laysC174 s hlim h ev w hv hev
end Go.Proofs
/-
  Contracts: questions: numbers read and written; the first of some words.
-/
namespace Go.Proofs.YtihakhdinkkdmaaGreatDoor
open Go.GK Go.RowKit Go.PL
set_option maxRecDepth 100000
theorem parseInt_rq (s : ByteArray) (hs : s.size ≤ 1000000) : Rq pg 103 [gs s, gi 10, gi 64] (fun g => ∃ n e, g = .tup [gi n, .v e] ∧ ∀ k, Lib.parseIntB 64 s.data.toList = .ok k → n = k) := by
  refine Rq.callsG (p := pg) Tryz.call103 [.string s, .int .i64 10, .int .i64 64] _ fun H w hg hro => ?_
  have tup : ∀ (n : Int) (e : Value) (ro : Nat → Option Obj), IsR ro (.tup [gi n, .v e]) (.tuple #[.int .i64 n, e]) := fun n e ro => .tup rfl fun j g hj => by
    match j with
    | 0 => simp at hj; subst hj; exact .v _
    | 1 => simp at hj; subst hj; exact .v _
    | j + 2 => simp at hj
  have ev : ∀ {g : Nat} {x : GV} {t : TypeId}, GK.look pg.gl g = some (.r [.ifc t x]) → ∃ ev, w.cell? ⟨g, 0, none⟩ = some ev ∧ (ev = .nilIface ∨ ∃ te pe, ev = .iface te pe) := fun hl => by
    obtain ⟨u, hu, hi⟩ := hg.cellR hro hl (j := 0) rfl
    cases hi with
    | ifc h => exact ⟨_, hu, .inr ⟨_, _, rfl⟩⟩
  rcases h : Lib.parseIntB 64 s.data.toList with v | _ | _
  · refine (Tryz.strconv_ParseInt_10_at64_ok s (by omega) v h w).mono ?_
    rintro e w' ⟨rfl, hw⟩
    refine ⟨_, _, rfl, ?_, tup v .nilIface, ⟨v, _, rfl, fun k hk => by cases hk; rfl⟩, rfl⟩
    rcases hw with rfl | ⟨t, rfl⟩
    · exact Below.refl _ _
    · exact Lib.bytesWorld_below w _ t
  · obtain ⟨x, hx, hx2⟩ := ev (g := 12) rfl
    refine (Tryz.strconv_ParseInt_10_at64_syntax s (by omega) (fun v hv => by rw [h] at hv; cases hv) (fun hv => by rw [h] at hv; cases hv) x w hx hx2).mono ?_
    rintro e w' ⟨N, rfl, _, _, hb⟩
    exact ⟨_, _, rfl, hb, tup 0 _, ⟨0, _, rfl, fun k hk => by cases hk⟩, rfl⟩
  · obtain ⟨x, hx, hx2⟩ := ev (g := 13) rfl
    refine (Tryz.strconv_ParseInt_10_at64_range s (by omega) h x w hx hx2).mono ?_
    rintro e w' ⟨N, rfl, _, _, hb⟩
    exact ⟨_, _, rfl, hb, tup _ _, ⟨_, _, rfl, fun k hk => by cases hk⟩, rfl⟩
theorem fmt_rt (n : Int) (h0 : -9223372036854775808 ≤ n) (h1 : n ≤ 9223372036854775807) : Rt pg 27 [gi n, gi 10] (gs (bS (Lib.itoa n))) := by
  refine Rq.callsG (p := pg) Tryz.call27 [.int .i64 n, .int .i64 10] _ fun H w hg hro => ?_
  obtain ⟨ty, fz, hv⟩ := hg.vals hro (g := 6) (vs := Lib.pow10Tab.map fun z => .int .u64 z) (by kernel_rfl)
  refine (Tryz.strconv_FormatInt_10 n h0 h1 w ?_).mono ?_
  · unfold Lib.TabIs World.var?
    have : Tryz.prog.globalNamed "internal/strconv.uint64pow10" = some 6 := by kernel_rfl
    rw [this]
    simp only [Option.bind_some, hv]
  · rintro e w' ⟨rfl, k, os, rfl⟩
    exact ⟨_, _, rfl, Lib.below_grow _ w (Nat.le_refl _) k os, fun ro => .v _, rfl, rfl⟩
theorem is_b (t : Tok) (l : List Tok) (s : ByteArray) {c : Bool} (h : isP s (t :: l) = c) : Hf pg 58 1 [.p 0 0, gs s] (ps (t :: l)) (fun g σ n => g = .v (.bool c) ∧ σ = ps (t :: l) ∧ n = 1) :=
  Hf.eqG (R := fun σ n => σ = ps (t :: l) ∧ n = 1) ((is_hf t l s).imp fun _ _ _ ⟨e, r⟩ => ⟨by rw [e]; exact h, r⟩)
theorem idxIs_ix (ws : List ByteArray) (hws : ws.length ≤ 100) (t : Tok) (l : List Tok) (n : Nat) (hn : n ≤ ws.length) (h1 : ∀ i (h : i < ws.length), i < n → isP ws[i] (t :: l) = false) (h2 : ∀ h : n < ws.length, isP ws[n] (t :: l) = true) :
    Hf pg 57 1 [.sl 1 (ws.map fun s => [gs s]), .fn (.func 58) [.p 0 0] []] (ps (t :: l)) (fun g σ m => g = gi (if n < ws.length then n else -1) ∧ σ = ps (t :: l) ∧ m = 1) := by
  refine Hf.of pg_ok Tryz.func57 rfl Tryz.ntmps57 rfl Tryz.results57 Tryz.call57 fun H0 S0 w0 h0 g0 => ?_
  have hll : (ws.map fun s => [gs s]).length = ws.length := by simp
  refine JK.loop (α := Nat) (fun i => ⟨[(0, .sl 1 (ws.map fun s => [gs s])), (1, .fn (.func 58) [.p 0 0] []), (7, gi (ws.map fun s => [gs s]).length), (8, gi i)], ps (t :: l), 1⟩) (fun i => i ≤ n) (fun i => n - i) 0 id ?_ (Nat.zero_le _) ?_
  · exact ⟨⟨rfl, rfl, rfl, rfl, trivial⟩, ⟨rfl, trivial⟩, rfl⟩
  · intro i hi
    refine V ?_
    by_cases hlt : i < ws.length
    · refine p1 ?_
      refine ix (h := ?_)
      by_cases hin : i < n
      · refine GOH (is_b t l ws[i] (h1 i hlt hin)) id rfl rfl ⟨rfl, trivial⟩ rfl (id_lt rfl) ?_
        rintro g σ' n' ⟨rfl, rfl, rfl⟩
        exact ⟨i + 1, id, ⟨⟨rfl, rfl, rfl, succ_gi (by omega), trivial⟩, ⟨rfl, trivial⟩, rfl⟩, hin, by show n - (i + 1) < n - i; omega⟩
      · have hin' : i = n := by omega
        subst hin'
        refine GOH (is_b t l ws[i] (h2 hlt)) id rfl rfl ⟨rfl, trivial⟩ rfl (id_lt rfl) ?_
        rintro g σ' n' ⟨rfl, rfl, rfl⟩
        exact ⟨by rw [if_pos hlt]; rfl, rfl, rfl⟩
    · refine p2 ?_
      refine V ?_
      exact ⟨by rw [if_neg (by omega)]; rfl, rfl, rfl⟩
theorem findIdx_first {α : Type} {p : α → Bool} : ∀ {l : List α} {n : Nat}, n ≤ l.length → (∀ i (h : i < l.length), i < n → p l[i] = false) → (∀ h : n < l.length, p l[n] = true) → l.findIdx? p = if n < l.length then some n else none
  | [], n, hn, _, _ => by simp
  | a :: l, 0, _, _, h2 => by
    have := h2 (by simp)
    simp only [List.getElem_cons_zero] at this
    simp [List.findIdx?_cons, this]
  | a :: l, n + 1, hn, h1, h2 => by
    have h0 := h1 0 (by simp) (by omega)
    simp only [List.getElem_cons_zero] at h0
    have ih := findIdx_first (p := p) (l := l) (n := n) (by simpa using hn) (fun i h hh => h1 (i + 1) (by simpa using h) (by omega)) (fun h => h2 (by simpa using h))
    rw [List.findIdx?_cons, h0, ih]
    by_cases h : n < l.length <;> simp [h]
theorem idxIs_hf (ws : List ByteArray) (hws : ws.length ≤ 100) (t : Tok) (l : List Tok) : Hf pg 57 1 [.sl 1 (ws.map fun s => [gs s]), .fn (.func 58) [.p 0 0] []] (ps (t :: l)) (fun g σ n => g = gi (match ws.findIdx? fun s => isP s (t :: l) with | some k => k | none => -1) ∧ σ = ps (t :: l) ∧ n = 1) := by
  obtain ⟨n, hn, h1, h2, _⟩ := first_ix ws fun s => isP s (t :: l)
  refine (idxIs_ix ws hws t l n hn h1 h2).imp fun g σ m ⟨e, r⟩ => ⟨?_, r⟩
  rw [e, findIdx_first hn h1 h2]
  by_cases h : n < ws.length <;> simp [h]
theorem number_hx (t : Tok) (l : List Tok) (most : Int) (ht : t.text.size ≤ 1000000) (hd : t.kind = 2 → Lib.parseIntB 64 t.text.data.toList = .ok (numT t.text)) : Hx pg 86 1 [.p 0 0, gi most] (ps (t :: l)) (fun g σ n => numberP most (t :: l) = .ok (numT t.text, l) ∧ t.kind = 2 ∧ g = gi (numT t.text) ∧ σ = ps l ∧ n = 1) (erR (numberP most (t :: l))) := by
  refine Hx.ofJ pg_ok Tryz.func86 rfl Tryz.ntmps86 rfl Tryz.results86 Tryz.call86 fun H0 S0 w0 h0 g0 => ?_
  refine V ?_
  refine ⟨tokR t, by decide, rfl, ?_⟩
  refine GOQ (parseInt_rq t.text ht) rfl ?_
  rintro g ⟨n, e, rfl, hn⟩
  refine ⟨tokR t, by decide, rfl, ?_⟩
  have fin : (¬ (t.kind = 2 ∧ most < numT t.text)) → numberP most (t :: l) = (match anyP 2 (t :: l) with | .ok (s, l) => .ok (numT s, l) | .error e => .error e) := fun h => if_neg h
  rcases tf (t.kind == 2) with h | h
  · have hk : t.kind = 2 := by simpa using h
    obtain rfl := hn _ (hd hk)
    refine p1 ?_ h
    rcases tf (decide (most < numT t.text)) with h2 | h2
    · have h3 := of_decide_eq_true h2
      refine p1 ?_ h2
      refine GOX (erR (numberP most (t :: l))) (fail_hx t l 4) (fun g hg => ⟨4, t.pos, if_pos ⟨hk, h3⟩, hg⟩) id rfl rfl ⟨rfl, trivial⟩ rfl (id_lt rfl) ?_
      exact fun _ _ _ h => h.elim
    · have h3 := of_decide_eq_false h2
      refine p2 ?_ h2
      refine GOX (erR (numberP most (t :: l))) (any_hx t l 2) (fun g ⟨e, p, h4, h5⟩ => ⟨e, p, by rw [fin (fun h => h3 h.2), h4], h5⟩) id rfl rfl ⟨rfl, trivial⟩ rfl (id_lt rfl) ?_
      rintro g σ' n' ⟨h4, h5, rfl, rfl, rfl⟩
      refine V ?_
      exact ⟨by rw [fin (fun h => h3 h.2), h4], hk, rfl, rfl, rfl⟩
  · have hk : t.kind ≠ 2 := by simpa using h
    refine p2 ?_ h
    repeat (first | refine p1 ?_ | refine p2 ?_ | refine p3 ?_ | refine p4 ?_)
    refine GOX (erR (numberP most (t :: l))) (any_hx t l 2) (fun g ⟨e, p, h4, h5⟩ => ⟨e, p, by rw [fin (fun h => hk h.1), h4], h5⟩) id rfl rfl ⟨rfl, trivial⟩ rfl (id_lt rfl) ?_
    rintro g σ' n' ⟨h4, h5, rfl, rfl, rfl⟩
    exact absurd h5 hk
end Go.Proofs.YtihakhdinkkdmaaGreatDoor
/-
  Contracts: the document's answer on labels and matchers (chapter 4).
-/
namespace Go.Proofs.YtihakhdinkkdmaaGreatDoor
open Go.GK Go.PL Go.RowKit
set_option maxRecDepth 100000
theorem sLt_le (a b : ByteArray) : (Op.bytesLess a.toList b.toList || a.toList == b.toList) = !sLt b a := by
  show (sLt a b || sEq a b) = _
  have h := cmpS_is
  rw [sLt_cmp, sLt_cmp, Bool.eq_iff_iff]
  simp only [Bool.or_eq_true, decide_eq_true_iff, sEq_iff, Bool.not_eq_true', decide_eq_false_iff_not]
  rw [h.anti a b, ← h.eq0]
  have := h.rng a b
  omega
theorem in_rt (n a b : Int) : Rt pg 75 [gi n, gi a, gi b] (.b (decide (a ≤ n ∧ n ≤ b))) := by
  refine Rt.of pg_ok Tryz.func75 rfl Tryz.ntmps75 rfl Tryz.results75 Tryz.call75 fun H0 S0 w0 h0 g0 => ?_
  by_cases h : a ≤ n
  · refine p1 ?_
    exact ⟨by show decide (n ≤ b) = _; rw [decide_eq_decide]; omega, rfl⟩
  · refine p2 ?_
    exact ⟨by rw [decide_eq_false (by omega)]; rfl, rfl⟩
theorem letter_rt (c : UInt8) : Rt pg 32 [gb c] (.b (letB c)) := by
  refine Rt.of pg_ok Tryz.func32 rfl Tryz.ntmps32 rfl Tryz.results32 Tryz.call32 fun H0 S0 w0 h0 g0 => ?_
  unfold letB
  by_cases h1 : 97 ≤ c.toNat <;> by_cases h2 : c.toNat ≤ 122 <;> by_cases h3 : 65 ≤ c.toNat <;> by_cases h4 : c.toNat ≤ 90 <;> by_cases h5 : c.toNat = 95 <;> first | (exfalso; omega) | skip
  all_goals
    simp only [h1, h2, h3, h4, h5, and_self, and_true, and_false, decide_true, decide_false, Bool.or_true, Bool.or_false]
    repeat (first | refine p1 ?_ | refine p2 ?_ | refine p3 ?_ | refine p4 ?_)
    refine ⟨?_, rfl⟩
    first | rfl | (show decide _ = _; simp; omega) | (show (_ == _) = _; simp; omega)
theorem digit_rt (c : UInt8) : Rt pg 33 [gb c] (.b (digB c)) := by
  refine Rt.of pg_ok Tryz.func33 rfl Tryz.ntmps33 rfl Tryz.results33 Tryz.call33 fun H0 S0 w0 h0 g0 => ?_
  unfold digB
  by_cases h : 48 ≤ c.toNat
  · refine p1 ?_
    exact ⟨by show decide _ = _; rw [decide_eq_decide]; omega, rfl⟩
  · refine p2 ?_
    exact ⟨by rw [decide_eq_false (by omega)]; rfl, rfl⟩
theorem refName_rt (s : ByteArray) (hs : s.size < 4611686018427387904) : Rt pg 74 [gs s] (.b (nameF s)) := by
  refine Rt.of pg_ok Tryz.func74 rfl Tryz.ntmps74 rfl Tryz.results74 Tryz.call74 fun H0 S0 w0 h0 g0 => ?_
  refine JK.loop (α := Nat) (fun i => ⟨[(0, gs s), (5, gi s.size), (6, gi i)], [], 0⟩) (fun i => i ≤ s.size ∧ ∀ j, j < i → nbad s j = false) (fun i => s.size - i) 0 id ?_ ⟨Nat.zero_le _, fun j hj => absurd hj (by omega)⟩ ?_
  · exact ⟨⟨rfl, rfl, rfl, trivial⟩, trivial, rfl⟩
  · rintro i ⟨hi, hgood⟩
    refine V ?_
    by_cases hlt : i < s.size
    · have hv := nbad_some hlt
      have hbad : nbad s i = true → nameF s = false := fun h => by unfold nameF; rw [anyB_true hlt h]; rfl
      have hnext : nbad s i = false → ∀ j, j < i + 1 → nbad s j = false := fun h j hj => by
        rcases Nat.lt_succ_iff_lt_or_eq.1 hj with h1 | h1
        · exact hgood j h1
        · subst h1; exact h
      refine p1 ?_
      refine sx (h := ?_)
      cases h1 : letB s[i] with
      | true =>
        refine GO ((letter_rt s[i]).bt h1) rfl ?_
        exact ⟨i + 1, id, ⟨⟨rfl, rfl, succ_gi (by omega), trivial⟩, trivial, rfl⟩, ⟨hlt, hnext (by rw [hv, h1]; rfl)⟩, by show s.size - (i + 1) < s.size - i; omega⟩
      | false =>
        refine GO ((letter_rt s[i]).bt h1) rfl ?_
        by_cases h2 : i = 0
        · refine p3 ?_ (by simpa using h2)
          exact ⟨(hbad (by rw [hv, h1, (by simpa using h2 : (i == 0) = true)]; rfl)).symm, rfl⟩
        · refine p4 ?_ (by simpa using h2)
          refine sx (h := ?_)
          have h2' : (i == 0) = false := by simpa using h2
          cases h3 : digB s[i] with
          | true =>
            refine GO ((digit_rt s[i]).bt h3) rfl ?_
            exact ⟨i + 1, id, ⟨⟨rfl, rfl, succ_gi (by omega), trivial⟩, trivial, rfl⟩, ⟨hlt, hnext (by rw [hv, h1, h2', h3]; rfl)⟩, by show s.size - (i + 1) < s.size - i; omega⟩
          | false =>
            refine GO ((digit_rt s[i]).bt h3) rfl ?_
            exact ⟨(hbad (by rw [hv, h1, h2', h3]; rfl)).symm, rfl⟩
    · refine p2 ?_
      refine V ?_
      refine GO (in_rt s.size 1 24) rfl ?_
      obtain rfl : i = s.size := by omega
      refine ⟨?_, rfl⟩
      unfold nameF
      rw [anyB_false hgood]
      show decide _ = _
      simp only [Bool.not_false, Bool.true_and, decide_eq_decide]
      omega
theorem says_rt (s : ByteArray) (hs : s.size < 4611686018427387904) : Rt pg 54 [gs s] (.b (valueF s)) := by
  refine Rt.of pg_ok Tryz.func54 rfl Tryz.ntmps54 rfl Tryz.results54 Tryz.call54 fun H0 S0 w0 h0 g0 => ?_
  refine JK.loop (α := Nat) (fun i => ⟨[(0, gs s), (5, gi s.size), (6, gi i)], [], 0⟩) (fun i => i ≤ s.size ∧ ∀ j, j < i → vbad s j = false) (fun i => s.size - i) 0 id ?_ ⟨Nat.zero_le _, fun j hj => absurd hj (by omega)⟩ ?_
  · exact ⟨⟨rfl, rfl, rfl, trivial⟩, trivial, rfl⟩
  · rintro i ⟨hi, hgood⟩
    refine V ?_
    by_cases hlt : i < s.size
    · have hv := vbad_some hlt
      have hbad : vbad s i = true → valueF s = false := fun h => by unfold valueF; rw [anyB_true hlt h]; rfl
      have hnext : vbad s i = false → ∀ j, j < i + 1 → vbad s j = false := fun h j hj => by
        rcases Nat.lt_succ_iff_lt_or_eq.1 hj with h1 | h1
        · exact hgood j h1
        · subst h1; exact h
      have hc : IntKind.i64.wrap (s[i].toNat : Int) = (s[i].toNat : Int) := wrap_id (by omega) (by have := s[i].toNat_lt; omega)
      refine p1 ?_
      refine sx (h := ?_)
      by_cases h1 : 32 ≤ s[i].toNat ∧ s[i].toNat ≤ 126
      · refine GO ((in_rt (IntKind.i64.wrap (s[i].toNat : Int)) 32 126).bt (d := true) (by rw [hc]; exact decide_eq_true (by omega))) rfl ?_
        have h6 : ¬ s[i].toNat < 32 := by omega
        have h7 : ¬ 126 < s[i].toNat := by omega
        by_cases h3 : s[i].toNat = 34 <;> by_cases h4 : s[i].toNat = 92 <;>
          simp only [h6, h7, h3, h4, decide_true, decide_false, Bool.true_or, Bool.or_true, Bool.or_false] at hv <;>
          (repeat (first | refine p1 ?_ | refine p2 ?_ | refine p3 ?_ | refine p4 ?_ | refine sx (h := ?_))) <;>
          first | exact ⟨(hbad hv).symm, rfl⟩ | exact ⟨i + 1, id, ⟨⟨rfl, rfl, succ_gi (by omega), trivial⟩, trivial, rfl⟩, ⟨hlt, hnext hv⟩, by show s.size - (i + 1) < s.size - i; omega⟩
      · refine GO ((in_rt (IntKind.i64.wrap (s[i].toNat : Int)) 32 126).bt (d := false) (by rw [hc]; exact decide_eq_false (by omega))) rfl ?_
        refine ⟨(hbad ?_).symm, rfl⟩
        rw [hv]
        by_cases h2 : s[i].toNat < 32
        · rw [decide_eq_true h2]; rfl
        · rw [decide_eq_true (by omega : 126 < s[i].toNat)]; simp
    · refine p2 ?_
      refine V ?_
      obtain rfl : i = s.size := by omega
      refine ⟨?_, rfl⟩
      unfold valueF
      rw [anyB_false hgood]
      show decide _ = _
      simp only [Bool.not_false, Bool.true_and, decide_eq_decide]
      omega

end Go.Proofs.YtihakhdinkkdmaaGreatDoor
/-
  Plain laws: questions: what tokens are right; numbers of digits; matchers. No program is in sight.
-/
namespace Go.PL
open Go Go.GK

def Tok.Okk (t : Tok) : Prop := t.Ok ∧ t.text.size ≤ 1000
structure ToksOk (l : List Tok) : Prop where
  each : ∀ t ∈ l, t.Okk
  last : ∃ a e, l = a ++ [e] ∧ e.kind = 5
theorem ToksOk.cons {l : List Tok} (h : ToksOk l) : ∃ t r, l = t :: r := by
  obtain ⟨a, e, rfl, _⟩ := h.last
  cases a with
  | nil => exact ⟨e, [], rfl⟩
  | cons t r => exact ⟨t, r ++ [e], rfl⟩
theorem ToksOk.tail {t : Tok} {l : List Tok} (h : ToksOk (t :: l)) (hk : t.kind ≠ 5) : ToksOk l := by
  refine ⟨fun x hx => h.each x (List.mem_cons_of_mem _ hx), ?_⟩
  obtain ⟨a, e, he, hk'⟩ := h.last
  cases a with
  | nil =>
    simp at he
    exact absurd (he.1 ▸ hk') hk
  | cons x r =>
    simp at he
    exact ⟨r, e, he.2, hk'⟩
theorem dig_sub {b : UInt8} (h : digB b = true) : 48 ≤ b.toNat ∧ b.toNat ≤ 57 := by simpa [digB] using h
theorem parse_digits : ∀ (l : List UInt8) (acc : Nat), (∀ b ∈ l, digB b = true) → l.length ≤ 18 → acc < 10 ^ (18 - l.length) →
    ∃ n : Nat, Lib.parseUintM (2 ^ 64 - 1) acc l = .ok n ∧ n < 10 ^ 18 ∧ l.foldl (fun (n : Int) c => n * 10 + ((c.toNat : Int) - 48)) (acc : Int) = n
  | [], acc, _, _, ha => ⟨acc, rfl, by simpa using ha, rfl⟩
  | c :: r, acc, hl, h18, ha => by
    have hc := dig_sub (hl c List.mem_cons_self)
    have h18' : r.length + 1 ≤ 18 := by simpa using h18
    have hp : 10 ^ (18 - r.length) = 10 ^ (18 - (r.length + 1)) * 10 := by rw [← Nat.pow_succ]; congr 1; omega
    have hle : 10 ^ (18 - r.length) ≤ 10 ^ 18 := Nat.pow_le_pow_right (by decide) (by omega)
    simp only [List.length_cons] at ha
    have hb : acc * 10 + (c.toNat - 48) < 10 ^ (18 - r.length) := by omega
    obtain ⟨n, h1, h2, h3⟩ := parse_digits r (acc * 10 + (c.toNat - 48)) (fun b hb => hl b (List.mem_cons_of_mem _ hb)) (by omega) hb
    refine ⟨n, ?_, h2, ?_⟩
    · rw [Lib.parseUintM, if_pos hc, if_neg (by omega), if_neg (by omega), h1]
    · rw [← h3, List.foldl_cons]
      congr 1
      omega
theorem num_tok {t : Tok} (h : t.Ok) (hk : t.kind = 2) : Lib.parseIntB 64 t.text.data.toList = .ok (numT t.text) ∧ 0 ≤ numT t.text ∧ numT t.text < 1000000000000000000 := by
  rcases h with (⟨h, _⟩ | ⟨_, h1, h2, h3⟩ | ⟨h, _⟩ | ⟨h, _⟩) | ⟨h, _⟩
  · omega
  · cases hl : t.text.data.toList with
    | nil => exact absurd hl h1
    | cons c r =>
      have hc := dig_sub (h3 c (by rw [hl]; exact List.mem_cons_self))
      obtain ⟨n, e1, e2, e3⟩ := parse_digits (c :: r) 0 (by rw [← hl]; exact h3) (by rw [← hl]; exact h2) (Nat.pow_pos (by decide))
      have e : numT t.text = (n : Int) := by
        unfold numT
        rw [hl]
        exact e3
      refine ⟨?_, by omega, by omega⟩
      simp only [Lib.parseIntB]
      rw [if_neg (by omega), Lib.parseUintB, if_neg (by simp), e1]
      simp only
      rw [if_neg (by omega), if_neg (by omega), if_neg (by omega), e]
  · omega
  · omega
  · omega
theorem quo_tok {t : Tok} (h : t.Ok) (hk : t.kind = 3) : ∃ v : List UInt8, t.text.data.toList = 34 :: v ++ [34] ∧ ∀ b ∈ v, b.toNat ≠ 34 := by
  rcases h with (⟨h, _⟩ | ⟨h, _⟩ | ⟨_, h⟩ | ⟨h, _⟩) | ⟨h, _⟩
  · omega
  · omega
  · exact h
  · omega
  · omega
theorem quo_size {t : Tok} (h : t.Ok) (hk : t.kind = 3) : 2 ≤ t.text.size := by
  obtain ⟨v, e, _⟩ := quo_tok h hk
  have := congrArg List.length e
  simp at this
  have h2 : t.text.size = t.text.data.size := rfl
  omega
theorem asked_one {m : Mt} (hn : nameF m.name = true) (h0 : 0 ≤ m.op) (h1 : m.op ≤ 3) : askedF [m] = valueF m.value := by
  have : askedF [m] = !mbad m := by simp [askedF, anyB, List.range_succ]
  rw [this, mbad, hn]
  cases h : valueF m.value <;> simp <;> omega
theorem nameP_ok {t : Tok} {l : List Tok} {r : ByteArray × List Tok} (h : nameP (t :: l) = .ok r) (hk : t.kind = 1) : nameF t.text = true := by
  cases h2 : nameF t.text with
  | true => rfl
  | false =>
    have : nameP (t :: l) = failP 4 (t :: l) := if_pos ⟨hk, h2⟩
    rw [this] at h
    cases h
theorem nameP_is {t : Tok} {l : List Tok} {r : ByteArray × List Tok} (h : nameP (t :: l) = .ok r) : r = (t.text, l) ∧ t.kind = 1 := by
  by_cases hc : t.kind = 1 ∧ nameF t.text = false
  · have : nameP (t :: l) = failP 4 (t :: l) := if_pos hc
    rw [this] at h
    cases h
  · have : nameP (t :: l) = anyP 1 (t :: l) := if_neg hc
    rw [this] at h
    by_cases hk : t.kind = 1
    · have : anyP 1 (t :: l) = .ok (t.text, l) := if_pos hk
      rw [this] at h
      cases h
      exact ⟨rfl, hk⟩
    · have : anyP 1 (t :: l) = failP 3 (t :: l) := if_neg hk
      rw [this] at h
      cases h
end Go.PL
/-
  Plain laws: questions: what the steps of splitting a text come to. No program is in sight.
-/
namespace Go.PL
open Go Go.GK

theorem dig_iff (c : UInt8) : decide (0 ≤ Lib.indexByte digL c) = digB c := by
  have := u8_all (p := fun c => decide (0 ≤ Lib.indexByte digL c) == digB c) (by decide +kernel) c
  simpa using this
theorem digs_iff (c : UInt8) : digL.contains c = digB c := by
  have := u8_all (p := fun c => digL.contains c == digB c) (by decide +kernel) c
  simpa using this
theorem find_byte (c : UInt8) : ∀ l : List UInt8, Lib.indexByte l c = match l.findIdx? (· == c) with | some j => (j : Int) | none => -1
  | [] => rfl
  | b :: l => by
    rw [Lib.indexByte, List.findIdx?_cons, find_byte c l]
    cases h : b == c with
    | true => simp
    | false =>
      cases h2 : l.findIdx? (· == c) with
      | none => simp
      | some j => simp
theorem tw_dw {p : UInt8 → Bool} (l : List UInt8) : (l.takeWhile p).length + (l.dropWhile p).length = l.length := by
  rw [← List.length_append, List.takeWhile_append_dropWhile]
theorem tw_congr {p q : UInt8 → Bool} (h : ∀ b, p b = q b) (l : List UInt8) : l.takeWhile p = l.takeWhile q := by
  have : p = q := funext h
  rw [this]
def markLen (l : List UInt8) : Nat := match marksL.find? (fun m => m.isPrefixOf l) with | some m => m.length | none => 0
theorem prefF_is (s : ByteArray) (p : List UInt8) : prefF s (bS p) = p.isPrefixOf s.data.toList := by
  have h0 : (bS p).size = p.length := by show p.toArray.size = _; simp
  have h1 : s.size = s.data.toList.length := by simp
  rw [Bool.eq_iff_iff, List.isPrefixOf_iff_prefix, prefF, Bool.and_eq_true, decide_eq_true_iff, sEq_iff, h0, h1]
  constructor
  · rintro ⟨h2, h3⟩
    have h4 := congrArg (fun b : ByteArray => b.data.toList) h3
    simp only [data_take] at h4
    rw [List.prefix_iff_eq_take]
    exact h4.symm
  · intro h
    refine ⟨h.length_le, ?_⟩
    have h4 := data_take s p.length
    rw [← List.prefix_iff_eq_take.1 h] at h4
    have : ∀ b : ByteArray, b = ⟨b.data.toList.toArray⟩ := fun b => by cases b; simp
    rw [this (s.extract 0 p.length), h4]
    rfl
theorem find_first {α : Type} {p : α → Bool} : ∀ {l : List α} {n : Nat}, n ≤ l.length → (∀ i (h : i < l.length), i < n → p l[i] = false) → (∀ h : n < l.length, p l[n] = true) → l.find? p = l[n]?
  | [], n, _, _, _ => by simp
  | a :: l, 0, _, _, h2 => by
    have h3 : p a = true := h2 (by simp)
    simp [h3]
  | a :: l, n + 1, hn, h1, h2 => by
    have h3 : p a = false := h1 0 (by simp) (by omega)
    rw [List.find?_cons, h3]
    exact find_first (by simpa using hn) (fun i h hh => h1 (i + 1) (by simpa using h) (by omega)) (fun h => h2 (by simpa using h))
theorem lexF_le (l : List UInt8) : (lexF l).1 ≤ l.length := by
  cases l with
  | nil => simp [lexF]
  | cons c r =>
    simp only [lexF]
    by_cases h1 : letB c = true
    · rw [if_pos h1]
      exact (List.takeWhile_sublist _).length_le
    rw [if_neg h1]
    by_cases h2 : digB c = true
    · rw [if_pos h2]
      exact (List.takeWhile_sublist _).length_le
    rw [if_neg h2]
    by_cases h3 : c.toNat = 34
    · rw [if_pos h3]
      cases h : r.findIdx? (· == 34) with
      | none => simp
      | some j =>
        have := (List.findIdx?_eq_some_iff_getElem.1 h).1
        simp
        omega
    · rw [if_neg h3]
      cases h : marksL.find? (fun m => m.isPrefixOf (c :: r)) with
      | none => simp
      | some m => exact (List.isPrefixOf_iff_prefix.1 (List.find?_some (p := fun m : List UInt8 => m.isPrefixOf (c :: r)) h)).length_le
theorem byte0 {b : ByteArray} {c : UInt8} {r : List UInt8} (h : b.data.toList = c :: r) : b[0]? = some c := by
  obtain ⟨d⟩ := b
  have h1 : d.toList[0]? = some c := by rw [show d.toList = c :: r from h]; rfl
  have hs : 0 < d.size := by
    have := congrArg List.length (show d.toList = c :: r from h)
    simp at this
    omega
  rw [getElem?_pos (ByteArray.mk d) 0 hs]
  show some d[0] = some c
  simpa [hs] using h1
end Go.PL
