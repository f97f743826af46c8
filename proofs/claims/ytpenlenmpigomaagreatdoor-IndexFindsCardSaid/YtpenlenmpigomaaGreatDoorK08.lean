/-
  Plain laws: an index: of each name, and what it says, the series that say so. No program is in sight.
-/
import Derived.Test.YtpenlenmpigomaaGreatDoorK07
import Derived.Sort.OwnSorted
import Derived.Sort.Walk0
import Derived.Test.YtpenlenmpigomaaGreatDoorK05
import Derived.Lib.AppendStr
import Derived.Laws.CopyRow
import Derived.Lib.SliceRun
import Derived.Lib.ReflectliteSwap
import Derived.Lib.AppendZerosOnto
namespace Go.PL
open Go Go.GK

section
variable {α : Type}
/-- An entry is changed; one that is not there is new. -/
def modA (k : ByteArray) (f : α → α) (d : α) : List (ByteArray × α) → List (ByteArray × α)
  | [] => [(k, f d)]
  | (k', a) :: r => if k' = k then (k', f a) :: r else (k', a) :: modA k f d r
def getA (k : ByteArray) (d : α) : List (ByteArray × α) → α
  | [] => d
  | (k', a) :: r => if k' = k then a else getA k d r
abbrev keysA (l : List (ByteArray × α)) : List ByteArray := l.map (·.1)
theorem getA_mod (k k' : ByteArray) (f : α → α) (d : α) : ∀ l, getA k' d (modA k f d l) = if k' = k then f (getA k d l) else getA k' d l
  | [] => by
    unfold modA getA getA
    by_cases h : k = k'
    · subst h; simp [getA]
    · rw [if_neg h, if_neg fun e => h e.symm]
  | (q, a) :: r => by
    unfold modA
    by_cases h : q = k
    · subst h
      rw [if_pos rfl]
      unfold getA
      by_cases h' : q = k'
      · subst h'; rw [if_pos rfl, if_pos rfl, if_pos rfl]
      · rw [if_neg h', if_neg h', if_neg fun e => h' e.symm]
    · rw [if_neg h]
      unfold getA
      rw [getA_mod k k' f d r]
      by_cases h' : q = k'
      · subst h'; rw [if_pos rfl, if_pos rfl, if_neg h]
      · rw [if_neg h', if_neg h', if_neg h]
theorem modA_new {k : ByteArray} {f : α → α} {d : α} : ∀ {l : List (ByteArray × α)}, k ∉ keysA l → modA k f d l = l ++ [(k, f d)]
  | [], _ => rfl
  | (q, a) :: r, h => by
    simp only [keysA, List.map_cons, List.mem_cons, not_or] at h
    unfold modA
    rw [if_neg fun e => h.1 e.symm, modA_new (l := r) h.2]
    rfl
theorem modA_old {k : ByteArray} {f : α → α} {d a : α} {l2 : List (ByteArray × α)} : ∀ {l1 : List (ByteArray × α)}, k ∉ keysA l1 → modA k f d (l1 ++ (k, a) :: l2) = l1 ++ (k, f a) :: l2
  | [], _ => by show modA k f d ((k, a) :: l2) = _; unfold modA; rw [if_pos rfl]; rfl
  | (q, x) :: r, h => by
    simp only [keysA, List.map_cons, List.mem_cons, not_or] at h
    show modA k f d ((q, x) :: (r ++ (k, a) :: l2)) = _
    unfold modA
    rw [if_neg fun e => h.1 e.symm, modA_old (l1 := r) h.2]
    rfl
theorem splitA {k : ByteArray} : ∀ {l : List (ByteArray × α)}, k ∈ keysA l → ∃ l1 a l2, l = l1 ++ (k, a) :: l2 ∧ k ∉ keysA l1
  | [], h => by cases h
  | (q, a) :: r, h => by
    by_cases e : q = k
    · subst e; exact ⟨[], a, r, rfl, by simp⟩
    · have h' : k ∈ keysA r := by
        simp only [keysA, List.map_cons, List.mem_cons] at h
        rcases h with h | h
        · exact absurd h.symm e
        · exact h
      obtain ⟨l1, b, l2, rfl, hn⟩ := splitA h'
      refine ⟨(q, a) :: l1, b, l2, rfl, ?_⟩
      simp only [keysA, List.map_cons, List.mem_cons, not_or]
      exact ⟨fun e' => e e'.symm, hn⟩
theorem getA_old {k : ByteArray} {d a : α} {l2 : List (ByteArray × α)} : ∀ {l1 : List (ByteArray × α)}, k ∉ keysA l1 → getA k d (l1 ++ (k, a) :: l2) = a
  | [], _ => by show getA k d ((k, a) :: l2) = _; unfold getA; rw [if_pos rfl]
  | (q, x) :: r, h => by
    simp only [keysA, List.map_cons, List.mem_cons, not_or] at h
    show getA k d ((q, x) :: (r ++ (k, a) :: l2)) = _
    unfold getA
    rw [if_neg fun e => h.1 e.symm, getA_old (l1 := r) h.2]
theorem getA_new {k : ByteArray} {d : α} : ∀ {l : List (ByteArray × α)}, k ∉ keysA l → getA k d l = d
  | [], _ => rfl
  | (q, x) :: r, h => by
    simp only [keysA, List.map_cons, List.mem_cons, not_or] at h
    unfold getA
    rw [if_neg fun e => h.1 e.symm, getA_new (l := r) h.2]
theorem keysA_mod (k : ByteArray) (f : α → α) (d : α) (l : List (ByteArray × α)) : (k ∈ keysA l → keysA (modA k f d l) = keysA l) ∧ (k ∉ keysA l → keysA (modA k f d l) = keysA l ++ [k]) := by
  refine ⟨fun h => ?_, fun h => by rw [modA_new h]; simp [keysA]⟩
  obtain ⟨l1, a, l2, rfl, hn⟩ := splitA h
  rw [modA_old hn]
  simp [keysA]
theorem keysA_mem (k k' : ByteArray) (f : α → α) (d : α) (l : List (ByteArray × α)) : k' ∈ keysA (modA k f d l) ↔ k' ∈ keysA l ∨ k' = k := by
  by_cases h : k ∈ keysA l
  · rw [(keysA_mod k f d l).1 h]
    exact ⟨.inl, fun h' => h'.elim id fun e => e ▸ h⟩
  · rw [(keysA_mod k f d l).2 h]
    simp
theorem keysA_nodup {k : ByteArray} {f : α → α} {d : α} {l : List (ByteArray × α)} (h : (keysA l).Nodup) : (keysA (modA k f d l)).Nodup := by
  by_cases hk : k ∈ keysA l
  · rw [(keysA_mod k f d l).1 hk]; exact h
  · rw [(keysA_mod k f d l).2 hk]
    refine List.nodup_append.2 ⟨h, by simp, fun a ha b hb => ?_⟩
    rw [List.mem_singleton.1 hb]
    exact fun e => hk (e ▸ ha)
theorem keysA_len (k : ByteArray) (f : α → α) (d : α) (l : List (ByteArray × α)) : (modA k f d l).length ≤ l.length + 1 := by
  have h1 := keysA_mod k f d l
  by_cases h : k ∈ keysA l
  · have := congrArg List.length (h1.1 h); simp only [keysA, List.length_map] at this; omega
  · have := congrArg List.length (h1.2 h); simp only [keysA, List.length_map, List.length_append, List.length_singleton] at this; omega
end

abbrev In1 := List (ByteArray × List Int)
abbrev Ix := List (ByteArray × In1)
def addI (i : Nat) (L : Ix) (y : Lb) : Ix := modA y.name (fun M => modA y.value (fun r => r ++ [(i : Int)]) [] M) [] L
/-- The index of series' labels. -/
def ixF (S : List (List Lb)) : Ix := (S.foldl (fun p s => (p.1 + 1, s.foldl (addI p.1) p.2)) (0, [])).2
theorem ixF_snd (S : List (List Lb)) : (S.foldl (fun p s => (p.1 + 1, s.foldl (addI p.1) p.2)) ((0, []) : Nat × Ix)).1 = S.length := by
  suffices h : ∀ (S : List (List Lb)) (p : Nat × Ix), (S.foldl (fun p s => (p.1 + 1, s.foldl (addI p.1) p.2)) p).1 = p.1 + S.length by rw [h]; simp
  intro S
  induction S with
  | nil => intro p; rfl
  | cons x r ih => intro p; rw [List.foldl_cons, ih]; simp; omega
theorem ixF_snoc (S : List (List Lb)) (s : List Lb) : ixF (S ++ [s]) = s.foldl (addI S.length) (ixF S) := by
  unfold ixF
  rw [List.foldl_append, List.foldl_cons, List.foldl_nil, ixF_snd]
theorem ixF_take (S : List (List Lb)) (i : Nat) (h : i < S.length) : ixF (S.take (i + 1)) = S[i].foldl (addI i) (ixF (S.take i)) := by
  rw [List.take_succ_eq_append_getElem h, ixF_snoc, List.length_take, Nat.min_eq_left (Nat.le_of_lt h)]

def rowI (L : Ix) (n v : ByteArray) : List Int := getA v [] (getA n [] L)
/-- What is right of an index, of which the first so many series, and so many labels of the next, are known. -/
structure IxOk (P : Nat → ByteArray → ByteArray → Prop) (N : Nat) (L : Ix) : Prop where
  nd : (keysA L).Nodup
  nd2 : ∀ x ∈ L, (keysA x.2).Nodup
  names : ∀ n, n ∈ keysA L ↔ ∃ i v, i < N ∧ P i n v
  vals : ∀ n v, v ∈ keysA (getA n [] L) ↔ ∃ i, i < N ∧ P i n v
  rows : ∀ n v, (rowI L n v).Pairwise (· < ·) ∧ ∀ z : Int, z ∈ rowI L n v ↔ ∃ i : Nat, z = i ∧ i < N ∧ P i n v
/-- The labels of some series. -/
def Says (S : List (List Lb)) (i : Nat) (n v : ByteArray) : Prop := ∃ s, S[i]? = some s ∧ (⟨n, v⟩ : Lb) ∈ s
theorem mem_modA {α : Type} {k : ByteArray} {f : α → α} {d : α} {x : ByteArray × α} : ∀ {l : List (ByteArray × α)}, x ∈ modA k f d l → x ∈ l ∨ ∃ a, x = (k, f a) ∧ (a = d ∨ (k, a) ∈ l)
  | [], h => by
    simp only [modA, List.mem_singleton] at h
    exact .inr ⟨d, h, .inl rfl⟩
  | (q, a) :: r, h => by
    unfold modA at h
    split at h
    · rename_i e
      subst e
      rcases List.mem_cons.1 h with rfl | h
      · exact .inr ⟨a, rfl, .inr (by simp)⟩
      · exact .inl (by simp [h])
    · rcases List.mem_cons.1 h with rfl | h
      · exact .inl (by simp)
      · rcases mem_modA h with h | ⟨b, e, h | h⟩
        · exact .inl (by simp [h])
        · exact .inr ⟨b, e, .inl h⟩
        · exact .inr ⟨b, e, .inr (by simp [h])⟩
theorem IxOk.nil : IxOk (fun _ _ _ => False) 0 [] := by
  refine ⟨by simp [keysA], by simp, fun n => ?_, fun n v => ?_, fun n v => ⟨.nil, fun z => ?_⟩⟩
  · simp [keysA]
  · simp [keysA, getA]
  · simp [rowI, getA]
/-- One label more of the last series. -/
theorem IxOk.add {P : Nat → ByteArray → ByteArray → Prop} {i : Nat} {L : Ix} (h : IxOk P (i + 1) L) (y : Lb) (hy : ¬ P i y.name y.value) : IxOk (fun j n v => P j n v ∨ (j = i ∧ n = y.name ∧ v = y.value)) (i + 1) (addI i L y) := by
  have hg : ∀ n, getA n [] (addI i L y) = if n = y.name then modA y.value (fun r => r ++ [(i : Int)]) [] (getA y.name [] L) else getA n [] L := fun n => getA_mod _ _ _ _ _
  have hr : ∀ n v, rowI (addI i L y) n v = if n = y.name ∧ v = y.value then rowI L n v ++ [(i : Int)] else rowI L n v := by
    intro n v
    unfold rowI
    rw [hg]
    by_cases h1 : n = y.name
    · rw [if_pos h1, getA_mod]
      by_cases h2 : v = y.value
      · rw [if_pos h2, if_pos ⟨h1, h2⟩, h1, h2]
      · rw [if_neg h2, if_neg fun e => h2 e.2, h1]
    · rw [if_neg h1, if_neg fun e => h1 e.1]
  refine ⟨keysA_nodup h.nd, fun x hx => ?_, fun n => ?_, fun n v => ?_, fun n v => ?_⟩
  · rcases mem_modA hx with hx | ⟨a, rfl, rfl | ha⟩
    · exact h.nd2 x hx
    · exact keysA_nodup (by simp [keysA])
    · exact keysA_nodup (h.nd2 _ ha)
  · rw [addI, keysA_mem, h.names]
    constructor
    · rintro (⟨j, v, h1, h2⟩ | rfl)
      · exact ⟨j, v, h1, .inl h2⟩
      · exact ⟨i, y.value, Nat.lt_succ_self i, .inr ⟨rfl, rfl, rfl⟩⟩
    · rintro ⟨j, v, h1, h2 | ⟨_, rfl, _⟩⟩
      · exact .inl ⟨j, v, h1, h2⟩
      · exact .inr rfl
  · rw [hg]
    by_cases h1 : n = y.name
    · rw [if_pos h1, keysA_mem, h.vals]
      subst h1
      constructor
      · rintro (⟨j, h1, h2⟩ | rfl)
        · exact ⟨j, h1, .inl h2⟩
        · exact ⟨i, Nat.lt_succ_self i, .inr ⟨rfl, rfl, rfl⟩⟩
      · rintro ⟨j, h1, h2 | ⟨_, _, rfl⟩⟩
        · exact .inl ⟨j, h1, h2⟩
        · exact .inr rfl
    · rw [if_neg h1, h.vals]
      constructor
      · rintro ⟨j, h1, h2⟩; exact ⟨j, h1, .inl h2⟩
      · rintro ⟨j, h2, h3 | ⟨_, e, _⟩⟩
        · exact ⟨j, h2, h3⟩
        · exact absurd e h1
  · obtain ⟨r1, r2⟩ := h.rows n v
    rw [hr]
    by_cases h1 : n = y.name ∧ v = y.value
    · rw [if_pos h1]
      obtain ⟨rfl, rfl⟩ := h1
      refine ⟨List.pairwise_append.2 ⟨r1, List.pairwise_singleton _ _, fun a ha b hb => ?_⟩, fun z => ?_⟩
      · rw [List.mem_singleton.1 hb]
        obtain ⟨j, rfl, hj, hp⟩ := (r2 a).1 ha
        have : j ≠ i := fun e => hy (e ▸ hp)
        omega
      · rw [List.mem_append, r2, List.mem_singleton]
        constructor
        · rintro (⟨j, h1, h2, h3⟩ | h1)
          · exact ⟨j, h1, h2, .inl h3⟩
          · exact ⟨i, h1, Nat.lt_succ_self i, .inr ⟨rfl, rfl, rfl⟩⟩
        · rintro ⟨j, h1, h2, h3 | ⟨h3, _⟩⟩
          · exact .inl ⟨j, h1, h2, h3⟩
          · exact .inr (by rw [h1, h3])
    · rw [if_neg h1]
      refine ⟨r1, fun z => ?_⟩
      rw [r2]
      constructor
      · rintro ⟨j, h1, h2, h3⟩; exact ⟨j, h1, h2, .inl h3⟩
      · rintro ⟨j, h3, h4, h5 | ⟨_, e⟩⟩
        · exact ⟨j, h3, h4, h5⟩
        · exact absurd e h1
theorem IxOk.congr {P Q : Nat → ByteArray → ByteArray → Prop} {N M : Nat} {L : Ix} (h : IxOk P N L) (e : ∀ i n v, (i < N ∧ P i n v) ↔ (i < M ∧ Q i n v)) : IxOk Q M L := by
  refine ⟨h.nd, h.nd2, fun n => ?_, fun n v => ?_, fun n v => ⟨(h.rows n v).1, fun z => ?_⟩⟩
  · rw [h.names]
    exact ⟨fun ⟨i, v, hp⟩ => ⟨i, v, (e i n v).1 hp⟩, fun ⟨i, v, hp⟩ => ⟨i, v, (e i n v).2 hp⟩⟩
  · rw [h.vals]
    exact ⟨fun ⟨i, hp⟩ => ⟨i, (e i n v).1 hp⟩, fun ⟨i, hp⟩ => ⟨i, (e i n v).2 hp⟩⟩
  · rw [(h.rows n v).2]
    exact ⟨fun ⟨i, hz, hp⟩ => ⟨i, hz, (e i n v).1 hp⟩, fun ⟨i, hz, hp⟩ => ⟨i, hz, (e i n v).2 hp⟩⟩
/-- Names rise in labels that may be. -/
theorem right_names {s : List Lb} (h : rightF s = true) : s.Pairwise fun a b => cmpS a.name b.name = -1 := by
  unfold rightF at h
  rw [Bool.and_eq_true, Bool.not_eq_true'] at h
  have h1 : ∀ i (hi : i + 1 < s.length), cmpS s[i].name s[i + 1].name = -1 := fun i hi => by
    have := anyB_get h.1 (i + 1) hi
    unfold lbad at this
    simp only [Bool.or_eq_false_iff, Bool.and_eq_false_iff, decide_eq_false_iff_not, Bool.not_eq_false', Nat.add_sub_cancel] at this
    rcases this.2.2.2 with h | h
    · omega
    · rw [show s.getD i default = s[i] by simp [show i < s.length by omega], show s.getD (i + 1) default = s[i + 1] by simp [hi]] at h
      exact sLt_iff.1 h
  rw [List.pairwise_iff_getElem]
  intro i j hi hj hij
  induction j with
  | zero => omega
  | succ j ih =>
    by_cases e : i = j
    · subst e; exact h1 i hj
    · exact cmpS_is.trans _ _ _ (ih (by omega) (by omega)) (h1 j hj)
theorem ixF_ok : ∀ (S : List (List Lb)), (∀ s ∈ S, rightF s = true) → IxOk (Says S) S.length (ixF S) := by
  intro S
  induction hn : S.length generalizing S with
  | zero =>
    intro _
    obtain rfl := List.length_eq_zero_iff.1 hn
    refine IxOk.nil.congr fun i n v => ⟨fun h => h.2.elim, fun h => by omega⟩
  | succ N ih =>
    intro hS
    obtain ⟨A, s, rfl⟩ : ∃ A s, S = A ++ [s] := by
      cases hl : S.getLast? with
      | none => rw [List.getLast?_eq_none_iff] at hl; subst hl; cases hn
      | some s => exact ⟨_, s, (List.getLast?_eq_some_iff.1 hl).choose_spec⟩
    have hA : A.length = N := by simpa using hn
    have h0 := ih A hA fun x hx => hS x (by simp [hx])
    have hs := hS s (by simp)
    have hnm := right_names hs
    rw [ixF_snoc, hA]
    suffices h : ∀ j, j ≤ s.length → IxOk (fun i n v => (i < N ∧ Says A i n v) ∨ (i = N ∧ (⟨n, v⟩ : Lb) ∈ s.take j)) (N + 1) ((s.take j).foldl (addI N) (ixF A)) by
      have := h s.length (Nat.le_refl _)
      rw [List.take_length] at this
      refine this.congr fun i n v => ?_
      unfold Says
      constructor
      · rintro ⟨h1, ⟨h2, t, h3, h4⟩ | ⟨rfl, h2⟩⟩
        · exact ⟨h1, t, by rw [List.getElem?_append_left (by omega)]; exact h3, h4⟩
        · exact ⟨h1, s, by rw [List.getElem?_append_right (by omega), hA]; simp, h2⟩
      · rintro ⟨h1, t, h2, h3⟩
        refine ⟨h1, ?_⟩
        by_cases e : i < N
        · rw [List.getElem?_append_left (by omega)] at h2
          exact .inl ⟨e, t, h2, h3⟩
        · obtain rfl : i = N := by omega
          rw [List.getElem?_append_right (by omega), hA] at h2
          simp at h2
          subst h2
          exact .inr ⟨rfl, h3⟩
    intro j
    induction j with
    | zero =>
      intro _
      refine h0.congr fun i n v => ⟨fun h => ⟨by omega, .inl h⟩, fun h => ?_⟩
      rcases h.2 with h | h
      · exact h
      · simp at h
    | succ j ihj =>
      intro hj
      have hlt : j < s.length := hj
      rw [List.take_succ_eq_append_getElem hlt, List.foldl_append]
      have hk := (ihj (by omega)).add (y := s[j]) (fun h => by
        rcases h with ⟨h, _⟩ | ⟨_, h⟩
        · omega
        · obtain ⟨q, hq, e⟩ := List.getElem_of_mem h
          rw [List.getElem_take] at e
          rw [List.length_take] at hq
          have := List.pairwise_iff_getElem.1 hnm q j (by omega) hlt (by omega)
          rw [e] at this
          rw [cmpS_is.self] at this
          omega)
      refine hk.congr fun i n v => ?_
      simp only [List.mem_append, List.mem_singleton]
      constructor
      · rintro ⟨h1, (h2 | ⟨h2, h3⟩) | ⟨h2, h3, h4⟩⟩
        · exact ⟨h1, .inl h2⟩
        · exact ⟨h1, .inr ⟨h2, .inl h3⟩⟩
        · exact ⟨h1, .inr ⟨h2, .inr (by rw [h3, h4])⟩⟩
      · rintro ⟨h1, h2 | ⟨h2, h3 | h3⟩⟩
        · exact ⟨h1, .inl (.inl h2)⟩
        · exact ⟨h1, .inl (.inr ⟨h2, h3⟩)⟩
        · exact ⟨h1, .inr ⟨h2, by rw [← h3], by rw [← h3]⟩⟩
/-- How long rows are. -/
def RowsLe (K : Nat) (L : Ix) : Prop := ∀ x ∈ L, ∀ y ∈ x.2, y.2.length ≤ K
theorem RowsLe.add {K : Nat} {L : Ix} (h : RowsLe K L) (i : Nat) (y : Lb) : RowsLe (K + 1) (addI i L y) := fun x hx z hz => by
  have h1 : ∀ M : In1, (∀ z ∈ M, z.2.length ≤ K) → ∀ z ∈ modA y.value (fun r => r ++ [(i : Int)]) [] M, z.2.length ≤ K + 1 := fun M hM z hz => by
    rcases mem_modA hz with hz | ⟨a, rfl, rfl | ha⟩
    · have := hM z hz; omega
    · simp
    · have := hM _ ha; simp at this ⊢; omega
  rcases mem_modA hx with hx | ⟨a, rfl, rfl | ha⟩
  · have := h x hx z hz; omega
  · exact h1 [] (by simp) z hz
  · exact h1 a (h _ ha) z hz
theorem RowsLe.fold {i : Nat} : ∀ {l : List Lb} {K : Nat} {L : Ix}, RowsLe K L → RowsLe (K + l.length) (l.foldl (addI i) L)
  | [], _, _, h => h
  | y :: r, K, L, h => by
    have := RowsLe.fold (i := i) (l := r) (h.add i y)
    rw [List.foldl_cons]
    simp only [List.length_cons]
    rwa [show K + (r.length + 1) = K + 1 + r.length by omega]
theorem ixF_rows (B : Nat) : ∀ (S : List (List Lb)), (∀ s ∈ S, s.length ≤ B) → RowsLe (S.length * B) (ixF S) := by
  intro S
  induction hn : S.length generalizing S with
  | zero =>
    intro _
    obtain rfl := List.length_eq_zero_iff.1 hn
    intro x hx
    cases hx
  | succ N ih =>
    intro hS
    obtain ⟨A, s, rfl⟩ : ∃ A s, S = A ++ [s] := by
      cases hl : S.getLast? with
      | none => rw [List.getLast?_eq_none_iff] at hl; subst hl; cases hn
      | some s => exact ⟨_, s, (List.getLast?_eq_some_iff.1 hl).choose_spec⟩
    have hA : A.length = N := by simpa using hn
    have h0 := ih A hA fun x hx => hS x (by simp [hx])
    rw [ixF_snoc]
    intro x hx y hy
    have h1 := RowsLe.fold (i := A.length) (l := s) h0 x hx y hy
    have h2 := hS s (by simp)
    rw [Nat.succ_mul]
    omega
end Go.PL
/-
  Plain laws: sets of series' numbers, as rising lists; what an index finds. No program is in sight.
-/
namespace Go.PL
open Go Go.GK

abbrev Ris (l : List Int) : Prop := l.Pairwise (· < ·)
theorem ris_ext : ∀ {a b : List Int}, Ris a → Ris b → (∀ z, z ∈ a ↔ z ∈ b) → a = b
  | [], [], _, _, _ => rfl
  | [], y :: r, _, _, h => absurd ((h y).2 (by simp)) (by simp)
  | x :: r, [], _, _, h => absurd ((h x).1 (by simp)) (by simp)
  | x :: r, y :: s, ha, hb, h => by
    obtain ⟨a1, a2⟩ := List.pairwise_cons.1 ha
    obtain ⟨b1, b2⟩ := List.pairwise_cons.1 hb
    have hxy : x = y := by
      rcases List.mem_cons.1 ((h x).1 (by simp)) with h1 | h1
      · exact h1
      · rcases List.mem_cons.1 ((h y).2 (by simp)) with h2 | h2
        · exact h2.symm
        · have := b1 x h1; have := a1 y h2; omega
    subst hxy
    rw [ris_ext a2 b2 fun z => ⟨fun hz => ?_, fun hz => ?_⟩]
    · rcases List.mem_cons.1 ((h z).1 (by simp [hz])) with rfl | h1
      · have := a1 z hz; omega
      · exact h1
    · rcases List.mem_cons.1 ((h z).2 (by simp [hz])) with rfl | h1
      · have := b1 z hz; omega
      · exact h1
/-- Those below N of which it holds. -/
def upL (N : Nat) (p : Nat → Bool) : List Int := ((List.range N).filter p).map Int.ofNat
theorem mem_upL {N : Nat} {p : Nat → Bool} {z : Int} : z ∈ upL N p ↔ ∃ i : Nat, z = i ∧ i < N ∧ p i = true := by
  unfold upL
  rw [List.mem_map]
  constructor
  · rintro ⟨i, h, rfl⟩
    obtain ⟨h1, h2⟩ := List.mem_filter.1 h
    exact ⟨i, rfl, List.mem_range.1 h1, h2⟩
  · rintro ⟨i, rfl, h1, h2⟩
    exact ⟨i, List.mem_filter.2 ⟨List.mem_range.2 h1, h2⟩, rfl⟩
theorem mem_upL' {N : Nat} {p : Nat → Bool} {i : Nat} (h : i < N) : (i : Int) ∈ upL N p ↔ p i = true := by
  rw [mem_upL]
  constructor
  · rintro ⟨j, e, _, hp⟩
    obtain rfl : i = j := by omega
    exact hp
  · exact fun hp => ⟨i, rfl, h, hp⟩
theorem upL_ris (N : Nat) (p : Nat → Bool) : Ris (upL N p) := by
  unfold upL
  rw [Ris, List.pairwise_map]
  refine List.Pairwise.filter _ ?_
  exact List.pairwise_lt_range.imp fun h => Int.ofNat_lt.2 h
theorem upL_len (N : Nat) (p : Nat → Bool) : (upL N p).length ≤ N := by
  unfold upL
  rw [List.length_map]
  exact Nat.le_trans (List.length_filter_le _ _) (by simp)
theorem upL_congr {N : Nat} {p q : Nat → Bool} (h : ∀ i, i < N → p i = q i) : upL N p = upL N q :=
  ris_ext (upL_ris N p) (upL_ris N q) fun z => by
    rw [mem_upL, mem_upL]
    exact ⟨fun ⟨i, e, h1, h2⟩ => ⟨i, e, h1, by rw [← h i h1]; exact h2⟩, fun ⟨i, e, h1, h2⟩ => ⟨i, e, h1, by rw [h i h1]; exact h2⟩⟩
theorem upL_false (N : Nat) : upL N (fun _ => false) = [] := by
  unfold upL
  rw [List.filter_eq_nil_iff.2 (by simp)]
  rfl
theorem upL_inj {N : Nat} {p q : Nat → Bool} (h : upL N p = upL N q) : ∀ i, i < N → p i = q i := fun i hi => by
  have h1 := mem_upL' (p := p) hi
  have h2 := mem_upL' (p := q) hi
  rw [h] at h1
  rw [Bool.eq_iff_iff, ← h1, ← h2]
/-- Those of the first ones that are, or are not, of the others. -/
def keepF (a b : List Int) (c : Bool) : List Int := a.filter fun n => decide (n ∈ b) == c
theorem keep_up (N : Nat) (p q : Nat → Bool) (c : Bool) : keepF (upL N p) (upL N q) c = upL N fun i => p i && (q i == c) := by
  refine ris_ext ((upL_ris N p).filter _) (upL_ris N _) fun z => ?_
  unfold keepF
  rw [List.mem_filter]
  refine Iff.trans (and_congr_left' mem_upL) (Iff.trans ?_ mem_upL.symm)
  constructor
  · rintro ⟨⟨i, rfl, h1, h2⟩, h3⟩
    refine ⟨i, rfl, h1, ?_⟩
    rw [h2, Bool.true_and]
    have h4 := mem_upL' (p := q) h1
    cases hq : q i with
    | true => rw [decide_eq_true (h4.2 hq)] at h3; exact h3
    | false => rw [decide_eq_false fun h => by rw [h4.1 h] at hq; cases hq] at h3; exact h3
  · rintro ⟨i, rfl, h1, h2⟩
    rw [Bool.and_eq_true] at h2
    refine ⟨⟨i, rfl, h1, h2.1⟩, ?_⟩
    have h4 := mem_upL' (p := q) h1
    cases hq : q i with
    | true => rw [decide_eq_true (h4.2 hq)]; rw [hq] at h2; exact h2.2
    | false => rw [decide_eq_false fun h => by rw [h4.1 h] at hq; cases hq]; rw [hq] at h2; exact h2.2
theorem keep_len (a b : List Int) (c : Bool) : (keepF a b c).length ≤ a.length := List.length_filter_le _ _
/-- Those of either, rising. -/
def IsOr (a b l : List Int) : Prop := Ris l ∧ ∀ z, z ∈ l ↔ z ∈ a ∨ z ∈ b
theorem or_up {N : Nat} {p q : Nat → Bool} {l : List Int} (h : IsOr (upL N p) (upL N q) l) : l = upL N fun i => p i || q i := by
  refine ris_ext h.1 (upL_ris N _) fun z => ?_
  rw [h.2, mem_upL, mem_upL, mem_upL]
  constructor
  · rintro (⟨i, e, h1, h2⟩ | ⟨i, e, h1, h2⟩)
    · exact ⟨i, e, h1, by rw [h2]; rfl⟩
    · exact ⟨i, e, h1, by rw [h2, Bool.or_true]⟩
  · rintro ⟨i, e, h1, h2⟩
    rcases Bool.or_eq_true_iff.1 h2 with h | h
    · exact .inl ⟨i, e, h1, h⟩
    · exact .inr ⟨i, e, h1, h⟩

/-! ### What an index finds -/
def saysB (S : List (List Lb)) (i : Nat) (n v : ByteArray) : Bool := (S.getD i []).any fun y => sEq y.name n && sEq y.value v
def hasB (S : List (List Lb)) (i : Nat) (n : ByteArray) : Bool := (S.getD i []).any fun y => sEq y.name n
theorem saysB_iff {S : List (List Lb)} {i : Nat} {n v : ByteArray} (hi : i < S.length) : saysB S i n v = true ↔ Says S i n v := by
  unfold saysB Says
  rw [show S.getD i [] = S[i] by simp [hi], List.any_eq_true, List.getElem?_eq_getElem hi]
  constructor
  · rintro ⟨y, hy, h⟩
    rw [Bool.and_eq_true, sEq_iff, sEq_iff] at h
    obtain ⟨rfl, rfl⟩ := h
    exact ⟨_, rfl, hy⟩
  · rintro ⟨s, hs, h⟩
    cases hs
    exact ⟨_, h, by simp⟩
theorem row_up {S : List (List Lb)} (hS : ∀ s ∈ S, rightF s = true) (n v : ByteArray) : rowI (ixF S) n v = upL S.length fun i => saysB S i n v := by
  have h := (ixF_ok S hS).rows n v
  refine ris_ext h.1 (upL_ris _ _) fun z => ?_
  rw [h.2, mem_upL]
  exact ⟨fun ⟨i, e, h1, h2⟩ => ⟨i, e, h1, (saysB_iff h1).2 h2⟩, fun ⟨i, e, h1, h2⟩ => ⟨i, e, h1, (saysB_iff h1).1 h2⟩⟩
theorem says_get {s : List Lb} (h : rightF s = true) {n v : ByteArray} : ((s.any fun y => sEq y.name n && sEq y.value v) = true) ↔ ((s.any fun y => sEq y.name n) = true ∧ lgetF s n = v) := by
  have hp := right_names h
  clear h
  induction s with
  | nil => simp
  | cons x r ih =>
    obtain ⟨p1, p2⟩ := List.pairwise_cons.1 hp
    have ih := ih p2
    simp only [List.any_cons, Bool.or_eq_true, Bool.and_eq_true]
    by_cases e : x.name = n
    · have hno : ∀ y ∈ r, sEq y.name n = false := fun y hy => by
        rw [sEq_false]
        intro e'
        have := p1 y hy
        rw [e, e', cmpS_is.self] at this
        omega
      have h1 : (r.any fun y => sEq y.name n && sEq y.value v) = false := by
        rw [List.any_eq_false]
        intro y hy
        rw [hno y hy]
        simp
      rw [h1, sEq_iff.2 e, lgetF, if_pos (sEq_iff.2 e), sEq_iff]
      simp
    · have h0 : sEq x.name n = false := sEq_false.2 e
      rw [h0, lgetF, if_neg (by rw [h0]; decide)]
      simp only [Bool.false_eq_true, false_and, false_or]
      exact ih
theorem get_has {s : List Lb} {n : ByteArray} (h : (s.any fun y => sEq y.name n) = false) : lgetF s n = ⟨#[]⟩ := by
  induction s with
  | nil => rfl
  | cons x r ih =>
    simp only [List.any_cons, Bool.or_eq_false_iff] at h
    rw [lgetF, if_neg (by rw [h.1]; decide), ih h.2]
theorem getD_right {S : List (List Lb)} (hS : ∀ s ∈ S, rightF s = true) {i : Nat} (hi : i < S.length) : rightF (S.getD i []) = true := by
  rw [show S.getD i [] = S[i] by simp [hi]]
  exact hS _ (List.getElem_mem hi)
/-- What a matcher asks of what is said, not turned round. -/
def yesF (m : Mt) (v : ByteArray) : Bool := if m.op = 0 ∨ m.op = 1 then sEq v m.value else if m.op = 2 ∨ m.op = 3 then prefF v m.value else false
abbrev valsI (L : Ix) (n : ByteArray) : List ByteArray := keysA (getA n [] L)
theorem says_any {S : List (List Lb)} (hS : ∀ s ∈ S, rightF s = true) (n : ByteArray) (q : ByteArray → Bool) {i : Nat} (hi : i < S.length) : ((valsI (ixF S) n).any fun v => q v && saysB S i n v) = (hasB S i n && q (lgetF (S.getD i []) n)) := by
  have hr := getD_right hS hi
  rw [Bool.eq_iff_iff, List.any_eq_true, Bool.and_eq_true]
  constructor
  · rintro ⟨v, hv, h⟩
    rw [Bool.and_eq_true] at h
    obtain ⟨h1, h2⟩ := (says_get hr).1 h.2
    exact ⟨h1, by rw [h2]; exact h.1⟩
  · rintro ⟨h1, h2⟩
    have h3 : saysB S i n (lgetF (S.getD i []) n) = true := (says_get hr).2 ⟨h1, rfl⟩
    exact ⟨_, ((ixF_ok S hS).vals n _).2 ⟨i, hi, (saysB_iff hi).1 h3⟩, by rw [h2, h3]; rfl⟩
theorem yes_empty {m : Mt} (hop : 0 ≤ m.op ∧ m.op ≤ 3) : yesF m ⟨#[]⟩ = sEq m.value ⟨#[]⟩ := by
  unfold yesF
  by_cases h : m.op = 0 ∨ m.op = 1
  · rw [if_pos h, Bool.eq_iff_iff, sEq_iff, sEq_iff]; exact eq_comm
  · rw [if_neg h, if_pos (by omega), Bool.eq_iff_iff, prefF_iff, sEq_iff]
    constructor
    · intro hp
      exact ba_inj (List.prefix_nil.1 hp)
    · rintro e
      rw [e]
      exact List.prefix_refl _
/-- Some of a matcher: those that say what it asks, and, if it asks for the empty text, those that say nothing. -/
theorem some_up {S : List (List Lb)} (hS : ∀ s ∈ S, rightF s = true) {m : Mt} (hop : 0 ≤ m.op ∧ m.op ≤ 3) {i : Nat} (hi : i < S.length) :
    (((valsI (ixF S) m.name).any fun v => yesF m v && saysB S i m.name v) || (sEq m.value ⟨#[]⟩ && ((valsI (ixF S) m.name).any (fun v => true && saysB S i m.name v) == false))) = yesF m (lgetF (S.getD i []) m.name) := by
  rw [says_any hS m.name (yesF m) hi, says_any hS m.name (fun _ => true) hi, Bool.and_true]
  cases hh : hasB S i m.name with
  | true => simp
  | false =>
    rw [get_has hh, yes_empty hop]
    simp
theorem lone_yes {l : List Lb} {m : Mt} (hop : 0 ≤ m.op ∧ m.op ≤ 3) : loneF l m = if m.op = 0 ∨ m.op = 2 then yesF m (lgetF l m.name) else !yesF m (lgetF l m.name) := by
  unfold loneF yesF
  by_cases h0 : m.op = 0
  · simp [h0]
  · by_cases h1 : m.op = 1
    · simp [h1]
    · by_cases h2 : m.op = 2
      · simp [h2]
      · obtain h3 : m.op = 3 := by omega
        simp [h3]
/-! ### Counted up -/
def cntU (p : Nat → Bool) (i : Nat) : Nat := ((List.range i).filter p).length
theorem cnt_step (p : Nat → Bool) (i : Nat) : cntU p (i + 1) = cntU p i + if p i = true then 1 else 0 := by
  unfold cntU
  rw [List.range_succ, List.filter_append, List.length_append, List.filter_cons]
  cases p i <;> rfl
theorem cnt_le (p : Nat → Bool) (i : Nat) : cntU p i ≤ i := Nat.le_trans (List.length_filter_le _ _) (by simp)
theorem cnt_len (N : Nat) (p : Nat → Bool) : cntU p N = (upL N p).length := by simp [cntU, upL]
theorem upL_at {N : Nat} {p : Nat → Bool} {i : Nat} (h : i < N) (hp : p i = true) : (upL N p)[cntU p i]? = some (i : Int) := by
  unfold upL cntU
  obtain ⟨k, rfl⟩ : ∃ k, N = i + (1 + k) := ⟨N - i - 1, by omega⟩
  rw [List.range_add, List.filter_append, List.map_append, List.getElem?_append_right (by simp)]
  simp only [List.length_map, Nat.sub_self]
  rw [List.range_add]
  simp [List.range_succ, hp]
/-! ### How many there are -/
def LenLe (K : Nat) (L : Ix) : Prop := L.length ≤ K ∧ ∀ x ∈ L, x.2.length ≤ K
theorem LenLe.add {K : Nat} {L : Ix} (h : LenLe K L) (i : Nat) (y : Lb) : LenLe (K + 1) (addI i L y) := by
  refine ⟨Nat.le_trans (keysA_len _ _ _ _) (by have := h.1; omega), fun x hx => ?_⟩
  rcases mem_modA hx with hx | ⟨a, rfl, rfl | ha⟩
  · have := h.2 x hx; omega
  · exact Nat.le_trans (keysA_len _ _ _ _) (by simp)
  · exact Nat.le_trans (keysA_len _ _ _ _) (by have := h.2 _ ha; simp at this; omega)
theorem LenLe.fold {i : Nat} : ∀ {l : List Lb} {K : Nat} {L : Ix}, LenLe K L → LenLe (K + l.length) (l.foldl (addI i) L)
  | [], _, _, h => h
  | y :: r, K, L, h => by
    have := LenLe.fold (i := i) (l := r) (h.add i y)
    rw [List.foldl_cons]
    simp only [List.length_cons]
    rwa [show K + (r.length + 1) = K + 1 + r.length by omega]
theorem ixF_len (B : Nat) : ∀ (S : List (List Lb)), (∀ s ∈ S, s.length ≤ B) → LenLe (S.length * B) (ixF S) := by
  intro S
  induction hn : S.length generalizing S with
  | zero =>
    intro _
    obtain rfl := List.length_eq_zero_iff.1 hn
    exact ⟨by simp [ixF], fun x hx => by cases hx⟩
  | succ N ih =>
    intro hS
    obtain ⟨A, s, rfl⟩ : ∃ A s, S = A ++ [s] := by
      cases hl : S.getLast? with
      | none => rw [List.getLast?_eq_none_iff] at hl; subst hl; cases hn
      | some s => exact ⟨_, s, (List.getLast?_eq_some_iff.1 hl).choose_spec⟩
    have hA : A.length = N := by simpa using hn
    have h0 := ih A hA fun x hx => hS x (by simp [hx])
    rw [ixF_snoc]
    have h1 := LenLe.fold (i := A.length) (l := s) h0
    have h2 := hS s (by simp)
    have h3 : N * B + s.length ≤ (N + 1) * B := by rw [Nat.succ_mul]; omega
    exact ⟨Nat.le_trans h1.1 h3, fun x hx => Nat.le_trans (h1.2 x hx) h3⟩
theorem vals_len {S : List (List Lb)} {K : Nat} (h : LenLe K (ixF S)) (n : ByteArray) : (valsI (ixF S) n).length ≤ K := by
  unfold valsI
  by_cases hn : n ∈ keysA (ixF S)
  · obtain ⟨l1, M, l2, hL, hn1⟩ := splitA hn
    rw [hL, getA_old hn1, keysA, List.length_map]
    exact h.2 (n, M) (by rw [hL]; simp)
  · rw [getA_new hn]; simp
theorem vals_nodup {S : List (List Lb)} (hS : ∀ s ∈ S, rightF s = true) (n : ByteArray) : (valsI (ixF S) n).Nodup := by
  unfold valsI
  by_cases hn : n ∈ keysA (ixF S)
  · obtain ⟨l1, M, l2, hL, hn1⟩ := splitA hn
    rw [hL, getA_old hn1]
    exact (ixF_ok S hS).nd2 (n, M) (by rw [hL]; simp)
  · rw [getA_new hn]; simp
/-- What a name says in labels that may be is no empty text. -/
theorem right_value {s : List Lb} (h : rightF s = true) {y : Lb} (hy : y ∈ s) : y.value ≠ ⟨#[]⟩ := by
  unfold rightF at h
  rw [Bool.and_eq_true, Bool.not_eq_true'] at h
  obtain ⟨i, hi, rfl⟩ := List.getElem_of_mem hy
  have := anyB_get h.1 i hi
  unfold lbad at this
  simp only [Bool.or_eq_false_iff] at this
  have h2 := this.2.2.1
  rw [show s.getD i default = s[i] by simp [hi]] at h2
  exact sEq_false.1 h2
theorem vals_mem {S : List (List Lb)} (hS : ∀ s ∈ S, rightF s = true) (n v : ByteArray) : v ∈ valsI (ixF S) n ↔ ∃ s ∈ S, lgetF s n = v ∧ v ≠ ⟨#[]⟩ := by
  rw [valsI, (ixF_ok S hS).vals]
  have hget : ∀ s ∈ S, ((⟨n, v⟩ : Lb) ∈ s ↔ (s.any fun y => sEq y.name n && sEq y.value v) = true) := fun s _ => by
    rw [List.any_eq_true]
    constructor
    · intro h; exact ⟨_, h, by simp⟩
    · rintro ⟨y, hy, h⟩
      rw [Bool.and_eq_true, sEq_iff, sEq_iff] at h
      obtain ⟨rfl, rfl⟩ := h
      exact hy
  constructor
  · rintro ⟨i, hi, s, hs, h⟩
    have hm := List.mem_of_getElem? hs
    have hne := right_value (hS s hm) h
    exact ⟨s, hm, ((says_get (hS s hm)).1 ((hget s hm).1 h)).2, hne⟩
  · rintro ⟨s, hm, e, hne⟩
    obtain ⟨i, hi, rfl⟩ := List.getElem_of_mem hm
    refine ⟨i, hi, S[i], by simp [hi], (hget _ hm).2 ((says_get (hS _ hm)).2 ⟨?_, e⟩)⟩
    cases hh : S[i].any fun y => sEq y.name n with
    | true => rfl
    | false => exact absurd (e.symm.trans (get_has hh)) hne
theorem names_some {S : List (List Lb)} (hS : ∀ s ∈ S, rightF s = true) {n : ByteArray} (h : n ∈ keysA (ixF S)) : ∃ v, v ∈ valsI (ixF S) n := by
  obtain ⟨i, v, hi, hv⟩ := ((ixF_ok S hS).names n).1 h
  exact ⟨v, ((ixF_ok S hS).vals n v).2 ⟨i, hi, hv⟩⟩
end Go.PL
/-
  Contracts: own slices of texts, sorted.
-/
namespace Go.Proofs.YtpenlenmpigomaaGreatDoor
open Go.GK Go.PL Go.RowKit Go.Sort
set_option maxRecDepth 100000
abbrev tRow (l : List ByteArray) : List (List GV) := l.map fun x => [gs x]
abbrev tls (l : List ByteArray) : GV := .sl 1 (tRow l)
theorem tRow_len (l : List ByteArray) : (tRow l).length = l.length := by simp [tRow]
/-- Texts, sorted. -/
def sortT (l : List ByteArray) : List ByteArray := ((l.map fun s => s.data.toList).mergeSort fun x y => decide (x ≤ y)).map fun x => ⟨x.toArray⟩
theorem ls_trans : ∀ a b c : List UInt8, decide (a ≤ b) = true → decide (b ≤ c) = true → decide (a ≤ c) = true := fun a b c h1 h2 => by
  rw [decide_eq_true_iff] at *
  exact List.le_trans h1 h2
theorem ls_total : ∀ a b : List UInt8, (decide (a ≤ b) || decide (b ≤ a)) = true := fun a b => by
  rw [Bool.or_eq_true, decide_eq_true_iff, decide_eq_true_iff]
  exact List.le_total a b
theorem sortT_mem (l : List ByteArray) (x : ByteArray) : x ∈ sortT l ↔ x ∈ l := by
  unfold sortT
  rw [List.mem_map]
  constructor
  · rintro ⟨y, hy, rfl⟩
    rw [List.mem_mergeSort] at hy
    obtain ⟨z, hz, rfl⟩ := List.mem_map.1 hy
    rw [show (⟨z.data.toList.toArray⟩ : ByteArray) = z from ba_inj (by simp)]
    exact hz
  · intro h
    exact ⟨x.data.toList, List.mem_mergeSort.2 (List.mem_map_of_mem h), ba_inj (by simp)⟩
theorem sortT_len (l : List ByteArray) : (sortT l).length = l.length := by
  unfold sortT
  rw [List.length_map, List.length_mergeSort, List.length_map]
theorem sortT_rise {l : List ByteArray} (h : l.Nodup) : (sortT l).Pairwise fun a b => sLt a b = true := by
  have h1 := List.pairwise_mergeSort (le := fun x y : List UInt8 => decide (x ≤ y)) ls_trans ls_total (l.map fun s => s.data.toList)
  have h2 : ((l.map fun s => s.data.toList).mergeSort fun x y => decide (x ≤ y)).Nodup := by
    rw [(List.mergeSort_perm _ _).nodup_iff]
    exact List.pairwise_map.2 (h.imp fun hne e => hne (ba_inj e))
  unfold sortT
  rw [List.pairwise_map]
  refine List.Pairwise.imp (fun {a b} h => ?_) (h1.and h2)
  obtain ⟨h3, h4⟩ := h
  rw [sLt, ByteArray.toList_eq, ByteArray.toList_eq, bytesLess_eq, decide_eq_true_iff]
  rw [decide_eq_true_iff] at h3
  exact Std.lt_of_le_of_ne h3 h4
theorem rise_ext : ∀ {a b : List ByteArray}, (a.Pairwise fun x y => sLt x y = true) → (b.Pairwise fun x y => sLt x y = true) → (∀ z, z ∈ a ↔ z ∈ b) → a = b
  | [], [], _, _, _ => rfl
  | [], y :: r, _, _, h => absurd ((h y).2 (by simp)) (by simp)
  | x :: r, [], _, _, h => absurd ((h x).1 (by simp)) (by simp)
  | x :: r, y :: s, ha, hb, h => by
    obtain ⟨a1, a2⟩ := List.pairwise_cons.1 ha
    obtain ⟨b1, b2⟩ := List.pairwise_cons.1 hb
    have irr : ∀ u v : ByteArray, sLt u v = true → sLt v u = true → False := fun u v h1 h2 => by
      rw [sLt_iff] at h1 h2
      have := cmpS_is.anti u v
      omega
    have hxy : x = y := by
      rcases List.mem_cons.1 ((h x).1 (by simp)) with h1 | h1
      · exact h1
      · rcases List.mem_cons.1 ((h y).2 (by simp)) with h2 | h2
        · exact h2.symm
        · exact (irr _ _ (b1 x h1) (a1 y h2)).elim
    subst hxy
    rw [rise_ext a2 b2 fun z => ⟨fun hz => ?_, fun hz => ?_⟩]
    · rcases List.mem_cons.1 ((h z).1 (by simp [hz])) with rfl | h1
      · exact (irr _ _ (a1 z hz) (a1 z hz)).elim
      · exact h1
    · rcases List.mem_cons.1 ((h z).2 (by simp [hz])) with rfl | h1
      · exact (irr _ _ (b1 z hz) (b1 z hz)).elim
      · exact h1
/-- What is sorted hangs on what is there alone. -/
theorem sortT_ext {a b : List ByteArray} (ha : a.Nodup) (hb : b.Nodup) (h : ∀ z, z ∈ a ↔ z ∈ b) : sortT a = sortT b :=
  rise_ext (sortT_rise ha) (sortT_rise hb) fun z => by rw [sortT_mem, sortT_mem]; exact h z
theorem row_tx {ro : Nat → Option Obj} {L : List ByteArray} {xs : List Value} (h : RowOk ro 1 (tRow L) xs) : xs = (L.map fun s => s.data.toList).map encStr := by
  have hl := h.len
  simp only [tRow, List.length_map, Nat.mul_one] at hl
  refine List.ext_getElem? fun i => ?_
  by_cases hi : i < L.length
  · obtain ⟨u, h1, h2⟩ := h.is i [gs L[i]] (by simp [tRow, hi]) 0 (gs L[i]) rfl
    rw [Nat.mul_one, Nat.add_zero] at h1
    cases h2
    rw [h1]
    simp [hi, encStr]
  · rw [List.getElem?_eq_none (by omega), List.getElem?_eq_none (by simp; omega)]
theorem rowOk_tx (ro : Nat → Option Obj) (L : List ByteArray) : RowOk ro 1 (tRow L) (L.map Value.string) := by
  refine ⟨by simp [tRow], fun row hr => ?_, fun i row hr j g hj => ?_, fun u hu => ?_⟩
  · obtain ⟨x, _, rfl⟩ := List.mem_map.1 hr
    rfl
  · rw [List.getElem?_map] at hr
    cases hx : L[i]? with
    | none => rw [hx] at hr; cases hr
    | some x =>
      rw [hx] at hr
      cases hr
      cases j with
      | zero => simp at hj; subst hj; exact ⟨.string x, by simp [hx], .v _⟩
      | succ j => simp at hj
  · obtain ⟨x, _, rfl⟩ := List.mem_map.1 hu
    rfl
theorem sortT_enc (L : List ByteArray) : ((L.map fun s => s.data.toList).mergeSort fun x y => decide (x ≤ y)).map encStr = (sortT L).map Value.string := by
  unfold sortT
  rw [List.map_map]
  rfl
/-- What sorts own texts. -/
theorem sortT_of {F : FuncId} (hcall : ∀ a w, (callFunc F a).run pg.P w = .ok (.enter F a) w) (hnone : ∀ (p : Option Addr) (cap : Nat) (w : World), Calls pg.P F #[.slice p 0 cap] w fun e w' => e = .returned (.tuple #[]) ∧ w' = w)
    (hsome : ∀ (blk off cap : Nat) (ss : List (List UInt8)) (w : World), Holds encStr w blk off ss.toArray → blk < w.heap.size → ss.length < 4611686018427387904 → Calls pg.P F #[.slice (some ⟨blk, off, none⟩) ss.length cap] w fun e w' => e = .returned (.tuple #[]) ∧ ∃ n os, w' = grow (putRow encStr (Sort.ahead w n) blk off (ss.mergeSort fun x y => decide (x ≤ y)).toArray) os)
    (L : List ByteArray) (hL : L.length < 4611686018427387904) : Hf pg F 1 [.o 0] [(0, .row 9 1 (tRow L))] fun g σ' n' => g = .tup [] ∧ σ' = [(0, .row 9 1 (tRow (sortT L)))] ∧ n' = 1 := by
  refine ⟨hcall, fun H us w hn hg hcs hs => ?_⟩
  obtain ⟨hul, hi⟩ := hcs
  have hi0 := (hi 0 (.o 0) rfl).inv_o
  have hus : us = #[H.sv 0] := by
    refine Array.ext (by simpa using hul.symm) (fun i h3 h4 => ?_)
    have h5 : i = 0 := by have : i < 1 := by simpa using h4
                          omega
    subst h5
    have := hi0.1
    rw [Array.getD, dif_pos h3] at this
    simpa using this
  subst hus
  obtain ⟨xs, hown, hrow⟩ := hs.holds (0, .row 9 1 (tRow L)) (by simp)
  have hxs := row_tx hrow
  obtain ⟨hxl, hcase⟩ := hown
  rcases hcase with ⟨hv, hn0⟩ | ⟨gb, cap, cur, hv, _, hgb, hnc, hcm, hcz, htk⟩
  · have hL0 : L = [] := by
      have : (tRow L).length = 0 := hn0
      simpa [tRow] using this
    subst hL0
    rw [hv]
    refine (hnone none 0 w).mono ?_
    rintro _ w' ⟨rfl, hw⟩
    have hw2 : w' = w := hw
    rw [hw2, show sortT [] = [] by simp [sortT]]
    exact ⟨_, .tup [], H, _, rfl, .tup rfl (fun j g h => by simp at h), hs, Fr.refl _ _ _, rfl, rfl, hn⟩
  · simp only [tRow, List.length_map, Nat.mul_one] at hxl hnc hcz htk hv
    have hglt : gb < w.heap.size := (Array.getElem?_eq_some_iff.1 hgb).1
    have hH : Holds encStr w gb 0 (L.map fun s => s.data.toList).toArray := holds_of_block hgb (by rw [List.length_map, htk, hxs])
    rw [hv]
    have hC := hsome gb 0 cap (L.map fun s => s.data.toList) w hH hglt (by simpa using hL)
    rw [List.length_map] at hC
    refine hC.mono ?_
    rintro _ w' ⟨rfl, n, os, rfl⟩
    refine ⟨_, .tup [], H, _, rfl, .tup rfl (fun j g h => by simp at h), ?_, ?_, rfl, rfl, hn⟩
    · have hown' := ownsRow_sorted (n := n) (os := os) (ss := L.map fun s => s.data.toList) (ts := (L.map fun s => s.data.toList).mergeSort fun x y => decide (x ≤ y)) (by rw [List.length_mergeSort]) (Nat.zero_le gb) hgb (cap := cap) (by simpa using hnc) hcm (by simpa using hcz)
      refine ⟨fun b o hr => ?_, fun x hx => ?_, hs.nodup, hs.free, fun x hx => ?_⟩
      · have hbo := hs.ro b o hr
        have hne : b ≠ gb := fun e => by
          have := hs.free gb (by simp [blks, blocks, hv, Value.ownBlock])
          rw [← e, hr] at this
          cases this
        rw [← hbo]
        exact (grownBy_sorted (w := w) (g := gb) (n := n) (os := os) _).block b (Array.getElem?_eq_some_iff.1 hbo).1 (fun e => hne (Option.some.inj e))
      · simp only [List.mem_cons, List.not_mem_nil, or_false] at hx
        subst hx
        refine ⟨(sortT L).map Value.string, ?_, rowOk_tx _ _⟩
        rw [sortT_enc, List.length_map, ← hv] at hown'
        simpa [tRow, sortT_len] using hown'
      · simp only [List.mem_cons, List.not_mem_nil, or_false] at hx
        subst hx
        exact hs.ids (0, .row 9 1 (tRow L)) (by simp)
    · refine ⟨rfl, rfl, rfl, ?_, fun b hb hnb => ?_, fun b hb => .inl hb, fun b h1 h2 => absurd h1 h2, Hid.le.refl H⟩
      · rw [size_grow, show (putRow encStr (Sort.ahead w n) gb 0 _).heap.size = w.heap.size from Go.Sort.size_putRow _ _ _ _ _]
        omega
      · refine (grownBy_sorted (w := w) (g := gb) (n := n) (os := os) _).block b hb fun e => hnb ?_
        rw [Option.some.inj e]
        simp [blks, blocks, hv, Value.ownBlock]
theorem slSortT_hf (L : List ByteArray) (hL : L.length < 4611686018427387904) : Hf pg 22 1 [.o 0] [(0, .row 9 1 (tRow L))] fun g σ' n' => g = .tup [] ∧ σ' = [(0, .row 9 1 (tRow (sortT L)))] ∧ n' = 1 :=
  sortT_of Tryz.call22 Tryz.slices_Sort_string_none Tryz.slices_Sort_string L hL
theorem stringsT_hf (L : List ByteArray) (hL : L.length < 4611686018427387904) : Hf pg 24 1 [.o 0] [(0, .row 9 1 (tRow L))] fun g σ' n' => g = .tup [] ∧ σ' = [(0, .row 9 1 (tRow (sortT L)))] ∧ n' = 1 :=
  sortT_of Tryz.call24 Tryz.sort_Strings_none Tryz.sort_Strings L hL
end Go.Proofs.YtpenlenmpigomaaGreatDoor
/-
  The ghost machine: a region that draws its order: one operation comes up, whose guard is told by a proof.
-/
namespace Go.GK
open Go.RowKit
section
variable {cx : Cx} {T : Post}
theorem RA.one {ops : List Oper} {k : List It} {σs : Heap} {ρq : Env} {fuel : Nat} {listed : List Bool} {s : St} (i : Nat) {oi : Oper} (hr : Region.ready .any ops.toArray listed.toArray = [i])
    (hi : Stp cx T ops k σs ρq fuel listed s i oi) : RA cx T ops k σs ρq (fuel + 1) listed s := by
  have one : ∀ {q : Nat} {o : Oper}, Stp cx T ops k σs ρq fuel listed s q o → ∀ (n0 : Nat) (H0 : Hid) (S0 : List Nat) (w0 : World) (h0 : H0.n = n0) (g0 : GlOk cx.pg H0), Sat H0 σs w0 → (∀ b ∈ blks H0 σs, b ∉ S0) → (∀ b ∈ S0, H0.ro b = none) →
      (∀ H s' w', Sim ⟨cx.pg, cx.N, n0, H0, S0, w0, h0, g0⟩ H s' w' → Sim cx H ⟨s'.ρ, s'.σ ++ σs, s'.n⟩ w') →
      ∀ H a w, Sim ⟨cx.pg, cx.N, n0, H0, S0, w0, h0, g0⟩ H s w → ActOk cx H s.ρ a → EnvOk (H.at H0.ro) ρq a →
      wpOp cx.pg.P ops.toArray (cont cx.pg.P (post cx T) k) q (fun a w => Held S0 w0 w ∧ wpAnyH cx.pg.P .any ops.toArray (cont cx.pg.P (post cx T) k) (Held S0 w0) fuel (listed.toArray.setIfInBounds q true) a w) a w := by
    intro q o hst n0 H0 S0 w0 h0 g0 hσ hap hfree hlink H a w hs ha hq
    obtain ⟨hq', hgd, h⟩ := hst
    unfold wpOp
    have hi' : ops.toArray[q]? = some o := by simpa using hq'
    rw [hi']
    simp only
    have hw := gdOk_wanted (o := o) ha.env hgd
    rw [if_pos hw]
    refine .inl (h n0 H0 S0 w0 h0 g0 H a w _ _ (g0.mono hs.fr.le) hs ha (hlink H s w hs).sat fun H' u g w' s' ρ' hle hi hs' ha' hd hra => ?_)
    rw [set_list]
    refine ⟨hs'.keeps, hra n0 H0 S0 w0 h0 g0 hσ hap hfree hlink H' (a.put o.dst u) w' hs' ha' ?_⟩
    exact EnvOk.at_put (H := H) hq hle (fun d hdd => by rw [ha.size]; exact hd d hdd) hi
  intro n0 H0 S0 w0 h0 g0 hσ hap hfree hlink H a w hs ha hq
  refine wpAnyH_all hr (by simp) (fun q hq' => ?_)
  obtain rfl := List.mem_singleton.1 hq'
  exact one hi n0 H0 S0 w0 h0 g0 hσ hap hfree hlink H a w hs ha hq

end
end Go.GK
/-
  The ghost machine: a contract of a call that sets one cell of an own block, told by its world; what is given beside it is told by a handle.
-/
namespace Go.GK
open Go.RowKit
section
variable {p : Pg}
theorem Ct.set1g {f : FuncId} {t1 t2 ty : TypeId} (m : GV) (old x r : Value) {G : Value → World → Prop} (hG : ∀ (H : Hid) (σ : Heap) (w : World) (u : Value), GlOk p H → Sat H σ w → Is H m u → G u w)
    (h : ∀ u t w, G u w → w.cell? t = some old → w.frozen? t = false → Calls p.P f #[.iface t1 u, .iface t2 (.pointer (some t))] w fun e w' => e = .returned r ∧ ∃ w5, Below w.heap.size w w5 ∧ w' = w5.setCell t x) :
    Ct p f 1 [.ifc t1 m, .ifc t2 (.p 0 0)] [(0, .blk ty [.v old])] (fun g σ n => g = .v r ∧ σ = [(0, .blk ty [.v x])] ∧ n = 1) := by
  intro H us w hn hg hc hs
  obtain ⟨hl, hi⟩ := hc
  have h0 := hi 0 _ rfl
  have h1 := hi 1 _ rfl
  obtain ⟨u0, e0, i0⟩ := h0.inv_ifc
  obtain ⟨u1, e1, i1⟩ := h1.inv_ifc
  have e3 := i1.inv_p
  have hu : us = #[.iface t1 u0, .iface t2 (.pointer (some ⟨H.bl 0, 0, none⟩))] := by
    refine Array.ext (by simpa using hl.symm) (fun i h1 h2 => ?_)
    have h2' : i < 2 := by simpa using h2
    have eg : ∀ j (hj : j < us.size), us.getD j undef = us[j] := fun j hj => by rw [Array.getD, dif_pos hj]; rfl
    match i, h2' with
    | 0, _ => rw [← eg 0 h1, e0]; rfl
    | 1, _ => rw [← eg 1 h1, e1, e3.1]; rfl
  subst hu
  have hb := hs.holds (0, .blk ty [.v old]) (by simp)
  obtain ⟨cs, hh, hl2, hi2⟩ := hb
  have hcs : cs = #[old] := by
    have := cells_vals (vs := [old]) (us := cs) ⟨hl2, hi2⟩
    simpa using this
  subst hcs
  have hid : (0 : Nat) < H.n := hs.ids (0, .blk ty [.v old]) (by simp)
  refine Calls.mono (h u0 ⟨H.bl 0, 0, none⟩ w (hG H _ w u0 hg hs i0) (by unfold World.cell?; rw [hh]; rfl) (by unfold World.frozen?; rw [hh]; rfl)) (fun e w' he => ?_)
  obtain ⟨rfl, w5, hb5, rfl⟩ := he
  have hs5 := hs.below hb5
  have hlt : H.bl 0 < w.heap.size := (Array.getElem?_eq_some_iff.1 hh).1
  have hh5 : w5.heap[H.bl 0]? = some (.cells #[old] ty (0, 0)) := by rw [hb5.block _ hlt]; exact hh
  have hset : (w5.setCell ⟨H.bl 0, 0, none⟩ x).heap[H.bl 0]? = some (.cells #[x] ty (0, 0)) := by
    simp only [World.setCell, Array.getElem?_modify, if_true, hh5]
    rfl
  have hoth : ∀ b, b ≠ H.bl 0 → (w5.setCell ⟨H.bl 0, 0, none⟩ x).heap[b]? = w5.heap[b]? := fun b hb => Below.heap_setCell _ _ _ _ hb
  refine ⟨r, .v r, H, [(0, .blk ty [.v x])], rfl, .ro (.v r), ⟨fun b o hr => ?_, ?_, by simp [blks, blocks], ?_, by simpa using hid⟩, ?_, rfl, rfl, hn⟩
  · rw [hoth b (fun e => ?_)]
    · exact hs5.ro b o hr
    · have := hs.free (H.bl 0) (by simp [blks, blocks])
      rw [← e, hr] at this
      cases this
  · intro y hy
    simp only [List.mem_singleton] at hy
    subst hy
    refine ⟨#[x], hset, rfl, fun j g hj => ?_⟩
    cases j with
    | zero => simp at hj; subst hj; exact .ro (.v x)
    | succ j => simp at hj
  · intro b hb
    exact hs.free b (by simpa [blks, blocks] using hb)
  · refine ⟨hb5.os, hb5.tape, hb5.output, ?_, fun b h1 h2 => ?_, fun b hb => .inl (by simpa [blks, blocks] using hb), fun b h1 h2 => (h2 h1).elim, Hid.le.refl H⟩
    · have := hb5.size
      simpa [World.setCell] using this
    · rw [hoth b (fun e => h2 (by simp [blks, blocks, e]))]
      exact hb5.block b h1
/-- The first cell of a block that is only read. -/
theorem Is.r0 {H : Hid} {σ : Heap} {w : World} {x : Value} {cs : List GV} {u : Value} (hs : Sat H σ w) (h : Is H (.r (.v x :: cs)) u) : ∃ a, u = .pointer (some a) ∧ w.cell? a = some x := by
  cases h with
  | ro h =>
    cases h with
    | r us h1 h2 =>
      rename_i ad
      have e := h1 0 (.v x) rfl
      have e2 := h2 0 (.v x) rfl
      cases e2
      exact ⟨ad, rfl, roCell_cell hs.ro e⟩
end
end Go.GK
/-
  The ghost machine: a string's bytes appended to own bytes.
-/
namespace Go.GK
open Go.RowKit
section
variable {p : Pg} {H : Hid} {w : World}
/-- Own bytes and a string's: which block they lie in afterwards. -/
theorem append_str {P : Program} (w : World) {t u ty e : TypeId} {i : TypeInfo} (ht : P.underlying t = some (.slice e)) (hu : P.underlying u = some .string) (hi : P.info? e = some i) (hz : i.zero = some (.int .u8 0)) (hsize : i.size = 1) (hby : i.bytes = 1)
    {v : Value} {n : Nat} {xs : List Value} (hown : w.ownsRow 0 e 1 v n xs) (s : ByteArray) (hb : n + s.size ≤ 140737488355328) :
    ∃ v' w', (Builtin.append_ #[t, u] ty #[v, .string s]).run P w = .ok v' w' ∧ w'.ownsRow 0 e 1 v' (n + s.size) (xs ++ Lib.strCells s) ∧ w.grownBy w' v.ownBlock ∧ (v'.ownBlock = v.ownBlock ∨ v'.ownBlock = some w.heap.size) := by
  have hm : n + s.size ≤ maxLen := by simp only [maxLen]; omega
  obtain ⟨v', w', hr, ho, hg, hn⟩ := Lib.run_append_own_string (P := P) w 0 t u ty e i ht hu hi hz hsize hby v n xs hown s hm hb (Nat.zero_le _)
  refine ⟨v', w', hr, ho, hg, ?_⟩
  have hxl : xs.length = n := by simpa using hown.1
  rcases hown.2 with ⟨rfl, rfl⟩ | ⟨g, cap, cur, rfl, _, hgc, hnc, _, hcs, _⟩
  · by_cases hs : s.size = 0
    · rw [hn.2 ⟨rfl, hs⟩]
      exact .inl rfl
    · have h2 := run_append_nil_string (P := P) w t u ty e i (.int .u8 0) ht hu hi hz s (by omega) (by omega) (by rw [hby]; omega)
      rw [hr] at h2
      injection h2 with h3
      rw [h3]
      exact .inr rfl
  · by_cases hroom : n + s.size ≤ cap
    · have hcs' : cur.size = cap := by simpa using hcs
      have h2 := Lib.run_append_room_string (P := P) w t u ty e i ht hu hi hsize g n cap cur hgc s hroom (by omega)
      rw [hr] at h2
      injection h2 with h3
      rw [h3]
      exact .inl rfl
    · have h2 := Lib.run_append_grow_string (P := P) w t u ty e i (.int .u8 0) ht hu hi hz ⟨g, 0, none⟩ n cap xs (by rw [hsize]; simpa using hxl) (hown.cells (g := g) rfl) s (by omega) (by omega) (by rw [hby]; exact growslice_fits (by omega) (by omega))
      rw [hr] at h2
      injection h2 with h3
      rw [h3]
      exact .inr rfl
/-- Own rows that grew, in a world of their own. -/
theorem Sim.regrown {cx : Cx} {s : St} (hs : Sim cx H s w) {e sz : Nat} {ud u : Value} {rows news : List (List GV)} {σ' : Heap} {xs ys : List Value} {w' : World}
    (hown' : w'.ownsRow 0 e sz u (rows.length + news.length) (xs ++ ys)) (hrow : RowOk H.ro sz rows xs) (hyr : RowOk H.ro sz news ys) (hin : ∀ b ∈ ud.ownBlock.toList, b ∈ blks H s.σ) (hsub : ∀ x ∈ σ', x ∈ s.σ) (hnd : (blks H σ').Nodup) (hout : ∀ b ∈ ud.ownBlock.toList, b ∉ blks H σ')
    (hgr : w.grownBy w' ud.ownBlock) (hblk : u.ownBlock = ud.ownBlock ∨ u.ownBlock = some w.heap.size) (ρ : Env) :
    ∃ H', H.le H' ∧ Is H' (.o s.n) u ∧ Sim cx H' { ρ := ρ, σ := (s.n, .row e sz (rows ++ news)) :: σ', n := s.n + 1 } w' := by
  have hsl : ∃ A' c', u = .slice A' (rows.length + news.length) c' := by
    rcases hown'.2 with ⟨rfl, hn⟩ | ⟨g, cap, cur, rfl, _⟩
    · exact ⟨none, 0, by rw [hn]⟩
    · exact ⟨_, _, rfl⟩
  obtain ⟨A', c', hue⟩ := hsl
  have hle := H.le_more w.heap.size u
  have esv : (H.more w.heap.size u).sv s.n = u := by simp [Hid.more, hs.n]
  have hn : s.n < (H.more w.heap.size u).n := by simp [Hid.more, hs.n]
  have hlt : ∀ b ∈ blks H s.σ, b < w.heap.size := hs.sat.lt
  have hblkin : ∀ b ∈ u.ownBlock.toList, b ∈ ud.ownBlock.toList ∨ b = w.heap.size := fun b hb => by
    rcases hblk with h | h
    · rw [h] at hb; exact .inl hb
    · rw [h] at hb; simp at hb; exact .inr hb
  have hsubB : ∀ b ∈ blks H σ', b ∈ blks H s.σ := fun b hb => by
    obtain ⟨x, hx, hbx⟩ := List.mem_flatMap.1 hb
    exact List.mem_flatMap.2 ⟨x, hsub x hx, hbx⟩
  have hbl : blks (H.more w.heap.size u) σ' = blks H σ' := blks_le hle (fun x hx => hs.sat.ids x (hsub x hx))
  have hkeep : ∀ b, b < w.heap.size → b ∉ ud.ownBlock.toList → w'.heap[b]? = w.heap[b]? := fun b h1 h2 => hgr.block b h1 (fun e => h2 (by rw [← e]; simp))
  have hblocks : blocks (H.more w.heap.size u) (s.n, Res.row e sz (rows ++ news)) = u.ownBlock.toList := by simp [blocks, esv]
  refine ⟨H.more w.heap.size u, hle, ?_, ?_⟩
  · rw [hue] at esv ⊢
    exact .o hn esv rfl
  · have hfr := hs.fr
    refine ⟨by simp [Hid.more, hs.n], ⟨fun b o ho => ?_, fun x hx => ?_, ?_, fun b hbm => ?_, fun x hx => ?_⟩, ?_⟩
    · have h1 := hs.sat.ro b o ho
      rw [hkeep b (Array.getElem?_eq_some_iff.1 h1).1 (fun hbx => by have h2 := hs.sat.free b (hin b hbx); have h3 : H.ro b = some o := ho; rw [h2] at h3; cases h3)]
      exact h1
    · rcases List.mem_cons.1 hx with rfl | hx
      · refine ⟨xs ++ ys, ?_, (hrow.append hyr).mono hle.ro⟩
        rw [esv]
        simpa using hown'
      · refine holds_congr (w := w) (fun b hb => ?_) (holds_le hle (hs.sat.ids x (hsub x hx)) (hs.sat.holds x (hsub x hx)))
        rw [blocks_le hle (hs.sat.ids x (hsub x hx))] at hb
        have hbm : b ∈ blks H σ' := List.mem_flatMap.2 ⟨x, hx, hb⟩
        exact hkeep b (hlt b (hsubB b hbm)) (fun hc => hout b hc hbm)
    · rw [blks_cons, hbl, hblocks]
      refine List.nodup_append.2 ⟨by cases u.ownBlock <;> simp, hnd, fun b hb c hc e => ?_⟩
      subst e
      rcases hblkin b hb with h | h
      · exact hout b h hc
      · have := hlt b (hsubB b hc); omega
    · show H.ro b = none
      rw [blks_cons, hbl, hblocks] at hbm
      rcases List.mem_append.1 hbm with h | h
      · rcases hblkin b h with h | h
        · exact hs.sat.free b (hin b h)
        · exact hs.sat.none_size b (by omega)
      · exact hs.sat.free b (hsubB b h)
    · rcases List.mem_cons.1 hx with rfl | hx
      · exact hn
      · exact Nat.lt_of_lt_of_le (hs.sat.ids x (hsub x hx)) hle.n
    · refine ⟨hgr.os.trans hfr.os, hgr.tape.trans hfr.tape, hgr.output.trans hfr.output, Nat.le_trans hfr.size hgr.size, fun b h1 h2 => ?_, fun b hbm => ?_, hfr.fro, hfr.le.trans hle⟩
      · rw [hkeep b (Nat.lt_of_lt_of_le h1 hfr.size) (fun hbx => ?_)]
        · exact hfr.keep b h1 h2
        · rcases hfr.own b (hin b hbx) with h | h
          · exact h2 h
          · omega
      · simp only at hbm
        rw [blks_cons, hbl, hblocks] at hbm
        rcases List.mem_append.1 hbm with h | h
        · rcases hblkin b h with h | h
          · exact hfr.own b (hin b h)
          · exact .inr (by have := hfr.size; omega)
        · exact hfr.own b (hsubB b h)
theorem strRow (ro : Nat → Option Obj) (s : ByteArray) : RowOk ro 1 (s.data.toList.map byRow) (Lib.strCells s) := by
  refine ⟨by simp [Lib.strCells], fun row hr => ?_, fun i row hr j g hj => ?_, Lib.strCells_oneCell s⟩
  · obtain ⟨b, _, rfl⟩ := List.mem_map.1 hr
    rfl
  · rw [List.getElem?_map] at hr
    obtain ⟨b, hb, rfl⟩ := Option.map_eq_some_iff.1 hr
    cases j with
    | zero =>
      simp [byRow] at hj
      subst hj
      exact ⟨.int .u8 b.toNat, by simp only [Lib.strCells, Nat.mul_one, Nat.add_zero, List.getElem?_map, hb]; rfl, .v _⟩
    | succ j => simp [byRow] at hj
end
section
variable {cx : Cx} {T : Post}
/-- append(b, s...) of own bytes and a string. -/
theorem JK.appendStr {all : List Oper} {o : Oper} {rest : List Oper} {k : List It} {s : St} {sl x : Operand} {t u e : TypeId} {ti tie : TI} {gd : GV} {str : ByteArray} {rows : List (List GV)} {σ' : Heap} (hp : cx.pg.Ok)
    (ho : o.op = .call { callee := .builtin .append, args := #[sl, x], argTypes := #[t, u] }) (hgd : gdOk all s.ρ o.guard = true)
    (ht : tget cx.pg.tt t = some ti) (htd : ti.d = .slice e) (hu : cx.pg.P.underlying u = some .string) (hte : tget cx.pg.tt e = some tie) (hsz : tie.sz = 1) (hbt : tie.by_ = 1) (hzo : (cx.pg.P.info? e).bind (·.zero) = some (.int .u8 0))
    (hl : ev cx.pg s.ρ sl = some gd) (hx : ev cx.pg s.ρ x = some (.v (.string str))) (hdr : dstRows s.σ e 1 gd = some (rows, σ')) (hb : rows.length + str.size ≤ 140737488355328)
    (h : nfN (s.n + 1) fun m => nfH σ' fun σ' => dput cx.N s.ρ o.dst (.o s.n) fun ρ' => JK cx T (.ops false all rest :: k) ⟨ρ', (s.n, .row e 1 (rows ++ str.data.toList.map byRow)) :: σ', m⟩) : JK cx T (.ops false all (o :: rest) :: k) s := by
  rw [nfN_eq, nfH_eq] at h
  intro H a w hg hs ha
  have hw := gdOk_wanted (o := o) ha.env hgd
  have hut : cx.pg.P.underlying t = some (.slice e) := by have := (hp.tt _ _ ht).d; rw [htd] at this; exact this
  obtain ⟨i, z, hi, hisz, hiby, _, _, _⟩ := (hp.tt _ _ hte).info
  have hxv := (ev_is hg ha.env hx).inv_v
  have hlv := ev_is hg ha.env hl
  obtain ⟨xs, hown, hrow, hin, hsub, hnd, hout⟩ := dstRows_spec hs.sat hlv hdr
  have hz8 : i.zero = some (.int .u8 0) := by
    rw [hi] at hzo
    exact hzo
  obtain ⟨v', w', hr, hown', hgr, hblk⟩ := append_str (P := cx.pg.P) (ty := o.type) w hut hu hi hz8 (hisz.trans hsz) (hiby.trans hbt) hown str hb
  have hln : (str.data.toList.map byRow).length = str.size := by rw [List.length_map]; rfl
  obtain ⟨H', hle, hiu, hsim⟩ := hs.regrown (news := str.data.toList.map byRow) (by rw [hln]; exact hown') hrow (strRow _ str) hin hsub hnd hout hgr hblk s.ρ
  have hrun : (execOp a.eval o).run cx.pg.P w = .ok (.value v') w' := by
    obtain ⟨q, hq⟩ := run_builtin (p := cx.pg) (a := a) rfl o ho w
    rw [hq]
    simp [builtin, hxv, hr]
  obtain ⟨ρ', ha', hJ⟩ := (ha.mono hle).dput (u := v') hiu h
  exact wpList_run hw hrun (hJ _ (a.put o.dst _) w' (hg.mono hle) (hsim.ρ ρ') ha')
end
end Go.GK
/-
  The ghost machine: a piece of an own slice is cleared; an own slice is cut to its beginning.
-/
namespace Go.GK
open Go.RowKit
mutual
theorem idb_up (n : Nat) : ∀ {g : GV}, idb 0 g = true → idb n g = true
  | .v _, _ | .b _, _ | .r _, _ | .sl _ _, _ => rfl
  | .p _ _, h | .e _ _ _ _, h | .o _, h => by simp [idb] at h
  | .agg cs, h => by simp only [idb] at h ⊢; exact idbL_up n cs h
  | .tup cs, h => by simp only [idb] at h ⊢; exact idbL_up n cs h
  | .fn g ks cs, h => by simp only [idb, Bool.and_eq_true] at h ⊢; exact ⟨idbL_up n ks h.1, idbL_up n cs h.2⟩
  | .ifc t x, h => by simp only [idb] at h ⊢; exact idb_up n h
theorem idbL_up (n : Nat) : ∀ (l : List GV), idbL 0 l = true → idbL n l = true
  | [], _ => rfl
  | g :: r, h => by simp only [idbL, Bool.and_eq_true] at h ⊢; exact ⟨idb_up n h.1, idbL_up n r h.2⟩
end
theorem mid_take {α : Type} (A z : List α) (p r : Nat) (hp : p + z.length ≤ r) (hr : r ≤ A.length) : (A.take p ++ z ++ A.drop (p + z.length)).take r = (A.take r).take p ++ z ++ (A.take r).drop (p + z.length) := by
  apply List.ext_getElem?
  intro q
  rw [List.getElem?_take]
  by_cases hq : q < r
  · rw [if_pos hq]
    by_cases h1 : q < p
    · rw [List.append_assoc, List.getElem?_append_left (by simp; omega), List.append_assoc, List.getElem?_append_left (by simp; omega)]
      rw [List.getElem?_take, List.getElem?_take, List.getElem?_take, if_pos h1, if_pos h1, if_pos hq]
    · by_cases h2 : q < p + z.length
      · rw [List.getElem?_append_left (by simp; omega), List.getElem?_append_right (by simp; omega)]
        rw [List.getElem?_append_left (by simp; omega), List.getElem?_append_right (by simp; omega)]
        congr 1
        simp
        omega
      · rw [List.getElem?_append_right (by simp; omega), List.getElem?_append_right (by simp; omega)]
        rw [List.getElem?_drop, List.getElem?_drop, List.getElem?_take, if_pos (by simp; omega)]
        congr 1
        simp
        omega
  · rw [if_neg hq]
    symm
    apply List.getElem?_eq_none
    simp
    omega
section
variable {p : Pg} {H : Hid} {w : World}
/-- Cells of whatever values, as rows. -/
theorem RowOk.vals (ro : Nat → Option Obj) (sz n : Nat) (us : List Value) (hl : us.length = n * sz) (h1 : ∀ u ∈ us, u.oneCell' = true) : ∃ zs : List (List GV), zs.length = n ∧ RowOk ro sz zs us := by
  refine ⟨(List.range n).map fun i => (List.range sz).map fun j => .v (us.getD (i * sz + j) undef), by simp, by simp [hl], fun row hr => ?_, fun i row hr j g hj => ?_, h1⟩
  · obtain ⟨i, _, rfl⟩ := List.mem_map.1 hr
    simp
  · rw [List.getElem?_map] at hr
    obtain ⟨i', hi, rfl⟩ := Option.map_eq_some_iff.1 hr
    have hi1 := (List.getElem?_eq_some_iff.1 hi)
    obtain ⟨hi2, hi3⟩ := hi1
    simp at hi2 hi3
    subst hi3
    rw [List.getElem?_map] at hj
    obtain ⟨j', hj', rfl⟩ := Option.map_eq_some_iff.1 hj
    obtain ⟨hj2, hj3⟩ := List.getElem?_eq_some_iff.1 hj'
    simp at hj2 hj3
    subst hj3
    have hlt : i * sz + j < us.length := by
      rw [hl]
      have := Nat.mul_le_mul_right sz (show i + 1 ≤ n by omega)
      rw [Nat.add_mul] at this
      omega
    exact ⟨us.getD (i * sz + j) undef, by simp [hlt], .v _⟩
theorem RowOk.take {ro : Nat → Option Obj} {sz : Nat} {rows : List (List GV)} {xs : List Value} (h : RowOk ro sz rows xs) (m : Nat) : RowOk ro sz (rows.take m) (xs.take (m * sz)) := by
  refine ⟨?_, fun row hr => h.each row (List.mem_of_mem_take hr), fun i row hr j g hj => ?_, fun u hu => h.one u (List.mem_of_mem_take hu)⟩
  · rw [List.length_take, List.length_take, h.len]
    by_cases hm : m ≤ rows.length
    · have := Nat.mul_le_mul_right sz hm
      rw [Nat.min_eq_left hm, Nat.min_eq_left this]
    · have := Nat.mul_le_mul_right sz (show rows.length ≤ m by omega)
      rw [Nat.min_eq_right (show rows.length ≤ m by omega), Nat.min_eq_right this]
  · rw [List.getElem?_take] at hr
    split at hr
    · rename_i hi
      obtain ⟨u, hu, his⟩ := h.is i row hr j g hj
      refine ⟨u, ?_, his⟩
      have hj' : j < sz := by rw [← h.each row (List.mem_of_getElem? hr)]; exact (List.getElem?_eq_some_iff.1 hj).1
      have := Nat.mul_le_mul_right sz (show i + 1 ≤ m by omega)
      rw [Nat.add_mul] at this
      rw [List.getElem?_take, if_pos (by omega)]
      exact hu
    · cases hr
theorem RowOk.drop {ro : Nat → Option Obj} {sz : Nat} {rows : List (List GV)} {xs : List Value} (h : RowOk ro sz rows xs) (m : Nat) : RowOk ro sz (rows.drop m) (xs.drop (m * sz)) := by
  refine ⟨?_, fun row hr => h.each row (List.mem_of_mem_drop hr), fun i row hr j g hj => ?_, fun u hu => h.one u (List.mem_of_mem_drop hu)⟩
  · rw [List.length_drop, List.length_drop, h.len, Nat.sub_mul]
  · rw [List.getElem?_drop] at hr
    obtain ⟨u, hu, his⟩ := h.is (m + i) row hr j g hj
    refine ⟨u, ?_, his⟩
    rw [List.getElem?_drop, ← hu]
    congr 1
    rw [Nat.add_mul]
    omega
end
section
variable {cx : Cx} {T : Post}
/-- clear of a piece of an own slice: what the piece holds then is left open. -/
theorem JK.clearSub {all : List Oper} {o : Oper} {rest : List Oper} {k : List It} {s : St} {x : Operand} {t e : TypeId} {ti tie : TI} {m id ty sz lo n : Nat} {rows : List (List GV)} (hp : cx.pg.Ok)
    (ho : o.op = .call { callee := .builtin .clear, args := #[x], argTypes := #[t] }) (hgd : gdOk all s.ρ o.guard = true) (ht : tget cx.pg.tt t = some ti) (htd : ti.d = .slice e) (hte : tget cx.pg.tt e = some tie) (hsz : tie.sz = sz) (hone : tie.zero.all (·.oneCell') = true)
    (hx : ev cx.pg s.ρ x = some (.o m)) (hm : hlook s.σ m = some (.sub id sz lo n)) (hl : hlook s.σ id = some (.row ty sz rows)) (hln : lo + n ≤ rows.length)
    (hk : ∀ zs : List (List GV), zs.length = n → dput cx.N s.ρ o.dst (.v (.tuple #[])) fun ρ' => nfH (hset s.σ id (.row ty sz (rows.take lo ++ zs ++ rows.drop (lo + n)))) fun σ' => JK cx T (.ops false all rest :: k) ⟨ρ', σ', s.n⟩) : JK cx T (.ops false all (o :: rest) :: k) s := by
  intro H a w hg hs ha
  have hw := gdOk_wanted (o := o) ha.env hgd
  have hu : cx.pg.P.underlying t = some (.slice e) := by have := (hp.tt _ _ ht).d; rw [htd] at this; exact this
  obtain ⟨i, z, hi, hisz, hiby, hiz, hzc, hzl⟩ := (hp.tt _ _ hte).info
  have hzsz : z.cells.size = sz := by rw [← Array.length_toList, hzc, hzl, hsz]
  have hzone : ∀ v ∈ z.cells.toList, v.oneCell' = true := by rw [hzc]; exact List.all_eq_true.1 hone
  obtain ⟨hv, hmid⟩ := (ev_is hg ha.env hx).inv_o
  obtain ⟨hid, A, c, hsv, hnc, hcm, hAn, hA⟩ := hs.sat.holds _ (hlook_mem hm)
  obtain ⟨xs, hown, hrow⟩ := hs.sat.holds _ (hlook_mem hl)
  have hev : a.eval x = .slice A n c := hv.trans hsv
  have key : ∃ (zs : List (List GV)) (w' : World), zs.length = n ∧ (Builtin.clear_ #[t] o.type #[.slice A n c]).run cx.pg.P w = .ok (.tuple #[]) w' ∧ w'.os = w.os ∧ w'.tape = w.tape ∧ w'.output = w.output ∧ w.heap.size ≤ w'.heap.size ∧ (∀ b, b < w.heap.size → b ∉ blocks H (id, .row ty sz rows) → w'.heap[b]? = w.heap[b]?) ∧
      GK.holds H w' (id, .row ty sz (rows.take lo ++ zs ++ rows.drop (lo + n))) := by
    by_cases hn : n = 0
    · subst hn
      refine ⟨[], w, rfl, ?_, rfl, rfl, rfl, Nat.le_refl _, fun _ _ _ => rfl, ?_⟩
      · simp only [Builtin.clear_]
        cases A <;> simp [run_under hu]
      · simp only [List.append_nil, Nat.add_zero, List.take_append_drop]
        exact ⟨xs, hown, hrow⟩
    · obtain ⟨g, l', c', hsi, hll, rfl⟩ := hA (by omega)
      rcases hown.2 with ⟨he, _⟩ | ⟨g', cap, cur, he, _, hgc, hlc, hcap, hcur, htk⟩
      · rw [hsi] at he; cases he
      · rw [hsi] at he
        injection he with e1 e2 e3
        injection e1 with e1
        injection e1 with e1 _ _
        subst e1
        subst e2
        subst e3
        have hsi' := hsi
        have hmul : (lo + n) * sz ≤ c' * sz := Nat.mul_le_mul_right sz (by omega)
        rw [Nat.add_mul] at hmul
        let zc := (Builtin.zeroCells z.cells n).toList
        have hzcl : zc.length = n * sz := by simp [zc, Builtin.zeroCells, hzsz]
        have hzco : ∀ v ∈ zc, v.oneCell' = true := by
          intro v hv
          simp only [zc, Builtin.zeroCells, Array.toList_map, List.mem_map] at hv
          obtain ⟨q, hq, rfl⟩ := hv
          have hq' : q < n * z.cells.size := by simpa using hq
          have hpos : 0 < z.cells.size := by
            rcases Nat.eq_zero_or_pos z.cells.size with h0 | h0
            · rw [h0] at hq'; omega
            · exact h0
          have hlt := Nat.mod_lt q hpos
          rw [getElem!_pos z.cells _ hlt]
          exact hzone _ (by simp)
        have hst := run_storeCells_at (P := cx.pg.P) g (lo * sz) ty zc 0 cur w hgc (by rw [hzcl, hcur]; omega) hzco
        simp only [Nat.add_zero] at hst
        obtain ⟨zs, hzs, hzr⟩ := RowOk.vals H.ro sz n zc hzcl hzco
        have hheap : ∀ (arr : Array Value), (w.setRow g arr).heap[g]? = some (.cells arr ty (0, 0)) := fun arr => setRow_heap w g cur arr ty _ hgc
        refine ⟨zs, w.setRow g (cur.toList.take (lo * sz) ++ zc ++ cur.toList.drop (lo * sz + zc.length)).toArray, hzs, ?_, ?_, ?_, ?_, ?_, ?_, ?_⟩
        · obtain ⟨n', rfl⟩ : ∃ n', n = n' + 1 := ⟨n - 1, by omega⟩
          have hzv : ∀ w, (zeroValue e).run cx.pg.P w = .ok z w := fun w => by simp [zeroValue, run_tinfo hi, hiz]
          simp [Builtin.clear_, run_under hu, hzv]
          simp [zc] at hst
          simp [hst, zc]
        · rfl
        · rfl
        · rfl
        · simp
        · intro b hb hnb
          refine setRow_other w g b _ fun e => hnb ?_
          subst e
          simp [blocks, hsi, Value.ownBlock]
        · have hR := ((hrow.take lo).append hzr).append (hrow.drop (lo + n))
          refine ⟨xs.take (lo * sz) ++ zc ++ xs.drop ((lo + n) * sz), ?_, hR⟩
          have hlen : (rows.take lo ++ zs ++ rows.drop (lo + n)).length = rows.length := by simp [hzs]; omega
          rw [hlen]
          have hxl : xs.length = rows.length * sz := by simpa using hown.1
          have hm2 : (lo + n) * sz ≤ rows.length * sz := Nat.mul_le_mul_right sz hln
          have hm3 : (lo + n) * sz = lo * sz + n * sz := Nat.add_mul _ _ _
          refine ⟨?_, .inr ⟨g, c', _, hsi, Nat.zero_le _, hheap _, hlc, hcap, ?_, ?_⟩⟩
          · rw [List.length_append, List.length_append, List.length_take, List.length_drop, hxl, hzcl, Nat.min_eq_left (by omega)]; omega
          · rw [List.size_toArray, List.length_append, List.length_append, List.length_take, List.length_drop, Array.length_toList, hzcl, hcur, Nat.min_eq_left (by omega)]; omega
          · have hm4 : rows.length * sz ≤ c' * sz := Nat.mul_le_mul_right sz hlc
            have hcl : cur.toList.length = c' * sz := by simpa using hcur
            have := mid_take cur.toList zc (lo * sz) (rows.length * sz) (by rw [hzcl]; omega) (by rw [hcl]; omega)
            rw [htk, hzcl] at this
            rw [hzcl, hm3]
            exact this
  obtain ⟨zs, w', hzs, hr, hos, htape, hout, hsize, hkeep, hh⟩ := key
  have hrun : (execOp a.eval o).run cx.pg.P w = .ok (.value (.tuple #[])) w' := by
    obtain ⟨q, hq⟩ := run_builtin (p := cx.pg) (a := a) rfl o ho w
    rw [hq]
    simp [builtin, hev, hr]
  have hd := hk zs hzs
  obtain ⟨ρ', ha', hJ⟩ := ha.dput (u := .tuple #[]) (.ro (.v _)) hd
  rw [nfH_eq] at hJ
  exact wpList_run hw hrun (hJ _ (a.put o.dst _) w' hg (hs.put (y := .row ty sz (rows.take lo ++ zs ++ rows.drop (lo + n))) hl rfl hos htape hout hsize hkeep hh ρ') ha')
/-- s[:h] of an own slice: it is an own slice by itself, the longer one is given up. -/
theorem JK.cutO {all : List Oper} {o : Oper} {rest : List Oper} {k : List It} {s : St} {t e : TypeId} {x : Operand} {lo hi : Option Operand} {id ty sz : Nat} {rows : List (List GV)} (hp : cx.pg.Ok) (ho : o.op = .slice t x lo hi none) (hgd : gdOk all s.ρ o.guard = true)
    {ti tie : TI} (ht : tget cx.pg.tt t = some ti) (htd : ti.d = .slice e) (hte : tget cx.pg.tt e = some tie) (hsz : tie.sz = sz) (hx : ev cx.pg s.ρ x = some (.o id)) (hl : hlook s.σ id = some (.row ty sz rows)) {h : Int} (hlo : bnd cx.pg s.ρ 0 lo = some 0) (hhi : bnd cx.pg s.ρ rows.length hi = some h)
    (h1 : 0 ≤ h) (h2 : h ≤ rows.length)
    (hk : nfN (s.n + 1) fun m => nfH (hdel s.σ id) fun σ' => dput cx.N s.ρ o.dst (.o s.n) fun ρ' => JK cx T (.ops false all rest :: k) ⟨ρ', (s.n, .row ty sz (rows.take h.toNat)) :: σ', m⟩) : JK cx T (.ops false all (o :: rest) :: k) s := by
  rw [nfN_eq, nfH_eq] at hk
  intro H a w hg hs ha
  have hw := gdOk_wanted (o := o) ha.env hgd
  have hu : cx.pg.P.underlying t = some (.slice e) := by have := (hp.tt _ _ ht).d; rw [htd] at this; exact this
  have hes := (hp.tt _ _ hte).size
  obtain ⟨hv, hid⟩ := (ev_is hg ha.env hx).inv_o
  obtain ⟨xs, hown, hrow⟩ := hs.sat.holds _ (hlook_mem hl)
  have hA : ∃ A c, H.sv id = .slice A rows.length c ∧ rows.length ≤ c ∧ c ≤ maxLen ∧ w.ownsRow 0 ty sz (.slice A h.toNat c) h.toNat (xs.take (h.toNat * sz)) := by
    have hxl : xs.length = rows.length * sz := by simpa using hown.1
    have hm := Nat.mul_le_mul_right sz (show h.toNat ≤ rows.length by omega)
    rcases hown.2 with ⟨he, hn⟩ | ⟨g, cap, cur, he, h0, hgc, hc, hm', hcs, htk⟩
    · refine ⟨none, 0, by rw [he, hn], by omega, by simp [maxLen], ?_⟩
      have hz : h.toNat = 0 := by omega
      rw [hz]
      exact ⟨by simp, .inl ⟨rfl, rfl⟩⟩
    · refine ⟨_, cap, he, hc, hm', by rw [List.length_take, hxl]; omega, .inr ⟨g, cap, cur, rfl, h0, hgc, by omega, hm', hcs, ?_⟩⟩
      rw [← htk, List.take_take, Nat.min_eq_left hm]
  obtain ⟨A, c, hsv, hc, hm, hown'⟩ := hA
  have hadd : ∀ a : Addr, a.add 0 = a := fun a => by simp [Addr.add]
  have hrun : (execOp a.eval o).run cx.pg.P w = .ok (.value (.slice A h.toNat c)) w := by
    have hb := run_bounds (p := cx.pg) (isS := true) hg ha.env hlo hhi (Int.le_refl 0) h1 h2 hc w
    simp only [execOp, ho, Instr.sliceAt, Sem.run_bind, run_under hu, Result.andThen_ok, Instr.slice, hv, hsv, Option.map_none, hb, hes, hsz]
    cases A <;> simp [hadd]
  obtain ⟨l1, l2, e1, e2, _⟩ := hlook_split hl
  have hnd := hs.sat.nodup
  rw [e1, blks_append, blks_cons] at hnd
  have n1 := List.nodup_append.1 hnd
  have n2 := List.nodup_append.1 n1.2.1
  have hob : ∀ b ∈ (H.sv id).ownBlock.toList, b ∈ blks H s.σ := fun b hb => by
    rw [e1, blks_append, blks_cons]; simp [blocks, hb]
  obtain ⟨H', hle, hiu, hsim⟩ := hs.regrown (e := ty) (sz := sz) (ud := H.sv id) (u := .slice A h.toNat c) (rows := rows.take h.toNat) (news := []) (xs := xs.take (h.toNat * sz)) (ys := []) (σ' := hdel s.σ id) (w' := w)
    (by have hz : (rows.take h.toNat).length + ([] : List (List GV)).length = h.toNat := by simp; omega
        rw [hz, List.append_nil]; exact hown') (hrow.take _) .nil hob
    (fun x hx => by rw [e2] at hx; rw [e1]; rcases List.mem_append.1 hx with h1 | h1 <;> simp [h1])
    (by rw [e2, blks_append]; exact List.nodup_append.2 ⟨n1.1, n2.2.1, fun b hb c hc e => n1.2.2 b hb c (by simp [hc]) e⟩)
    (fun b hb hc => by
      have hb' : b ∈ blocks H (id, Res.row ty sz rows) := by simpa [blocks] using hb
      rw [e2, blks_append] at hc
      rcases List.mem_append.1 hc with h1 | h1
      · exact n1.2.2 b h1 b (by simp [hb']) rfl
      · exact n2.2.2 b hb' b h1 rfl)
    ⟨rfl, rfl, rfl, Nat.le_refl _, fun _ _ _ => rfl⟩ (.inl (by rw [hsv]; cases A <;> rfl)) s.ρ
  rw [List.append_nil] at hsim
  obtain ⟨ρ', ha', hJ⟩ := (ha.mono hle).dput (u := .slice A h.toNat c) hiu hk
  exact wpList_run hw hrun (hJ _ (a.put o.dst _) w (hg.mono hle) (hsim.ρ ρ') ha')
/-- s == nil, s a slice that is only read: if so, it has no rows. -/
theorem JK.eqNil {all : List Oper} {o : Oper} {rest : List Oper} {k : List It} {s : St} {t e t' : TypeId} {x : Operand} {ti : TI} {sz : Nat} {rows : List (List GV)} (hp : cx.pg.Ok) (ho : o.op = .binOp .eql t x (.const (.slice none 0 0)) t') (hgd : gdOk all s.ρ o.guard = true)
    (ht : tget cx.pg.tt t = some ti) (htd : ti.d = .slice e) (hx : ev cx.pg s.ρ x = some (.sl sz rows))
    (hk1 : rows = [] → dput cx.N s.ρ o.dst (.v (.bool true)) fun ρ' => JK cx T (.ops false all rest :: k) ⟨ρ', s.σ, s.n⟩)
    (hk2 : dput cx.N s.ρ o.dst (.v (.bool false)) fun ρ' => JK cx T (.ops false all rest :: k) ⟨ρ', s.σ, s.n⟩) : JK cx T (.ops false all (o :: rest) :: k) s := by
  intro H a w hg hs ha
  have hw := gdOk_wanted (o := o) ha.env hgd
  have hu : cx.pg.P.underlying t = some (.slice e) := by have := (hp.tt _ _ ht).d; rw [htd] at this; exact this
  obtain ⟨A, c, us, hv, hc, hm, he, hne⟩ := (ev_is hg ha.env hx).inv_sl.inv_sl
  have hrun : (execOp a.eval o).run cx.pg.P w = .ok (.value (.bool A.isNone)) w := by
    have := Lib.run_eql_slice_nil (P := cx.pg.P) w t e A rows.length c 0 0 hu
    have hgd : (eqGuard .eql t x (.const (.slice none 0 0)) (.slice A rows.length c) (.slice none 0 0)).run cx.pg.P w = .ok () w := by simp [eqGuard]
    have hc : a.eval (.const (.slice none 0 0)) = .slice none 0 0 := rfl
    simp only [execOp, ho, hv, hc, Sem.run_bind, hgd, Result.andThen_ok, this]
    rfl
  cases A with
  | none =>
    have hr : rows = [] := by
      by_cases h : rows = []
      · exact h
      · obtain ⟨ad, h1, _⟩ := hne h; cases h1
    obtain ⟨ρ', ha', hJ⟩ := ha.dput (u := .bool true) (.ro (.v _)) (hk1 hr)
    exact wpList_run hw hrun (hJ _ (a.put o.dst _) w hg (hs.ρ ρ') ha')
  | some ad =>
    obtain ⟨ρ', ha', hJ⟩ := ha.dput (u := .bool false) (.ro (.v _)) hk2
    exact wpList_run hw hrun (hJ _ (a.put o.dst _) w hg (hs.ρ ρ') ha')
end
/-- A contract, its walk not told as conditions yet. -/
theorem Hf.ofJ {p : Pg} {f : FuncId} {fn : Func} {c : Code} {n0 N : Nat} {args : List GV} {σ : Heap} {Q : GV → Heap → Nat → Prop} (hp : p.Ok) (hf : p.P.funcs[f]? = some fn) (hb : fn.body = some c) (hN : fn.ntmps = N) (hl : Nat.ble args.length N = true) {rs : Array ResultVar} (hr : fn.results = rs)
    (hc : ∀ ar w, (callFunc f ar).run p.P w = .ok (.enter f ar) w)
    (h : ∀ (H0 : Hid) (S0 : List Nat) (w0 : World) (h0 : H0.n = n0) (g0 : GlOk p H0), JK ⟨p, N, n0, H0, S0, w0, h0, g0⟩ (retT p rs.toList Q) [.code c] ⟨argEnv 0 args, σ, n0⟩) : Hf p f n0 args σ Q :=
  ⟨hc, Ct.of_JK hp hf hb hN hl hr h⟩
/-- .. of values alone. -/
theorem Rt.ofJ {p : Pg} {f : FuncId} {fn : Func} {c : Code} {N : Nat} {args : List GV} {G : GV} (hp : p.Ok) (hf : p.P.funcs[f]? = some fn) (hb : fn.body = some c) (hN : fn.ntmps = N) (hl : Nat.ble args.length N = true) {rs : Array ResultVar} (hr : fn.results = rs)
    (hc : ∀ ar w, (callFunc f ar).run p.P w = .ok (.enter f ar) w)
    (h : ∀ (H0 : Hid) (S0 : List Nat) (w0 : World) (h0 : H0.n = 0) (g0 : GlOk p H0), JK ⟨p, N, 0, H0, S0, w0, h0, g0⟩ (retT p rs.toList fun g _ _ => eqG G g ∧ idb 0 g = true) [.code c] ⟨argEnv 0 args, [], 0⟩) : Rt p f args G := by
  have hq : Rq p f args (eqG G) := ⟨hc, Ct.weak (Ct.of_JK hp hf hb hN hl hr h) fun g σ' n' hq => ⟨id, g, [], 0, ⟨hq, rfl, rfl⟩, (ren_id g).symm, trivial, by simp [hq.2, idbH, hids, distB, fixB]⟩⟩
  refine ⟨hc, fun H us w hn hg hcs hs => ?_⟩
  refine (hq.ct H us w hn hg hcs hs).mono ?_
  rintro e w' ⟨u, g, H', σ', rfl, hi, hs', hfr, hq, h1, h2⟩
  exact ⟨u, G, H', σ', rfl, eqG_is hq.1 hi, hs', hfr, ⟨rfl, eqG_idb hq.1 hq.2⟩, h1, h2⟩
/-- What is only read and told by g is told by g', too. -/
def SubR (g' g : GV) : Prop := ∀ {ro : Nat → Option Obj} {u : Value}, IsR ro g u → IsR ro g' u
theorem SubR.rfl {g : GV} : SubR g g := fun h => h
theorem SubR.nil (sz : Nat) : SubR (.sl sz []) (.v (.slice none 0 0)) := fun {ro u} h => by
  cases h
  exact .slnil
inductive SubL : List GV → List GV → Prop
  | nil : SubL [] []
  | cons {x y : GV} {xs ys : List GV} (h : SubR x y) (t : SubL xs ys) : SubL (x :: xs) (y :: ys)
inductive SubRows : List (List GV) → List (List GV) → Prop
  | nil : SubRows [] []
  | cons {x y : List GV} {xs ys : List (List GV)} (h : SubL x y) (t : SubRows xs ys) : SubRows (x :: xs) (y :: ys)
theorem SubL.get : ∀ {xs ys : List GV}, SubL xs ys → xs.length = ys.length ∧ ∀ (j : Nat) (x : GV), xs[j]? = some x → ∃ y, ys[j]? = some y ∧ SubR x y
  | [], [], _ => ⟨_root_.rfl, fun j x h => by simp at h⟩
  | _ :: _, _ :: _, .cons h t => by
    obtain ⟨h1, h2⟩ := t.get
    refine ⟨by simp [h1], fun j x hx => ?_⟩
    cases j with
    | zero => simp at hx; subst hx; exact ⟨_, _root_.rfl, h⟩
    | succ j => obtain ⟨y, hy, hs⟩ := h2 j x (by simpa using hx); exact ⟨y, by simpa using hy, hs⟩
theorem SubRows.get : ∀ {xs ys : List (List GV)}, SubRows xs ys → xs.length = ys.length ∧ ∀ (j : Nat) (x : List GV), xs[j]? = some x → ∃ y, ys[j]? = some y ∧ SubL x y
  | [], [], _ => ⟨_root_.rfl, fun j x h => by simp at h⟩
  | _ :: _, _ :: _, .cons h t => by
    obtain ⟨h1, h2⟩ := t.get
    refine ⟨by simp [h1], fun j x hx => ?_⟩
    cases j with
    | zero => simp at hx; subst hx; exact ⟨_, _root_.rfl, h⟩
    | succ j => obtain ⟨y, hy, hs⟩ := h2 j x (by simpa using hx); exact ⟨y, by simpa using hy, hs⟩
/-- Rows that are told otherwise. -/
theorem Sub.rows {sz : Nat} {rows rows' : List (List GV)} (h : SubRows rows' rows) : Sub (.sl sz rows') (.sl sz rows) := fun {H u} hi => by
  have hr := hi.inv_sl
  obtain ⟨hlen, hget⟩ := h.get
  refine .ro ?_
  cases hr with
  | slnil =>
    have : rows' = [] := List.length_eq_zero_iff.1 hlen
    subst this
    exact .slnil
  | sl us h0 hc hm h1 h2 h3 =>
    rw [← hlen]
    refine .sl us (fun row hrow => ?_) (by rw [hlen]; exact hc) hm (fun i row hrow j g hj => ?_) (fun i row hrow j g hj => ?_) h3
    · obtain ⟨i, hi⟩ := List.getElem?_of_mem hrow
      obtain ⟨y, hy, hs⟩ := hget i row hi
      rw [hs.get.1]
      exact h0 y (List.mem_of_getElem? hy)
    · obtain ⟨y, hy, hs⟩ := hget i row hrow
      obtain ⟨y2, hy2, _⟩ := hs.get.2 j g hj
      exact h1 i y hy j y2 hy2
    · obtain ⟨y, hy, hs⟩ := hget i row hrow
      obtain ⟨y2, hy2, hs2⟩ := hs.get.2 j g hj
      exact hs2 (h2 i y hy j y2 hy2)
end Go.GK
/-
  The ghost machine: two elements of an own row change places, by the function that reflectlite.Swapper hands out.
-/
namespace Go.GK
open Go.RowKit
theorem setCells_row (g : Nat) (t : TypeId) : ∀ (vs : List Value) (o : Nat) (cur : Array Value) (w : World), w.heap[g]? = some (.cells cur t (0, 0)) → o + vs.length ≤ cur.size →
    w.setCells g o vs = w.setRow g (cur.toList.take o ++ vs ++ cur.toList.drop (o + vs.length)).toArray
  | [], o, cur, w, hg, _ => by
    simp only [World.setCells, List.append_nil, List.length_nil, Nat.add_zero, List.take_append_drop, Array.toArray_toList]
    exact (setRow_self w g cur t (0, 0) hg).symm
  | v :: r, o, cur, w, hg, hl => by
    simp only [List.length_cons] at hl
    rw [World.setCells, setCell_eq_setRow w g o cur t (0, 0) v hg, setCells_row g t r (o + 1) (cur.setIfInBounds o v) (w.setRow g (cur.setIfInBounds o v)) (setRow_heap w g cur _ t _ hg) (by simp; omega), setRow_setRow]
    have e := list_seg_step cur.toList o v r (by simp; omega)
    simp only [Array.toList_setIfInBounds]
    rw [e]
    rfl
theorem RowOk.one1 {ro : Nat → Option Obj} {sz : Nat} {row : List GV} {vs : List Value} (hl : vs.length = sz) (hr : row.length = sz) (his : ∀ (j : Nat) (g : GV), row[j]? = some g → ∃ u, vs[j]? = some u ∧ IsR ro g u) (h1 : ∀ u ∈ vs, u.oneCell' = true) : RowOk ro sz [row] vs := by
  refine ⟨by simp [hl], fun r h => by rw [List.mem_singleton.1 h]; exact hr, fun i r hir j g hj => ?_, h1⟩
  cases i with
  | zero =>
    simp at hir
    subst hir
    simpa using his j g hj
  | succ i => simp at hir
/-- A row's cells replaced by others. -/
theorem RowOk.put {ro : Nat → Option Obj} {sz : Nat} {rows : List (List GV)} {xs : List Value} (h : RowOk ro sz rows xs) {i : Nat} (hi : i < rows.length) {row : List GV} {vs : List Value} (hl : vs.length = sz) (hr : row.length = sz) (his : ∀ (j : Nat) (g : GV), row[j]? = some g → ∃ u, vs[j]? = some u ∧ IsR ro g u) (h1 : ∀ u ∈ vs, u.oneCell' = true) :
    RowOk ro sz (rows.set i row) (xs.take (i * sz) ++ vs ++ xs.drop (i * sz + vs.length)) := by
  have e : rows.set i row = rows.take i ++ [row] ++ rows.drop (i + 1) := by
    rw [List.set_eq_take_append_cons_drop, if_pos hi]
    simp
  have e2 : i * sz + vs.length = (i + 1) * sz := by rw [hl, Nat.add_mul, Nat.one_mul]
  rw [e, e2]
  exact ((h.take i).append (.one1 hl hr his h1)).append (h.drop (i + 1))
/-- What a row of a block holds, one element replaced. -/
theorem ownsRow_put {w : World} {e sz : Nat} {g n cap : Nat} {cur : Array Value} {xs vs : List Value} {i : Nat} (hgc : w.heap[g]? = some (.cells cur e (0, 0))) (hn : n ≤ cap) (hcs : cur.size = cap * sz) (htk : cur.toList.take (n * sz) = xs) (hi : i < n) (hl : vs.length = sz) :
    ∃ cur' : Array Value, w.setCells g (0 + i * sz) vs = w.setRow g cur' ∧ (w.setRow g cur').heap[g]? = some (.cells cur' e (0, 0)) ∧ cur'.size = cap * sz ∧ cur'.toList.take (n * sz) = xs.take (i * sz) ++ vs ++ xs.drop (i * sz + vs.length) := by
  have h1 : (i + 1) * sz ≤ n * sz := Nat.mul_le_mul_right sz hi
  have h2 : n * sz ≤ cap * sz := Nat.mul_le_mul_right sz hn
  have h3 : (i + 1) * sz = i * sz + sz := by rw [Nat.add_mul, Nat.one_mul]
  have hcl : cur.toList.length = cap * sz := by simpa using hcs
  refine ⟨(cur.toList.take (i * sz) ++ vs ++ cur.toList.drop (i * sz + vs.length)).toArray, ?_, setRow_heap w g cur _ e _ hgc, ?_, ?_⟩
  · rw [Nat.zero_add]
    exact setCells_row g e vs (i * sz) cur w hgc (by rw [hl, hcs]; omega)
  · rw [List.size_toArray, List.length_append, List.length_append, List.length_take, List.length_drop, hcl, hl, Nat.min_eq_left (by omega)]
    omega
  · have := mid_take cur.toList vs (i * sz) (n * sz) (by rw [hl]; omega) (by rw [hcl]; exact h2)
    rw [htk] at this
    exact this
section
variable {cx : Cx} {T : Post}
/-- swap(i, j). -/
theorem JK.swapX {all : List Oper} {o : Oper} {rest : List Oper} {k : List It} {s : St} {f : FuncId} {gS : Bool} (hx : ∀ args W, (callFunc f args).run cx.pg.P W = ((Extern.ReflectliteSwapper.swap gS args).run cx.pg.P W).andThen fun v w' => .ok (.value v) w')
    {e : TypeId} {ie : TypeInfo} (hie : cx.pg.P.info? e = some ie) (hagg : ∀ w, (isAgg e).run cx.pg.P w = .ok true w) {id sz : Nat} {rows : List (List GV)} {i j : Nat} {r1 r2 : List GV} (hsz : ie.size = sz)
    (hk : callG cx.pg all s.ρ o = some (f, [.v (.int .i64 (i : Int)), .v (.int .i64 (j : Int)), .o id, .v (typeHandle cx.pg.P e)])) (hl : hlook s.σ id = some (.row e sz rows)) (hi : rows[i]? = some r1) (hj : rows[j]? = some r2)
    (h : dputV cx.N s.ρ o.dst (.tup []) fun ρ' => nfH (hset s.σ id (.row e sz ((rows.set i r2).set j r1))) fun σ' => JK cx T (.ops false all rest :: k) ⟨ρ', σ', s.n⟩) : JK cx T (.ops false all (o :: rest) :: k) s := by
  rw [dputV_eq] at h
  obtain ⟨fo, args, ts, first, caps, gs, ho, hgd, hf, he, hargs⟩ := callG_spec hk
  intro H a w hg hs ha
  have hw := gdOk_wanted (o := o) ha.env hgd
  obtain ⟨fs, cs, hv, hfl, hfi, hcl, hci⟩ := (ev_is hg ha.env hf).inv_fn
  have hc : Cells H (first ++ gs ++ caps) (fs ++ args.map a.eval ++ cs) := cells_app (cells_app ⟨hfl, hfi⟩ (evs_cells hg ha.env he)) ⟨hcl, hci⟩
  rw [hargs] at hc
  generalize hus : fs ++ args.map a.eval ++ cs = us at hc
  have g0 := (hc.2 0 _ rfl).inv_v
  have g1 := (hc.2 1 _ rfl).inv_v
  obtain ⟨g2, hid⟩ := (hc.2 2 _ rfl).inv_o
  have g3 := (hc.2 3 _ rfl).inv_v
  have hue : us = #[.int .i64 (i : Int), .int .i64 (j : Int), H.sv id, typeHandle cx.pg.P e] := by
    have h4 : us.size = 4 := hc.1.symm
    apply Array.ext
    · exact h4
    · intro q h5 h6
      have hq : us[q] = us.getD q undef := by simp [Array.getD, h5]
      rw [hq]
      match q, h6 with
      | 0, _ => exact g0
      | 1, _ => exact g1
      | 2, _ => exact g2
      | 3, _ => exact g3
  obtain ⟨xs, hown, hrow⟩ := hs.sat.holds _ (hlook_mem hl)
  have hin : i < rows.length := (List.getElem?_eq_some_iff.1 hi).1
  have hjn : j < rows.length := (List.getElem?_eq_some_iff.1 hj).1
  have hxl : xs.length = rows.length * sz := by simpa using hown.1
  rcases hown.2 with ⟨_, hn⟩ | ⟨g, cap, cur, hsv, _, hgc, hnc, hcm, hcs, htk⟩
  · omega
  have seg : ∀ q, q < rows.length → q * sz + sz ≤ rows.length * sz := fun q hq => by
    have := Nat.mul_le_mul_right sz (show q + 1 ≤ rows.length from hq)
    rwa [Nat.add_mul, Nat.one_mul] at this
  have hcapm : rows.length * sz ≤ cap * sz := Nat.mul_le_mul_right sz hnc
  have hcurx : ∀ t (ht : t < xs.length), cur[t]? = some xs[t] := by
    intro t ht
    have h1 : (cur.toList.take (rows.length * sz))[t]? = some xs[t] := by rw [htk, List.getElem?_eq_getElem ht]
    rw [List.getElem?_take, if_pos (by omega)] at h1
    simpa using h1
  have hcell : ∀ q, q < rows.length → ∀ u v, ((xs.drop (q * sz)).take sz)[u]? = some v → w.cell? ⟨g, 0 + q * sz + u, none⟩ = some v := by
    intro q hq u v huv
    rw [List.getElem?_take] at huv
    split at huv
    · rename_i hu
      rw [List.getElem?_drop] at huv
      obtain ⟨h1, h2⟩ := List.getElem?_eq_some_iff.1 huv
      simp only [World.cell?, hgc, Nat.zero_add]
      rw [if_neg (by simp), hcurx _ h1, h2]
    · cases huv
  have hfr : ∀ q u, w.frozen? ⟨g, 0 + q * sz + u, none⟩ = false := fun q u => by simp [World.frozen?, hgc]
  have hlen : ∀ q, q < rows.length → ((xs.drop (q * sz)).take sz).length = sz := fun q hq => by
    have := seg q hq
    rw [List.length_take, List.length_drop, hxl]; omega
  have hone : ∀ q, ∀ v ∈ (xs.drop (q * sz)).take sz, v.oneCell' = true := fun q v hv => hrow.one v (List.mem_of_mem_drop (List.mem_of_mem_take hv))
  have his : ∀ q r, rows[q]? = some r → ∀ (t : Nat) (gv : GV), r[t]? = some gv → ∃ u, ((xs.drop (q * sz)).take sz)[t]? = some u ∧ IsR H.ro gv u := fun q r hqr t gv ht => by
    obtain ⟨u, h1, h2⟩ := hrow.is q r hqr t gv ht
    have hts : t < sz := by rw [← hrow.each r (List.mem_of_getElem? hqr)]; exact (List.getElem?_eq_some_iff.1 ht).1
    exact ⟨u, by rw [List.getElem?_take, if_pos hts, List.getElem?_drop]; exact h1, h2⟩
  have hsw := Lib.run_swap_cells (P := cx.pg.P) gS e ie hie hagg g 0 rows.length cap i j hin hjn ((xs.drop (i * sz)).take sz) ((xs.drop (j * sz)).take sz) (by rw [hsz]; exact hlen i hin) (by rw [hsz]; exact hlen j hjn) (hone i) (hone j) w
    (by rw [hsz]; exact hcell i hin) (by rw [hsz]; exact hcell j hjn) (fun u _ => by rw [hsz]; exact hfr i u) (fun u _ => by rw [hsz]; exact hfr j u)
  rw [hsz] at hsw
  have e1 : rows[i]? = some r1 := hi
  have r1l := hrow.each r1 (List.mem_of_getElem? hi)
  have r2l := hrow.each r2 (List.mem_of_getElem? hj)
  obtain ⟨cur1, k1, k2, k3, k4⟩ := ownsRow_put (i := i) hgc hnc hcs htk hin (hlen j hjn)
  obtain ⟨cur2, m1, m2, m3, m4⟩ := ownsRow_put (i := j) k2 hnc k3 k4 hjn (hlen i hin)
  rw [k1, m1] at hsw
  have hR1 := hrow.put hin (hlen j hjn) r2l (his j r2 hj) (hone j)
  have hR2 := hR1.put (i := j) (by simpa using hjn) (hlen i hin) r1l (his i r1 hi) (hone i)
  have hrun : (execOp a.eval o).run cx.pg.P w = .ok (.value (.tuple #[])) ((w.setRow g cur1).setRow g cur2) := by
    simp only [execOp, ho, resolve, hv, Deferred.ofValue, Sem.run_bind, Sem.run_pure, Result.andThen_ok, invoke, hx]
    rw [hus, hue, hsv, hsw]
    rfl
  have hh : GK.holds H ((w.setRow g cur1).setRow g cur2) (id, .row e sz ((rows.set i r2).set j r1)) := by
    refine ⟨_, ?_, hR2⟩
    have hl2 : ((rows.set i r2).set j r1).length = rows.length := by simp
    rw [hl2]
    refine ⟨?_, .inr ⟨g, cap, cur2, hsv, Nat.zero_le _, m2, hnc, hcm, m3, m4⟩⟩
    have := hR2.len
    rwa [hl2] at this
  obtain ⟨ρ', ha', hJ⟩ := ha.dput (u := .tuple #[]) (.tup rfl (fun j g h => by simp at h)) h
  rw [nfH_eq] at hJ
  have hput := hs.put (y := .row e sz ((rows.set i r2).set j r1)) (w' := (w.setRow g cur1).setRow g cur2) hl rfl rfl rfl rfl (by simp) (fun b hb hnb => by
    have hbg : b ≠ g := fun e => hnb (by subst e; simp [blocks, hsv, Value.ownBlock])
    rw [setRow_other _ g b _ hbg, setRow_other _ g b _ hbg]) hh ρ'
  exact wpList_run hw hrun (hJ _ (a.put o.dst _) _ hg hput ha')
end
end Go.GK
/-
  The ghost machine: a region that draws its order: a struct that is built of values may be built as soon as it may be.
-/
namespace Go.GK
open Go.RowKit
mutual
theorem fzb_none (id : Nat) (cs0 : List GV) : ∀ {g : GV}, idb 0 g = true → fzb id cs0 g = g
  | .v _, _ | .b _, _ | .r _, _ | .sl _ _, _ => rfl
  | .p _ _, h | .e _ _ _ _, h | .o _, h => by simp [idb] at h
  | .agg cs, h => by simp only [idb] at h; simp only [fzb, fzbL_none id cs0 cs h]
  | .tup cs, h => by simp only [idb] at h; simp only [fzb, fzbL_none id cs0 cs h]
  | .fn g ks cs, h => by simp only [idb, Bool.and_eq_true] at h; simp only [fzb, fzbL_none id cs0 ks h.1, fzbL_none id cs0 cs h.2]
  | .ifc t x, h => by simp only [idb] at h; simp only [fzb, fzb_none id cs0 h]
theorem fzbL_none (id : Nat) (cs0 : List GV) : ∀ (l : List GV), idbL 0 l = true → fzbL id cs0 l = l
  | [], _ => rfl
  | g :: r, h => by simp only [idbL, Bool.and_eq_true] at h; simp only [fzbL, fzb_none id cs0 h.1, fzbL_none id cs0 r h.2]
end
mutual
theorem frz_none (id sz : Nat) (rows : List (List GV)) : ∀ {g : GV}, idb 0 g = true → frz id sz rows g = g
  | .v _, _ | .b _, _ | .r _, _ | .sl _ _, _ => rfl
  | .p _ _, h | .e _ _ _ _, h | .o _, h => by simp [idb] at h
  | .agg cs, h => by simp only [idb] at h; simp only [frz, frzL_none id sz rows cs h]
  | .tup cs, h => by simp only [idb] at h; simp only [frz, frzL_none id sz rows cs h]
  | .fn g ks cs, h => by simp only [idb, Bool.and_eq_true] at h; simp only [frz, frzL_none id sz rows ks h.1, frzL_none id sz rows cs h.2]
  | .ifc t x, h => by simp only [idb] at h; simp only [frz, frz_none id sz rows h]
theorem frzL_none (id sz : Nat) (rows : List (List GV)) : ∀ (l : List GV), idbL 0 l = true → frzL id sz rows l = l
  | [], _ => rfl
  | g :: r, h => by simp only [idbL, Bool.and_eq_true] at h; simp only [frzL, frz_none id sz rows h.1, frzL_none id sz rows r h.2]
end
/-- A struct is built the same in every world. -/
theorem run_build_all {p : Pg} {H : Hid} {t : Nat} {ti : TI} (hti : TyOk p.P t ti) {fs : List (Nat × Nat × Bool)} (hd : ti.d = .struct fs) {gs : List (Nat × GV)} {vs : Array (Nat × Value)} {cs : List GV} (hl : gs.length = vs.size)
    (hi : ∀ (j : Nat) i g, gs[j]? = some (i, g) → ∃ v, vs.toList[j]? = some (i, v) ∧ Is H g v) (hf : gfill fs gs (ti.zero.map .v) = some cs) : ∃ us, (∀ w, (Instr.build t vs).run p.P w = .ok (.agg us) w) ∧ Cells H cs us := by
  have hd' := hti.d
  rw [hd] at hd'
  obtain ⟨fields, hu, hfs, hin⟩ := hd'
  obtain ⟨it, z, hit, hsz, _, hz, hzc, hzl⟩ := hti.info
  have hzcell : Cells H (ti.zero.map .v) z.cells := by
    have := cells_vs (H := H) ti.zero
    rw [← hzc] at this
    simpa [← hzc] using this
  have hplaces : ∃ places, fields.toList.mapM (fun f => (p.P.info? f.type).map fun i => (f.offset, i.size)) = some places ∧ ∀ (i off sz : Nat) (ag : Bool), fs[i]? = some (off, sz, ag) → places[i]? = some (off, sz) := by
    have key : ∀ (l : List Field), (∀ f ∈ l, (p.P.info? f.type).isSome = true ∧ (p.P.underlying f.type).isSome = true) → l.mapM (fun f => (p.P.info? f.type).map fun i => (f.offset, i.size)) = some (l.map fun f => (f.offset, p.P.cellsOf f.type)) := by
      intro l
      induction l with
      | nil => intro _; rfl
      | cons f l ih =>
        intro h
        obtain ⟨i, hi⟩ := Option.isSome_iff_exists.1 (h f List.mem_cons_self).1
        have := ih (fun g hg => h g (List.mem_cons_of_mem _ hg))
        simp [List.mapM_cons, hi, this, Program.cellsOf]
    refine ⟨_, key _ hin, fun i off sz ag hfi => ?_⟩
    have := hfs i
    rw [hfi] at this
    simp only [List.getElem?_map]
    rw [Array.getElem?_toList]
    cases hff : fields[i]? with
    | none => rw [hff] at this; cases this
    | some f =>
      rw [hff] at this
      simp only [Option.map_some, Option.some.injEq, Prod.mk.injEq] at this ⊢
      exact ⟨this.1.symm, this.2.1.symm⟩
  obtain ⟨places, hpl, hpp⟩ := hplaces
  obtain ⟨us, hus, hc⟩ := fill_is (place := (places.toArray[·]?)) (places := fs) (by simpa using hpp) (gs := gs) (vs := vs.toList) (by simpa using hl) hi hzcell hf
  refine ⟨us, fun w => run_build w t vs us ?_, hc⟩
  unfold Program.built
  simp only [hit, hu, hz, hpl]
  exact hus

section
variable {cx : Cx} {T : Post}
theorem RA.takeB {ops : List Oper} {k : List It} {σs : Heap} {ρq : Env} {fuel : Nat} {listed : List Bool} {s : St} (i : Nat) {o : Oper} {t : TypeId} {parts : Array (Nat × Operand)} {ti : TI} {fs : List (Nat × Nat × Bool)} {gs : List (Nat × GV)} {cs : List GV} (hp : cx.pg.Ok) (hi : ops[i]? = some o) (ho : o.op = .build t parts) (hgd : o.guard = none)
    (ht : tget cx.pg.tt t = some ti) (hd : ti.d = .struct fs) (hps : evp cx.pg ρq parts.toList = some gs) (hc : gfill fs gs (ti.zero.map .v) = some cs)
    (hB : (Region.noSelect ops.toArray && Region.free .any ops.toArray listed.toArray i && (Region.ready .any ops.toArray listed.toArray).contains i) = true) (hT : ∀ ch s, ¬ T (.panic ch) s)
    (h : dputV cx.N s.ρ o.dst (.agg cs) fun ρ' => RA cx T ops k σs (eput ρq o.dst (.agg cs)) fuel (listed.set i true) { s with ρ := ρ' }) : RA cx T ops k σs ρq (fuel + 1) listed s := by
  rw [dputV_eq] at h
  simp only [Bool.and_eq_true] at hB
  obtain ⟨⟨hsel, hf⟩, hr⟩ := hB
  intro n0 H0 S0 w0 h0 g0 hσ hap hfree hlink H a w hs ha hq
  have hpan : ∀ c a w v, cont cx.pg.P (post cx T) k (.panic c) (a.put o.dst v) w → cont cx.pg.P (post cx T) k (.panic c) a w := fun c a w v hc => by
    rw [cont_panic] at hc
    obtain ⟨_, s', _, _, ht⟩ := hc
    exact (hT c s' ht).elim
  obtain ⟨hl, hi2⟩ := evp_is (GlOk.at g0) hq hps
  obtain ⟨us, hrun, hcs⟩ := run_build_all (hp.tt _ _ ht) hd (vs := parts.map fun x => (x.1, a.eval x.2)) (by simpa using hl) (by simpa using hi2) hc
  have hiu : Is (H.at H0.ro) (.agg cs) (.agg us) := .agg hcs.1 hcs.2
  have hiu' : Is H (.agg cs) (.agg us) := hiu.mono (show (H.at H0.ro).le H from ⟨Nat.le_refl _, fun b o ho => hs.fr.le.ro b o ho, fun _ _ => rfl, fun _ _ => rfl⟩)
  have hlt := dput_lt h
  obtain ⟨ρ', ha', hra⟩ := ha.dput hiu' h
  have hw : Region.wanted o (yielded ops.toArray a.tmps) = true := wanted_none hgd
  refine wpAnyH_take (by simpa using hi) hsel hf hr (fun c a w => hpan c a w (.agg us)) (.inl ⟨hw, fun w' _ => ?_⟩) hs.keeps ?_
  · simp only [execOp, ho, Sem.run_bind, hrun, Result.andThen_ok]
    rfl
  · rw [set_list]
    refine hra n0 H0 S0 w0 h0 g0 hσ hap hfree hlink H (a.put o.dst (.agg us)) w (hs.ρ ρ') ha' ?_
    exact EnvOk.at_eput hq (fun d hd => by rw [ha.size]; exact hlt d hd) hiu
end
end Go.GK
/-
  The ghost machine: a slice grown from nothing (slices.Grow of nil); a copy of elements of any size.
-/
namespace Go.GK
open Go.RowKit
section
variable {cx : Cx} {T : Post}
/-- cap of the nil slice. -/
theorem JK.capNil {all : List Oper} {o : Oper} {rest : List Oper} {k : List It} {s : St} {x : Operand} {t e : TypeId} {ti : TI} (hp : cx.pg.Ok) (ho : o.op = .call { callee := .builtin .cap, args := #[x], argTypes := #[t] }) (hgd : gdOk all s.ρ o.guard = true)
    (ht : tget cx.pg.tt t = some ti) (htd : ti.d = .slice e) (hx : ev cx.pg s.ρ x = some (.v (.slice none 0 0)))
    (h : dput cx.N s.ρ o.dst (.v (.int .i64 0)) fun ρ' => JK cx T (.ops false all rest :: k) ⟨ρ', s.σ, s.n⟩) : JK cx T (.ops false all (o :: rest) :: k) s := by
  intro H a w hg hs ha
  have hw := gdOk_wanted (o := o) ha.env hgd
  have hu : cx.pg.P.underlying t = some (.slice e) := by have := (hp.tt _ _ ht).d; rw [htd] at this; exact this
  have hxv := (ev_is hg ha.env hx).inv_v
  have hrun : (execOp a.eval o).run cx.pg.P w = .ok (.value (.int .i64 0)) w := by
    obtain ⟨q, hq⟩ := run_builtin (p := cx.pg) (a := a) rfl o ho w
    rw [hq]
    simp [builtin, hxv, Builtin.cap_, run_under hu, goInt]
  obtain ⟨ρ', ha', hJ⟩ := ha.dput (u := .int .i64 0) (.ro (.v _)) h
  exact wpList_run hw hrun (hJ _ (a.put o.dst _) w hg (hs.ρ ρ') ha')
/-- append(nil, make([]T, n)...): a new own slice of n elements; what they hold is left open. -/
theorem JK.appendZ {all : List Oper} {o : Oper} {rest : List Oper} {k : List It} {s : St} {x y : Operand} {t tn e : TypeId} {ti tie : TI} {kn kq : IntKind} {n sz : Nat} (hp : cx.pg.Ok) (ho : o.op = .call { callee := .builtin .append, args := #[x, y], argTypes := #[t, tn] }) (hgd : gdOk all s.ρ o.guard = true)
    (ht : tget cx.pg.tt t = some ti) (htd : ti.d = .slice e) (htn : cx.pg.P.underlying tn = some (.int kn)) (hte : tget cx.pg.tt e = some tie) (hsz : tie.sz = sz) (h0 : 0 < sz) (hone : tie.zero.all (·.oneCell') = true)
    (hx : ev cx.pg s.ρ x = some (.v (.slice none 0 0))) (hy : ev cx.pg s.ρ y = some (.v (.int kq (n : Int)))) (hn : 0 < n) (hb : n * tie.by_ ≤ 140737488355328) (hm : n ≤ 140737488355328)
    (h : ∀ zs : List (List GV), zs.length = n → nfN (s.n + 1) fun m => dput cx.N s.ρ o.dst (.o s.n) fun ρ' => JK cx T (.ops false all rest :: k) ⟨ρ', (s.n, .row e sz zs) :: s.σ, m⟩) : JK cx T (.ops false all (o :: rest) :: k) s := by
  intro H a w hg hs ha
  have hw := gdOk_wanted (o := o) ha.env hgd
  have hu : cx.pg.P.underlying t = some (.slice e) := by have := (hp.tt _ _ ht).d; rw [htd] at this; exact this
  obtain ⟨i, z, hi, hisz, hiby, hiz, hzc, hzl⟩ := (hp.tt _ _ hte).info
  have hzsz : z.cells.size = sz := by rw [← Array.length_toList, hzc, hzl, hsz]
  have hzone : ∀ v ∈ z.cells.toList, v.oneCell' = true := by rw [hzc]; exact List.all_eq_true.1 hone
  have hxv := (ev_is hg ha.env hx).inv_v
  have hyv := (ev_is hg ha.env hy).inv_v
  have hr := Lib.run_append_grow_zeros (P := cx.pg.P) w t tn o.type e i z kq kn hu htn hi hiz none 0 0 [] (run_firstCells_none w.drew i.size 0 0 0) n hn (by rw [hisz, hsz]; exact h0) (by omega) (by omega) (by rw [hiby]; omega) (by rw [hiby, Nat.zero_add]; exact growslice_fits (by omega) hb)
  rw [Nat.zero_add] at hr
  have hge := grownCap_ge w n 0 e
  have hgm : grownCap w n 0 e ≤ maxLen := grownCap_le_maxLen w n 0 e (by unfold maxLen; omega)
  let zc := (Builtin.zeroCells z.cells n).toList
  have hzcl : zc.length = n * sz := by simp [zc, Builtin.zeroCells, hzsz]
  have hzco : ∀ v ∈ zc, v.oneCell' = true := by
    intro v hv
    simp only [zc, Builtin.zeroCells, Array.toList_map, List.mem_map] at hv
    obtain ⟨q, hq, rfl⟩ := hv
    have hq' : q < n * z.cells.size := by simpa using hq
    have hpos : 0 < z.cells.size := by omega
    have hlt := Nat.mod_lt q hpos
    rw [getElem!_pos z.cells _ hlt]
    exact hzone _ (by simp)
  obtain ⟨zs, hzs, hzr⟩ := RowOk.vals H.ro sz n zc hzcl hzco
  have hj := h zs hzs
  rw [nfN_eq] at hj
  have hown : (w.drew.alloc (.cells (([] : List Value).toArray ++ Builtin.zeroCells z.cells n ++ Builtin.zeroCells z.cells (grownCap w n 0 e - n)) e)).ownsRow 0 e sz (.slice (some ⟨w.heap.size, 0, none⟩) n (grownCap w n 0 e)) n zc := by
    refine ⟨hzcl, .inr ⟨w.heap.size, grownCap w n 0 e, _, rfl, Nat.zero_le _, heap_alloc_new w.drew _, hge, hgm, ?_, ?_⟩⟩
    · simp only [Array.size_append, List.size_toArray, List.length_nil, size_zeroCells, hzsz, Nat.zero_add, ← Nat.add_mul]
      congr 1
      omega
    · have : (([] : List Value).toArray ++ Builtin.zeroCells z.cells n ++ Builtin.zeroCells z.cells (grownCap w n 0 e - n)).toList = zc ++ (Builtin.zeroCells z.cells (grownCap w n 0 e - n)).toList := by simp [zc]
      rw [this, ← hzcl, List.take_left]
  obtain ⟨H', hle, hiu, hsim⟩ := hs.regrown (e := e) (sz := sz) (ud := .slice none 0 0) (u := .slice (some ⟨w.heap.size, 0, none⟩) n (grownCap w n 0 e)) (rows := []) (news := zs) (xs := []) (ys := zc) (σ' := s.σ) (w' := w.drew.alloc (.cells (([] : List Value).toArray ++ Builtin.zeroCells z.cells n ++ Builtin.zeroCells z.cells (grownCap w n 0 e - n)) e))
    (by rw [List.length_nil, Nat.zero_add, hzs, List.nil_append]; exact hown) .nil hzr (by simp [Value.ownBlock]) (fun x hx => hx) hs.sat.nodup (by simp [Value.ownBlock])
    ⟨rfl, rfl, rfl, by simp, fun k hk _ => by first | exact heap_alloc_old w.drew _ k hk | exact heap_alloc_old w.drew _ hk⟩ (.inr rfl) s.ρ
  have hrun : (execOp a.eval o).run cx.pg.P w = .ok (.value (.slice (some ⟨w.heap.size, 0, none⟩) n (grownCap w n 0 e))) (w.drew.alloc (.cells (([] : List Value).toArray ++ Builtin.zeroCells z.cells n ++ Builtin.zeroCells z.cells (grownCap w n 0 e - n)) e)) := by
    obtain ⟨q, hq⟩ := run_builtin (p := cx.pg) (a := a) rfl o ho w
    rw [hq]
    simp only [List.map_toArray, List.map_cons, List.map_nil, builtin, hxv, hyv, Sem.run_bind, hr]
    rfl
  obtain ⟨ρ', ha', hJ⟩ := (ha.mono hle).dput (u := .slice (some ⟨w.heap.size, 0, none⟩) n (grownCap w n 0 e)) hiu hj
  rw [List.nil_append] at hsim
  exact wpList_run hw hrun (hJ _ (a.put o.dst _) _ (hg.mono hle) (hsim.ρ ρ') ha')
end
section
variable {P : Program}
/-- copy: elements of k cells. -/
theorem run_copy_k (w : World) (dT sT ty elem : TypeId) (k b o dLen dCap : Nat) (a : Addr) (sLen sCap n : Nat) (cs : List Value)
    (hu : P.underlying dT = some (.slice elem)) (hs : (P.info? elem).map (·.size) = some k) (hn : n = Nat.min sLen dLen) (hl : cs.length = n * k)
    (hsrc : ∀ j v, cs[j]? = some v → w.cell? (a.add j) = some v) (hc : ∀ j, j < cs.length → (w.cell? ⟨b, o + j, none⟩).isSome = true) (hf : ∀ j, j < cs.length → w.frozen? ⟨b, o + j, none⟩ = false) (h1 : ∀ v ∈ cs, v.oneCell' = true) :
    (Builtin.copy_ #[dT, sT] ty #[.slice (some ⟨b, o, none⟩) dLen dCap, .slice (some a) sLen sCap]).run P w = .ok (goInt n) (w.setCells b o cs) := by
  have hld := run_loadCells_list (P := P) w a cs hsrc
  have hst := run_storeCells_cells (P := P) b o cs 0 w (by simpa using hc) (by simpa using hf) h1
  cases hq : P.info? elem with
  | none => simp [hq] at hs
  | some i =>
    have hi : i.size = k := by simpa [hq] using hs
    simp [Builtin.copy_, run_underlying hu, Builtin.lenOf, Builtin.firstCells, sizeOf, typeInfo, hq, hi, ← hn, ← hl, hld, hst]
end
end Go.GK
/-
  The ghost machine: slices.Insert of one element of two cells into an own slice, by what a raw walk says of it.
-/
namespace Go.GK
open Go.RowKit
theorem ins_take1 (A vs : List Value) {p q m : Nat} (hv : vs.length = m) (hpq : p ≤ q) (hl : q + m ≤ A.length) :
    ((A.take (p + m) ++ (A.take q).drop p ++ A.drop (p + m + ((A.take q).drop p).length)).take p ++ vs ++ (A.take (p + m) ++ (A.take q).drop p ++ A.drop (p + m + ((A.take q).drop p).length)).drop (p + vs.length)).take (q + m) = (A.take q).take p ++ vs ++ (A.take q).drop p := by
  have e1 : ((A.take q).drop p).length = q - p := by simp; omega
  have e2 : (A.take (p + m)).length = p + m := by simp; omega
  rw [e1, hv]
  have a1 : (A.take (p + m) ++ (A.take q).drop p ++ A.drop (p + m + (q - p))).take p = A.take p := by
    rw [List.append_assoc, List.take_append_of_le_length (by omega), List.take_take, Nat.min_eq_left (by omega)]
  have a2 : (A.take (p + m) ++ (A.take q).drop p ++ A.drop (p + m + (q - p))).drop (p + m) = (A.take q).drop p ++ A.drop (p + m + (q - p)) := by
    rw [List.append_assoc, List.drop_left' e2]
  have a3 : (A.take q).take p = A.take p := by rw [List.take_take, Nat.min_eq_left hpq]
  rw [a1, a2, a3, ← List.append_assoc, List.take_left' (by simp; omega)]
theorem ins_take2 (R vs D : List Value) {p q m : Nat} (hv : vs.length = m) (hd : D.length = q - p) (hpq : p ≤ q) (hl : q + m ≤ R.length) :
    ((R.take p ++ vs ++ R.drop (p + vs.length)).take (p + m) ++ D ++ (R.take p ++ vs ++ R.drop (p + vs.length)).drop (p + m + D.length)).take (q + m) = R.take p ++ vs ++ D := by
  have a1 : (R.take p ++ vs ++ R.drop (p + vs.length)).take (p + m) = R.take p ++ vs := List.take_left' (by simp [hv]; omega)
  rw [a1, List.take_left' (by simp [hv, hd]; omega)]
/-- What a raw walk says of slices.Insert(s, i, x), elements of two cells. -/
def InsSays (P : Program) (f : FuncId) (e : TypeId) : Prop :=
  ∀ (v : Value) (n i vb vc : Nat) (xs vs : List Value) (vcur : Array Value) (w : World), w.ownsRow 0 e 2 v n xs → i ≤ n → n < 1000000 → w.heap[vb]? = some (.cells vcur e (0, 0)) → 1 ≤ vc → vc ≤ maxLen → vcur.size = vc * 2 → vcur.toList.take 2 = vs → v.ownBlock ≠ some vb → (∀ u ∈ xs, u.oneCell' = true) → (∀ u ∈ vs, u.oneCell' = true) →
    Calls P f #[v, .int .i64 (i : Int), .slice (some ⟨vb, 0, none⟩) 1 vc] w fun ev w' => ∃ v', ev = .returned v' ∧ w'.ownsRow 0 e 2 v' (n + 1) (xs.take (i * 2) ++ vs ++ xs.drop (i * 2)) ∧ w.grownBy w' v.ownBlock ∧ (v'.ownBlock = v.ownBlock ∨ v'.ownBlock = some w.heap.size)
theorem insert_hf {p : Pg} {f : FuncId} {e : TypeId} (hc : ∀ ar w, (callFunc f ar).run p.P w = .ok (.enter f ar) w) (hI : InsSays p.P f e) (rows : List (List GV)) (r : List GV) (i : Nat) (hi : i ≤ rows.length) (hl : rows.length < 1000000) :
    Hf p f 2 [.o 0, .v (.int .i64 (i : Int)), .o 1] [(0, .row e 2 rows), (1, .row e 2 [r])] fun G σ n => G = .o 2 ∧ σ = [(2, .row e 2 (rows.take i ++ [r] ++ rows.drop i)), (1, .row e 2 [r])] ∧ n = 3 := by
  refine ⟨hc, fun H us w hn hg hcs hs => ?_⟩
  obtain ⟨g0, h0⟩ := (hcs.2 0 _ rfl).inv_o
  have g1 := (hcs.2 1 _ rfl).inv_v
  obtain ⟨g2, h2⟩ := (hcs.2 2 _ rfl).inv_o
  have hue : us = #[H.sv 0, .int .i64 (i : Int), H.sv 1] := by
    have h4 : us.size = 3 := hcs.1.symm
    apply Array.ext
    · exact h4
    · intro q h5 h6
      have hq : us[q] = us.getD q undef := by simp [Array.getD, h5]
      rw [hq]
      match q, h6 with
      | 0, _ => exact g0
      | 1, _ => exact g1
      | 2, _ => exact g2
  obtain ⟨xs, hown, hrow⟩ := hs.holds (0, .row e 2 rows) (by simp)
  obtain ⟨ys, hown1, hrow1⟩ := hs.holds (1, .row e 2 [r]) (by simp)
  rcases hown1.2 with ⟨_, hn1⟩ | ⟨vb, vc, vcur, hsv, _, hgc, hnc, hcm, hcz, htk⟩
  · simp at hn1
  have hnd := hs.nodup
  simp only [blks, List.flatMap_cons, List.flatMap_nil, blocks, List.append_nil] at hnd
  have n1 := List.nodup_append.1 hnd
  have hne : (H.sv 0).ownBlock ≠ some vb := fun e0 => n1.2.2 vb (by rw [e0]; simp) vb (by rw [hsv]; simp [Value.ownBlock]) rfl
  rw [hue]
  have hC := hI (H.sv 0) rows.length i vb vc xs ys vcur w hown hi hl hgc hnc hcm hcz (by simpa using htk) hne hrow.one hrow1.one
  rw [hsv]
  refine hC.mono ?_
  rintro _ w' ⟨v', rfl, hown', hgr, hblk⟩
  let cx : Cx := ⟨p, 0, 2, H, blks H [(0, .row e 2 rows), (1, .row e 2 [r])], w, hn, hg⟩
  have hS : Sim cx H ⟨[], [(0, .row e 2 rows), (1, .row e 2 [r])], 2⟩ w := ⟨hn, hs, Fr.refl _ _ _⟩
  have hR : RowOk H.ro 2 (rows.take i ++ [r] ++ rows.drop i) (xs.take (i * 2) ++ ys ++ xs.drop (i * 2)) := ((hrow.take i).append hrow1).append (hrow.drop i)
  have hlen : (rows.take i ++ [r] ++ rows.drop i).length + ([] : List (List GV)).length = rows.length + 1 := by simp; omega
  obtain ⟨H', hle, hiu, hsim⟩ := hS.regrown (e := e) (sz := 2) (ud := H.sv 0) (u := v') (rows := rows.take i ++ [r] ++ rows.drop i) (news := []) (ys := []) (σ' := [(1, .row e 2 [r])])
    (by rw [hlen, List.append_nil]; exact hown') hR .nil (fun b hb => by simp [blks, blocks, hb]) (fun x hx => by simp at hx; simp [hx]) (by simp only [blks, List.flatMap_cons, List.flatMap_nil, blocks, List.append_nil]; exact n1.2.1)
    (fun b hb hc => by
      simp only [blks, List.flatMap_cons, List.flatMap_nil, blocks, List.append_nil] at hc
      exact n1.2.2 b hb b hc rfl) hgr hblk []
  rw [List.append_nil] at hsim
  exact ⟨v', .o 2, H', _, rfl, hiu, hsim.sat, hsim.fr, rfl, rfl, hsim.n⟩
section
variable {cx : Cx} {T : Post}
/-- s == nil, s an own slice: if so, it has no rows. -/
theorem JK.eqNilO {all : List Oper} {o : Oper} {rest : List Oper} {k : List It} {s : St} {t e t' : TypeId} {x : Operand} {ti : TI} {id ty sz : Nat} {rows : List (List GV)} (hp : cx.pg.Ok) (ho : o.op = .binOp .eql t x (.const (.slice none 0 0)) t') (hgd : gdOk all s.ρ o.guard = true)
    (ht : tget cx.pg.tt t = some ti) (htd : ti.d = .slice e) (hx : ev cx.pg s.ρ x = some (.o id)) (hl : hlook s.σ id = some (.row ty sz rows))
    (hk1 : rows = [] → dput cx.N s.ρ o.dst (.v (.bool true)) fun ρ' => JK cx T (.ops false all rest :: k) ⟨ρ', s.σ, s.n⟩)
    (hk2 : dput cx.N s.ρ o.dst (.v (.bool false)) fun ρ' => JK cx T (.ops false all rest :: k) ⟨ρ', s.σ, s.n⟩) : JK cx T (.ops false all (o :: rest) :: k) s := by
  intro H a w hg hs ha
  have hw := gdOk_wanted (o := o) ha.env hgd
  have hu : cx.pg.P.underlying t = some (.slice e) := by have := (hp.tt _ _ ht).d; rw [htd] at this; exact this
  obtain ⟨hv, hid⟩ := (ev_is hg ha.env hx).inv_o
  obtain ⟨xs, hown, hrow⟩ := hs.sat.holds _ (hlook_mem hl)
  have run : ∀ A c, H.sv id = .slice A rows.length c → (execOp a.eval o).run cx.pg.P w = .ok (.value (.bool A.isNone)) w := fun A c hsv => by
    have := Lib.run_eql_slice_nil (P := cx.pg.P) w t e A rows.length c 0 0 hu
    have hgd : (eqGuard .eql t x (.const (.slice none 0 0)) (.slice A rows.length c) (.slice none 0 0)).run cx.pg.P w = .ok () w := by simp [eqGuard]
    have hc : a.eval (.const (.slice none 0 0)) = .slice none 0 0 := rfl
    simp only [execOp, ho, hv, hsv, hc, Sem.run_bind, hgd, Result.andThen_ok, this]
    rfl
  rcases hown.2 with ⟨he, hn⟩ | ⟨g, cap, cur, he, _⟩
  · have hr : rows = [] := List.length_eq_zero_iff.1 hn
    have hrun := run none 0 (by rw [he, hn])
    obtain ⟨ρ', ha', hJ⟩ := ha.dput (u := .bool true) (.ro (.v _)) (hk1 hr)
    exact wpList_run hw hrun (hJ _ (a.put o.dst _) w hg (hs.ρ ρ') ha')
  · have hrun := run (some ⟨g, 0, none⟩) cap he
    obtain ⟨ρ', ha', hJ⟩ := ha.dput (u := .bool false) (.ro (.v _)) hk2
    exact wpList_run hw hrun (hJ _ (a.put o.dst _) w hg (hs.ρ ρ') ha')
end
end Go.GK
