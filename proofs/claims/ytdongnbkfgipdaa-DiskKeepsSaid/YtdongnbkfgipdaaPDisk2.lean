/-
  Plain laws: a disk's start, file by file, in whatever order; no program is in sight.
-/
import Derived.Test.YtdongnbkfgipdaaPDisk
namespace Go.PL
open Go Go.GK

def inL (left : List Value) (q : Value) : Bool := left.any fun k => vkey k q
/-- Files of which those that are left to come are as they were. -/
def goF (keeps : Int) (left : List Value) (L : List (Value × Fl)) : List (Value × Fl) := L.filterMap fun y => if inL left y.1 = true then some y else (keepF keeps y.2).map fun z => (y.1, z)
theorem goF_cons (keeps : Int) (left : List Value) (y : Value × Fl) (r : List (Value × Fl)) : goF keeps left (y :: r) = (match (if inL left y.1 = true then some y else (keepF keeps y.2).map fun z => (y.1, z)) with | some z => z :: goF keeps left r | none => goF keeps left r) := by
  unfold goF
  rw [List.filterMap_cons]
  split <;> rename_i h <;> rw [h]
theorem goF_all (keeps : Int) {L : List (Value × Fl)} (hs : ∀ y ∈ L, sortB none y.1 = true) : goF keeps (L.map (·.1)) L = L := by
  have : ∀ l : List (Value × Fl), (∀ y ∈ l, inL (L.map (·.1)) y.1 = true) → goF keeps (L.map (·.1)) l = l := by
    intro l
    induction l with
    | nil => intro _; rfl
    | cons y r ih =>
      intro h
      rw [goF_cons, if_pos (h y (by simp)), ih (fun z hz => h z (by simp [hz]))]
  refine this L fun y hy => ?_
  unfold inL
  rw [List.any_eq_true]
  exact ⟨y.1, List.mem_map_of_mem hy, vkey_refl (hs y hy)⟩
theorem goF_none (keeps : Int) (L : List (Value × Fl)) : goF keeps [] L = L.filterMap fun y => (keepF keeps y.2).map fun z => (y.1, z) := rfl
theorem goF_congr {keeps : Int} {l l' : List Value} : ∀ {L : List (Value × Fl)}, (∀ y ∈ L, inL l y.1 = inL l' y.1) → goF keeps l L = goF keeps l' L
  | [], _ => rfl
  | y :: r, h => by rw [goF_cons, goF_cons, h y (by simp), goF_congr (fun z hz => h z (by simp [hz]))]
/-- One file more is done. -/
theorem goF_step {keeps : Int} {k : Value} {x : Fl} {l l' : List Value} (hk : sortB none k = true) (hin : inL l k = true) (hl : ∀ q, sortB none q = true → inL l' q = (inL l q && !vkey k q)) : ∀ {L : List (Value × Fl)}, (∀ y ∈ L, sortB none y.1 = true) → pnodup L → pfind k L = some x →
    pfind k (goF keeps l L) = some x ∧ (match keepF keeps x with | some z => pput k z (goF keeps l L) | none => pdel k (goF keeps l L)) = goF keeps l' L
  | (q, y) :: r, hs, hn, hf => by
    obtain ⟨hn1, hn2⟩ := List.nodup_cons.1 hn
    have hq : sortB none q = true := hs (q, y) (by simp)
    have hr : ∀ z ∈ r, sortB none z.1 = true := fun z hz => hs z (by simp [hz])
    have hf' : (if vkey k q = true then some y else pfind k r) = some x := hf
    by_cases hv : vkey k q = true
    · rw [if_pos hv] at hf'
      have e := vkey_eq (kd := none) hk hq hv
      subst e
      have hkk : vkey k k = true := hv
      have e2 : y = x := Option.some.inj hf'
      subst e2
      have hsame : goF keeps l r = goF keeps l' r := goF_congr fun z hz => by
        rw [hl z.1 (hr z hz)]
        have : vkey k z.1 = false := by
          cases h : vkey k z.1 with
          | false => rfl
          | true =>
            have := vkey_eq (kd := none) hk (hr z hz) h
            exact absurd (List.mem_map.2 ⟨z, hz, this.symm⟩) hn1
        rw [this]
        simp
      have e3 : inL l' k = false := by rw [hl k hk, hkk]; simp
      have e4 : goF keeps l ((k, y) :: r) = (k, y) :: goF keeps l r := by rw [goF_cons, if_pos hin]
      rw [e4, goF_cons, if_neg (by show ¬ inL l' k = true; rw [e3]; decide)]
      refine ⟨?_, ?_⟩
      · show (if vkey k k = true then some y else _) = _
        rw [if_pos hkk]
      · show (match keepF keeps y with | some z => pput k z ((k, y) :: goF keeps l r) | none => pdel k ((k, y) :: goF keeps l r)) = (match (keepF keeps y).map fun z => (k, z) with | some z => z :: goF keeps l' r | none => goF keeps l' r)
        cases hkf : keepF keeps y with
        | none =>
          show (if vkey k k = true then goF keeps l r else _) = _
          rw [if_pos hkk]; exact hsame
        | some z =>
          show (if vkey k k = true then (k, z) :: goF keeps l r else _) = _
          rw [if_pos hkk, hsame]
          rfl
    · rw [if_neg hv] at hf'
      obtain ⟨i1, i2⟩ := goF_step hk hin hl hr hn2 hf'
      have hql : inL l' q = inL l q := by rw [hl q hq]; cases h : vkey k q with | false => simp | true => exact absurd h hv
      rw [goF_cons, goF_cons, show inL l' (q, y).1 = inL l (q, y).1 from hql]
      have pass : ∀ z : Fl, pfind k ((q, z) :: goF keeps l r) = some x ∧ (match keepF keeps x with | some w => pput k w ((q, z) :: goF keeps l r) | none => pdel k ((q, z) :: goF keeps l r)) = (q, z) :: goF keeps l' r := fun z => by
        refine ⟨?_, ?_⟩
        · show (if vkey k q = true then some z else pfind k (goF keeps l r)) = _
          rw [if_neg hv]; exact i1
        · rw [← i2]
          cases keepF keeps x with
          | none =>
            show (if vkey k q = true then goF keeps l r else (q, z) :: pdel k (goF keeps l r)) = _
            rw [if_neg hv]
          | some w =>
            show (if vkey k q = true then (k, w) :: goF keeps l r else (q, z) :: pput k w (goF keeps l r)) = _
            rw [if_neg hv]
      by_cases hi : inL l q = true
      · rw [if_pos hi]
        exact pass y
      · rw [if_neg hi]
        cases hky : keepF keeps y with
        | none => exact ⟨i1, i2⟩
        | some z => exact pass z
theorem inL_split {l1 l2 : List Value} {k q : Value} (hn : (l1 ++ k :: l2).Nodup) (hs : ∀ z ∈ l1 ++ k :: l2, sortB none z = true) (hq : sortB none q = true) : inL (l1 ++ l2) q = (inL (l1 ++ k :: l2) q && !vkey k q) := by
  have hk : sortB none k = true := hs k (by simp)
  unfold inL
  rw [List.any_append, List.any_append, List.any_cons]
  cases h : vkey k q with
  | false => simp
  | true =>
    have e := vkey_eq (kd := none) hk hq h
    subst e
    have hno : ∀ l : List Value, (∀ z ∈ l, sortB none z = true) → k ∉ l → (l.any fun z => vkey z k) = false := fun l hl hm => by
      rw [List.any_eq_false]
      intro z hz hv
      exact hm (by rw [← vkey_eq (kd := none) (hl z hz) hk hv]; exact hz)
    have h2 := List.nodup_append.1 hn
    have h3 := List.nodup_cons.1 h2.2.1
    rw [hno l1 (fun z hz => hs z (by simp [hz])) (fun hm => h2.2.2 k hm k (by simp) rfl), hno l2 (fun z hz => hs z (by simp [hz])) h3.1]
    rfl
theorem inL_mem {l : List Value} {k : Value} (hk : sortB none k = true) (h : k ∈ l) : inL l k = true := by
  unfold inL
  rw [List.any_eq_true]
  exact ⟨k, h, vkey_refl hk⟩
theorem keepF_ok {keeps : Int} {B : Nat} {x z : Fl} (h : x.1.size ≤ B ∧ -1 ≤ x.2 ∧ x.2 ≤ x.1.size) (hz : keepF keeps x = some z) : z.1.size ≤ B ∧ -1 ≤ z.2 ∧ z.2 ≤ z.1.size := by
  unfold keepF at hz
  split at hz
  · cases hz
  · cases hz
    simp only [ByteArray.size_extract]
    omega
theorem startF_mem {keeps : Int} {d : Dk} {y : Value × Fl} (h : y ∈ (startF keeps d).L) : ∃ x, (y.1, x) ∈ d.L ∧ keepF keeps x = some y.2 := by
  obtain ⟨⟨q, x⟩, hx, e⟩ := List.mem_filterMap.1 h
  cases hk : keepF keeps x with
  | none => simp only [hk] at e; cases e
  | some z =>
    simp only [hk, Option.map_some, Option.some.injEq] at e
    subst e
    exact ⟨x, hx, hk⟩
theorem startF_ok {keeps : Int} {B : Nat} {d : Dk} (h : d.ok B) : (startF keeps d).ok B := by
  refine ⟨fun y hy => ?_, ?_, fun y hy => ?_, fun e => by show List.filterMap _ d.L = []; rw [h.nl e]; rfl, h.lo, h.hi⟩
  · obtain ⟨x, hx, _⟩ := startF_mem hy
    exact h.keys (y.1, x) hx
  · have : ∀ l : List (Value × Fl), (l.map (·.1)).Nodup → ((l.filterMap fun y => (keepF keeps y.2).map fun z => (y.1, z)).map (·.1)).Nodup ∧ ∀ q ∈ (l.filterMap fun y => (keepF keeps y.2).map fun z => (y.1, z)).map (·.1), q ∈ l.map (·.1) := by
      intro l
      induction l with
      | nil => intro _; exact ⟨by simp, by simp⟩
      | cons y r ih =>
        intro hn
        obtain ⟨h1, h2⟩ := List.nodup_cons.1 hn
        obtain ⟨i1, i2⟩ := ih h2
        rw [List.filterMap_cons]
        cases hk : keepF keeps y.2 with
        | none => exact ⟨i1, fun q hq => by simp only [List.map_cons, List.mem_cons]; exact .inr (i2 q hq)⟩
        | some z =>
          simp only [Option.map_some, List.map_cons]
          exact ⟨List.nodup_cons.2 ⟨fun hm => h1 (i2 _ hm), i1⟩, fun q hq => by
            rcases List.mem_cons.1 hq with rfl | hq
            · simp
            · exact List.mem_cons_of_mem _ (i2 q hq)⟩
    exact (this d.L h.nd).1
  · obtain ⟨x, hx, e⟩ := startF_mem hy
    exact keepF_ok (h.sz _ hx) e
theorem fnd_start {keeps : Int} {B : Nat} {d : Dk} (h : d.ok B) (f : ByteArray) : fnd f (startF keeps d) = (fnd f d).bind (keepF keeps) := by
  have hs := startF_ok (keeps := keeps) h
  cases hf : fnd f d with
  | none =>
    cases hg : fnd f (startF keeps d) with
    | none => rfl
    | some z =>
      obtain ⟨x, hx, _⟩ := startF_mem (fnd_mem hs hg)
      have : fnd f d = some x := (pfind_mem rfl h.keys h.nd).2 hx
      rw [hf] at this; cases this
  | some x =>
    show fnd f (startF keeps d) = keepF keeps x
    cases hk : keepF keeps x with
    | none =>
      cases hg : fnd f (startF keeps d) with
      | none => rfl
      | some z =>
        obtain ⟨x', hx, e⟩ := startF_mem (fnd_mem hs hg)
        have : fnd f d = some x' := (pfind_mem rfl h.keys h.nd).2 hx
        rw [hf] at this; cases this
        rw [hk] at e; cases e
    | some z =>
      refine (pfind_mem rfl hs.keys hs.nd).2 ?_
      exact List.mem_filterMap.2 ⟨(ks f, x), fnd_mem h hf, by rw [hk]; rfl⟩
end Go.PL
