/-
  Plain laws: series without what is gone; no program is in sight.
-/
import Derived.Test.YtcdnilijfnfkbaaDoorPCa
import Derived.Test.YtcdnilijfnfkbaaDoorPSets
namespace Go.PL
open Go
/-- What is gone, as a question to labels and a time. -/
abbrev Hit := List Lb → Int → Bool
def leftS (h : Hit) (x : Ser) : List Sm := x.samples.filter fun s => !h x.labels s.time
/-- Series without what is hit; those without any samples are gone. -/
def withoutF (h : Hit) : List Ser → List Ser
  | [] => []
  | x :: l => match leftS h x with
    | [] => withoutF h l
    | y :: r => ⟨x.labels, y :: r⟩ :: withoutF h l
theorem withoutF_no {h : Hit} {x : Ser} (l : List Ser) (hx : leftS h x = []) : withoutF h (x :: l) = withoutF h l := by
  conv => lhs; unfold withoutF
  rw [hx]
theorem withoutF_yes {h : Hit} {x : Ser} {y : Sm} {r : List Sm} (l : List Ser) (hx : leftS h x = y :: r) : withoutF h (x :: l) = ⟨x.labels, y :: r⟩ :: withoutF h l := by
  conv => lhs; unfold withoutF
  rw [hx]
theorem leftS_two (h k : Hit) (x : Ser) : leftS (fun ls t => h ls t || k ls t) x = leftS k ⟨x.labels, leftS h x⟩ := by
  unfold leftS
  rw [List.filter_filter]
  refine List.filter_congr fun s _ => ?_
  show (!(h x.labels s.time || k x.labels s.time)) = (!k x.labels s.time && !h x.labels s.time)
  cases h x.labels s.time <;> cases k x.labels s.time <;> rfl
theorem withoutF_two (h k : Hit) : ∀ l, withoutF k (withoutF h l) = withoutF (fun ls t => h ls t || k ls t) l := by
  intro l
  induction l with
  | nil => rfl
  | cons x l ih =>
    have key := leftS_two h k x
    cases hx : leftS h x with
    | nil =>
      rw [hx] at key
      rw [withoutF_no l hx, withoutF_no l key]
      exact ih
    | cons y r =>
      rw [hx] at key
      rw [withoutF_yes l hx]
      cases hy : leftS k ⟨x.labels, y :: r⟩ with
      | nil => rw [withoutF_no _ hy, withoutF_no l (key.trans hy)]; exact ih
      | cons z q => rw [withoutF_yes _ hy, withoutF_yes l (key.trans hy), ih]
theorem withoutF_congr {h k : Hit} (e : ∀ ls t, h ls t = k ls t) (l : List Ser) : withoutF h l = withoutF k l := by
  have : h = k := funext fun ls => funext fun t => e ls t
  rw [this]
theorem withoutF_again (h : Hit) (l : List Ser) : withoutF h (withoutF h l) = withoutF h l := by
  rw [withoutF_two]
  exact withoutF_congr (fun ls t => by cases h ls t <;> rfl) l
/-- Taken out one behind the other, in parts, the same is left. -/
theorem withoutF_app {α : Type} (g : α → Hit) (a b l : List α) (s : List Ser) (hl : ∀ x, x ∈ l ↔ x ∈ a ∨ x ∈ b) :
    withoutF (fun ls t => b.any fun x => g x ls t) (withoutF (fun ls t => a.any fun x => g x ls t) s) = withoutF (fun ls t => l.any fun x => g x ls t) s := by
  rw [withoutF_two]
  refine withoutF_congr (fun ls t => ?_) s
  rw [Bool.eq_iff_iff, Bool.or_eq_true, List.any_eq_true, List.any_eq_true, List.any_eq_true]
  constructor
  · rintro (⟨x, hx, h⟩ | ⟨x, hx, h⟩)
    · exact ⟨x, (hl x).2 (.inl hx), h⟩
    · exact ⟨x, (hl x).2 (.inr hx), h⟩
  · rintro ⟨x, hx, h⟩
    rcases (hl x).1 hx with h1 | h1
    · exact .inl ⟨x, h1, h⟩
    · exact .inr ⟨x, h1, h⟩
/-- What is taken out: of labels that matchers match, from a time to another one. -/
structure Gn where
  mt : List Mt
  lo : Int
  hi : Int
def gHit (g : Gn) : Hit := fun ls t => decide (g.lo ≤ t) && (decide (t ≤ g.hi) && allF ls g.mt)
def anyHit (l : List Gn) : Hit := fun ls t => l.any fun g => gHit g ls t
theorem withoutF_snoc (h : Hit) (x : Ser) : ∀ l : List Ser, withoutF h (l ++ [x]) = withoutF h l ++ withoutF h [x]
  | [] => rfl
  | y :: l => by
    rw [List.cons_append]
    cases hy : leftS h y with
    | nil => rw [withoutF_no _ hy, withoutF_no _ hy]; exact withoutF_snoc h x l
    | cons z r => rw [withoutF_yes _ hy, withoutF_yes _ hy, withoutF_snoc h x l]; rfl
theorem withoutF_len (h : Hit) : ∀ l : List Ser, (withoutF h l).length ≤ l.length
  | [] => Nat.le_refl _
  | y :: l => by
    have := withoutF_len h l
    cases hy : leftS h y with
    | nil => rw [withoutF_no _ hy]; simp; omega
    | cons z r => rw [withoutF_yes _ hy]; simp; omega
end Go.PL


namespace Go.PL
open Go
/-- Series of both, in order; samples of one series together. -/
def mergeL (mg : List Sm → List Sm → List Sm) : List Ser → List Ser → List Ser
  | [], b => b
  | x :: a, [] => x :: a
  | x :: a, y :: b =>
    if cmpF x.labels y.labels < 0 then x :: mergeL mg a (y :: b)
    else if cmpF x.labels y.labels = 0 then ⟨y.labels, mg x.samples y.samples⟩ :: mergeL mg a b
    else y :: mergeL mg (x :: a) b
termination_by a b => a.length + b.length
theorem mergeL_nil (mg : List Sm → List Sm → List Sm) (a : List Ser) : mergeL mg a [] = a := by
  cases a with
  | nil => unfold mergeL; rfl
  | cons x a => unfold mergeL; rfl
theorem mergeL_nil' (mg : List Sm → List Sm → List Sm) (b : List Ser) : mergeL mg [] b = b := by unfold mergeL; rfl
theorem mergeL_self {mg : List Sm → List Sm → List Sm} : ∀ a : List Ser, (∀ x ∈ a, mg x.samples x.samples = x.samples) → mergeL mg a a = a
  | [], _ => mergeL_nil' mg []
  | x :: a, h => by
    have h0 : cmpF x.labels x.labels = 0 := (cmpF_is.eq0 _ _).2 rfl
    unfold mergeL
    rw [if_neg (by omega), if_pos h0, h x (by simp), mergeL_self a fun y hy => h y (by simp [hy])]
theorem cmpF_lt_trans {a b c : List Lb} (h : cmpF a b < 0) (k : cmpF b c < 0) : cmpF a c < 0 := by
  have h1 := cmpF_is.rng a b
  have h2 := cmpF_is.rng b c
  have := cmpF_is.trans a b c (by omega) (by omega)
  omega
/-- Labels rising, none twice. -/
def RisS (l : List Ser) : Prop := l.Pairwise fun x y => cmpF x.labels y.labels < 0
theorem mem_mergeL {mg : List Sm → List Sm → List Sm} : ∀ (a b : List Ser) (z : Ser), z ∈ mergeL mg a b → ∃ y, (y ∈ a ∨ y ∈ b) ∧ y.labels = z.labels
  | [], b, z, h => by rw [mergeL_nil'] at h; exact ⟨z, .inr h, rfl⟩
  | x :: a, [], z, h => by rw [mergeL_nil] at h; exact ⟨z, .inl h, rfl⟩
  | x :: a, y :: b, z, h => by
    unfold mergeL at h
    split at h
    · rcases List.mem_cons.1 h with rfl | h
      · exact ⟨z, .inl (by simp), rfl⟩
      · obtain ⟨w, hw, e⟩ := mem_mergeL a (y :: b) z h
        exact ⟨w, hw.imp (fun h => by simp [h]) id, e⟩
    · split at h
      · rcases List.mem_cons.1 h with rfl | h
        · exact ⟨y, .inr (by simp), rfl⟩
        · obtain ⟨w, hw, e⟩ := mem_mergeL a b z h
          exact ⟨w, hw.imp (fun h => by simp [h]) (fun h => by simp [h]), e⟩
      · rcases List.mem_cons.1 h with rfl | h
        · exact ⟨z, .inr (by simp), rfl⟩
        · obtain ⟨w, hw, e⟩ := mem_mergeL (x :: a) b z h
          exact ⟨w, hw.imp id (fun h => by simp [h]), e⟩
termination_by a b => a.length + b.length
theorem mergeL_ris {mg : List Sm → List Sm → List Sm} : ∀ (a b : List Ser), RisS a → RisS b → RisS (mergeL mg a b)
  | [], b, _, hb => by rw [mergeL_nil']; exact hb
  | x :: a, [], ha, _ => by rw [mergeL_nil]; exact ha
  | x :: a, y :: b, ha, hb => by
    obtain ⟨ha1, ha2⟩ := List.pairwise_cons.1 ha
    obtain ⟨hb1, hb2⟩ := List.pairwise_cons.1 hb
    unfold mergeL
    split
    · rename_i hxy
      refine List.pairwise_cons.2 ⟨fun z hz => ?_, mergeL_ris a (y :: b) ha2 hb⟩
      obtain ⟨w, hw, e⟩ := mem_mergeL _ _ _ hz
      rw [← e]
      rcases hw with hw | hw
      · exact ha1 w hw
      · rcases List.mem_cons.1 hw with rfl | hw
        · exact hxy
        · exact cmpF_lt_trans hxy (hb1 w hw)
    · rename_i hxy
      split
      · rename_i h0
        have hl : x.labels = y.labels := (cmpF_is.eq0 _ _).1 h0
        refine List.pairwise_cons.2 ⟨fun z hz => ?_, mergeL_ris a b ha2 hb2⟩
        obtain ⟨w, hw, e⟩ := mem_mergeL _ _ _ hz
        show cmpF y.labels z.labels < 0
        rw [← e]
        rcases hw with hw | hw
        · rw [← hl]; exact ha1 w hw
        · exact hb1 w hw
      · rename_i h0
        have hyx : cmpF y.labels x.labels < 0 := by
          have h1 := cmpF_is.anti x.labels y.labels
          have h2 := cmpF_is.rng x.labels y.labels
          omega
        refine List.pairwise_cons.2 ⟨fun z hz => ?_, mergeL_ris (x :: a) b ha hb2⟩
        obtain ⟨w, hw, e⟩ := mem_mergeL _ _ _ hz
        rw [← e]
        rcases hw with hw | hw
        · rcases List.mem_cons.1 hw with rfl | hw
          · exact hyx
          · exact cmpF_lt_trans hyx (ha1 w hw)
        · exact hb1 w hw
termination_by a b => a.length + b.length
theorem mergeL_ahead {mg : List Sm → List Sm → List Sm} (x : Ser) (a : List Ser) : ∀ b : List Ser, (∀ z ∈ b, cmpF x.labels z.labels < 0) → mergeL mg (x :: a) b = x :: mergeL mg a b
  | [], _ => by rw [mergeL_nil, mergeL_nil]
  | y :: b, h => by
    conv => lhs; unfold mergeL
    rw [if_pos (h y (by simp))]
theorem mergeL_behind {mg : List Sm → List Sm → List Sm} (y : Ser) (b : List Ser) : ∀ a : List Ser, (∀ z ∈ a, cmpF y.labels z.labels < 0) → mergeL mg a (y :: b) = y :: mergeL mg a b
  | [], _ => by rw [mergeL_nil', mergeL_nil']
  | x :: a, h => by
    have h1 := h x (by simp)
    have h2 := cmpF_is.anti y.labels x.labels
    conv => lhs; unfold mergeL
    rw [if_neg (by omega), if_neg (by omega)]
theorem mem_withoutF {h : Hit} : ∀ (l : List Ser) (z : Ser), z ∈ withoutF h l → ∃ x ∈ l, x.labels = z.labels
  | [], z, hz => by cases hz
  | x :: l, z, hz => by
    cases hx : leftS h x with
    | nil =>
      rw [withoutF_no l hx] at hz
      obtain ⟨w, hw, e⟩ := mem_withoutF l z hz
      exact ⟨w, by simp [hw], e⟩
    | cons y r =>
      rw [withoutF_yes l hx] at hz
      rcases List.mem_cons.1 hz with rfl | hz
      · exact ⟨x, by simp, rfl⟩
      · obtain ⟨w, hw, e⟩ := mem_withoutF l z hz
        exact ⟨w, by simp [hw], e⟩
/-- What is gone ahead of a merge, or behind it. -/
theorem withoutF_merge {mg : List Sm → List Sm → List Sm} {h : Hit} (h1 : ∀ xs, mg xs [] = xs) (h2 : ∀ ys, mg [] ys = ys) (h3 : ∀ xs ys, mg xs ys = [] → xs = [] ∧ ys = []) {G : List Sm → Prop} (h4 : ∀ (p : Sm → Bool) xs ys, G xs → G ys → (∀ s t : Sm, s.time = t.time → p s = p t) → (mg xs ys).filter p = mg (xs.filter p) (ys.filter p)) :
    ∀ a b : List Ser, RisS a → RisS b → (∀ x ∈ a, G x.samples) → (∀ y ∈ b, G y.samples) → withoutF h (mergeL mg a b) = mergeL mg (withoutF h a) (withoutF h b)
  | [], b, _, _, _, _ => by rw [mergeL_nil', show withoutF h [] = [] from rfl, mergeL_nil']
  | x :: a, [], _, _, _, _ => by rw [mergeL_nil, show withoutF h [] = [] from rfl, mergeL_nil]
  | x :: a, y :: b, ha, hb, ga0, gb0 => by
    obtain ⟨ha1, ha2⟩ := List.pairwise_cons.1 ha
    obtain ⟨hb1, hb2⟩ := List.pairwise_cons.1 hb
    have ga : ∀ l : List Lb, (∀ z ∈ a, cmpF l z.labels < 0) → ∀ z ∈ withoutF h a, cmpF l z.labels < 0 := fun l hl z hz => by
      obtain ⟨w, hw, e⟩ := mem_withoutF a z hz
      rw [← e]; exact hl w hw
    have gb : ∀ l : List Lb, (∀ z ∈ b, cmpF l z.labels < 0) → ∀ z ∈ withoutF h b, cmpF l z.labels < 0 := fun l hl z hz => by
      obtain ⟨w, hw, e⟩ := mem_withoutF b z hz
      rw [← e]; exact hl w hw
    conv => lhs; unfold mergeL
    split
    · rename_i hxy
      have ih := withoutF_merge (h := h) h1 h2 h3 h4 a (y :: b) ha2 hb (fun z hz => ga0 z (by simp [hz])) gb0
      cases hx : leftS h x with
      | nil => rw [withoutF_no _ hx, withoutF_no _ hx]; exact ih
      | cons s r =>
        rw [withoutF_yes _ hx, withoutF_yes _ hx, ih, mergeL_ahead]
        intro z hz
        obtain ⟨w, hw, e⟩ := mem_withoutF (y :: b) z hz
        show cmpF x.labels z.labels < 0
        rw [← e]
        rcases List.mem_cons.1 hw with rfl | hw
        · exact hxy
        · exact cmpF_lt_trans hxy (hb1 w hw)
    · rename_i hxy
      split
      · rename_i h0
        have hl : x.labels = y.labels := (cmpF_is.eq0 _ _).1 h0
        have ih := withoutF_merge (h := h) h1 h2 h3 h4 a b ha2 hb2 (fun z hz => ga0 z (by simp [hz])) (fun z hz => gb0 z (by simp [hz]))
        have hf : leftS h ⟨y.labels, mg x.samples y.samples⟩ = mg (leftS h x) (leftS h y) := by
          unfold leftS
          rw [hl]
          exact h4 _ _ _ (ga0 x (by simp)) (gb0 y (by simp)) (fun s t e => by rw [e])
        have hax : ∀ z ∈ withoutF h a, cmpF y.labels z.labels < 0 := ga y.labels (by rw [← hl]; exact ha1)
        have hbx : ∀ z ∈ withoutF h b, cmpF x.labels z.labels < 0 := gb x.labels (by rw [hl]; exact hb1)
        cases hx : leftS h x with
        | nil =>
          rw [hx, h2] at hf
          cases hy : leftS h y with
          | nil => rw [withoutF_no _ (hf.trans hy), withoutF_no _ hx, withoutF_no _ hy]; exact ih
          | cons t q => rw [withoutF_yes _ (hf.trans hy), withoutF_no _ hx, withoutF_yes _ hy, ih, mergeL_behind ⟨y.labels, t :: q⟩ _ _ hax]
        | cons s r =>
          cases hy : leftS h y with
          | nil =>
            rw [hy, h1] at hf
            rw [withoutF_yes _ (hf.trans hx), withoutF_yes _ hx, withoutF_no _ hy, ih, mergeL_ahead ⟨x.labels, s :: r⟩ _ _ hbx, hl]
          | cons t q =>
            rw [hx, hy] at hf
            cases hm : mg (s :: r) (t :: q) with
            | nil => exact absurd (h3 _ _ hm).1 (by simp)
            | cons u v =>
              rw [withoutF_yes _ (hf.trans hm), withoutF_yes _ hx, withoutF_yes _ hy, ih]
              conv => rhs; unfold mergeL
              rw [if_neg hxy, if_pos h0, hm]
      · rename_i h0
        have ih := withoutF_merge (h := h) h1 h2 h3 h4 (x :: a) b ha hb2 ga0 (fun z hz => gb0 z (by simp [hz]))
        have hyx : cmpF y.labels x.labels < 0 := by
          have e1 := cmpF_is.anti x.labels y.labels
          have e2 := cmpF_is.rng x.labels y.labels
          omega
        cases hy : leftS h y with
        | nil => rw [withoutF_no _ hy, withoutF_no _ hy]; exact ih
        | cons t q =>
          rw [withoutF_yes _ hy, withoutF_yes _ hy, ih, mergeL_behind]
          intro z hz
          obtain ⟨w, hw, e⟩ := mem_withoutF (x :: a) z hz
          show cmpF y.labels z.labels < 0
          rw [← e]
          rcases List.mem_cons.1 hw with rfl | hw
          · exact hyx
          · exact cmpF_lt_trans hyx (ha1 w hw)
termination_by a b => a.length + b.length
end Go.PL


namespace Go.PL
open Go
/-- Samples of both, rising; of two of one time the second one's. -/
def mgS (a b : List Sm) : List Sm := mergeS (a.length + b.length) [] a b
theorem mergeS_more : ∀ (k n : Nat) (out a b : List Sm), a.length + b.length ≤ n → mergeS (n + k) out a b = mergeS n out a b
  | 0, _, _, _, _, _ => rfl
  | k + 1, n, out, a, b, h => by rw [← Nat.add_assoc, mergeS_fuel _ _ _ _ (by omega), mergeS_more k n out a b h]
theorem mergeS_mg {n : Nat} {a b : List Sm} (h : a.length + b.length ≤ n) : mergeS n [] a b = mgS a b := by
  have := mergeS_more (n - (a.length + b.length)) (a.length + b.length) [] a b (Nat.le_refl _)
  rw [show a.length + b.length + (n - (a.length + b.length)) = n by omega] at this
  exact this
theorem mergeS_out : ∀ (n : Nat) (out a b : List Sm), mergeS n out a b = out ++ mergeS n [] a b
  | 0, out, a, b => by simp [mergeS]
  | n + 1, out, [], [] => by simp [mergeS]
  | n + 1, out, x :: a, [] => by
    rw [mergeS, mergeS, mergeS_out n (out ++ [x]), mergeS_out n ([] ++ [x])]
    simp
  | n + 1, out, [], y :: b => by
    rw [mergeS, mergeS, mergeS_out n (out ++ [y]), mergeS_out n ([] ++ [y])]
    simp
  | n + 1, out, x :: a, y :: b => by
    rw [mergeS, mergeS]
    split
    · rw [mergeS_out n (out ++ [x]), mergeS_out n ([] ++ [x])]; simp
    · split
      · rw [mergeS_out n (out ++ [y]) a b, mergeS_out n ([] ++ [y]) a b]; simp
      · rw [mergeS_out n (out ++ [y]), mergeS_out n ([] ++ [y])]; simp
theorem mgS_nil : ∀ a : List Sm, mgS a [] = a
  | [] => rfl
  | x :: a => by
    have ih := mgS_nil a
    unfold mgS at ih ⊢
    rw [show (x :: a).length + ([] : List Sm).length = (a.length + ([] : List Sm).length) + 1 by simp, mergeS, mergeS_out, ih]
    rfl
theorem mgS_nil' : ∀ b : List Sm, mgS [] b = b
  | [] => rfl
  | y :: b => by
    have ih := mgS_nil' b
    unfold mgS at ih ⊢
    rw [show ([] : List Sm).length + (y :: b).length = (([] : List Sm).length + b.length) + 1 by simp, mergeS, mergeS_out, ih]
    rfl
theorem mgS_cons (x y : Sm) (a b : List Sm) : mgS (x :: a) (y :: b) = if x.time < y.time then x :: mgS a (y :: b) else if x.time = y.time then y :: mgS a b else y :: mgS (x :: a) b := by
  conv => lhs; unfold mgS
  rw [show (x :: a).length + (y :: b).length = (a.length + (y :: b).length) + 1 by simp only [List.length_cons]; omega, mergeS]
  split
  · rw [mergeS_out, mergeS_mg (Nat.le_refl _)]; rfl
  · split
    · rw [mergeS_out, mergeS_mg (by simp)]; rfl
    · rw [mergeS_out, mergeS_mg (by simp; omega)]; rfl
theorem mergeL_cons (mg : List Sm → List Sm → List Sm) (x y : Ser) (a b : List Ser) : mergeL mg (x :: a) (y :: b) = if cmpF x.labels y.labels < 0 then x :: mergeL mg a (y :: b) else if cmpF x.labels y.labels = 0 then ⟨y.labels, mg x.samples y.samples⟩ :: mergeL mg a b else y :: mergeL mg (x :: a) b := by
  conv => lhs; unfold mergeL
theorem mgS_ne {a b : List Sm} (h : mgS a b = []) : a = [] ∧ b = [] := by
  match a, b with
  | [], b => rw [mgS_nil'] at h; exact ⟨rfl, h⟩
  | x :: a, [] => rw [mgS_nil] at h; cases h
  | x :: a, y :: b =>
    rw [mgS_cons] at h
    split at h
    · cases h
    · split at h <;> cases h
theorem mgS_len : ∀ a b : List Sm, (mgS a b).length ≤ a.length + b.length
  | [], b => by rw [mgS_nil']; simp
  | x :: a, [] => by rw [mgS_nil]; simp
  | x :: a, y :: b => by
    rw [mgS_cons]
    split
    · have := mgS_len a (y :: b); simp at this ⊢; omega
    · split
      · have := mgS_len a b; simp; omega
      · have := mgS_len (x :: a) b; simp at this ⊢; omega
termination_by a b => a.length + b.length
theorem mgS_self : ∀ a : List Sm, mgS a a = a
  | [] => rfl
  | x :: a => by rw [mgS_cons, if_neg (by omega), if_pos rfl, mgS_self a]
/-- Samples of rising times that come ahead of all others. -/
theorem mgS_ahead (x : Sm) (a : List Sm) : ∀ b : List Sm, (∀ z ∈ b, x.time < z.time) → mgS (x :: a) b = x :: mgS a b
  | [], _ => by rw [mgS_nil, mgS_nil]
  | y :: b, h => by rw [mgS_cons, if_pos (h y (by simp))]
theorem mgS_behind (y : Sm) (b : List Sm) : ∀ a : List Sm, (∀ z ∈ a, y.time < z.time) → mgS a (y :: b) = y :: mgS a b
  | [], _ => by rw [mgS_nil', mgS_nil']
  | x :: a, h => by
    have := h x (by simp)
    rw [mgS_cons, if_neg (by omega), if_neg (by omega)]
/-- What is taken out by time ahead of it, or behind it. -/
theorem mgS_filter (p : Sm → Bool) (hp : ∀ s t : Sm, s.time = t.time → p s = p t) : ∀ a b : List Sm, UpS a → UpS b → (mgS a b).filter p = mgS (a.filter p) (b.filter p)
  | [], b, _, _ => by rw [mgS_nil', List.filter_nil, mgS_nil']
  | x :: a, [], _, _ => by rw [mgS_nil, List.filter_nil, mgS_nil]
  | x :: a, y :: b, ha, hb => by
    obtain ⟨ha1, ha2⟩ := List.pairwise_cons.1 ha
    obtain ⟨hb1, hb2⟩ := List.pairwise_cons.1 hb
    rw [mgS_cons]
    split
    · rename_i h
      have ih := mgS_filter p hp a (y :: b) ha2 hb
      rw [List.filter_cons, ih]
      conv => rhs; rw [List.filter_cons]
      split
      · rw [mgS_ahead]
        intro z hz
        have hz' := (List.mem_filter.1 hz).1
        rcases List.mem_cons.1 hz' with rfl | hz'
        · exact h
        · have := hb1 z hz'; omega
      · rfl
    · rename_i h
      split
      · rename_i he
        have ih := mgS_filter p hp a b ha2 hb2
        rw [List.filter_cons, ih]
        conv => rhs; rw [List.filter_cons, List.filter_cons, hp x y he]
        split
        · rw [mgS_cons, if_neg h, if_pos he]
        · rfl
      · rename_i he
        have ih := mgS_filter p hp (x :: a) b ha hb2
        rw [List.filter_cons, ih]
        conv => rhs; rhs; rw [List.filter_cons]
        split
        · rw [mgS_behind]
          intro z hz
          have hz' := (List.mem_filter.1 hz).1
          rcases List.mem_cons.1 hz' with rfl | hz'
          · omega
          · have := ha1 z hz'; omega
        · rfl
termination_by a b => a.length + b.length
end Go.PL


namespace Go.PL
open Go
theorem In64.of_blk {to_ old : Int} {l : List Ser} (h : blkR to_ old l = true) : In64 to_ := by
  unfold blkR at h
  simp only [Bool.and_eq_true, decide_eq_true_eq] at h
  exact ⟨by omega, by omega⟩
theorem blkP_wr {to_ old : Int} {l : List Ser} (h1 : In64 to_) (h2 : In64 old) (hl : ∀ x ∈ l, GoodS x) (hn : l.length < 9223372036854775808) : blkP (wrB to_ old l) = some ((to_, old, l), ByteArray.empty) := by
  have h := seriesP_wr hl hn ByteArray.empty
  rw [app_nil] at h
  unfold blkP wrB
  rw [ByteArray.append_assoc, numP_wr h1]
  simp only
  rw [numP_wr h2]
  simp only
  rw [h]
theorem blkR_ris {to_ old : Int} {l : List Ser} (h : blkR to_ old l = true) : RisS l ∧ ∀ x ∈ l, UpS x.samples ∧ x.samples ≠ [] := by
  have hall := blkR_all h
  unfold blkR at h
  rw [Bool.and_eq_true, Bool.not_eq_true'] at h
  have hb := fun i (hi : i < l.length) => (blkBad_at (to_ := to_) hi).symm.trans (anyB_get h.1 i hi)
  have hne : ∀ x ∈ l, x.samples ≠ [] := fun x hx => by
    obtain ⟨i, hi, rfl⟩ := List.getElem_of_mem hx
    have := hb i hi
    simp only [Bool.or_eq_false_iff, decide_eq_false_iff_not] at this
    exact fun e => this.2.2.1 (by rw [e]; rfl)
  have hst : ∀ i (hi : i + 1 < l.length), cmpF l[i].labels l[i + 1].labels < 0 := fun i hi => by
    have := hb (i + 1) hi
    simp only [Bool.or_eq_false_iff] at this
    have h5 := this.2.2.2.2
    rw [prevB_at (show i + 1 - 1 < l.length by omega) (Nat.succ_pos i)] at h5
    have h6 := of_decide_eq_false h5
    simp only [Nat.add_sub_cancel] at h6
    omega
  refine ⟨?_, fun x hx => ⟨((okS_iff _).1 (hall x hx).2).1.up, hne x hx⟩⟩
  refine List.pairwise_iff_getElem.2 fun i j hi hj hij => ?_
  obtain ⟨d, rfl⟩ : ∃ d, j = i + 1 + d := ⟨j - (i + 1), by omega⟩
  clear hij
  induction d with
  | zero => exact hst i hj
  | succ d ih => exact cmpF_lt_trans (ih (by omega)) (hst (i + 1 + d) hj)
theorem anyHit_take (gone : List Gn) (k : Nat) (l : List Ser) : withoutF (anyHit (gone.take k)) (withoutF (anyHit (gone.drop k)) l) = withoutF (anyHit gone) l := by
  refine withoutF_app gHit (gone.drop k) (gone.take k) gone l fun x => ?_
  conv => lhs; rw [← List.take_append_drop k gone]
  rw [List.mem_append, Or.comm]
theorem gone_merge (gone : List Gn) (a b : List Ser) (ha : RisS a) (hb : RisS b) (ua : ∀ x ∈ a, UpS x.samples) (ub : ∀ x ∈ b, UpS x.samples) : withoutF (anyHit gone) (mergeL mgS a b) = mergeL mgS (withoutF (anyHit gone) a) (withoutF (anyHit gone) b) :=
  withoutF_merge mgS_nil mgS_nil' (fun _ _ h => mgS_ne h) (G := UpS) (fun p xs ys hx hy hp => mgS_filter p hp xs ys hx hy) a b ha hb ua ub
theorem mem_mergeL_len (n m : Nat) (K : Nat) : ∀ (a b : List Ser) (z : Ser), (∀ x ∈ a, x.samples.length ≤ n ∧ x.labels.length ≤ K) → (∀ x ∈ b, x.samples.length ≤ m ∧ x.labels.length ≤ K) → z ∈ mergeL mgS a b → z.samples.length ≤ n + m ∧ z.labels.length ≤ K
  | [], b, z, _, hb, hz => by rw [mergeL_nil'] at hz; have := hb z hz; omega
  | x :: a, [], z, ha, _, hz => by rw [mergeL_nil] at hz; have := ha z hz; omega
  | x :: a, y :: b, z, ha, hb, hz => by
    rw [mergeL_cons] at hz
    split at hz
    · rcases List.mem_cons.1 hz with rfl | hz
      · have := ha z (by simp); omega
      · exact mem_mergeL_len n m K a (y :: b) z (fun w hw => ha w (by simp [hw])) hb hz
    · split at hz
      · rcases List.mem_cons.1 hz with rfl | hz
        · have h1 := ha x (by simp)
          have h2 := hb y (by simp)
          have h3 := mgS_len x.samples y.samples
          exact ⟨by show (mgS x.samples y.samples).length ≤ _; omega, h2.2⟩
        · exact mem_mergeL_len n m K a b z (fun w hw => ha w (by simp [hw])) (fun w hw => hb w (by simp [hw])) hz
      · rcases List.mem_cons.1 hz with rfl | hz
        · have := hb z (by simp); omega
        · exact mem_mergeL_len n m K (x :: a) b z ha (fun w hw => hb w (by simp [hw])) hz
termination_by a b => a.length + b.length
theorem mergeL_len (mg : List Sm → List Sm → List Sm) : ∀ (a b : List Ser), (mergeL mg a b).length ≤ a.length + b.length
  | [], b => by rw [mergeL_nil']; simp
  | x :: a, [] => by rw [mergeL_nil]; simp
  | x :: a, y :: b => by
    rw [mergeL_cons]
    split
    · have := mergeL_len mg a (y :: b); simp at this ⊢; omega
    · split
      · have := mergeL_len mg a b; simp; omega
      · have := mergeL_len mg (x :: a) b; simp at this ⊢; omega
termination_by a b => a.length + b.length
theorem mem_withoutF_len {h : Hit} : ∀ (l : List Ser) (z : Ser), z ∈ withoutF h l → ∃ x ∈ l, x.labels = z.labels ∧ z.samples.length ≤ x.samples.length
  | [], z, hz => by cases hz
  | x :: l, z, hz => by
    cases hx : leftS h x with
    | nil =>
      rw [withoutF_no l hx] at hz
      obtain ⟨w, hw, e⟩ := mem_withoutF_len l z hz
      exact ⟨w, by simp [hw], e⟩
    | cons y r =>
      rw [withoutF_yes l hx] at hz
      rcases List.mem_cons.1 hz with rfl | hz
      · refine ⟨x, by simp, rfl, ?_⟩
        show (y :: r).length ≤ _
        rw [← hx]
        exact List.length_filter_le _ _
      · obtain ⟨w, hw, e⟩ := mem_withoutF_len l z hz
        exact ⟨w, by simp [hw], e⟩
end Go.PL
