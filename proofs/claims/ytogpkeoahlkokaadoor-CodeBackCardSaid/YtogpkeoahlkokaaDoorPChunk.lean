/-
  Plain laws on samples in few bits: no program is in sight.
-/
import Derived.Test.YtogpkeoahlkokaaDoorPBits
namespace Go.PL
open Go Go.GK

def chunkR : List Sm → Sm → Int → Bool → List Bool
  | [], _, _, _ => []
  | x :: r, last, step, f => putF (x.time - last.time - step) ++ (putF (w64 (x.value - last.value)) ++ chunkR r x (if f then step else x.time - last.time) false)
def chunkF (l : List Sm) : List Bool := putF l.length ++ chunkR l ⟨0, 0⟩ 0 true
def enc (l : List Sm) : ByteArray := ⟨(pack (chunkF l)).toArray⟩

abbrev In64 (x : Int) : Prop := -9223372036854775808 ≤ x ∧ x ≤ 9223372036854775807
theorem w64_in (x : Int) : In64 (w64 x) := by rw [w64_eq]; constructor <;> omega
/-- Values fit. -/
def V64 (l : List Sm) : Prop := ∀ x ∈ l, In64 x.value

theorem putF_inj {a b : Int} {x y : List Bool} (ha : In64 a) (hb : In64 b) (h : putF a ++ x = putF b ++ y) : a = b ∧ x = y := by
  have h1 := get_put a ha.1 ha.2 x
  rw [h, get_put b hb.1 hb.2 y] at h1
  simp only [Option.some.injEq, Prod.mk.injEq] at h1
  exact ⟨h1.1.symm, h1.2.symm⟩

/-- Steps fit. -/
structure Fit (last : Sm) (step : Int) : Prop where
  t1 : -1099511627776 ≤ last.time
  t2 : last.time ≤ 1099511627776
  s1 : -2199023255552 ≤ step
  s2 : step ≤ 2199023255552

theorem Fit.diff {last : Sm} {step : Int} (h : Fit last step) {x : Sm} (h1 : -1099511627776 ≤ x.time) (h2 : x.time ≤ 1099511627776) : -4398046511104 ≤ x.time - last.time - step ∧ x.time - last.time - step ≤ 4398046511104 := by
  have := h.t1; have := h.t2; have := h.s1; have := h.s2
  omega
theorem Fit.next {last : Sm} {step : Int} (h : Fit last step) {x : Sm} (h1 : -1099511627776 ≤ x.time) (h2 : x.time ≤ 1099511627776) (f : Bool) : Fit x (if f then step else x.time - last.time) := by
  have := h.t1; have := h.t2; have := h.s1; have := h.s2
  refine ⟨h1, h2, ?_, ?_⟩ <;> cases f <;> simp <;> omega
theorem Fit.zero : Fit ⟨0, 0⟩ 0 := ⟨by decide, by decide, by decide, by decide⟩

theorem chunkR_inj : ∀ (l m : List Sm) (last : Sm) (step : Int) (f : Bool) (x y : List Bool), l.length = m.length → (∀ s ∈ l, -1099511627776 ≤ s.time ∧ s.time ≤ 1099511627776) → (∀ s ∈ m, -1099511627776 ≤ s.time ∧ s.time ≤ 1099511627776) → V64 l → V64 m → Fit last step →
    chunkR l last step f ++ x = chunkR m last step f ++ y → l = m ∧ x = y
  | [], [], _, _, _, x, y, _, _, _, _, _, _, h => ⟨rfl, h⟩
  | [], _ :: _, _, _, _, _, _, h, _, _, _, _, _, _ => by simp at h
  | _ :: _, [], _, _, _, _, _, h, _, _, _, _, _, _ => by simp at h
  | a :: l, b :: m, last, step, f, x, y, hl, h1, h2, h3, h4, hf, h => by
    unfold chunkR at h
    have ha := h1 a (by simp)
    have hb := h2 b (by simp)
    have da := hf.diff ha.1 ha.2
    have db := hf.diff hb.1 hb.2
    simp only [List.append_assoc] at h
    obtain ⟨e1, h⟩ := putF_inj (a := a.time - last.time - step) (b := b.time - last.time - step) ⟨by omega, by omega⟩ ⟨by omega, by omega⟩ h
    obtain ⟨e2, h⟩ := putF_inj (w64_in _) (w64_in _) h
    have et : a.time = b.time := by omega
    have ev : a.value = b.value := by
      have va := h3 a (by simp)
      have vb := h4 b (by simp)
      simp only [w64_eq] at e2
      omega
    have eab : a = b := by cases a; cases b; simp at et ev; rw [et, ev]
    subst eab
    obtain ⟨e3, e4⟩ := chunkR_inj l m a _ false x y (by simpa using hl) (fun s hs => h1 s (by simp [hs])) (fun s hs => h2 s (by simp [hs])) (fun s hs => h3 s (by simp [hs])) (fun s hs => h4 s (by simp [hs])) (hf.next ha.1 ha.2 f) h
    exact ⟨by rw [e3], e4⟩

theorem chunkF_inj {l m : List Sm} {x y : List Bool} (h1 : Ris l) (h2 : Ris m) (n1 : l.length ≤ 2000) (n2 : m.length ≤ 2000) (h3 : V64 l) (h4 : V64 m) (h : chunkF l ++ x = chunkF m ++ y) : l = m ∧ x = y := by
  unfold chunkF at h
  rw [List.append_assoc, List.append_assoc] at h
  obtain ⟨e1, h⟩ := putF_inj ⟨by omega, by omega⟩ ⟨by omega, by omega⟩ h
  exact chunkR_inj l m ⟨0, 0⟩ 0 true x y (by omega) (fun s hs => ⟨h1.lo s hs, h1.hi s hs⟩) (fun s hs => ⟨h2.lo s hs, h2.hi s hs⟩) h3 h4 .zero h

theorem enc_bits (l : List Sm) : sb (enc l) = chunkF l ++ List.replicate (8 * (((chunkF l).length + 7) / 8) - (chunkF l).length) false := sb_pack _
theorem enc_inj {l m : List Sm} (h1 : Ris l) (h2 : Ris m) (n1 : l.length ≤ 2000) (n2 : m.length ≤ 2000) (h3 : V64 l) (h4 : V64 m) (h : enc l = enc m) : l = m := by
  have := enc_bits l
  rw [h, enc_bits m] at this
  exact (chunkF_inj h2 h1 n2 n1 h4 h3 this).1.symm

theorem sb_cut (s : ByteArray) (k : Nat) : sb (s.extract 0 k) = (sb s).take (8 * k) := by
  refine List.ext_getElem? fun i => ?_
  have e : (s.extract 0 k).data.toList = s.data.toList.take k := by
    have : (s.extract 0 k).data = s.data.extract 0 k := by simp
    rw [this]
    simp
  unfold sb
  rw [e, bitsOf_get, List.getElem?_take, List.getElem?_take, bitsOf_get]
  by_cases h : i < 8 * k
  · rw [if_pos h, if_pos (by omega)]
  · rw [if_neg h, if_neg (by omega)]; rfl

/-- No beginning of what samples are written as is any. -/
theorem enc_cut {l m : List Sm} (h1 : Ris l) (h2 : Ris m) (n1 : l.length ≤ 2000) (n2 : m.length ≤ 2000) (h3 : V64 l) (h4 : V64 m) {k : Nat} (hk : k < (enc l).size) : (enc l).extract 0 k ≠ enc m := by
  intro h
  have e := sb_cut (enc l) k
  rw [h, enc_bits m] at e
  have e2 : sb (enc l) = (sb (enc l)).take (8 * k) ++ (sb (enc l)).drop (8 * k) := (List.take_append_drop _ _).symm
  rw [← e, enc_bits l, List.append_assoc] at e2
  have := (chunkF_inj h1 h2 n1 n2 h3 h4 e2).1
  subst this
  have hs := congrArg ByteArray.size h
  rw [ByteArray.size_extract] at hs
  omega

theorem chunkR_len (l : List Sm) : ∀ (last : Sm) (step : Int) (f : Bool), (chunkR l last step f).length ≤ 140 * l.length := by
  induction l with
  | nil => intro _ _ _; exact Nat.le_refl _
  | cons x l ih =>
    intro last step f
    unfold chunkR
    have a := (putF_len (x.time - last.time - step)).2
    have b := (putF_len (w64 (x.value - last.value))).2
    have c := ih x (if f then step else x.time - last.time) false
    simp only [List.length_append, List.length_cons]
    omega
theorem chunkF_len (l : List Sm) : (chunkF l).length ≤ 70 + 140 * l.length := by
  unfold chunkF
  have a := (putF_len l.length).2
  have b := chunkR_len l ⟨0, 0⟩ 0 true
  rw [List.length_append]
  omega
theorem Ris.takeN {l : List Sm} (h : Ris l) (i : Nat) : Ris (l.take i) :=
  ⟨fun x hx => h.lo x (List.mem_of_mem_take hx), fun x hx => h.hi x (List.mem_of_mem_take hx), h.up.sublist (List.take_sublist _ _)⟩
theorem Ris.dropN {l : List Sm} (h : Ris l) (i : Nat) : Ris (l.drop i) :=
  ⟨fun x hx => h.lo x (List.mem_of_mem_drop hx), fun x hx => h.hi x (List.mem_of_mem_drop hx), h.up.sublist (List.drop_sublist _ _)⟩

/-! ### Even steps -/

def evenS (t step v : Int) (k : Nat) : List Sm := (List.range k).map fun i : Nat => ⟨t + (i : Int) * step, v⟩
theorem evenS_succ (t step v : Int) (k : Nat) : evenS t step v (k + 1) = ⟨t, v⟩ :: evenS (t + step) step v k := by
  unfold evenS
  rw [List.range_succ_eq_map, List.map_cons, List.map_map]
  congr 1
  · simp
  · refine List.map_congr_left fun i _ => ?_
    simp only [Function.comp, Sm.mk.injEq, and_true]
    rw [Nat.succ_eq_add_one, Int.natCast_add, Int.add_mul]
    simp
    omega
theorem evenS_snoc (t step v : Int) (k : Nat) : evenS t step v (k + 1) = evenS t step v k ++ [⟨t + (k : Int) * step, v⟩] := by
  unfold evenS
  rw [List.range_succ, List.map_append]
  rfl
theorem even_bits (step v : Int) : ∀ (k : Nat) (t : Int), (chunkR (evenS (t + step) step v k) ⟨t, v⟩ step false).length = 2 * k
  | 0, t => rfl
  | k + 1, t => by
    rw [evenS_succ, chunkR]
    dsimp only
    have e2 : v - v = 0 := by omega
    have e3 : t + step - t = step := by omega
    simp only [e2, Int.sub_self, Bool.false_eq_true, if_false, e3, List.length_append]
    rw [even_bits step v k (t + step)]
    have : (putF 0).length = 1 := by decide
    have h0 : w64 0 = 0 := by decide
    rw [h0, this]
    omega
theorem even_len (t step v : Int) (k : Nat) : (chunkF (evenS t step v k)).length ≤ 281 + 2 * k := by
  unfold chunkF
  rw [List.length_append]
  have a := (putF_len (evenS t step v k).length).2
  have h1 : (putF 0).length = 1 := by decide
  have h0 : w64 0 = 0 := by decide
  match k with
  | 0 => show _ + ([] : List Bool).length ≤ _; simp; omega
  | 1 =>
    rw [evenS_succ, chunkR] at *
    dsimp only
    have b := (putF_len (t - 0 - 0)).2
    have c := (putF_len (w64 (v - 0))).2
    simp only [List.length_append]
    have d : ∀ x, (chunkR (evenS (t + step) step v 0) ⟨t, v⟩ x false).length = 0 := fun _ => rfl
    rw [d]
    omega
  | k + 2 =>
    rw [evenS_succ, evenS_succ, chunkR, chunkR] at *
    dsimp only
    have b := (putF_len (t - 0 - 0)).2
    have c := (putF_len (w64 (v - 0))).2
    have d := (putF_len (t + step - t - 0)).2
    have e2 : v - v = 0 := by omega
    have e3 : t + step - t = step := by omega
    simp only [if_true, e2, h0, h1, Bool.false_eq_true, if_false, e3, List.length_append] at *
    rw [even_bits step v k (t + step)]
    omega
end Go.PL
