/-
  Series that are short; what code.Series says of good ones and of others.
-/
import Derived.Test.YtaaoljhfepmkjaaDoorCWrA
import Derived.Test.YtaaoljhfepmkjaaDoorCRefLab2
namespace Go.Proofs.YtaaoljhfepmkjaaDoor
open Go.GK Go.PL Go.RowKit
set_option maxRecDepth 100000
theorem shL_small {l : List Lb} (h : shL l = true) : l.length ≤ 20 ∧ ∀ x ∈ l, x.name.size ≤ 60 ∧ x.value.size ≤ 60 := by
  unfold shL at h
  rw [Bool.and_eq_true, decide_eq_true_iff, Bool.not_eq_true'] at h
  refine ⟨h.1, fun x hx => ?_⟩
  obtain ⟨i, hi, rfl⟩ := List.getElem_of_mem hx
  have := anyB_get h.2 i hi
  rw [show l.getD i default = l[i] by simp [hi], Bool.or_eq_false_iff, decide_eq_false_iff_not, decide_eq_false_iff_not] at this
  omega
def badS (l : List Ser) (i : Nat) : Bool := match l[i]? with | some x => !shL x.labels || decide (60 < x.samples.length) | none => false
theorem badS_at {l : List Ser} {i : Nat} (h : i < l.length) : badS l i = (!shL l[i].labels || decide (60 < l[i].samples.length)) := by unfold badS; rw [List.getElem?_eq_getElem h]
def shS (l : List Ser) : Bool := decide (l.length ≤ 20) && !anyB l.length (badS l)
theorem shS_small {l : List Ser} (h : shS l = true) : l.length ≤ 20 ∧ ∀ x ∈ l, shL x.labels = true ∧ x.samples.length ≤ 60 := by
  unfold shS at h
  rw [Bool.and_eq_true, decide_eq_true_iff, Bool.not_eq_true'] at h
  refine ⟨h.1, fun x hx => ?_⟩
  obtain ⟨i, hi, rfl⟩ := List.getElem_of_mem hx
  have := anyB_get h.2 i hi
  rw [badS_at hi] at this
  simp only [Bool.or_eq_false_iff, Bool.not_eq_false', decide_eq_false_iff_not] at this
  exact ⟨this.1, by omega⟩
theorem badI_good {l : List Ser} (h : ∀ x ∈ l, GoodS x) : badI l = none := badI_none fun i hi => by
  obtain ⟨h1, h2, h3⟩ := h l[i] (List.getElem_mem hi)
  unfold goodB
  rw [h1, h2]
  rfl
theorem badI_all {l : List Ser} (h : badI l = none) : ∀ x ∈ l, rightF x.labels = true ∧ okS x.samples = true := by
  unfold badI at h
  rw [List.findIdx?_eq_none_iff] at h
  intro x hx
  have := h x hx
  unfold goodB at this
  rw [Bool.not_eq_false', Bool.and_eq_true] at this
  exact ⟨this.2, this.1⟩
theorem good_sh {x : Ser} (h : GoodS x) : Sh x.labels := fun y hy => by have := ((right_small h.1).2 y hy).2; omega
theorem size_short {l : List Ser} (h : shS l = true) : (wrS l).size ≤ 100000 := by
  obtain ⟨h1, h2⟩ := shS_small h
  have hP : ∀ m : List Lb, (∀ x ∈ m, x.name.size ≤ 60 ∧ x.value.size ≤ 60) → (wrP m).size ≤ 136 * m.length := by
    intro m
    induction m with
    | nil => intro _; exact Nat.le_refl _
    | cons x m ih =>
      intro hm
      have h3 := hm x (by simp)
      have h4 := ih fun y hy => hm y (by simp [hy])
      have h5 : (wrT x.name).size = 8 + x.name.size := by unfold wrT; rw [ByteArray.size_append, wrN_size]
      have h6 : (wrT x.value).size = 8 + x.value.size := by unfold wrT; rw [ByteArray.size_append, wrN_size]
      simp only [wrP, ByteArray.size_append, List.length_cons]
      omega
  have hR : ∀ m : List Ser, (∀ x ∈ m, shL x.labels = true ∧ x.samples.length ≤ 60) → (wrR m).size ≤ 4000 * m.length := by
    intro m
    induction m with
    | nil => intro _; exact Nat.le_refl _
    | cons x m ih =>
      intro hm
      obtain ⟨h3, h3'⟩ := hm x (by simp)
      have h4 := ih fun y hy => hm y (by simp [hy])
      obtain ⟨h5, h6⟩ := shL_small h3
      have h7 := hP x.labels h6
      have h8 := chunkF_len x.samples
      have h9 : (enc x.samples).size = ((chunkF x.samples).length + 7) / 8 := by
        show (pack (chunkF x.samples)).toArray.size = _
        rw [List.size_toArray, pack_len]
      have h10 : (wr1 x).size = 8 + (wrP x.labels).size + (8 + (enc x.samples).size) := by
        unfold wr1 wrL wrT
        simp only [ByteArray.size_append, wrN_size]
      simp only [wrR, ByteArray.size_append, List.length_cons]
      omega
  have h3 := hR l h2
  have h4 : (wrS l).size = 8 + (wrR l).size := by unfold wrS; rw [ByteArray.size_append, wrN_size]
  omega
end Go.Proofs.YtaaoljhfepmkjaaDoor
