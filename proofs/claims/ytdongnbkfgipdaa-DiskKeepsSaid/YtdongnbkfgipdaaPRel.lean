/-
  Plain laws: a disk, and the document's; no program is in sight.
-/
import Derived.Test.YtdongnbkfgipdaaPWal
namespace Go.PL
open Go Go.GK

structure Rel (d : Dk) (F : List (Value × Fl)) (left : Int) : Prop where
  keys : ∀ y ∈ F, sortB none y.1 = true
  nd : pnodup F
  fd : ∀ f, pfind (ks f) F = fnd f d
  lf : (d.cut = false ∧ left = -1) ∨ (d.cut = true ∧ left = d.left)
theorem Rel.on {d : Dk} {B : Nat} {F : List (Value × Fl)} {left : Int} (h : Rel d F left) (hok : d.ok B) : onF d = decide (left ≠ 0) := by
  have := hok.lo
  rcases h.lf with ⟨h1, h2⟩ | ⟨h1, h2⟩
  · rw [onF_of h1, h2]; rfl
  · unfold onF
    rw [h1, h2]
    simp only [Bool.not_true, Bool.false_or, decide_eq_decide]
    omega
theorem Rel.does {d : Dk} {B : Nat} {F : List (Value × Fl)} {left : Int} (h : Rel d F left) (hok : d.ok B) (ho : onF d = true) : Rel (doesF d) F (if left > 0 then left - 1 else left) := by
  refine ⟨h.keys, h.nd, h.fd, ?_⟩
  have := hok.lo
  rw [h.on hok] at ho
  have ho' : left ≠ 0 := of_decide_eq_true ho
  rcases h.lf with ⟨h1, h2⟩ | ⟨h1, h2⟩
  · exact .inl ⟨h1, by rw [h2]; rfl⟩
  · refine .inr ⟨h1, ?_⟩
    show _ = (if d.cut = true then d.left - 1 else d.left)
    rw [if_pos h1, if_pos (by omega), h2]
theorem pf_put {F : List (Value × Fl)} (hk : ∀ y ∈ F, sortB none y.1 = true) (f g : ByteArray) (x : Fl) : pfind (ks g) (pput (ks f) x F) = if g = f then some x else pfind (ks g) F := by
  rw [pfind_put (kd := none) rfl rfl x F hk]
  by_cases e : g = f
  · subst e; rw [if_pos rfl, if_pos (vkey_refl (kd := none) rfl)]
  · rw [if_neg e, if_neg fun hv => e (by have := vkey_eq (kd := none) rfl rfl hv; injection this)]
theorem pf_del {F : List (Value × Fl)} (hk : ∀ y ∈ F, sortB none y.1 = true) (hn : pnodup F) (f g : ByteArray) : pfind (ks g) (pdel (ks f) F) = if g = f then none else pfind (ks g) F := by
  rw [pfind_del (kd := none) rfl rfl hk hn]
  by_cases e : g = f
  · subst e; rw [if_pos rfl, if_pos (vkey_refl (kd := none) rfl)]
  · rw [if_neg e, if_neg fun hv => e (by have := vkey_eq (kd := none) rfl rfl hv; injection this)]
theorem Rel.put {d : Dk} {B : Nat} {F : List (Value × Fl)} {left : Int} (h : Rel d F left) (hok : d.ok B) (f : ByteArray) (x : Fl) : Rel (putF f x d) (pput (ks f) x F) left :=
  ⟨pput_keys rfl x F h.keys, (pput_nodup rfl x h.keys h.nd).1, fun g => by rw [pf_put h.keys, fnd_put hok, h.fd], h.lf⟩
theorem Rel.del {d : Dk} {B : Nat} {F : List (Value × Fl)} {left : Int} (h : Rel d F left) (hok : d.ok B) (f : ByteArray) : Rel (delF f d) (pdel (ks f) F) left :=
  ⟨pdel_keys _ F h.keys, pdel_nodup h.nd, fun g => by rw [pf_del h.keys h.nd, fnd_del hok, h.fd], h.lf⟩
theorem size0 (f : ByteArray) : (f.toList == (⟨#[]⟩ : ByteArray).toList) = decide (f.size = 0) := by
  rw [Bool.eq_iff_iff]
  simp only [beq_iff_eq, decide_eq_true_eq, ByteArray.toList_eq]
  constructor
  · intro h
    have := congrArg List.length h
    simpa using this
  · intro h
    apply List.eq_nil_of_length_eq_zero
    simpa using h
theorem badN_in (f : ByteArray) : decide ((1 : Int) ≤ f.size ∧ (f.size : Int) ≤ 60) = !badN f := by
  unfold badN
  rw [size0]
  by_cases h1 : f.size = 0
  · rw [decide_eq_true h1, decide_eq_false (by omega)]; rfl
  · rw [decide_eq_false h1]
    by_cases h2 : (f.size : Int) > 60
    · rw [decide_eq_true h2, decide_eq_false (by omega)]; rfl
    · rw [decide_eq_false h2, decide_eq_true (by omega)]; rfl
/-- The document's map behind a start, while those that are left are still to come. -/
structure Kept (keeps : Int) (F K : List (Value × Fl)) (left : List Value) : Prop where
  keys : ∀ y ∈ K, sortB none y.1 = true
  nd : pnodup K
  fd : ∀ f, pfind (ks f) K = if inL left (ks f) = true then none else (pfind (ks f) F).bind (keepF keeps)
theorem Kept.start (keeps : Int) {F : List (Value × Fl)} (hs : ∀ y ∈ F, sortB none y.1 = true) : Kept keeps F [] (F.map (·.1)) := by
  refine ⟨by simp, by simp [pnodup], fun f => ?_⟩
  show none = _
  by_cases h : inL (F.map (·.1)) (ks f) = true
  · rw [if_pos h]
  · rw [if_neg h]
    have : pfind (ks f) F = none := by
      rw [pfind_none rfl hs]
      intro hm
      exact h (inL_mem rfl hm)
    rw [this]; rfl
theorem Kept.skip {keeps : Int} {F K : List (Value × Fl)} {l l' : List Value} (h : Kept keeps F K l) {f : ByteArray} {x : Fl} (hl : ∀ q, sortB none q = true → inL l' q = (inL l q && !vkey (ks f) q)) (hin : inL l (ks f) = true) (hf : pfind (ks f) F = some x) (hk : keepF keeps x = none) : Kept keeps F K l' := by
  refine ⟨h.keys, h.nd, fun g => ?_⟩
  rw [h.fd g, hl (ks g) rfl]
  by_cases e : g = f
  · subst e
    rw [hin, vkey_refl (kd := none) rfl, hf]
    exact hk.symm
  · have : vkey (ks f) (ks g) = false := by
      cases hv : vkey (ks f) (ks g) with
      | false => rfl
      | true => exact absurd (by have := vkey_eq (kd := none) rfl rfl hv; injection this with h; exact h.symm) e
    rw [this, Bool.not_false, Bool.and_true]
theorem Kept.put {keeps : Int} {F K : List (Value × Fl)} {l l' : List Value} (h : Kept keeps F K l) {f : ByteArray} {x z : Fl} (hl : ∀ q, sortB none q = true → inL l' q = (inL l q && !vkey (ks f) q)) (hf : pfind (ks f) F = some x) (hk : keepF keeps x = some z) : Kept keeps F (pput (ks f) z K) l' := by
  refine ⟨pput_keys rfl z K h.keys, (pput_nodup rfl z h.keys h.nd).1, fun g => ?_⟩
  rw [pf_put h.keys, h.fd g, hl (ks g) rfl]
  by_cases e : g = f
  · subst e
    rw [if_pos rfl, vkey_refl (kd := none) rfl, hf, Bool.not_true, Bool.and_false]
    exact hk.symm
  · have : vkey (ks f) (ks g) = false := by
      cases hv : vkey (ks f) (ks g) with
      | false => rfl
      | true => exact absurd (by have := vkey_eq (kd := none) rfl rfl hv; injection this with h; exact h.symm) e
    rw [this, Bool.not_false, Bool.and_true, if_neg e]
theorem Kept.rel {keeps : Int} {d : Dk} {B : Nat} {F K : List (Value × Fl)} {left : Int} (h : Kept keeps F K []) (hr : Rel d F left) (hok : d.ok B) : Rel (startF keeps d) K (-1) := by
  refine ⟨h.keys, h.nd, fun f => ?_, .inl ⟨rfl, rfl⟩⟩
  rw [h.fd f, if_neg (fun h => by cases h), hr.fd f, fnd_start hok]
/-- What the document keeps of a file. -/
theorem keep_eq (keeps : Int) (x : Fl) (h : -1 ≤ x.2 ∧ x.2 ≤ x.1.size) (m : Int) (hm : m = if 0 > x.2 then 0 else x.2) (k : Int) (hk : k = if 0 > keeps then 0 else keeps) :
    (x.1.extract 0 m.toNat ++ (if keeps < ((x.1.extract (x.1.extract 0 m.toNat).size x.1.size).size : Int) then (x.1.extract (x.1.extract 0 m.toNat).size x.1.size).extract 0 k.toNat else x.1.extract (x.1.extract 0 m.toNat).size x.1.size)) = x.1.extract 0 (max x.2 0 + min (max keeps 0) (x.1.size - max x.2 0)).toNat := by
  have hm' : m = max x.2 0 := by rw [hm]; split <;> omega
  have hk' : k = max keeps 0 := by rw [hk]; split <;> omega
  have e1 : (x.1.extract 0 m.toNat).size = m.toNat := by rw [ByteArray.size_extract]; omega
  rw [e1]
  have e2 : (x.1.extract m.toNat x.1.size).size = x.1.size - m.toNat := by rw [ByteArray.size_extract]; omega
  rw [e2]
  apply ByteArray.ext
  apply Array.ext'
  have hl : x.1.data.toList.length = x.1.size := by simp
  by_cases hc : keeps < ((x.1.size - m.toNat : Nat) : Int)
  · rw [if_pos hc]
    have e3 : (max x.2 0 + min (max keeps 0) (x.1.size - max x.2 0)).toNat = m.toNat + k.toNat := by omega
    rw [e3]
    simp only [ByteArray.data_append, ByteArray.data_extract, Array.toList_append, Array.toList_extract, List.extract_eq_take_drop, List.drop_zero, Nat.sub_zero]
    rw [List.take_add]
    congr 1
    rw [List.take_take]
    congr 1
    omega
  · rw [if_neg hc]
    have e3 : (max x.2 0 + min (max keeps 0) (x.1.size - max x.2 0)).toNat = x.1.size := by omega
    rw [e3]
    simp only [ByteArray.data_append, ByteArray.data_extract, Array.toList_append, Array.toList_extract, List.extract_eq_take_drop, List.drop_zero, Nat.sub_zero]
    rw [List.take_of_length_le (l := x.1.data.toList.drop m.toNat) (by rw [List.length_drop]; omega), List.take_append_drop]
    exact (List.take_of_length_le (by omega)).symm
theorem keep_len (keeps : Int) (x : Fl) (h : -1 ≤ x.2 ∧ x.2 ≤ x.1.size) : ((x.1.extract 0 (max x.2 0 + min (max keeps 0) (x.1.size - max x.2 0)).toNat).size : Int) = max x.2 0 + min (max keeps 0) (x.1.size - max x.2 0) := by
  rw [ByteArray.size_extract]
  omega
end Go.PL
