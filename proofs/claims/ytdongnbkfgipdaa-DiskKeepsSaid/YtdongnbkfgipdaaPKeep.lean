/-
  Plain laws: what a disk keeps, against what was written and what was made safe; no program is in sight.
-/
import Derived.Test.YtdongnbkfgipdaaPPlay
namespace Go.PL
open Go Go.GK
theorem pq_put {α : Type} {F : List (Value × α)} (hk : ∀ y ∈ F, sortB none y.1 = true) (f g : ByteArray) (x : α) : pfind (ks g) (pput (ks f) x F) = if g = f then some x else pfind (ks g) F := by
  rw [pfind_put (kd := none) rfl rfl x F hk]
  by_cases e : g = f
  · subst e; rw [if_pos rfl, if_pos (vkey_refl (kd := none) rfl)]
  · rw [if_neg e, if_neg fun hv => e (by have := vkey_eq (kd := none) rfl rfl hv; injection this)]
theorem pq_del {α : Type} {F : List (Value × α)} (hk : ∀ y ∈ F, sortB none y.1 = true) (hn : pnodup F) (f g : ByteArray) : pfind (ks g) (pdel (ks f) F) = if g = f then none else pfind (ks g) F := by
  rw [pfind_del (kd := none) rfl rfl hk hn]
  by_cases e : g = f
  · subst e; rw [if_pos rfl, if_pos (vkey_refl (kd := none) rfl)]
  · rw [if_neg e, if_neg fun hv => e (by have := vkey_eq (kd := none) rfl rfl hv; injection this)]
def sfN : Option Fl → Int
  | none => 0
  | some x => max x.2 0
/-- What the law keeps of a disk: what was written, and how much of it was made safe. -/
structure KRel (d : Dk) (now : List (Value × ByteArray)) (safe : List (Value × Int)) : Prop where
  nk : ∀ y ∈ now, sortB none y.1 = true
  nn : pnodup now
  nf : ∀ f, pfind (ks f) now = (fnd f d).map (·.1)
  sk : ∀ y ∈ safe, sortB none y.1 = true
  sn : pnodup safe
  sf : ∀ f, (pfind (ks f) safe).getD 0 = sfN (fnd f d)
theorem KRel.same {d d' : Dk} {now : List (Value × ByteArray)} {safe : List (Value × Int)} (h : KRel d now safe) (hf : ∀ f, fnd f d' = fnd f d) : KRel d' now safe :=
  ⟨h.nk, h.nn, fun f => by rw [h.nf, hf], h.sk, h.sn, fun f => by rw [h.sf, hf]⟩
theorem KRel.start0 : KRel dk0 [] [] := ⟨by simp, by simp [pnodup], fun _ => rfl, by simp, by simp [pnodup], fun _ => rfl⟩
theorem KRel.append {d : Dk} {B : Nat} {now : List (Value × ByteArray)} {safe : List (Value × Int)} (h : KRel d now safe) (hok : d.ok B) (f s : ByteArray) (he : (appendF f s d).1 = none) :
    onF d = true ∧ KRel (appendF f s d).2 (pput (ks f) ((pfind (ks f) now).getD ByteArray.empty ++ s) now) safe := by
  unfold appendF at he ⊢
  split at he
  · cases he
  · rename_i hb
    split at he
    · rename_i ho
      refine ⟨ho, ?_⟩
      rw [if_neg hb, if_pos ho]
      have hdo := doesF_ok hok ho
      have hfd := h.nf f
      refine ⟨pput_keys rfl _ now h.nk, (pput_nodup rfl _ h.nk h.nn).1, fun g => ?_, h.sk, h.sn, fun g => ?_⟩
      · rw [pq_put h.nk]
        cases hx : fnd f d with
        | none =>
          rw [hx] at hfd
          rw [hfd]
          show _ = (fnd g (putF f (s, -1) (doesF d))).map _
          rw [fnd_put hdo]
          by_cases e : g = f
          · rw [if_pos e, if_pos e]; simp
          · rw [if_neg e, if_neg e]; exact h.nf g
        | some x =>
          rw [hx] at hfd
          rw [hfd]
          show _ = (fnd g (putF f (x.1 ++ s, x.2) (doesF d))).map _
          rw [fnd_put hdo]
          by_cases e : g = f
          · rw [if_pos e, if_pos e]; simp
          · rw [if_neg e, if_neg e]; exact h.nf g
      · have hs := h.sf g
        cases hx : fnd f d with
        | none =>
          show _ = sfN (fnd g (putF f (s, -1) (doesF d)))
          rw [fnd_put hdo]
          by_cases e : g = f
          · rw [if_pos e, hs, e, hx]; rfl
          · rw [if_neg e]; exact hs
        | some x =>
          show _ = sfN (fnd g (putF f (x.1 ++ s, x.2) (doesF d)))
          rw [fnd_put hdo]
          by_cases e : g = f
          · rw [if_pos e, hs, e, hx]; rfl
          · rw [if_neg e]; exact hs
    · cases he
theorem KRel.sync {d : Dk} {B : Nat} {now : List (Value × ByteArray)} {safe : List (Value × Int)} (h : KRel d now safe) (hok : d.ok B) (f : ByteArray) (he : (syncF f d).1 = none) :
    onF d = true ∧ KRel (syncF f d).2 now (pput (ks f) (((pfind (ks f) now).getD ByteArray.empty).size : Int) safe) := by
  unfold syncF at he ⊢
  have hfd := h.nf f
  cases hx : fnd f d with
  | none => rw [hx] at he; cases he
  | some x =>
    rw [hx] at he hfd
    simp only at he
    split at he
    · rename_i ho
      refine ⟨ho, ?_⟩
      have hdo := doesF_ok hok ho
      show KRel (if onF d = true then ((none : Option Int), putF f (x.1, (x.1.size : Int)) (doesF d)) else (some 14, d)).2 _ _
      rw [if_pos ho, hfd]
      refine ⟨h.nk, h.nn, fun g => ?_, pput_keys rfl _ safe h.sk, (pput_nodup rfl _ h.sk h.sn).1, fun g => ?_⟩
      · rw [fnd_put hdo]
        by_cases e : g = f
        · rw [if_pos e, e, hfd]; rfl
        · rw [if_neg e]; exact h.nf g
      · rw [pq_put h.sk, fnd_put hdo]
        by_cases e : g = f
        · rw [if_pos e, if_pos e]
          show (x.1.size : Int) = max (x.1.size : Int) 0
          omega
        · rw [if_neg e, if_neg e]; exact h.sf g
    · cases he
theorem KRel.move {d : Dk} {B : Nat} {now : List (Value × ByteArray)} {safe : List (Value × Int)} (h : KRel d now safe) (hok : d.ok B) (f t : ByteArray) (he : (moveF f t d).1 = none) :
    onF d = true ∧ KRel (moveF f t d).2 (pput (ks t) ((pfind (ks f) now).getD ByteArray.empty) (pdel (ks f) now)) (pput (ks t) ((pfind (ks f) safe).getD 0) (pdel (ks f) safe)) := by
  unfold moveF at he ⊢
  have hfd := h.nf f
  have hsd := h.sf f
  split at he
  · cases he
  · rename_i hb
    rw [if_neg hb]
    cases hx : fnd f d with
    | none => rw [hx] at he; cases he
    | some x =>
      rw [hx] at he hfd hsd
      simp only at he
      split at he
      · rename_i ho
        refine ⟨ho, ?_⟩
        have hdo := doesF_ok hok ho
        have hdl := delF_ok (f := f) hdo
        show KRel (if onF d = true then ((none : Option Int), putF t x (delF f (doesF d))) else (some 14, d)).2 _ _
        rw [if_pos ho, hfd, hsd]
        have k1 := pdel_keys (ks f) now h.nk
        have k2 := pdel_keys (ks f) safe h.sk
        refine ⟨pput_keys rfl _ _ k1, (pput_nodup rfl _ k1 (pdel_nodup h.nn)).1, fun g => ?_, pput_keys rfl _ _ k2, (pput_nodup rfl _ k2 (pdel_nodup h.sn)).1, fun g => ?_⟩
        · rw [fnd_put hdl, pq_put k1, pq_del h.nk h.nn, fnd_del hdo]
          by_cases e : g = t
          · rw [if_pos e, if_pos e]; rfl
          · rw [if_neg e, if_neg e]
            by_cases e2 : g = f
            · rw [if_pos e2, if_pos e2]; rfl
            · rw [if_neg e2, if_neg e2]; exact h.nf g
        · rw [fnd_put hdl, pq_put k2, pq_del h.sk h.sn, fnd_del hdo]
          by_cases e : g = t
          · rw [if_pos e, if_pos e]; rfl
          · rw [if_neg e, if_neg e]
            by_cases e2 : g = f
            · rw [if_pos e2, if_pos e2]; rfl
            · rw [if_neg e2, if_neg e2]; exact h.sf g
      · cases he
theorem KRel.remove {d : Dk} {B : Nat} {now : List (Value × ByteArray)} {safe : List (Value × Int)} (h : KRel d now safe) (hok : d.ok B) (f : ByteArray) (he : (removeF f d).1 = none) :
    onF d = true ∧ KRel (removeF f d).2 (pdel (ks f) now) (pdel (ks f) safe) := by
  unfold removeF at he ⊢
  cases hx : fnd f d with
  | none => rw [hx] at he; cases he
  | some x =>
    rw [hx] at he
    simp only at he
    split at he
    · rename_i ho
      refine ⟨ho, ?_⟩
      have hdo := doesF_ok hok ho
      show KRel (if onF d = true then ((none : Option Int), delF f (doesF d)) else (some 14, d)).2 _ _
      rw [if_pos ho]
      refine ⟨pdel_keys _ _ h.nk, pdel_nodup h.nn, fun g => ?_, pdel_keys _ _ h.sk, pdel_nodup h.sn, fun g => ?_⟩
      · rw [fnd_del hdo, pq_del h.nk h.nn]
        by_cases e : g = f
        · rw [if_pos e, if_pos e]; rfl
        · rw [if_neg e, if_neg e]; exact h.nf g
      · rw [fnd_del hdo, pq_del h.sk h.sn]
        by_cases e : g = f
        · rw [if_pos e, if_pos e]; rfl
        · rw [if_neg e, if_neg e]; exact h.sf g
    · cases he
/-- An error: nothing was done. -/
theorem append_err {f s : ByteArray} {d : Dk} {m : Int} (he : (appendF f s d).1 = some m) : (appendF f s d).2 = d := by
  unfold appendF at he ⊢
  split at he
  · rename_i hb; rw [if_pos hb]
  · rename_i hb
    split at he
    · cases he
    · rename_i ho; rw [if_neg hb, if_neg ho]
theorem sync_err {f : ByteArray} {d : Dk} {m : Int} (he : (syncF f d).1 = some m) : (syncF f d).2 = d := by
  unfold syncF at he ⊢
  cases hx : fnd f d with
  | none => rfl
  | some x =>
    rw [hx] at he
    simp only at he
    split at he
    · cases he
    · rename_i ho; simp only [if_neg ho]
theorem move_err {f t : ByteArray} {d : Dk} {m : Int} (he : (moveF f t d).1 = some m) : (moveF f t d).2 = d := by
  unfold moveF at he ⊢
  split at he
  · rename_i hb; rw [if_pos hb]
  · rename_i hb
    rw [if_neg hb]
    cases hx : fnd f d with
    | none => rfl
    | some x =>
      rw [hx] at he
      simp only at he
      split at he
      · cases he
      · rename_i ho; simp only [if_neg ho]
theorem remove_err {f : ByteArray} {d : Dk} {m : Int} (he : (removeF f d).1 = some m) : (removeF f d).2 = d := by
  unfold removeF at he ⊢
  cases hx : fnd f d with
  | none => rfl
  | some x =>
    rw [hx] at he
    simp only at he
    split at he
    · cases he
    · rename_i ho; simp only [if_neg ho]
/-- Behind a start: each file that is there. -/
theorem KRel.there {d : Dk} {B : Nat} {now : List (Value × ByteArray)} {safe : List (Value × Int)} (h : KRel d now safe) (hok : d.ok B) (keeps : Int) {f : ByteArray} {z : Fl} (hz : fnd f (startF keeps d) = some z) :
    ∃ x, pfind (ks f) now = some x ∧ z.1 = x.extract 0 z.1.size ∧ z.1.size ≤ x.size ∧ (pfind (ks f) safe).getD 0 ≤ z.1.size ∧ (z.1.size : Int) - (pfind (ks f) safe).getD 0 ≤ max keeps 0 ∧ 0 ≤ (pfind (ks f) safe).getD 0 := by
  rw [fnd_start hok] at hz
  cases hx : fnd f d with
  | none => rw [hx] at hz; cases hz
  | some x =>
    rw [hx] at hz
    have hsz := fnd_sz hok hx
    have hz' : keepF keeps x = some z := hz
    have hf := h.nf f
    have hs := h.sf f
    rw [hx] at hf hs
    unfold keepF at hz'
    split at hz'
    · cases hz'
    · obtain rfl := Option.some.inj hz'
      have e : ((x.1.extract 0 (max x.2 0 + min (max keeps 0) (x.1.size - max x.2 0)).toNat).size : Int) = max x.2 0 + min (max keeps 0) (x.1.size - max x.2 0) := keep_len keeps x ⟨hsz.2.1, hsz.2.2⟩
      have hs' : (pfind (ks f) safe).getD 0 = max x.2 0 := hs
      refine ⟨x.1, hf, ?_, ?_, ?_, ?_, ?_⟩
      · show x.1.extract 0 _ = x.1.extract 0 (x.1.extract 0 _).size
        rw [show (x.1.extract 0 (max x.2 0 + min (max keeps 0) (x.1.size - max x.2 0)).toNat).size = (max x.2 0 + min (max keeps 0) (x.1.size - max x.2 0)).toNat by omega]
      · show (x.1.extract 0 _).size ≤ _
        omega
      · show _ ≤ ((x.1.extract 0 _).size : Int)
        omega
      · show ((x.1.extract 0 _).size : Int) - _ ≤ _
        omega
      · omega
/-- Behind a start: what was safe. -/
theorem KRel.kept {d : Dk} {B : Nat} {now : List (Value × ByteArray)} {safe : List (Value × Int)} (h : KRel d now safe) (hok : d.ok B) (keeps : Int) {f : ByteArray} {n : Int} (hn : pfind (ks f) safe = some n) (h0 : n > 0) :
    ∃ z, fnd f (startF keeps d) = some z ∧ n ≤ z.1.size := by
  have hs := h.sf f
  rw [hn] at hs
  cases hx : fnd f d with
  | none =>
    rw [hx] at hs
    have : n = 0 := hs
    omega
  | some x =>
    rw [hx] at hs
    have hs' : n = max x.2 0 := hs
    have hsz := fnd_sz hok hx
    refine ⟨(x.1.extract 0 (max x.2 0 + min (max keeps 0) (x.1.size - max x.2 0)).toNat, max x.2 0 + min (max keeps 0) (x.1.size - max x.2 0)), ?_, ?_⟩
    · rw [fnd_start hok, hx]
      exact if_neg (by omega)
    · have e := keep_len keeps x ⟨hsz.2.1, hsz.2.2⟩
      show n ≤ ((x.1.extract 0 _).size : Int)
      omega
end Go.PL
