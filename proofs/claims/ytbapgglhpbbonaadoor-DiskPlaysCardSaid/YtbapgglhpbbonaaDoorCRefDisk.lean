/-
  Contracts: the document's disk: one change.
-/
import Derived.Test.YtbapgglhpbbonaaDoorCDisk2
import Derived.Test.YtbapgglhpbbonaaDoorPRel
namespace Go.Proofs.YtbapgglhpbbonaaDoor
open Go.GK Go.PL Go.RowKit
set_option maxRecDepth 100000
abbrev ee (x : Fl) : GV := .agg [gs x.1, gi x.2]
abbrev rheap (F : List (Value × Fl)) (left : Int) : Heap := [(0, .blk 61 [.o 1, gi left]), (1, .mp none (pes ee F))]
theorem ee_id (L : List (Value × Fl)) (n : Nat) : idbM n (pes ee L) = true := idbM_pes ee n (fun _ => rfl) L
theorem ee_ren (f : Nat → Nat) (L : List (Value × Fl)) : renM f (pes ee L) = pes ee L := renM_pes ee (fun _ => rfl) f L
theorem refIn_rt (x lo hi : Int) : Rt pg 39 [gi x, gi lo, gi hi] (.b (decide (lo ≤ x ∧ x ≤ hi))) := by
  refine Rt.of pg_ok Tryd.func39 rfl Tryd.ntmps39 rfl Tryd.results39 Tryd.call39 fun H0 S0 w0 h0 g0 => ?_
  by_cases h1 : lo ≤ x
  · refine ⟨fun _ => ?_, fun hc => absurd hc (by simp [h1])⟩
    exact ⟨by simp [eqG, resG, h1], rfl⟩
  · refine ⟨fun hc => absurd hc (by simp [h1]), fun _ => ?_⟩
    exact ⟨by simp [eqG, resG, h1], rfl⟩
def RefQ (e : Int) (d : Dk) : GV → Heap → Nat → Prop := fun g σ n => g = gi e ∧ (∃ F left, Rel d F left ∧ σ = rheap F left) ∧ n = 2
theorem RefQ.of {f : FuncId} {args : List GV} {σ : Heap} {e : Int} {d : Dk} (h : Hf pg f 2 args σ fun g' σ' n' => g' = gi e ∧ (∃ F left, Rel d F left ∧ hlook σ' 0 = some (.blk 61 [.o 1, gi left]) ∧ hlook σ' 1 = some (.mp none (pes ee F))) ∧ Nat.ble 2 n' = true) : Hf pg f 2 args σ (RefQ e d) := by
  refine h.weak fun g' σ' n' ⟨hgg, ⟨F, left, hr, h1, h2⟩, h3⟩ => ⟨id, gi e, _, 2, ⟨rfl, ⟨F, left, hr, rfl⟩, rfl⟩, by rw [hgg]; rfl, ⟨h1, ?_, trivial⟩, ?_⟩
  · show hlook σ' 1 = some (.mp none (renM id (pes ee F)))
    rw [ee_ren]; exact h2
  · simp [idb, idbL, idbH, idbR, ee_id, distB, hids, memB, fixB]; rfl
theorem ee_some {F : List (Value × Fl)} {f : ByteArray} {x : Fl} (h : pfind (ks f) F = some x) : mfind (ks f) (pes ee F) = some (ee x) := by rw [mfind_pes, h]; rfl
theorem ee_none {F : List (Value × Fl)} {f : ByteArray} (h : pfind (ks f) F = none) : mfind (ks f) (pes ee F) = none := by rw [mfind_pes, h]; rfl
theorem rel_wrap {d : Dk} {B : Nat} {F : List (Value × Fl)} {left : Int} (hr : Rel d F left) (hok : d.ok B) (h : left > 0) : IntKind.i64.wrap (left - 1) = left - 1 := by
  have := hok.hi
  rcases hr.lf with ⟨_, h1⟩ | ⟨_, h1⟩
  · omega
  · exact wrap_id (by omega) (by omega)
/-- What a changed disk is, behind a step. -/
theorem RefQ.go {d' : Dk} {F' : List (Value × Fl)} {left' l : Int} {e e' : GV} {σ : Heap} {n : Nat} (he : e' = e) (hr : Rel d' F' left') (hl : l = left') (h1 : hlook σ 0 = some (.blk 61 [.o 1, gi l])) (h2 : hlook σ 1 = some (.mp none (pes ee F'))) (h3 : Nat.ble 2 n = true) : e' = e ∧ (∃ F left, Rel d' F left ∧ hlook σ 0 = some (.blk 61 [.o 1, gi left]) ∧ hlook σ 1 = some (.mp none (pes ee F))) ∧ Nat.ble 2 n = true :=
  ⟨he, ⟨F', left', hr, by rw [h1, hl], h2⟩, h3⟩
theorem ref0_hf (d : Dk) (B : Nat) (hok : d.ok B) (F : List (Value × Fl)) (left : Int) (hr : Rel d F left) (f s : ByteArray) (hs : B + s.size ≤ 1000000000) : Hf pg 21 2 [.p 0 0, gi 0, gs f, gs s] (rheap F left) (RefQ (match (appendF f s d).1 with | none => 0 | some m => m) (appendF f s d).2) := by
  have hfd := hr.fd f
  have hon := hr.on hok
  have hbi := badN_in f
  have hw := rel_wrap hr hok
  refine RefQ.of (Hf.of pg_ok Tryd.func21 rfl Tryd.ntmps21 rfl Tryd.results21 Tryd.call21 fun H0 S0 w0 h0 g0 => ?_)
  unfold appendF
  rcases tf (badN f) with hb | hb
  · rw [if_pos hb]
    rw [hb] at hbi
    cases hf : fnd f d with
    | none =>
      rw [hf] at hfd
      refine lkN (ee_none hfd) ?_
      repeat (first | refine p1 ?_ | refine p2 ?_ | refine p3 ?_ | refine p4 ?_)
      refine GO ((refIn_rt _ _ _).bt (d := false) hbi) rfl ?_
      exact RefQ.go rfl hr rfl rfl rfl rfl
    | some x =>
      rw [hf] at hfd
      refine lkS (ee_some hfd) ?_
      repeat (first | refine p1 ?_ | refine p2 ?_ | refine p3 ?_ | refine p4 ?_)
      refine GO ((refIn_rt _ _ _).bt (d := false) hbi) rfl ?_
      exact RefQ.go rfl hr rfl rfl rfl rfl
  · rw [if_neg (by rw [hb]; decide)]
    rw [hb] at hbi
    rcases tf (onF d) with ho | ho
    · rw [if_pos ho]
      rw [ho] at hon
      have hl0 : left ≠ 0 := of_decide_eq_true hon.symm
      have hrd := hr.does hok ho
      cases hf : fnd f d with
      | none =>
        rw [hf] at hfd
        refine lkN (ee_none hfd) ?_
        repeat (first | refine p1 ?_ | refine p2 ?_ | refine p3 ?_ | refine p4 ?_)
        refine GO ((refIn_rt _ _ _).bt (d := true) hbi) rfl ?_
        have hrp := hrd.put (doesF_ok hok ho) f (s, -1)
        have hmp : some (Res.mp none (mput (ks f) (.agg [gs (ByteArray.empty ++ s), gi (-1)]) (pes ee F))) = some (Res.mp none (pes ee (pput (ks f) (s, -1) F))) := by
          rw [show (ByteArray.empty ++ s : ByteArray) = s by simp]
          exact congrArg (fun l => some (Res.mp none l)) (mput_pes ee (ks f) (s, -1) F)
        repeat (first | refine p1 ?_ | refine p2 ?_ | refine p3 ?_ | refine p4 ?_)
        refine ⟨fun hc => ?_, fun hc => ?_⟩
        · have hc' : left > 0 := of_decide_eq_true hc
          repeat (first | refine p1 ?_ | refine p2 ?_ | refine p3 ?_ | refine p4 ?_)
          refine DRAW [1] true (tk (List.range 11) ++ al [11] ++ tk [12]) (by kernel_rfl) ?_
          refine ⟨by show 0 + s.size ≤ _; omega, ?_⟩
          refine V ?_
          exact RefQ.go rfl hrp (by rw [if_pos hc']; exact hw hc') rfl hmp rfl
        · have hc' : ¬ left > 0 := of_decide_eq_false hc
          repeat (first | refine p1 ?_ | refine p2 ?_ | refine p3 ?_ | refine p4 ?_)
          refine DRAW [1] true (tk (List.range 11) ++ al [11] ++ tk [12]) (by kernel_rfl) ?_
          refine ⟨by show 0 + s.size ≤ _; omega, ?_⟩
          refine V ?_
          exact RefQ.go rfl hrp (by rw [if_neg hc']) rfl hmp rfl
      | some x =>
        rw [hf] at hfd
        have hsz := fnd_sz hok hf
        refine lkS (ee_some hfd) ?_
        repeat (first | refine p1 ?_ | refine p2 ?_ | refine p3 ?_ | refine p4 ?_)
        refine GO ((refIn_rt _ _ _).bt (d := true) hbi) rfl ?_
        have hrp := hrd.put (doesF_ok hok ho) f (x.1 ++ s, x.2)
        have hmp : some (Res.mp none (mput (ks f) (.agg [gs (x.1 ++ s), gi x.2]) (pes ee F))) = some (Res.mp none (pes ee (pput (ks f) (x.1 ++ s, x.2) F))) :=
          congrArg (fun l => some (Res.mp none l)) (mput_pes ee (ks f) (x.1 ++ s, x.2) F)
        repeat (first | refine p1 ?_ | refine p2 ?_ | refine p3 ?_ | refine p4 ?_)
        refine ⟨fun hc => ?_, fun hc => ?_⟩
        · have hc' : left > 0 := of_decide_eq_true hc
          repeat (first | refine p1 ?_ | refine p2 ?_ | refine p3 ?_ | refine p4 ?_)
          refine DRAW [1] true (tk (List.range 11) ++ al [11] ++ tk [12]) (by kernel_rfl) ?_
          refine ⟨by show x.1.size + s.size ≤ _; omega, ?_⟩
          refine V ?_
          exact RefQ.go rfl hrp (by rw [if_pos hc']; exact hw hc') rfl hmp rfl
        · have hc' : ¬ left > 0 := of_decide_eq_false hc
          repeat (first | refine p1 ?_ | refine p2 ?_ | refine p3 ?_ | refine p4 ?_)
          refine DRAW [1] true (tk (List.range 11) ++ al [11] ++ tk [12]) (by kernel_rfl) ?_
          refine ⟨by show x.1.size + s.size ≤ _; omega, ?_⟩
          refine V ?_
          exact RefQ.go rfl hrp (by rw [if_neg hc']) rfl hmp rfl
    · rw [if_neg (by rw [ho]; decide)]
      rw [ho] at hon
      have hl0 : left = 0 := Decidable.byContradiction (of_decide_eq_false hon.symm)
      subst hl0
      cases hf : fnd f d with
      | none =>
        rw [hf] at hfd
        refine lkN (ee_none hfd) ?_
        repeat (first | refine p1 ?_ | refine p2 ?_ | refine p3 ?_ | refine p4 ?_)
        refine GO ((refIn_rt _ _ _).bt (d := true) hbi) rfl ?_
        repeat (first | refine p1 ?_ | refine p2 ?_ | refine p3 ?_ | refine p4 ?_)
        exact RefQ.go rfl hr rfl rfl rfl rfl
      | some x =>
        rw [hf] at hfd
        refine lkS (ee_some hfd) ?_
        repeat (first | refine p1 ?_ | refine p2 ?_ | refine p3 ?_ | refine p4 ?_)
        refine GO ((refIn_rt _ _ _).bt (d := true) hbi) rfl ?_
        repeat (first | refine p1 ?_ | refine p2 ?_ | refine p3 ?_ | refine p4 ?_)
        exact RefQ.go rfl hr rfl rfl rfl rfl
theorem ref1_hf (d : Dk) (B : Nat) (hok : d.ok B) (F : List (Value × Fl)) (left : Int) (hr : Rel d F left) (f : ByteArray) : Hf pg 21 2 [.p 0 0, gi 1, gs f, gs ⟨#[]⟩] (rheap F left) (RefQ (match (syncF f d).1 with | none => 0 | some m => m) (syncF f d).2) := by
  have hfd := hr.fd f
  have hon := hr.on hok
  have hw := rel_wrap hr hok
  unfold syncF
  cases hf : fnd f d with
  | none =>
    rw [hf] at hfd
    refine RefQ.of (Hf.of pg_ok Tryd.func21 rfl Tryd.ntmps21 rfl Tryd.results21 Tryd.call21 fun H0 S0 w0 h0 g0 => ?_)
    refine lkN (ee_none hfd) ?_
    repeat (first | refine p1 ?_ | refine p2 ?_ | refine p3 ?_ | refine p4 ?_)
    exact RefQ.go rfl hr rfl rfl rfl rfl
  | some x =>
    rw [hf] at hfd
    have hsz := fnd_sz hok hf
    simp only []
    refine RefQ.of (Hf.of pg_ok Tryd.func21 rfl Tryd.ntmps21 rfl Tryd.results21 Tryd.call21 fun H0 S0 w0 h0 g0 => ?_)
    refine lkS (ee_some hfd) ?_
    rcases tf (onF d) with ho | ho
    · rw [if_pos ho]
      rw [ho] at hon
      have hl0 : left ≠ 0 := of_decide_eq_true hon.symm
      have hrd := hr.does hok ho
      have hrp := hrd.put (doesF_ok hok ho) f (x.1, x.1.size)
      have hmp : some (Res.mp none (mput (ks f) (.agg [gs x.1, gi x.1.size]) (pes ee F))) = some (Res.mp none (pes ee (pput (ks f) (x.1, x.1.size) F))) :=
        congrArg (fun l => some (Res.mp none l)) (mput_pes ee (ks f) (x.1, x.1.size) F)
      repeat (first | refine p1 ?_ | refine p2 ?_ | refine p3 ?_ | refine p4 ?_)
      refine ⟨fun hc => ?_, fun hc => ?_⟩
      · have hc' : left > 0 := of_decide_eq_true hc
        repeat (first | refine p1 ?_ | refine p2 ?_ | refine p3 ?_ | refine p4 ?_)
        refine DRAW [1] true (tk (List.range 10) ++ al [10] ++ tk [11]) (by kernel_rfl) ?_
        refine V ?_
        exact RefQ.go rfl hrp (by rw [if_pos hc']; exact hw hc') rfl hmp rfl
      · have hc' : ¬ left > 0 := of_decide_eq_false hc
        repeat (first | refine p1 ?_ | refine p2 ?_ | refine p3 ?_ | refine p4 ?_)
        refine DRAW [1] true (tk (List.range 10) ++ al [10] ++ tk [11]) (by kernel_rfl) ?_
        refine V ?_
        exact RefQ.go rfl hrp (by rw [if_neg hc']) rfl hmp rfl
    · rw [if_neg (by rw [ho]; decide)]
      rw [ho] at hon
      have hl0 : left = 0 := Decidable.byContradiction (of_decide_eq_false hon.symm)
      subst hl0
      repeat (first | refine p1 ?_ | refine p2 ?_ | refine p3 ?_ | refine p4 ?_)
      exact RefQ.go rfl hr rfl rfl rfl rfl
theorem ref3_hf (d : Dk) (B : Nat) (hok : d.ok B) (F : List (Value × Fl)) (left : Int) (hr : Rel d F left) (f : ByteArray) : Hf pg 21 2 [.p 0 0, gi 3, gs f, gs ⟨#[]⟩] (rheap F left) (RefQ (match (removeF f d).1 with | none => 0 | some m => m) (removeF f d).2) := by
  have hfd := hr.fd f
  have hon := hr.on hok
  have hw := rel_wrap hr hok
  unfold removeF
  cases hf : fnd f d with
  | none =>
    rw [hf] at hfd
    refine RefQ.of (Hf.of pg_ok Tryd.func21 rfl Tryd.ntmps21 rfl Tryd.results21 Tryd.call21 fun H0 S0 w0 h0 g0 => ?_)
    refine lkN (ee_none hfd) ?_
    repeat (first | refine p1 ?_ | refine p2 ?_ | refine p3 ?_ | refine p4 ?_)
    exact RefQ.go rfl hr rfl rfl rfl rfl
  | some x =>
    rw [hf] at hfd
    simp only []
    refine RefQ.of (Hf.of pg_ok Tryd.func21 rfl Tryd.ntmps21 rfl Tryd.results21 Tryd.call21 fun H0 S0 w0 h0 g0 => ?_)
    refine lkS (ee_some hfd) ?_
    rcases tf (onF d) with ho | ho
    · rw [if_pos ho]
      rw [ho] at hon
      have hl0 : left ≠ 0 := of_decide_eq_true hon.symm
      have hrd := hr.does hok ho
      have hrp := hrd.del (doesF_ok hok ho) f
      have hmp : some (Res.mp none (mdel (ks f) (pes ee F))) = some (Res.mp none (pes ee (pdel (ks f) F))) :=
        congrArg (fun l => some (Res.mp none l)) (mdel_pes ee (ks f) F)
      repeat (first | refine p1 ?_ | refine p2 ?_ | refine p3 ?_ | refine p4 ?_)
      refine ⟨fun hc => ?_, fun hc => ?_⟩
      · have hc' : left > 0 := of_decide_eq_true hc
        repeat (first | refine p1 ?_ | refine p2 ?_ | refine p3 ?_ | refine p4 ?_)
        exact RefQ.go rfl hrp (by rw [if_pos hc']; exact hw hc') rfl hmp rfl
      · have hc' : ¬ left > 0 := of_decide_eq_false hc
        repeat (first | refine p1 ?_ | refine p2 ?_ | refine p3 ?_ | refine p4 ?_)
        exact RefQ.go rfl hrp (by rw [if_neg hc']) rfl hmp rfl
    · rw [if_neg (by rw [ho]; decide)]
      rw [ho] at hon
      have hl0 : left = 0 := Decidable.byContradiction (of_decide_eq_false hon.symm)
      subst hl0
      repeat (first | refine p1 ?_ | refine p2 ?_ | refine p3 ?_ | refine p4 ?_)
      exact RefQ.go rfl hr rfl rfl rfl rfl
theorem ref2_hf (d : Dk) (B : Nat) (hok : d.ok B) (F : List (Value × Fl)) (left : Int) (hr : Rel d F left) (f t : ByteArray) : Hf pg 21 2 [.p 0 0, gi 2, gs f, gs t] (rheap F left) (RefQ (match (moveF f t d).1 with | none => 0 | some m => m) (moveF f t d).2) := by
  have hfd := hr.fd f
  have hon := hr.on hok
  have hw := rel_wrap hr hok
  have hbi := badN_in t
  unfold moveF
  rcases tf (badN t) with hb | hb
  · rw [if_pos hb]
    rw [hb] at hbi
    refine RefQ.of (Hf.of pg_ok Tryd.func21 rfl Tryd.ntmps21 rfl Tryd.results21 Tryd.call21 fun H0 S0 w0 h0 g0 => ?_)
    cases hf : fnd f d with
    | none =>
      rw [hf] at hfd
      refine lkN (ee_none hfd) ?_
      repeat (first | refine p1 ?_ | refine p2 ?_ | refine p3 ?_ | refine p4 ?_)
      refine GO ((refIn_rt _ _ _).bt (d := false) hbi) rfl ?_
      exact RefQ.go rfl hr rfl rfl rfl rfl
    | some x =>
      rw [hf] at hfd
      refine lkS (ee_some hfd) ?_
      repeat (first | refine p1 ?_ | refine p2 ?_ | refine p3 ?_ | refine p4 ?_)
      refine GO ((refIn_rt _ _ _).bt (d := false) hbi) rfl ?_
      exact RefQ.go rfl hr rfl rfl rfl rfl
  · rw [if_neg (by rw [hb]; decide)]
    rw [hb] at hbi
    cases hf : fnd f d with
    | none =>
      rw [hf] at hfd
      refine RefQ.of (Hf.of pg_ok Tryd.func21 rfl Tryd.ntmps21 rfl Tryd.results21 Tryd.call21 fun H0 S0 w0 h0 g0 => ?_)
      refine lkN (ee_none hfd) ?_
      repeat (first | refine p1 ?_ | refine p2 ?_ | refine p3 ?_ | refine p4 ?_)
      refine GO ((refIn_rt _ _ _).bt (d := true) hbi) rfl ?_
      repeat (first | refine p1 ?_ | refine p2 ?_ | refine p3 ?_ | refine p4 ?_)
      exact RefQ.go rfl hr rfl rfl rfl rfl
    | some x =>
      rw [hf] at hfd
      simp only []
      refine RefQ.of (Hf.of pg_ok Tryd.func21 rfl Tryd.ntmps21 rfl Tryd.results21 Tryd.call21 fun H0 S0 w0 h0 g0 => ?_)
      refine lkS (ee_some hfd) ?_
      repeat (first | refine p1 ?_ | refine p2 ?_ | refine p3 ?_ | refine p4 ?_)
      refine GO ((refIn_rt _ _ _).bt (d := true) hbi) rfl ?_
      rcases tf (onF d) with ho | ho
      · rw [if_pos ho]
        rw [ho] at hon
        have hl0 : left ≠ 0 := of_decide_eq_true hon.symm
        have hrd := hr.does hok ho
        have hdo := doesF_ok hok ho
        have hrp := (hrd.del hdo f).put (delF_ok hdo) t x
        have hmp : some (Res.mp none (mput (ks t) (ee x) (mdel (ks f) (pes ee F)))) = some (Res.mp none (pes ee (pput (ks t) x (pdel (ks f) F)))) := by
          rw [mdel_pes ee (ks f) F]
          exact congrArg (fun l => some (Res.mp none l)) (mput_pes ee (ks t) x (pdel (ks f) F))
        repeat (first | refine p1 ?_ | refine p2 ?_ | refine p3 ?_ | refine p4 ?_)
        refine ⟨fun hc => ?_, fun hc => ?_⟩
        · have hc' : left > 0 := of_decide_eq_true hc
          repeat (first | refine p1 ?_ | refine p2 ?_ | refine p3 ?_ | refine p4 ?_)
          refine DRAW [1] true (tk (List.range 7)) (by kernel_rfl) ?_
          refine V ?_
          exact RefQ.go rfl hrp (by rw [if_pos hc']; exact hw hc') rfl hmp rfl
        · have hc' : ¬ left > 0 := of_decide_eq_false hc
          repeat (first | refine p1 ?_ | refine p2 ?_ | refine p3 ?_ | refine p4 ?_)
          refine DRAW [1] true (tk (List.range 7)) (by kernel_rfl) ?_
          refine V ?_
          exact RefQ.go rfl hrp (by rw [if_neg hc']) rfl hmp rfl
      · rw [if_neg (by rw [ho]; decide)]
        rw [ho] at hon
        have hl0 : left = 0 := Decidable.byContradiction (of_decide_eq_false hon.symm)
        subst hl0
        repeat (first | refine p1 ?_ | refine p2 ?_ | refine p3 ?_ | refine p4 ?_)
        exact RefQ.go rfl hr rfl rfl rfl rfl
end Go.Proofs.YtbapgglhpbbonaaDoor
