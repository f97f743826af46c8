/-
  Contracts of what RollUp comes to, and RollUp itself.
-/
import Derived.Test.YtfagagfokmlgiaaDoorCTog
import Derived.Test.YtfagagfokmlgiaaDoorCSamples
import Derived.Test.YtfagagfokmlgiaaDoorCErr
namespace Go.Proofs.YtfagagfokmlgiaaDoor
open Go.GK Go.PL
set_option maxRecDepth 100000
def eqBu (a b : Bk) : Bool := a.start == b.start && (a.count == b.count && (a.sum == b.sum && (a.min == b.min && (a.max == b.max && true))))
theorem eqBu_iff (a b : Bk) : eqBu a b = true ↔ a = b := by
  obtain ⟨a1, a2, a3, a4, a5⟩ := a
  obtain ⟨b1, b2, b3, b4, b5⟩ := b
  simp [eqBu]
theorem lsame_rt (a b : List Bk) (hl : a.length ≤ 1000000) (hl' : b.length ≤ 1000000) : Rt pg 37 [.sl 5 (a.map bk), .sl 5 (b.map bk)] (.b (decide (a = b))) := by
  refine Rt.of pg_ok Tryd.func37 rfl Tryd.ntmps37 rfl Tryd.results37 Tryd.call37 fun H0 S0 w0 h0 g0 => ?_
  by_cases hab : a.length = b.length
  · refine p2 ?_ (by simp [hab])
    refine JK.loopE (α := Nat) (β := Unit) (fun i => ⟨[(0, .sl 5 (a.map bk)), (1, .sl 5 (b.map bk)), (5, gi i)], [], 0⟩) (fun i => i ≤ a.length ∧ ∀ j, j < i → a[j]? = b[j]?) (fun i => a.length - i) (fun _ => ⟨[], [], 0⟩) (fun _ => a = b) 0 id ?_ ⟨Nat.zero_le _, fun j hj => absurd hj (by omega)⟩ ?_ ?_
    · exact ⟨⟨rfl, rfl, rfl, trivial⟩, trivial, rfl⟩
    · rintro i ⟨hi, hgood⟩
      refine V ?_
      by_cases hlt : i < a.length
      · have hlt' : i < b.length := by omega
        refine p1 ?_
        refine ⟨by kernel_rfl, ?_⟩
        refine ix (h := ?_)
        refine ix (h := ?_)
        by_cases he : a[i] = b[i]
        · refine p2 ?_ (show (!eqBu a[i] b[i]) = false by rw [(eqBu_iff _ _).2 he]; rfl)
          refine ⟨i + 1, id, ⟨⟨rfl, rfl, succ_gi (by omega), trivial⟩, trivial, rfl⟩, ⟨hlt, fun j hj => ?_⟩, by show a.length - (i + 1) < a.length - i; omega⟩
          rcases Nat.lt_succ_iff_lt_or_eq.1 hj with h1 | h1
          · exact hgood j h1
          · subst h1
            rw [List.getElem?_eq_getElem hlt, List.getElem?_eq_getElem hlt', he]
        · have hne : a ≠ b := fun e => he (by subst e; rfl)
          rw [decide_eq_false hne]
          refine p1 ?_ (show (!eqBu a[i] b[i]) = true by
            cases h : eqBu a[i] b[i] with
            | false => rfl
            | true => exact absurd ((eqBu_iff _ _).1 h) he)
          exact ⟨rfl, rfl⟩
      · refine p2 ?_
        refine ⟨(), id, ⟨trivial, trivial, rfl⟩, List.ext_getElem? fun j => ?_⟩
        by_cases hj : j < a.length
        · exact hgood j (by omega)
        · rw [List.getElem?_eq_none (by omega), List.getElem?_eq_none (by omega)]
    · rintro _ e
      rw [decide_eq_true e]
      refine V ?_
      exact ⟨rfl, rfl⟩
  · have hne : a ≠ b := fun e => hab (by rw [e])
    rw [decide_eq_false hne]
    refine p1 ?_ (by simp; omega)
    exact ⟨rfl, rfl⟩
/-- The document's answer, where it has one. -/
theorem refUp_rt (l : List Sm) (s : Int) (hl : l.length ≤ 100000) (h1 : 1 ≤ s) (h2 : s ≤ 1099511627776) (hr : Ris l) : Rt pg 34 [.sl 2 (l.map sm), gi s] (.tup [.sl 5 ((upF l s).map bk), gi 0]) := by
  refine Rt.of pg_ok Tryd.func34 rfl Tryd.ntmps34 rfl Tryd.results34 Tryd.call34 fun H0 S0 w0 h0 g0 => ?_
  refine GO ((Rq.old Tryd.call52 (in_ct s 1 1099511627776)).bt (d := true) (decide_eq_true ⟨h1, h2⟩)) rfl ?_
  refine GO (buckets_rt l (by omega)) rfl ?_
  refine GO (together_rt (l.map fun x => (⟨x.time, 1, x.value, x.value, x.value⟩ : Bk)) s (by simpa using hl) h1 (by omega) (fun x hx => by
    obtain ⟨y, hy, rfl⟩ := List.mem_map.1 hx
    have a := hr.lo y hy
    have b := hr.hi y hy
    exact ⟨by show _ ≤ y.time; omega, by show y.time ≤ _; omega⟩)) rfl ?_
  have e : togF ((l.map fun x => (⟨x.time, 1, x.value, x.value, x.value⟩ : Bk)).map (widen s)) = upF l s := by
    rw [List.map_map, show (widen s ∘ fun x : Sm => (⟨x.time, 1, x.value, x.value, x.value⟩ : Bk)) = oneF s from rfl]
    refine togF_rise ?_
    rw [List.pairwise_map]
    refine List.pairwise_iff_getElem.2 fun i j hi hj hij => ?_
    have := List.pairwise_iff_getElem.1 hr.up i j hi hj hij
    have a := hr.lo l[i] (List.getElem_mem hi)
    have b := hr.hi l[i] (List.getElem_mem hi)
    have c := hr.lo l[j] (List.getElem_mem hj)
    have d := hr.hi l[j] (List.getElem_mem hj)
    exact floor_mono h1 (by omega) (by omega) (by omega) (by omega) (by omega) (by omega)
  rw [e]
  exact ⟨⟨rfl, rfl, trivial⟩, rfl⟩
theorem refUpNo_rt (l : List Sm) (s : Int) (h : ¬ (1 ≤ s ∧ s ≤ 1099511627776)) : Rt pg 34 [.sl 2 (l.map sm), gi s] (.tup [.v (.slice none 0 0), gi 1]) := by
  refine Rt.of pg_ok Tryd.func34 rfl Tryd.ntmps34 rfl Tryd.results34 Tryd.call34 fun H0 S0 w0 h0 g0 => ?_
  refine GO ((Rq.old Tryd.call52 (in_ct s 1 1099511627776)).bt (d := false) (decide_eq_false h)) rfl ?_
  exact ⟨⟨rfl, rfl, trivial⟩, rfl⟩
theorem upNo_rt (l : List Sm) (s : Int) (h : ¬ (1 ≤ s ∧ s ≤ 1099511627776)) : Rt pg 35 [.sl 2 (l.map sm), gi s] (.tup [.v (.slice none 0 0), erG (some 1)]) := by
  refine Rt.of pg_ok Tryd.func35 rfl Tryd.ntmps35 rfl Tryd.results35 Tryd.call35 fun H0 S0 w0 h0 g0 => ?_
  by_cases h1 : s < 1
  · repeat (first | refine p1 ?_ | refine p2 ?_ | refine p3 ?_ | refine p4 ?_)
    exact ⟨⟨rfl, rfl, trivial⟩, rfl⟩
  · have h2 : s > 1099511627776 := by omega
    repeat (first | refine p1 ?_ | refine p2 ?_ | refine p3 ?_ | refine p4 ?_)
    exact ⟨⟨rfl, rfl, trivial⟩, rfl⟩
theorem widerNo_rt (l : List Bk) (s : Int) (h1 : 1 ≤ s) (h2 : s ≤ 1099511627776) : Rt pg 42 [.sl 5 (l.map bk), gi s, gi 0] (.tup [.v (.slice none 0 0), erG (some 1)]) := by
  refine Rt.of pg_ok Tryd.func42 rfl Tryd.ntmps42 rfl Tryd.results42 Tryd.call42 fun H0 S0 w0 h0 g0 => ?_
  refine GO ((Rq.old Tryd.call73 (wider1_ct s)).bt (d := true) (decide_eq_true ⟨h1, h2⟩)) rfl ?_
  refine GO ((Rq.old Tryd.call73 (wider1_ct 0)).bt (d := false) (by decide)) rfl ?_
  exact ⟨⟨rfl, rfl, trivial⟩, rfl⟩
theorem up_app {s : Int} {l : List Sm} (h1 : 1 ≤ s) (h2 : s ≤ 4398046511104) (hr : Ris l) : (upF l s).map (widen s) = upF l s := by
  conv => rhs; rw [← List.map_id (upF l s)]
  refine List.map_congr_left fun z hz => ?_
  obtain ⟨x, hx, e⟩ := (upF_up h1 h2 l hr).2 z hz
  have a := hr.lo x hx
  have b := hr.hi x hx
  have hm := floorF_mod (t := x.time) h1 h2 (by omega) (by omega)
  show widen s z = z
  unfold widen
  have : floorF z.start s = z.start := by
    rw [e]
    generalize floorF x.time s = t at hm ⊢
    unfold floorF
    rw [hm.1, if_neg (by omega), Int.sub_zero, w64_id (by omega) (by omega)]
  rw [this]
theorem fold_len : ∀ (l out : List Bk), (l.foldl combF out).length ≤ out.length + l.length
  | [], _ => by simp
  | b :: r, out => by
    rw [List.foldl_cons]
    have := fold_len r (combF out b)
    have := comb_len b out
    simp; omega
theorem togF_len (l : List Bk) : (togF l).length ≤ l.length := by
  unfold togF
  rw [List.length_mergeSort]
  have := fold_len l []
  unfold togM
  simpa using this
theorem rollUp_rt (a b : List Sm) (s k : Int) : Rt pg 7 [.sl 2 (a.map sm), .sl 2 (b.map sm), gi s, gi k] (.b true) := by
  refine Rt.of pg_ok Tryd.func7 rfl Tryd.ntmps7 rfl Tryd.results7 Tryd.call7 fun H0 S0 w0 h0 g0 => ?_
  have hal : (a.map sm).length = a.length := by simp
  have hbl : (b.map sm).length = b.length := by simp
  by_cases ha : 60 < a.length
  · repeat (first | refine p1 ?_ | refine p2 ?_ | refine p3 ?_ | refine p4 ?_)
    exact ⟨rfl, rfl⟩
  by_cases hb : 60 < b.length
  · repeat (first | refine p1 ?_ | refine p2 ?_ | refine p3 ?_ | refine p4 ?_)
    exact ⟨rfl, rfl⟩
  repeat (first | refine p1 ?_ | refine p2 ?_ | refine p3 ?_ | refine p4 ?_)
  cases hsa : okS a with
  | false =>
    refine GO ((Rq.old Tryd.call33 (samples_ct a (by omega))).bt hsa) rfl ?_
    exact ⟨rfl, rfl⟩
  | true =>
  refine GO ((Rq.old Tryd.call33 (samples_ct a (by omega))).bt hsa) rfl ?_
  cases hsb : okS b with
  | false =>
    refine GO ((Rq.old Tryd.call33 (samples_ct b (by omega))).bt hsb) rfl ?_
    exact ⟨rfl, rfl⟩
  | true =>
  refine GO ((Rq.old Tryd.call33 (samples_ct b (by omega))).bt hsb) rfl ?_
  have hra : Ris a := ((okS_iff a).1 hsa).1
  have hrb : Ris b := ((okS_iff b).1 hsb).1
  by_cases hv : 1 ≤ s ∧ s ≤ 1099511627776
  · obtain ⟨h1, h2⟩ := hv
    have la := upF_len a s
    have lb := upF_len b s
    have ua := upF_up h1 (show s ≤ 4398046511104 by omega) a hra
    have ub := upF_up h1 (show s ≤ 4398046511104 by omega) b hrb
    have lo : ∀ l : List Sm, Ris l → ∀ z ∈ upF l s, -4398046511104 ≤ z.start ∧ z.start ≤ 4398046511104 := fun l hr z hz => by
      obtain ⟨x, hx, e⟩ := (upF_up h1 (show s ≤ 4398046511104 by omega) l hr).2 z hz
      have c := hr.lo x hx
      have d := hr.hi x hx
      have hm := floorF_mod (t := x.time) h1 (show s ≤ 4398046511104 by omega) (by omega) (by omega)
      rw [e]
      omega
    have ltog := togF_len (upF a s ++ upF b s)
    rw [List.length_append] at ltog
    have hT : Rt pg 39 [.sl 5 ((upF a s).map bk ++ (upF b s).map bk), gi s] (.sl 5 ((togF (upF a s ++ upF b s)).map bk)) := by
      have := together_rt (upF a s ++ upF b s) s (by rw [List.length_append]; omega) h1 (by omega) (fun x hx => by
        rcases List.mem_append.1 hx with hx | hx
        · exact lo a hra x hx
        · exact lo b hrb x hx)
      rw [List.map_append (f := widen s), up_app h1 (by omega) hra, up_app h1 (by omega) hrb, List.map_append (f := bk)] at this
      exact this
    refine GO (refUp_rt a s (by omega) h1 h2 hra) rfl ?_
    refine GO (Rq.old Tryd.call35 (up_ct a s h1 h2 (by omega))) rfl ?_
    refine GO ((Rq.old Tryd.call36 (bare_ct none 0)).bt (d := true) rfl) rfl ?_
    refine GO ((lsame_rt (upF a s) (upF a s) (by omega) (by omega)).bt (d := true) (decide_eq_true rfl)) rfl ?_
    repeat (first | refine p1 ?_ | refine p2 ?_ | refine p3 ?_ | refine p4 ?_)
    refine GO (refUp_rt b s (by omega) h1 h2 hrb) rfl ?_
    refine GO (Rq.old Tryd.call35 (up_ct b s h1 h2 (by omega))) rfl ?_
    repeat (first | refine p1 ?_ | refine p2 ?_ | refine p3 ?_ | refine p4 ?_)
    refine GO ((lsame_rt (upF b s) (upF b s) (by omega) (by omega)).bt (d := true) (decide_eq_true rfl)) rfl ?_
    refine GO (Rq.old Tryd.call38 (merge_ct (upF a s) (upF b s) (togF (upF a s ++ upF b s)) (by omega) (by omega) (fun n hn => merge_tog hn (ua.1.imp fun h => Int.le_of_lt h) (ub.1.imp fun h => Int.le_of_lt h)))) rfl ?_
    refine ⟨by simp only [List.length_map, List.length_nil]; omega, ?_⟩
    refine ⟨by simp only [List.length_append, List.length_map, List.length_nil]; omega, ?_⟩
    refine FRZ 2 rfl ?_
    refine GO hT rfl ?_
    refine GO ((lsame_rt (togF (upF a s ++ upF b s)) (togF (upF a s ++ upF b s)) (by omega) (by omega)).bt (d := true) (decide_eq_true rfl)) rfl ?_
    have hW0 : 1 ≤ s ∧ s ≤ 1099511627776 ∧ s.tmod s = 0 := ⟨h1, h2, Int.tmod_self⟩
    have hW1 : 1 ≤ k → k ≤ 1048576 → s ≤ 1048576 → 1 ≤ w64 (s * k) ∧ w64 (s * k) ≤ 1099511627776 ∧ (w64 (s * k)).tmod s = 0 := fun hk hk2 hs2 => by
      have e1 : s * k ≤ 1048576 * 1048576 := Int.mul_le_mul (by omega) (by omega) (by omega) (by omega)
      have e2 : 1 * 1 ≤ s * k := Int.mul_le_mul (by omega) (by omega) (by omega) (by omega)
      rw [w64_id (by omega) (by omega)]
      exact ⟨by omega, by omega, Int.mul_tmod_right _ _⟩
    have hwd : ∀ w : Int, 1 ≤ w ∧ w ≤ 1099511627776 ∧ w.tmod s = 0 → Rt pg 42 [.sl 5 ((upF a s).map bk), gi s, gi w] (.tup [.sl 5 ((widerF (upF a s) w).map bk), .v .nilIface]) := fun w hw => Rq.old Tryd.call42 (wider_ct (upF a s) s w h1 h2 hw.1 hw.2.1 hw.2.2 (by omega))
    have htw : ∀ w : Int, 1 ≤ w ∧ w ≤ 1099511627776 ∧ w.tmod s = 0 → Rt pg 39 [.sl 5 ((upF a s).map bk), gi w] (.sl 5 ((widerF (upF a s) w).map bk)) := fun w hw => by
      have := together_rt (upF a s) w (by omega) hw.1 (by omega) (lo a hra)
      rw [togF_rise] at this
      · exact this
      · rw [List.pairwise_map]
        refine List.pairwise_iff_getElem.2 fun i j hi hj hij => ?_
        have h5 := List.pairwise_iff_getElem.1 ua.1 i j hi hj hij
        have h6 := lo a hra _ (List.getElem_mem hi)
        have h7 := lo a hra _ (List.getElem_mem hj)
        exact floor_mono hw.1 (by omega) h6.1 h6.2 h7.1 h7.2 (by omega)
    have hwl : ∀ w : Int, (widerF (upF a s) w).length ≤ 60 := fun w => by have := widerF_len (upF a s) w; omega
    by_cases h0a : 0 < a.length
    · have hc : decide (((a.map sm).length : Int) > 0) = true := decide_eq_true (by omega)
      refine DRAW [] false (tk [0, 1, 2, 3, 4, 5, 6, 7, 8, 10, 11, 12, 13, 14]) (by kernel_rfl) ?_
      refine p1 ?_
      refine ix (i := 0) (h := ?_)
      refine ix (i := 0) (h := ?_)
      have hx0 := hra.lo _ (List.getElem_mem h0a)
      have hx1 := hra.hi _ (List.getElem_mem h0a)
      refine RGO 9 false [] (Rq.old Tryd.call40 (floor_ct a[0].time s (by omega))) rfl (congrArg (fun c => bif (c == true) then some (40, [gi a[0].time, gi s]) else none) hc) (by kernel_rfl) ?_
      refine RGO 15 true (tk [16, 17]) (floor_rt a[0].time s h1 (by omega) ⟨by omega, by omega⟩) rfl (congrArg (fun c => bif (c == true) then some (41, [gi a[0].time, gi s]) else none) hc) (by kernel_rfl) ?_
      refine V ?_
      refine p2 ?_ (by simp)
      by_cases hk : 1 ≤ k
      · by_cases hk2 : k ≤ 1048576
        · by_cases hs2 : s ≤ 1048576
          · have hW := hW1 hk hk2 hs2
            repeat (first | refine p1 ?_ | refine p2 ?_ | refine p3 ?_ | refine p4 ?_)
            refine GO (hwd (w64 (s * k)) hW) rfl ?_
            repeat (first | refine p1 ?_ | refine p2 ?_ | refine p3 ?_ | refine p4 ?_)
            refine GO (htw (w64 (s * k)) hW) rfl ?_
            refine GO ((lsame_rt (widerF (upF a s) (w64 (s * k))) (widerF (upF a s) (w64 (s * k))) (Nat.le_trans (hwl _) (by decide)) (Nat.le_trans (hwl _) (by decide))).bt (d := true) (decide_eq_true rfl)) rfl ?_
            refine GO (widerNo_rt (upF a s) s h1 h2) rfl ?_
            refine GO ((Rq.old Tryd.call36 (bare_ct (some 1) 1)).bt (d := true) rfl) rfl ?_
            exact ⟨rfl, rfl⟩
          · repeat (first | refine p1 ?_ | refine p2 ?_ | refine p3 ?_ | refine p4 ?_)
            refine GO (hwd s hW0) rfl ?_
            repeat (first | refine p1 ?_ | refine p2 ?_ | refine p3 ?_ | refine p4 ?_)
            refine GO (htw s hW0) rfl ?_
            refine GO ((lsame_rt (widerF (upF a s) s) (widerF (upF a s) s) (Nat.le_trans (hwl _) (by decide)) (Nat.le_trans (hwl _) (by decide))).bt (d := true) (decide_eq_true rfl)) rfl ?_
            refine GO (widerNo_rt (upF a s) s h1 h2) rfl ?_
            refine GO ((Rq.old Tryd.call36 (bare_ct (some 1) 1)).bt (d := true) rfl) rfl ?_
            exact ⟨rfl, rfl⟩
        · repeat (first | refine p1 ?_ | refine p2 ?_ | refine p3 ?_ | refine p4 ?_)
          refine GO (hwd s hW0) rfl ?_
          repeat (first | refine p1 ?_ | refine p2 ?_ | refine p3 ?_ | refine p4 ?_)
          refine GO (htw s hW0) rfl ?_
          refine GO ((lsame_rt (widerF (upF a s) s) (widerF (upF a s) s) (Nat.le_trans (hwl _) (by decide)) (Nat.le_trans (hwl _) (by decide))).bt (d := true) (decide_eq_true rfl)) rfl ?_
          refine GO (widerNo_rt (upF a s) s h1 h2) rfl ?_
          refine GO ((Rq.old Tryd.call36 (bare_ct (some 1) 1)).bt (d := true) rfl) rfl ?_
          exact ⟨rfl, rfl⟩
      · repeat (first | refine p1 ?_ | refine p2 ?_ | refine p3 ?_ | refine p4 ?_)
        refine GO (hwd s hW0) rfl ?_
        repeat (first | refine p1 ?_ | refine p2 ?_ | refine p3 ?_ | refine p4 ?_)
        refine GO (htw s hW0) rfl ?_
        refine GO ((lsame_rt (widerF (upF a s) s) (widerF (upF a s) s) (Nat.le_trans (hwl _) (by decide)) (Nat.le_trans (hwl _) (by decide))).bt (d := true) (decide_eq_true rfl)) rfl ?_
        refine GO (widerNo_rt (upF a s) s h1 h2) rfl ?_
        refine GO ((Rq.old Tryd.call36 (bare_ct (some 1) 1)).bt (d := true) rfl) rfl ?_
        exact ⟨rfl, rfl⟩
    · have hc : decide (((a.map sm).length : Int) > 0) = false := decide_eq_false (by omega)
      refine DRAW [] false (tk [0, 1, 2, 3, 4, 5, 6, 7, 8, 10, 11, 12, 13, 14]) (by kernel_rfl) ?_
      refine p2 ?_
      refine RSKIP 9 false [] rfl (congrArg (fun c => c == !true) hc) (by kernel_rfl) ?_
      refine RSKIP 15 true (tk [16, 17]) rfl (congrArg (fun c => c == !true) hc) (by kernel_rfl) ?_
      refine V ?_
      by_cases hk : 1 ≤ k
      · by_cases hk2 : k ≤ 1048576
        · by_cases hs2 : s ≤ 1048576
          · have hW := hW1 hk hk2 hs2
            repeat (first | refine p1 ?_ | refine p2 ?_ | refine p3 ?_ | refine p4 ?_)
            refine GO (hwd (w64 (s * k)) hW) rfl ?_
            repeat (first | refine p1 ?_ | refine p2 ?_ | refine p3 ?_ | refine p4 ?_)
            refine GO (htw (w64 (s * k)) hW) rfl ?_
            refine GO ((lsame_rt (widerF (upF a s) (w64 (s * k))) (widerF (upF a s) (w64 (s * k))) (Nat.le_trans (hwl _) (by decide)) (Nat.le_trans (hwl _) (by decide))).bt (d := true) (decide_eq_true rfl)) rfl ?_
            refine GO (widerNo_rt (upF a s) s h1 h2) rfl ?_
            refine GO ((Rq.old Tryd.call36 (bare_ct (some 1) 1)).bt (d := true) rfl) rfl ?_
            exact ⟨rfl, rfl⟩
          · repeat (first | refine p1 ?_ | refine p2 ?_ | refine p3 ?_ | refine p4 ?_)
            refine GO (hwd s hW0) rfl ?_
            repeat (first | refine p1 ?_ | refine p2 ?_ | refine p3 ?_ | refine p4 ?_)
            refine GO (htw s hW0) rfl ?_
            refine GO ((lsame_rt (widerF (upF a s) s) (widerF (upF a s) s) (Nat.le_trans (hwl _) (by decide)) (Nat.le_trans (hwl _) (by decide))).bt (d := true) (decide_eq_true rfl)) rfl ?_
            refine GO (widerNo_rt (upF a s) s h1 h2) rfl ?_
            refine GO ((Rq.old Tryd.call36 (bare_ct (some 1) 1)).bt (d := true) rfl) rfl ?_
            exact ⟨rfl, rfl⟩
        · repeat (first | refine p1 ?_ | refine p2 ?_ | refine p3 ?_ | refine p4 ?_)
          refine GO (hwd s hW0) rfl ?_
          repeat (first | refine p1 ?_ | refine p2 ?_ | refine p3 ?_ | refine p4 ?_)
          refine GO (htw s hW0) rfl ?_
          refine GO ((lsame_rt (widerF (upF a s) s) (widerF (upF a s) s) (Nat.le_trans (hwl _) (by decide)) (Nat.le_trans (hwl _) (by decide))).bt (d := true) (decide_eq_true rfl)) rfl ?_
          refine GO (widerNo_rt (upF a s) s h1 h2) rfl ?_
          refine GO ((Rq.old Tryd.call36 (bare_ct (some 1) 1)).bt (d := true) rfl) rfl ?_
          exact ⟨rfl, rfl⟩
      · repeat (first | refine p1 ?_ | refine p2 ?_ | refine p3 ?_ | refine p4 ?_)
        refine GO (hwd s hW0) rfl ?_
        repeat (first | refine p1 ?_ | refine p2 ?_ | refine p3 ?_ | refine p4 ?_)
        refine GO (htw s hW0) rfl ?_
        refine GO ((lsame_rt (widerF (upF a s) s) (widerF (upF a s) s) (Nat.le_trans (hwl _) (by decide)) (Nat.le_trans (hwl _) (by decide))).bt (d := true) (decide_eq_true rfl)) rfl ?_
        refine GO (widerNo_rt (upF a s) s h1 h2) rfl ?_
        refine GO ((Rq.old Tryd.call36 (bare_ct (some 1) 1)).bt (d := true) rfl) rfl ?_
        exact ⟨rfl, rfl⟩
  · refine GO (refUpNo_rt a s hv) rfl ?_
    refine GO (upNo_rt a s hv) rfl ?_
    refine GO ((Rq.old Tryd.call36 (bare_ct (some 1) 1)).bt (d := true) rfl) rfl ?_
    have hnn : Rt pg 37 [.v (.slice none 0 0), .v (.slice none 0 0)] (.v (.bool true)) := Rq.nl (pre := []) (suf := [.v (.slice none 0 0)]) (z := 5) (Rq.nl (pre := [.sl 5 []]) (suf := []) (z := 5) ((lsame_rt [] [] (by simp) (by simp)).bt (d := true) rfl))
    refine GO hnn rfl ?_
    repeat (first | refine p1 ?_ | refine p2 ?_ | refine p3 ?_ | refine p4 ?_)
    refine GO ((Rq.old Tryd.call36 (bare_ct (some 1) 1)).bt (d := true) rfl) rfl ?_
    refine GO hnn rfl ?_
    exact ⟨rfl, rfl⟩
end Go.Proofs.YtfagagfokmlgiaaDoor
