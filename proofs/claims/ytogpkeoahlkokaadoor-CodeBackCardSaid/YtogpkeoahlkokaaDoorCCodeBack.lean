/-
  CodeBack: the law's walk.
-/
import Derived.Test.YtogpkeoahlkokaaDoorCWrA
import Derived.Test.YtogpkeoahlkokaaDoorCLabLaws2
import Derived.Test.YtogpkeoahlkokaaDoorCSameK
import Derived.Test.YtogpkeoahlkokaaDoorCPick
import Derived.Test.YtogpkeoahlkokaaDoorSRepeat
namespace Go.Proofs.YtogpkeoahlkokaaDoor
open Go.GK Go.PL Go.RowKit
set_option maxRecDepth 100000
theorem shL_small {l : List Lb} (h : shL l = true) : l.length ≤ 20 ∧ ∀ x ∈ l, x.name.size ≤ 60 ∧ x.value.size ≤ 60 := by
  unfold shL at h
  rw [Bool.and_eq_true, decide_eq_true_iff, Bool.not_eq_true'] at h
  refine ⟨h.1, fun x hx => ?_⟩
  obtain ⟨i, hi, rfl⟩ := List.getElem_of_mem hx
  have := anyB_get h.2 i hi
  rw [show l.getD i default = l[i] by simp [hi], Bool.or_eq_false_iff, decide_eq_false_iff_not, decide_eq_false_iff_not] at this
  omega
def shS (l : List Ser) : Bool := decide (l.length ≤ 20) && !anyB l.length (fun i => match l[i]? with | some x => !shL x.labels || decide (60 < x.samples.length) | none => false)
theorem shS_small {l : List Ser} (h : shS l = true) : l.length ≤ 20 ∧ ∀ x ∈ l, shL x.labels = true ∧ x.samples.length ≤ 60 := by
  unfold shS at h
  rw [Bool.and_eq_true, decide_eq_true_iff, Bool.not_eq_true'] at h
  refine ⟨h.1, fun x hx => ?_⟩
  obtain ⟨i, hi, rfl⟩ := List.getElem_of_mem hx
  have := anyB_get h.2 i hi
  rw [List.getElem?_eq_getElem hi] at this
  simp only [Bool.or_eq_false_iff, Bool.not_eq_false', decide_eq_false_iff_not] at this
  exact ⟨this.1, by omega⟩
theorem shortS_rt (l : List Ser) : Rt pg 16 [ses l] (.b (shS l)) := by
  refine Rt.of pg_ok Tryd.func16 rfl Tryd.ntmps16 rfl Tryd.results16 Tryd.call16 fun H0 S0 w0 h0 g0 => ?_
  have hll : (l.map se).length = l.length := by simp
  unfold shS
  by_cases hl : l.length ≤ 20
  · refine p2 ?_
    refine JK.loop (α := Nat) (fun i => ⟨[(0, ses l), (3, gi i)], [], 0⟩) (fun i => i ≤ l.length ∧ ∀ j, j < i → (match l[j]? with | some x => !shL x.labels || decide (60 < x.samples.length) | none => false) = false) (fun i => l.length - i) 0 id ?_ ⟨Nat.zero_le _, fun j hj => absurd hj (by omega)⟩ ?_
    · exact ⟨⟨rfl, rfl, trivial⟩, trivial, rfl⟩
    · rintro i ⟨hi, hgood⟩
      refine V ?_
      by_cases hlt : i < l.length
      · have hg : l[i]? = some l[i] := List.getElem?_eq_getElem hlt
        have hbad : (!shL l[i].labels || decide (60 < l[i].samples.length)) = true → (decide (l.length ≤ 20) && !anyB l.length (fun i => match l[i]? with | some x => !shL x.labels || decide (60 < x.samples.length) | none => false)) = false := fun h => by rw [anyB_true hlt (by rw [hg]; exact h)]; simp
        have hnext : (!shL l[i].labels || decide (60 < l[i].samples.length)) = false → ∀ j, j < i + 1 → (match l[j]? with | some x => !shL x.labels || decide (60 < x.samples.length) | none => false) = false := fun h j hj => by
          rcases Nat.lt_succ_iff_lt_or_eq.1 hj with h1 | h1
          · exact hgood j h1
          · subst h1; rw [hg]; exact h
        refine p1 ?_ (decide_eq_true (by omega))
        refine ix (h := ?_)
        have hsm : (l[i].samples.map sm).length = l[i].samples.length := by simp
        rcases tf (shL l[i].labels) with h1 | h1
        · refine GO ((kshortL_rt l[i].labels).bt h1) rfl ?_
          repeat (first | refine p1 ?_ | refine p2 ?_ | refine p3 ?_ | refine p4 ?_)
          refine ix (h := ?_)
          by_cases h2 : 60 < l[i].samples.length
          · refine p1 ?_ (decide_eq_true (by omega))
            exact ⟨(hbad (by rw [decide_eq_true h2, Bool.or_true])).symm, rfl⟩
          · refine p2 ?_ (decide_eq_false (by omega))
            exact ⟨i + 1, id, ⟨⟨rfl, succ_gi (by omega), trivial⟩, trivial, rfl⟩, ⟨hlt, hnext (by rw [decide_eq_false h2, h1]; rfl)⟩, by show l.length - (i + 1) < l.length - i; omega⟩
        · refine GO ((kshortL_rt l[i].labels).bt h1) rfl ?_
          repeat (first | refine p1 ?_ | refine p2 ?_ | refine p3 ?_ | refine p4 ?_)
          exact ⟨(hbad (by rw [h1]; rfl)).symm, rfl⟩
      · refine p2 ?_ (decide_eq_false (by omega))
        refine V ?_
        obtain rfl : i = l.length := by omega
        exact ⟨by rw [anyB_false hgood, decide_eq_true hl]; rfl, rfl⟩
  · refine p1 ?_
    exact ⟨by rw [decide_eq_false hl]; rfl, rfl⟩
theorem sameSeriesK_rt (l : List Ser) : Rt pg 20 [ses l, ses l] (.b true) := by
  refine Rt.of pg_ok Tryd.func20 rfl Tryd.ntmps20 rfl Tryd.results20 Tryd.call20 fun H0 S0 w0 h0 g0 => ?_
  refine p2 ?_ (by simp)
  refine JK.len 0 rfl fun hlen _ => ?_
  have hlen' : l.length ≤ 9223372036854775807 := by simpa [maxLen] using hlen
  refine JK.loop (α := Nat) (fun i => ⟨[(0, ses l), (1, ses l), (5, gi i)], [], 0⟩) (fun i => i ≤ l.length) (fun i => l.length - i) 0 id ?_ (Nat.zero_le _) ?_
  · exact ⟨⟨rfl, rfl, rfl, trivial⟩, trivial, rfl⟩
  · intro i hi
    refine V ?_
    by_cases h : i < l.length
    · refine p1 ?_ (decide_eq_true (by simp only [List.length_map]; omega))
      have hc := lcompare_rt l[i].labels l[i].labels
      rw [show cmpF l[i].labels l[i].labels = 0 from (cmpF_is.eq0 _ _).2 rfl] at hc
      refine DRAW [] false (tk [0, 1, 2, 3, 4, 5, 6, 7, 8, 9]) (by kernel_rfl) ?_
      refine ix (h := ?_)
      refine ix (h := ?_)
      refine RGO 10 false (tk [11, 12, 13, 14, 15, 16, 17, 18, 19, 20, 21, 22]) hc rfl rfl (by kernel_rfl) ?_
      repeat (first | refine p1 ?_ | refine p2 ?_ | refine p3 ?_ | refine p4 ?_)
      refine ix (h := ?_)
      refine ix (h := ?_)
      refine RGO 23 true (tk [24, 25]) ((Rq.old Tryd.call38 (sameSK_ct l[i].samples l[i].samples)).bt (d := true) (decide_eq_true rfl)) rfl rfl (by kernel_rfl) ?_
      refine V ?_
      exact ⟨i + 1, id, ⟨⟨rfl, rfl, succ_gi (by omega), trivial⟩, trivial, rfl⟩, h, by show l.length - (i + 1) < l.length - i; omega⟩
    · refine p2 ?_ (decide_eq_false (by simp only [List.length_map]; omega))
      refine V ?_
      exact ⟨rfl, rfl⟩
theorem _root_.Go.GK.Hf.nl1 {f : FuncId} {n0 z : Nat} {σ : Heap} {Q : GV → Heap → Nat → Prop} (h : Hf pg f n0 [.sl z []] σ Q) : Hf pg f n0 [.v (.slice none 0 0)] σ Q :=
  ⟨h.call, fun H us w hn hg hcs hs => h.ct H us w hn hg ⟨hcs.1, fun j g hj => by
    match j with
    | 0 =>
      simp at hj
      subst hj
      have := (hcs.2 0 (.v (.slice none 0 0)) rfl).inv_v
      rw [this]
      exact .ro .slnil
    | j + 1 => simp at hj⟩ hs⟩
def s0 : ByteArray := ⟨#[0]⟩
def repF (s : ByteArray) (c : Nat) : ByteArray := ⟨(Lib.repeatL s.data.toList c).toArray⟩
theorem repeat_rt (s : ByteArray) (c : Nat) (hc : c ≤ 1000) (hs : s.size ≤ 1000) : Rt pg 30 [gs s, gi c] (gs (repF s c)) :=
  Rt.calls Tryd.call30 [.string s, .int .i64 c] _ fun w => Tryd.strings_Repeat s c w (by omega) (by have : s.size * c ≤ 1000 * 1000 := Nat.mul_le_mul hs hc; omega)
def x0 : Ser := ⟨[⟨⟨#[97]⟩, ⟨#[120]⟩⟩], [⟨1, 2⟩]⟩
theorem x0_ok : okS x0.samples = true := by
  rw [okS_iff]
  refine ⟨⟨by simp [x0], by simp [x0], by simp [x0]⟩, by simp [x0]⟩
theorem x0_right : rightF x0.labels = true := by decide +kernel
theorem x0_good : GoodS x0 := ⟨x0_right, x0_ok, fun x hx => by simp [x0] at hx; subst hx; constructor <;> decide⟩
theorem badI_good {l : List Ser} (h : ∀ x ∈ l, GoodS x) : badI l = none := badI_none fun i hi => by
  obtain ⟨h1, h2, h3⟩ := h l[i] (List.getElem_mem hi)
  unfold goodB
  rw [h1, h2]
  rfl
theorem badI_all {l : List Ser} (h : badI l = none) : ∀ x ∈ l, rightF x.labels = true ∧ okS x.samples = true := by
  unfold badI at h
  rw [List.findIdx?_eq_none_iff] at h
  intro x hx
  have := h x hx
  unfold goodB at this
  rw [Bool.not_eq_false', Bool.and_eq_true] at this
  exact ⟨this.2, this.1⟩
theorem serS_yes {l : List Ser} (hb : badI l = none) (hl : (wrS l).size ≤ 10000000) (hlab : ∀ x ∈ l, Sh x.labels) : Hf pg 19 0 [ses l] [] (fun g σ n => g = .tup [gs (wrS l), .v .nilIface] ∧ σ = [] ∧ n = 0) := by
  have h := cser_hf l hl hlab
  rw [hb] at h
  exact h
theorem serS_no {l : List Ser} {i : Nat} (hb : badI l = some i) (hl : (wrS l).size ≤ 10000000) (hlab : ∀ x ∈ l, Sh x.labels) : Hf pg 19 0 [ses l] [] (fun g σ n => g = .tup [gs ⟨#[]⟩, .ifc 74 (.p 0 0)] ∧ σ = [(0, .blk 76 [gi 1, gi i])] ∧ n = 1) := by
  have h := cser_hf l hl hlab
  rw [hb] at h
  exact h
theorem good_sh {x : Ser} (h : GoodS x) : Sh x.labels := fun y hy => by have := ((right_small h.1).2 y hy).2; omega
theorem x0_size : (wrS [x0]).size ≤ 1000000 := by
  have h1 : (wrS [x0]).size = 8 + (wrR [x0]).size := by unfold wrS; rw [ByteArray.size_append, wrN_size]
  have h2 := enc_small x0_ok
  have h3 : (wrR [x0]).size = (wrL x0.labels).size + (8 + (enc x0.samples).size) := by
    simp only [wrR, app_nil]
    unfold wr1 wrT
    simp only [ByteArray.size_append, wrN_size]
  have h4 : (wrL x0.labels).size = 26 := by kernel_rfl
  omega
theorem coded_rt : Rt pg 17 [] (.b true) := by
  refine Rt.of pg_ok Tryd.func17 rfl Tryd.ntmps17 rfl Tryd.results17 Tryd.call17 fun H0 S0 w0 h0 g0 => ?_
  have hg : ∀ x ∈ [x0], GoodS x := fun x hx => by rw [List.mem_singleton.1 hx]; exact x0_good
  refine GOH (serS_yes (l := []) rfl (by decide) (by simp)).nl1 id rfl rfl trivial rfl (id_lt rfl) ?_
  rintro _ _ _ ⟨rfl, rfl, rfl⟩
  repeat (first | refine p1 ?_ | refine p2 ?_ | refine p3 ?_ | refine p4 ?_)
  refine GOJ (repeat_rt s0 8 (by decide) (by decide)).hf id rfl rfl trivial rfl (id_lt rfl) ?_
  rintro _ _ _ ⟨rfl, rfl, rfl⟩
  refine VM 11 ?_
  refine p2 ?_ (by kernel_rfl)
  refine JK.freeze 0 rfl ?_
  refine FRZ 1 rfl ?_
  refine FRZ 2 rfl ?_
  have hb : badI [x0] = none := badI_good hg
  have hz := x0_size
  refine GOH (serS_yes hb (by omega) fun x hx => good_sh (hg x hx)) id rfl rfl trivial rfl (id_lt rfl) ?_
  rintro _ _ _ ⟨rfl, rfl, rfl⟩
  repeat (first | refine p1 ?_ | refine p2 ?_ | refine p3 ?_ | refine p4 ?_)
  have hw := wholeP_wr hg (by decide)
  refine GO (rs_yes hz hw) rfl ?_
  repeat (first | refine p1 ?_ | refine p2 ?_ | refine p3 ?_ | refine p4 ?_)
  refine GO (sameSeriesK_rt [x0]) rfl ?_
  exact ⟨rfl, rfl⟩
theorem size_short {l : List Ser} (h : shS l = true) : (wrS l).size ≤ 100000 := by
  obtain ⟨h1, h2⟩ := shS_small h
  have hP : ∀ m : List Lb, (∀ x ∈ m, x.name.size ≤ 60 ∧ x.value.size ≤ 60) → (wrP m).size ≤ 136 * m.length := by
    intro m
    induction m with
    | nil => intro _; exact Nat.le_refl _
    | cons x m ih =>
      intro hm
      have h3 := hm x (by simp)
      have h4 := ih fun y hy => hm y (by simp [hy])
      have h5 : (wrT x.name).size = 8 + x.name.size := by unfold wrT; rw [ByteArray.size_append, wrN_size]
      have h6 : (wrT x.value).size = 8 + x.value.size := by unfold wrT; rw [ByteArray.size_append, wrN_size]
      simp only [wrP, ByteArray.size_append, List.length_cons]
      omega
  have hR : ∀ m : List Ser, (∀ x ∈ m, shL x.labels = true ∧ x.samples.length ≤ 60) → (wrR m).size ≤ 4000 * m.length := by
    intro m
    induction m with
    | nil => intro _; exact Nat.le_refl _
    | cons x m ih =>
      intro hm
      obtain ⟨h3, h3'⟩ := hm x (by simp)
      have h4 := ih fun y hy => hm y (by simp [hy])
      obtain ⟨h5, h6⟩ := shL_small h3
      have h7 := hP x.labels h6
      have h8 := chunkF_len x.samples
      have h9 : (enc x.samples).size = ((chunkF x.samples).length + 7) / 8 := by
        show (pack (chunkF x.samples)).toArray.size = _
        rw [List.size_toArray, pack_len]
      have h10 : (wr1 x).size = 8 + (wrP x.labels).size + (8 + (enc x.samples).size) := by
        unfold wr1 wrL wrT
        simp only [ByteArray.size_append, wrN_size]
      simp only [wrR, ByteArray.size_append, List.length_cons]
      omega
  have h3 := hR l h2
  have h4 : (wrS l).size = 8 + (wrR l).size := by unfold wrS; rw [ByteArray.size_append, wrN_size]
  omega
theorem pk (x y : Int) (h : 0 < y) (h' : y < 1000000) : Rq pg 21 [gi x, gi y] (fun g => ∃ k : Nat, (k : Int) < y ∧ g = gi k) :=
  Rq_ct Tryd.call21 (pick_ct x y h h') fun g ⟨_, _, hg⟩ => by rw [hg]; rfl
theorem codeBack_rt (l : List Ser) (hV : ∀ x ∈ l, V64 x.samples) (s : ByteArray) (cut : Int) : Rt pg 4 [ses l, gs s, gi cut] (.b true) := by
  refine Rt.of pg_ok Tryd.func4 rfl Tryd.ntmps4 rfl Tryd.results4 Tryd.call4 fun H0 S0 w0 h0 g0 => ?_
  rcases tf (shS l) with hsh | hsh
  · refine GO ((shortS_rt l).bt hsh) rfl ?_
    repeat (first | refine p1 ?_ | refine p2 ?_ | refine p3 ?_ | refine p4 ?_)
    have hz := size_short hsh
    have hlab : ∀ x ∈ l, Sh x.labels := fun x hx y hy => by have := (shL_small ((shS_small hsh).2 x hx).1).2 y hy; omega
    have h20 := (shS_small hsh).1
    by_cases hs : s.size > 1500
    · repeat (first | refine p1 ?_ | refine p2 ?_ | refine p3 ?_ | refine p4 ?_)
      exact ⟨rfl, rfl⟩
    refine p2 ?_ (decide_eq_false (by omega))
    refine GO (coded_rt.bt rfl) rfl ?_
    repeat (first | refine p1 ?_ | refine p2 ?_ | refine p3 ?_ | refine p4 ?_)
    cases hws : wholeP s with
    | none =>
      refine GO (rs_no (by omega) hws) rfl ?_
      repeat (first | refine p1 ?_ | refine p2 ?_ | refine p3 ?_ | refine p4 ?_)
      cases hb : badI l with
      | some i =>
        refine GOH (serS_no hb (by omega) hlab) id rfl rfl trivial rfl (id_lt rfl) ?_
        rintro _ _ _ ⟨rfl, rfl, rfl⟩
        repeat (first | refine p1 ?_ | refine p2 ?_ | refine p3 ?_ | refine p4 ?_)
        exact ⟨rfl, rfl⟩
      | none =>
        have hg : ∀ x ∈ l, GoodS x := fun x hx => ⟨(badI_all hb x hx).1, (badI_all hb x hx).2, hV x hx⟩
        have hw := wholeP_wr hg (by omega)
        have hpos : 8 ≤ (wrS l).size := by unfold wrS; rw [ByteArray.size_append, wrN_size]; omega
        refine GOH (serS_yes hb (by omega) hlab) id rfl rfl trivial rfl (id_lt rfl) ?_
        rintro _ _ _ ⟨rfl, rfl, rfl⟩
        repeat (first | refine p1 ?_ | refine p2 ?_ | refine p3 ?_ | refine p4 ?_)
        refine GO (rs_yes (by omega) hw) rfl ?_
        repeat (first | refine p1 ?_ | refine p2 ?_ | refine p3 ?_ | refine p4 ?_)
        refine GO ((sameSeriesK_rt l).bt rfl) rfl ?_
        repeat (first | refine p1 ?_ | refine p2 ?_ | refine p3 ?_ | refine p4 ?_)
        refine GOQ (pk cut (wrS l).size (by omega) (by omega)) rfl ?_
        rintro _ ⟨k, hk, rfl⟩
        refine ⟨by omega, by omega, by omega, ?_⟩
        refine GO (rs_no (by rw [ByteArray.size_extract]; omega) (wholeP_cut hg (by omega) (by omega))) rfl ?_
        exact ⟨rfl, rfl⟩
    | some m =>
      obtain ⟨hsm, hgm⟩ := wholeP_inv hws
      refine GO (rs_yes (by omega) hws) rfl ?_
      repeat (first | refine p1 ?_ | refine p2 ?_ | refine p3 ?_ | refine p4 ?_)
      refine GOH (serS_yes (badI_good hgm) (by rw [← hsm]; omega) fun x hx => good_sh (hgm x hx)) id rfl rfl trivial rfl (id_lt rfl) ?_
      rintro _ _ _ ⟨rfl, rfl, rfl⟩
      repeat (first | refine p1 ?_ | refine p2 ?_ | refine p3 ?_ | refine p4 ?_)
      refine p2 ?_ (by rw [← hsm]; simp)
      cases hb : badI l with
      | some i =>
        refine GOH (serS_no hb (by omega) hlab) id rfl rfl trivial rfl (id_lt rfl) ?_
        rintro _ _ _ ⟨rfl, rfl, rfl⟩
        repeat (first | refine p1 ?_ | refine p2 ?_ | refine p3 ?_ | refine p4 ?_)
        exact ⟨rfl, rfl⟩
      | none =>
        have hg : ∀ x ∈ l, GoodS x := fun x hx => ⟨(badI_all hb x hx).1, (badI_all hb x hx).2, hV x hx⟩
        have hw := wholeP_wr hg (by omega)
        have hpos : 8 ≤ (wrS l).size := by unfold wrS; rw [ByteArray.size_append, wrN_size]; omega
        refine GOH (serS_yes hb (by omega) hlab) id rfl rfl trivial rfl (id_lt rfl) ?_
        rintro _ _ _ ⟨rfl, rfl, rfl⟩
        repeat (first | refine p1 ?_ | refine p2 ?_ | refine p3 ?_ | refine p4 ?_)
        refine GO (rs_yes (by omega) hw) rfl ?_
        repeat (first | refine p1 ?_ | refine p2 ?_ | refine p3 ?_ | refine p4 ?_)
        refine GO ((sameSeriesK_rt l).bt rfl) rfl ?_
        repeat (first | refine p1 ?_ | refine p2 ?_ | refine p3 ?_ | refine p4 ?_)
        refine GOQ (pk cut (wrS l).size (by omega) (by omega)) rfl ?_
        rintro _ ⟨k, hk, rfl⟩
        refine ⟨by omega, by omega, by omega, ?_⟩
        refine GO (rs_no (by rw [ByteArray.size_extract]; omega) (wholeP_cut hg (by omega) (by omega))) rfl ?_
        exact ⟨rfl, rfl⟩
  · refine GO ((shortS_rt l).bt hsh) rfl ?_
    repeat (first | refine p1 ?_ | refine p2 ?_ | refine p3 ?_ | refine p4 ?_)
    exact ⟨rfl, rfl⟩
end Go.Proofs.YtogpkeoahlkokaaDoor
