/-
  Contracts: BitsBack.
-/
import Derived.Test.YtakkdpfbgjccpaaDoorCBits
import Derived.Test.YtakkdpfbgjccpaaDoorPChunk
namespace Go.Proofs.YtakkdpfbgjccpaaDoor
open Go.GK Go.PL
set_option maxRecDepth 100000
abbrev ir : Int → List GV := fun x => [gi x]
def putsF (l : List Int) : List Bool := l.flatMap putF
theorem putsF_snoc (l : List Int) (i : Nat) (h : i < l.length) : putsF (l.take (i + 1)) = putsF (l.take i) ++ putF l[i] := by
  rw [List.take_succ_eq_append_getElem h]
  unfold putsF
  rw [List.flatMap_append, List.flatMap_singleton]
theorem putsF_len (l : List Int) : (putsF l).length ≤ 70 * l.length := by
  induction l with
  | nil => exact Nat.le_refl _
  | cons x l ih =>
    have := (putF_len x).2
    simp [putsF] at ih ⊢
    omega

theorem putF_0 : (putF 0).length = 1 := by decide
theorem putF_8 {x : Int} (h1 : -8 < x) (h2 : x < 8) : (putF x).length ≤ 6 := by
  have hz : zigF x < 16 := by unfold zigF; split <;> omega
  have hc : clsF (zigF x) ≤ 1 := by unfold clsF; repeat' split
                                    all_goals omega
  unfold putF
  rw [List.length_append, lowBits_len]
  generalize clsF (zigF x) = k at hc
  match k, hc with
  | 0, _ => decide
  | 1, _ => decide
theorem bitwise_ct : Ct pg 11 0 [] [] (Val fun g => g = .b true) := by
  refine Ct.bool (Ct.of_JK pg_ok Tryd.func11 rfl Tryd.ntmps11 rfl Tryd.results11 fun H0 S0 w0 h0 g0 => ?_)
  refine vc_sound pg_ok 200 _ _ ?_
  refine JK.ownNilB 0 0 5 1 rfl rfl ?_
  refine JK.call (n0 := 2) (r := rr 0 1) (put_ct [] 0 (by omega) (by omega) (by simp)) Tryd.call13 rfl rfl rfl rfl rfl ⟨rfl, rfl, trivial⟩ rfl (rr_lt rfl rfl) ?_
  rintro g σ' n' ⟨rfl, rfl, rfl⟩
  refine vc_sound pg_ok 200 _ _ ?_
  refine JK.call (n0 := 2) (r := rr 0 2) (put_ct ([] ++ putF 0) (-1) (by omega) (by omega) (by decide)) Tryd.call13 rfl rfl rfl rfl rfl ⟨rfl, rfl, trivial⟩ rfl (rr_lt rfl rfl) ?_
  rintro g σ' n' ⟨rfl, rfl, rfl⟩
  refine vc_sound pg_ok 200 _ _ ?_
  refine JK.call (n0 := 2) (r := rr 0 3) (put_ct ([] ++ putF 0 ++ putF (-1)) 9 (by omega) (by omega) (by decide)) Tryd.call13 rfl rfl rfl rfl rfl ⟨rfl, rfl, trivial⟩ rfl (rr_lt rfl rfl) ?_
  rintro g σ' n' ⟨rfl, rfl, rfl⟩
  refine vc_sound pg_ok 200 _ _ ?_
  refine JK.call (n0 := 2) (r := rr 0 4) (wlen_ct ([] ++ putF 0 ++ putF (-1) ++ putF 9)) Tryd.call12 rfl rfl rfl rfl rfl ⟨rfl, rfl, trivial⟩ rfl (rr_lt rfl rfl) ?_
  rintro g σ' n' ⟨rfl, rfl, rfl⟩
  refine vc_sound pg_ok 200 _ _ ?_
  refine pos (by decide) ?_
  refine JK.call (n0 := 2) (r := rr 0 4) (wbytes_ct ([] ++ putF 0 ++ putF (-1) ++ putF 9)) Tryd.call17 rfl rfl rfl rfl rfl ⟨rfl, rfl, trivial⟩ rfl (rr_lt rfl rfl) ?_
  rintro g σ' n' ⟨rfl, rfl, rfl⟩
  refine vc_sound pg_ok 200 _ _ ?_
  refine .inr (congrArg GV.b ?_)
  decide
theorem bitsBack_ct (l : List Int) (hl : ∀ x ∈ l, In64 x) : Ct pg 3 0 [.sl 1 (l.map ir)] [] (Val fun g => g = .b true) := by
  refine Ct.bool (Ct.of_JK pg_ok Tryd.func3 rfl Tryd.ntmps3 rfl Tryd.results3 fun H0 S0 w0 h0 g0 => ?_)
  refine vc_sound pg_ok 200 _ _ ?_
  refine ⟨fun _ => .inl rfl, fun h60 => ?_⟩
  simp only [List.length_map, decide_eq_false_iff_not] at h60
  refine JK.call (n0 := 0) (r := id) bitwise_ct Tryd.call11 rfl rfl rfl rfl rfl trivial rfl (by simp) ?_
  rintro g σ' n' ⟨rfl, rfl, rfl⟩
  refine vc_sound pg_ok 200 _ _ ?_
  refine neg rfl ?_
  refine JK.ownNilB 0 0 5 1 rfl rfl ?_
  refine JK.loopE (α := Nat) (β := Unit) (fun i => ⟨[(0, .sl 1 (l.map ir)), (3, .p 0 0), (4, gi i)], wHeap 0 1 (putsF (l.take i)), 2⟩) (fun i => i ≤ l.length) (fun i => l.length - i) (fun _ => ⟨[(0, .sl 1 (l.map ir)), (3, .p 0 0)], wHeap 0 1 (putsF l), 2⟩) (fun _ => True) 0 id ?_ (Nat.zero_le _) ?_ ?_
  · exact ⟨⟨rfl, rfl, rfl, trivial⟩, ⟨rfl, (by rw [List.take_zero]; rfl), trivial⟩, rfl⟩
  · intro i hi
    have hpl := putsF_len (l.take i)
    rw [List.length_take] at hpl
    refine vc_sound pg_ok 200 _ _ ?_
    by_cases hlt : i < l.length
    · refine pos (by simp <;> omega) ?_
      have hx := hl _ (List.getElem_mem hlt)
      have hpb := putF_len l[i]
      refine JK.call (n0 := 2) (r := rr 0 1) (wlen_ct (putsF (l.take i))) Tryd.call12 rfl rfl rfl rfl rfl ⟨rfl, rfl, trivial⟩ rfl (rr_lt rfl rfl) ?_
      rintro g σ' n' ⟨rfl, rfl, rfl⟩
      refine vc_sound pg_ok 200 _ _ ?_
      refine idx i rfl hlt ?_
      refine JK.call (n0 := 2) (r := rr 0 1) (put_ct (putsF (l.take i)) l[i] hx.1 hx.2 (by omega)) Tryd.call13 rfl rfl rfl rfl rfl ⟨rfl, rfl, trivial⟩ rfl (rr_lt rfl rfl) ?_
      rintro g σ' n' ⟨rfl, rfl, rfl⟩
      refine vc_sound pg_ok 200 _ _ ?_
      refine JK.call (n0 := 2) (r := rr 0 2) (wlen_ct (putsF (l.take i) ++ putF l[i])) Tryd.call12 rfl rfl rfl rfl rfl ⟨rfl, rfl, trivial⟩ rfl (rr_lt rfl rfl) ?_
      rintro g σ' n' ⟨rfl, rfl, rfl⟩
      have em : IntKind.i64.wrap (((putsF (l.take i) ++ putF l[i]).length : Int) - ((putsF (l.take i)).length : Int)) = ((putF l[i]).length : Int) := by
        rw [List.length_append, wrap_id (by omega) (by omega)]; omega
      refine vc_sound pg_ok 200 _ _ ?_
      have hm0 : l[i] = 0 → (putF l[i]).length = 1 := fun h => by rw [h]; exact putF_0
      have hm8 : -8 < l[i] → l[i] < 8 → (putF l[i]).length ≤ 6 := putF_8
      generalize hm : (putF l[i]).length = m at em hpb hm0 hm8
      have fin : ∀ v : Int, v = l[i] → (v != l[i]) = false := fun v h => by rw [h]; simp
      by_cases h0 : l[i] = 0 <;> by_cases h1 : -8 < l[i] <;> by_cases h2 : l[i] < 8
      all_goals first | (exfalso; omega) | skip
      all_goals
        (repeat (first
          | refine neg' (by rw [em]; first | exact decide_eq_false (by omega) | (simp; omega)) ?_
          | refine neg' (by simp; omega) ?_
          | refine idx i rfl hlt ?_
          | refine pos (by simp; omega) ?_
          | refine neg (by rw [em]; simp; omega) ?_
          | refine neg (by simp; omega) ?_))
      all_goals
        refine JK.draw [] pg_ok ?_
        refine RA.run (e := false) pg_ok (by kernel_rfl) (fun _ _ h => h) (tk [0, 1, 2, 3, 6, 7, 8, 9]) (by kernel_rfl) ?_
        refine idx i rfl hlt ?_
        refine idx i rfl hlt ?_
        refine RA.call (n0 := 0) (r := id) 4 (zig_ct l[i] hx.1 hx.2) Tryd.call15 rfl (by kernel_rfl) rfl rfl rfl rfl rfl trivial rfl (by simp) ?_
        rintro g σ' n' ⟨rfl, rfl, rfl⟩
        refine RA.call (n0 := 0) (r := id) 5 (zag_ct (zigF l[i]) (zig_lt hx.1 hx.2)) Tryd.call14 rfl (by kernel_rfl) rfl rfl rfl rfl rfl trivial rfl (by simp) ?_
        rintro g σ' n' ⟨rfl, rfl, rfl⟩
        refine RA.run (e := true) pg_ok (by kernel_rfl) (fun _ _ h => h) (tk [10]) (by kernel_rfl) ?_
        refine vc_sound pg_ok 200 _ _ ?_
        refine neg (fin _ (zag_zig _)) ?_
        refine ⟨i + 1, r1 1 2, ⟨⟨rfl, rfl, succ_gi (by omega), trivial⟩, ⟨?_, ?_, trivial⟩, rfl⟩, by omega, by show l.length - (i + 1) < l.length - i; omega⟩
        · rw [putsF_snoc l i hlt]; rfl
        · rw [putsF_snoc l i hlt]; rfl
    · have e : i = l.length := by omega
      subst e
      refine neg (by simp) ?_
      refine ⟨(), id, ⟨⟨rfl, rfl, trivial⟩, ⟨?_, ?_, trivial⟩, rfl⟩, trivial⟩
      · rw [List.take_length]; rfl
      · rw [List.take_length]; rfl
  · intro _ _
    have hpl := putsF_len l
    refine vc_sound pg_ok 200 _ _ ?_
    refine JK.call (n0 := 2) (r := rr 0 1) (wbytes_ct (putsF l)) Tryd.call17 rfl rfl rfl rfl rfl ⟨rfl, rfl, trivial⟩ rfl (rr_lt rfl rfl) ?_
    rintro g σ' n' ⟨rfl, rfl, rfl⟩
    have hsb := sb_pack (putsF l)
    have hss := size_pack (putsF l)
    generalize (⟨(pack (putsF l)).toArray⟩ : ByteArray) = s at hsb hss
    refine vc_sound pg_ok 200 _ _ ?_
    refine JK.call (n0 := 0) (r := id) (from_ct s) Tryd.call16 rfl rfl rfl rfl rfl trivial rfl (by simp) ?_
    rintro g σ' n' ⟨rfl, rfl, rfl⟩
    refine vc_sound pg_ok 200 _ _ ?_
    have hdr : ∀ i, i ≤ l.length → (sb s).drop (putsF (l.take i)).length = putsF (l.drop i) ++ List.replicate (8 * s.size - (putsF l).length) false := fun i hi => by
      have e : putsF l = putsF (l.take i) ++ putsF (l.drop i) := by unfold putsF; rw [← List.flatMap_append, List.take_append_drop]
      rw [hsb, ← hss, e, List.append_assoc, List.drop_left]
    have hpi : ∀ i, i ≤ l.length → (putsF (l.take i)).length ≤ 8 * s.size := fun i hi => by
      have e : putsF l = putsF (l.take i) ++ putsF (l.drop i) := by unfold putsF; rw [← List.flatMap_append, List.take_append_drop]
      have := congrArg List.length e
      rw [List.length_append] at this
      omega
    refine JK.loopE (α := Nat) (β := Unit) (fun i => ⟨[(0, .sl 1 (l.map ir)), (6, .p 0 0), (7, gi i)], rHeap 0 s (putsF (l.take i)).length, 1⟩) (fun i => i ≤ l.length) (fun i => l.length - i) (fun _ => ⟨[(0, .sl 1 (l.map ir)), (6, .p 0 0)], rHeap 0 s (putsF l).length, 1⟩) (fun _ => True) 0 (fun _ => 2) ?_ (Nat.zero_le _) ?_ ?_
    · exact ⟨⟨rfl, rfl, rfl, trivial⟩, ⟨rfl, trivial⟩, rfl⟩
    · intro i hi
      refine vc_sound pg_ok 200 _ _ ?_
      by_cases hlt : i < l.length
      · refine pos (by simp <;> omega) ?_
        have hx := hl _ (List.getElem_mem hlt)
        have hpi1 := hpi (i + 1) (by omega)
        refine JK.call (n0 := 1) (r := id) (get_ct s (putsF (l.take i)).length (by omega) (hpi i hi)) Tryd.call18 rfl rfl rfl rfl rfl ⟨rfl, trivial⟩ rfl (fun i h => h) ?_
        rintro g σ' n' ⟨rfl, p, hp1, hp2, rfl, hor⟩
        have hg : getF ((sb s).drop (putsF (l.take i)).length) = some (l[i], (sb s).drop (putsF (l.take (i + 1))).length) := by
          rw [hdr i hi, hdr (i + 1) (by omega), List.drop_eq_getElem_cons hlt]
          have : putsF (l[i] :: l.drop (i + 1)) = putF l[i] ++ putsF (l.drop (i + 1)) := by unfold putsF; rw [List.flatMap_cons]
          rw [this, List.append_assoc]
          exact get_put _ hx.1 hx.2 _
        rcases hor with ⟨v, hv, rfl⟩ | ⟨hv, _⟩
        · rw [hg] at hv
          simp only [Option.some.injEq, Prod.mk.injEq] at hv
          obtain ⟨rfl, hd⟩ := hv
          have hpe : p = (putsF (l.take (i + 1))).length := by
            have := congrArg List.length hd
            simp only [List.length_drop, sb_len] at this
            omega
          subst hpe
          refine vc_sound pg_ok 200 _ _ ?_
          refine neg' rfl ?_
          refine idx i rfl hlt ?_
          refine neg (by simp) ?_
          exact ⟨i + 1, id, ⟨⟨rfl, rfl, succ_gi (by omega), trivial⟩, ⟨rfl, trivial⟩, rfl⟩, by omega, by show l.length - (i + 1) < l.length - i; omega⟩
        · rw [hg] at hv; cases hv
      · have e : i = l.length := by omega
        subst e
        refine neg (by simp) ?_
        refine ⟨(), id, ⟨⟨rfl, rfl, trivial⟩, ⟨?_, trivial⟩, rfl⟩, trivial⟩
        rw [List.take_length]; rfl
    · intro _ _
      have hpl8 : (putsF l).length ≤ 8 * s.size := by omega
      refine vc_sound pg_ok 200 _ _ ?_
      refine JK.call (n0 := 1) (r := id) (left_ct s (putsF l).length (by omega) hpl8) Tryd.call19 rfl rfl rfl rfl rfl ⟨rfl, trivial⟩ rfl (fun i h => h) ?_
      rintro g σ' n' ⟨rfl, rfl, rfl⟩
      refine vc_sound pg_ok 200 _ _ ?_
      refine JK.call (n0 := 1) (r := id) (rbits_ct s (putsF l).length (8 * s.size - (putsF l).length) (by omega) (by omega) (by omega)) Tryd.call20 rfl rfl rfl rfl rfl ⟨rfl, trivial⟩ rfl (fun i h => h) ?_
      rintro g σ' n' ⟨rfl, rfl, rfl⟩
      have hd := hdr l.length (Nat.le_refl _)
      rw [List.take_length, List.drop_length] at hd
      have hz : valB (((sb s).drop (putsF l).length).take (8 * s.size - (putsF l).length)) = 0 := by
        rw [hd, show putsF [] = [] from rfl, List.nil_append, List.take_of_length_le (by simp), valB_zero]
      refine vc_sound pg_ok 200 _ _ ?_
      refine pos (by simp <;> omega) ?_
      refine pos rfl ?_
      refine .inr (congrArg GV.b ?_)
      rw [hz]
      rfl
end Go.Proofs.YtakkdpfbgjccpaaDoor
