/-
  Contracts: questions: how they are printed: all of a question.
-/
import Derived.Test.YtihakhdinkkdmaaGreatDoorK13
namespace Go.Proofs.YtihakhdinkkdmaaGreatDoor
open Go.GK Go.RowKit Go.PL
set_option maxRecDepth 100000
set_option linter.unusedSimpArgs false
def AtOk (q : Qn) : Prop := ∀ least : Nat, least ≤ 2 → (bytesL (atX q least)).length ≤ 1000000 → Rt pg 26 [qG q, gi least] (gs (bS (bytesL (atX q least))))
theorem at_num (n : Int) (h0 : 0 ≤ n) (h1 : n < 1000000000000000000) : AtOk (.mk 1 n [] 0 [] .nil .nil) := by
  intro least hle hb
  rw [atX_num n least hle, bytes_dL]
  refine Rt.of pg_ok Tryz.func26 rfl Tryz.ntmps26 rfl Tryz.results26 Tryz.call26 fun H0 S0 w0 h0 g0 => ?_
  refine p2 ?_ rfl
  refine GO (level_rt 1) rfl ?_
  refine p1 ?_ rfl
  refine GO (fmt_rt n (by omega) (by omega)) rfl ?_
  refine p2 ?_ (decide_eq_false (by show ¬ (((lvl 1 : Nat) : Int) < least); have : lvl 1 = 2 := rfl; omega))
  exact ⟨rfl, rfl⟩
theorem at_pick (m : List Mt) (hm : MsOk m) : AtOk (.mk 2 0 m 300 [] .nil .nil) := by
  intro least hle hb
  rw [atX_pick m least hle]
  refine Rt.of pg_ok Tryz.func26 rfl Tryz.ntmps26 rfl Tryz.results26 Tryz.call26 fun H0 S0 w0 h0 g0 => ?_
  refine p2 ?_ rfl
  refine GO (level_rt 2) rfl ?_
  refine p2 ?_ rfl
  refine p1 ?_ rfl
  refine GO (matchersT_rt m hm) rfl ?_
  refine p2 ?_ (decide_eq_false (by show ¬ (((lvl 2 : Nat) : Int) < least); have : lvl 2 = 2 := rfl; omega))
  exact ⟨rfl, rfl⟩
theorem overs_at {k : Nat} (hk : k < 5) {x : Int} (hx : x = k) : (List.drop (x.toNat * 1) [gs (bS [99, 111, 117, 110, 116]), gs (bS [115, 117, 109]), gs (bS [109, 105, 110]), gs (bS [109, 97, 120]), gs (bS [100, 101, 108, 116, 97])])[0]? = some (gs (oversL.getD k ⟨#[]⟩)) := by
  subst hx
  match k, hk with
  | 0, _ => rfl
  | 1, _ => rfl
  | 2, _ => rfl
  | 3, _ => rfl
  | 4, _ => rfl
theorem alls_at {k : Nat} (hk : k < 4) {x : Int} (hx : x = k) : (List.drop (x.toNat * 1) [gs (bS [116, 111, 116, 97, 108]), gs (bS [108, 101, 97, 115, 116]), gs (bS [109, 111, 115, 116]), gs (bS [109, 97, 110, 121])])[0]? = some (gs (allsL.getD k ⟨#[]⟩)) := by
  subst hx
  match k, hk with
  | 0, _ => rfl
  | 1, _ => rfl
  | 2, _ => rfl
  | 3, _ => rfl
theorem at_over (k : Nat) (hk : k < 5) (m : List Mt) (hm : MsOk m) (sp : Int) (h1 : 1 ≤ sp) (h2 : sp ≤ 1099511627776) : AtOk (.mk (3 + k) 0 m sp [] .nil .nil) := by
  intro least hle hb
  have hl : lvl (3 + k) = 2 := by rw [lvl, if_neg (by omega), if_neg (by omega)]
  rw [atX_over k hk m sp least hle, bytes_over] at hb ⊢
  refine Rt.of pg_ok Tryz.func26 rfl Tryz.ntmps26 rfl Tryz.results26 Tryz.call26 fun H0 S0 w0 h0 g0 => ?_
  refine p2 ?_ rfl
  refine GO (level_rt (3 + k)) rfl ?_
  refine p2 ?_ (by simp; omega)
  refine p2 ?_ (by simp; omega)
  refine p1 ?_ (decide_eq_true (by omega))
  refine p1 ?_ (decide_eq_true (by omega))
  have hw : IntKind.i64.wrap (3 + (k : Int) - 3) = k := by rw [wrap_id (by omega) (by omega)]; omega
  have hov : (oversL.getD k ⟨#[]⟩).size ≤ 5 := by
    have ho : ∀ k : Fin 5, (oversL.getD k.val ⟨#[]⟩).size ≤ 5 := by decide
    exact ho ⟨k, hk⟩
  have hms := ms_short hm
  have hsp : (Lib.itoa sp).length ≤ 13 := itoa_len (by omega) (by decide) (by simp; omega)
  refine DRAW [] false (tk [0, 1, 2, 3, 4, 5, 6, 7, 8, 9, 10, 11, 15, 16, 17, 18]) (by kernel_rfl) ?_
  refine ⟨by rw [hw]; omega, by rw [hw]; omega, ?_⟩
  refine ons_mk (overs_at hk hw) ?_
  refine ⟨by simp only [sz1]; omega, ?_⟩
  refine RGO 12 false (tk [13, 14]) (matchersT_rt m hm) rfl rfl (by kernel_rfl) ?_
  refine ⟨by simp only [app_size, sz1, printM, bS_size]; omega, ?_⟩
  refine ⟨by simp only [app_size, sz1, printM, bS_size]; omega, ?_⟩
  refine RGO 19 true (tk [20, 21, 22]) (fmt_rt sp (by omega) (by omega)) rfl rfl (by kernel_rfl) ?_
  refine ⟨by simp only [app_size, sz1, printM, bS_size]; omega, ?_⟩
  refine ⟨by simp only [app_size, sz1, printM, bS_size, show ByteArray.size ⟨#[93, 41]⟩ = 2 from rfl]; omega, ?_⟩
  refine V ?_
  refine p2 ?_ (decide_eq_false (by rw [hl]; omega))
  refine ⟨?_, rfl⟩
  show gs _ = gs _
  rw [bS_append, bS_append, bS_append, bS_append, bS_append, bS_bL]
  rfl
theorem wf_mk {q : Qn} (h : Wf q) : ∃ c n m s b l r, q = .mk c n m s b l r := by
  cases q with
  | nil => cases h
  | mk c n m s b l r => exact ⟨c, n, m, s, b, l, r, rfl⟩
theorem at_neg (q : Qn) (hq : Wf q) (ih : AtOk q) : AtOk (.mk 12 0 [] 0 [] q .nil) := by
  intro least hle hb
  rw [atX_neg q least hle, bytes_neg] at hb ⊢
  rw [List.length_append] at hb
  have hi := ih 2 (by decide) (by omega)
  clear ih
  obtain ⟨c, n, m, s, b, l, r, rfl⟩ := wf_mk hq
  refine Rt.of pg_ok Tryz.func26 rfl Tryz.ntmps26 rfl Tryz.results26 Tryz.call26 fun H0 S0 w0 h0 g0 => ?_
  refine p2 ?_ rfl
  refine GO (level_rt 12) rfl ?_
  refine p2 ?_ rfl
  refine p2 ?_ rfl
  refine p1 ?_ rfl
  refine p2 ?_ rfl
  refine p1 ?_ rfl
  refine p2 ?_ rfl
  refine p1 ?_ rfl
  refine GO hi rfl ?_
  refine ⟨by rw [sz1, bS_size]; omega, ?_⟩
  refine p2 ?_ (decide_eq_false (by show ¬ (((lvl 12 : Nat) : Int) < least); have : lvl 12 = 2 := rfl; omega))
  refine ⟨?_, rfl⟩
  show gs _ = gs _
  rw [bS_append]
  rfl
theorem join_by (b : List ByteArray) : Lib.join (b.map (·.data.toList)) [44, 32] = ([44, 32] : List UInt8).intercalate (b.map bL) := rfl
theorem at_all (k : Nat) (hk : k < 4) (b : List ByteArray) (hl8 : b.length ≤ 8) (q : Qn) (hq : Wf q) (ih : AtOk q) : AtOk (.mk (8 + k) 0 [] 0 b q .nil) := by
  intro least hle hb
  have hl : lvl (8 + k) = 2 := by rw [lvl, if_neg (by omega), if_neg (by omega)]
  have hw : IntKind.i64.wrap (8 + (k : Int) - 8) = k := by rw [wrap_id (by omega) (by omega)]; omega
  have hov : (allsL.getD k ⟨#[]⟩).size ≤ 5 := by
    have ho : ∀ k : Fin 4, (allsL.getD k.val ⟨#[]⟩).size ≤ 5 := by decide
    exact ho ⟨k, hk⟩
  rw [atX_all k hk b q least hle] at hb ⊢
  have hqb : (bytesL (atX q 0)).length ≤ 1000000 := by
    rw [bytesL_cons, bytesL_append, bytes_par] at hb
    simp only [List.length_append] at hb
    omega
  have hi := ih 0 (by decide) hqb
  clear ih
  obtain ⟨c, n, m, s, bb, l, r, rfl⟩ := wf_mk hq
  refine Rt.of pg_ok Tryz.func26 rfl Tryz.ntmps26 rfl Tryz.results26 Tryz.call26 fun H0 S0 w0 h0 g0 => ?_
  refine p2 ?_ rfl
  refine GO (level_rt (8 + k)) rfl ?_
  refine p2 ?_ (by simp; omega)
  refine p2 ?_ (by simp; omega)
  refine p1 ?_ (decide_eq_true (by omega))
  refine p2 ?_ (decide_eq_false (by omega))
  refine p1 ?_ (decide_eq_true (by omega))
  refine p1 ?_ (decide_eq_true (by omega))
  refine DRAW [] false (tk [0, 1, 2, 3, 4, 5, 6, 7, 8, 9, 10, 11]) (by kernel_rfl) ?_
  refine ⟨by rw [hw]; omega, by rw [hw]; omega, ?_⟩
  refine ons_mk (alls_at hk hw) ?_
  refine ⟨by simp only [sz1]; omega, ?_⟩
  refine RGO 12 true (tk [13, 14, 15]) hi rfl rfl (by kernel_rfl) ?_
  refine ⟨by simp only [app_size, sz1, bS_size]; omega, ?_⟩
  refine ⟨by simp only [app_size, sz1, bS_size]; omega, ?_⟩
  refine V ?_
  cases b with
  | nil =>
    refine p2 ?_ rfl
    refine p2 ?_ (decide_eq_false (by rw [hl]; omega))
    refine ⟨?_, rfl⟩
    show gs _ = gs _
    rw [show bysX [] = [] from rfl, bytes_all, bS_append, bS_append, bS_append, bS_bL]
    rfl
  | cons s0 b =>
    rw [bytes_allby] at hb ⊢
    refine p1 ?_ (by simp)
    simp only [List.length_append, List.length_cons, List.length_nil] at hb hl8
    refine GO (join_rt (s0 :: b) ⟨#[44, 32]⟩ (by rw [show (ByteArray.mk #[44, 32]).data.toList = [44, 32] from rfl, join_by]; omega) (by simp; omega)) rfl ?_
    rw [show (ByteArray.mk #[44, 32]).data.toList = [44, 32] from rfl, join_by]
    have s5 : ByteArray.size ⟨#[32, 98, 121, 32, 40]⟩ = 5 := rfl
    refine ⟨by rw [bs_size, s5]; omega, ?_⟩
    refine ⟨by rw [app_size, bs_size, s5, sz1]; omega, ?_⟩
    refine ⟨by simp only [app_size, bs_size, s5, sz1, bS_size]; omega, ?_⟩
    refine p2 ?_ (decide_eq_false (by rw [hl]; omega))
    refine ⟨?_, rfl⟩
    show gs _ = gs _
    rw [bS_append, bS_append, bS_append, bS_append, bS_append, bS_append, bS_bL]
    rfl
theorem at_13 (l r : Qn) (hl : Wf l) (hr : Wf r) (ih1 : AtOk l) (ih2 : AtOk r) : AtOk (.mk 13 0 [] 0 [] l r) := by
  intro least hle hb
  have hx : atX (.mk 13 0 [] 0 [] l r) least = ifP (decide (0 < least)) (atX l 0 ++ binX 13 :: atX r 1) := atX_add 0 (by decide) l r least
  rw [hx] at hb ⊢
  have hb2 : (bytesL (atX l 0 ++ binX 13 :: atX r 1)).length ≤ 1000000 := by
    refine Nat.le_trans ?_ hb
    unfold ifP
    split
    · rw [bytes_par]; simp only [List.length_append]; omega
    · exact Nat.le_refl _
  rw [bytes_bin] at hb2
  have hsy : (symX 13).length = 1 := rfl
  simp only [List.length_append, hsy, List.length_cons, List.length_nil] at hb2
  have h1 := ih1 0 (by decide) (by omega)
  have h2 := ih2 1 (by decide) (by omega)
  clear ih1 ih2
  generalize hA : bS (bytesL (atX l 0)) = A at h1
  generalize hB : bS (bytesL (atX r 1)) = B at h2
  obtain ⟨c1, n1, m1, s1, b1, l1, r1, rfl⟩ := wf_mk hl
  obtain ⟨c2, n2, m2, s2, b2, l2, r2, rfl⟩ := wf_mk hr
  refine Rt.of pg_ok Tryz.func26 rfl Tryz.ntmps26 rfl Tryz.results26 Tryz.call26 fun H0 S0 w0 h0 g0 => ?_
  refine p2 ?_ rfl
  refine GO (level_rt 13) rfl ?_
  refine p2 ?_ rfl
  refine p2 ?_ rfl
  refine p1 ?_ rfl
  refine p2 ?_ rfl
  refine p1 ?_ rfl
  refine p2 ?_ rfl
  refine p2 ?_ rfl
  refine p1 ?_ rfl
  refine VM 2 ?_
  have hs1 : (bS (symX 13)).size = 1 := rfl
  have hA' : A.size = (bytesL (atX (.mk c1 n1 m1 s1 b1 l1 r1) 0)).length := by rw [← hA, bS_size]
  have hB' : B.size = (bytesL (atX (.mk c2 n2 m2 s2 b2 l2 r2) 1)).length := by rw [← hB, bS_size]
  have hfin : A ++ ⟨#[32]⟩ ++ bS (symX 13) ++ ⟨#[32]⟩ ++ B = bS (bytesL (atX (.mk c1 n1 m1 s1 b1 l1 r1) 0 ++ binX 13 :: atX (.mk c2 n2 m2 s2 b2 l2 r2) 1)) := by
    rw [bytes_bin, bS_append, bS_append, bS_append, bS_append, hA, hB]
    rfl
  refine JK.drawJ [] ⟨[(1, gi least), (5, gs (A ++ ⟨#[32]⟩ ++ bS (symX 13) ++ ⟨#[32]⟩ ++ B)), (6, gi ((0 : Nat) : Int))], [], 0⟩ pg_ok ?_ (fun hk => ?_)
  · rw [hfin]
    refine V ?_
    by_cases hlt : 0 < least
    · refine p1 ?_ (decide_eq_true (by omega))
      refine ⟨by rw [← hfin]; simp only [app_size, sz1]; omega, ?_⟩
      refine ⟨by rw [← hfin]; simp only [app_size, sz1]; omega, ?_⟩
      refine ⟨?_, rfl⟩
      show gs _ = gs _
      rw [decide_eq_true hlt]
      show _ = gs (bS (bytesL (parX _)))
      rw [bytes_par, bS_append, bS_append]
      rfl
    · refine p2 ?_ (decide_eq_false (by omega))
      refine ⟨?_, rfl⟩
      show gs _ = gs _
      rw [decide_eq_false hlt]
      rfl
  · refine RA.run (cx := ⟨pg, _, _, _, _, _, _, _⟩) pg_ok (by kernel_rfl) (by intro _ _ h; exact h) (tk [0, 1, 2, 3, 4, 8, 9, 10, 11, 12, 17, 18, 19, 20, 21, 22]) (e := false) (by kernel_rfl) ?_
    refine RA.both 5 7 (eqB_eq (by kernel_rfl)) (Stp.rt 5 h1 rfl rfl rfl ?_) (Stp.mem 7 pg_ok rfl rfl rfl ?_)
    · refine RA.run (cx := ⟨pg, _, _, _, _, _, _, _⟩) pg_ok (by kernel_rfl) (by intro _ _ h; exact h) (tk [6]) (e := false) (by kernel_rfl) ?_
      refine ⟨by simp only [app_size, sz1, hs1]; omega, ?_⟩
      refine RA.both 7 23 (eqB_eq (by kernel_rfl)) (Stp.mem 7 pg_ok rfl rfl rfl ?_) (Stp.rt 23 h2 rfl rfl rfl ?_)
      · refine RA.both 13 23 (eqB_eq (by kernel_rfl)) (Stp.read 13 pg_ok rfl rfl ?_) (Stp.rt 23 h2 rfl rfl rfl ?_)
        · refine ⟨by decide, by decide, ?_⟩
          refine RA.both 14 23 (eqB_eq (by kernel_rfl)) (Stp.read 14 pg_ok rfl rfl ?_) (Stp.rt 23 h2 rfl rfl rfl ?_)
          · refine ⟨[gs (bS (symX 13))], rfl, ?_⟩
            refine RA.run (cx := ⟨pg, _, _, _, _, _, _, _⟩) pg_ok (by kernel_rfl) (by intro _ _ h; exact h) (tk [15, 16]) (e := false) (by kernel_rfl) ?_
            refine ⟨by simp only [app_size, sz1, hs1]; omega, ?_⟩
            refine ⟨by simp only [app_size, sz1, hs1]; omega, ?_⟩
            refine RGO 23 false (tk [24, 25]) h2 rfl rfl (by kernel_rfl) ?_
            refine ⟨by simp only [app_size, sz1, hs1]; omega, ?_⟩
            exact RA.endJ id (by kernel_rfl) hk ⟨⟨rfl, rfl, rfl, trivial⟩, trivial, rfl⟩
          · refine RA.run (cx := ⟨pg, _, _, _, _, _, _, _⟩) pg_ok (by kernel_rfl) (by intro _ _ h; exact h) (al [14] ++ tk [15, 16, 24, 25]) (e := false) (by kernel_rfl) ?_
            refine ⟨[gs (bS (symX 13))], rfl, ?_⟩
            refine ⟨by simp only [app_size, sz1, hs1]; omega, ?_⟩
            refine ⟨by simp only [app_size, sz1, hs1]; omega, ?_⟩
            refine ⟨by simp only [app_size, sz1, hs1]; omega, ?_⟩
            exact RA.endJ id (by kernel_rfl) hk ⟨⟨rfl, rfl, rfl, trivial⟩, trivial, rfl⟩
        · refine RA.run (cx := ⟨pg, _, _, _, _, _, _, _⟩) pg_ok (by kernel_rfl) (by intro _ _ h; exact h) (al [13, 14] ++ tk [15, 16, 24, 25]) (e := false) (by kernel_rfl) ?_
          refine ⟨by decide, by decide, ?_⟩
          refine ⟨[gs (bS (symX 13))], rfl, ?_⟩
          refine ⟨by simp only [app_size, sz1, hs1]; omega, ?_⟩
          refine ⟨by simp only [app_size, sz1, hs1]; omega, ?_⟩
          refine ⟨by simp only [app_size, sz1, hs1]; omega, ?_⟩
          exact RA.endJ id (by kernel_rfl) hk ⟨⟨rfl, rfl, rfl, trivial⟩, trivial, rfl⟩
      · refine RA.run (cx := ⟨pg, _, _, _, _, _, _, _⟩) pg_ok (by kernel_rfl) (by intro _ _ h; exact h) (al [7, 13, 14] ++ tk [15, 16, 24, 25]) (e := false) (by kernel_rfl) ?_
        refine ⟨by decide, by decide, ?_⟩
        refine ⟨[gs (bS (symX 13))], rfl, ?_⟩
        refine ⟨by simp only [app_size, sz1, hs1]; omega, ?_⟩
        refine ⟨by simp only [app_size, sz1, hs1]; omega, ?_⟩
        refine ⟨by simp only [app_size, sz1, hs1]; omega, ?_⟩
        exact RA.endJ id (by kernel_rfl) hk ⟨⟨rfl, rfl, rfl, trivial⟩, trivial, rfl⟩
    · refine RA.both 5 13 (eqB_eq (by kernel_rfl)) (Stp.rt 5 h1 rfl rfl rfl ?_) (Stp.read 13 pg_ok rfl rfl ?_)
      · refine RA.run (cx := ⟨pg, _, _, _, _, _, _, _⟩) pg_ok (by kernel_rfl) (by intro _ _ h; exact h) (tk [6]) (e := false) (by kernel_rfl) ?_
        refine ⟨by simp only [app_size, sz1, hs1]; omega, ?_⟩
        refine RA.both 13 23 (eqB_eq (by kernel_rfl)) (Stp.read 13 pg_ok rfl rfl ?_) (Stp.rt 23 h2 rfl rfl rfl ?_)
        · refine ⟨by decide, by decide, ?_⟩
          refine RA.both 14 23 (eqB_eq (by kernel_rfl)) (Stp.read 14 pg_ok rfl rfl ?_) (Stp.rt 23 h2 rfl rfl rfl ?_)
          · refine ⟨[gs (bS (symX 13))], rfl, ?_⟩
            refine RA.run (cx := ⟨pg, _, _, _, _, _, _, _⟩) pg_ok (by kernel_rfl) (by intro _ _ h; exact h) (tk [15, 16]) (e := false) (by kernel_rfl) ?_
            refine ⟨by simp only [app_size, sz1, hs1]; omega, ?_⟩
            refine ⟨by simp only [app_size, sz1, hs1]; omega, ?_⟩
            refine RGO 23 false (tk [24, 25]) h2 rfl rfl (by kernel_rfl) ?_
            refine ⟨by simp only [app_size, sz1, hs1]; omega, ?_⟩
            exact RA.endJ id (by kernel_rfl) hk ⟨⟨rfl, rfl, rfl, trivial⟩, trivial, rfl⟩
          · refine RA.run (cx := ⟨pg, _, _, _, _, _, _, _⟩) pg_ok (by kernel_rfl) (by intro _ _ h; exact h) (al [14] ++ tk [15, 16, 24, 25]) (e := false) (by kernel_rfl) ?_
            refine ⟨[gs (bS (symX 13))], rfl, ?_⟩
            refine ⟨by simp only [app_size, sz1, hs1]; omega, ?_⟩
            refine ⟨by simp only [app_size, sz1, hs1]; omega, ?_⟩
            refine ⟨by simp only [app_size, sz1, hs1]; omega, ?_⟩
            exact RA.endJ id (by kernel_rfl) hk ⟨⟨rfl, rfl, rfl, trivial⟩, trivial, rfl⟩
        · refine RA.run (cx := ⟨pg, _, _, _, _, _, _, _⟩) pg_ok (by kernel_rfl) (by intro _ _ h; exact h) (al [13, 14] ++ tk [15, 16, 24, 25]) (e := false) (by kernel_rfl) ?_
          refine ⟨by decide, by decide, ?_⟩
          refine ⟨[gs (bS (symX 13))], rfl, ?_⟩
          refine ⟨by simp only [app_size, sz1, hs1]; omega, ?_⟩
          refine ⟨by simp only [app_size, sz1, hs1]; omega, ?_⟩
          refine ⟨by simp only [app_size, sz1, hs1]; omega, ?_⟩
          exact RA.endJ id (by kernel_rfl) hk ⟨⟨rfl, rfl, rfl, trivial⟩, trivial, rfl⟩
      · refine ⟨by decide, by decide, ?_⟩
        refine RA.both 5 14 (eqB_eq (by kernel_rfl)) (Stp.rt 5 h1 rfl rfl rfl ?_) (Stp.read 14 pg_ok rfl rfl ?_)
        · refine RA.run (cx := ⟨pg, _, _, _, _, _, _, _⟩) pg_ok (by kernel_rfl) (by intro _ _ h; exact h) (tk [6]) (e := false) (by kernel_rfl) ?_
          refine ⟨by simp only [app_size, sz1, hs1]; omega, ?_⟩
          refine RA.both 14 23 (eqB_eq (by kernel_rfl)) (Stp.read 14 pg_ok rfl rfl ?_) (Stp.rt 23 h2 rfl rfl rfl ?_)
          · refine ⟨[gs (bS (symX 13))], rfl, ?_⟩
            refine RA.run (cx := ⟨pg, _, _, _, _, _, _, _⟩) pg_ok (by kernel_rfl) (by intro _ _ h; exact h) (tk [15, 16]) (e := false) (by kernel_rfl) ?_
            refine ⟨by simp only [app_size, sz1, hs1]; omega, ?_⟩
            refine ⟨by simp only [app_size, sz1, hs1]; omega, ?_⟩
            refine RGO 23 false (tk [24, 25]) h2 rfl rfl (by kernel_rfl) ?_
            refine ⟨by simp only [app_size, sz1, hs1]; omega, ?_⟩
            exact RA.endJ id (by kernel_rfl) hk ⟨⟨rfl, rfl, rfl, trivial⟩, trivial, rfl⟩
          · refine RA.run (cx := ⟨pg, _, _, _, _, _, _, _⟩) pg_ok (by kernel_rfl) (by intro _ _ h; exact h) (al [14] ++ tk [15, 16, 24, 25]) (e := false) (by kernel_rfl) ?_
            refine ⟨[gs (bS (symX 13))], rfl, ?_⟩
            refine ⟨by simp only [app_size, sz1, hs1]; omega, ?_⟩
            refine ⟨by simp only [app_size, sz1, hs1]; omega, ?_⟩
            refine ⟨by simp only [app_size, sz1, hs1]; omega, ?_⟩
            exact RA.endJ id (by kernel_rfl) hk ⟨⟨rfl, rfl, rfl, trivial⟩, trivial, rfl⟩
        · refine ⟨[gs (bS (symX 13))], rfl, ?_⟩
          refine RGO 5 false (tk [6, 15, 16]) h1 rfl rfl (by kernel_rfl) ?_
          refine ⟨by simp only [app_size, sz1, hs1]; omega, ?_⟩
          refine ⟨by simp only [app_size, sz1, hs1]; omega, ?_⟩
          refine ⟨by simp only [app_size, sz1, hs1]; omega, ?_⟩
          refine RGO 23 false (tk [24, 25]) h2 rfl rfl (by kernel_rfl) ?_
          refine ⟨by simp only [app_size, sz1, hs1]; omega, ?_⟩
          exact RA.endJ id (by kernel_rfl) hk ⟨⟨rfl, rfl, rfl, trivial⟩, trivial, rfl⟩
theorem at_14 (l r : Qn) (hl : Wf l) (hr : Wf r) (ih1 : AtOk l) (ih2 : AtOk r) : AtOk (.mk 14 0 [] 0 [] l r) := by
  intro least hle hb
  have hx : atX (.mk 14 0 [] 0 [] l r) least = ifP (decide (0 < least)) (atX l 0 ++ binX 14 :: atX r 1) := atX_add 1 (by decide) l r least
  rw [hx] at hb ⊢
  have hb2 : (bytesL (atX l 0 ++ binX 14 :: atX r 1)).length ≤ 1000000 := by
    refine Nat.le_trans ?_ hb
    unfold ifP
    split
    · rw [bytes_par]; simp only [List.length_append]; omega
    · exact Nat.le_refl _
  rw [bytes_bin] at hb2
  have hsy : (symX 14).length = 1 := rfl
  simp only [List.length_append, hsy, List.length_cons, List.length_nil] at hb2
  have h1 := ih1 0 (by decide) (by omega)
  have h2 := ih2 1 (by decide) (by omega)
  clear ih1 ih2
  generalize hA : bS (bytesL (atX l 0)) = A at h1
  generalize hB : bS (bytesL (atX r 1)) = B at h2
  obtain ⟨c1, n1, m1, s1, b1, l1, r1, rfl⟩ := wf_mk hl
  obtain ⟨c2, n2, m2, s2, b2, l2, r2, rfl⟩ := wf_mk hr
  refine Rt.of pg_ok Tryz.func26 rfl Tryz.ntmps26 rfl Tryz.results26 Tryz.call26 fun H0 S0 w0 h0 g0 => ?_
  refine p2 ?_ rfl
  refine GO (level_rt 14) rfl ?_
  refine p2 ?_ rfl
  refine p2 ?_ rfl
  refine p1 ?_ rfl
  refine p2 ?_ rfl
  refine p1 ?_ rfl
  refine p2 ?_ rfl
  refine p2 ?_ rfl
  refine p1 ?_ rfl
  refine VM 2 ?_
  have hs1 : (bS (symX 14)).size = 1 := rfl
  have hA' : A.size = (bytesL (atX (.mk c1 n1 m1 s1 b1 l1 r1) 0)).length := by rw [← hA, bS_size]
  have hB' : B.size = (bytesL (atX (.mk c2 n2 m2 s2 b2 l2 r2) 1)).length := by rw [← hB, bS_size]
  have hfin : A ++ ⟨#[32]⟩ ++ bS (symX 14) ++ ⟨#[32]⟩ ++ B = bS (bytesL (atX (.mk c1 n1 m1 s1 b1 l1 r1) 0 ++ binX 14 :: atX (.mk c2 n2 m2 s2 b2 l2 r2) 1)) := by
    rw [bytes_bin, bS_append, bS_append, bS_append, bS_append, hA, hB]
    rfl
  refine JK.drawJ [] ⟨[(1, gi least), (5, gs (A ++ ⟨#[32]⟩ ++ bS (symX 14) ++ ⟨#[32]⟩ ++ B)), (6, gi ((0 : Nat) : Int))], [], 0⟩ pg_ok ?_ (fun hk => ?_)
  · rw [hfin]
    refine V ?_
    by_cases hlt : 0 < least
    · refine p1 ?_ (decide_eq_true (by omega))
      refine ⟨by rw [← hfin]; simp only [app_size, sz1]; omega, ?_⟩
      refine ⟨by rw [← hfin]; simp only [app_size, sz1]; omega, ?_⟩
      refine ⟨?_, rfl⟩
      show gs _ = gs _
      rw [decide_eq_true hlt]
      show _ = gs (bS (bytesL (parX _)))
      rw [bytes_par, bS_append, bS_append]
      rfl
    · refine p2 ?_ (decide_eq_false (by omega))
      refine ⟨?_, rfl⟩
      show gs _ = gs _
      rw [decide_eq_false hlt]
      rfl
  · refine RA.run (cx := ⟨pg, _, _, _, _, _, _, _⟩) pg_ok (by kernel_rfl) (by intro _ _ h; exact h) (tk [0, 1, 2, 3, 4, 8, 9, 10, 11, 12, 17, 18, 19, 20, 21, 22]) (e := false) (by kernel_rfl) ?_
    refine RA.both 5 7 (eqB_eq (by kernel_rfl)) (Stp.rt 5 h1 rfl rfl rfl ?_) (Stp.mem 7 pg_ok rfl rfl rfl ?_)
    · refine RA.run (cx := ⟨pg, _, _, _, _, _, _, _⟩) pg_ok (by kernel_rfl) (by intro _ _ h; exact h) (tk [6]) (e := false) (by kernel_rfl) ?_
      refine ⟨by simp only [app_size, sz1, hs1]; omega, ?_⟩
      refine RA.both 7 23 (eqB_eq (by kernel_rfl)) (Stp.mem 7 pg_ok rfl rfl rfl ?_) (Stp.rt 23 h2 rfl rfl rfl ?_)
      · refine RA.both 13 23 (eqB_eq (by kernel_rfl)) (Stp.read 13 pg_ok rfl rfl ?_) (Stp.rt 23 h2 rfl rfl rfl ?_)
        · refine ⟨by decide, by decide, ?_⟩
          refine RA.both 14 23 (eqB_eq (by kernel_rfl)) (Stp.read 14 pg_ok rfl rfl ?_) (Stp.rt 23 h2 rfl rfl rfl ?_)
          · refine ⟨[gs (bS (symX 14))], rfl, ?_⟩
            refine RA.run (cx := ⟨pg, _, _, _, _, _, _, _⟩) pg_ok (by kernel_rfl) (by intro _ _ h; exact h) (tk [15, 16]) (e := false) (by kernel_rfl) ?_
            refine ⟨by simp only [app_size, sz1, hs1]; omega, ?_⟩
            refine ⟨by simp only [app_size, sz1, hs1]; omega, ?_⟩
            refine RGO 23 false (tk [24, 25]) h2 rfl rfl (by kernel_rfl) ?_
            refine ⟨by simp only [app_size, sz1, hs1]; omega, ?_⟩
            exact RA.endJ id (by kernel_rfl) hk ⟨⟨rfl, rfl, rfl, trivial⟩, trivial, rfl⟩
          · refine RA.run (cx := ⟨pg, _, _, _, _, _, _, _⟩) pg_ok (by kernel_rfl) (by intro _ _ h; exact h) (al [14] ++ tk [15, 16, 24, 25]) (e := false) (by kernel_rfl) ?_
            refine ⟨[gs (bS (symX 14))], rfl, ?_⟩
            refine ⟨by simp only [app_size, sz1, hs1]; omega, ?_⟩
            refine ⟨by simp only [app_size, sz1, hs1]; omega, ?_⟩
            refine ⟨by simp only [app_size, sz1, hs1]; omega, ?_⟩
            exact RA.endJ id (by kernel_rfl) hk ⟨⟨rfl, rfl, rfl, trivial⟩, trivial, rfl⟩
        · refine RA.run (cx := ⟨pg, _, _, _, _, _, _, _⟩) pg_ok (by kernel_rfl) (by intro _ _ h; exact h) (al [13, 14] ++ tk [15, 16, 24, 25]) (e := false) (by kernel_rfl) ?_
          refine ⟨by decide, by decide, ?_⟩
          refine ⟨[gs (bS (symX 14))], rfl, ?_⟩
          refine ⟨by simp only [app_size, sz1, hs1]; omega, ?_⟩
          refine ⟨by simp only [app_size, sz1, hs1]; omega, ?_⟩
          refine ⟨by simp only [app_size, sz1, hs1]; omega, ?_⟩
          exact RA.endJ id (by kernel_rfl) hk ⟨⟨rfl, rfl, rfl, trivial⟩, trivial, rfl⟩
      · refine RA.run (cx := ⟨pg, _, _, _, _, _, _, _⟩) pg_ok (by kernel_rfl) (by intro _ _ h; exact h) (al [7, 13, 14] ++ tk [15, 16, 24, 25]) (e := false) (by kernel_rfl) ?_
        refine ⟨by decide, by decide, ?_⟩
        refine ⟨[gs (bS (symX 14))], rfl, ?_⟩
        refine ⟨by simp only [app_size, sz1, hs1]; omega, ?_⟩
        refine ⟨by simp only [app_size, sz1, hs1]; omega, ?_⟩
        refine ⟨by simp only [app_size, sz1, hs1]; omega, ?_⟩
        exact RA.endJ id (by kernel_rfl) hk ⟨⟨rfl, rfl, rfl, trivial⟩, trivial, rfl⟩
    · refine RA.both 5 13 (eqB_eq (by kernel_rfl)) (Stp.rt 5 h1 rfl rfl rfl ?_) (Stp.read 13 pg_ok rfl rfl ?_)
      · refine RA.run (cx := ⟨pg, _, _, _, _, _, _, _⟩) pg_ok (by kernel_rfl) (by intro _ _ h; exact h) (tk [6]) (e := false) (by kernel_rfl) ?_
        refine ⟨by simp only [app_size, sz1, hs1]; omega, ?_⟩
        refine RA.both 13 23 (eqB_eq (by kernel_rfl)) (Stp.read 13 pg_ok rfl rfl ?_) (Stp.rt 23 h2 rfl rfl rfl ?_)
        · refine ⟨by decide, by decide, ?_⟩
          refine RA.both 14 23 (eqB_eq (by kernel_rfl)) (Stp.read 14 pg_ok rfl rfl ?_) (Stp.rt 23 h2 rfl rfl rfl ?_)
          · refine ⟨[gs (bS (symX 14))], rfl, ?_⟩
            refine RA.run (cx := ⟨pg, _, _, _, _, _, _, _⟩) pg_ok (by kernel_rfl) (by intro _ _ h; exact h) (tk [15, 16]) (e := false) (by kernel_rfl) ?_
            refine ⟨by simp only [app_size, sz1, hs1]; omega, ?_⟩
            refine ⟨by simp only [app_size, sz1, hs1]; omega, ?_⟩
            refine RGO 23 false (tk [24, 25]) h2 rfl rfl (by kernel_rfl) ?_
            refine ⟨by simp only [app_size, sz1, hs1]; omega, ?_⟩
            exact RA.endJ id (by kernel_rfl) hk ⟨⟨rfl, rfl, rfl, trivial⟩, trivial, rfl⟩
          · refine RA.run (cx := ⟨pg, _, _, _, _, _, _, _⟩) pg_ok (by kernel_rfl) (by intro _ _ h; exact h) (al [14] ++ tk [15, 16, 24, 25]) (e := false) (by kernel_rfl) ?_
            refine ⟨[gs (bS (symX 14))], rfl, ?_⟩
            refine ⟨by simp only [app_size, sz1, hs1]; omega, ?_⟩
            refine ⟨by simp only [app_size, sz1, hs1]; omega, ?_⟩
            refine ⟨by simp only [app_size, sz1, hs1]; omega, ?_⟩
            exact RA.endJ id (by kernel_rfl) hk ⟨⟨rfl, rfl, rfl, trivial⟩, trivial, rfl⟩
        · refine RA.run (cx := ⟨pg, _, _, _, _, _, _, _⟩) pg_ok (by kernel_rfl) (by intro _ _ h; exact h) (al [13, 14] ++ tk [15, 16, 24, 25]) (e := false) (by kernel_rfl) ?_
          refine ⟨by decide, by decide, ?_⟩
          refine ⟨[gs (bS (symX 14))], rfl, ?_⟩
          refine ⟨by simp only [app_size, sz1, hs1]; omega, ?_⟩
          refine ⟨by simp only [app_size, sz1, hs1]; omega, ?_⟩
          refine ⟨by simp only [app_size, sz1, hs1]; omega, ?_⟩
          exact RA.endJ id (by kernel_rfl) hk ⟨⟨rfl, rfl, rfl, trivial⟩, trivial, rfl⟩
      · refine ⟨by decide, by decide, ?_⟩
        refine RA.both 5 14 (eqB_eq (by kernel_rfl)) (Stp.rt 5 h1 rfl rfl rfl ?_) (Stp.read 14 pg_ok rfl rfl ?_)
        · refine RA.run (cx := ⟨pg, _, _, _, _, _, _, _⟩) pg_ok (by kernel_rfl) (by intro _ _ h; exact h) (tk [6]) (e := false) (by kernel_rfl) ?_
          refine ⟨by simp only [app_size, sz1, hs1]; omega, ?_⟩
          refine RA.both 14 23 (eqB_eq (by kernel_rfl)) (Stp.read 14 pg_ok rfl rfl ?_) (Stp.rt 23 h2 rfl rfl rfl ?_)
          · refine ⟨[gs (bS (symX 14))], rfl, ?_⟩
            refine RA.run (cx := ⟨pg, _, _, _, _, _, _, _⟩) pg_ok (by kernel_rfl) (by intro _ _ h; exact h) (tk [15, 16]) (e := false) (by kernel_rfl) ?_
            refine ⟨by simp only [app_size, sz1, hs1]; omega, ?_⟩
            refine ⟨by simp only [app_size, sz1, hs1]; omega, ?_⟩
            refine RGO 23 false (tk [24, 25]) h2 rfl rfl (by kernel_rfl) ?_
            refine ⟨by simp only [app_size, sz1, hs1]; omega, ?_⟩
            exact RA.endJ id (by kernel_rfl) hk ⟨⟨rfl, rfl, rfl, trivial⟩, trivial, rfl⟩
          · refine RA.run (cx := ⟨pg, _, _, _, _, _, _, _⟩) pg_ok (by kernel_rfl) (by intro _ _ h; exact h) (al [14] ++ tk [15, 16, 24, 25]) (e := false) (by kernel_rfl) ?_
            refine ⟨[gs (bS (symX 14))], rfl, ?_⟩
            refine ⟨by simp only [app_size, sz1, hs1]; omega, ?_⟩
            refine ⟨by simp only [app_size, sz1, hs1]; omega, ?_⟩
            refine ⟨by simp only [app_size, sz1, hs1]; omega, ?_⟩
            exact RA.endJ id (by kernel_rfl) hk ⟨⟨rfl, rfl, rfl, trivial⟩, trivial, rfl⟩
        · refine ⟨[gs (bS (symX 14))], rfl, ?_⟩
          refine RGO 5 false (tk [6, 15, 16]) h1 rfl rfl (by kernel_rfl) ?_
          refine ⟨by simp only [app_size, sz1, hs1]; omega, ?_⟩
          refine ⟨by simp only [app_size, sz1, hs1]; omega, ?_⟩
          refine ⟨by simp only [app_size, sz1, hs1]; omega, ?_⟩
          refine RGO 23 false (tk [24, 25]) h2 rfl rfl (by kernel_rfl) ?_
          refine ⟨by simp only [app_size, sz1, hs1]; omega, ?_⟩
          exact RA.endJ id (by kernel_rfl) hk ⟨⟨rfl, rfl, rfl, trivial⟩, trivial, rfl⟩
theorem at_15 (l r : Qn) (hl : Wf l) (hr : Wf r) (ih1 : AtOk l) (ih2 : AtOk r) : AtOk (.mk 15 0 [] 0 [] l r) := by
  intro least hle hb
  have hx : atX (.mk 15 0 [] 0 [] l r) least = ifP (decide (1 < least)) (atX l 1 ++ binX 15 :: atX r 2) := atX_mul 0 (by decide) l r least
  rw [hx] at hb ⊢
  have hb2 : (bytesL (atX l 1 ++ binX 15 :: atX r 2)).length ≤ 1000000 := by
    refine Nat.le_trans ?_ hb
    unfold ifP
    split
    · rw [bytes_par]; simp only [List.length_append]; omega
    · exact Nat.le_refl _
  rw [bytes_bin] at hb2
  have hsy : (symX 15).length = 1 := rfl
  simp only [List.length_append, hsy, List.length_cons, List.length_nil] at hb2
  have h1 := ih1 1 (by decide) (by omega)
  have h2 := ih2 2 (by decide) (by omega)
  clear ih1 ih2
  generalize hA : bS (bytesL (atX l 1)) = A at h1
  generalize hB : bS (bytesL (atX r 2)) = B at h2
  obtain ⟨c1, n1, m1, s1, b1, l1, r1, rfl⟩ := wf_mk hl
  obtain ⟨c2, n2, m2, s2, b2, l2, r2, rfl⟩ := wf_mk hr
  refine Rt.of pg_ok Tryz.func26 rfl Tryz.ntmps26 rfl Tryz.results26 Tryz.call26 fun H0 S0 w0 h0 g0 => ?_
  refine p2 ?_ rfl
  refine GO (level_rt 15) rfl ?_
  refine p2 ?_ rfl
  refine p2 ?_ rfl
  refine p1 ?_ rfl
  refine p2 ?_ rfl
  refine p1 ?_ rfl
  refine p2 ?_ rfl
  refine p2 ?_ rfl
  refine p1 ?_ rfl
  refine VM 2 ?_
  have hs1 : (bS (symX 15)).size = 1 := rfl
  have hA' : A.size = (bytesL (atX (.mk c1 n1 m1 s1 b1 l1 r1) 1)).length := by rw [← hA, bS_size]
  have hB' : B.size = (bytesL (atX (.mk c2 n2 m2 s2 b2 l2 r2) 2)).length := by rw [← hB, bS_size]
  have hfin : A ++ ⟨#[32]⟩ ++ bS (symX 15) ++ ⟨#[32]⟩ ++ B = bS (bytesL (atX (.mk c1 n1 m1 s1 b1 l1 r1) 1 ++ binX 15 :: atX (.mk c2 n2 m2 s2 b2 l2 r2) 2)) := by
    rw [bytes_bin, bS_append, bS_append, bS_append, bS_append, hA, hB]
    rfl
  refine JK.drawJ [] ⟨[(1, gi least), (5, gs (A ++ ⟨#[32]⟩ ++ bS (symX 15) ++ ⟨#[32]⟩ ++ B)), (6, gi ((1 : Nat) : Int))], [], 0⟩ pg_ok ?_ (fun hk => ?_)
  · rw [hfin]
    refine V ?_
    by_cases hlt : 1 < least
    · refine p1 ?_ (decide_eq_true (by omega))
      refine ⟨by rw [← hfin]; simp only [app_size, sz1]; omega, ?_⟩
      refine ⟨by rw [← hfin]; simp only [app_size, sz1]; omega, ?_⟩
      refine ⟨?_, rfl⟩
      show gs _ = gs _
      rw [decide_eq_true hlt]
      show _ = gs (bS (bytesL (parX _)))
      rw [bytes_par, bS_append, bS_append]
      rfl
    · refine p2 ?_ (decide_eq_false (by omega))
      refine ⟨?_, rfl⟩
      show gs _ = gs _
      rw [decide_eq_false hlt]
      rfl
  · refine RA.run (cx := ⟨pg, _, _, _, _, _, _, _⟩) pg_ok (by kernel_rfl) (by intro _ _ h; exact h) (tk [0, 1, 2, 3, 4, 8, 9, 10, 11, 12, 17, 18, 19, 20, 21, 22]) (e := false) (by kernel_rfl) ?_
    refine RA.both 5 7 (eqB_eq (by kernel_rfl)) (Stp.rt 5 h1 rfl rfl rfl ?_) (Stp.mem 7 pg_ok rfl rfl rfl ?_)
    · refine RA.run (cx := ⟨pg, _, _, _, _, _, _, _⟩) pg_ok (by kernel_rfl) (by intro _ _ h; exact h) (tk [6]) (e := false) (by kernel_rfl) ?_
      refine ⟨by simp only [app_size, sz1, hs1]; omega, ?_⟩
      refine RA.both 7 23 (eqB_eq (by kernel_rfl)) (Stp.mem 7 pg_ok rfl rfl rfl ?_) (Stp.rt 23 h2 rfl rfl rfl ?_)
      · refine RA.both 13 23 (eqB_eq (by kernel_rfl)) (Stp.read 13 pg_ok rfl rfl ?_) (Stp.rt 23 h2 rfl rfl rfl ?_)
        · refine ⟨by decide, by decide, ?_⟩
          refine RA.both 14 23 (eqB_eq (by kernel_rfl)) (Stp.read 14 pg_ok rfl rfl ?_) (Stp.rt 23 h2 rfl rfl rfl ?_)
          · refine ⟨[gs (bS (symX 15))], rfl, ?_⟩
            refine RA.run (cx := ⟨pg, _, _, _, _, _, _, _⟩) pg_ok (by kernel_rfl) (by intro _ _ h; exact h) (tk [15, 16]) (e := false) (by kernel_rfl) ?_
            refine ⟨by simp only [app_size, sz1, hs1]; omega, ?_⟩
            refine ⟨by simp only [app_size, sz1, hs1]; omega, ?_⟩
            refine RGO 23 false (tk [24, 25]) h2 rfl rfl (by kernel_rfl) ?_
            refine ⟨by simp only [app_size, sz1, hs1]; omega, ?_⟩
            exact RA.endJ id (by kernel_rfl) hk ⟨⟨rfl, rfl, rfl, trivial⟩, trivial, rfl⟩
          · refine RA.run (cx := ⟨pg, _, _, _, _, _, _, _⟩) pg_ok (by kernel_rfl) (by intro _ _ h; exact h) (al [14] ++ tk [15, 16, 24, 25]) (e := false) (by kernel_rfl) ?_
            refine ⟨[gs (bS (symX 15))], rfl, ?_⟩
            refine ⟨by simp only [app_size, sz1, hs1]; omega, ?_⟩
            refine ⟨by simp only [app_size, sz1, hs1]; omega, ?_⟩
            refine ⟨by simp only [app_size, sz1, hs1]; omega, ?_⟩
            exact RA.endJ id (by kernel_rfl) hk ⟨⟨rfl, rfl, rfl, trivial⟩, trivial, rfl⟩
        · refine RA.run (cx := ⟨pg, _, _, _, _, _, _, _⟩) pg_ok (by kernel_rfl) (by intro _ _ h; exact h) (al [13, 14] ++ tk [15, 16, 24, 25]) (e := false) (by kernel_rfl) ?_
          refine ⟨by decide, by decide, ?_⟩
          refine ⟨[gs (bS (symX 15))], rfl, ?_⟩
          refine ⟨by simp only [app_size, sz1, hs1]; omega, ?_⟩
          refine ⟨by simp only [app_size, sz1, hs1]; omega, ?_⟩
          refine ⟨by simp only [app_size, sz1, hs1]; omega, ?_⟩
          exact RA.endJ id (by kernel_rfl) hk ⟨⟨rfl, rfl, rfl, trivial⟩, trivial, rfl⟩
      · refine RA.run (cx := ⟨pg, _, _, _, _, _, _, _⟩) pg_ok (by kernel_rfl) (by intro _ _ h; exact h) (al [7, 13, 14] ++ tk [15, 16, 24, 25]) (e := false) (by kernel_rfl) ?_
        refine ⟨by decide, by decide, ?_⟩
        refine ⟨[gs (bS (symX 15))], rfl, ?_⟩
        refine ⟨by simp only [app_size, sz1, hs1]; omega, ?_⟩
        refine ⟨by simp only [app_size, sz1, hs1]; omega, ?_⟩
        refine ⟨by simp only [app_size, sz1, hs1]; omega, ?_⟩
        exact RA.endJ id (by kernel_rfl) hk ⟨⟨rfl, rfl, rfl, trivial⟩, trivial, rfl⟩
    · refine RA.both 5 13 (eqB_eq (by kernel_rfl)) (Stp.rt 5 h1 rfl rfl rfl ?_) (Stp.read 13 pg_ok rfl rfl ?_)
      · refine RA.run (cx := ⟨pg, _, _, _, _, _, _, _⟩) pg_ok (by kernel_rfl) (by intro _ _ h; exact h) (tk [6]) (e := false) (by kernel_rfl) ?_
        refine ⟨by simp only [app_size, sz1, hs1]; omega, ?_⟩
        refine RA.both 13 23 (eqB_eq (by kernel_rfl)) (Stp.read 13 pg_ok rfl rfl ?_) (Stp.rt 23 h2 rfl rfl rfl ?_)
        · refine ⟨by decide, by decide, ?_⟩
          refine RA.both 14 23 (eqB_eq (by kernel_rfl)) (Stp.read 14 pg_ok rfl rfl ?_) (Stp.rt 23 h2 rfl rfl rfl ?_)
          · refine ⟨[gs (bS (symX 15))], rfl, ?_⟩
            refine RA.run (cx := ⟨pg, _, _, _, _, _, _, _⟩) pg_ok (by kernel_rfl) (by intro _ _ h; exact h) (tk [15, 16]) (e := false) (by kernel_rfl) ?_
            refine ⟨by simp only [app_size, sz1, hs1]; omega, ?_⟩
            refine ⟨by simp only [app_size, sz1, hs1]; omega, ?_⟩
            refine RGO 23 false (tk [24, 25]) h2 rfl rfl (by kernel_rfl) ?_
            refine ⟨by simp only [app_size, sz1, hs1]; omega, ?_⟩
            exact RA.endJ id (by kernel_rfl) hk ⟨⟨rfl, rfl, rfl, trivial⟩, trivial, rfl⟩
          · refine RA.run (cx := ⟨pg, _, _, _, _, _, _, _⟩) pg_ok (by kernel_rfl) (by intro _ _ h; exact h) (al [14] ++ tk [15, 16, 24, 25]) (e := false) (by kernel_rfl) ?_
            refine ⟨[gs (bS (symX 15))], rfl, ?_⟩
            refine ⟨by simp only [app_size, sz1, hs1]; omega, ?_⟩
            refine ⟨by simp only [app_size, sz1, hs1]; omega, ?_⟩
            refine ⟨by simp only [app_size, sz1, hs1]; omega, ?_⟩
            exact RA.endJ id (by kernel_rfl) hk ⟨⟨rfl, rfl, rfl, trivial⟩, trivial, rfl⟩
        · refine RA.run (cx := ⟨pg, _, _, _, _, _, _, _⟩) pg_ok (by kernel_rfl) (by intro _ _ h; exact h) (al [13, 14] ++ tk [15, 16, 24, 25]) (e := false) (by kernel_rfl) ?_
          refine ⟨by decide, by decide, ?_⟩
          refine ⟨[gs (bS (symX 15))], rfl, ?_⟩
          refine ⟨by simp only [app_size, sz1, hs1]; omega, ?_⟩
          refine ⟨by simp only [app_size, sz1, hs1]; omega, ?_⟩
          refine ⟨by simp only [app_size, sz1, hs1]; omega, ?_⟩
          exact RA.endJ id (by kernel_rfl) hk ⟨⟨rfl, rfl, rfl, trivial⟩, trivial, rfl⟩
      · refine ⟨by decide, by decide, ?_⟩
        refine RA.both 5 14 (eqB_eq (by kernel_rfl)) (Stp.rt 5 h1 rfl rfl rfl ?_) (Stp.read 14 pg_ok rfl rfl ?_)
        · refine RA.run (cx := ⟨pg, _, _, _, _, _, _, _⟩) pg_ok (by kernel_rfl) (by intro _ _ h; exact h) (tk [6]) (e := false) (by kernel_rfl) ?_
          refine ⟨by simp only [app_size, sz1, hs1]; omega, ?_⟩
          refine RA.both 14 23 (eqB_eq (by kernel_rfl)) (Stp.read 14 pg_ok rfl rfl ?_) (Stp.rt 23 h2 rfl rfl rfl ?_)
          · refine ⟨[gs (bS (symX 15))], rfl, ?_⟩
            refine RA.run (cx := ⟨pg, _, _, _, _, _, _, _⟩) pg_ok (by kernel_rfl) (by intro _ _ h; exact h) (tk [15, 16]) (e := false) (by kernel_rfl) ?_
            refine ⟨by simp only [app_size, sz1, hs1]; omega, ?_⟩
            refine ⟨by simp only [app_size, sz1, hs1]; omega, ?_⟩
            refine RGO 23 false (tk [24, 25]) h2 rfl rfl (by kernel_rfl) ?_
            refine ⟨by simp only [app_size, sz1, hs1]; omega, ?_⟩
            exact RA.endJ id (by kernel_rfl) hk ⟨⟨rfl, rfl, rfl, trivial⟩, trivial, rfl⟩
          · refine RA.run (cx := ⟨pg, _, _, _, _, _, _, _⟩) pg_ok (by kernel_rfl) (by intro _ _ h; exact h) (al [14] ++ tk [15, 16, 24, 25]) (e := false) (by kernel_rfl) ?_
            refine ⟨[gs (bS (symX 15))], rfl, ?_⟩
            refine ⟨by simp only [app_size, sz1, hs1]; omega, ?_⟩
            refine ⟨by simp only [app_size, sz1, hs1]; omega, ?_⟩
            refine ⟨by simp only [app_size, sz1, hs1]; omega, ?_⟩
            exact RA.endJ id (by kernel_rfl) hk ⟨⟨rfl, rfl, rfl, trivial⟩, trivial, rfl⟩
        · refine ⟨[gs (bS (symX 15))], rfl, ?_⟩
          refine RGO 5 false (tk [6, 15, 16]) h1 rfl rfl (by kernel_rfl) ?_
          refine ⟨by simp only [app_size, sz1, hs1]; omega, ?_⟩
          refine ⟨by simp only [app_size, sz1, hs1]; omega, ?_⟩
          refine ⟨by simp only [app_size, sz1, hs1]; omega, ?_⟩
          refine RGO 23 false (tk [24, 25]) h2 rfl rfl (by kernel_rfl) ?_
          refine ⟨by simp only [app_size, sz1, hs1]; omega, ?_⟩
          exact RA.endJ id (by kernel_rfl) hk ⟨⟨rfl, rfl, rfl, trivial⟩, trivial, rfl⟩
theorem at_16 (l r : Qn) (hl : Wf l) (hr : Wf r) (ih1 : AtOk l) (ih2 : AtOk r) : AtOk (.mk 16 0 [] 0 [] l r) := by
  intro least hle hb
  have hx : atX (.mk 16 0 [] 0 [] l r) least = ifP (decide (1 < least)) (atX l 1 ++ binX 16 :: atX r 2) := atX_mul 1 (by decide) l r least
  rw [hx] at hb ⊢
  have hb2 : (bytesL (atX l 1 ++ binX 16 :: atX r 2)).length ≤ 1000000 := by
    refine Nat.le_trans ?_ hb
    unfold ifP
    split
    · rw [bytes_par]; simp only [List.length_append]; omega
    · exact Nat.le_refl _
  rw [bytes_bin] at hb2
  have hsy : (symX 16).length = 1 := rfl
  simp only [List.length_append, hsy, List.length_cons, List.length_nil] at hb2
  have h1 := ih1 1 (by decide) (by omega)
  have h2 := ih2 2 (by decide) (by omega)
  clear ih1 ih2
  generalize hA : bS (bytesL (atX l 1)) = A at h1
  generalize hB : bS (bytesL (atX r 2)) = B at h2
  obtain ⟨c1, n1, m1, s1, b1, l1, r1, rfl⟩ := wf_mk hl
  obtain ⟨c2, n2, m2, s2, b2, l2, r2, rfl⟩ := wf_mk hr
  refine Rt.of pg_ok Tryz.func26 rfl Tryz.ntmps26 rfl Tryz.results26 Tryz.call26 fun H0 S0 w0 h0 g0 => ?_
  refine p2 ?_ rfl
  refine GO (level_rt 16) rfl ?_
  refine p2 ?_ rfl
  refine p2 ?_ rfl
  refine p1 ?_ rfl
  refine p2 ?_ rfl
  refine p1 ?_ rfl
  refine p2 ?_ rfl
  refine p2 ?_ rfl
  refine p1 ?_ rfl
  refine VM 2 ?_
  have hs1 : (bS (symX 16)).size = 1 := rfl
  have hA' : A.size = (bytesL (atX (.mk c1 n1 m1 s1 b1 l1 r1) 1)).length := by rw [← hA, bS_size]
  have hB' : B.size = (bytesL (atX (.mk c2 n2 m2 s2 b2 l2 r2) 2)).length := by rw [← hB, bS_size]
  have hfin : A ++ ⟨#[32]⟩ ++ bS (symX 16) ++ ⟨#[32]⟩ ++ B = bS (bytesL (atX (.mk c1 n1 m1 s1 b1 l1 r1) 1 ++ binX 16 :: atX (.mk c2 n2 m2 s2 b2 l2 r2) 2)) := by
    rw [bytes_bin, bS_append, bS_append, bS_append, bS_append, hA, hB]
    rfl
  refine JK.drawJ [] ⟨[(1, gi least), (5, gs (A ++ ⟨#[32]⟩ ++ bS (symX 16) ++ ⟨#[32]⟩ ++ B)), (6, gi ((1 : Nat) : Int))], [], 0⟩ pg_ok ?_ (fun hk => ?_)
  · rw [hfin]
    refine V ?_
    by_cases hlt : 1 < least
    · refine p1 ?_ (decide_eq_true (by omega))
      refine ⟨by rw [← hfin]; simp only [app_size, sz1]; omega, ?_⟩
      refine ⟨by rw [← hfin]; simp only [app_size, sz1]; omega, ?_⟩
      refine ⟨?_, rfl⟩
      show gs _ = gs _
      rw [decide_eq_true hlt]
      show _ = gs (bS (bytesL (parX _)))
      rw [bytes_par, bS_append, bS_append]
      rfl
    · refine p2 ?_ (decide_eq_false (by omega))
      refine ⟨?_, rfl⟩
      show gs _ = gs _
      rw [decide_eq_false hlt]
      rfl
  · refine RA.run (cx := ⟨pg, _, _, _, _, _, _, _⟩) pg_ok (by kernel_rfl) (by intro _ _ h; exact h) (tk [0, 1, 2, 3, 4, 8, 9, 10, 11, 12, 17, 18, 19, 20, 21, 22]) (e := false) (by kernel_rfl) ?_
    refine RA.both 5 7 (eqB_eq (by kernel_rfl)) (Stp.rt 5 h1 rfl rfl rfl ?_) (Stp.mem 7 pg_ok rfl rfl rfl ?_)
    · refine RA.run (cx := ⟨pg, _, _, _, _, _, _, _⟩) pg_ok (by kernel_rfl) (by intro _ _ h; exact h) (tk [6]) (e := false) (by kernel_rfl) ?_
      refine ⟨by simp only [app_size, sz1, hs1]; omega, ?_⟩
      refine RA.both 7 23 (eqB_eq (by kernel_rfl)) (Stp.mem 7 pg_ok rfl rfl rfl ?_) (Stp.rt 23 h2 rfl rfl rfl ?_)
      · refine RA.both 13 23 (eqB_eq (by kernel_rfl)) (Stp.read 13 pg_ok rfl rfl ?_) (Stp.rt 23 h2 rfl rfl rfl ?_)
        · refine ⟨by decide, by decide, ?_⟩
          refine RA.both 14 23 (eqB_eq (by kernel_rfl)) (Stp.read 14 pg_ok rfl rfl ?_) (Stp.rt 23 h2 rfl rfl rfl ?_)
          · refine ⟨[gs (bS (symX 16))], rfl, ?_⟩
            refine RA.run (cx := ⟨pg, _, _, _, _, _, _, _⟩) pg_ok (by kernel_rfl) (by intro _ _ h; exact h) (tk [15, 16]) (e := false) (by kernel_rfl) ?_
            refine ⟨by simp only [app_size, sz1, hs1]; omega, ?_⟩
            refine ⟨by simp only [app_size, sz1, hs1]; omega, ?_⟩
            refine RGO 23 false (tk [24, 25]) h2 rfl rfl (by kernel_rfl) ?_
            refine ⟨by simp only [app_size, sz1, hs1]; omega, ?_⟩
            exact RA.endJ id (by kernel_rfl) hk ⟨⟨rfl, rfl, rfl, trivial⟩, trivial, rfl⟩
          · refine RA.run (cx := ⟨pg, _, _, _, _, _, _, _⟩) pg_ok (by kernel_rfl) (by intro _ _ h; exact h) (al [14] ++ tk [15, 16, 24, 25]) (e := false) (by kernel_rfl) ?_
            refine ⟨[gs (bS (symX 16))], rfl, ?_⟩
            refine ⟨by simp only [app_size, sz1, hs1]; omega, ?_⟩
            refine ⟨by simp only [app_size, sz1, hs1]; omega, ?_⟩
            refine ⟨by simp only [app_size, sz1, hs1]; omega, ?_⟩
            exact RA.endJ id (by kernel_rfl) hk ⟨⟨rfl, rfl, rfl, trivial⟩, trivial, rfl⟩
        · refine RA.run (cx := ⟨pg, _, _, _, _, _, _, _⟩) pg_ok (by kernel_rfl) (by intro _ _ h; exact h) (al [13, 14] ++ tk [15, 16, 24, 25]) (e := false) (by kernel_rfl) ?_
          refine ⟨by decide, by decide, ?_⟩
          refine ⟨[gs (bS (symX 16))], rfl, ?_⟩
          refine ⟨by simp only [app_size, sz1, hs1]; omega, ?_⟩
          refine ⟨by simp only [app_size, sz1, hs1]; omega, ?_⟩
          refine ⟨by simp only [app_size, sz1, hs1]; omega, ?_⟩
          exact RA.endJ id (by kernel_rfl) hk ⟨⟨rfl, rfl, rfl, trivial⟩, trivial, rfl⟩
      · refine RA.run (cx := ⟨pg, _, _, _, _, _, _, _⟩) pg_ok (by kernel_rfl) (by intro _ _ h; exact h) (al [7, 13, 14] ++ tk [15, 16, 24, 25]) (e := false) (by kernel_rfl) ?_
        refine ⟨by decide, by decide, ?_⟩
        refine ⟨[gs (bS (symX 16))], rfl, ?_⟩
        refine ⟨by simp only [app_size, sz1, hs1]; omega, ?_⟩
        refine ⟨by simp only [app_size, sz1, hs1]; omega, ?_⟩
        refine ⟨by simp only [app_size, sz1, hs1]; omega, ?_⟩
        exact RA.endJ id (by kernel_rfl) hk ⟨⟨rfl, rfl, rfl, trivial⟩, trivial, rfl⟩
    · refine RA.both 5 13 (eqB_eq (by kernel_rfl)) (Stp.rt 5 h1 rfl rfl rfl ?_) (Stp.read 13 pg_ok rfl rfl ?_)
      · refine RA.run (cx := ⟨pg, _, _, _, _, _, _, _⟩) pg_ok (by kernel_rfl) (by intro _ _ h; exact h) (tk [6]) (e := false) (by kernel_rfl) ?_
        refine ⟨by simp only [app_size, sz1, hs1]; omega, ?_⟩
        refine RA.both 13 23 (eqB_eq (by kernel_rfl)) (Stp.read 13 pg_ok rfl rfl ?_) (Stp.rt 23 h2 rfl rfl rfl ?_)
        · refine ⟨by decide, by decide, ?_⟩
          refine RA.both 14 23 (eqB_eq (by kernel_rfl)) (Stp.read 14 pg_ok rfl rfl ?_) (Stp.rt 23 h2 rfl rfl rfl ?_)
          · refine ⟨[gs (bS (symX 16))], rfl, ?_⟩
            refine RA.run (cx := ⟨pg, _, _, _, _, _, _, _⟩) pg_ok (by kernel_rfl) (by intro _ _ h; exact h) (tk [15, 16]) (e := false) (by kernel_rfl) ?_
            refine ⟨by simp only [app_size, sz1, hs1]; omega, ?_⟩
            refine ⟨by simp only [app_size, sz1, hs1]; omega, ?_⟩
            refine RGO 23 false (tk [24, 25]) h2 rfl rfl (by kernel_rfl) ?_
            refine ⟨by simp only [app_size, sz1, hs1]; omega, ?_⟩
            exact RA.endJ id (by kernel_rfl) hk ⟨⟨rfl, rfl, rfl, trivial⟩, trivial, rfl⟩
          · refine RA.run (cx := ⟨pg, _, _, _, _, _, _, _⟩) pg_ok (by kernel_rfl) (by intro _ _ h; exact h) (al [14] ++ tk [15, 16, 24, 25]) (e := false) (by kernel_rfl) ?_
            refine ⟨[gs (bS (symX 16))], rfl, ?_⟩
            refine ⟨by simp only [app_size, sz1, hs1]; omega, ?_⟩
            refine ⟨by simp only [app_size, sz1, hs1]; omega, ?_⟩
            refine ⟨by simp only [app_size, sz1, hs1]; omega, ?_⟩
            exact RA.endJ id (by kernel_rfl) hk ⟨⟨rfl, rfl, rfl, trivial⟩, trivial, rfl⟩
        · refine RA.run (cx := ⟨pg, _, _, _, _, _, _, _⟩) pg_ok (by kernel_rfl) (by intro _ _ h; exact h) (al [13, 14] ++ tk [15, 16, 24, 25]) (e := false) (by kernel_rfl) ?_
          refine ⟨by decide, by decide, ?_⟩
          refine ⟨[gs (bS (symX 16))], rfl, ?_⟩
          refine ⟨by simp only [app_size, sz1, hs1]; omega, ?_⟩
          refine ⟨by simp only [app_size, sz1, hs1]; omega, ?_⟩
          refine ⟨by simp only [app_size, sz1, hs1]; omega, ?_⟩
          exact RA.endJ id (by kernel_rfl) hk ⟨⟨rfl, rfl, rfl, trivial⟩, trivial, rfl⟩
      · refine ⟨by decide, by decide, ?_⟩
        refine RA.both 5 14 (eqB_eq (by kernel_rfl)) (Stp.rt 5 h1 rfl rfl rfl ?_) (Stp.read 14 pg_ok rfl rfl ?_)
        · refine RA.run (cx := ⟨pg, _, _, _, _, _, _, _⟩) pg_ok (by kernel_rfl) (by intro _ _ h; exact h) (tk [6]) (e := false) (by kernel_rfl) ?_
          refine ⟨by simp only [app_size, sz1, hs1]; omega, ?_⟩
          refine RA.both 14 23 (eqB_eq (by kernel_rfl)) (Stp.read 14 pg_ok rfl rfl ?_) (Stp.rt 23 h2 rfl rfl rfl ?_)
          · refine ⟨[gs (bS (symX 16))], rfl, ?_⟩
            refine RA.run (cx := ⟨pg, _, _, _, _, _, _, _⟩) pg_ok (by kernel_rfl) (by intro _ _ h; exact h) (tk [15, 16]) (e := false) (by kernel_rfl) ?_
            refine ⟨by simp only [app_size, sz1, hs1]; omega, ?_⟩
            refine ⟨by simp only [app_size, sz1, hs1]; omega, ?_⟩
            refine RGO 23 false (tk [24, 25]) h2 rfl rfl (by kernel_rfl) ?_
            refine ⟨by simp only [app_size, sz1, hs1]; omega, ?_⟩
            exact RA.endJ id (by kernel_rfl) hk ⟨⟨rfl, rfl, rfl, trivial⟩, trivial, rfl⟩
          · refine RA.run (cx := ⟨pg, _, _, _, _, _, _, _⟩) pg_ok (by kernel_rfl) (by intro _ _ h; exact h) (al [14] ++ tk [15, 16, 24, 25]) (e := false) (by kernel_rfl) ?_
            refine ⟨[gs (bS (symX 16))], rfl, ?_⟩
            refine ⟨by simp only [app_size, sz1, hs1]; omega, ?_⟩
            refine ⟨by simp only [app_size, sz1, hs1]; omega, ?_⟩
            refine ⟨by simp only [app_size, sz1, hs1]; omega, ?_⟩
            exact RA.endJ id (by kernel_rfl) hk ⟨⟨rfl, rfl, rfl, trivial⟩, trivial, rfl⟩
        · refine ⟨[gs (bS (symX 16))], rfl, ?_⟩
          refine RGO 5 false (tk [6, 15, 16]) h1 rfl rfl (by kernel_rfl) ?_
          refine ⟨by simp only [app_size, sz1, hs1]; omega, ?_⟩
          refine ⟨by simp only [app_size, sz1, hs1]; omega, ?_⟩
          refine ⟨by simp only [app_size, sz1, hs1]; omega, ?_⟩
          refine RGO 23 false (tk [24, 25]) h2 rfl rfl (by kernel_rfl) ?_
          refine ⟨by simp only [app_size, sz1, hs1]; omega, ?_⟩
          exact RA.endJ id (by kernel_rfl) hk ⟨⟨rfl, rfl, rfl, trivial⟩, trivial, rfl⟩
theorem at_ok {q : Qn} (hq : Wf q) : AtOk q := by
  induction hq with
  | num n h0 h1 => exact at_num n h0 h1
  | pick m h => exact at_pick m h
  | over k hk m h sp h1 h2 => exact at_over k hk m h sp h1 h2
  | all k hk b hb hl q hq ih => exact at_all k hk b hl q hq ih
  | neg q hq ih => exact at_neg q hq ih
  | add k hk l r hl hr ih1 ih2 =>
    rcases (show k = 0 ∨ k = 1 by omega) with rfl | rfl
    · exact at_13 l r hl hr ih1 ih2
    · exact at_14 l r hl hr ih1 ih2
  | mul k hk l r hl hr ih1 ih2 =>
    rcases (show k = 0 ∨ k = 1 by omega) with rfl | rfl
    · exact at_15 l r hl hr ih1 ih2
    · exact at_16 l r hl hr ih1 ih2
theorem print_rt (q : Qn) (hq : Wf q) (hb : (bytesL (atX q 0)).length ≤ 1000000) : Rt pg 8 [qG q] (gs (printF q)) := by
  have h := at_ok hq 0 (by decide) hb
  obtain ⟨c, n, m, s, b, l, r, rfl⟩ := wf_mk hq
  refine Rt.of pg_ok Tryz.func8 rfl Tryz.ntmps8 rfl Tryz.results8 Tryz.call8 fun H0 S0 w0 h0 g0 => ?_
  refine GO h rfl ?_
  exact ⟨rfl, rfl⟩
end Go.Proofs.YtihakhdinkkdmaaGreatDoor
/-
  Contracts: how questions are printed, by the document. (Printed by gen/gen_rprint.py.)
-/
namespace Go.Proofs.YtihakhdinkkdmaaGreatDoor
open Go.GK Go.RowKit Go.PL
set_option maxRecDepth 100000
set_option linter.unusedSimpArgs false
theorem ops_agg {o : Int} (h0 : 0 ≤ o) (h1 : o ≤ 3) : [gs (bS [61]), gs (bS [33, 61]), gs (bS [94, 61]), gs (bS [33, 94])][o.toNat]? = some (gs (opsL.getD o.toNat ⟨#[]⟩)) := by
  match o, h0, h1 with
  | 0, _, _ => rfl
  | 1, _, _ => rfl
  | 2, _, _ => rfl
  | 3, _, _ => rfl
def accS (l : List Mt) (i : Nat) : ByteArray := bS ([123] ++ ([44] : List UInt8).intercalate ((l.take i).map itemM))
theorem accS_succ {l : List Mt} {i : Nat} (h : i < l.length) : accS l (i + 1) = (if i = 0 then accS l i else accS l i ++ ⟨#[44]⟩) ++ bS (itemM l[i]) := by
  rw [accS, accS, List.take_succ_eq_append_getElem h, List.map_append, List.map_singleton, inter_snoc]
  by_cases h0 : i = 0
  · subst h0
    rw [if_pos rfl, if_pos (by simp), ← bS_append]
    simp [List.intercalate]
  · have hne : (l.take i).map itemM ≠ [] := by
      intro e
      have := congrArg List.length e
      rw [List.length_map, List.length_take, List.length_nil] at this
      omega
    rw [if_neg h0, if_neg hne]
    rw [show (ByteArray.mk #[44]) = bS [44] from rfl, ← bS_append, ← bS_append]
    simp
theorem accS_size {l : List Mt} (h : MsOk l) (i : Nat) (hi : i ≤ l.length) : (accS l i).size ≤ 500 := by
  have h1 := inter_len' (s := [44]) (k := 1) (by decide) (m := 52) (l := (l.take i).map itemM) fun x hx => by
    obtain ⟨m, hm, rfl⟩ := List.mem_map.1 hx
    exact item_short (h.1 m (List.mem_of_mem_take hm))
  have := h.2
  rw [List.length_map, List.length_take] at h1
  rw [accS, bS_size, List.length_append, List.length_singleton]
  have : min i l.length ≤ 8 := by omega
  have h3 : min i l.length * (52 + 1) ≤ 8 * 53 := Nat.mul_le_mul_right _ this
  omega
theorem rmatchers_rt (l : List Mt) (hl : MsOk l) : Rt pg 14 [.sl 3 (l.map mt)] (gs (printM l)) := by
  refine Rt.of pg_ok Tryz.func14 rfl Tryz.ntmps14 rfl Tryz.results14 Tryz.call14 fun H0 S0 w0 h0 g0 => ?_
  have hl1 := hl.2
  have hll : (l.map mt).length = l.length := by simp
  refine JK.loopE (α := Nat) (β := Unit) (fun i => ⟨[(3, gs (accS l i)), (6, .sl 3 (l.map mt)), (7, gi (l.map mt).length), (8, gi i)], [], 0⟩) (fun i => i ≤ l.length) (fun i => l.length - i)
    (fun _ => ⟨[(3, gs (accS l l.length))], [], 0⟩) (fun _ => True) 0 id ?_ (Nat.zero_le _) ?_ ?_
  · exact ⟨⟨rfl, rfl, rfl, rfl, trivial⟩, trivial, rfl⟩
  · rintro i hi
    replace hi : i ≤ l.length := hi
    refine V ?_
    by_cases hlt : i < l.length
    · have hm := hl.1 l[i] (List.getElem_mem hlt)
      have h1 := ops_size hm.2.2.1 hm.2.2.2
      obtain ⟨h2, h3⟩ := mok_size hm
      have ha := accS_size hl i hi
      have hs := accS_succ hlt
      refine p1 ?_ (decide_eq_true (by rw [hll]; omega))
      refine ix (h := ?_)
      by_cases hz : i = 0
      · rw [if_pos hz, ← itemM_bs] at hs
        refine p2 ?_ (decide_eq_false (by omega))
        show JK _ _ _ _
        refine DRAW [] true (tk [0, 1, 2, 4, 5, 9, 10] ++ al [3] ++ tk [6, 7, 8, 11, 12, 13, 14]) (by kernel_rfl) ?_
        refine ⟨gs (opsL.getD l[i].op.toNat ⟨#[]⟩), hm.2.2.1, by have := hm.2.2.2; omega, ops_agg hm.2.2.1 hm.2.2.2, ?_⟩
        refine ⟨by omega, ?_⟩
        refine ⟨by simp only [app_size, sz1]; omega, ?_⟩
        refine ⟨by simp only [app_size, sz1]; omega, ?_⟩
        refine ⟨by simp only [app_size, sz1]; omega, ?_⟩
        refine ⟨by simp only [app_size, sz1]; omega, ?_⟩
        refine V ?_
        exact ⟨i + 1, id, ⟨⟨by rw [hs]; rfl, rfl, rfl, succ_gi (by omega), trivial⟩, trivial, rfl⟩, hlt, by show l.length - (i + 1) < l.length - i; omega⟩
      · rw [if_neg hz, ← itemM_bs] at hs
        refine p1 ?_ (decide_eq_true (by omega))
        refine ⟨by simp only [sz1]; omega, ?_⟩
        show JK _ _ _ _
        refine DRAW [] true (tk [0, 1, 2, 4, 5, 9, 10] ++ al [3] ++ tk [6, 7, 8, 11, 12, 13, 14]) (by kernel_rfl) ?_
        refine ⟨gs (opsL.getD l[i].op.toNat ⟨#[]⟩), hm.2.2.1, by have := hm.2.2.2; omega, ops_agg hm.2.2.1 hm.2.2.2, ?_⟩
        refine ⟨by omega, ?_⟩
        refine ⟨by simp only [app_size, sz1]; omega, ?_⟩
        refine ⟨by simp only [app_size, sz1]; omega, ?_⟩
        refine ⟨by simp only [app_size, sz1]; omega, ?_⟩
        refine ⟨by simp only [app_size, sz1]; omega, ?_⟩
        refine V ?_
        exact ⟨i + 1, id, ⟨⟨by rw [hs]; rfl, rfl, rfl, succ_gi (by omega), trivial⟩, trivial, rfl⟩, hlt, by show l.length - (i + 1) < l.length - i; omega⟩
    · refine p2 ?_ (decide_eq_false (by rw [hll]; omega))
      obtain rfl : i = l.length := by omega
      exact ⟨(), id, ⟨⟨rfl, trivial⟩, trivial, rfl⟩, trivial⟩
  · rintro _ _
    refine V ?_
    have ha := accS_size hl l.length (Nat.le_refl _)
    refine ⟨by rw [sz1]; omega, ?_⟩
    refine ⟨?_, rfl⟩
    show gs _ = gs _
    rw [printM, bytes_ms, accS, List.take_length, bS_append]
    rfl
def AtOkR (q : Qn) : Prop := ∀ least : Nat, least ≤ 2 → (bytesL (atX q least)).length ≤ 1000000 → Rt pg 9 [qG q, gi least] (gs (bS (bytesL (atX q least))))
theorem rat_1 (n : Int) (h0 : 0 ≤ n) (h1 : n < 1000000000000000000) : AtOkR (.mk 1 n [] 0 [] .nil .nil) := by
  intro least hle hb
  rw [atX_num n least hle, bytes_dL]
  refine Rt.of pg_ok Tryz.func9 rfl Tryz.ntmps9 rfl Tryz.results9 Tryz.call9 fun H0 S0 w0 h0 g0 => ?_
  repeat (first | refine p1 ?_ rfl | refine p2 ?_ rfl)
  refine GO (fmt_rt n (by omega) (by omega)) rfl ?_
  refine p2 ?_ (decide_eq_false (by omega))
  exact ⟨rfl, rfl⟩
theorem rat_2 (m : List Mt) (hm : MsOk m) : AtOkR (.mk 2 0 m 300 [] .nil .nil) := by
  intro least hle hb
  rw [atX_pick m least hle]
  refine Rt.of pg_ok Tryz.func9 rfl Tryz.ntmps9 rfl Tryz.results9 Tryz.call9 fun H0 S0 w0 h0 g0 => ?_
  repeat (first | refine p1 ?_ rfl | refine p2 ?_ rfl)
  refine GO (rmatchers_rt m hm) rfl ?_
  refine p2 ?_ (decide_eq_false (by omega))
  exact ⟨rfl, rfl⟩
theorem rat_12 (q : Qn) (hq : Wf q) (ih : AtOkR q) : AtOkR (.mk 12 0 [] 0 [] q .nil) := by
  intro least hle hb
  rw [atX_neg q least hle, bytes_neg] at hb ⊢
  rw [List.length_append] at hb
  have hi := ih 2 (by decide) (by omega)
  clear ih
  obtain ⟨c, n, m, s, b, l, r, rfl⟩ := wf_mk hq
  refine Rt.of pg_ok Tryz.func9 rfl Tryz.ntmps9 rfl Tryz.results9 Tryz.call9 fun H0 S0 w0 h0 g0 => ?_
  repeat (first | refine p1 ?_ rfl | refine p2 ?_ rfl)
  refine GO hi rfl ?_
  refine ⟨by rw [sz1, bS_size]; omega, ?_⟩
  refine p2 ?_ (decide_eq_false (by omega))
  refine ⟨?_, rfl⟩
  show gs _ = gs _
  rw [bS_append]
  rfl
theorem rat_3 (m : List Mt) (hm : MsOk m) (sp : Int) (h1 : 1 ≤ sp) (h2 : sp ≤ 1099511627776) : AtOkR (.mk 3 0 m sp [] .nil .nil) := by
  intro least hle hb
  have hx : atX (.mk 3 0 m sp [] .nil .nil) least = _ := atX_over 0 (by decide) m sp least hle
  rw [hx, bytes_over] at hb ⊢
  have hM := rmatchers_rt m hm
  have hF := fmt_rt sp (by omega) (by omega)
  have hms := ms_short hm
  have hsp : (Lib.itoa sp).length ≤ 13 := itoa_len (by omega) (by decide) (by simp; omega)
  have hsz : (printM m).size = (bytesL (msX m)).length := bS_size _
  have hsf : (bS (Lib.itoa sp)).size = (Lib.itoa sp).length := bS_size _
  have hs2 : ByteArray.size ⟨#[93, 41]⟩ = 2 := rfl
  have hwz : (bS [99, 111, 117, 110, 116]).size ≤ 5 := by decide
  refine Rt.of pg_ok Tryz.func9 rfl Tryz.ntmps9 rfl Tryz.results9 Tryz.call9 fun H0 S0 w0 h0 g0 => ?_
  repeat (first | refine p1 ?_ rfl | refine p2 ?_ rfl)
  show JK _ _ _ _
  refine JK.drawJ [] ⟨[(1, gi least), (5, gi 2), (6, gs (bS [99, 111, 117, 110, 116] ++ ⟨#[40]⟩ ++ printM m ++ ⟨#[91]⟩ ++ bS (Lib.itoa sp) ++ ⟨#[93, 41]⟩))], [], 0⟩ pg_ok ?_ (fun hk => ?_)
  · refine V ?_
    refine p2 ?_ (decide_eq_false (by omega))
    refine ⟨?_, rfl⟩
    show gs _ = gs _
    rw [bS_append, bS_append, bS_append, bS_append, bS_append, bS_bL]
    rfl
  · refine RA.run (cx := ⟨pg, _, _, _, _, _, _, _⟩) pg_ok (by kernel_rfl) (by intro _ _ h; exact h) (tk [1, 2, 3, 4, 5, 8, 9, 10, 11, 15, 16, 17, 18]) (e := false) (by kernel_rfl) ?_
    refine RA.both 0 12 (eqB_eq (by kernel_rfl)) (Stp.mem 0 pg_ok rfl rfl rfl ?_) (Stp.rt 12 hM rfl rfl rfl ?_)
    · refine RA.run (cx := ⟨pg, _, _, _, _, _, _, _⟩) pg_ok (by kernel_rfl) (by intro _ _ h; exact h) (tk [6, 7]) (e := false) (by kernel_rfl) ?_
      refine ⟨gs (bS [99, 111, 117, 110, 116]), by decide, by decide, rfl, ?_⟩
      refine ⟨by simp only [app_size, sz1, hsz, hsf, hs2]; omega, ?_⟩
      refine RGO 12 false (tk [13, 14]) hM rfl rfl (by kernel_rfl) ?_
      refine ⟨by simp only [app_size, sz1, hsz, hsf, hs2]; omega, ?_⟩
      refine ⟨by simp only [app_size, sz1, hsz, hsf, hs2]; omega, ?_⟩
      refine RGO 19 false (tk [20, 21, 22]) hF rfl rfl (by kernel_rfl) ?_
      refine ⟨by simp only [app_size, sz1, hsz, hsf, hs2]; omega, ?_⟩
      refine ⟨by simp only [app_size, sz1, hsz, hsf, hs2]; omega, ?_⟩
      exact RA.endJ id (by kernel_rfl) hk ⟨⟨rfl, rfl, rfl, trivial⟩, trivial, rfl⟩
    · refine RA.both 0 19 (eqB_eq (by kernel_rfl)) (Stp.mem 0 pg_ok rfl rfl rfl ?_) (Stp.rt 19 hF rfl rfl rfl ?_)
      · refine RA.run (cx := ⟨pg, _, _, _, _, _, _, _⟩) pg_ok (by kernel_rfl) (by intro _ _ h; exact h) (tk [6, 7, 13, 14]) (e := false) (by kernel_rfl) ?_
        refine ⟨gs (bS [99, 111, 117, 110, 116]), by decide, by decide, rfl, ?_⟩
        refine ⟨by simp only [app_size, sz1, hsz, hsf, hs2]; omega, ?_⟩
        refine ⟨by simp only [app_size, sz1, hsz, hsf, hs2]; omega, ?_⟩
        refine ⟨by simp only [app_size, sz1, hsz, hsf, hs2]; omega, ?_⟩
        refine RGO 19 false (tk [20, 21, 22]) hF rfl rfl (by kernel_rfl) ?_
        refine ⟨by simp only [app_size, sz1, hsz, hsf, hs2]; omega, ?_⟩
        refine ⟨by simp only [app_size, sz1, hsz, hsf, hs2]; omega, ?_⟩
        exact RA.endJ id (by kernel_rfl) hk ⟨⟨rfl, rfl, rfl, trivial⟩, trivial, rfl⟩
      · refine RA.run (cx := ⟨pg, _, _, _, _, _, _, _⟩) pg_ok (by kernel_rfl) (by intro _ _ h; exact h) (al [0] ++ tk [6, 7, 13, 14, 20, 21, 22]) (e := false) (by kernel_rfl) ?_
        refine ⟨gs (bS [99, 111, 117, 110, 116]), by decide, by decide, rfl, ?_⟩
        refine ⟨by simp only [app_size, sz1, hsz, hsf, hs2]; omega, ?_⟩
        refine ⟨by simp only [app_size, sz1, hsz, hsf, hs2]; omega, ?_⟩
        refine ⟨by simp only [app_size, sz1, hsz, hsf, hs2]; omega, ?_⟩
        refine ⟨by simp only [app_size, sz1, hsz, hsf, hs2]; omega, ?_⟩
        refine ⟨by simp only [app_size, sz1, hsz, hsf, hs2]; omega, ?_⟩
        exact RA.endJ id (by kernel_rfl) hk ⟨⟨rfl, rfl, rfl, trivial⟩, trivial, rfl⟩
theorem rat_4 (m : List Mt) (hm : MsOk m) (sp : Int) (h1 : 1 ≤ sp) (h2 : sp ≤ 1099511627776) : AtOkR (.mk 4 0 m sp [] .nil .nil) := by
  intro least hle hb
  have hx : atX (.mk 4 0 m sp [] .nil .nil) least = _ := atX_over 1 (by decide) m sp least hle
  rw [hx, bytes_over] at hb ⊢
  have hM := rmatchers_rt m hm
  have hF := fmt_rt sp (by omega) (by omega)
  have hms := ms_short hm
  have hsp : (Lib.itoa sp).length ≤ 13 := itoa_len (by omega) (by decide) (by simp; omega)
  have hsz : (printM m).size = (bytesL (msX m)).length := bS_size _
  have hsf : (bS (Lib.itoa sp)).size = (Lib.itoa sp).length := bS_size _
  have hs2 : ByteArray.size ⟨#[93, 41]⟩ = 2 := rfl
  have hwz : (bS [115, 117, 109]).size ≤ 5 := by decide
  refine Rt.of pg_ok Tryz.func9 rfl Tryz.ntmps9 rfl Tryz.results9 Tryz.call9 fun H0 S0 w0 h0 g0 => ?_
  repeat (first | refine p1 ?_ rfl | refine p2 ?_ rfl)
  show JK _ _ _ _
  refine JK.drawJ [] ⟨[(1, gi least), (5, gi 2), (6, gs (bS [115, 117, 109] ++ ⟨#[40]⟩ ++ printM m ++ ⟨#[91]⟩ ++ bS (Lib.itoa sp) ++ ⟨#[93, 41]⟩))], [], 0⟩ pg_ok ?_ (fun hk => ?_)
  · refine V ?_
    refine p2 ?_ (decide_eq_false (by omega))
    refine ⟨?_, rfl⟩
    show gs _ = gs _
    rw [bS_append, bS_append, bS_append, bS_append, bS_append, bS_bL]
    rfl
  · refine RA.run (cx := ⟨pg, _, _, _, _, _, _, _⟩) pg_ok (by kernel_rfl) (by intro _ _ h; exact h) (tk [1, 2, 3, 4, 5, 8, 9, 10, 11, 15, 16, 17, 18]) (e := false) (by kernel_rfl) ?_
    refine RA.both 0 12 (eqB_eq (by kernel_rfl)) (Stp.mem 0 pg_ok rfl rfl rfl ?_) (Stp.rt 12 hM rfl rfl rfl ?_)
    · refine RA.run (cx := ⟨pg, _, _, _, _, _, _, _⟩) pg_ok (by kernel_rfl) (by intro _ _ h; exact h) (tk [6, 7]) (e := false) (by kernel_rfl) ?_
      refine ⟨gs (bS [115, 117, 109]), by decide, by decide, rfl, ?_⟩
      refine ⟨by simp only [app_size, sz1, hsz, hsf, hs2]; omega, ?_⟩
      refine RGO 12 false (tk [13, 14]) hM rfl rfl (by kernel_rfl) ?_
      refine ⟨by simp only [app_size, sz1, hsz, hsf, hs2]; omega, ?_⟩
      refine ⟨by simp only [app_size, sz1, hsz, hsf, hs2]; omega, ?_⟩
      refine RGO 19 false (tk [20, 21, 22]) hF rfl rfl (by kernel_rfl) ?_
      refine ⟨by simp only [app_size, sz1, hsz, hsf, hs2]; omega, ?_⟩
      refine ⟨by simp only [app_size, sz1, hsz, hsf, hs2]; omega, ?_⟩
      exact RA.endJ id (by kernel_rfl) hk ⟨⟨rfl, rfl, rfl, trivial⟩, trivial, rfl⟩
    · refine RA.both 0 19 (eqB_eq (by kernel_rfl)) (Stp.mem 0 pg_ok rfl rfl rfl ?_) (Stp.rt 19 hF rfl rfl rfl ?_)
      · refine RA.run (cx := ⟨pg, _, _, _, _, _, _, _⟩) pg_ok (by kernel_rfl) (by intro _ _ h; exact h) (tk [6, 7, 13, 14]) (e := false) (by kernel_rfl) ?_
        refine ⟨gs (bS [115, 117, 109]), by decide, by decide, rfl, ?_⟩
        refine ⟨by simp only [app_size, sz1, hsz, hsf, hs2]; omega, ?_⟩
        refine ⟨by simp only [app_size, sz1, hsz, hsf, hs2]; omega, ?_⟩
        refine ⟨by simp only [app_size, sz1, hsz, hsf, hs2]; omega, ?_⟩
        refine RGO 19 false (tk [20, 21, 22]) hF rfl rfl (by kernel_rfl) ?_
        refine ⟨by simp only [app_size, sz1, hsz, hsf, hs2]; omega, ?_⟩
        refine ⟨by simp only [app_size, sz1, hsz, hsf, hs2]; omega, ?_⟩
        exact RA.endJ id (by kernel_rfl) hk ⟨⟨rfl, rfl, rfl, trivial⟩, trivial, rfl⟩
      · refine RA.run (cx := ⟨pg, _, _, _, _, _, _, _⟩) pg_ok (by kernel_rfl) (by intro _ _ h; exact h) (al [0] ++ tk [6, 7, 13, 14, 20, 21, 22]) (e := false) (by kernel_rfl) ?_
        refine ⟨gs (bS [115, 117, 109]), by decide, by decide, rfl, ?_⟩
        refine ⟨by simp only [app_size, sz1, hsz, hsf, hs2]; omega, ?_⟩
        refine ⟨by simp only [app_size, sz1, hsz, hsf, hs2]; omega, ?_⟩
        refine ⟨by simp only [app_size, sz1, hsz, hsf, hs2]; omega, ?_⟩
        refine ⟨by simp only [app_size, sz1, hsz, hsf, hs2]; omega, ?_⟩
        refine ⟨by simp only [app_size, sz1, hsz, hsf, hs2]; omega, ?_⟩
        exact RA.endJ id (by kernel_rfl) hk ⟨⟨rfl, rfl, rfl, trivial⟩, trivial, rfl⟩
theorem rat_5 (m : List Mt) (hm : MsOk m) (sp : Int) (h1 : 1 ≤ sp) (h2 : sp ≤ 1099511627776) : AtOkR (.mk 5 0 m sp [] .nil .nil) := by
  intro least hle hb
  have hx : atX (.mk 5 0 m sp [] .nil .nil) least = _ := atX_over 2 (by decide) m sp least hle
  rw [hx, bytes_over] at hb ⊢
  have hM := rmatchers_rt m hm
  have hF := fmt_rt sp (by omega) (by omega)
  have hms := ms_short hm
  have hsp : (Lib.itoa sp).length ≤ 13 := itoa_len (by omega) (by decide) (by simp; omega)
  have hsz : (printM m).size = (bytesL (msX m)).length := bS_size _
  have hsf : (bS (Lib.itoa sp)).size = (Lib.itoa sp).length := bS_size _
  have hs2 : ByteArray.size ⟨#[93, 41]⟩ = 2 := rfl
  have hwz : (bS [109, 105, 110]).size ≤ 5 := by decide
  refine Rt.of pg_ok Tryz.func9 rfl Tryz.ntmps9 rfl Tryz.results9 Tryz.call9 fun H0 S0 w0 h0 g0 => ?_
  repeat (first | refine p1 ?_ rfl | refine p2 ?_ rfl)
  show JK _ _ _ _
  refine JK.drawJ [] ⟨[(1, gi least), (5, gi 2), (6, gs (bS [109, 105, 110] ++ ⟨#[40]⟩ ++ printM m ++ ⟨#[91]⟩ ++ bS (Lib.itoa sp) ++ ⟨#[93, 41]⟩))], [], 0⟩ pg_ok ?_ (fun hk => ?_)
  · refine V ?_
    refine p2 ?_ (decide_eq_false (by omega))
    refine ⟨?_, rfl⟩
    show gs _ = gs _
    rw [bS_append, bS_append, bS_append, bS_append, bS_append, bS_bL]
    rfl
  · refine RA.run (cx := ⟨pg, _, _, _, _, _, _, _⟩) pg_ok (by kernel_rfl) (by intro _ _ h; exact h) (tk [1, 2, 3, 4, 5, 8, 9, 10, 11, 15, 16, 17, 18]) (e := false) (by kernel_rfl) ?_
    refine RA.both 0 12 (eqB_eq (by kernel_rfl)) (Stp.mem 0 pg_ok rfl rfl rfl ?_) (Stp.rt 12 hM rfl rfl rfl ?_)
    · refine RA.run (cx := ⟨pg, _, _, _, _, _, _, _⟩) pg_ok (by kernel_rfl) (by intro _ _ h; exact h) (tk [6, 7]) (e := false) (by kernel_rfl) ?_
      refine ⟨gs (bS [109, 105, 110]), by decide, by decide, rfl, ?_⟩
      refine ⟨by simp only [app_size, sz1, hsz, hsf, hs2]; omega, ?_⟩
      refine RGO 12 false (tk [13, 14]) hM rfl rfl (by kernel_rfl) ?_
      refine ⟨by simp only [app_size, sz1, hsz, hsf, hs2]; omega, ?_⟩
      refine ⟨by simp only [app_size, sz1, hsz, hsf, hs2]; omega, ?_⟩
      refine RGO 19 false (tk [20, 21, 22]) hF rfl rfl (by kernel_rfl) ?_
      refine ⟨by simp only [app_size, sz1, hsz, hsf, hs2]; omega, ?_⟩
      refine ⟨by simp only [app_size, sz1, hsz, hsf, hs2]; omega, ?_⟩
      exact RA.endJ id (by kernel_rfl) hk ⟨⟨rfl, rfl, rfl, trivial⟩, trivial, rfl⟩
    · refine RA.both 0 19 (eqB_eq (by kernel_rfl)) (Stp.mem 0 pg_ok rfl rfl rfl ?_) (Stp.rt 19 hF rfl rfl rfl ?_)
      · refine RA.run (cx := ⟨pg, _, _, _, _, _, _, _⟩) pg_ok (by kernel_rfl) (by intro _ _ h; exact h) (tk [6, 7, 13, 14]) (e := false) (by kernel_rfl) ?_
        refine ⟨gs (bS [109, 105, 110]), by decide, by decide, rfl, ?_⟩
        refine ⟨by simp only [app_size, sz1, hsz, hsf, hs2]; omega, ?_⟩
        refine ⟨by simp only [app_size, sz1, hsz, hsf, hs2]; omega, ?_⟩
        refine ⟨by simp only [app_size, sz1, hsz, hsf, hs2]; omega, ?_⟩
        refine RGO 19 false (tk [20, 21, 22]) hF rfl rfl (by kernel_rfl) ?_
        refine ⟨by simp only [app_size, sz1, hsz, hsf, hs2]; omega, ?_⟩
        refine ⟨by simp only [app_size, sz1, hsz, hsf, hs2]; omega, ?_⟩
        exact RA.endJ id (by kernel_rfl) hk ⟨⟨rfl, rfl, rfl, trivial⟩, trivial, rfl⟩
      · refine RA.run (cx := ⟨pg, _, _, _, _, _, _, _⟩) pg_ok (by kernel_rfl) (by intro _ _ h; exact h) (al [0] ++ tk [6, 7, 13, 14, 20, 21, 22]) (e := false) (by kernel_rfl) ?_
        refine ⟨gs (bS [109, 105, 110]), by decide, by decide, rfl, ?_⟩
        refine ⟨by simp only [app_size, sz1, hsz, hsf, hs2]; omega, ?_⟩
        refine ⟨by simp only [app_size, sz1, hsz, hsf, hs2]; omega, ?_⟩
        refine ⟨by simp only [app_size, sz1, hsz, hsf, hs2]; omega, ?_⟩
        refine ⟨by simp only [app_size, sz1, hsz, hsf, hs2]; omega, ?_⟩
        refine ⟨by simp only [app_size, sz1, hsz, hsf, hs2]; omega, ?_⟩
        exact RA.endJ id (by kernel_rfl) hk ⟨⟨rfl, rfl, rfl, trivial⟩, trivial, rfl⟩
theorem rat_6 (m : List Mt) (hm : MsOk m) (sp : Int) (h1 : 1 ≤ sp) (h2 : sp ≤ 1099511627776) : AtOkR (.mk 6 0 m sp [] .nil .nil) := by
  intro least hle hb
  have hx : atX (.mk 6 0 m sp [] .nil .nil) least = _ := atX_over 3 (by decide) m sp least hle
  rw [hx, bytes_over] at hb ⊢
  have hM := rmatchers_rt m hm
  have hF := fmt_rt sp (by omega) (by omega)
  have hms := ms_short hm
  have hsp : (Lib.itoa sp).length ≤ 13 := itoa_len (by omega) (by decide) (by simp; omega)
  have hsz : (printM m).size = (bytesL (msX m)).length := bS_size _
  have hsf : (bS (Lib.itoa sp)).size = (Lib.itoa sp).length := bS_size _
  have hs2 : ByteArray.size ⟨#[93, 41]⟩ = 2 := rfl
  have hwz : (bS [109, 97, 120]).size ≤ 5 := by decide
  refine Rt.of pg_ok Tryz.func9 rfl Tryz.ntmps9 rfl Tryz.results9 Tryz.call9 fun H0 S0 w0 h0 g0 => ?_
  repeat (first | refine p1 ?_ rfl | refine p2 ?_ rfl)
  show JK _ _ _ _
  refine JK.drawJ [] ⟨[(1, gi least), (5, gi 2), (6, gs (bS [109, 97, 120] ++ ⟨#[40]⟩ ++ printM m ++ ⟨#[91]⟩ ++ bS (Lib.itoa sp) ++ ⟨#[93, 41]⟩))], [], 0⟩ pg_ok ?_ (fun hk => ?_)
  · refine V ?_
    refine p2 ?_ (decide_eq_false (by omega))
    refine ⟨?_, rfl⟩
    show gs _ = gs _
    rw [bS_append, bS_append, bS_append, bS_append, bS_append, bS_bL]
    rfl
  · refine RA.run (cx := ⟨pg, _, _, _, _, _, _, _⟩) pg_ok (by kernel_rfl) (by intro _ _ h; exact h) (tk [1, 2, 3, 4, 5, 8, 9, 10, 11, 15, 16, 17, 18]) (e := false) (by kernel_rfl) ?_
    refine RA.both 0 12 (eqB_eq (by kernel_rfl)) (Stp.mem 0 pg_ok rfl rfl rfl ?_) (Stp.rt 12 hM rfl rfl rfl ?_)
    · refine RA.run (cx := ⟨pg, _, _, _, _, _, _, _⟩) pg_ok (by kernel_rfl) (by intro _ _ h; exact h) (tk [6, 7]) (e := false) (by kernel_rfl) ?_
      refine ⟨gs (bS [109, 97, 120]), by decide, by decide, rfl, ?_⟩
      refine ⟨by simp only [app_size, sz1, hsz, hsf, hs2]; omega, ?_⟩
      refine RGO 12 false (tk [13, 14]) hM rfl rfl (by kernel_rfl) ?_
      refine ⟨by simp only [app_size, sz1, hsz, hsf, hs2]; omega, ?_⟩
      refine ⟨by simp only [app_size, sz1, hsz, hsf, hs2]; omega, ?_⟩
      refine RGO 19 false (tk [20, 21, 22]) hF rfl rfl (by kernel_rfl) ?_
      refine ⟨by simp only [app_size, sz1, hsz, hsf, hs2]; omega, ?_⟩
      refine ⟨by simp only [app_size, sz1, hsz, hsf, hs2]; omega, ?_⟩
      exact RA.endJ id (by kernel_rfl) hk ⟨⟨rfl, rfl, rfl, trivial⟩, trivial, rfl⟩
    · refine RA.both 0 19 (eqB_eq (by kernel_rfl)) (Stp.mem 0 pg_ok rfl rfl rfl ?_) (Stp.rt 19 hF rfl rfl rfl ?_)
      · refine RA.run (cx := ⟨pg, _, _, _, _, _, _, _⟩) pg_ok (by kernel_rfl) (by intro _ _ h; exact h) (tk [6, 7, 13, 14]) (e := false) (by kernel_rfl) ?_
        refine ⟨gs (bS [109, 97, 120]), by decide, by decide, rfl, ?_⟩
        refine ⟨by simp only [app_size, sz1, hsz, hsf, hs2]; omega, ?_⟩
        refine ⟨by simp only [app_size, sz1, hsz, hsf, hs2]; omega, ?_⟩
        refine ⟨by simp only [app_size, sz1, hsz, hsf, hs2]; omega, ?_⟩
        refine RGO 19 false (tk [20, 21, 22]) hF rfl rfl (by kernel_rfl) ?_
        refine ⟨by simp only [app_size, sz1, hsz, hsf, hs2]; omega, ?_⟩
        refine ⟨by simp only [app_size, sz1, hsz, hsf, hs2]; omega, ?_⟩
        exact RA.endJ id (by kernel_rfl) hk ⟨⟨rfl, rfl, rfl, trivial⟩, trivial, rfl⟩
      · refine RA.run (cx := ⟨pg, _, _, _, _, _, _, _⟩) pg_ok (by kernel_rfl) (by intro _ _ h; exact h) (al [0] ++ tk [6, 7, 13, 14, 20, 21, 22]) (e := false) (by kernel_rfl) ?_
        refine ⟨gs (bS [109, 97, 120]), by decide, by decide, rfl, ?_⟩
        refine ⟨by simp only [app_size, sz1, hsz, hsf, hs2]; omega, ?_⟩
        refine ⟨by simp only [app_size, sz1, hsz, hsf, hs2]; omega, ?_⟩
        refine ⟨by simp only [app_size, sz1, hsz, hsf, hs2]; omega, ?_⟩
        refine ⟨by simp only [app_size, sz1, hsz, hsf, hs2]; omega, ?_⟩
        refine ⟨by simp only [app_size, sz1, hsz, hsf, hs2]; omega, ?_⟩
        exact RA.endJ id (by kernel_rfl) hk ⟨⟨rfl, rfl, rfl, trivial⟩, trivial, rfl⟩
theorem rat_7 (m : List Mt) (hm : MsOk m) (sp : Int) (h1 : 1 ≤ sp) (h2 : sp ≤ 1099511627776) : AtOkR (.mk 7 0 m sp [] .nil .nil) := by
  intro least hle hb
  have hx : atX (.mk 7 0 m sp [] .nil .nil) least = _ := atX_over 4 (by decide) m sp least hle
  rw [hx, bytes_over] at hb ⊢
  have hM := rmatchers_rt m hm
  have hF := fmt_rt sp (by omega) (by omega)
  have hms := ms_short hm
  have hsp : (Lib.itoa sp).length ≤ 13 := itoa_len (by omega) (by decide) (by simp; omega)
  have hsz : (printM m).size = (bytesL (msX m)).length := bS_size _
  have hsf : (bS (Lib.itoa sp)).size = (Lib.itoa sp).length := bS_size _
  have hs2 : ByteArray.size ⟨#[93, 41]⟩ = 2 := rfl
  have hwz : (bS [100, 101, 108, 116, 97]).size ≤ 5 := by decide
  refine Rt.of pg_ok Tryz.func9 rfl Tryz.ntmps9 rfl Tryz.results9 Tryz.call9 fun H0 S0 w0 h0 g0 => ?_
  repeat (first | refine p1 ?_ rfl | refine p2 ?_ rfl)
  show JK _ _ _ _
  refine JK.drawJ [] ⟨[(1, gi least), (5, gi 2), (6, gs (bS [100, 101, 108, 116, 97] ++ ⟨#[40]⟩ ++ printM m ++ ⟨#[91]⟩ ++ bS (Lib.itoa sp) ++ ⟨#[93, 41]⟩))], [], 0⟩ pg_ok ?_ (fun hk => ?_)
  · refine V ?_
    refine p2 ?_ (decide_eq_false (by omega))
    refine ⟨?_, rfl⟩
    show gs _ = gs _
    rw [bS_append, bS_append, bS_append, bS_append, bS_append, bS_bL]
    rfl
  · refine RA.run (cx := ⟨pg, _, _, _, _, _, _, _⟩) pg_ok (by kernel_rfl) (by intro _ _ h; exact h) (tk [1, 2, 3, 4, 5, 8, 9, 10, 11, 15, 16, 17, 18]) (e := false) (by kernel_rfl) ?_
    refine RA.both 0 12 (eqB_eq (by kernel_rfl)) (Stp.mem 0 pg_ok rfl rfl rfl ?_) (Stp.rt 12 hM rfl rfl rfl ?_)
    · refine RA.run (cx := ⟨pg, _, _, _, _, _, _, _⟩) pg_ok (by kernel_rfl) (by intro _ _ h; exact h) (tk [6, 7]) (e := false) (by kernel_rfl) ?_
      refine ⟨gs (bS [100, 101, 108, 116, 97]), by decide, by decide, rfl, ?_⟩
      refine ⟨by simp only [app_size, sz1, hsz, hsf, hs2]; omega, ?_⟩
      refine RGO 12 false (tk [13, 14]) hM rfl rfl (by kernel_rfl) ?_
      refine ⟨by simp only [app_size, sz1, hsz, hsf, hs2]; omega, ?_⟩
      refine ⟨by simp only [app_size, sz1, hsz, hsf, hs2]; omega, ?_⟩
      refine RGO 19 false (tk [20, 21, 22]) hF rfl rfl (by kernel_rfl) ?_
      refine ⟨by simp only [app_size, sz1, hsz, hsf, hs2]; omega, ?_⟩
      refine ⟨by simp only [app_size, sz1, hsz, hsf, hs2]; omega, ?_⟩
      exact RA.endJ id (by kernel_rfl) hk ⟨⟨rfl, rfl, rfl, trivial⟩, trivial, rfl⟩
    · refine RA.both 0 19 (eqB_eq (by kernel_rfl)) (Stp.mem 0 pg_ok rfl rfl rfl ?_) (Stp.rt 19 hF rfl rfl rfl ?_)
      · refine RA.run (cx := ⟨pg, _, _, _, _, _, _, _⟩) pg_ok (by kernel_rfl) (by intro _ _ h; exact h) (tk [6, 7, 13, 14]) (e := false) (by kernel_rfl) ?_
        refine ⟨gs (bS [100, 101, 108, 116, 97]), by decide, by decide, rfl, ?_⟩
        refine ⟨by simp only [app_size, sz1, hsz, hsf, hs2]; omega, ?_⟩
        refine ⟨by simp only [app_size, sz1, hsz, hsf, hs2]; omega, ?_⟩
        refine ⟨by simp only [app_size, sz1, hsz, hsf, hs2]; omega, ?_⟩
        refine RGO 19 false (tk [20, 21, 22]) hF rfl rfl (by kernel_rfl) ?_
        refine ⟨by simp only [app_size, sz1, hsz, hsf, hs2]; omega, ?_⟩
        refine ⟨by simp only [app_size, sz1, hsz, hsf, hs2]; omega, ?_⟩
        exact RA.endJ id (by kernel_rfl) hk ⟨⟨rfl, rfl, rfl, trivial⟩, trivial, rfl⟩
      · refine RA.run (cx := ⟨pg, _, _, _, _, _, _, _⟩) pg_ok (by kernel_rfl) (by intro _ _ h; exact h) (al [0] ++ tk [6, 7, 13, 14, 20, 21, 22]) (e := false) (by kernel_rfl) ?_
        refine ⟨gs (bS [100, 101, 108, 116, 97]), by decide, by decide, rfl, ?_⟩
        refine ⟨by simp only [app_size, sz1, hsz, hsf, hs2]; omega, ?_⟩
        refine ⟨by simp only [app_size, sz1, hsz, hsf, hs2]; omega, ?_⟩
        refine ⟨by simp only [app_size, sz1, hsz, hsf, hs2]; omega, ?_⟩
        refine ⟨by simp only [app_size, sz1, hsz, hsf, hs2]; omega, ?_⟩
        refine ⟨by simp only [app_size, sz1, hsz, hsf, hs2]; omega, ?_⟩
        exact RA.endJ id (by kernel_rfl) hk ⟨⟨rfl, rfl, rfl, trivial⟩, trivial, rfl⟩
theorem rat_8 (b : List ByteArray) (hl8 : b.length ≤ 8) (q : Qn) (hq : Wf q) (ih : AtOkR q) : AtOkR (.mk 8 0 [] 0 b q .nil) := by
  intro least hle hb
  have hx : atX (.mk 8 0 [] 0 b q .nil) least = _ := atX_all 0 (by decide) b q least hle
  rw [hx] at hb ⊢
  have hqb : (bytesL (atX q 0)).length ≤ 1000000 := by
    rw [bytesL_cons, bytesL_append, bytes_par] at hb
    simp only [List.length_append] at hb
    omega
  have hi := ih 0 (by decide) hqb
  clear ih
  generalize hB : bS (bytesL (atX q 0)) = B at hi
  have hsz : B.size = (bytesL (atX q 0)).length := by rw [← hB, bS_size]
  have hwz : (bS [116, 111, 116, 97, 108]).size ≤ 5 := by decide
  obtain ⟨c, n, m, s, bb, l, r, rfl⟩ := wf_mk hq
  refine Rt.of pg_ok Tryz.func9 rfl Tryz.ntmps9 rfl Tryz.results9 Tryz.call9 fun H0 S0 w0 h0 g0 => ?_
  repeat (first | refine p1 ?_ rfl | refine p2 ?_ rfl)
  show JK _ _ _ _
  refine JK.drawJ [] ⟨[(0, qG (.mk 8 0 [] 0 b (.mk c n m s bb l r) .nil)), (1, gi least), (5, gi 2), (6, gs (bS [116, 111, 116, 97, 108] ++ ⟨#[40]⟩ ++ B ++ ⟨#[41]⟩))], [], 0⟩ pg_ok ?_ (fun hk => ?_)
  · refine V ?_
    cases b with
    | nil =>
      refine p2 ?_ rfl
      refine p2 ?_ (decide_eq_false (by omega))
      refine ⟨?_, rfl⟩
      show gs _ = gs _
      rw [show bysX [] = [] from rfl, bytes_all, bS_append, bS_append, bS_append, bS_bL, hB]
      rfl
    | cons s0 b =>
      rw [bytes_allby] at hb ⊢
      refine p1 ?_ (by simp)
      simp only [List.length_append, List.length_cons, List.length_nil] at hb hl8
      refine GO (join_rt (s0 :: b) ⟨#[44, 32]⟩ (by rw [show (ByteArray.mk #[44, 32]).data.toList = [44, 32] from rfl, join_by]; omega) (by simp; omega)) rfl ?_
      rw [show (ByteArray.mk #[44, 32]).data.toList = [44, 32] from rfl, join_by]
      have s5 : ByteArray.size ⟨#[32, 98, 121, 32, 40]⟩ = 5 := rfl
      refine ⟨by rw [bs_size, s5]; omega, ?_⟩
      refine ⟨by rw [app_size, bs_size, s5, sz1]; omega, ?_⟩
      refine ⟨by simp only [app_size, bs_size, s5, sz1, hsz]; omega, ?_⟩
      refine p2 ?_ (decide_eq_false (by omega))
      refine ⟨?_, rfl⟩
      show gs _ = gs _
      rw [bS_append, bS_append, bS_append, bS_append, bS_append, bS_append, bS_bL, hB]
      rfl
  · refine RA.run (cx := ⟨pg, _, _, _, _, _, _, _⟩) pg_ok (by kernel_rfl) (by intro _ _ h; exact h) (tk [1, 2, 3, 4, 5, 8, 9, 10, 11]) (e := false) (by kernel_rfl) ?_
    refine RA.both 0 12 (eqB_eq (by kernel_rfl)) (Stp.mem 0 pg_ok rfl rfl rfl ?_) (Stp.rt 12 hi rfl rfl rfl ?_)
    · refine RA.run (cx := ⟨pg, _, _, _, _, _, _, _⟩) pg_ok (by kernel_rfl) (by intro _ _ h; exact h) (tk [6, 7]) (e := false) (by kernel_rfl) ?_
      refine ⟨gs (bS [116, 111, 116, 97, 108]), by decide, by decide, rfl, ?_⟩
      refine ⟨by simp only [app_size, sz1, hsz]; omega, ?_⟩
      refine RGO 12 false (tk [13, 14, 15]) hi rfl rfl (by kernel_rfl) ?_
      refine ⟨by simp only [app_size, sz1, hsz]; omega, ?_⟩
      refine ⟨by simp only [app_size, sz1, hsz]; omega, ?_⟩
      exact RA.endJ id (by kernel_rfl) hk ⟨⟨rfl, rfl, rfl, rfl, trivial⟩, trivial, rfl⟩
    · refine RA.run (cx := ⟨pg, _, _, _, _, _, _, _⟩) pg_ok (by kernel_rfl) (by intro _ _ h; exact h) (al [0] ++ tk [6, 7, 13, 14, 15]) (e := false) (by kernel_rfl) ?_
      refine ⟨gs (bS [116, 111, 116, 97, 108]), by decide, by decide, rfl, ?_⟩
      refine ⟨by simp only [app_size, sz1, hsz]; omega, ?_⟩
      refine ⟨by simp only [app_size, sz1, hsz]; omega, ?_⟩
      refine ⟨by simp only [app_size, sz1, hsz]; omega, ?_⟩
      exact RA.endJ id (by kernel_rfl) hk ⟨⟨rfl, rfl, rfl, rfl, trivial⟩, trivial, rfl⟩
theorem rat_9 (b : List ByteArray) (hl8 : b.length ≤ 8) (q : Qn) (hq : Wf q) (ih : AtOkR q) : AtOkR (.mk 9 0 [] 0 b q .nil) := by
  intro least hle hb
  have hx : atX (.mk 9 0 [] 0 b q .nil) least = _ := atX_all 1 (by decide) b q least hle
  rw [hx] at hb ⊢
  have hqb : (bytesL (atX q 0)).length ≤ 1000000 := by
    rw [bytesL_cons, bytesL_append, bytes_par] at hb
    simp only [List.length_append] at hb
    omega
  have hi := ih 0 (by decide) hqb
  clear ih
  generalize hB : bS (bytesL (atX q 0)) = B at hi
  have hsz : B.size = (bytesL (atX q 0)).length := by rw [← hB, bS_size]
  have hwz : (bS [108, 101, 97, 115, 116]).size ≤ 5 := by decide
  obtain ⟨c, n, m, s, bb, l, r, rfl⟩ := wf_mk hq
  refine Rt.of pg_ok Tryz.func9 rfl Tryz.ntmps9 rfl Tryz.results9 Tryz.call9 fun H0 S0 w0 h0 g0 => ?_
  repeat (first | refine p1 ?_ rfl | refine p2 ?_ rfl)
  show JK _ _ _ _
  refine JK.drawJ [] ⟨[(0, qG (.mk 9 0 [] 0 b (.mk c n m s bb l r) .nil)), (1, gi least), (5, gi 2), (6, gs (bS [108, 101, 97, 115, 116] ++ ⟨#[40]⟩ ++ B ++ ⟨#[41]⟩))], [], 0⟩ pg_ok ?_ (fun hk => ?_)
  · refine V ?_
    cases b with
    | nil =>
      refine p2 ?_ rfl
      refine p2 ?_ (decide_eq_false (by omega))
      refine ⟨?_, rfl⟩
      show gs _ = gs _
      rw [show bysX [] = [] from rfl, bytes_all, bS_append, bS_append, bS_append, bS_bL, hB]
      rfl
    | cons s0 b =>
      rw [bytes_allby] at hb ⊢
      refine p1 ?_ (by simp)
      simp only [List.length_append, List.length_cons, List.length_nil] at hb hl8
      refine GO (join_rt (s0 :: b) ⟨#[44, 32]⟩ (by rw [show (ByteArray.mk #[44, 32]).data.toList = [44, 32] from rfl, join_by]; omega) (by simp; omega)) rfl ?_
      rw [show (ByteArray.mk #[44, 32]).data.toList = [44, 32] from rfl, join_by]
      have s5 : ByteArray.size ⟨#[32, 98, 121, 32, 40]⟩ = 5 := rfl
      refine ⟨by rw [bs_size, s5]; omega, ?_⟩
      refine ⟨by rw [app_size, bs_size, s5, sz1]; omega, ?_⟩
      refine ⟨by simp only [app_size, bs_size, s5, sz1, hsz]; omega, ?_⟩
      refine p2 ?_ (decide_eq_false (by omega))
      refine ⟨?_, rfl⟩
      show gs _ = gs _
      rw [bS_append, bS_append, bS_append, bS_append, bS_append, bS_append, bS_bL, hB]
      rfl
  · refine RA.run (cx := ⟨pg, _, _, _, _, _, _, _⟩) pg_ok (by kernel_rfl) (by intro _ _ h; exact h) (tk [1, 2, 3, 4, 5, 8, 9, 10, 11]) (e := false) (by kernel_rfl) ?_
    refine RA.both 0 12 (eqB_eq (by kernel_rfl)) (Stp.mem 0 pg_ok rfl rfl rfl ?_) (Stp.rt 12 hi rfl rfl rfl ?_)
    · refine RA.run (cx := ⟨pg, _, _, _, _, _, _, _⟩) pg_ok (by kernel_rfl) (by intro _ _ h; exact h) (tk [6, 7]) (e := false) (by kernel_rfl) ?_
      refine ⟨gs (bS [108, 101, 97, 115, 116]), by decide, by decide, rfl, ?_⟩
      refine ⟨by simp only [app_size, sz1, hsz]; omega, ?_⟩
      refine RGO 12 false (tk [13, 14, 15]) hi rfl rfl (by kernel_rfl) ?_
      refine ⟨by simp only [app_size, sz1, hsz]; omega, ?_⟩
      refine ⟨by simp only [app_size, sz1, hsz]; omega, ?_⟩
      exact RA.endJ id (by kernel_rfl) hk ⟨⟨rfl, rfl, rfl, rfl, trivial⟩, trivial, rfl⟩
    · refine RA.run (cx := ⟨pg, _, _, _, _, _, _, _⟩) pg_ok (by kernel_rfl) (by intro _ _ h; exact h) (al [0] ++ tk [6, 7, 13, 14, 15]) (e := false) (by kernel_rfl) ?_
      refine ⟨gs (bS [108, 101, 97, 115, 116]), by decide, by decide, rfl, ?_⟩
      refine ⟨by simp only [app_size, sz1, hsz]; omega, ?_⟩
      refine ⟨by simp only [app_size, sz1, hsz]; omega, ?_⟩
      refine ⟨by simp only [app_size, sz1, hsz]; omega, ?_⟩
      exact RA.endJ id (by kernel_rfl) hk ⟨⟨rfl, rfl, rfl, rfl, trivial⟩, trivial, rfl⟩
theorem rat_10 (b : List ByteArray) (hl8 : b.length ≤ 8) (q : Qn) (hq : Wf q) (ih : AtOkR q) : AtOkR (.mk 10 0 [] 0 b q .nil) := by
  intro least hle hb
  have hx : atX (.mk 10 0 [] 0 b q .nil) least = _ := atX_all 2 (by decide) b q least hle
  rw [hx] at hb ⊢
  have hqb : (bytesL (atX q 0)).length ≤ 1000000 := by
    rw [bytesL_cons, bytesL_append, bytes_par] at hb
    simp only [List.length_append] at hb
    omega
  have hi := ih 0 (by decide) hqb
  clear ih
  generalize hB : bS (bytesL (atX q 0)) = B at hi
  have hsz : B.size = (bytesL (atX q 0)).length := by rw [← hB, bS_size]
  have hwz : (bS [109, 111, 115, 116]).size ≤ 5 := by decide
  obtain ⟨c, n, m, s, bb, l, r, rfl⟩ := wf_mk hq
  refine Rt.of pg_ok Tryz.func9 rfl Tryz.ntmps9 rfl Tryz.results9 Tryz.call9 fun H0 S0 w0 h0 g0 => ?_
  repeat (first | refine p1 ?_ rfl | refine p2 ?_ rfl)
  show JK _ _ _ _
  refine JK.drawJ [] ⟨[(0, qG (.mk 10 0 [] 0 b (.mk c n m s bb l r) .nil)), (1, gi least), (5, gi 2), (6, gs (bS [109, 111, 115, 116] ++ ⟨#[40]⟩ ++ B ++ ⟨#[41]⟩))], [], 0⟩ pg_ok ?_ (fun hk => ?_)
  · refine V ?_
    cases b with
    | nil =>
      refine p2 ?_ rfl
      refine p2 ?_ (decide_eq_false (by omega))
      refine ⟨?_, rfl⟩
      show gs _ = gs _
      rw [show bysX [] = [] from rfl, bytes_all, bS_append, bS_append, bS_append, bS_bL, hB]
      rfl
    | cons s0 b =>
      rw [bytes_allby] at hb ⊢
      refine p1 ?_ (by simp)
      simp only [List.length_append, List.length_cons, List.length_nil] at hb hl8
      refine GO (join_rt (s0 :: b) ⟨#[44, 32]⟩ (by rw [show (ByteArray.mk #[44, 32]).data.toList = [44, 32] from rfl, join_by]; omega) (by simp; omega)) rfl ?_
      rw [show (ByteArray.mk #[44, 32]).data.toList = [44, 32] from rfl, join_by]
      have s5 : ByteArray.size ⟨#[32, 98, 121, 32, 40]⟩ = 5 := rfl
      refine ⟨by rw [bs_size, s5]; omega, ?_⟩
      refine ⟨by rw [app_size, bs_size, s5, sz1]; omega, ?_⟩
      refine ⟨by simp only [app_size, bs_size, s5, sz1, hsz]; omega, ?_⟩
      refine p2 ?_ (decide_eq_false (by omega))
      refine ⟨?_, rfl⟩
      show gs _ = gs _
      rw [bS_append, bS_append, bS_append, bS_append, bS_append, bS_append, bS_bL, hB]
      rfl
  · refine RA.run (cx := ⟨pg, _, _, _, _, _, _, _⟩) pg_ok (by kernel_rfl) (by intro _ _ h; exact h) (tk [1, 2, 3, 4, 5, 8, 9, 10, 11]) (e := false) (by kernel_rfl) ?_
    refine RA.both 0 12 (eqB_eq (by kernel_rfl)) (Stp.mem 0 pg_ok rfl rfl rfl ?_) (Stp.rt 12 hi rfl rfl rfl ?_)
    · refine RA.run (cx := ⟨pg, _, _, _, _, _, _, _⟩) pg_ok (by kernel_rfl) (by intro _ _ h; exact h) (tk [6, 7]) (e := false) (by kernel_rfl) ?_
      refine ⟨gs (bS [109, 111, 115, 116]), by decide, by decide, rfl, ?_⟩
      refine ⟨by simp only [app_size, sz1, hsz]; omega, ?_⟩
      refine RGO 12 false (tk [13, 14, 15]) hi rfl rfl (by kernel_rfl) ?_
      refine ⟨by simp only [app_size, sz1, hsz]; omega, ?_⟩
      refine ⟨by simp only [app_size, sz1, hsz]; omega, ?_⟩
      exact RA.endJ id (by kernel_rfl) hk ⟨⟨rfl, rfl, rfl, rfl, trivial⟩, trivial, rfl⟩
    · refine RA.run (cx := ⟨pg, _, _, _, _, _, _, _⟩) pg_ok (by kernel_rfl) (by intro _ _ h; exact h) (al [0] ++ tk [6, 7, 13, 14, 15]) (e := false) (by kernel_rfl) ?_
      refine ⟨gs (bS [109, 111, 115, 116]), by decide, by decide, rfl, ?_⟩
      refine ⟨by simp only [app_size, sz1, hsz]; omega, ?_⟩
      refine ⟨by simp only [app_size, sz1, hsz]; omega, ?_⟩
      refine ⟨by simp only [app_size, sz1, hsz]; omega, ?_⟩
      exact RA.endJ id (by kernel_rfl) hk ⟨⟨rfl, rfl, rfl, rfl, trivial⟩, trivial, rfl⟩
theorem rat_11 (b : List ByteArray) (hl8 : b.length ≤ 8) (q : Qn) (hq : Wf q) (ih : AtOkR q) : AtOkR (.mk 11 0 [] 0 b q .nil) := by
  intro least hle hb
  have hx : atX (.mk 11 0 [] 0 b q .nil) least = _ := atX_all 3 (by decide) b q least hle
  rw [hx] at hb ⊢
  have hqb : (bytesL (atX q 0)).length ≤ 1000000 := by
    rw [bytesL_cons, bytesL_append, bytes_par] at hb
    simp only [List.length_append] at hb
    omega
  have hi := ih 0 (by decide) hqb
  clear ih
  generalize hB : bS (bytesL (atX q 0)) = B at hi
  have hsz : B.size = (bytesL (atX q 0)).length := by rw [← hB, bS_size]
  have hwz : (bS [109, 97, 110, 121]).size ≤ 5 := by decide
  obtain ⟨c, n, m, s, bb, l, r, rfl⟩ := wf_mk hq
  refine Rt.of pg_ok Tryz.func9 rfl Tryz.ntmps9 rfl Tryz.results9 Tryz.call9 fun H0 S0 w0 h0 g0 => ?_
  repeat (first | refine p1 ?_ rfl | refine p2 ?_ rfl)
  show JK _ _ _ _
  refine JK.drawJ [] ⟨[(0, qG (.mk 11 0 [] 0 b (.mk c n m s bb l r) .nil)), (1, gi least), (5, gi 2), (6, gs (bS [109, 97, 110, 121] ++ ⟨#[40]⟩ ++ B ++ ⟨#[41]⟩))], [], 0⟩ pg_ok ?_ (fun hk => ?_)
  · refine V ?_
    cases b with
    | nil =>
      refine p2 ?_ rfl
      refine p2 ?_ (decide_eq_false (by omega))
      refine ⟨?_, rfl⟩
      show gs _ = gs _
      rw [show bysX [] = [] from rfl, bytes_all, bS_append, bS_append, bS_append, bS_bL, hB]
      rfl
    | cons s0 b =>
      rw [bytes_allby] at hb ⊢
      refine p1 ?_ (by simp)
      simp only [List.length_append, List.length_cons, List.length_nil] at hb hl8
      refine GO (join_rt (s0 :: b) ⟨#[44, 32]⟩ (by rw [show (ByteArray.mk #[44, 32]).data.toList = [44, 32] from rfl, join_by]; omega) (by simp; omega)) rfl ?_
      rw [show (ByteArray.mk #[44, 32]).data.toList = [44, 32] from rfl, join_by]
      have s5 : ByteArray.size ⟨#[32, 98, 121, 32, 40]⟩ = 5 := rfl
      refine ⟨by rw [bs_size, s5]; omega, ?_⟩
      refine ⟨by rw [app_size, bs_size, s5, sz1]; omega, ?_⟩
      refine ⟨by simp only [app_size, bs_size, s5, sz1, hsz]; omega, ?_⟩
      refine p2 ?_ (decide_eq_false (by omega))
      refine ⟨?_, rfl⟩
      show gs _ = gs _
      rw [bS_append, bS_append, bS_append, bS_append, bS_append, bS_append, bS_bL, hB]
      rfl
  · refine RA.run (cx := ⟨pg, _, _, _, _, _, _, _⟩) pg_ok (by kernel_rfl) (by intro _ _ h; exact h) (tk [1, 2, 3, 4, 5, 8, 9, 10, 11]) (e := false) (by kernel_rfl) ?_
    refine RA.both 0 12 (eqB_eq (by kernel_rfl)) (Stp.mem 0 pg_ok rfl rfl rfl ?_) (Stp.rt 12 hi rfl rfl rfl ?_)
    · refine RA.run (cx := ⟨pg, _, _, _, _, _, _, _⟩) pg_ok (by kernel_rfl) (by intro _ _ h; exact h) (tk [6, 7]) (e := false) (by kernel_rfl) ?_
      refine ⟨gs (bS [109, 97, 110, 121]), by decide, by decide, rfl, ?_⟩
      refine ⟨by simp only [app_size, sz1, hsz]; omega, ?_⟩
      refine RGO 12 false (tk [13, 14, 15]) hi rfl rfl (by kernel_rfl) ?_
      refine ⟨by simp only [app_size, sz1, hsz]; omega, ?_⟩
      refine ⟨by simp only [app_size, sz1, hsz]; omega, ?_⟩
      exact RA.endJ id (by kernel_rfl) hk ⟨⟨rfl, rfl, rfl, rfl, trivial⟩, trivial, rfl⟩
    · refine RA.run (cx := ⟨pg, _, _, _, _, _, _, _⟩) pg_ok (by kernel_rfl) (by intro _ _ h; exact h) (al [0] ++ tk [6, 7, 13, 14, 15]) (e := false) (by kernel_rfl) ?_
      refine ⟨gs (bS [109, 97, 110, 121]), by decide, by decide, rfl, ?_⟩
      refine ⟨by simp only [app_size, sz1, hsz]; omega, ?_⟩
      refine ⟨by simp only [app_size, sz1, hsz]; omega, ?_⟩
      refine ⟨by simp only [app_size, sz1, hsz]; omega, ?_⟩
      exact RA.endJ id (by kernel_rfl) hk ⟨⟨rfl, rfl, rfl, rfl, trivial⟩, trivial, rfl⟩
theorem rat_13 (l r : Qn) (hl : Wf l) (hr : Wf r) (ih1 : AtOkR l) (ih2 : AtOkR r) : AtOkR (.mk 13 0 [] 0 [] l r) := by
  intro least hle hb
  have hx : atX (.mk 13 0 [] 0 [] l r) least = ifP (decide (0 < least)) (atX l 0 ++ binX 13 :: atX r 1) := atX_add 0 (by decide) l r least
  rw [hx] at hb ⊢
  have hb2 : (bytesL (atX l 0 ++ binX 13 :: atX r 1)).length ≤ 1000000 := by
    refine Nat.le_trans ?_ hb
    unfold ifP
    split
    · rw [bytes_par]; simp only [List.length_append]; omega
    · exact Nat.le_refl _
  rw [bytes_bin] at hb2
  have hsy : (symX 13).length = 1 := rfl
  simp only [List.length_append, hsy, List.length_cons, List.length_nil] at hb2
  have h1 := ih1 0 (by decide) (by omega)
  have h2 := ih2 1 (by decide) (by omega)
  clear ih1 ih2
  generalize hA : bS (bytesL (atX l 0)) = A at h1
  generalize hB : bS (bytesL (atX r 1)) = B at h2
  have hA' : A.size = (bytesL (atX l 0)).length := by rw [← hA, bS_size]
  have hB' : B.size = (bytesL (atX r 1)).length := by rw [← hB, bS_size]
  have hfin : A ++ bS [32, 43, 32] ++ B = bS (bytesL (atX l 0 ++ binX 13 :: atX r 1)) := by
    rw [bytes_bin, show bytesL (atX l 0) ++ [32] ++ symX 13 ++ [32] ++ bytesL (atX r 1) = bytesL (atX l 0) ++ [32, 43, 32] ++ bytesL (atX r 1) by simp [symX], bS_append, bS_append, hA, hB]
  have hsz : (bS [32, 43, 32]).size = 3 := rfl
  obtain ⟨c1, n1, m1, s1, b1, l1, r1, rfl⟩ := wf_mk hl
  obtain ⟨c2, n2, m2, s2, b2, l2, r2, rfl⟩ := wf_mk hr
  refine Rt.of pg_ok Tryz.func9 rfl Tryz.ntmps9 rfl Tryz.results9 Tryz.call9 fun H0 S0 w0 h0 g0 => ?_
  repeat (first | refine p1 ?_ rfl | refine p2 ?_ rfl)
  show JK _ _ _ _
  refine JK.drawJ [] ⟨[(1, gi least), (5, gi 0), (6, gs (A ++ bS [32, 43, 32] ++ B))], [], 0⟩ pg_ok ?_ (fun hk => ?_)
  · rw [hfin]
    refine V ?_
    by_cases hlt : 0 < least
    · refine p1 ?_ (decide_eq_true (by omega))
      refine ⟨by rw [← hfin]; simp only [app_size, sz1, hsz]; omega, ?_⟩
      refine ⟨by rw [← hfin]; simp only [app_size, sz1, hsz]; omega, ?_⟩
      refine ⟨?_, rfl⟩
      show gs _ = gs _
      rw [decide_eq_true hlt]
      show _ = gs (bS (bytesL (parX _)))
      rw [bytes_par, bS_append, bS_append]
      rfl
    · refine p2 ?_ (decide_eq_false (by omega))
      refine ⟨?_, rfl⟩
      show gs _ = gs _
      rw [decide_eq_false hlt]
      rfl
  · refine RA.run (cx := ⟨pg, _, _, _, _, _, _, _⟩) pg_ok (by kernel_rfl) (by intro _ _ h; exact h) (tk [0, 1, 2, 3, 6, 7, 8, 9, 10, 13, 14, 15, 16]) (e := false) (by kernel_rfl) ?_
    refine RA.both 4 5 (eqB_eq (by kernel_rfl)) (Stp.rt 4 h1 rfl rfl rfl ?_) (Stp.mem 5 pg_ok rfl rfl rfl ?_)
    · refine RA.both 5 17 (eqB_eq (by kernel_rfl)) (Stp.mem 5 pg_ok rfl rfl rfl ?_) (Stp.rt 17 h2 rfl rfl rfl ?_)
      · refine RA.run (cx := ⟨pg, _, _, _, _, _, _, _⟩) pg_ok (by kernel_rfl) (by intro _ _ h; exact h) (tk [11, 12]) (e := false) (by kernel_rfl) ?_
        refine ⟨gs (bS [32, 43, 32]), by decide, by decide, rfl, ?_⟩
        refine ⟨by simp only [app_size, sz1, hsz]; omega, ?_⟩
        refine RGO 17 false (tk [18, 19]) h2 rfl rfl (by kernel_rfl) ?_
        refine ⟨by simp only [app_size, sz1, hsz]; omega, ?_⟩
        exact RA.endJ id (by kernel_rfl) hk ⟨⟨rfl, rfl, rfl, trivial⟩, trivial, rfl⟩
      · refine RA.run (cx := ⟨pg, _, _, _, _, _, _, _⟩) pg_ok (by kernel_rfl) (by intro _ _ h; exact h) (al [5] ++ tk [11, 12, 18, 19]) (e := false) (by kernel_rfl) ?_
        refine ⟨gs (bS [32, 43, 32]), by decide, by decide, rfl, ?_⟩
        refine ⟨by simp only [app_size, sz1, hsz]; omega, ?_⟩
        refine ⟨by simp only [app_size, sz1, hsz]; omega, ?_⟩
        exact RA.endJ id (by kernel_rfl) hk ⟨⟨rfl, rfl, rfl, trivial⟩, trivial, rfl⟩
    · refine RA.run (cx := ⟨pg, _, _, _, _, _, _, _⟩) pg_ok (by kernel_rfl) (by intro _ _ h; exact h) (tk [11]) (e := false) (by kernel_rfl) ?_
      refine ⟨gs (bS [32, 43, 32]), by decide, by decide, rfl, ?_⟩
      refine RGO 4 false (tk [12]) h1 rfl rfl (by kernel_rfl) ?_
      refine ⟨by simp only [app_size, sz1, hsz]; omega, ?_⟩
      refine RGO 17 false (tk [18, 19]) h2 rfl rfl (by kernel_rfl) ?_
      refine ⟨by simp only [app_size, sz1, hsz]; omega, ?_⟩
      exact RA.endJ id (by kernel_rfl) hk ⟨⟨rfl, rfl, rfl, trivial⟩, trivial, rfl⟩
theorem rat_14 (l r : Qn) (hl : Wf l) (hr : Wf r) (ih1 : AtOkR l) (ih2 : AtOkR r) : AtOkR (.mk 14 0 [] 0 [] l r) := by
  intro least hle hb
  have hx : atX (.mk 14 0 [] 0 [] l r) least = ifP (decide (0 < least)) (atX l 0 ++ binX 14 :: atX r 1) := atX_add 1 (by decide) l r least
  rw [hx] at hb ⊢
  have hb2 : (bytesL (atX l 0 ++ binX 14 :: atX r 1)).length ≤ 1000000 := by
    refine Nat.le_trans ?_ hb
    unfold ifP
    split
    · rw [bytes_par]; simp only [List.length_append]; omega
    · exact Nat.le_refl _
  rw [bytes_bin] at hb2
  have hsy : (symX 14).length = 1 := rfl
  simp only [List.length_append, hsy, List.length_cons, List.length_nil] at hb2
  have h1 := ih1 0 (by decide) (by omega)
  have h2 := ih2 1 (by decide) (by omega)
  clear ih1 ih2
  generalize hA : bS (bytesL (atX l 0)) = A at h1
  generalize hB : bS (bytesL (atX r 1)) = B at h2
  have hA' : A.size = (bytesL (atX l 0)).length := by rw [← hA, bS_size]
  have hB' : B.size = (bytesL (atX r 1)).length := by rw [← hB, bS_size]
  have hfin : A ++ bS [32, 45, 32] ++ B = bS (bytesL (atX l 0 ++ binX 14 :: atX r 1)) := by
    rw [bytes_bin, show bytesL (atX l 0) ++ [32] ++ symX 14 ++ [32] ++ bytesL (atX r 1) = bytesL (atX l 0) ++ [32, 45, 32] ++ bytesL (atX r 1) by simp [symX], bS_append, bS_append, hA, hB]
  have hsz : (bS [32, 45, 32]).size = 3 := rfl
  obtain ⟨c1, n1, m1, s1, b1, l1, r1, rfl⟩ := wf_mk hl
  obtain ⟨c2, n2, m2, s2, b2, l2, r2, rfl⟩ := wf_mk hr
  refine Rt.of pg_ok Tryz.func9 rfl Tryz.ntmps9 rfl Tryz.results9 Tryz.call9 fun H0 S0 w0 h0 g0 => ?_
  repeat (first | refine p1 ?_ rfl | refine p2 ?_ rfl)
  show JK _ _ _ _
  refine JK.drawJ [] ⟨[(1, gi least), (5, gi 0), (6, gs (A ++ bS [32, 45, 32] ++ B))], [], 0⟩ pg_ok ?_ (fun hk => ?_)
  · rw [hfin]
    refine V ?_
    by_cases hlt : 0 < least
    · refine p1 ?_ (decide_eq_true (by omega))
      refine ⟨by rw [← hfin]; simp only [app_size, sz1, hsz]; omega, ?_⟩
      refine ⟨by rw [← hfin]; simp only [app_size, sz1, hsz]; omega, ?_⟩
      refine ⟨?_, rfl⟩
      show gs _ = gs _
      rw [decide_eq_true hlt]
      show _ = gs (bS (bytesL (parX _)))
      rw [bytes_par, bS_append, bS_append]
      rfl
    · refine p2 ?_ (decide_eq_false (by omega))
      refine ⟨?_, rfl⟩
      show gs _ = gs _
      rw [decide_eq_false hlt]
      rfl
  · refine RA.run (cx := ⟨pg, _, _, _, _, _, _, _⟩) pg_ok (by kernel_rfl) (by intro _ _ h; exact h) (tk [0, 1, 2, 3, 6, 7, 8, 9, 10, 13, 14, 15, 16]) (e := false) (by kernel_rfl) ?_
    refine RA.both 4 5 (eqB_eq (by kernel_rfl)) (Stp.rt 4 h1 rfl rfl rfl ?_) (Stp.mem 5 pg_ok rfl rfl rfl ?_)
    · refine RA.both 5 17 (eqB_eq (by kernel_rfl)) (Stp.mem 5 pg_ok rfl rfl rfl ?_) (Stp.rt 17 h2 rfl rfl rfl ?_)
      · refine RA.run (cx := ⟨pg, _, _, _, _, _, _, _⟩) pg_ok (by kernel_rfl) (by intro _ _ h; exact h) (tk [11, 12]) (e := false) (by kernel_rfl) ?_
        refine ⟨gs (bS [32, 45, 32]), by decide, by decide, rfl, ?_⟩
        refine ⟨by simp only [app_size, sz1, hsz]; omega, ?_⟩
        refine RGO 17 false (tk [18, 19]) h2 rfl rfl (by kernel_rfl) ?_
        refine ⟨by simp only [app_size, sz1, hsz]; omega, ?_⟩
        exact RA.endJ id (by kernel_rfl) hk ⟨⟨rfl, rfl, rfl, trivial⟩, trivial, rfl⟩
      · refine RA.run (cx := ⟨pg, _, _, _, _, _, _, _⟩) pg_ok (by kernel_rfl) (by intro _ _ h; exact h) (al [5] ++ tk [11, 12, 18, 19]) (e := false) (by kernel_rfl) ?_
        refine ⟨gs (bS [32, 45, 32]), by decide, by decide, rfl, ?_⟩
        refine ⟨by simp only [app_size, sz1, hsz]; omega, ?_⟩
        refine ⟨by simp only [app_size, sz1, hsz]; omega, ?_⟩
        exact RA.endJ id (by kernel_rfl) hk ⟨⟨rfl, rfl, rfl, trivial⟩, trivial, rfl⟩
    · refine RA.run (cx := ⟨pg, _, _, _, _, _, _, _⟩) pg_ok (by kernel_rfl) (by intro _ _ h; exact h) (tk [11]) (e := false) (by kernel_rfl) ?_
      refine ⟨gs (bS [32, 45, 32]), by decide, by decide, rfl, ?_⟩
      refine RGO 4 false (tk [12]) h1 rfl rfl (by kernel_rfl) ?_
      refine ⟨by simp only [app_size, sz1, hsz]; omega, ?_⟩
      refine RGO 17 false (tk [18, 19]) h2 rfl rfl (by kernel_rfl) ?_
      refine ⟨by simp only [app_size, sz1, hsz]; omega, ?_⟩
      exact RA.endJ id (by kernel_rfl) hk ⟨⟨rfl, rfl, rfl, trivial⟩, trivial, rfl⟩
theorem rat_15 (l r : Qn) (hl : Wf l) (hr : Wf r) (ih1 : AtOkR l) (ih2 : AtOkR r) : AtOkR (.mk 15 0 [] 0 [] l r) := by
  intro least hle hb
  have hx : atX (.mk 15 0 [] 0 [] l r) least = ifP (decide (1 < least)) (atX l 1 ++ binX 15 :: atX r 2) := atX_mul 0 (by decide) l r least
  rw [hx] at hb ⊢
  have hb2 : (bytesL (atX l 1 ++ binX 15 :: atX r 2)).length ≤ 1000000 := by
    refine Nat.le_trans ?_ hb
    unfold ifP
    split
    · rw [bytes_par]; simp only [List.length_append]; omega
    · exact Nat.le_refl _
  rw [bytes_bin] at hb2
  have hsy : (symX 15).length = 1 := rfl
  simp only [List.length_append, hsy, List.length_cons, List.length_nil] at hb2
  have h1 := ih1 1 (by decide) (by omega)
  have h2 := ih2 2 (by decide) (by omega)
  clear ih1 ih2
  generalize hA : bS (bytesL (atX l 1)) = A at h1
  generalize hB : bS (bytesL (atX r 2)) = B at h2
  have hA' : A.size = (bytesL (atX l 1)).length := by rw [← hA, bS_size]
  have hB' : B.size = (bytesL (atX r 2)).length := by rw [← hB, bS_size]
  have hfin : A ++ bS [32, 42, 32] ++ B = bS (bytesL (atX l 1 ++ binX 15 :: atX r 2)) := by
    rw [bytes_bin, show bytesL (atX l 1) ++ [32] ++ symX 15 ++ [32] ++ bytesL (atX r 2) = bytesL (atX l 1) ++ [32, 42, 32] ++ bytesL (atX r 2) by simp [symX], bS_append, bS_append, hA, hB]
  have hsz : (bS [32, 42, 32]).size = 3 := rfl
  obtain ⟨c1, n1, m1, s1, b1, l1, r1, rfl⟩ := wf_mk hl
  obtain ⟨c2, n2, m2, s2, b2, l2, r2, rfl⟩ := wf_mk hr
  refine Rt.of pg_ok Tryz.func9 rfl Tryz.ntmps9 rfl Tryz.results9 Tryz.call9 fun H0 S0 w0 h0 g0 => ?_
  repeat (first | refine p1 ?_ rfl | refine p2 ?_ rfl)
  show JK _ _ _ _
  refine JK.drawJ [] ⟨[(1, gi least), (5, gi 1), (6, gs (A ++ bS [32, 42, 32] ++ B))], [], 0⟩ pg_ok ?_ (fun hk => ?_)
  · rw [hfin]
    refine V ?_
    by_cases hlt : 1 < least
    · refine p1 ?_ (decide_eq_true (by omega))
      refine ⟨by rw [← hfin]; simp only [app_size, sz1, hsz]; omega, ?_⟩
      refine ⟨by rw [← hfin]; simp only [app_size, sz1, hsz]; omega, ?_⟩
      refine ⟨?_, rfl⟩
      show gs _ = gs _
      rw [decide_eq_true hlt]
      show _ = gs (bS (bytesL (parX _)))
      rw [bytes_par, bS_append, bS_append]
      rfl
    · refine p2 ?_ (decide_eq_false (by omega))
      refine ⟨?_, rfl⟩
      show gs _ = gs _
      rw [decide_eq_false hlt]
      rfl
  · refine RA.run (cx := ⟨pg, _, _, _, _, _, _, _⟩) pg_ok (by kernel_rfl) (by intro _ _ h; exact h) (tk [0, 1, 2, 3, 6, 7, 8, 9, 10, 13, 14, 15, 16]) (e := false) (by kernel_rfl) ?_
    refine RA.both 4 5 (eqB_eq (by kernel_rfl)) (Stp.rt 4 h1 rfl rfl rfl ?_) (Stp.mem 5 pg_ok rfl rfl rfl ?_)
    · refine RA.both 5 17 (eqB_eq (by kernel_rfl)) (Stp.mem 5 pg_ok rfl rfl rfl ?_) (Stp.rt 17 h2 rfl rfl rfl ?_)
      · refine RA.run (cx := ⟨pg, _, _, _, _, _, _, _⟩) pg_ok (by kernel_rfl) (by intro _ _ h; exact h) (tk [11, 12]) (e := false) (by kernel_rfl) ?_
        refine ⟨gs (bS [32, 42, 32]), by decide, by decide, rfl, ?_⟩
        refine ⟨by simp only [app_size, sz1, hsz]; omega, ?_⟩
        refine RGO 17 false (tk [18, 19]) h2 rfl rfl (by kernel_rfl) ?_
        refine ⟨by simp only [app_size, sz1, hsz]; omega, ?_⟩
        exact RA.endJ id (by kernel_rfl) hk ⟨⟨rfl, rfl, rfl, trivial⟩, trivial, rfl⟩
      · refine RA.run (cx := ⟨pg, _, _, _, _, _, _, _⟩) pg_ok (by kernel_rfl) (by intro _ _ h; exact h) (al [5] ++ tk [11, 12, 18, 19]) (e := false) (by kernel_rfl) ?_
        refine ⟨gs (bS [32, 42, 32]), by decide, by decide, rfl, ?_⟩
        refine ⟨by simp only [app_size, sz1, hsz]; omega, ?_⟩
        refine ⟨by simp only [app_size, sz1, hsz]; omega, ?_⟩
        exact RA.endJ id (by kernel_rfl) hk ⟨⟨rfl, rfl, rfl, trivial⟩, trivial, rfl⟩
    · refine RA.run (cx := ⟨pg, _, _, _, _, _, _, _⟩) pg_ok (by kernel_rfl) (by intro _ _ h; exact h) (tk [11]) (e := false) (by kernel_rfl) ?_
      refine ⟨gs (bS [32, 42, 32]), by decide, by decide, rfl, ?_⟩
      refine RGO 4 false (tk [12]) h1 rfl rfl (by kernel_rfl) ?_
      refine ⟨by simp only [app_size, sz1, hsz]; omega, ?_⟩
      refine RGO 17 false (tk [18, 19]) h2 rfl rfl (by kernel_rfl) ?_
      refine ⟨by simp only [app_size, sz1, hsz]; omega, ?_⟩
      exact RA.endJ id (by kernel_rfl) hk ⟨⟨rfl, rfl, rfl, trivial⟩, trivial, rfl⟩
theorem rat_16 (l r : Qn) (hl : Wf l) (hr : Wf r) (ih1 : AtOkR l) (ih2 : AtOkR r) : AtOkR (.mk 16 0 [] 0 [] l r) := by
  intro least hle hb
  have hx : atX (.mk 16 0 [] 0 [] l r) least = ifP (decide (1 < least)) (atX l 1 ++ binX 16 :: atX r 2) := atX_mul 1 (by decide) l r least
  rw [hx] at hb ⊢
  have hb2 : (bytesL (atX l 1 ++ binX 16 :: atX r 2)).length ≤ 1000000 := by
    refine Nat.le_trans ?_ hb
    unfold ifP
    split
    · rw [bytes_par]; simp only [List.length_append]; omega
    · exact Nat.le_refl _
  rw [bytes_bin] at hb2
  have hsy : (symX 16).length = 1 := rfl
  simp only [List.length_append, hsy, List.length_cons, List.length_nil] at hb2
  have h1 := ih1 1 (by decide) (by omega)
  have h2 := ih2 2 (by decide) (by omega)
  clear ih1 ih2
  generalize hA : bS (bytesL (atX l 1)) = A at h1
  generalize hB : bS (bytesL (atX r 2)) = B at h2
  have hA' : A.size = (bytesL (atX l 1)).length := by rw [← hA, bS_size]
  have hB' : B.size = (bytesL (atX r 2)).length := by rw [← hB, bS_size]
  have hfin : A ++ bS [32, 47, 32] ++ B = bS (bytesL (atX l 1 ++ binX 16 :: atX r 2)) := by
    rw [bytes_bin, show bytesL (atX l 1) ++ [32] ++ symX 16 ++ [32] ++ bytesL (atX r 2) = bytesL (atX l 1) ++ [32, 47, 32] ++ bytesL (atX r 2) by simp [symX], bS_append, bS_append, hA, hB]
  have hsz : (bS [32, 47, 32]).size = 3 := rfl
  obtain ⟨c1, n1, m1, s1, b1, l1, r1, rfl⟩ := wf_mk hl
  obtain ⟨c2, n2, m2, s2, b2, l2, r2, rfl⟩ := wf_mk hr
  refine Rt.of pg_ok Tryz.func9 rfl Tryz.ntmps9 rfl Tryz.results9 Tryz.call9 fun H0 S0 w0 h0 g0 => ?_
  repeat (first | refine p1 ?_ rfl | refine p2 ?_ rfl)
  show JK _ _ _ _
  refine JK.drawJ [] ⟨[(1, gi least), (5, gi 1), (6, gs (A ++ bS [32, 47, 32] ++ B))], [], 0⟩ pg_ok ?_ (fun hk => ?_)
  · rw [hfin]
    refine V ?_
    by_cases hlt : 1 < least
    · refine p1 ?_ (decide_eq_true (by omega))
      refine ⟨by rw [← hfin]; simp only [app_size, sz1, hsz]; omega, ?_⟩
      refine ⟨by rw [← hfin]; simp only [app_size, sz1, hsz]; omega, ?_⟩
      refine ⟨?_, rfl⟩
      show gs _ = gs _
      rw [decide_eq_true hlt]
      show _ = gs (bS (bytesL (parX _)))
      rw [bytes_par, bS_append, bS_append]
      rfl
    · refine p2 ?_ (decide_eq_false (by omega))
      refine ⟨?_, rfl⟩
      show gs _ = gs _
      rw [decide_eq_false hlt]
      rfl
  · refine RA.run (cx := ⟨pg, _, _, _, _, _, _, _⟩) pg_ok (by kernel_rfl) (by intro _ _ h; exact h) (tk [0, 1, 2, 3, 6, 7, 8, 9, 10, 13, 14, 15, 16]) (e := false) (by kernel_rfl) ?_
    refine RA.both 4 5 (eqB_eq (by kernel_rfl)) (Stp.rt 4 h1 rfl rfl rfl ?_) (Stp.mem 5 pg_ok rfl rfl rfl ?_)
    · refine RA.both 5 17 (eqB_eq (by kernel_rfl)) (Stp.mem 5 pg_ok rfl rfl rfl ?_) (Stp.rt 17 h2 rfl rfl rfl ?_)
      · refine RA.run (cx := ⟨pg, _, _, _, _, _, _, _⟩) pg_ok (by kernel_rfl) (by intro _ _ h; exact h) (tk [11, 12]) (e := false) (by kernel_rfl) ?_
        refine ⟨gs (bS [32, 47, 32]), by decide, by decide, rfl, ?_⟩
        refine ⟨by simp only [app_size, sz1, hsz]; omega, ?_⟩
        refine RGO 17 false (tk [18, 19]) h2 rfl rfl (by kernel_rfl) ?_
        refine ⟨by simp only [app_size, sz1, hsz]; omega, ?_⟩
        exact RA.endJ id (by kernel_rfl) hk ⟨⟨rfl, rfl, rfl, trivial⟩, trivial, rfl⟩
      · refine RA.run (cx := ⟨pg, _, _, _, _, _, _, _⟩) pg_ok (by kernel_rfl) (by intro _ _ h; exact h) (al [5] ++ tk [11, 12, 18, 19]) (e := false) (by kernel_rfl) ?_
        refine ⟨gs (bS [32, 47, 32]), by decide, by decide, rfl, ?_⟩
        refine ⟨by simp only [app_size, sz1, hsz]; omega, ?_⟩
        refine ⟨by simp only [app_size, sz1, hsz]; omega, ?_⟩
        exact RA.endJ id (by kernel_rfl) hk ⟨⟨rfl, rfl, rfl, trivial⟩, trivial, rfl⟩
    · refine RA.run (cx := ⟨pg, _, _, _, _, _, _, _⟩) pg_ok (by kernel_rfl) (by intro _ _ h; exact h) (tk [11]) (e := false) (by kernel_rfl) ?_
      refine ⟨gs (bS [32, 47, 32]), by decide, by decide, rfl, ?_⟩
      refine RGO 4 false (tk [12]) h1 rfl rfl (by kernel_rfl) ?_
      refine ⟨by simp only [app_size, sz1, hsz]; omega, ?_⟩
      refine RGO 17 false (tk [18, 19]) h2 rfl rfl (by kernel_rfl) ?_
      refine ⟨by simp only [app_size, sz1, hsz]; omega, ?_⟩
      exact RA.endJ id (by kernel_rfl) hk ⟨⟨rfl, rfl, rfl, trivial⟩, trivial, rfl⟩
theorem rat_ok {q : Qn} (hq : Wf q) : AtOkR q := by
  induction hq with
  | num n h0 h1 => exact rat_1 n h0 h1
  | pick m h => exact rat_2 m h
  | over k hk m h sp h1 h2 =>
    rcases (show k = 0 ∨ k = 1 ∨ k = 2 ∨ k = 3 ∨ k = 4 by omega) with rfl | rfl | rfl | rfl | rfl
    · exact rat_3 m h sp h1 h2
    · exact rat_4 m h sp h1 h2
    · exact rat_5 m h sp h1 h2
    · exact rat_6 m h sp h1 h2
    · exact rat_7 m h sp h1 h2
  | all k hk b hb hl q hq ih =>
    rcases (show k = 0 ∨ k = 1 ∨ k = 2 ∨ k = 3 by omega) with rfl | rfl | rfl | rfl
    · exact rat_8 b hl q hq ih
    · exact rat_9 b hl q hq ih
    · exact rat_10 b hl q hq ih
    · exact rat_11 b hl q hq ih
  | neg q hq ih => exact rat_12 q hq ih
  | add k hk l r hl hr ih1 ih2 =>
    rcases (show k = 0 ∨ k = 1 by omega) with rfl | rfl
    · exact rat_13 l r hl hr ih1 ih2
    · exact rat_14 l r hl hr ih1 ih2
  | mul k hk l r hl hr ih1 ih2 =>
    rcases (show k = 0 ∨ k = 1 by omega) with rfl | rfl
    · exact rat_15 l r hl hr ih1 ih2
    · exact rat_16 l r hl hr ih1 ih2
end Go.Proofs.YtihakhdinkkdmaaGreatDoor
