/-
  Contracts: questions: how they are printed: all of a question.
-/
import Derived.Test.YtihakhdinkkdmaaDoorK11
import Derived.Test.YtihakhdinkkdmaaDoorK06
import Derived.Test.YtihakhdinkkdmaaDoorK09
import Derived.Test.YtihakhdinkkdmaaDoorK05
import Derived.LaidMore
import Derived.Stop.LaidErr
import Derived.Test.YtihakhdinkkdmaaDoorRows
import Derived.ProofKit
import Derived.LaidLaws
import Derived.LaidHandle
import Derived.LaidSub
import Derived.Lay
import Derived.ChangeSame
import Derived.OpenShut
import Derived.Stop.Joined
namespace Go.Proofs.YtihakhdinkkdmaaDoor
open Go.GK Go.RowKit Go.PL
set_option maxRecDepth 100000
/-- A question is printed. -/
def AtOk (q : Qn) : Prop := ∀ least : Nat, least ≤ 2 → (bytesL (atX q least)).length ≤ 1000000 → Rt pg 15 [qG q, gi least] (gs (bS (bytesL (atX q least))))
theorem at_num (n : Int) (h0 : 0 ≤ n) (h1 : n < 1000000000000000000) : AtOk (.mk 1 n [] 0 [] .nil .nil) := by
  intro least hle hb
  rw [atX_num n least hle, bytes_dL]
  refine Rt.of pg_ok Tryd.func15 rfl Tryd.ntmps15 rfl Tryd.results15 Tryd.call15 fun H0 S0 w0 h0 g0 => ?_
  refine p2 ?_ rfl
  refine GO (level_rt 1) rfl ?_
  refine p1 ?_ rfl
  refine GO (fmt_rt n (by omega) (by omega)) rfl ?_
  refine p2 ?_ (decide_eq_false (by show ¬ (((lvl 1 : Nat) : Int) < least); have : lvl 1 = 2 := rfl; omega))
  exact ⟨rfl, rfl⟩
theorem at_pick (m : List Mt) (hm : MsOk m) : AtOk (.mk 2 0 m 300 [] .nil .nil) := by
  intro least hle hb
  rw [atX_pick m least hle]
  refine Rt.of pg_ok Tryd.func15 rfl Tryd.ntmps15 rfl Tryd.results15 Tryd.call15 fun H0 S0 w0 h0 g0 => ?_
  refine p2 ?_ rfl
  refine GO (level_rt 2) rfl ?_
  refine p2 ?_ rfl
  refine p1 ?_ rfl
  refine GO (matchersT_rt m hm) rfl ?_
  refine p2 ?_ (decide_eq_false (by show ¬ (((lvl 2 : Nat) : Int) < least); have : lvl 2 = 2 := rfl; omega))
  exact ⟨rfl, rfl⟩
theorem overs_at {k : Nat} (hk : k < 5) {x : Int} (hx : x = k) : (List.drop (x.toNat * 1) [gs (bS [99, 111, 117, 110, 116]), gs (bS [115, 117, 109]), gs (bS [109, 105, 110]), gs (bS [109, 97, 120]), gs (bS [100, 101, 108, 116, 97])])[0]? = some (gs (oversL.getD k ⟨#[]⟩)) := by
  subst hx
  match k, hk with
  | 0, _ => rfl
  | 1, _ => rfl
  | 2, _ => rfl
  | 3, _ => rfl
  | 4, _ => rfl
theorem alls_at {k : Nat} (hk : k < 4) {x : Int} (hx : x = k) : (List.drop (x.toNat * 1) [gs (bS [116, 111, 116, 97, 108]), gs (bS [108, 101, 97, 115, 116]), gs (bS [109, 111, 115, 116]), gs (bS [109, 97, 110, 121])])[0]? = some (gs (allsL.getD k ⟨#[]⟩)) := by
  subst hx
  match k, hk with
  | 0, _ => rfl
  | 1, _ => rfl
  | 2, _ => rfl
  | 3, _ => rfl
theorem at_over (k : Nat) (hk : k < 5) (m : List Mt) (hm : MsOk m) (sp : Int) (h1 : 1 ≤ sp) (h2 : sp ≤ 1099511627776) : AtOk (.mk (3 + k) 0 m sp [] .nil .nil) := by
  intro least hle hb
  have hl : lvl (3 + k) = 2 := by rw [lvl, if_neg (by omega), if_neg (by omega)]
  rw [atX_over k hk m sp least hle, bytes_over] at hb ⊢
  refine Rt.of pg_ok Tryd.func15 rfl Tryd.ntmps15 rfl Tryd.results15 Tryd.call15 fun H0 S0 w0 h0 g0 => ?_
  refine p2 ?_ rfl
  refine GO (level_rt (3 + k)) rfl ?_
  refine p2 ?_ (by simp; omega)
  refine p2 ?_ (by simp; omega)
  refine p1 ?_ (decide_eq_true (by omega))
  refine p1 ?_ (decide_eq_true (by omega))
  have hw : IntKind.i64.wrap (3 + (k : Int) - 3) = k := by rw [wrap_id (by omega) (by omega)]; omega
  have hov : (oversL.getD k ⟨#[]⟩).size ≤ 5 := by
    have ho : ∀ k : Fin 5, (oversL.getD k.val ⟨#[]⟩).size ≤ 5 := by decide
    exact ho ⟨k, hk⟩
  have hms := ms_short hm
  have hsp : (Lib.itoa sp).length ≤ 13 := itoa_len (by omega) (by decide) (by simp; omega)
  refine DRAW [] false (tk [0, 1, 2, 3, 4, 5, 6, 7, 8, 9, 10, 11, 15, 16, 17, 18]) (by kernel_rfl) ?_
  refine ⟨by rw [hw]; omega, by rw [hw]; omega, ?_⟩
  refine ons_mk (overs_at hk hw) ?_
  refine ⟨by simp only [sz1]; omega, ?_⟩
  refine RGO 12 false (tk [13, 14]) (matchersT_rt m hm) rfl rfl (by kernel_rfl) ?_
  refine ⟨by simp only [app_size, sz1, printM, bS_size]; omega, ?_⟩
  refine ⟨by simp only [app_size, sz1, printM, bS_size]; omega, ?_⟩
  refine RGO 19 true (tk [20, 21, 22]) (fmt_rt sp (by omega) (by omega)) rfl rfl (by kernel_rfl) ?_
  refine ⟨by simp only [app_size, sz1, printM, bS_size]; omega, ?_⟩
  refine ⟨by simp only [app_size, sz1, printM, bS_size, show ByteArray.size ⟨#[93, 41]⟩ = 2 from rfl]; omega, ?_⟩
  refine V ?_
  refine p2 ?_ (decide_eq_false (by rw [hl]; omega))
  refine ⟨?_, rfl⟩
  show gs _ = gs _
  rw [bS_append, bS_append, bS_append, bS_append, bS_append, bS_bL]
  rfl
theorem wf_mk {q : Qn} (h : Wf q) : ∃ c n m s b l r, q = .mk c n m s b l r := by
  cases q with
  | nil => cases h
  | mk c n m s b l r => exact ⟨c, n, m, s, b, l, r, rfl⟩
theorem at_neg (q : Qn) (hq : Wf q) (ih : AtOk q) : AtOk (.mk 12 0 [] 0 [] q .nil) := by
  intro least hle hb
  rw [atX_neg q least hle, bytes_neg] at hb ⊢
  rw [List.length_append] at hb
  have hi := ih 2 (by decide) (by omega)
  clear ih
  obtain ⟨c, n, m, s, b, l, r, rfl⟩ := wf_mk hq
  refine Rt.of pg_ok Tryd.func15 rfl Tryd.ntmps15 rfl Tryd.results15 Tryd.call15 fun H0 S0 w0 h0 g0 => ?_
  refine p2 ?_ rfl
  refine GO (level_rt 12) rfl ?_
  refine p2 ?_ rfl
  refine p2 ?_ rfl
  refine p1 ?_ rfl
  refine p2 ?_ rfl
  refine p1 ?_ rfl
  refine p2 ?_ rfl
  refine p1 ?_ rfl
  refine GO hi rfl ?_
  refine ⟨by rw [sz1, bS_size]; omega, ?_⟩
  refine p2 ?_ (decide_eq_false (by show ¬ (((lvl 12 : Nat) : Int) < least); have : lvl 12 = 2 := rfl; omega))
  refine ⟨?_, rfl⟩
  show gs _ = gs _
  rw [bS_append]
  rfl
theorem join_by (b : List ByteArray) : Lib.join (b.map (·.data.toList)) [44, 32] = ([44, 32] : List UInt8).intercalate (b.map bL) := rfl
theorem at_all (k : Nat) (hk : k < 4) (b : List ByteArray) (hl8 : b.length ≤ 8) (q : Qn) (hq : Wf q) (ih : AtOk q) : AtOk (.mk (8 + k) 0 [] 0 b q .nil) := by
  intro least hle hb
  have hl : lvl (8 + k) = 2 := by rw [lvl, if_neg (by omega), if_neg (by omega)]
  have hw : IntKind.i64.wrap (8 + (k : Int) - 8) = k := by rw [wrap_id (by omega) (by omega)]; omega
  have hov : (allsL.getD k ⟨#[]⟩).size ≤ 5 := by
    have ho : ∀ k : Fin 4, (allsL.getD k.val ⟨#[]⟩).size ≤ 5 := by decide
    exact ho ⟨k, hk⟩
  rw [atX_all k hk b q least hle] at hb ⊢
  have hqb : (bytesL (atX q 0)).length ≤ 1000000 := by
    rw [bytesL_cons, bytesL_append, bytes_par] at hb
    simp only [List.length_append] at hb
    omega
  have hi := ih 0 (by decide) hqb
  clear ih
  obtain ⟨c, n, m, s, bb, l, r, rfl⟩ := wf_mk hq
  refine Rt.of pg_ok Tryd.func15 rfl Tryd.ntmps15 rfl Tryd.results15 Tryd.call15 fun H0 S0 w0 h0 g0 => ?_
  refine p2 ?_ rfl
  refine GO (level_rt (8 + k)) rfl ?_
  refine p2 ?_ (by simp; omega)
  refine p2 ?_ (by simp; omega)
  refine p1 ?_ (decide_eq_true (by omega))
  refine p2 ?_ (decide_eq_false (by omega))
  refine p1 ?_ (decide_eq_true (by omega))
  refine p1 ?_ (decide_eq_true (by omega))
  refine DRAW [] false (tk [0, 1, 2, 3, 4, 5, 6, 7, 8, 9, 10, 11]) (by kernel_rfl) ?_
  refine ⟨by rw [hw]; omega, by rw [hw]; omega, ?_⟩
  refine ons_mk (alls_at hk hw) ?_
  refine ⟨by simp only [sz1]; omega, ?_⟩
  refine RGO 12 true (tk [13, 14, 15]) hi rfl rfl (by kernel_rfl) ?_
  refine ⟨by simp only [app_size, sz1, bS_size]; omega, ?_⟩
  refine ⟨by simp only [app_size, sz1, bS_size]; omega, ?_⟩
  refine V ?_
  cases b with
  | nil =>
    refine p2 ?_ rfl
    refine p2 ?_ (decide_eq_false (by rw [hl]; omega))
    refine ⟨?_, rfl⟩
    show gs _ = gs _
    rw [show bysX [] = [] from rfl, bytes_all, bS_append, bS_append, bS_append, bS_bL]
    rfl
  | cons s0 b =>
    rw [bytes_allby] at hb ⊢
    refine p1 ?_ (by simp)
    simp only [List.length_append, List.length_cons, List.length_nil] at hb hl8
    refine GO (join_rt (s0 :: b) ⟨#[44, 32]⟩ (by rw [show (ByteArray.mk #[44, 32]).data.toList = [44, 32] from rfl, join_by]; omega) (by simp; omega)) rfl ?_
    rw [show (ByteArray.mk #[44, 32]).data.toList = [44, 32] from rfl, join_by]
    have s5 : ByteArray.size ⟨#[32, 98, 121, 32, 40]⟩ = 5 := rfl
    refine ⟨by rw [bs_size, s5]; omega, ?_⟩
    refine ⟨by rw [app_size, bs_size, s5, sz1]; omega, ?_⟩
    refine ⟨by simp only [app_size, bs_size, s5, sz1, bS_size]; omega, ?_⟩
    refine p2 ?_ (decide_eq_false (by rw [hl]; omega))
    refine ⟨?_, rfl⟩
    show gs _ = gs _
    rw [bS_append, bS_append, bS_append, bS_append, bS_append, bS_append, bS_bL]
    rfl
theorem at_13 (l r : Qn) (hl : Wf l) (hr : Wf r) (ih1 : AtOk l) (ih2 : AtOk r) : AtOk (.mk 13 0 [] 0 [] l r) := by
  intro least hle hb
  have hx : atX (.mk 13 0 [] 0 [] l r) least = ifP (decide (0 < least)) (atX l 0 ++ binX 13 :: atX r 1) := atX_add 0 (by decide) l r least
  rw [hx] at hb ⊢
  have hb2 : (bytesL (atX l 0 ++ binX 13 :: atX r 1)).length ≤ 1000000 := by
    refine Nat.le_trans ?_ hb
    unfold ifP
    split
    · rw [bytes_par]; simp only [List.length_append]; omega
    · exact Nat.le_refl _
  rw [bytes_bin] at hb2
  have hsy : (symX 13).length = 1 := rfl
  simp only [List.length_append, hsy, List.length_cons, List.length_nil] at hb2
  have h1 := ih1 0 (by decide) (by omega)
  have h2 := ih2 1 (by decide) (by omega)
  clear ih1 ih2
  generalize hA : bS (bytesL (atX l 0)) = A at h1
  generalize hB : bS (bytesL (atX r 1)) = B at h2
  obtain ⟨c1, n1, m1, s1, b1, l1, r1, rfl⟩ := wf_mk hl
  obtain ⟨c2, n2, m2, s2, b2, l2, r2, rfl⟩ := wf_mk hr
  refine Rt.of pg_ok Tryd.func15 rfl Tryd.ntmps15 rfl Tryd.results15 Tryd.call15 fun H0 S0 w0 h0 g0 => ?_
  refine p2 ?_ rfl
  refine GO (level_rt 13) rfl ?_
  refine p2 ?_ rfl
  refine p2 ?_ rfl
  refine p1 ?_ rfl
  refine p2 ?_ rfl
  refine p1 ?_ rfl
  refine p2 ?_ rfl
  refine p2 ?_ rfl
  refine p1 ?_ rfl
  refine VM 2 ?_
  have hs1 : (bS (symX 13)).size = 1 := rfl
  have hA' : A.size = (bytesL (atX (.mk c1 n1 m1 s1 b1 l1 r1) 0)).length := by rw [← hA, bS_size]
  have hB' : B.size = (bytesL (atX (.mk c2 n2 m2 s2 b2 l2 r2) 1)).length := by rw [← hB, bS_size]
  have hfin : A ++ ⟨#[32]⟩ ++ bS (symX 13) ++ ⟨#[32]⟩ ++ B = bS (bytesL (atX (.mk c1 n1 m1 s1 b1 l1 r1) 0 ++ binX 13 :: atX (.mk c2 n2 m2 s2 b2 l2 r2) 1)) := by
    rw [bytes_bin, bS_append, bS_append, bS_append, bS_append, hA, hB]
    rfl
  refine JK.drawJ [] ⟨[(1, gi least), (5, gs (A ++ ⟨#[32]⟩ ++ bS (symX 13) ++ ⟨#[32]⟩ ++ B)), (6, gi ((0 : Nat) : Int))], [], 0⟩ pg_ok ?_ (fun hk => ?_)
  · rw [hfin]
    refine V ?_
    by_cases hlt : 0 < least
    · refine p1 ?_ (decide_eq_true (by omega))
      refine ⟨by rw [← hfin]; simp only [app_size, sz1]; omega, ?_⟩
      refine ⟨by rw [← hfin]; simp only [app_size, sz1]; omega, ?_⟩
      refine ⟨?_, rfl⟩
      show gs _ = gs _
      rw [decide_eq_true hlt]
      show _ = gs (bS (bytesL (parX _)))
      rw [bytes_par, bS_append, bS_append]
      rfl
    · refine p2 ?_ (decide_eq_false (by omega))
      refine ⟨?_, rfl⟩
      show gs _ = gs _
      rw [decide_eq_false hlt]
      rfl
  · refine RA.run (cx := ⟨pg, _, _, _, _, _, _, _⟩) pg_ok (by kernel_rfl) (by intro _ _ h; exact h) (tk [0, 1, 2, 3, 4, 8, 9, 10, 11, 12, 17, 18, 19, 20, 21, 22]) (e := false) (by kernel_rfl) ?_
    refine RA.both 5 7 (eqB_eq (by kernel_rfl)) (Stp.rt 5 h1 rfl rfl rfl ?_) (Stp.mem 7 pg_ok rfl rfl rfl ?_)
    · refine RA.run (cx := ⟨pg, _, _, _, _, _, _, _⟩) pg_ok (by kernel_rfl) (by intro _ _ h; exact h) (tk [6]) (e := false) (by kernel_rfl) ?_
      refine ⟨by simp only [app_size, sz1, hs1]; omega, ?_⟩
      refine RA.both 7 23 (eqB_eq (by kernel_rfl)) (Stp.mem 7 pg_ok rfl rfl rfl ?_) (Stp.rt 23 h2 rfl rfl rfl ?_)
      · refine RA.both 13 23 (eqB_eq (by kernel_rfl)) (Stp.read 13 pg_ok rfl rfl ?_) (Stp.rt 23 h2 rfl rfl rfl ?_)
        · refine ⟨by decide, by decide, ?_⟩
          refine RA.both 14 23 (eqB_eq (by kernel_rfl)) (Stp.read 14 pg_ok rfl rfl ?_) (Stp.rt 23 h2 rfl rfl rfl ?_)
          · refine ⟨[gs (bS (symX 13))], rfl, ?_⟩
            refine RA.run (cx := ⟨pg, _, _, _, _, _, _, _⟩) pg_ok (by kernel_rfl) (by intro _ _ h; exact h) (tk [15, 16]) (e := false) (by kernel_rfl) ?_
            refine ⟨by simp only [app_size, sz1, hs1]; omega, ?_⟩
            refine ⟨by simp only [app_size, sz1, hs1]; omega, ?_⟩
            refine RGO 23 false (tk [24, 25]) h2 rfl rfl (by kernel_rfl) ?_
            refine ⟨by simp only [app_size, sz1, hs1]; omega, ?_⟩
            exact RA.endJ id (by kernel_rfl) hk ⟨⟨rfl, rfl, rfl, trivial⟩, trivial, rfl⟩
          · refine RA.run (cx := ⟨pg, _, _, _, _, _, _, _⟩) pg_ok (by kernel_rfl) (by intro _ _ h; exact h) (al [14] ++ tk [15, 16, 24, 25]) (e := false) (by kernel_rfl) ?_
            refine ⟨[gs (bS (symX 13))], rfl, ?_⟩
            refine ⟨by simp only [app_size, sz1, hs1]; omega, ?_⟩
            refine ⟨by simp only [app_size, sz1, hs1]; omega, ?_⟩
            refine ⟨by simp only [app_size, sz1, hs1]; omega, ?_⟩
            exact RA.endJ id (by kernel_rfl) hk ⟨⟨rfl, rfl, rfl, trivial⟩, trivial, rfl⟩
        · refine RA.run (cx := ⟨pg, _, _, _, _, _, _, _⟩) pg_ok (by kernel_rfl) (by intro _ _ h; exact h) (al [13, 14] ++ tk [15, 16, 24, 25]) (e := false) (by kernel_rfl) ?_
          refine ⟨by decide, by decide, ?_⟩
          refine ⟨[gs (bS (symX 13))], rfl, ?_⟩
          refine ⟨by simp only [app_size, sz1, hs1]; omega, ?_⟩
          refine ⟨by simp only [app_size, sz1, hs1]; omega, ?_⟩
          refine ⟨by simp only [app_size, sz1, hs1]; omega, ?_⟩
          exact RA.endJ id (by kernel_rfl) hk ⟨⟨rfl, rfl, rfl, trivial⟩, trivial, rfl⟩
      · refine RA.run (cx := ⟨pg, _, _, _, _, _, _, _⟩) pg_ok (by kernel_rfl) (by intro _ _ h; exact h) (al [7, 13, 14] ++ tk [15, 16, 24, 25]) (e := false) (by kernel_rfl) ?_
        refine ⟨by decide, by decide, ?_⟩
        refine ⟨[gs (bS (symX 13))], rfl, ?_⟩
        refine ⟨by simp only [app_size, sz1, hs1]; omega, ?_⟩
        refine ⟨by simp only [app_size, sz1, hs1]; omega, ?_⟩
        refine ⟨by simp only [app_size, sz1, hs1]; omega, ?_⟩
        exact RA.endJ id (by kernel_rfl) hk ⟨⟨rfl, rfl, rfl, trivial⟩, trivial, rfl⟩
    · refine RA.both 5 13 (eqB_eq (by kernel_rfl)) (Stp.rt 5 h1 rfl rfl rfl ?_) (Stp.read 13 pg_ok rfl rfl ?_)
      · refine RA.run (cx := ⟨pg, _, _, _, _, _, _, _⟩) pg_ok (by kernel_rfl) (by intro _ _ h; exact h) (tk [6]) (e := false) (by kernel_rfl) ?_
        refine ⟨by simp only [app_size, sz1, hs1]; omega, ?_⟩
        refine RA.both 13 23 (eqB_eq (by kernel_rfl)) (Stp.read 13 pg_ok rfl rfl ?_) (Stp.rt 23 h2 rfl rfl rfl ?_)
        · refine ⟨by decide, by decide, ?_⟩
          refine RA.both 14 23 (eqB_eq (by kernel_rfl)) (Stp.read 14 pg_ok rfl rfl ?_) (Stp.rt 23 h2 rfl rfl rfl ?_)
          · refine ⟨[gs (bS (symX 13))], rfl, ?_⟩
            refine RA.run (cx := ⟨pg, _, _, _, _, _, _, _⟩) pg_ok (by kernel_rfl) (by intro _ _ h; exact h) (tk [15, 16]) (e := false) (by kernel_rfl) ?_
            refine ⟨by simp only [app_size, sz1, hs1]; omega, ?_⟩
            refine ⟨by simp only [app_size, sz1, hs1]; omega, ?_⟩
            refine RGO 23 false (tk [24, 25]) h2 rfl rfl (by kernel_rfl) ?_
            refine ⟨by simp only [app_size, sz1, hs1]; omega, ?_⟩
            exact RA.endJ id (by kernel_rfl) hk ⟨⟨rfl, rfl, rfl, trivial⟩, trivial, rfl⟩
          · refine RA.run (cx := ⟨pg, _, _, _, _, _, _, _⟩) pg_ok (by kernel_rfl) (by intro _ _ h; exact h) (al [14] ++ tk [15, 16, 24, 25]) (e := false) (by kernel_rfl) ?_
            refine ⟨[gs (bS (symX 13))], rfl, ?_⟩
            refine ⟨by simp only [app_size, sz1, hs1]; omega, ?_⟩
            refine ⟨by simp only [app_size, sz1, hs1]; omega, ?_⟩
            refine ⟨by simp only [app_size, sz1, hs1]; omega, ?_⟩
            exact RA.endJ id (by kernel_rfl) hk ⟨⟨rfl, rfl, rfl, trivial⟩, trivial, rfl⟩
        · refine RA.run (cx := ⟨pg, _, _, _, _, _, _, _⟩) pg_ok (by kernel_rfl) (by intro _ _ h; exact h) (al [13, 14] ++ tk [15, 16, 24, 25]) (e := false) (by kernel_rfl) ?_
          refine ⟨by decide, by decide, ?_⟩
          refine ⟨[gs (bS (symX 13))], rfl, ?_⟩
          refine ⟨by simp only [app_size, sz1, hs1]; omega, ?_⟩
          refine ⟨by simp only [app_size, sz1, hs1]; omega, ?_⟩
          refine ⟨by simp only [app_size, sz1, hs1]; omega, ?_⟩
          exact RA.endJ id (by kernel_rfl) hk ⟨⟨rfl, rfl, rfl, trivial⟩, trivial, rfl⟩
      · refine ⟨by decide, by decide, ?_⟩
        refine RA.both 5 14 (eqB_eq (by kernel_rfl)) (Stp.rt 5 h1 rfl rfl rfl ?_) (Stp.read 14 pg_ok rfl rfl ?_)
        · refine RA.run (cx := ⟨pg, _, _, _, _, _, _, _⟩) pg_ok (by kernel_rfl) (by intro _ _ h; exact h) (tk [6]) (e := false) (by kernel_rfl) ?_
          refine ⟨by simp only [app_size, sz1, hs1]; omega, ?_⟩
          refine RA.both 14 23 (eqB_eq (by kernel_rfl)) (Stp.read 14 pg_ok rfl rfl ?_) (Stp.rt 23 h2 rfl rfl rfl ?_)
          · refine ⟨[gs (bS (symX 13))], rfl, ?_⟩
            refine RA.run (cx := ⟨pg, _, _, _, _, _, _, _⟩) pg_ok (by kernel_rfl) (by intro _ _ h; exact h) (tk [15, 16]) (e := false) (by kernel_rfl) ?_
            refine ⟨by simp only [app_size, sz1, hs1]; omega, ?_⟩
            refine ⟨by simp only [app_size, sz1, hs1]; omega, ?_⟩
            refine RGO 23 false (tk [24, 25]) h2 rfl rfl (by kernel_rfl) ?_
            refine ⟨by simp only [app_size, sz1, hs1]; omega, ?_⟩
            exact RA.endJ id (by kernel_rfl) hk ⟨⟨rfl, rfl, rfl, trivial⟩, trivial, rfl⟩
          · refine RA.run (cx := ⟨pg, _, _, _, _, _, _, _⟩) pg_ok (by kernel_rfl) (by intro _ _ h; exact h) (al [14] ++ tk [15, 16, 24, 25]) (e := false) (by kernel_rfl) ?_
            refine ⟨[gs (bS (symX 13))], rfl, ?_⟩
            refine ⟨by simp only [app_size, sz1, hs1]; omega, ?_⟩
            refine ⟨by simp only [app_size, sz1, hs1]; omega, ?_⟩
            refine ⟨by simp only [app_size, sz1, hs1]; omega, ?_⟩
            exact RA.endJ id (by kernel_rfl) hk ⟨⟨rfl, rfl, rfl, trivial⟩, trivial, rfl⟩
        · refine ⟨[gs (bS (symX 13))], rfl, ?_⟩
          refine RGO 5 false (tk [6, 15, 16]) h1 rfl rfl (by kernel_rfl) ?_
          refine ⟨by simp only [app_size, sz1, hs1]; omega, ?_⟩
          refine ⟨by simp only [app_size, sz1, hs1]; omega, ?_⟩
          refine ⟨by simp only [app_size, sz1, hs1]; omega, ?_⟩
          refine RGO 23 false (tk [24, 25]) h2 rfl rfl (by kernel_rfl) ?_
          refine ⟨by simp only [app_size, sz1, hs1]; omega, ?_⟩
          exact RA.endJ id (by kernel_rfl) hk ⟨⟨rfl, rfl, rfl, trivial⟩, trivial, rfl⟩
theorem at_14 (l r : Qn) (hl : Wf l) (hr : Wf r) (ih1 : AtOk l) (ih2 : AtOk r) : AtOk (.mk 14 0 [] 0 [] l r) := by
  intro least hle hb
  have hx : atX (.mk 14 0 [] 0 [] l r) least = ifP (decide (0 < least)) (atX l 0 ++ binX 14 :: atX r 1) := atX_add 1 (by decide) l r least
  rw [hx] at hb ⊢
  have hb2 : (bytesL (atX l 0 ++ binX 14 :: atX r 1)).length ≤ 1000000 := by
    refine Nat.le_trans ?_ hb
    unfold ifP
    split
    · rw [bytes_par]; simp only [List.length_append]; omega
    · exact Nat.le_refl _
  rw [bytes_bin] at hb2
  have hsy : (symX 14).length = 1 := rfl
  simp only [List.length_append, hsy, List.length_cons, List.length_nil] at hb2
  have h1 := ih1 0 (by decide) (by omega)
  have h2 := ih2 1 (by decide) (by omega)
  clear ih1 ih2
  generalize hA : bS (bytesL (atX l 0)) = A at h1
  generalize hB : bS (bytesL (atX r 1)) = B at h2
  obtain ⟨c1, n1, m1, s1, b1, l1, r1, rfl⟩ := wf_mk hl
  obtain ⟨c2, n2, m2, s2, b2, l2, r2, rfl⟩ := wf_mk hr
  refine Rt.of pg_ok Tryd.func15 rfl Tryd.ntmps15 rfl Tryd.results15 Tryd.call15 fun H0 S0 w0 h0 g0 => ?_
  refine p2 ?_ rfl
  refine GO (level_rt 14) rfl ?_
  refine p2 ?_ rfl
  refine p2 ?_ rfl
  refine p1 ?_ rfl
  refine p2 ?_ rfl
  refine p1 ?_ rfl
  refine p2 ?_ rfl
  refine p2 ?_ rfl
  refine p1 ?_ rfl
  refine VM 2 ?_
  have hs1 : (bS (symX 14)).size = 1 := rfl
  have hA' : A.size = (bytesL (atX (.mk c1 n1 m1 s1 b1 l1 r1) 0)).length := by rw [← hA, bS_size]
  have hB' : B.size = (bytesL (atX (.mk c2 n2 m2 s2 b2 l2 r2) 1)).length := by rw [← hB, bS_size]
  have hfin : A ++ ⟨#[32]⟩ ++ bS (symX 14) ++ ⟨#[32]⟩ ++ B = bS (bytesL (atX (.mk c1 n1 m1 s1 b1 l1 r1) 0 ++ binX 14 :: atX (.mk c2 n2 m2 s2 b2 l2 r2) 1)) := by
    rw [bytes_bin, bS_append, bS_append, bS_append, bS_append, hA, hB]
    rfl
  refine JK.drawJ [] ⟨[(1, gi least), (5, gs (A ++ ⟨#[32]⟩ ++ bS (symX 14) ++ ⟨#[32]⟩ ++ B)), (6, gi ((0 : Nat) : Int))], [], 0⟩ pg_ok ?_ (fun hk => ?_)
  · rw [hfin]
    refine V ?_
    by_cases hlt : 0 < least
    · refine p1 ?_ (decide_eq_true (by omega))
      refine ⟨by rw [← hfin]; simp only [app_size, sz1]; omega, ?_⟩
      refine ⟨by rw [← hfin]; simp only [app_size, sz1]; omega, ?_⟩
      refine ⟨?_, rfl⟩
      show gs _ = gs _
      rw [decide_eq_true hlt]
      show _ = gs (bS (bytesL (parX _)))
      rw [bytes_par, bS_append, bS_append]
      rfl
    · refine p2 ?_ (decide_eq_false (by omega))
      refine ⟨?_, rfl⟩
      show gs _ = gs _
      rw [decide_eq_false hlt]
      rfl
  · refine RA.run (cx := ⟨pg, _, _, _, _, _, _, _⟩) pg_ok (by kernel_rfl) (by intro _ _ h; exact h) (tk [0, 1, 2, 3, 4, 8, 9, 10, 11, 12, 17, 18, 19, 20, 21, 22]) (e := false) (by kernel_rfl) ?_
    refine RA.both 5 7 (eqB_eq (by kernel_rfl)) (Stp.rt 5 h1 rfl rfl rfl ?_) (Stp.mem 7 pg_ok rfl rfl rfl ?_)
    · refine RA.run (cx := ⟨pg, _, _, _, _, _, _, _⟩) pg_ok (by kernel_rfl) (by intro _ _ h; exact h) (tk [6]) (e := false) (by kernel_rfl) ?_
      refine ⟨by simp only [app_size, sz1, hs1]; omega, ?_⟩
      refine RA.both 7 23 (eqB_eq (by kernel_rfl)) (Stp.mem 7 pg_ok rfl rfl rfl ?_) (Stp.rt 23 h2 rfl rfl rfl ?_)
      · refine RA.both 13 23 (eqB_eq (by kernel_rfl)) (Stp.read 13 pg_ok rfl rfl ?_) (Stp.rt 23 h2 rfl rfl rfl ?_)
        · refine ⟨by decide, by decide, ?_⟩
          refine RA.both 14 23 (eqB_eq (by kernel_rfl)) (Stp.read 14 pg_ok rfl rfl ?_) (Stp.rt 23 h2 rfl rfl rfl ?_)
          · refine ⟨[gs (bS (symX 14))], rfl, ?_⟩
            refine RA.run (cx := ⟨pg, _, _, _, _, _, _, _⟩) pg_ok (by kernel_rfl) (by intro _ _ h; exact h) (tk [15, 16]) (e := false) (by kernel_rfl) ?_
            refine ⟨by simp only [app_size, sz1, hs1]; omega, ?_⟩
            refine ⟨by simp only [app_size, sz1, hs1]; omega, ?_⟩
            refine RGO 23 false (tk [24, 25]) h2 rfl rfl (by kernel_rfl) ?_
            refine ⟨by simp only [app_size, sz1, hs1]; omega, ?_⟩
            exact RA.endJ id (by kernel_rfl) hk ⟨⟨rfl, rfl, rfl, trivial⟩, trivial, rfl⟩
          · refine RA.run (cx := ⟨pg, _, _, _, _, _, _, _⟩) pg_ok (by kernel_rfl) (by intro _ _ h; exact h) (al [14] ++ tk [15, 16, 24, 25]) (e := false) (by kernel_rfl) ?_
            refine ⟨[gs (bS (symX 14))], rfl, ?_⟩
            refine ⟨by simp only [app_size, sz1, hs1]; omega, ?_⟩
            refine ⟨by simp only [app_size, sz1, hs1]; omega, ?_⟩
            refine ⟨by simp only [app_size, sz1, hs1]; omega, ?_⟩
            exact RA.endJ id (by kernel_rfl) hk ⟨⟨rfl, rfl, rfl, trivial⟩, trivial, rfl⟩
        · refine RA.run (cx := ⟨pg, _, _, _, _, _, _, _⟩) pg_ok (by kernel_rfl) (by intro _ _ h; exact h) (al [13, 14] ++ tk [15, 16, 24, 25]) (e := false) (by kernel_rfl) ?_
          refine ⟨by decide, by decide, ?_⟩
          refine ⟨[gs (bS (symX 14))], rfl, ?_⟩
          refine ⟨by simp only [app_size, sz1, hs1]; omega, ?_⟩
          refine ⟨by simp only [app_size, sz1, hs1]; omega, ?_⟩
          refine ⟨by simp only [app_size, sz1, hs1]; omega, ?_⟩
          exact RA.endJ id (by kernel_rfl) hk ⟨⟨rfl, rfl, rfl, trivial⟩, trivial, rfl⟩
      · refine RA.run (cx := ⟨pg, _, _, _, _, _, _, _⟩) pg_ok (by kernel_rfl) (by intro _ _ h; exact h) (al [7, 13, 14] ++ tk [15, 16, 24, 25]) (e := false) (by kernel_rfl) ?_
        refine ⟨by decide, by decide, ?_⟩
        refine ⟨[gs (bS (symX 14))], rfl, ?_⟩
        refine ⟨by simp only [app_size, sz1, hs1]; omega, ?_⟩
        refine ⟨by simp only [app_size, sz1, hs1]; omega, ?_⟩
        refine ⟨by simp only [app_size, sz1, hs1]; omega, ?_⟩
        exact RA.endJ id (by kernel_rfl) hk ⟨⟨rfl, rfl, rfl, trivial⟩, trivial, rfl⟩
    · refine RA.both 5 13 (eqB_eq (by kernel_rfl)) (Stp.rt 5 h1 rfl rfl rfl ?_) (Stp.read 13 pg_ok rfl rfl ?_)
      · refine RA.run (cx := ⟨pg, _, _, _, _, _, _, _⟩) pg_ok (by kernel_rfl) (by intro _ _ h; exact h) (tk [6]) (e := false) (by kernel_rfl) ?_
        refine ⟨by simp only [app_size, sz1, hs1]; omega, ?_⟩
        refine RA.both 13 23 (eqB_eq (by kernel_rfl)) (Stp.read 13 pg_ok rfl rfl ?_) (Stp.rt 23 h2 rfl rfl rfl ?_)
        · refine ⟨by decide, by decide, ?_⟩
          refine RA.both 14 23 (eqB_eq (by kernel_rfl)) (Stp.read 14 pg_ok rfl rfl ?_) (Stp.rt 23 h2 rfl rfl rfl ?_)
          · refine ⟨[gs (bS (symX 14))], rfl, ?_⟩
            refine RA.run (cx := ⟨pg, _, _, _, _, _, _, _⟩) pg_ok (by kernel_rfl) (by intro _ _ h; exact h) (tk [15, 16]) (e := false) (by kernel_rfl) ?_
            refine ⟨by simp only [app_size, sz1, hs1]; omega, ?_⟩
            refine ⟨by simp only [app_size, sz1, hs1]; omega, ?_⟩
            refine RGO 23 false (tk [24, 25]) h2 rfl rfl (by kernel_rfl) ?_
            refine ⟨by simp only [app_size, sz1, hs1]; omega, ?_⟩
            exact RA.endJ id (by kernel_rfl) hk ⟨⟨rfl, rfl, rfl, trivial⟩, trivial, rfl⟩
          · refine RA.run (cx := ⟨pg, _, _, _, _, _, _, _⟩) pg_ok (by kernel_rfl) (by intro _ _ h; exact h) (al [14] ++ tk [15, 16, 24, 25]) (e := false) (by kernel_rfl) ?_
            refine ⟨[gs (bS (symX 14))], rfl, ?_⟩
            refine ⟨by simp only [app_size, sz1, hs1]; omega, ?_⟩
            refine ⟨by simp only [app_size, sz1, hs1]; omega, ?_⟩
            refine ⟨by simp only [app_size, sz1, hs1]; omega, ?_⟩
            exact RA.endJ id (by kernel_rfl) hk ⟨⟨rfl, rfl, rfl, trivial⟩, trivial, rfl⟩
        · refine RA.run (cx := ⟨pg, _, _, _, _, _, _, _⟩) pg_ok (by kernel_rfl) (by intro _ _ h; exact h) (al [13, 14] ++ tk [15, 16, 24, 25]) (e := false) (by kernel_rfl) ?_
          refine ⟨by decide, by decide, ?_⟩
          refine ⟨[gs (bS (symX 14))], rfl, ?_⟩
          refine ⟨by simp only [app_size, sz1, hs1]; omega, ?_⟩
          refine ⟨by simp only [app_size, sz1, hs1]; omega, ?_⟩
          refine ⟨by simp only [app_size, sz1, hs1]; omega, ?_⟩
          exact RA.endJ id (by kernel_rfl) hk ⟨⟨rfl, rfl, rfl, trivial⟩, trivial, rfl⟩
      · refine ⟨by decide, by decide, ?_⟩
        refine RA.both 5 14 (eqB_eq (by kernel_rfl)) (Stp.rt 5 h1 rfl rfl rfl ?_) (Stp.read 14 pg_ok rfl rfl ?_)
        · refine RA.run (cx := ⟨pg, _, _, _, _, _, _, _⟩) pg_ok (by kernel_rfl) (by intro _ _ h; exact h) (tk [6]) (e := false) (by kernel_rfl) ?_
          refine ⟨by simp only [app_size, sz1, hs1]; omega, ?_⟩
          refine RA.both 14 23 (eqB_eq (by kernel_rfl)) (Stp.read 14 pg_ok rfl rfl ?_) (Stp.rt 23 h2 rfl rfl rfl ?_)
          · refine ⟨[gs (bS (symX 14))], rfl, ?_⟩
            refine RA.run (cx := ⟨pg, _, _, _, _, _, _, _⟩) pg_ok (by kernel_rfl) (by intro _ _ h; exact h) (tk [15, 16]) (e := false) (by kernel_rfl) ?_
            refine ⟨by simp only [app_size, sz1, hs1]; omega, ?_⟩
            refine ⟨by simp only [app_size, sz1, hs1]; omega, ?_⟩
            refine RGO 23 false (tk [24, 25]) h2 rfl rfl (by kernel_rfl) ?_
            refine ⟨by simp only [app_size, sz1, hs1]; omega, ?_⟩
            exact RA.endJ id (by kernel_rfl) hk ⟨⟨rfl, rfl, rfl, trivial⟩, trivial, rfl⟩
          · refine RA.run (cx := ⟨pg, _, _, _, _, _, _, _⟩) pg_ok (by kernel_rfl) (by intro _ _ h; exact h) (al [14] ++ tk [15, 16, 24, 25]) (e := false) (by kernel_rfl) ?_
            refine ⟨[gs (bS (symX 14))], rfl, ?_⟩
            refine ⟨by simp only [app_size, sz1, hs1]; omega, ?_⟩
            refine ⟨by simp only [app_size, sz1, hs1]; omega, ?_⟩
            refine ⟨by simp only [app_size, sz1, hs1]; omega, ?_⟩
            exact RA.endJ id (by kernel_rfl) hk ⟨⟨rfl, rfl, rfl, trivial⟩, trivial, rfl⟩
        · refine ⟨[gs (bS (symX 14))], rfl, ?_⟩
          refine RGO 5 false (tk [6, 15, 16]) h1 rfl rfl (by kernel_rfl) ?_
          refine ⟨by simp only [app_size, sz1, hs1]; omega, ?_⟩
          refine ⟨by simp only [app_size, sz1, hs1]; omega, ?_⟩
          refine ⟨by simp only [app_size, sz1, hs1]; omega, ?_⟩
          refine RGO 23 false (tk [24, 25]) h2 rfl rfl (by kernel_rfl) ?_
          refine ⟨by simp only [app_size, sz1, hs1]; omega, ?_⟩
          exact RA.endJ id (by kernel_rfl) hk ⟨⟨rfl, rfl, rfl, trivial⟩, trivial, rfl⟩
theorem at_15 (l r : Qn) (hl : Wf l) (hr : Wf r) (ih1 : AtOk l) (ih2 : AtOk r) : AtOk (.mk 15 0 [] 0 [] l r) := by
  intro least hle hb
  have hx : atX (.mk 15 0 [] 0 [] l r) least = ifP (decide (1 < least)) (atX l 1 ++ binX 15 :: atX r 2) := atX_mul 0 (by decide) l r least
  rw [hx] at hb ⊢
  have hb2 : (bytesL (atX l 1 ++ binX 15 :: atX r 2)).length ≤ 1000000 := by
    refine Nat.le_trans ?_ hb
    unfold ifP
    split
    · rw [bytes_par]; simp only [List.length_append]; omega
    · exact Nat.le_refl _
  rw [bytes_bin] at hb2
  have hsy : (symX 15).length = 1 := rfl
  simp only [List.length_append, hsy, List.length_cons, List.length_nil] at hb2
  have h1 := ih1 1 (by decide) (by omega)
  have h2 := ih2 2 (by decide) (by omega)
  clear ih1 ih2
  generalize hA : bS (bytesL (atX l 1)) = A at h1
  generalize hB : bS (bytesL (atX r 2)) = B at h2
  obtain ⟨c1, n1, m1, s1, b1, l1, r1, rfl⟩ := wf_mk hl
  obtain ⟨c2, n2, m2, s2, b2, l2, r2, rfl⟩ := wf_mk hr
  refine Rt.of pg_ok Tryd.func15 rfl Tryd.ntmps15 rfl Tryd.results15 Tryd.call15 fun H0 S0 w0 h0 g0 => ?_
  refine p2 ?_ rfl
  refine GO (level_rt 15) rfl ?_
  refine p2 ?_ rfl
  refine p2 ?_ rfl
  refine p1 ?_ rfl
  refine p2 ?_ rfl
  refine p1 ?_ rfl
  refine p2 ?_ rfl
  refine p2 ?_ rfl
  refine p1 ?_ rfl
  refine VM 2 ?_
  have hs1 : (bS (symX 15)).size = 1 := rfl
  have hA' : A.size = (bytesL (atX (.mk c1 n1 m1 s1 b1 l1 r1) 1)).length := by rw [← hA, bS_size]
  have hB' : B.size = (bytesL (atX (.mk c2 n2 m2 s2 b2 l2 r2) 2)).length := by rw [← hB, bS_size]
  have hfin : A ++ ⟨#[32]⟩ ++ bS (symX 15) ++ ⟨#[32]⟩ ++ B = bS (bytesL (atX (.mk c1 n1 m1 s1 b1 l1 r1) 1 ++ binX 15 :: atX (.mk c2 n2 m2 s2 b2 l2 r2) 2)) := by
    rw [bytes_bin, bS_append, bS_append, bS_append, bS_append, hA, hB]
    rfl
  refine JK.drawJ [] ⟨[(1, gi least), (5, gs (A ++ ⟨#[32]⟩ ++ bS (symX 15) ++ ⟨#[32]⟩ ++ B)), (6, gi ((1 : Nat) : Int))], [], 0⟩ pg_ok ?_ (fun hk => ?_)
  · rw [hfin]
    refine V ?_
    by_cases hlt : 1 < least
    · refine p1 ?_ (decide_eq_true (by omega))
      refine ⟨by rw [← hfin]; simp only [app_size, sz1]; omega, ?_⟩
      refine ⟨by rw [← hfin]; simp only [app_size, sz1]; omega, ?_⟩
      refine ⟨?_, rfl⟩
      show gs _ = gs _
      rw [decide_eq_true hlt]
      show _ = gs (bS (bytesL (parX _)))
      rw [bytes_par, bS_append, bS_append]
      rfl
    · refine p2 ?_ (decide_eq_false (by omega))
      refine ⟨?_, rfl⟩
      show gs _ = gs _
      rw [decide_eq_false hlt]
      rfl
  · refine RA.run (cx := ⟨pg, _, _, _, _, _, _, _⟩) pg_ok (by kernel_rfl) (by intro _ _ h; exact h) (tk [0, 1, 2, 3, 4, 8, 9, 10, 11, 12, 17, 18, 19, 20, 21, 22]) (e := false) (by kernel_rfl) ?_
    refine RA.both 5 7 (eqB_eq (by kernel_rfl)) (Stp.rt 5 h1 rfl rfl rfl ?_) (Stp.mem 7 pg_ok rfl rfl rfl ?_)
    · refine RA.run (cx := ⟨pg, _, _, _, _, _, _, _⟩) pg_ok (by kernel_rfl) (by intro _ _ h; exact h) (tk [6]) (e := false) (by kernel_rfl) ?_
      refine ⟨by simp only [app_size, sz1, hs1]; omega, ?_⟩
      refine RA.both 7 23 (eqB_eq (by kernel_rfl)) (Stp.mem 7 pg_ok rfl rfl rfl ?_) (Stp.rt 23 h2 rfl rfl rfl ?_)
      · refine RA.both 13 23 (eqB_eq (by kernel_rfl)) (Stp.read 13 pg_ok rfl rfl ?_) (Stp.rt 23 h2 rfl rfl rfl ?_)
        · refine ⟨by decide, by decide, ?_⟩
          refine RA.both 14 23 (eqB_eq (by kernel_rfl)) (Stp.read 14 pg_ok rfl rfl ?_) (Stp.rt 23 h2 rfl rfl rfl ?_)
          · refine ⟨[gs (bS (symX 15))], rfl, ?_⟩
            refine RA.run (cx := ⟨pg, _, _, _, _, _, _, _⟩) pg_ok (by kernel_rfl) (by intro _ _ h; exact h) (tk [15, 16]) (e := false) (by kernel_rfl) ?_
            refine ⟨by simp only [app_size, sz1, hs1]; omega, ?_⟩
            refine ⟨by simp only [app_size, sz1, hs1]; omega, ?_⟩
            refine RGO 23 false (tk [24, 25]) h2 rfl rfl (by kernel_rfl) ?_
            refine ⟨by simp only [app_size, sz1, hs1]; omega, ?_⟩
            exact RA.endJ id (by kernel_rfl) hk ⟨⟨rfl, rfl, rfl, trivial⟩, trivial, rfl⟩
          · refine RA.run (cx := ⟨pg, _, _, _, _, _, _, _⟩) pg_ok (by kernel_rfl) (by intro _ _ h; exact h) (al [14] ++ tk [15, 16, 24, 25]) (e := false) (by kernel_rfl) ?_
            refine ⟨[gs (bS (symX 15))], rfl, ?_⟩
            refine ⟨by simp only [app_size, sz1, hs1]; omega, ?_⟩
            refine ⟨by simp only [app_size, sz1, hs1]; omega, ?_⟩
            refine ⟨by simp only [app_size, sz1, hs1]; omega, ?_⟩
            exact RA.endJ id (by kernel_rfl) hk ⟨⟨rfl, rfl, rfl, trivial⟩, trivial, rfl⟩
        · refine RA.run (cx := ⟨pg, _, _, _, _, _, _, _⟩) pg_ok (by kernel_rfl) (by intro _ _ h; exact h) (al [13, 14] ++ tk [15, 16, 24, 25]) (e := false) (by kernel_rfl) ?_
          refine ⟨by decide, by decide, ?_⟩
          refine ⟨[gs (bS (symX 15))], rfl, ?_⟩
          refine ⟨by simp only [app_size, sz1, hs1]; omega, ?_⟩
          refine ⟨by simp only [app_size, sz1, hs1]; omega, ?_⟩
          refine ⟨by simp only [app_size, sz1, hs1]; omega, ?_⟩
          exact RA.endJ id (by kernel_rfl) hk ⟨⟨rfl, rfl, rfl, trivial⟩, trivial, rfl⟩
      · refine RA.run (cx := ⟨pg, _, _, _, _, _, _, _⟩) pg_ok (by kernel_rfl) (by intro _ _ h; exact h) (al [7, 13, 14] ++ tk [15, 16, 24, 25]) (e := false) (by kernel_rfl) ?_
        refine ⟨by decide, by decide, ?_⟩
        refine ⟨[gs (bS (symX 15))], rfl, ?_⟩
        refine ⟨by simp only [app_size, sz1, hs1]; omega, ?_⟩
        refine ⟨by simp only [app_size, sz1, hs1]; omega, ?_⟩
        refine ⟨by simp only [app_size, sz1, hs1]; omega, ?_⟩
        exact RA.endJ id (by kernel_rfl) hk ⟨⟨rfl, rfl, rfl, trivial⟩, trivial, rfl⟩
    · refine RA.both 5 13 (eqB_eq (by kernel_rfl)) (Stp.rt 5 h1 rfl rfl rfl ?_) (Stp.read 13 pg_ok rfl rfl ?_)
      · refine RA.run (cx := ⟨pg, _, _, _, _, _, _, _⟩) pg_ok (by kernel_rfl) (by intro _ _ h; exact h) (tk [6]) (e := false) (by kernel_rfl) ?_
        refine ⟨by simp only [app_size, sz1, hs1]; omega, ?_⟩
        refine RA.both 13 23 (eqB_eq (by kernel_rfl)) (Stp.read 13 pg_ok rfl rfl ?_) (Stp.rt 23 h2 rfl rfl rfl ?_)
        · refine ⟨by decide, by decide, ?_⟩
          refine RA.both 14 23 (eqB_eq (by kernel_rfl)) (Stp.read 14 pg_ok rfl rfl ?_) (Stp.rt 23 h2 rfl rfl rfl ?_)
          · refine ⟨[gs (bS (symX 15))], rfl, ?_⟩
            refine RA.run (cx := ⟨pg, _, _, _, _, _, _, _⟩) pg_ok (by kernel_rfl) (by intro _ _ h; exact h) (tk [15, 16]) (e := false) (by kernel_rfl) ?_
            refine ⟨by simp only [app_size, sz1, hs1]; omega, ?_⟩
            refine ⟨by simp only [app_size, sz1, hs1]; omega, ?_⟩
            refine RGO 23 false (tk [24, 25]) h2 rfl rfl (by kernel_rfl) ?_
            refine ⟨by simp only [app_size, sz1, hs1]; omega, ?_⟩
            exact RA.endJ id (by kernel_rfl) hk ⟨⟨rfl, rfl, rfl, trivial⟩, trivial, rfl⟩
          · refine RA.run (cx := ⟨pg, _, _, _, _, _, _, _⟩) pg_ok (by kernel_rfl) (by intro _ _ h; exact h) (al [14] ++ tk [15, 16, 24, 25]) (e := false) (by kernel_rfl) ?_
            refine ⟨[gs (bS (symX 15))], rfl, ?_⟩
            refine ⟨by simp only [app_size, sz1, hs1]; omega, ?_⟩
            refine ⟨by simp only [app_size, sz1, hs1]; omega, ?_⟩
            refine ⟨by simp only [app_size, sz1, hs1]; omega, ?_⟩
            exact RA.endJ id (by kernel_rfl) hk ⟨⟨rfl, rfl, rfl, trivial⟩, trivial, rfl⟩
        · refine RA.run (cx := ⟨pg, _, _, _, _, _, _, _⟩) pg_ok (by kernel_rfl) (by intro _ _ h; exact h) (al [13, 14] ++ tk [15, 16, 24, 25]) (e := false) (by kernel_rfl) ?_
          refine ⟨by decide, by decide, ?_⟩
          refine ⟨[gs (bS (symX 15))], rfl, ?_⟩
          refine ⟨by simp only [app_size, sz1, hs1]; omega, ?_⟩
          refine ⟨by simp only [app_size, sz1, hs1]; omega, ?_⟩
          refine ⟨by simp only [app_size, sz1, hs1]; omega, ?_⟩
          exact RA.endJ id (by kernel_rfl) hk ⟨⟨rfl, rfl, rfl, trivial⟩, trivial, rfl⟩
      · refine ⟨by decide, by decide, ?_⟩
        refine RA.both 5 14 (eqB_eq (by kernel_rfl)) (Stp.rt 5 h1 rfl rfl rfl ?_) (Stp.read 14 pg_ok rfl rfl ?_)
        · refine RA.run (cx := ⟨pg, _, _, _, _, _, _, _⟩) pg_ok (by kernel_rfl) (by intro _ _ h; exact h) (tk [6]) (e := false) (by kernel_rfl) ?_
          refine ⟨by simp only [app_size, sz1, hs1]; omega, ?_⟩
          refine RA.both 14 23 (eqB_eq (by kernel_rfl)) (Stp.read 14 pg_ok rfl rfl ?_) (Stp.rt 23 h2 rfl rfl rfl ?_)
          · refine ⟨[gs (bS (symX 15))], rfl, ?_⟩
            refine RA.run (cx := ⟨pg, _, _, _, _, _, _, _⟩) pg_ok (by kernel_rfl) (by intro _ _ h; exact h) (tk [15, 16]) (e := false) (by kernel_rfl) ?_
            refine ⟨by simp only [app_size, sz1, hs1]; omega, ?_⟩
            refine ⟨by simp only [app_size, sz1, hs1]; omega, ?_⟩
            refine RGO 23 false (tk [24, 25]) h2 rfl rfl (by kernel_rfl) ?_
            refine ⟨by simp only [app_size, sz1, hs1]; omega, ?_⟩
            exact RA.endJ id (by kernel_rfl) hk ⟨⟨rfl, rfl, rfl, trivial⟩, trivial, rfl⟩
          · refine RA.run (cx := ⟨pg, _, _, _, _, _, _, _⟩) pg_ok (by kernel_rfl) (by intro _ _ h; exact h) (al [14] ++ tk [15, 16, 24, 25]) (e := false) (by kernel_rfl) ?_
            refine ⟨[gs (bS (symX 15))], rfl, ?_⟩
            refine ⟨by simp only [app_size, sz1, hs1]; omega, ?_⟩
            refine ⟨by simp only [app_size, sz1, hs1]; omega, ?_⟩
            refine ⟨by simp only [app_size, sz1, hs1]; omega, ?_⟩
            exact RA.endJ id (by kernel_rfl) hk ⟨⟨rfl, rfl, rfl, trivial⟩, trivial, rfl⟩
        · refine ⟨[gs (bS (symX 15))], rfl, ?_⟩
          refine RGO 5 false (tk [6, 15, 16]) h1 rfl rfl (by kernel_rfl) ?_
          refine ⟨by simp only [app_size, sz1, hs1]; omega, ?_⟩
          refine ⟨by simp only [app_size, sz1, hs1]; omega, ?_⟩
          refine ⟨by simp only [app_size, sz1, hs1]; omega, ?_⟩
          refine RGO 23 false (tk [24, 25]) h2 rfl rfl (by kernel_rfl) ?_
          refine ⟨by simp only [app_size, sz1, hs1]; omega, ?_⟩
          exact RA.endJ id (by kernel_rfl) hk ⟨⟨rfl, rfl, rfl, trivial⟩, trivial, rfl⟩
theorem at_16 (l r : Qn) (hl : Wf l) (hr : Wf r) (ih1 : AtOk l) (ih2 : AtOk r) : AtOk (.mk 16 0 [] 0 [] l r) := by
  intro least hle hb
  have hx : atX (.mk 16 0 [] 0 [] l r) least = ifP (decide (1 < least)) (atX l 1 ++ binX 16 :: atX r 2) := atX_mul 1 (by decide) l r least
  rw [hx] at hb ⊢
  have hb2 : (bytesL (atX l 1 ++ binX 16 :: atX r 2)).length ≤ 1000000 := by
    refine Nat.le_trans ?_ hb
    unfold ifP
    split
    · rw [bytes_par]; simp only [List.length_append]; omega
    · exact Nat.le_refl _
  rw [bytes_bin] at hb2
  have hsy : (symX 16).length = 1 := rfl
  simp only [List.length_append, hsy, List.length_cons, List.length_nil] at hb2
  have h1 := ih1 1 (by decide) (by omega)
  have h2 := ih2 2 (by decide) (by omega)
  clear ih1 ih2
  generalize hA : bS (bytesL (atX l 1)) = A at h1
  generalize hB : bS (bytesL (atX r 2)) = B at h2
  obtain ⟨c1, n1, m1, s1, b1, l1, r1, rfl⟩ := wf_mk hl
  obtain ⟨c2, n2, m2, s2, b2, l2, r2, rfl⟩ := wf_mk hr
  refine Rt.of pg_ok Tryd.func15 rfl Tryd.ntmps15 rfl Tryd.results15 Tryd.call15 fun H0 S0 w0 h0 g0 => ?_
  refine p2 ?_ rfl
  refine GO (level_rt 16) rfl ?_
  refine p2 ?_ rfl
  refine p2 ?_ rfl
  refine p1 ?_ rfl
  refine p2 ?_ rfl
  refine p1 ?_ rfl
  refine p2 ?_ rfl
  refine p2 ?_ rfl
  refine p1 ?_ rfl
  refine VM 2 ?_
  have hs1 : (bS (symX 16)).size = 1 := rfl
  have hA' : A.size = (bytesL (atX (.mk c1 n1 m1 s1 b1 l1 r1) 1)).length := by rw [← hA, bS_size]
  have hB' : B.size = (bytesL (atX (.mk c2 n2 m2 s2 b2 l2 r2) 2)).length := by rw [← hB, bS_size]
  have hfin : A ++ ⟨#[32]⟩ ++ bS (symX 16) ++ ⟨#[32]⟩ ++ B = bS (bytesL (atX (.mk c1 n1 m1 s1 b1 l1 r1) 1 ++ binX 16 :: atX (.mk c2 n2 m2 s2 b2 l2 r2) 2)) := by
    rw [bytes_bin, bS_append, bS_append, bS_append, bS_append, hA, hB]
    rfl
  refine JK.drawJ [] ⟨[(1, gi least), (5, gs (A ++ ⟨#[32]⟩ ++ bS (symX 16) ++ ⟨#[32]⟩ ++ B)), (6, gi ((1 : Nat) : Int))], [], 0⟩ pg_ok ?_ (fun hk => ?_)
  · rw [hfin]
    refine V ?_
    by_cases hlt : 1 < least
    · refine p1 ?_ (decide_eq_true (by omega))
      refine ⟨by rw [← hfin]; simp only [app_size, sz1]; omega, ?_⟩
      refine ⟨by rw [← hfin]; simp only [app_size, sz1]; omega, ?_⟩
      refine ⟨?_, rfl⟩
      show gs _ = gs _
      rw [decide_eq_true hlt]
      show _ = gs (bS (bytesL (parX _)))
      rw [bytes_par, bS_append, bS_append]
      rfl
    · refine p2 ?_ (decide_eq_false (by omega))
      refine ⟨?_, rfl⟩
      show gs _ = gs _
      rw [decide_eq_false hlt]
      rfl
  · refine RA.run (cx := ⟨pg, _, _, _, _, _, _, _⟩) pg_ok (by kernel_rfl) (by intro _ _ h; exact h) (tk [0, 1, 2, 3, 4, 8, 9, 10, 11, 12, 17, 18, 19, 20, 21, 22]) (e := false) (by kernel_rfl) ?_
    refine RA.both 5 7 (eqB_eq (by kernel_rfl)) (Stp.rt 5 h1 rfl rfl rfl ?_) (Stp.mem 7 pg_ok rfl rfl rfl ?_)
    · refine RA.run (cx := ⟨pg, _, _, _, _, _, _, _⟩) pg_ok (by kernel_rfl) (by intro _ _ h; exact h) (tk [6]) (e := false) (by kernel_rfl) ?_
      refine ⟨by simp only [app_size, sz1, hs1]; omega, ?_⟩
      refine RA.both 7 23 (eqB_eq (by kernel_rfl)) (Stp.mem 7 pg_ok rfl rfl rfl ?_) (Stp.rt 23 h2 rfl rfl rfl ?_)
      · refine RA.both 13 23 (eqB_eq (by kernel_rfl)) (Stp.read 13 pg_ok rfl rfl ?_) (Stp.rt 23 h2 rfl rfl rfl ?_)
        · refine ⟨by decide, by decide, ?_⟩
          refine RA.both 14 23 (eqB_eq (by kernel_rfl)) (Stp.read 14 pg_ok rfl rfl ?_) (Stp.rt 23 h2 rfl rfl rfl ?_)
          · refine ⟨[gs (bS (symX 16))], rfl, ?_⟩
            refine RA.run (cx := ⟨pg, _, _, _, _, _, _, _⟩) pg_ok (by kernel_rfl) (by intro _ _ h; exact h) (tk [15, 16]) (e := false) (by kernel_rfl) ?_
            refine ⟨by simp only [app_size, sz1, hs1]; omega, ?_⟩
            refine ⟨by simp only [app_size, sz1, hs1]; omega, ?_⟩
            refine RGO 23 false (tk [24, 25]) h2 rfl rfl (by kernel_rfl) ?_
            refine ⟨by simp only [app_size, sz1, hs1]; omega, ?_⟩
            exact RA.endJ id (by kernel_rfl) hk ⟨⟨rfl, rfl, rfl, trivial⟩, trivial, rfl⟩
          · refine RA.run (cx := ⟨pg, _, _, _, _, _, _, _⟩) pg_ok (by kernel_rfl) (by intro _ _ h; exact h) (al [14] ++ tk [15, 16, 24, 25]) (e := false) (by kernel_rfl) ?_
            refine ⟨[gs (bS (symX 16))], rfl, ?_⟩
            refine ⟨by simp only [app_size, sz1, hs1]; omega, ?_⟩
            refine ⟨by simp only [app_size, sz1, hs1]; omega, ?_⟩
            refine ⟨by simp only [app_size, sz1, hs1]; omega, ?_⟩
            exact RA.endJ id (by kernel_rfl) hk ⟨⟨rfl, rfl, rfl, trivial⟩, trivial, rfl⟩
        · refine RA.run (cx := ⟨pg, _, _, _, _, _, _, _⟩) pg_ok (by kernel_rfl) (by intro _ _ h; exact h) (al [13, 14] ++ tk [15, 16, 24, 25]) (e := false) (by kernel_rfl) ?_
          refine ⟨by decide, by decide, ?_⟩
          refine ⟨[gs (bS (symX 16))], rfl, ?_⟩
          refine ⟨by simp only [app_size, sz1, hs1]; omega, ?_⟩
          refine ⟨by simp only [app_size, sz1, hs1]; omega, ?_⟩
          refine ⟨by simp only [app_size, sz1, hs1]; omega, ?_⟩
          exact RA.endJ id (by kernel_rfl) hk ⟨⟨rfl, rfl, rfl, trivial⟩, trivial, rfl⟩
      · refine RA.run (cx := ⟨pg, _, _, _, _, _, _, _⟩) pg_ok (by kernel_rfl) (by intro _ _ h; exact h) (al [7, 13, 14] ++ tk [15, 16, 24, 25]) (e := false) (by kernel_rfl) ?_
        refine ⟨by decide, by decide, ?_⟩
        refine ⟨[gs (bS (symX 16))], rfl, ?_⟩
        refine ⟨by simp only [app_size, sz1, hs1]; omega, ?_⟩
        refine ⟨by simp only [app_size, sz1, hs1]; omega, ?_⟩
        refine ⟨by simp only [app_size, sz1, hs1]; omega, ?_⟩
        exact RA.endJ id (by kernel_rfl) hk ⟨⟨rfl, rfl, rfl, trivial⟩, trivial, rfl⟩
    · refine RA.both 5 13 (eqB_eq (by kernel_rfl)) (Stp.rt 5 h1 rfl rfl rfl ?_) (Stp.read 13 pg_ok rfl rfl ?_)
      · refine RA.run (cx := ⟨pg, _, _, _, _, _, _, _⟩) pg_ok (by kernel_rfl) (by intro _ _ h; exact h) (tk [6]) (e := false) (by kernel_rfl) ?_
        refine ⟨by simp only [app_size, sz1, hs1]; omega, ?_⟩
        refine RA.both 13 23 (eqB_eq (by kernel_rfl)) (Stp.read 13 pg_ok rfl rfl ?_) (Stp.rt 23 h2 rfl rfl rfl ?_)
        · refine ⟨by decide, by decide, ?_⟩
          refine RA.both 14 23 (eqB_eq (by kernel_rfl)) (Stp.read 14 pg_ok rfl rfl ?_) (Stp.rt 23 h2 rfl rfl rfl ?_)
          · refine ⟨[gs (bS (symX 16))], rfl, ?_⟩
            refine RA.run (cx := ⟨pg, _, _, _, _, _, _, _⟩) pg_ok (by kernel_rfl) (by intro _ _ h; exact h) (tk [15, 16]) (e := false) (by kernel_rfl) ?_
            refine ⟨by simp only [app_size, sz1, hs1]; omega, ?_⟩
            refine ⟨by simp only [app_size, sz1, hs1]; omega, ?_⟩
            refine RGO 23 false (tk [24, 25]) h2 rfl rfl (by kernel_rfl) ?_
            refine ⟨by simp only [app_size, sz1, hs1]; omega, ?_⟩
            exact RA.endJ id (by kernel_rfl) hk ⟨⟨rfl, rfl, rfl, trivial⟩, trivial, rfl⟩
          · refine RA.run (cx := ⟨pg, _, _, _, _, _, _, _⟩) pg_ok (by kernel_rfl) (by intro _ _ h; exact h) (al [14] ++ tk [15, 16, 24, 25]) (e := false) (by kernel_rfl) ?_
            refine ⟨[gs (bS (symX 16))], rfl, ?_⟩
            refine ⟨by simp only [app_size, sz1, hs1]; omega, ?_⟩
            refine ⟨by simp only [app_size, sz1, hs1]; omega, ?_⟩
            refine ⟨by simp only [app_size, sz1, hs1]; omega, ?_⟩
            exact RA.endJ id (by kernel_rfl) hk ⟨⟨rfl, rfl, rfl, trivial⟩, trivial, rfl⟩
        · refine RA.run (cx := ⟨pg, _, _, _, _, _, _, _⟩) pg_ok (by kernel_rfl) (by intro _ _ h; exact h) (al [13, 14] ++ tk [15, 16, 24, 25]) (e := false) (by kernel_rfl) ?_
          refine ⟨by decide, by decide, ?_⟩
          refine ⟨[gs (bS (symX 16))], rfl, ?_⟩
          refine ⟨by simp only [app_size, sz1, hs1]; omega, ?_⟩
          refine ⟨by simp only [app_size, sz1, hs1]; omega, ?_⟩
          refine ⟨by simp only [app_size, sz1, hs1]; omega, ?_⟩
          exact RA.endJ id (by kernel_rfl) hk ⟨⟨rfl, rfl, rfl, trivial⟩, trivial, rfl⟩
      · refine ⟨by decide, by decide, ?_⟩
        refine RA.both 5 14 (eqB_eq (by kernel_rfl)) (Stp.rt 5 h1 rfl rfl rfl ?_) (Stp.read 14 pg_ok rfl rfl ?_)
        · refine RA.run (cx := ⟨pg, _, _, _, _, _, _, _⟩) pg_ok (by kernel_rfl) (by intro _ _ h; exact h) (tk [6]) (e := false) (by kernel_rfl) ?_
          refine ⟨by simp only [app_size, sz1, hs1]; omega, ?_⟩
          refine RA.both 14 23 (eqB_eq (by kernel_rfl)) (Stp.read 14 pg_ok rfl rfl ?_) (Stp.rt 23 h2 rfl rfl rfl ?_)
          · refine ⟨[gs (bS (symX 16))], rfl, ?_⟩
            refine RA.run (cx := ⟨pg, _, _, _, _, _, _, _⟩) pg_ok (by kernel_rfl) (by intro _ _ h; exact h) (tk [15, 16]) (e := false) (by kernel_rfl) ?_
            refine ⟨by simp only [app_size, sz1, hs1]; omega, ?_⟩
            refine ⟨by simp only [app_size, sz1, hs1]; omega, ?_⟩
            refine RGO 23 false (tk [24, 25]) h2 rfl rfl (by kernel_rfl) ?_
            refine ⟨by simp only [app_size, sz1, hs1]; omega, ?_⟩
            exact RA.endJ id (by kernel_rfl) hk ⟨⟨rfl, rfl, rfl, trivial⟩, trivial, rfl⟩
          · refine RA.run (cx := ⟨pg, _, _, _, _, _, _, _⟩) pg_ok (by kernel_rfl) (by intro _ _ h; exact h) (al [14] ++ tk [15, 16, 24, 25]) (e := false) (by kernel_rfl) ?_
            refine ⟨[gs (bS (symX 16))], rfl, ?_⟩
            refine ⟨by simp only [app_size, sz1, hs1]; omega, ?_⟩
            refine ⟨by simp only [app_size, sz1, hs1]; omega, ?_⟩
            refine ⟨by simp only [app_size, sz1, hs1]; omega, ?_⟩
            exact RA.endJ id (by kernel_rfl) hk ⟨⟨rfl, rfl, rfl, trivial⟩, trivial, rfl⟩
        · refine ⟨[gs (bS (symX 16))], rfl, ?_⟩
          refine RGO 5 false (tk [6, 15, 16]) h1 rfl rfl (by kernel_rfl) ?_
          refine ⟨by simp only [app_size, sz1, hs1]; omega, ?_⟩
          refine ⟨by simp only [app_size, sz1, hs1]; omega, ?_⟩
          refine ⟨by simp only [app_size, sz1, hs1]; omega, ?_⟩
          refine RGO 23 false (tk [24, 25]) h2 rfl rfl (by kernel_rfl) ?_
          refine ⟨by simp only [app_size, sz1, hs1]; omega, ?_⟩
          exact RA.endJ id (by kernel_rfl) hk ⟨⟨rfl, rfl, rfl, trivial⟩, trivial, rfl⟩
/-- QUESTIONS ARE PRINTED. -/
theorem at_ok {q : Qn} (hq : Wf q) : AtOk q := by
  induction hq with
  | num n h0 h1 => exact at_num n h0 h1
  | pick m h => exact at_pick m h
  | over k hk m h sp h1 h2 => exact at_over k hk m h sp h1 h2
  | all k hk b hb hl q hq ih => exact at_all k hk b hl q hq ih
  | neg q hq ih => exact at_neg q hq ih
  | add k hk l r hl hr ih1 ih2 =>
    rcases (show k = 0 ∨ k = 1 by omega) with rfl | rfl
    · exact at_13 l r hl hr ih1 ih2
    · exact at_14 l r hl hr ih1 ih2
  | mul k hk l r hl hr ih1 ih2 =>
    rcases (show k = 0 ∨ k = 1 by omega) with rfl | rfl
    · exact at_15 l r hl hr ih1 ih2
    · exact at_16 l r hl hr ih1 ih2
theorem print_rt (q : Qn) (hq : Wf q) (hb : (bytesL (atX q 0)).length ≤ 1000000) : Rt pg 6 [qG q] (gs (printF q)) := by
  have h := at_ok hq 0 (by decide) hb
  obtain ⟨c, n, m, s, b, l, r, rfl⟩ := wf_mk hq
  refine Rt.of pg_ok Tryd.func6 rfl Tryd.ntmps6 rfl Tryd.results6 Tryd.call6 fun H0 S0 w0 h0 g0 => ?_
  refine GO h rfl ?_
  exact ⟨rfl, rfl⟩
end Go.Proofs.YtihakhdinkkdmaaDoor
/-
  Contract of the law AskBack: it is true of every text.
-/
namespace Go.Proofs.YtihakhdinkkdmaaDoor
open Go.GK Go.RowKit Go.PL
set_option maxRecDepth 100000
def factS : ByteArray := ⟨#[40, 116, 111, 116, 97, 108, 40, 32, 115, 117, 109, 40, 123, 97, 61, 34, 120, 34, 125, 91, 49, 48, 93, 41, 41, 32, 98, 121, 32, 40, 98, 41, 32, 45, 32, 40, 51, 32, 42, 32, 50, 41, 41]⟩
def factT : ByteArray := ⟨#[116, 111, 116, 97, 108, 40, 115, 117, 109, 40, 123, 97, 61, 34, 120, 34, 125, 91, 49, 48, 93, 41, 41, 32, 98, 121, 32, 40, 98, 41, 32, 45, 32, 51, 32, 42, 32, 50]⟩
def factQ : Qn := .mk 14 0 [] 0 [] (.mk 8 0 [] 0 [bS [98]] (.mk 4 0 [⟨bS [97], 0, bS [120]⟩] 10 [] .nil .nil) .nil) (.mk 15 0 [] 0 [] (.mk 1 3 [] 0 [] .nil .nil) (.mk 1 2 [] 0 [] .nil .nil))
theorem fact_parse : parseF factS.data.toList = .ok factQ := by kernel_rfl
theorem itoa_one {k : Nat} (hk : k < 10) : Lib.itoa (k : Int) = [UInt8.ofNat (48 + k)] := by
  rw [Lib.itoa, if_neg (by omega)]
  exact Lib.decDigits_one hk
theorem itoa_10 : Lib.itoa 10 = [49, 48] := by
  rw [Lib.itoa, if_neg (by decide)]
  exact Lib.decDigits_two (i := 10) (by decide) (by decide)
theorem fact_print : printF factQ = factT := by
  have h2 : Lib.itoa 2 = [50] := itoa_one (k := 2) (by decide)
  have h3 : Lib.itoa 3 = [51] := itoa_one (k := 3) (by decide)
  have e4 : atX (.mk 4 0 [⟨bS [97], 0, bS [120]⟩] 10 [] .nil .nil) 0 = [wL [115, 117, 109], mL [40], mL [123], wL [97], mL [61], qL [120], mL [125], mL [91], dL [49, 48], mL [93], mL [41]] := by
    rw [show (Qn.mk 4 0 [⟨bS [97], 0, bS [120]⟩] 10 [] .nil .nil) = .mk (3 + (1 : Nat)) 0 [⟨bS [97], 0, bS [120]⟩] 10 [] .nil .nil from rfl, atX_over 1 (by decide) _ _ _ (by decide), itoa_10]
    rfl
  have e8 : atX (.mk 8 0 [] 0 [bS [98]] (.mk 4 0 [⟨bS [97], 0, bS [120]⟩] 10 [] .nil .nil) .nil) 0 = _ := (atX_all 0 (by decide) [bS [98]] _ 0 (by decide)).trans (by rw [e4])
  have e1 : atX (.mk 1 3 [] 0 [] .nil .nil) 1 = [dL [51]] := by rw [atX_num 3 1 (by decide), h3]
  have e2 : atX (.mk 1 2 [] 0 [] .nil .nil) 2 = [dL [50]] := by rw [atX_num 2 2 (by decide), h2]
  have e15 : atX (.mk 15 0 [] 0 [] (.mk 1 3 [] 0 [] .nil .nil) (.mk 1 2 [] 0 [] .nil .nil)) 1 = _ := (atX_mul 0 (by decide) _ _ 1).trans (by rw [e1, e2])
  have e14 : atX factQ 0 = _ := (atX_add 1 (by decide) _ _ 0).trans (by rw [e8, e15])
  rw [printF, e14]
  decide
theorem questioned_rt : Rt pg 4 [] (.b true) := by
  have hp := parse_rt factS (by decide)
  rw [fact_parse] at hp
  obtain ⟨hw, _, hl⟩ := print_parse (s := factS.data.toList) (by decide) fact_parse
  have hpr := print_rt factQ hw (by omega)
  rw [fact_print] at hpr
  refine Rt.of pg_ok Tryd.func4 rfl Tryd.ntmps4 rfl Tryd.results4 Tryd.call4 fun H0 S0 w0 h0 g0 => ?_
  refine GO hp rfl ?_
  refine p1 ?_ rfl
  refine p1 ?_ rfl
  refine p1 ?_ rfl
  refine GO hpr rfl ?_
  have key : ∀ x : ByteArray, x = factT → eqG (.b true) (resG [.b (factT.toList == x.toList)]) := fun x hx => by
    subst hx
    show (_ == _) = true
    simp
  exact ⟨key _ rfl, rfl⟩
theorem ms_sm2 {l : List Mt} (h : MsOk l) : Sm2 l := fun x hx => by
  have := mok_size (h.1 x hx)
  omega
theorem askBack_rt (s : ByteArray) : Rt pg 3 [gs s] (.b true) := by
  refine Rt.of pg_ok Tryd.func3 rfl Tryd.ntmps3 rfl Tryd.results3 Tryd.call3 fun H0 S0 w0 h0 g0 => ?_
  by_cases h6 : s.size ≤ 600
  · have hss : s.data.toList.length ≤ 600 := by simpa using h6
    refine p2 ?_ (decide_eq_false (by omega))
    refine GO (questioned_rt.bt rfl) rfl ?_
    have hp := parse_rt s (by omega)
    have hm := match_rt s (by omega)
    cases hP : parseF s.data.toList with
    | error ep =>
      obtain ⟨e, p⟩ := ep
      rw [hP] at hp
      refine GO hp rfl ?_
      refine p2 ?_ rfl
      cases hM : matchF s.data.toList with
      | error ep =>
        obtain ⟨e, p⟩ := ep
        rw [hM] at hm
        refine GO hm rfl ?_
        refine p2 ?_ rfl
        exact ⟨rfl, rfl⟩
      | ok mm =>
        rw [hM] at hm
        obtain ⟨hmw, hm2, hml⟩ := print_match hss hM
        have hmr := matchersT_rt mm hmw
        have hm3 := match_rt (printM mm) (by rw [printM, bS_size]; exact hml)
        rw [show (printM mm).data.toList = bytesL (msX mm) from bL_bS _, hm2] at hm3
        have hak := (lasked_rt mm (ms_sm2 hmw)).bt (ms_asked hmw)
        refine GO hm rfl ?_
        refine p1 ?_ rfl
        refine GO hmr rfl ?_
        refine GO hm3 rfl ?_
        refine p4 ?_
        refine GO hmr rfl ?_
        refine GO hmr rfl ?_
        refine p4 ?_ (by simp)
        refine GO hak rfl ?_
        exact ⟨rfl, rfl⟩
    | ok q =>
      rw [hP] at hp
      obtain ⟨hw, hp2, hl⟩ := print_parse hss hP
      have hpr := print_rt q hw (by omega)
      have hp3 := parse_rt (printF q) (by rw [printF, bS_size]; exact hl)
      rw [show (printF q).data.toList = bytesL (atX q 0) from bL_bS _, hp2] at hp3
      clear hp2
      generalize printF q = tt at hpr hp3
      obtain ⟨c, n, m, sp, b, l, r, rfl⟩ := wf_mk hw
      refine GO hp rfl ?_
      refine p1 ?_ rfl
      refine GO hpr rfl ?_
      refine GO hp3 rfl ?_
      refine p4 ?_
      refine GO hpr rfl ?_
      refine p2 ?_ (by simp [sEq])
      cases hM : matchF s.data.toList with
      | error ep =>
        obtain ⟨e, p⟩ := ep
        rw [hM] at hm
        refine GO hm rfl ?_
        refine p2 ?_ rfl
        exact ⟨rfl, rfl⟩
      | ok mm =>
        rw [hM] at hm
        obtain ⟨hmw, hm2, hml⟩ := print_match hss hM
        have hmr := matchersT_rt mm hmw
        have hm3 := match_rt (printM mm) (by rw [printM, bS_size]; exact hml)
        rw [show (printM mm).data.toList = bytesL (msX mm) from bL_bS _, hm2] at hm3
        have hak := (lasked_rt mm (ms_sm2 hmw)).bt (ms_asked hmw)
        refine GO hm rfl ?_
        refine p1 ?_ rfl
        refine GO hmr rfl ?_
        refine GO hm3 rfl ?_
        refine p4 ?_
        refine GO hmr rfl ?_
        refine GO hmr rfl ?_
        refine p4 ?_ (by simp)
        refine GO hak rfl ?_
        exact ⟨rfl, rfl⟩
  · refine p1 ?_ (decide_eq_true (by omega))
    exact ⟨rfl, rfl⟩
end Go.Proofs.YtihakhdinkkdmaaDoor
/-
  A law's contract, as the row asks for it.
-/
namespace Go.Proofs.YtihakhdinkkdmaaDoor
open Go.GK
theorem of_rt {f : FuncId} {gs : List GV} (h : Rt pg f gs (.b true)) : Ct pg f 0 gs [] (Val fun g => g = .b true) := by
  exact h.ct.weak fun g σ' n' hq => ⟨id, g, [], 0, ⟨hq.1.1, rfl, rfl⟩, (ren_id g).symm, trivial, by simp [hq.1.2, idbH, hids, distB, fixB]⟩
end Go.Proofs.YtihakhdinkkdmaaDoor
/-
  Package-level variables as rows list them: tables of integers and of texts, errors, each by what is laid.
-/
namespace Go.GK
open Go.ChangeShapes Go.WideShapes
/-- A variable is as it is told. -/
def VarOk (W : World) (g : Nat) (gv : GV) : Prop := ∀ H : Hid, H.ro = roOf W → IsR H.ro gv (.pointer (some ⟨g, 0, none⟩)) ∧ ∀ cs, gv = .r cs → ∃ c ty fz, H.ro g = some (.cells c ty fz) ∧ c.size = cs.length
theorem look_mem : ∀ {l : Env} {g : Nat} {gv : GV}, look l g = some gv → (g, gv) ∈ l
  | [], _, _, h => by simp [look] at h
  | (g', x) :: l, g, gv, h => by
    unfold look at h
    cases hb : Nat.beq g' g with
    | true =>
      rw [hb] at h
      simp only [cond_true, Option.some.injEq] at h
      subst h
      have := Nat.eq_of_beq_eq_true hb
      subst this
      exact List.mem_cons_self
    | false =>
      rw [hb] at h
      exact List.mem_cons_of_mem _ (look_mem h)
theorem GlOk.of_vars {p : Pg} {W : World} (h : ∀ x ∈ p.gl, VarOk W x.1 x.2) : ∀ H : Hid, H.ro = roOf W → GlOk p H := fun H hro =>
  ⟨fun g gv hl => (h _ (look_mem hl) H hro).1, fun g cs hl => (h _ (look_mem hl) H hro).2 cs rfl⟩
theorem VarOk.of_vals {P : Program} {W : World} {n : String} {g : Nat} {cs : Array Value} {vs : List Value} (hg : P.globalNamed n = some g) (hv : W.var? P n = some cs) (h : cs.toList = vs) : VarOk W g (.r (vs.map .v)) := by
  intro H hro
  have hc : ∀ i, W.cell? ⟨g, i, none⟩ = vs[i]? := fun i => by
    rw [World.var?_cell hg hv i, ← h]
    simp
  refine ⟨?_, fun cs' he => ?_⟩
  · refine .r (fun j => (vs[j]?).getD undef) (fun j gv hj => ?_) (fun j gv hj => ?_)
    · rw [hro, addr_add_none, Nat.zero_add]
      have hj' : j < vs.length := by have := (List.getElem?_eq_some_iff.1 hj).1; simpa using this
      have := hc j
      rw [List.getElem?_eq_getElem hj'] at this ⊢
      exact this
    · have hj' : j < vs.length := by have := (List.getElem?_eq_some_iff.1 hj).1; simpa using this
      rw [List.getElem?_map, List.getElem?_eq_getElem hj'] at hj
      simp only [Option.map_some, Option.some.injEq] at hj
      subst hj
      rw [List.getElem?_eq_getElem hj']
      exact .v _
  · cases he
    have hv' := hv
    simp only [World.var?, hg, Option.bind_some] at hv'
    rw [hro]
    unfold roOf
    cases ho : W.heap[g]? with
    | none => rw [ho] at hv'; cases hv'
    | some o =>
      rw [ho] at hv'
      cases o with
      | cells c ty fz =>
        simp only [Option.some.injEq] at hv'
        subst hv'
        exact ⟨_, ty, fz, rfl, by rw [List.length_map, ← h]; simp⟩
      | _ => cases hv'
/-- A table of texts, by its datum. -/
theorem arr_strs {Hh : Type} {enc : TypeId × Value → Hh} {P : Program} {w : World} {base : Nat} {spare : Nat → Bool} {held : Bool} {n : Nat} {t e : TypeId} (ht : P.underlying t = some (.array n e)) (he : P.underlying e = some .string) (hc : P.cellsOf e = 1) {zs : List (List UInt8)} (hz : zs.length = n) (hct : P.cellsOf t = n) {fuel : Nat} {cs : List Value} {ps : List MemPlace}
    (h : DataW.trod enc P w base spare held fuel t cs = some (.agg (zs.map fun z => .lit (.string z)), ps)) : cs = zs.map fun z => Value.string ⟨z.toArray⟩ := by
  obtain ⟨xs, m1, _, hx, hlen, hn, hel⟩ := DataW.trod_array ht h
  simp only [Prod.mk.injEq, DataW.agg.injEq] at hx
  rw [hct] at hlen
  refine List.ext_getElem (by simp; omega) fun i h1 h2 => ?_
  have hi : i < xs.length := by omega
  have := hel i (by omega)
  rw [hc, Nat.mul_one, List.getElem?_eq_getElem hi] at this
  obtain ⟨m, e1, e2, _⟩ := DataW.trod_string he this
  have e3 : (cs.drop i).take 1 = [cs[i]] := by rw [List.drop_eq_getElem_cons h1]; rfl
  rw [e3] at e1
  have e4 : (zs.map fun z => DataW.lit (H := Hh) (.string z))[i]? = (xs.map (·.1))[i]? := by rw [hx.1]
  rw [List.getElem?_map, List.getElem?_map, List.getElem?_eq_getElem hi, List.getElem?_eq_getElem (by omega), e2] at e4
  simp only [Option.map_some, Option.some.injEq, DataW.lit.injEq, Lit.string.injEq] at e4
  rw [List.getElem_map, e4]
  have e5 : (⟨m.data.toList.toArray⟩ : ByteArray) = m := by cases m; simp
  rw [e5]
  simpa using e1
section
variable {P : Program} {W : World} {n : String} {g : Nat} {t : TypeId}
theorem VarOk.ints {k : IntKind} {e : TypeId} {zs : List Int} (h : laidMet P [(n, .agg (zs.map fun z => .lit (.int k z)))] W) (hg : P.globalNamed n = some g) (hty : (P.globals[g]?).map (·.type) = some t) (ht : P.underlying t = some (.array zs.length e)) (he : P.underlying e = some (.int k)) (hc : P.cellsOf e = 1) (hct : P.cellsOf t = zs.length) :
    VarOk W g (.r ((zs.map (Value.int k)).map .v)) := by
  obtain ⟨ps, ⟨g0, t0, cs0, f0, p0, q0, hg0, ht0, hv0, hd0, _, _⟩, _, _⟩ := h
  obtain rfl := Option.some.inj (hg.symm.trans hg0)
  obtain rfl := Option.some.inj (hty.symm.trans ht0)
  exact .of_vals hg hv0 (arr_ints ht he hc rfl hct hd0)
theorem VarOk.strs {e : TypeId} {zs : List (List UInt8)} (h : laidMet P [(n, .agg (zs.map fun z => .lit (.string z)))] W) (hg : P.globalNamed n = some g) (hty : (P.globals[g]?).map (·.type) = some t) (ht : P.underlying t = some (.array zs.length e)) (he : P.underlying e = some .string) (hc : P.cellsOf e = 1) (hct : P.cellsOf t = zs.length) :
    VarOk W g (.r ((zs.map fun z => Value.string ⟨z.toArray⟩).map .v)) := by
  obtain ⟨ps, ⟨g0, t0, cs0, f0, p0, q0, hg0, ht0, hv0, hd0, _, _⟩, _, _⟩ := h
  obtain rfl := Option.some.inj (hg.symm.trans hg0)
  obtain rfl := Option.some.inj (hty.symm.trans ht0)
  exact .of_vals hg hv0 (arr_strs ht he hc rfl hct hd0)
/-- A variable of a struct of two integers. -/
theorem VarOk.two {k0 k1 : IntKind} {f0 f1 : Field} {a b : Int} (h : laidMet P [(n, .agg [.lit (.int k0 a), .lit (.int k1 b)])] W) (hg : P.globalNamed n = some g) (hty : (P.globals[g]?).map (·.type) = some t) (ht : P.underlying t = some (.struct #[f0, f1])) (he0 : P.underlying f0.type = some (.int k0)) (he1 : P.underlying f1.type = some (.int k1)) (hc0 : P.cellsOf f0.type = 1) (hc1 : P.cellsOf f1.type = 1) (hct : P.cellsOf t = 2) (ho0 : f0.offset = 0) (ho1 : f1.offset = 1) :
    VarOk W g (.r [.v (.int k0 a), .v (.int k1 b)]) := by
  obtain ⟨ps, ⟨g0, t0, cs0, fu, p0, q0, hg0, ht0, hv0, hd0, _, _⟩, _, _⟩ := h
  obtain rfl := Option.some.inj (hg.symm.trans hg0)
  obtain rfl := Option.some.inj (hty.symm.trans ht0)
  obtain ⟨y0, y1, m, hx, hl, h0, h1⟩ := trod_struct2 ht hd0
  obtain ⟨a', ha, rfl, _⟩ := DataW.trod_int he0 h0
  obtain ⟨b', hb, rfl, _⟩ := DataW.trod_int he1 h1
  rw [hct] at hl
  rw [hc0, ho0] at ha
  rw [hc1, ho1] at hb
  simp only [Prod.mk.injEq, DataW.agg.injEq, List.cons.injEq, DataW.lit.injEq, Lit.int.injEq, true_and, and_true] at hx
  obtain ⟨⟨rfl, rfl⟩, _⟩ := hx
  refine VarOk.of_vals (vs := [.int k0 a, .int k1 b]) hg hv0 ?_
  match hcs : cs0.toList, hl with
  | [u, v], _ =>
    rw [hcs] at ha hb
    simp at ha hb
    rw [ha, hb]
/-- A variable that holds an error of a text. -/
theorem VarOk.err {ms : Array (String × TypeId)} {tp te ts : TypeId} {f : Field} {nm : String} {text : List UInt8} (h : laidMet P [(n, .iface nm (.ptr (.agg [.lit (.string text)])))] W) (hg : P.globalNamed n = some g) (hty : (P.globals[g]?).map (·.type) = some t) (hi : P.underlying t = some (.interface ms)) (hrow : ∀ u, P.typeName? 3 u = some nm → u = tp)
    (hp : P.underlying tp = some (.pointer te)) (he : P.underlying te = some (.struct #[f])) (hft : f.type = ts) (hfo : f.offset = 0) (hs : P.underlying ts = some .string) (hc : P.cellsOf te = 1) (hcs : P.cellsOf ts = 1) :
    VarOk W g (.r [.ifc tp (.r [.v (.string ⟨text.toArray⟩)])]) := by
  obtain ⟨a, s, hv, hcell, htx, _⟩ := laid_sentinel h hg hty hi hrow hp he hft hfo hs hc hcs
  have hsx : (⟨text.toArray⟩ : ByteArray) = s := by rw [← htx]
  rw [hsx]
  intro H hro
  refine ⟨?_, fun cs' hcs' => ?_⟩
  · refine .r (fun _ => .iface tp (.pointer (some a))) (fun j gv hj => ?_) (fun j gv hj => ?_)
    · cases j with
      | zero =>
        rw [hro]
        have := World.var?_cell hg hv 0
        exact this
      | succ j => simp at hj
    · cases j with
      | zero =>
        simp at hj
        subst hj
        refine .ifc (.r (fun _ => .string s) (fun j gv hj => ?_) (fun j gv hj => ?_))
        · cases j with
          | zero =>
            rw [hro]
            exact hcell
          | succ j => simp at hj
        · cases j with
          | zero => simp at hj; subst hj; exact .v _
          | succ j => simp at hj
      | succ j => simp at hj
  · cases hcs'
    have := (VarOk.of_vals hg hv rfl H hro).2 _ rfl
    simpa using this
end
end Go.GK
/-
  What the row of this seat lists, as the walk reads it; the world that holds it.
-/
namespace Go.Proofs.YtihakhdinkkdmaaDoor
open Go.GK Go.ChangeShapes Go.WideShapes Go.RowKit

abbrev rowLaid : List (String × DataW Unit) := [("math/bits.deBruijn32tab", Rows.laid_math_bits_deBruijn32tab), ("math/bits.deBruijn64tab", Rows.laid_math_bits_deBruijn64tab), ("internal/strconv.uint64pow10", Rows.laid_internal_strconv_uint64pow10), ("unicode/utf8.acceptRanges", Rows.laid_unicode_utf8_acceptRanges), ("strconv.ErrRange", Rows.laid_strconv_ErrRange), ("strconv.ErrSyntax", Rows.laid_strconv_ErrSyntax), ("raingauge/ask.marks", Rows.laid_raingauge_ask_marks), ("raingauge/ask.ops", Rows.laid_raingauge_ask_ops), ("raingauge/ask.overs", Rows.laid_raingauge_ask_overs), ("raingauge/ask.alls", Rows.laid_raingauge_ask_alls), ("unicode/utf8.first", Rows.laid_unicode_utf8_first)]
/-- What is listed, but a handle. -/
abbrev plainLaid : List (String × DataW Unit) := [("math/bits.deBruijn32tab", Rows.laid_math_bits_deBruijn32tab), ("math/bits.deBruijn64tab", Rows.laid_math_bits_deBruijn64tab), ("internal/strconv.uint64pow10", Rows.laid_internal_strconv_uint64pow10), ("unicode/utf8.acceptRanges", Rows.laid_unicode_utf8_acceptRanges), ("strconv.ErrRange", Rows.laid_strconv_ErrRange), ("strconv.ErrSyntax", Rows.laid_strconv_ErrSyntax), ("raingauge/ask.marks", Rows.laid_raingauge_ask_marks), ("raingauge/ask.ops", Rows.laid_raingauge_ask_ops), ("raingauge/ask.overs", Rows.laid_raingauge_ask_overs), ("raingauge/ask.alls", Rows.laid_raingauge_ask_alls), ("unicode/utf8.first", Rows.laid_unicode_utf8_first)]
theorem own : ownKnob Tryd.prog.godebug = none := by kernel_rfl
theorem laidOut : laidOutB Tryd.prog = true := by kernel_rfl
theorem star_err : "*" ++ "errors.errorString" = "*errors.errorString" := by decide
theorem row_err (u : TypeId) (h : Tryd.prog.typeName? 3 u = some "*errors.errorString") : u = 136 :=
  typeName_ptr_named (nm := "errors.errorString") (by rw [star_err]; kernel_rfl) (by kernel_rfl) (by decide) u (by rw [star_err]; exact h)
theorem v_raingauge_ask_marks {W : World} (h : laidMet Tryd.prog [("raingauge/ask.marks", Rows.laid_raingauge_ask_marks)] W) : VarOk W 1 (.r [.v (.string ⟨#[33, 61]⟩), .v (.string ⟨#[94, 61]⟩), .v (.string ⟨#[33, 94]⟩), .v (.string ⟨#[61]⟩), .v (.string ⟨#[123]⟩), .v (.string ⟨#[125]⟩), .v (.string ⟨#[91]⟩), .v (.string ⟨#[93]⟩), .v (.string ⟨#[40]⟩), .v (.string ⟨#[41]⟩), .v (.string ⟨#[44]⟩), .v (.string ⟨#[43]⟩), .v (.string ⟨#[45]⟩), .v (.string ⟨#[42]⟩), .v (.string ⟨#[47]⟩)]) :=
  VarOk.strs (t := 60) (e := 9) (n := "raingauge/ask.marks") (zs := [[33, 61], [94, 61], [33, 94], [61], [123], [125], [91], [93], [40], [41], [44], [43], [45], [42], [47]]) h (by kernel_rfl) (by kernel_rfl) (by kernel_rfl) (by kernel_rfl) (by kernel_rfl) (by kernel_rfl)
theorem v_raingauge_ask_ops {W : World} (h : laidMet Tryd.prog [("raingauge/ask.ops", Rows.laid_raingauge_ask_ops)] W) : VarOk W 0 (.r [.v (.string ⟨#[61]⟩), .v (.string ⟨#[33, 61]⟩), .v (.string ⟨#[94, 61]⟩), .v (.string ⟨#[33, 94]⟩)]) :=
  VarOk.strs (t := 54) (e := 9) (n := "raingauge/ask.ops") (zs := [[61], [33, 61], [94, 61], [33, 94]]) h (by kernel_rfl) (by kernel_rfl) (by kernel_rfl) (by kernel_rfl) (by kernel_rfl) (by kernel_rfl)
theorem v_raingauge_ask_overs {W : World} (h : laidMet Tryd.prog [("raingauge/ask.overs", Rows.laid_raingauge_ask_overs)] W) : VarOk W 2 (.r [.v (.string ⟨#[99, 111, 117, 110, 116]⟩), .v (.string ⟨#[115, 117, 109]⟩), .v (.string ⟨#[109, 105, 110]⟩), .v (.string ⟨#[109, 97, 120]⟩), .v (.string ⟨#[100, 101, 108, 116, 97]⟩)]) :=
  VarOk.strs (t := 70) (e := 9) (n := "raingauge/ask.overs") (zs := [[99, 111, 117, 110, 116], [115, 117, 109], [109, 105, 110], [109, 97, 120], [100, 101, 108, 116, 97]]) h (by kernel_rfl) (by kernel_rfl) (by kernel_rfl) (by kernel_rfl) (by kernel_rfl) (by kernel_rfl)
theorem v_raingauge_ask_alls {W : World} (h : laidMet Tryd.prog [("raingauge/ask.alls", Rows.laid_raingauge_ask_alls)] W) : VarOk W 3 (.r [.v (.string ⟨#[116, 111, 116, 97, 108]⟩), .v (.string ⟨#[108, 101, 97, 115, 116]⟩), .v (.string ⟨#[109, 111, 115, 116]⟩), .v (.string ⟨#[109, 97, 110, 121]⟩)]) :=
  VarOk.strs (t := 54) (e := 9) (n := "raingauge/ask.alls") (zs := [[116, 111, 116, 97, 108], [108, 101, 97, 115, 116], [109, 111, 115, 116], [109, 97, 110, 121]]) h (by kernel_rfl) (by kernel_rfl) (by kernel_rfl) (by kernel_rfl) (by kernel_rfl) (by kernel_rfl)
theorem v_strconv_ErrRange {W : World} (h : laidMet Tryd.prog [("strconv.ErrRange", Rows.laid_strconv_ErrRange)] W) : VarOk W 11 (.r [.ifc 136 (.r [.v (.string ⟨#[118, 97, 108, 117, 101, 32, 111, 117, 116, 32, 111, 102, 32, 114, 97, 110, 103, 101]⟩)])]) :=
  VarOk.err (t := 25) (n := "strconv.ErrRange") (text := [118, 97, 108, 117, 101, 32, 111, 117, 116, 32, 111, 102, 32, 114, 97, 110, 103, 101]) h (by kernel_rfl) (by kernel_rfl) Tryd.underlying25 row_err Tryd.underlying136 Tryd.underlying138 rfl rfl Tryd.underlying9 (by kernel_rfl) (by kernel_rfl)
theorem v_strconv_ErrSyntax {W : World} (h : laidMet Tryd.prog [("strconv.ErrSyntax", Rows.laid_strconv_ErrSyntax)] W) : VarOk W 10 (.r [.ifc 136 (.r [.v (.string ⟨#[105, 110, 118, 97, 108, 105, 100, 32, 115, 121, 110, 116, 97, 120]⟩)])]) :=
  VarOk.err (t := 25) (n := "strconv.ErrSyntax") (text := [105, 110, 118, 97, 108, 105, 100, 32, 115, 121, 110, 116, 97, 120]) h (by kernel_rfl) (by kernel_rfl) Tryd.underlying25 row_err Tryd.underlying136 Tryd.underlying138 rfl rfl Tryd.underlying9 (by kernel_rfl) (by kernel_rfl)
theorem v_internal_strconv_uint64pow10 {W : World} (h : laidMet Tryd.prog [("internal/strconv.uint64pow10", Rows.laid_internal_strconv_uint64pow10)] W) : VarOk W 5 (.r [.v (.int .u64 1), .v (.int .u64 10), .v (.int .u64 100), .v (.int .u64 1000), .v (.int .u64 10000), .v (.int .u64 100000), .v (.int .u64 1000000), .v (.int .u64 10000000), .v (.int .u64 100000000), .v (.int .u64 1000000000), .v (.int .u64 10000000000), .v (.int .u64 100000000000), .v (.int .u64 1000000000000), .v (.int .u64 10000000000000), .v (.int .u64 100000000000000), .v (.int .u64 1000000000000000), .v (.int .u64 10000000000000000), .v (.int .u64 100000000000000000), .v (.int .u64 1000000000000000000), .v (.int .u64 10000000000000000000)]) :=
  VarOk.ints (t := 109) (e := 94) (n := "internal/strconv.uint64pow10") (k := .u64) (zs := [1, 10, 100, 1000, 10000, 100000, 1000000, 10000000, 100000000, 1000000000, 10000000000, 100000000000, 1000000000000, 10000000000000, 100000000000000, 1000000000000000, 10000000000000000, 100000000000000000, 1000000000000000000, 10000000000000000000]) h (by kernel_rfl) (by kernel_rfl) (by kernel_rfl) (by kernel_rfl) (by kernel_rfl) (by kernel_rfl)
theorem gl_okH {W : World} (hL : laidMetH Tryd.prog rowLaid W) : ∀ H : Hid, H.ro = roOf W → GlOk pg H := by
  rw [MakeChecks.laidMetH_plain _ _ _ (by kernel_rfl)] at hL
  have h := hL
  refine GlOk.of_vars ?_
  show ∀ x ∈ gl, VarOk W x.1 x.2
  unfold gl
  refine List.forall_mem_cons.2 ⟨v_raingauge_ask_marks (h.filter fun x => x.1 == "raingauge/ask.marks"), ?_⟩
  refine List.forall_mem_cons.2 ⟨v_raingauge_ask_ops (h.filter fun x => x.1 == "raingauge/ask.ops"), ?_⟩
  refine List.forall_mem_cons.2 ⟨v_raingauge_ask_overs (h.filter fun x => x.1 == "raingauge/ask.overs"), ?_⟩
  refine List.forall_mem_cons.2 ⟨v_raingauge_ask_alls (h.filter fun x => x.1 == "raingauge/ask.alls"), ?_⟩
  refine List.forall_mem_cons.2 ⟨v_strconv_ErrRange (h.filter fun x => x.1 == "strconv.ErrRange"), ?_⟩
  refine List.forall_mem_cons.2 ⟨v_strconv_ErrSyntax (h.filter fun x => x.1 == "strconv.ErrSyntax"), ?_⟩
  refine List.forall_mem_cons.2 ⟨v_internal_strconv_uint64pow10 (h.filter fun x => x.1 == "internal/strconv.uint64pow10"), ?_⟩
  exact fun x hx => by cases hx
noncomputable def wit (os : Os) : World := (World.doorLaid Tryd.prog 400 os).layVars Tryd.prog plainLaid
theorem wit_os (os : Os) : (wit os).os = os := World.layVars_os _ _ _
theorem wit_fits (os : Os) : (World.doorLaid Tryd.prog 400 os).layFits Tryd.prog plainLaid [] = true := by kernel_rfl
theorem wit_ifaces (os : Os) : (World.doorLaid Tryd.prog 400 os).layIfaces Tryd.prog plainLaid (wit os) = true := by kernel_rfl
theorem wit_handle (os : Os) (args : Array Value) : (rowLaid.filter fun x => x.2.handleName?.isSome).all (handleAtB Tryd.prog ((wit os).forCall (fun _ _ => 0) ⟨#[], args, []⟩).memory) = true := by kernel_rfl
theorem wit_shaped (os : Os) (args : Array Value) : ((wit os).forCall (fun _ _ => 0) ⟨#[], args, []⟩).Shaped Tryd.prog := World.shaped_of_ZipB (by kernel_rfl) (by kernel_rfl)
theorem wit_met (os : Os) (args : Array Value) : laidMetH Tryd.prog rowLaid ((wit os).forCall (fun _ _ => 0) ⟨#[], args, []⟩).memory := by
  have e1 : (plainLaid.filter fun x => (plainLaid.map (·.1)).contains x.1) = plainLaid := List.filter_eq_self.2 fun x hx => List.contains_iff_mem.2 (List.mem_map.2 ⟨x, hx, rfl⟩)
  have e2 : (plainLaid.filter fun x => !(plainLaid.map (·.1)).contains x.1) = [] := List.filter_eq_nil_iff.2 fun x hx => by rw [List.contains_iff_mem.2 (List.mem_map.2 ⟨x, hx, rfl⟩)]; simp
  have h : laidMet Tryd.prog plainLaid (wit os) := laidMet_layVars (w0 := World.doorLaid Tryd.prog 400 os) (plainLaid.map (·.1)) [] (by rw [e1]; rfl) (by rw [e1]; exact wit_fits os) (by rw [e1]; exact wit_ifaces os) (by rw [e2]; exact LaidIn.none)
  have h' : laidMet Tryd.prog plainLaid ((wit os).forCall (fun _ _ => 0) ⟨#[], args, []⟩).memory := h.of_heap (by simp [World.memory, World.forCall, Input.heap])
  exact laidMetH_of_parts h' (wit_handle os args)
end Go.Proofs.YtihakhdinkkdmaaDoor
