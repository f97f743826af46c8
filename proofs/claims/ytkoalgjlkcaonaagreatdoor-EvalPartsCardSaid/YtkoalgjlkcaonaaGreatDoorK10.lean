/-
  Contracts: two results put together (eval.both, its closure).
-/
import Derived.Test.YtkoalgjlkcaonaaGreatDoorK08
import Derived.Test.YtkoalgjlkcaonaaGreatDoorK07
import Derived.Test.YtkoalgjlkcaonaaGreatDoorK09
import Derived.Tactics
import Derived.Tactics2
import Derived.Defers
import Derived.Recover
set_option linter.unusedSimpArgs false
namespace Go.Proofs.YtkoalgjlkcaonaaGreatDoor
open Go.GK Go.PL Go.RowKit
set_option maxRecDepth 100000
theorem both1_no (c x y : Int) (ls : List Lb) (rows : List (List GV)) (bb : Bool) (hc : countF c x y = none) :
    Hf pg 131 3 [lbs ls, gi x, gi y, .p 0 0, .p 1 0] [(0, .blk 3 [gi c]), (1, .blk 120 [.o 2, .v (.bool bb)]), (2, .row 47 2 rows)]
      (fun g σ n => g = .tup [] ∧ σ = [(0, .blk 3 [gi c]), (1, .blk 120 [.o 2, .v (.bool bb)]), (2, .row 47 2 rows)] ∧ n = 3) := by
  refine Hf.of pg_ok Tryz.func131 rfl Tryz.ntmps131 rfl Tryz.results131 Tryz.call131 fun H0 S0 w0 h0 g0 => ?_
  have h := count_rt c x y
  rw [hc] at h
  refine GO h rfl ?_
  exact ⟨rfl, rfl, rfl⟩
theorem both1_yes (c x y n : Int) (ls : List Lb) (rows : List (List GV)) (bb : Bool) (hc : countF c x y = some n) (hl : ls.length ≤ 1000000) (hr : rows.length ≤ 1000000) :
    Hf pg 131 3 [lbs ls, gi x, gi y, .p 0 0, .p 1 0] [(0, .blk 3 [gi c]), (1, .blk 120 [.o 2, .v (.bool bb)]), (2, .row 47 2 rows)]
      (fun g σ m => g = .tup [] ∧ σ = [(0, .blk 3 [gi c]), (1, .blk 120 [.o 3, .v (.bool bb)]), (3, .row 47 2 (rows ++ [[lbs ls, gi n]]))] ∧ m = 4) := by
  refine Hf.of pg_ok Tryz.func131 rfl Tryz.ntmps131 rfl Tryz.results131 Tryz.call131 fun H0 S0 w0 h0 g0 => ?_
  have h := count_rt c x y
  rw [hc] at h
  have hcl := cloneLb_rt ls hl
  refine GO h rfl ?_
  refine JK.drawJ [1, 2] ⟨[], [(0, .blk 3 [gi c]), (1, .blk 120 [.o 3, .v (.bool bb)]), (3, .row 47 2 (rows ++ [[lbs ls, gi n]]))], 4⟩ pg_ok ?_ (fun hk => ?_)
  · refine V ?_
    exact ⟨rfl, rfl, rfl⟩
  · refine RA.run (cx := ⟨pg, _, _, _, _, _, _, _⟩) pg_ok (by kernel_rfl) (by intro _ _ h; exact h) (tk [0, 2, 4]) (e := false) (by kernel_rfl) ?_
    refine RA.both 1 3 (eqB_eq (by kernel_rfl)) (Stp.read 1 pg_ok rfl rfl ?_) (Stp.rt 3 hcl rfl rfl rfl ?_)
    · refine RGO 3 false (al [5, 6, 7] ++ tk [8] ++ al [9]) hcl rfl rfl (by kernel_rfl) ?_
      refine ⟨by simp only [List.length_map, List.length_cons, List.length_nil]; omega, ?_⟩
      refine RA.endJ (r1 3 4) (by kernel_rfl) hk ⟨trivial, ⟨by rfl, by rfl, by rfl, trivial⟩, by rfl⟩
    · refine RA.both 1 5 (eqB_eq (by kernel_rfl)) (Stp.read 1 pg_ok rfl rfl ?_) (Stp.mem 5 pg_ok rfl rfl rfl ?_)
      · refine RA.run (cx := ⟨pg, _, _, _, _, _, _, _⟩) pg_ok (by kernel_rfl) (by intro _ _ h; exact h) (al [5, 6, 7] ++ tk [8] ++ al [9]) (e := false) (by kernel_rfl) ?_
        refine ⟨by simp only [List.length_map, List.length_cons, List.length_nil]; omega, ?_⟩
        refine RA.endJ (r1 3 4) (by kernel_rfl) hk ⟨trivial, ⟨by rfl, by rfl, by rfl, trivial⟩, by rfl⟩
      · refine RA.both 1 6 (eqB_eq (by kernel_rfl)) (Stp.read 1 pg_ok rfl rfl ?_) (Stp.mem 6 pg_ok rfl rfl rfl ?_)
        · refine RA.run (cx := ⟨pg, _, _, _, _, _, _, _⟩) pg_ok (by kernel_rfl) (by intro _ _ h; exact h) (al [6, 7] ++ tk [8] ++ al [9]) (e := false) (by kernel_rfl) ?_
          refine ⟨by simp only [List.length_map, List.length_cons, List.length_nil]; omega, ?_⟩
          refine RA.endJ (r1 3 4) (by kernel_rfl) hk ⟨trivial, ⟨by rfl, by rfl, by rfl, trivial⟩, by rfl⟩
        · refine RA.run (cx := ⟨pg, _, _, _, _, _, _, _⟩) pg_ok (by kernel_rfl) (by intro _ _ h; exact h) (al [1, 7] ++ tk [8] ++ al [9]) (e := false) (by kernel_rfl) ?_
          refine ⟨by simp only [List.length_map, List.length_cons, List.length_nil]; omega, ?_⟩
          refine RA.endJ (r1 3 4) (by kernel_rfl) hk ⟨trivial, ⟨by rfl, by rfl, by rfl, trivial⟩, by rfl⟩
end Go.Proofs.YtkoalgjlkcaonaaGreatDoor
/-
  Contracts: two results put together (eval.both).
-/
namespace Go.Proofs.YtkoalgjlkcaonaaGreatDoor
open Go.GK Go.PL Go.RowKit
set_option maxRecDepth 100000
theorem fm_snoc {α β : Type} (g : α → Option β) (l : List α) (j : Nat) (h : j < l.length) : (l.take (j + 1)).filterMap g = (l.take j).filterMap g ++ (g l[j]).toList := by
  rw [List.take_add_one, List.getElem?_eq_getElem h, List.filterMap_append]
  congr 1
theorem fl_snoc {α β : Type} (f : α → List β) (l : List α) (i : Nat) (h : i < l.length) : (l.take (i + 1)).flatMap f = (l.take i).flatMap f ++ f l[i] := by
  rw [List.take_add_one, List.getElem?_eq_getElem h, List.flatMap_append]
  simp
theorem fl_len {α β : Type} (f : α → List β) (n : Nat) (hf : ∀ x, (f x).length ≤ n) : ∀ l : List α, (l.flatMap f).length ≤ l.length * n
  | [] => by simp
  | x :: l => by
    rw [List.flatMap_cons, List.length_append, List.length_cons, Nat.succ_mul]
    have h1 := hf x
    have h2 := fl_len f n hf l
    omega
def r3 : Nat → Nat := fun i => bif Nat.beq i 0 then 0 else bif Nat.beq i 1 then 4 else 5
theorem r3_lt {n : Nat} (h : Nat.blt 5 n = true) : ∀ i, i < 3 → r3 i < n := fun i hi => by
  have h5 : 5 < n := by simpa using h
  have : i = 0 ∨ i = 1 ∨ i = 2 := by omega
  rcases this with rfl | rfl | rfl
  · show 0 < n; omega
  · show 4 < n; omega
  · exact h5
theorem both_t (c : Int) (al bl : List Pt) (b2 : Bool) (ha : al.length ≤ 1000) (hb : bl.length ≤ 1000) (hla : ∀ p ∈ al, p.labels.length ≤ 1000000) (hlb : ∀ p ∈ bl, p.labels.length ≤ 1000000) :
    Rt pg 97 [gi c, cameG (al, true), cameG (bl, b2)] (cameG (bothQ c (al, true) (bl, b2))) := by
  rw [bothQ_is]
  refine Rt.of pg_ok Tryz.func97 rfl Tryz.ntmps97 rfl Tryz.results97 Tryz.call97 fun H0 S0 w0 h0 g0 => ?_
  have hal : (al.map ptc).length = al.length := by simp
  have hbl : (bl.map ptc).length = bl.length := by simp
  refine JK.ownNilB 4 0 47 2 rfl rfl ?_
  refine FZB 1 rfl rfl ?_
  refine FZB 2 rfl rfl ?_
  have hO : ∀ i, i ≤ al.length → ((al.take i).flatMap (fun p => bl.filterMap (pairQ c (al, true) (bl, b2) p))).length ≤ i * bl.length := fun i hi => by
    have := fl_len (fun p => bl.filterMap (pairQ c (al, true) (bl, b2) p)) bl.length (fun p => List.length_filterMap_le _ _) (al.take i)
    rwa [List.length_take, Nat.min_eq_left hi] at this
  refine JK.loopE (α := Nat) (β := Unit) (fun i => ⟨[(4, .r [pts al, .v (.bool true)]), (5, .r [pts bl, .v (.bool b2)]), (6, .p 3 0), (7, .p 4 0), (8, .fn (.func 131) [] [.p 0 0, .p 4 0]), (22, pts al), (23, gi (al.map ptc).length), (24, gi i)], [(0, .blk 3 [gi c]), (4, .blk 120 [.o 5, .v (.bool b2)]), (5, .row 47 2 (((al.take i).flatMap (fun p => bl.filterMap (pairQ c (al, true) (bl, b2) p))).map ptc)), (3, .blk 120 [.v (.slice none 0 0), .v (.bool false)])], 6⟩) (fun i => i ≤ al.length) (fun i => al.length - i)
    (fun _ => ⟨[(6, .p 3 0), (7, .p 4 0)], [(0, .blk 3 [gi c]), (4, .blk 120 [.o 5, .v (.bool b2)]), (5, .row 47 2 ((al.flatMap (fun p => bl.filterMap (pairQ c (al, true) (bl, b2) p))).map ptc)), (3, .blk 120 [.v (.slice none 0 0), .v (.bool false)])], 6⟩) (fun _ => True) 0 id ?_ (Nat.zero_le _) ?_ ?_
  · exact ⟨⟨rfl, rfl, rfl, rfl, rfl, rfl, rfl, rfl, trivial⟩, ⟨rfl, rfl, rfl, rfl, trivial⟩, rfl⟩
  · intro i hi
    refine V ?_
    by_cases hlt : i < al.length
    · have hOi := hO i hi
      have hst := fl_snoc (fun p => bl.filterMap (pairQ c (al, true) (bl, b2) p)) al i hlt
      generalize (al.take i).flatMap (fun p => bl.filterMap (pairQ c (al, true) (bl, b2) p)) = O at hst hOi ⊢
      have hpl := hla al[i] (List.getElem_mem hlt)
      refine p1 ?_ (decide_eq_true (by omega))
      refine ix (h := ?_)
      refine FZB 6 rfl rfl ?_
      refine JK.loopE (α := Nat) (β := Unit) (fun j => ⟨[(4, .r [pts al, .v (.bool true)]), (5, .r [pts bl, .v (.bool b2)]), (6, .p 3 0), (7, .p 4 0), (8, .fn (.func 131) [] [.p 0 0, .p 4 0]), (22, pts al), (23, gi (al.map ptc).length), (24, gi i), (10, .r (ptc al[i])), (29, pts bl), (30, gi (bl.map ptc).length), (31, gi j)], [(0, .blk 3 [gi c]), (4, .blk 120 [.o 5, .v (.bool b2)]), (5, .row 47 2 ((O ++ (bl.take j).filterMap (pairQ c (al, true) (bl, b2) al[i])).map ptc)), (3, .blk 120 [.v (.slice none 0 0), .v (.bool false)])], 7⟩) (fun j => j ≤ bl.length) (fun j => bl.length - j)
        (fun _ => ⟨[(4, .r [pts al, .v (.bool true)]), (5, .r [pts bl, .v (.bool b2)]), (6, .p 3 0), (7, .p 4 0), (8, .fn (.func 131) [] [.p 0 0, .p 4 0]), (22, pts al), (23, gi (al.map ptc).length), (24, gi i)], [(0, .blk 3 [gi c]), (4, .blk 120 [.o 5, .v (.bool b2)]), (5, .row 47 2 ((O ++ bl.filterMap (pairQ c (al, true) (bl, b2) al[i])).map ptc)), (3, .blk 120 [.v (.slice none 0 0), .v (.bool false)])], 7⟩) (fun _ => True) 0 id ?_ (Nat.zero_le _) ?_ ?_
      · refine ⟨⟨rfl, rfl, rfl, rfl, rfl, rfl, rfl, rfl, rfl, rfl, rfl, rfl, trivial⟩, ⟨rfl, rfl, ?_, rfl, trivial⟩, rfl⟩
        rw [List.take_zero, List.filterMap_nil, List.append_nil]
        rfl
      · intro j hj
        refine V ?_
        by_cases hjt : j < bl.length
        · have hjs := fm_snoc (pairQ c (al, true) (bl, b2) al[i]) bl j hjt
          have hql := hlb bl[j] (List.getElem_mem hjt)
          refine p1 ?_ (decide_eq_true (by omega))
          refine ix (h := ?_)
          have hPl : (O ++ (bl.take j).filterMap (pairQ c (al, true) (bl, b2) al[i])).length ≤ 1000000 := by
            have h1 : ((bl.take j).filterMap (pairQ c (al, true) (bl, b2) al[i])).length ≤ j := Nat.le_trans (List.length_filterMap_le _ _) (by rw [List.length_take]; omega)
            have h2 : i * bl.length ≤ 999 * 1000 := Nat.mul_le_mul (by omega) hb
            rw [List.length_append]
            omega
          have hPs : O ++ (bl.take (j + 1)).filterMap (pairQ c (al, true) (bl, b2) al[i]) = O ++ (bl.take j).filterMap (pairQ c (al, true) (bl, b2) al[i]) ++ (pairQ c (al, true) (bl, b2) al[i] bl[j]).toList := by rw [hjs]; exact (List.append_assoc _ _ _).symm
          generalize O ++ (bl.take j).filterMap (pairQ c (al, true) (bl, b2) al[i]) = P at hPl hPs ⊢
          have hpq : pairQ c (al, true) (bl, b2) al[i] bl[j] = (countF c al[i].value bl[j].value).map fun n => (⟨bl[j].labels, n⟩ : Pt) := if_pos rfl
          cases hc : countF c al[i].value bl[j].value with
          | none =>
            rw [hc] at hpq
            rw [hpq] at hPs
            refine GOH (both1_no c al[i].value bl[j].value bl[j].labels (P.map ptc) b2 hc) r3 rfl rfl ⟨rfl, rfl, rfl, trivial⟩ rfl (r3_lt rfl) ?_
            rintro _ _ _ ⟨rfl, rfl, rfl⟩
            refine ⟨j + 1, id, ⟨⟨rfl, rfl, rfl, rfl, rfl, rfl, rfl, rfl, rfl, rfl, rfl, succ_gi (by omega), trivial⟩, ⟨rfl, rfl, ?_, rfl, trivial⟩, rfl⟩, hjt, by show bl.length - (j + 1) < bl.length - j; omega⟩
            rw [hPs]
            show some (Res.row 47 2 (P.map ptc)) = some (Res.row 47 2 ((P ++ []).map ptc))
            rw [List.append_nil]
          | some n =>
            rw [hc] at hpq
            rw [hpq] at hPs
            refine GOH (both1_yes c al[i].value bl[j].value n bl[j].labels (P.map ptc) b2 hc hql (by simpa using hPl)) r3 rfl rfl ⟨rfl, rfl, rfl, trivial⟩ rfl (r3_lt rfl) ?_
            rintro _ _ _ ⟨rfl, rfl, rfl⟩
            refine ⟨j + 1, r1 5 8, ⟨⟨rfl, rfl, rfl, rfl, rfl, rfl, rfl, rfl, rfl, rfl, rfl, succ_gi (by omega), trivial⟩, ⟨rfl, rfl, ?_, rfl, trivial⟩, rfl⟩, hjt, by show bl.length - (j + 1) < bl.length - j; omega⟩
            rw [hPs]
            show some (Res.row 47 2 (P.map ptc ++ [[lbs bl[j].labels, gi n]])) = some (Res.row 47 2 ((P ++ [(⟨bl[j].labels, n⟩ : Pt)]).map ptc))
            rw [List.map_append]
            rfl
        · refine p2 ?_ (decide_eq_false (by omega))
          obtain rfl : j = bl.length := by omega
          rw [List.take_length]
          exact ⟨(), id, ⟨⟨rfl, rfl, rfl, rfl, rfl, rfl, rfl, rfl, trivial⟩, ⟨rfl, rfl, rfl, rfl, trivial⟩, rfl⟩, trivial⟩
      · rintro _ _
        refine V ?_
        refine ⟨i + 1, id, ⟨⟨rfl, rfl, rfl, rfl, rfl, rfl, rfl, succ_gi (by omega), trivial⟩, ⟨rfl, rfl, ?_, rfl, trivial⟩, rfl⟩, hlt, by show al.length - (i + 1) < al.length - i; omega⟩
        rw [hst]
        rfl
    · refine p2 ?_ (decide_eq_false (by omega))
      obtain rfl : i = al.length := by omega
      rw [List.take_length]
      exact ⟨(), id, ⟨⟨rfl, rfl, trivial⟩, ⟨rfl, rfl, rfl, rfl, trivial⟩, rfl⟩, trivial⟩
  · rintro _ _
    refine FRZ 5 rfl ?_
    exact ⟨rfl, rfl⟩
theorem both_f (c : Int) (al bl : List Pt) (b2 : Bool) (ha : al.length ≤ 1000) (hb : bl.length ≤ 1000) (hla : ∀ p ∈ al, p.labels.length ≤ 1000000) (hlb : ∀ p ∈ bl, p.labels.length ≤ 1000000) :
    Rt pg 97 [gi c, cameG (al, false), cameG (bl, b2)] (cameG (bothQ c (al, false) (bl, b2))) := by
  rw [bothQ_is]
  refine Rt.of pg_ok Tryz.func97 rfl Tryz.ntmps97 rfl Tryz.results97 Tryz.call97 fun H0 S0 w0 h0 g0 => ?_
  have hal : (al.map ptc).length = al.length := by simp
  have hbl : (bl.map ptc).length = bl.length := by simp
  refine JK.ownNilB 4 0 47 2 rfl rfl ?_
  refine FZB 1 rfl rfl ?_
  refine FZB 2 rfl rfl ?_
  have hO : ∀ i, i ≤ al.length → ((al.take i).flatMap (fun p => bl.filterMap (pairQ c (al, false) (bl, b2) p))).length ≤ i * bl.length := fun i hi => by
    have := fl_len (fun p => bl.filterMap (pairQ c (al, false) (bl, b2) p)) bl.length (fun p => List.length_filterMap_le _ _) (al.take i)
    rwa [List.length_take, Nat.min_eq_left hi] at this
  refine JK.loopE (α := Nat) (β := Unit) (fun i => ⟨[(4, .r [pts al, .v (.bool false)]), (5, .r [pts bl, .v (.bool b2)]), (6, .p 3 0), (7, .p 4 0), (8, .fn (.func 131) [] [.p 0 0, .p 4 0]), (22, pts al), (23, gi (al.map ptc).length), (24, gi i)], [(0, .blk 3 [gi c]), (4, .blk 120 [.o 5, .v (.bool false)]), (5, .row 47 2 (((al.take i).flatMap (fun p => bl.filterMap (pairQ c (al, false) (bl, b2) p))).map ptc)), (3, .blk 120 [.v (.slice none 0 0), .v (.bool false)])], 6⟩) (fun i => i ≤ al.length) (fun i => al.length - i)
    (fun _ => ⟨[(6, .p 3 0), (7, .p 4 0)], [(0, .blk 3 [gi c]), (4, .blk 120 [.o 5, .v (.bool false)]), (5, .row 47 2 ((al.flatMap (fun p => bl.filterMap (pairQ c (al, false) (bl, b2) p))).map ptc)), (3, .blk 120 [.v (.slice none 0 0), .v (.bool false)])], 6⟩) (fun _ => True) 0 id ?_ (Nat.zero_le _) ?_ ?_
  · exact ⟨⟨rfl, rfl, rfl, rfl, rfl, rfl, rfl, rfl, trivial⟩, ⟨rfl, rfl, rfl, rfl, trivial⟩, rfl⟩
  · intro i hi
    refine V ?_
    by_cases hlt : i < al.length
    · have hOi := hO i hi
      have hst := fl_snoc (fun p => bl.filterMap (pairQ c (al, false) (bl, b2) p)) al i hlt
      generalize (al.take i).flatMap (fun p => bl.filterMap (pairQ c (al, false) (bl, b2) p)) = O at hst hOi ⊢
      have hpl := hla al[i] (List.getElem_mem hlt)
      refine p1 ?_ (decide_eq_true (by omega))
      refine ix (h := ?_)
      refine FZB 6 rfl rfl ?_
      refine JK.loopE (α := Nat) (β := Unit) (fun j => ⟨[(4, .r [pts al, .v (.bool false)]), (5, .r [pts bl, .v (.bool b2)]), (6, .p 3 0), (7, .p 4 0), (8, .fn (.func 131) [] [.p 0 0, .p 4 0]), (22, pts al), (23, gi (al.map ptc).length), (24, gi i), (10, .r (ptc al[i])), (29, pts bl), (30, gi (bl.map ptc).length), (31, gi j)], [(0, .blk 3 [gi c]), (4, .blk 120 [.o 5, .v (.bool false)]), (5, .row 47 2 ((O ++ (bl.take j).filterMap (pairQ c (al, false) (bl, b2) al[i])).map ptc)), (3, .blk 120 [.v (.slice none 0 0), .v (.bool false)])], 7⟩) (fun j => j ≤ bl.length) (fun j => bl.length - j)
        (fun _ => ⟨[(4, .r [pts al, .v (.bool false)]), (5, .r [pts bl, .v (.bool b2)]), (6, .p 3 0), (7, .p 4 0), (8, .fn (.func 131) [] [.p 0 0, .p 4 0]), (22, pts al), (23, gi (al.map ptc).length), (24, gi i)], [(0, .blk 3 [gi c]), (4, .blk 120 [.o 5, .v (.bool false)]), (5, .row 47 2 ((O ++ bl.filterMap (pairQ c (al, false) (bl, b2) al[i])).map ptc)), (3, .blk 120 [.v (.slice none 0 0), .v (.bool false)])], 7⟩) (fun _ => True) 0 id ?_ (Nat.zero_le _) ?_ ?_
      · refine ⟨⟨rfl, rfl, rfl, rfl, rfl, rfl, rfl, rfl, rfl, rfl, rfl, rfl, trivial⟩, ⟨rfl, rfl, ?_, rfl, trivial⟩, rfl⟩
        rw [List.take_zero, List.filterMap_nil, List.append_nil]
        rfl
      · intro j hj
        refine V ?_
        by_cases hjt : j < bl.length
        · have hjs := fm_snoc (pairQ c (al, false) (bl, b2) al[i]) bl j hjt
          have hql := hlb bl[j] (List.getElem_mem hjt)
          refine p1 ?_ (decide_eq_true (by omega))
          refine ix (h := ?_)
          have hPl : (O ++ (bl.take j).filterMap (pairQ c (al, false) (bl, b2) al[i])).length ≤ 1000000 := by
            have h1 : ((bl.take j).filterMap (pairQ c (al, false) (bl, b2) al[i])).length ≤ j := Nat.le_trans (List.length_filterMap_le _ _) (by rw [List.length_take]; omega)
            have h2 : i * bl.length ≤ 999 * 1000 := Nat.mul_le_mul (by omega) hb
            rw [List.length_append]
            omega
          have hPs : O ++ (bl.take (j + 1)).filterMap (pairQ c (al, false) (bl, b2) al[i]) = O ++ (bl.take j).filterMap (pairQ c (al, false) (bl, b2) al[i]) ++ (pairQ c (al, false) (bl, b2) al[i] bl[j]).toList := by rw [hjs]; exact (List.append_assoc _ _ _).symm
          generalize O ++ (bl.take j).filterMap (pairQ c (al, false) (bl, b2) al[i]) = P at hPl hPs ⊢
          cases b2 with
          | true =>
            have hpq : pairQ c (al, false) (bl, true) al[i] bl[j] = (countF c al[i].value bl[j].value).map fun n => (⟨al[i].labels, n⟩ : Pt) := by unfold pairQ; rw [if_neg Bool.false_ne_true, if_pos (.inl rfl)]
            cases hc : countF c al[i].value bl[j].value with
            | none =>
              rw [hc] at hpq
              rw [hpq] at hPs
              refine GOH (both1_no c al[i].value bl[j].value al[i].labels (P.map ptc) false hc) r3 rfl rfl ⟨rfl, rfl, rfl, trivial⟩ rfl (r3_lt rfl) ?_
              rintro _ _ _ ⟨rfl, rfl, rfl⟩
              refine ⟨j + 1, id, ⟨⟨rfl, rfl, rfl, rfl, rfl, rfl, rfl, rfl, rfl, rfl, rfl, succ_gi (by omega), trivial⟩, ⟨rfl, rfl, ?_, rfl, trivial⟩, rfl⟩, hjt, by show bl.length - (j + 1) < bl.length - j; omega⟩
              rw [hPs]
              show some (Res.row 47 2 (P.map ptc)) = some (Res.row 47 2 ((P ++ []).map ptc))
              rw [List.append_nil]
            | some n =>
              rw [hc] at hpq
              rw [hpq] at hPs
              refine GOH (both1_yes c al[i].value bl[j].value n al[i].labels (P.map ptc) false hc hpl (by simpa using hPl)) r3 rfl rfl ⟨rfl, rfl, rfl, trivial⟩ rfl (r3_lt rfl) ?_
              rintro _ _ _ ⟨rfl, rfl, rfl⟩
              refine ⟨j + 1, r1 5 8, ⟨⟨rfl, rfl, rfl, rfl, rfl, rfl, rfl, rfl, rfl, rfl, rfl, succ_gi (by omega), trivial⟩, ⟨rfl, rfl, ?_, rfl, trivial⟩, rfl⟩, hjt, by show bl.length - (j + 1) < bl.length - j; omega⟩
              rw [hPs]
              show some (Res.row 47 2 (P.map ptc ++ [[lbs al[i].labels, gi n]])) = some (Res.row 47 2 ((P ++ [(⟨al[i].labels, n⟩ : Pt)]).map ptc))
              rw [List.map_append]
              rfl
          | false =>
            refine GO (lcompare_rt al[i].labels bl[j].labels) rfl ?_
            by_cases h0 : cmpF al[i].labels bl[j].labels = 0
            · refine p1 ?_ (beq_iff_eq.2 h0)
              have hpq : pairQ c (al, false) (bl, false) al[i] bl[j] = (countF c al[i].value bl[j].value).map fun n => (⟨al[i].labels, n⟩ : Pt) := by unfold pairQ; rw [if_neg Bool.false_ne_true, if_pos (.inr h0)]
              cases hc : countF c al[i].value bl[j].value with
              | none =>
                rw [hc] at hpq
                rw [hpq] at hPs
                refine GOH (both1_no c al[i].value bl[j].value al[i].labels (P.map ptc) false hc) r3 rfl rfl ⟨rfl, rfl, rfl, trivial⟩ rfl (r3_lt rfl) ?_
                rintro _ _ _ ⟨rfl, rfl, rfl⟩
                refine ⟨j + 1, id, ⟨⟨rfl, rfl, rfl, rfl, rfl, rfl, rfl, rfl, rfl, rfl, rfl, succ_gi (by omega), trivial⟩, ⟨rfl, rfl, ?_, rfl, trivial⟩, rfl⟩, hjt, by show bl.length - (j + 1) < bl.length - j; omega⟩
                rw [hPs]
                show some (Res.row 47 2 (P.map ptc)) = some (Res.row 47 2 ((P ++ []).map ptc))
                rw [List.append_nil]
              | some n =>
                rw [hc] at hpq
                rw [hpq] at hPs
                refine GOH (both1_yes c al[i].value bl[j].value n al[i].labels (P.map ptc) false hc hpl (by simpa using hPl)) r3 rfl rfl ⟨rfl, rfl, rfl, trivial⟩ rfl (r3_lt rfl) ?_
                rintro _ _ _ ⟨rfl, rfl, rfl⟩
                refine ⟨j + 1, r1 5 8, ⟨⟨rfl, rfl, rfl, rfl, rfl, rfl, rfl, rfl, rfl, rfl, rfl, succ_gi (by omega), trivial⟩, ⟨rfl, rfl, ?_, rfl, trivial⟩, rfl⟩, hjt, by show bl.length - (j + 1) < bl.length - j; omega⟩
                rw [hPs]
                show some (Res.row 47 2 (P.map ptc ++ [[lbs al[i].labels, gi n]])) = some (Res.row 47 2 ((P ++ [(⟨al[i].labels, n⟩ : Pt)]).map ptc))
                rw [List.map_append]
                rfl
            · refine p2 ?_ (beq_false_of_ne h0)
              have hpq : pairQ c (al, false) (bl, false) al[i] bl[j] = none := by unfold pairQ; rw [if_neg Bool.false_ne_true, if_neg fun h => h.elim (fun h => Bool.false_ne_true h) h0]
              rw [hpq] at hPs
              refine ⟨j + 1, id, ⟨⟨rfl, rfl, rfl, rfl, rfl, rfl, rfl, rfl, rfl, rfl, rfl, succ_gi (by omega), trivial⟩, ⟨rfl, rfl, ?_, rfl, trivial⟩, rfl⟩, hjt, by show bl.length - (j + 1) < bl.length - j; omega⟩
              rw [hPs]
              show some (Res.row 47 2 (P.map ptc)) = some (Res.row 47 2 ((P ++ []).map ptc))
              rw [List.append_nil]
        · refine p2 ?_ (decide_eq_false (by omega))
          obtain rfl : j = bl.length := by omega
          rw [List.take_length]
          exact ⟨(), id, ⟨⟨rfl, rfl, rfl, rfl, rfl, rfl, rfl, rfl, trivial⟩, ⟨rfl, rfl, rfl, rfl, trivial⟩, rfl⟩, trivial⟩
      · rintro _ _
        refine V ?_
        refine ⟨i + 1, id, ⟨⟨rfl, rfl, rfl, rfl, rfl, rfl, rfl, succ_gi (by omega), trivial⟩, ⟨rfl, rfl, ?_, rfl, trivial⟩, rfl⟩, hlt, by show al.length - (i + 1) < al.length - i; omega⟩
        rw [hst]
        rfl
    · refine p2 ?_ (decide_eq_false (by omega))
      obtain rfl : i = al.length := by omega
      rw [List.take_length]
      exact ⟨(), id, ⟨⟨rfl, rfl, trivial⟩, ⟨rfl, rfl, rfl, rfl, trivial⟩, rfl⟩, trivial⟩
  · rintro _ _
    refine FRZ 5 rfl ?_
    exact ⟨rfl, rfl⟩
theorem both_rt (c : Int) (a b : Came) (ha : a.1.length ≤ 1000) (hb : b.1.length ≤ 1000) (hla : ∀ p ∈ a.1, p.labels.length ≤ 1000000) (hlb : ∀ p ∈ b.1, p.labels.length ≤ 1000000) :
    Rt pg 97 [gi c, cameG a, cameG b] (cameG (bothQ c a b)) := by
  obtain ⟨al, a2⟩ := a
  obtain ⟨bl, b2⟩ := b
  cases a2 with
  | true => exact both_t c al bl b2 ha hb hla hlb
  | false => exact both_f c al bl b2 ha hb hla hlb
end Go.Proofs.YtkoalgjlkcaonaaGreatDoor
/-
  Plain laws: what a question comes to stays small, and in order. No program is in sight.
-/
namespace Go.PL
open Go Go.GK
def LabB (l : List Pt) : Prop := ∀ p ∈ l, p.labels.length ≤ 1000000
structure SrcB (src : List Mt → Int → Int → List Ser) : Prop where
  ok : SrcOk 100 src
  small : ∀ m lo hi, ∀ x ∈ src m lo hi, x.labels.length ≤ 1000000 ∧ x.samples.length ≤ 100000
theorem pts_lab (c : Int) {l : List Ser} (h : ∀ x ∈ l, x.labels.length ≤ 1000000) : LabB (ptsF c l) := by
  intro p hp
  obtain ⟨x, hx, rfl⟩ := List.mem_map.1 hp
  exact h x (List.mem_filter.1 hx).1
theorem ins_lab {c : Int} {x : Pt} (hx : x.labels.length ≤ 1000000) : ∀ {l : List Pt}, LabB l → LabB (insP c l x)
  | [], _, p, hp => by rw [List.mem_singleton.1 hp]; exact hx
  | y :: r, h, p, hp => by
    unfold insP at hp
    split at hp
    · rcases List.mem_cons.1 hp with rfl | hp
      · exact h _ (by simp)
      · exact ins_lab hx (fun q hq => h q (by simp [hq])) p hp
    split at hp
    · rcases List.mem_cons.1 hp with rfl | hp
      · exact h y (by simp)
      · exact h p (by simp [hp])
    · rcases List.mem_cons.1 hp with rfl | hp
      · exact hx
      · exact h p hp
theorem fold_lab {c : Int} : ∀ (b l : List Pt), LabB b → LabB l → LabB (b.foldl (insP c) l)
  | [], _, _, h => h
  | x :: b, _, hb, h => fold_lab b _ (fun p hp => hb p (by simp [hp])) (ins_lab (hb x (by simp)) h)
theorem tog_lab (c : Int) (by_ : List ByteArray) {l : List Pt} (h : LabB l) : LabB (togF c by_ l) := by
  refine fold_lab _ _ (fun p hp => ?_) (fun p hp => by cases hp)
  obtain ⟨q, hq, rfl⟩ := List.mem_map.1 hp
  exact Nat.le_trans (List.length_filter_le _ _) (h q hq)
theorem both_lab (c : Int) {a b : Came} (ha : LabB a.1) (hb : LabB b.1) : LabB (bothQ c a b).1 := by
  rw [bothQ_is]
  intro z hz
  obtain ⟨p, hp, hz⟩ := List.mem_flatMap.1 hz
  obtain ⟨q, hq, hz⟩ := List.mem_filterMap.1 hz
  rw [pair_labels hz]
  split
  · exact hb q hq
  · exact ha p hp
def Good (a : Came) : Prop := CameOk 100 a ∧ LabB a.1
theorem num_good {v : Int} (hv : I64 v) : Good ([⟨[], v⟩], true) := ⟨num_ok (by decide) hv, fun p hp => by rw [List.mem_singleton.1 hp]; exact Nat.zero_le _⟩
theorem both_good (c : Int) {a b : Came} (ha : Good a) (hb : Good b) : Good (bothQ c a b) := ⟨both_ok c ha.1 hb.1, both_lab c ha.2 hb.2⟩
theorem tog_good (c : Int) (by_ : List ByteArray) {a : Came} (h : Good a) : Good (togF c by_ a.1, false) := ⟨tog_ok c by_ h.1, tog_lab c by_ h.2⟩
theorem pts_good {src : List Mt → Int → Int → List Ser} (hs : SrcB src) (c : Int) (m : List Mt) (lo hi : Int) : Good (ptsF c (src m lo hi), false) :=
  ⟨pts_ok c (hs.ok.ris m lo hi) (hs.ok.len m lo hi) (fun x hx => by have := (hs.small m lo hi x hx).2; omega) (hs.ok.val m lo hi), pts_lab c fun x hx => (hs.small m lo hi x hx).1⟩
theorem eval_good {src : List Mt → Int → Int → List Ser} (hs : SrcB src) (t : Int) {q : Qn} (hq : Wf q) : ∀ a, evalF src t q = .ok a → Good a := by
  have bin : ∀ (c : Int) (l r : Qn), 13 ≤ c → (∀ a, evalF src t l = .ok a → Good a) → (∀ a, evalF src t r = .ok a → Good a) → ∀ a, evalF src t (.mk c 0 [] 0 [] l r) = .ok a → Good a := by
    intro c l r hc ih1 ih2 a h
    rw [evalF, if_neg (by omega), if_neg (by omega)] at h
    cases he : evalF src t l with
    | error e => rw [he] at h; cases h
    | ok x =>
      rw [he] at h
      simp only at h
      rw [if_neg (by omega), if_neg (by omega)] at h
      cases he2 : evalF src t r with
      | error e => rw [he2] at h; cases h
      | ok y =>
        rw [he2] at h
        cases h
        exact both_good c (ih1 x he) (ih2 y he2)
  induction hq with
  | num n h0 h1 => intro a h; rw [evalF, if_pos rfl] at h; cases h; exact num_good ⟨by omega, by omega⟩
  | pick m h => intro a h; rw [evalF, if_neg (by decide), if_pos (by decide)] at h; cases h; exact pts_good hs _ _ _ _
  | over k hk m h sp h1 h2 => intro a h; rw [evalF, if_neg (by omega), if_pos (by omega)] at h; cases h; exact pts_good hs _ _ _ _
  | all k hk b hb hl q hq ih =>
    intro a h
    rw [evalF, if_neg (by omega), if_neg (by omega)] at h
    cases he : evalF src t q with
    | error e => rw [he] at h; cases h
    | ok x =>
      rw [he] at h
      simp only at h
      rw [if_pos (by omega)] at h
      split at h
      · cases h
      · cases h; exact tog_good _ _ (ih x he)
  | neg q hq ih =>
    intro a h
    rw [evalF, if_neg (by decide), if_neg (by decide)] at h
    cases he : evalF src t q with
    | error e => rw [he] at h; cases h
    | ok x =>
      rw [he] at h
      simp only at h
      rw [if_neg (by decide), if_pos trivial] at h
      cases h
      exact both_good 14 (num_good (by unfold I64; omega)) (ih x he)
  | add k hk l r hl hr ih1 ih2 => exact bin _ l r (by omega) ih1 ih2
  | mul k hk l r hl hr ih1 ih2 => exact bin _ l r (by omega) ih1 ih2
end Go.PL
/-
  Contracts: what a question comes to (eval.eval).
-/
namespace Go.Proofs.YtkoalgjlkcaonaaGreatDoor
open Go.GK Go.PL Go.RowKit
set_option maxRecDepth 100000
def evalG (r : Except Int Came) : GV := match r with
  | .ok a => .tup [cameG a, .v .nilIface]
  | .error e => .tup [.agg [.v (.slice none 0 0), .v (.bool false)], .ifc 53 (gi e)]
theorem SrcC.b {f : FuncId} {S : List Ser} {src : List Mt → Int → Int → List Ser} (h : SrcC f S src) : SrcB src := ⟨h.ok, h.small⟩
theorem eval_over {f : FuncId} {S : List Ser} {src : List Mt → Int → Int → List Ser} (hs : SrcC f S src) (t c : Int) (hc : c = 2 ∨ c = 3 ∨ c = 4 ∨ c = 5 ∨ c = 6 ∨ c = 7) (m : List Mt) (sp : Int) (hm : m.length ≤ 8) :
    Rt pg 60 [qG (.mk c 0 m sp [] .nil .nil), gi t, srcG f S] (evalG (evalF src t (.mk c 0 m sp [] .nil .nil))) := by
  rw [evalF, if_neg (by omega), if_pos (by omega)]
  refine Rt.of pg_ok Tryz.func60 rfl Tryz.ntmps60 rfl Tryz.results60 Tryz.call60 fun H0 S0 w0 h0 g0 => ?_
  rcases hc with rfl | rfl | rfl | rfl | rfl | rfl
  all_goals
    repeat (first | refine p1 ?_ | refine p2 ?_ | refine p3 ?_ | refine p4 ?_)
    refine GO (series_rt hs _ 0 m sp [] .nil .nil hm t) rfl ?_
    exact ⟨⟨rfl, rfl, trivial⟩, rfl⟩
set_option maxHeartbeats 4000000 in
theorem eval_all_err {f : FuncId} {S : List Ser} {src : List Mt → Int → Int → List Ser} (t c : Int) (hc : c = 8 ∨ c = 9 ∨ c = 10 ∨ c = 11 ∨ c = 12 ∨ c = 13 ∨ c = 14 ∨ c = 15 ∨ c = 16) (b : List ByteArray) (l r : Qn) {e : Int} (he : evalF src t l = .error e)
    (ih : Rt pg 60 [qG l, gi t, srcG f S] (evalG (evalF src t l))) :
    Rt pg 60 [qG (.mk c 0 [] 0 b l r), gi t, srcG f S] (evalG (evalF src t (.mk c 0 [] 0 b l r))) := by
  rw [evalF, if_neg (by omega), if_neg (by omega)]
  rw [he] at ih ⊢
  refine Rt.of pg_ok Tryz.func60 rfl Tryz.ntmps60 rfl Tryz.results60 Tryz.call60 fun H0 S0 w0 h0 g0 => ?_
  rcases hc with rfl | rfl | rfl | rfl | rfl | rfl | rfl | rfl | rfl <;> cases l
  all_goals
    repeat (first | refine p1 ?_ | refine p2 ?_ | refine p3 ?_ | refine p4 ?_)
    refine GO ih rfl ?_
    repeat (first | refine p1 ?_ | refine p2 ?_ | refine p3 ?_ | refine p4 ?_)
    exact ⟨⟨rfl, rfl, trivial⟩, rfl⟩
end Go.Proofs.YtkoalgjlkcaonaaGreatDoor
/-
  Contracts: what any question comes to (eval.eval, eval.Eval).
-/
namespace Go.Proofs.YtkoalgjlkcaonaaGreatDoor
open Go.GK Go.PL Go.RowKit
set_option maxRecDepth 100000
theorem eval_num {f : FuncId} {S : List Ser} {src : List Mt → Int → Int → List Ser} (t n : Int) :
    Rt pg 60 [qG (.mk 1 n [] 0 [] .nil .nil), gi t, srcG f S] (evalG (evalF src t (.mk 1 n [] 0 [] .nil .nil))) := by
  rw [evalF, if_pos rfl]
  refine Rt.ofJ pg_ok Tryz.func60 rfl Tryz.ntmps60 rfl Tryz.results60 Tryz.call60 fun H0 S0 w0 h0 g0 => ?_
  refine VM 35 ?_
  repeat (first | refine p1 ?_ | refine p2 ?_ | refine p3 ?_ | refine p4 ?_)
  show JK _ _ _ _
  refine JK.freeze 1 rfl ?_
  refine JK.subBlk 0 [pts [⟨[], n⟩], .v (.bool true)] rfl (.cons (Sub.rows (.cons (.cons (SubR.nil 2) (.cons SubR.rfl .nil)) .nil)) (.cons Sub.rfl .nil)) ?_
  refine V ?_
  exact ⟨⟨rfl, rfl, trivial⟩, rfl⟩
set_option maxHeartbeats 4000000 in
theorem eval_all {f : FuncId} {S : List Ser} {src : List Mt → Int → Int → List Ser} (t c : Int) (hc : c = 8 ∨ c = 9 ∨ c = 10 ∨ c = 11) (b : List ByteArray) (l r : Qn) {a : Came} (he : evalF src t l = .ok a) (hg : PL.Good a) (hb : b.length ≤ 1000000)
    (ih : Rt pg 60 [qG l, gi t, srcG f S] (evalG (evalF src t l))) :
    Rt pg 60 [qG (.mk c 0 [] 0 b l r), gi t, srcG f S] (evalG (evalF src t (.mk c 0 [] 0 b l r))) := by
  rw [evalF, if_neg (by omega), if_neg (by omega)]
  rw [he] at ih ⊢
  simp only
  rw [if_pos (by omega)]
  obtain ⟨pl, a2⟩ := a
  have htog := together_rt c b pl (by have := hg.1.len; simp only at this; omega) hg.2 hb
  refine Rt.of pg_ok Tryz.func60 rfl Tryz.ntmps60 rfl Tryz.results60 Tryz.call60 fun H0 S0 w0 h0 g0 => ?_
  cases a2 with
  | true =>
    rcases hc with rfl | rfl | rfl | rfl <;> cases l
    all_goals
      repeat (first | refine p1 ?_ | refine p2 ?_ | refine p3 ?_ | refine p4 ?_)
      refine GO ih rfl ?_
      repeat (first | refine p1 ?_ | refine p2 ?_ | refine p3 ?_ | refine p4 ?_)
      exact ⟨⟨rfl, rfl, trivial⟩, rfl⟩
  | false =>
    rcases hc with rfl | rfl | rfl | rfl <;> cases l
    all_goals
      repeat (first | refine p1 ?_ | refine p2 ?_ | refine p3 ?_ | refine p4 ?_)
      refine GO ih rfl ?_
      repeat (first | refine p1 ?_ | refine p2 ?_ | refine p3 ?_ | refine p4 ?_)
      refine FZB 1 rfl rfl ?_
      refine DRAW [0] false (tk [0, 1, 2, 3, 4, 5, 6, 7, 8, 9]) (by kernel_rfl) ?_
      refine RGO 10 true (al [11, 12] ++ tk [13]) htog rfl rfl (by kernel_rfl) ?_
      refine V ?_
      exact ⟨⟨rfl, rfl, trivial⟩, rfl⟩
end Go.Proofs.YtkoalgjlkcaonaaGreatDoor
/-
  Contracts: what any question comes to (eval.eval, eval.Eval).
-/
namespace Go.Proofs.YtkoalgjlkcaonaaGreatDoor
open Go.GK Go.PL Go.RowKit
set_option maxRecDepth 100000
set_option maxHeartbeats 4000000 in
theorem eval_neg {f : FuncId} {S : List Ser} {src : List Mt → Int → Int → List Ser} (t : Int) (l r : Qn) {a : Came} (he : evalF src t l = .ok a) (hg : PL.Good a)
    (ih : Rt pg 60 [qG l, gi t, srcG f S] (evalG (evalF src t l))) :
    Rt pg 60 [qG (.mk 12 0 [] 0 [] l r), gi t, srcG f S] (evalG (evalF src t (.mk 12 0 [] 0 [] l r))) := by
  rw [evalF, if_neg (by omega), if_neg (by omega)]
  rw [he] at ih ⊢
  simp only
  rw [if_neg (by omega), if_pos trivial]
  obtain ⟨pl, a2⟩ := a
  have hbo := both_t 14 [⟨[], 0⟩] pl a2 (by decide) (by have := hg.1.len; simp only at this; omega) (fun p hp => by rw [List.mem_singleton.1 hp]; exact Nat.zero_le _) hg.2
  refine Rt.ofJ pg_ok Tryz.func60 rfl Tryz.ntmps60 rfl Tryz.results60 Tryz.call60 fun H0 S0 w0 h0 g0 => ?_
  cases l
  all_goals
    refine V ?_
    repeat (first | refine p1 ?_ | refine p2 ?_ | refine p3 ?_ | refine p4 ?_)
    refine GOJ ih.hf id rfl rfl trivial rfl (id_lt rfl) ?_
    rintro _ _ _ ⟨rfl, rfl, rfl⟩
    refine VM 48 ?_
    repeat (first | refine p1 ?_ | refine p2 ?_ | refine p3 ?_ | refine p4 ?_)
    show JK _ _ _ _
    refine JK.freeze 2 rfl ?_
    refine JK.sub 98 (pts [⟨[], 0⟩]) rfl (Sub.rows (.cons (.cons (SubR.nil 2) (.cons SubR.rfl .nil)) .nil)) ?_
    refine V ?_
    refine GO hbo rfl ?_
    exact ⟨⟨rfl, rfl, trivial⟩, rfl⟩
set_option maxHeartbeats 4000000 in
theorem eval_two {f : FuncId} {S : List Ser} {src : List Mt → Int → Int → List Ser} (t c : Int) (hc : c = 13 ∨ c = 14 ∨ c = 15 ∨ c = 16) (l r : Qn) {a : Came} (he : evalF src t l = .ok a) (hg : PL.Good a)
    (ih : Rt pg 60 [qG l, gi t, srcG f S] (evalG (evalF src t l))) (ihr : Rt pg 60 [qG r, gi t, srcG f S] (evalG (evalF src t r))) (hgr : ∀ b, evalF src t r = .ok b → PL.Good b) :
    Rt pg 60 [qG (.mk c 0 [] 0 [] l r), gi t, srcG f S] (evalG (evalF src t (.mk c 0 [] 0 [] l r))) := by
  rw [evalF, if_neg (by omega), if_neg (by omega)]
  rw [he] at ih ⊢
  simp only
  rw [if_neg (by omega), if_neg (by omega)]
  obtain ⟨pl, a2⟩ := a
  cases hr : evalF src t r with
  | error e =>
    rw [hr] at ihr
    refine Rt.of pg_ok Tryz.func60 rfl Tryz.ntmps60 rfl Tryz.results60 Tryz.call60 fun H0 S0 w0 h0 g0 => ?_
    rcases hc with rfl | rfl | rfl | rfl <;> cases l <;> cases r
    all_goals
      repeat (first | refine p1 ?_ | refine p2 ?_ | refine p3 ?_ | refine p4 ?_)
      refine GO ih rfl ?_
      repeat (first | refine p1 ?_ | refine p2 ?_ | refine p3 ?_ | refine p4 ?_)
      refine GO ihr rfl ?_
      repeat (first | refine p1 ?_ | refine p2 ?_ | refine p3 ?_ | refine p4 ?_)
      exact ⟨⟨rfl, rfl, trivial⟩, rfl⟩
  | ok b =>
    rw [hr] at ihr
    have hgb := hgr b hr
    obtain ⟨ql, b2⟩ := b
    have hbo := both_rt c (pl, a2) (ql, b2) (by have := hg.1.len; omega) (by have := hgb.1.len; omega) hg.2 hgb.2
    refine Rt.of pg_ok Tryz.func60 rfl Tryz.ntmps60 rfl Tryz.results60 Tryz.call60 fun H0 S0 w0 h0 g0 => ?_
    rcases hc with rfl | rfl | rfl | rfl <;> cases l <;> cases r
    all_goals
      repeat (first | refine p1 ?_ | refine p2 ?_ | refine p3 ?_ | refine p4 ?_)
      refine GO ih rfl ?_
      repeat (first | refine p1 ?_ | refine p2 ?_ | refine p3 ?_ | refine p4 ?_)
      refine GO ihr rfl ?_
      repeat (first | refine p1 ?_ | refine p2 ?_ | refine p3 ?_ | refine p4 ?_)
      refine FZB 1 rfl rfl ?_
      refine FZB 2 rfl rfl ?_
      refine DRAW [0] false (tk [0, 1, 2, 3, 4, 5]) (by kernel_rfl) ?_
      refine RGO 6 true (al [7] ++ tk [8]) hbo rfl rfl (by kernel_rfl) ?_
      refine V ?_
      exact ⟨⟨rfl, rfl, trivial⟩, rfl⟩
end Go.Proofs.YtkoalgjlkcaonaaGreatDoor
/-
  Contracts: what any question comes to (eval.eval, eval.Eval).
-/
namespace Go.Proofs.YtkoalgjlkcaonaaGreatDoor
open Go.GK Go.PL Go.RowKit
set_option maxRecDepth 100000
theorem eval_rt {f : FuncId} {S : List Ser} {src : List Mt → Int → Int → List Ser} (hs : SrcC f S src) (t : Int) {q : Qn} (hq : Wf q) :
    Rt pg 60 [qG q, gi t, srcG f S] (evalG (evalF src t q)) := by
  have hgood := fun {q : Qn} (h : Wf q) => eval_good hs.b t h
  have bin : ∀ (c : Int) (l r : Qn), (c = 13 ∨ c = 14 ∨ c = 15 ∨ c = 16) → Wf l → Wf r → Rt pg 60 [qG l, gi t, srcG f S] (evalG (evalF src t l)) → Rt pg 60 [qG r, gi t, srcG f S] (evalG (evalF src t r)) →
      Rt pg 60 [qG (.mk c 0 [] 0 [] l r), gi t, srcG f S] (evalG (evalF src t (.mk c 0 [] 0 [] l r))) := by
    intro c l r hc hl hr ih1 ih2
    cases he : evalF src t l with
    | error e => exact eval_all_err t c (by omega) [] l r he ih1
    | ok a => exact eval_two t c hc l r he (hgood hl a he) ih1 ih2 (hgood hr)
  induction hq with
  | num n h0 h1 => exact eval_num t n
  | pick m h => exact eval_over hs t 2 (by omega) m 300 h.2
  | over k hk m h sp h1 h2 => exact eval_over hs t _ (by omega) m sp h.2
  | all k hk b hb hl q hq ih =>
    cases he : evalF src t q with
    | error e => exact eval_all_err t _ (by omega) b q .nil he ih
    | ok a => exact eval_all t _ (by omega) b q .nil he (hgood hq a he) (by omega) ih
  | neg q hq ih =>
    cases he : evalF src t q with
    | error e => exact eval_all_err t _ (by omega) [] q .nil he ih
    | ok a => exact eval_neg t q .nil he (hgood hq a he) ih
  | add k hk l r hl hr ih1 ih2 => exact bin _ l r (by omega) hl hr ih1 ih2
  | mul k hk l r hl hr ih1 ih2 => exact bin _ l r (by omega) hl hr ih1 ih2
def comesG (r : Except Int Came) : GV := match r with
  | .ok a => .tup [pts a.1, .v (.bool a.2), .v .nilIface]
  | .error e => .tup [.v (.slice none 0 0), .v (.bool false), .ifc 53 (gi e)]
theorem comes_rt {f : FuncId} {S : List Ser} {src : List Mt → Int → Int → List Ser} (hs : SrcC f S src) (t : Int) {q : Qn} (hq : Wf q) (h1 : -1099511627776 ≤ t) (h2 : t ≤ 1099511627776) :
    Rt pg 24 [qG q, gi t, srcG f S] (comesG (evalF src t q)) := by
  have he := eval_rt hs t hq
  obtain ⟨c, n, m, sp, b, l, r, rfl⟩ : ∃ c n m sp b l r, q = .mk c n m sp b l r := by cases hq <;> exact ⟨_, _, _, _, _, _, _, rfl⟩
  refine Rt.of pg_ok Tryz.func24 rfl Tryz.ntmps24 rfl Tryz.results24 Tryz.call24 fun H0 S0 w0 h0 g0 => ?_
  refine p4 ?_ (decide_eq_false (by omega))
  refine p2 ?_ (decide_eq_false (by omega))
  cases hr : evalF src t (.mk c n m sp b l r) with
  | error e =>
    rw [hr] at he
    refine GO he rfl ?_
    refine p1 ?_
    exact ⟨⟨rfl, rfl, rfl, trivial⟩, rfl⟩
  | ok a =>
    obtain ⟨pl, a2⟩ := a
    rw [hr] at he
    refine GO he rfl ?_
    refine p2 ?_
    refine ⟨by kernel_rfl, ?_⟩
    exact ⟨⟨rfl, rfl, rfl, trivial⟩, rfl⟩
end Go.Proofs.YtkoalgjlkcaonaaGreatDoor
/-
  Contracts: the document's samples.
-/
namespace Go.Proofs.YtkoalgjlkcaonaaGreatDoor
open Go.GK Go.PL
set_option maxRecDepth 100000
end Go.Proofs.YtkoalgjlkcaonaaGreatDoor
/-
  Contracts: samples between two times (chunk.Between, raingaugeref.Between).
-/
namespace Go.Proofs.YtkoalgjlkcaonaaGreatDoor
open Go.GK Go.PL
set_option maxRecDepth 100000
theorem filt_take {α : Type} (p : α → Bool) (l : List α) (i : Nat) (h : i < l.length) : (l.take (i + 1)).filter p = (l.take i).filter p ++ if p l[i] then [l[i]] else [] := by
  rw [List.take_add_one, List.getElem?_eq_getElem h, List.filter_append]
  congr 1
  cases hp : p l[i] <;> simp [hp]
abbrev inS (f t : Int) (x : Sm) : Bool := decide (f ≤ x.time ∧ x.time ≤ t)
theorem between_rt (l : List Sm) (f t : Int) (hl : l.length ≤ 100000) : Rt pg 64 [.sl 2 (l.map sm), gi f, gi t] (.sl 2 ((l.filter (inS f t)).map sm)) := by
  refine Rt.of pg_ok Tryz.func64 rfl Tryz.ntmps64 rfl Tryz.results64 Tryz.call64 fun H0 S0 w0 h0 g0 => ?_
  refine JK.ownNil 7 33 2 rfl ?_
  refine JK.loopE (α := Nat) (β := Unit) (fun i => ⟨[(1, gi f), (2, gi t), (10, .sl 2 (l.map sm)), (11, gi (l.map sm).length), (12, gi i), (7, .o 0)], [(0, .row 33 2 (((l.take i).filter (inS f t)).map sm))], 1⟩) (fun i => i ≤ l.length) (fun i => l.length - i) (fun _ => ⟨[(7, .o 0)], [(0, .row 33 2 ((l.filter (inS f t)).map sm))], 1⟩) (fun _ => True) 0 id ?_ (Nat.zero_le _) ?_ ?_
  · exact ⟨⟨rfl, rfl, rfl, rfl, rfl, rfl, trivial⟩, ⟨rfl, trivial⟩, rfl⟩
  · intro i hi
    refine V ?_
    by_cases hlt : i < l.length
    · have hfl : ((l.take i).filter (inS f t)).length ≤ i := Nat.le_trans (List.length_filter_le _ _) (by rw [List.length_take]; omega)
      refine p1 ?_
      refine ix (h := ?_)
      by_cases h1 : f ≤ l[i].time
      · refine p1 ?_
        by_cases h2 : l[i].time ≤ t
        · refine p1 ?_
          refine ⟨by simp only [List.length_map, List.length_cons, List.length_nil]; omega, ?_⟩
          refine ⟨i + 1, fun _ => 3, ⟨⟨rfl, rfl, rfl, rfl, succ_gi (by omega), rfl, trivial⟩, ⟨?_, trivial⟩, rfl⟩, hlt, by show l.length - (i + 1) < l.length - i; omega⟩
          rw [filt_take _ _ _ hlt, if_pos (decide_eq_true ⟨h1, h2⟩), List.map_append]
          rfl
        · refine p2 ?_
          refine ⟨i + 1, id, ⟨⟨rfl, rfl, rfl, rfl, succ_gi (by omega), rfl, trivial⟩, ⟨?_, trivial⟩, rfl⟩, hlt, by show l.length - (i + 1) < l.length - i; omega⟩
          rw [filt_take _ _ _ hlt, if_neg (by simp [inS]; omega), List.append_nil]
          rfl
      · refine p2 ?_
        refine ⟨i + 1, id, ⟨⟨rfl, rfl, rfl, rfl, succ_gi (by omega), rfl, trivial⟩, ⟨?_, trivial⟩, rfl⟩, hlt, by show l.length - (i + 1) < l.length - i; omega⟩
        rw [filt_take _ _ _ hlt, if_neg (by simp [inS]; omega), List.append_nil]
        rfl
    · refine p2 ?_
      obtain rfl : i = l.length := by omega
      rw [List.take_length]
      exact ⟨(), id, ⟨⟨rfl, trivial⟩, ⟨rfl, trivial⟩, rfl⟩, trivial⟩
  · rintro _ _
    refine FRZ 0 rfl ?_
    exact ⟨rfl, rfl⟩
end Go.Proofs.YtkoalgjlkcaonaaGreatDoor
/-
  Contracts: questions: products and sums; the three of them together. (Printed by gen/gen_ap.py.)
-/
namespace Go.Proofs.YtkoalgjlkcaonaaGreatDoor
open Go.GK Go.RowKit Go.PL
set_option maxRecDepth 100000
theorem product_hx (f : Nat) (ih : ∀ f', f' < f + 1 → AskOk f') (n : Nat) (t0 : Tok) (l0 : List Tok) (hn : n ≤ 100) (hE0 : ToksOk (t0 :: l0)) (hl0 : l0.length ≤ 200) (hf : 3 * (l0.length + 1) + 2 ≤ f + 1) : Hx pg 87 1 [.p 0 0, gi n] (ps (t0 :: l0)) (okA (productP (f + 1) n (t0 :: l0)) (l0.length + 1)) (erR (productP (f + 1) n (t0 :: l0))) := by
  refine okA_n ?_
  generalize hP : productP (f + 1) n (t0 :: l0) = P
  rw [productP] at hP
  refine Hx.ofJ pg_ok Tryz.func87 rfl Tryz.ntmps87 rfl Tryz.results87 Tryz.call87 fun H0 S0 w0 h0 g0 => ?_
  refine V ?_
  refine GOX (erR P) ((ih f (Nat.lt_succ_self f)).one n t0 l0 hn hE0 hl0 (by omega)) (fun g ⟨e, p, h2, h3⟩ => ⟨e, p, by rw [← hP, h2], h3⟩) id rfl rfl ⟨rfl, trivial⟩ rfl (id_lt rfl) ?_
  rintro g σ' n' ⟨q, l1, hq, hne, hE1, hl1, rfl, rfl, rfl⟩
  simp only [hq] at hP
  obtain ⟨t1, l1, rfl⟩ := hE1.cons
  simp only [List.length_cons] at hl1
  cases q with
  | nil => exact absurd rfl hne
  | mk c nn m sp ns ql qr =>
  refine V ?_
  show JK _ _ _ _
  refine JK.loop (α := Qn × Tok × List Tok × Nat) (fun x => ⟨[(0, .p 0 0), (1, gi n), (5, qG x.1)], [(0, .blk 87 [tks (x.2.1 :: x.2.2.1)])], 1⟩) (fun x => x.1 ≠ .nil ∧ ToksOk (x.2.1 :: x.2.2.1) ∧ 3 * (x.2.2.1.length + 1) + 2 ≤ x.2.2.2 ∧ x.2.2.2 ≤ f ∧ x.2.2.1.length < l0.length ∧ productL x.2.2.2 n x.1 (x.2.1 :: x.2.2.1) = P) (fun x => x.2.2.1.length) (.mk c nn m sp ns ql qr, t1, l1, f) id ?_ ?_ ?_
  · exact ⟨⟨rfl, rfl, rfl, trivial⟩, ⟨rfl, trivial⟩, rfl⟩
  · exact ⟨by simp, hE1, by show 3 * (l1.length + 1) + 2 ≤ f; omega, Nat.le_refl _, by show l1.length < l0.length; omega, hP⟩
  rintro ⟨q, t, l, f2⟩ ⟨hne, hE, hf2, hff, hl, hR⟩
  replace hne : q ≠ .nil := hne
  replace hE : ToksOk (t :: l) := hE
  replace hf2 : 3 * (l.length + 1) + 2 ≤ f2 := hf2
  replace hff : f2 ≤ f := hff
  replace hl : l.length < l0.length := hl
  replace hR : productL f2 n q (t :: l) = P := hR
  obtain ⟨f2, rfl⟩ : ∃ k, f2 = k + 1 := ⟨f2 - 1, by omega⟩
  rw [productL] at hR
  cases q with
  | nil => exact absurd rfl hne
  | mk c nn m sp ns ql qr =>
  refine V ?_
  rcases tf (takesP (bS [42]) (t :: l)) with h1 | h1
  · rw [if_pos h1] at hR
    have hE2 := hE.tail (takesP_iff.1 h1).2
    obtain ⟨t2, l2, rfl⟩ := hE2.cons
    rw [List.tail_cons] at hR
    simp only [List.length_cons] at hf2 hl
    refine GOH (takes_yes t _ (bS [42]) h1) id rfl rfl ⟨rfl, trivial⟩ rfl (id_lt rfl) ?_
    rintro g σ' n' ⟨rfl, rfl, rfl⟩
    refine GOX (erR P) ((ih f2 (by omega)).one n t2 l2 hn hE2 (by omega) (by omega)) (fun g ⟨e, p, h2, h3⟩ => ⟨e, p, by rw [← hR, h2], h3⟩) id rfl rfl ⟨rfl, trivial⟩ rfl (id_lt rfl) ?_
    rintro g σ' n' ⟨q2, l3, hq2, hne2, hE3, hl3, rfl, rfl, rfl⟩
    simp only [hq2] at hR
    obtain ⟨t3, l3, rfl⟩ := hE3.cons
    simp only [List.length_cons] at hl3
    cases q2 with
    | nil => exact absurd rfl hne2
    | mk c2 nn2 m2 sp2 ns2 ql2 qr2 =>
    refine VM 3 ?_
    show JK _ _ _ _
    refine JK.subBlk 1 [gi 15, gi 0, .sl 3 [], gi 0, .sl 1 [], .r [gi c, gi nn, .sl 3 (m.map mt), gi sp, .sl 1 (ns.map fun s => [gs s]), qG ql, qG qr], .r [gi c2, gi nn2, .sl 3 (m2.map mt), gi sp2, .sl 1 (ns2.map fun s => [gs s]), qG ql2, qG qr2]] rfl (sv7 Sub.rfl (Sub.nil 3) (Sub.nil 1)) ?_
    refine JK.freezeB 1 rfl rfl ?_
    refine V ?_
    exact ⟨(.mk 15 0 [] 0 [] (.mk c nn m sp ns ql qr) (.mk c2 nn2 m2 sp2 ns2 ql2 qr2), t3, l3, f2), id, ⟨⟨rfl, rfl, rfl, trivial⟩, ⟨rfl, trivial⟩, rfl⟩, ⟨by simp, hE3, by show 3 * (l3.length + 1) + 2 ≤ f2; omega, by show f2 ≤ f; omega, by show l3.length < l0.length; omega, hR⟩, by show l3.length < l2.length + 1; omega⟩
  rw [if_neg (Bool.eq_false_iff.1 h1)] at hR
  refine GOH (takes_no t l (bS [42]) h1) id rfl rfl ⟨rfl, trivial⟩ rfl (id_lt rfl) ?_
  rintro g σ' n' ⟨rfl, rfl, rfl⟩
  rcases tf (takesP (bS [47]) (t :: l)) with h1 | h1
  · rw [if_pos h1] at hR
    have hE2 := hE.tail (takesP_iff.1 h1).2
    obtain ⟨t2, l2, rfl⟩ := hE2.cons
    rw [List.tail_cons] at hR
    simp only [List.length_cons] at hf2 hl
    refine GOH (takes_yes t _ (bS [47]) h1) id rfl rfl ⟨rfl, trivial⟩ rfl (id_lt rfl) ?_
    rintro g σ' n' ⟨rfl, rfl, rfl⟩
    refine GOX (erR P) ((ih f2 (by omega)).one n t2 l2 hn hE2 (by omega) (by omega)) (fun g ⟨e, p, h2, h3⟩ => ⟨e, p, by rw [← hR, h2], h3⟩) id rfl rfl ⟨rfl, trivial⟩ rfl (id_lt rfl) ?_
    rintro g σ' n' ⟨q2, l3, hq2, hne2, hE3, hl3, rfl, rfl, rfl⟩
    simp only [hq2] at hR
    obtain ⟨t3, l3, rfl⟩ := hE3.cons
    simp only [List.length_cons] at hl3
    cases q2 with
    | nil => exact absurd rfl hne2
    | mk c2 nn2 m2 sp2 ns2 ql2 qr2 =>
    refine VM 3 ?_
    show JK _ _ _ _
    refine JK.subBlk 1 [gi 16, gi 0, .sl 3 [], gi 0, .sl 1 [], .r [gi c, gi nn, .sl 3 (m.map mt), gi sp, .sl 1 (ns.map fun s => [gs s]), qG ql, qG qr], .r [gi c2, gi nn2, .sl 3 (m2.map mt), gi sp2, .sl 1 (ns2.map fun s => [gs s]), qG ql2, qG qr2]] rfl (sv7 Sub.rfl (Sub.nil 3) (Sub.nil 1)) ?_
    refine JK.freezeB 1 rfl rfl ?_
    refine V ?_
    exact ⟨(.mk 16 0 [] 0 [] (.mk c nn m sp ns ql qr) (.mk c2 nn2 m2 sp2 ns2 ql2 qr2), t3, l3, f2), id, ⟨⟨rfl, rfl, rfl, trivial⟩, ⟨rfl, trivial⟩, rfl⟩, ⟨by simp, hE3, by show 3 * (l3.length + 1) + 2 ≤ f2; omega, by show f2 ≤ f; omega, by show l3.length < l0.length; omega, hR⟩, by show l3.length < l2.length + 1; omega⟩
  rw [if_neg (Bool.eq_false_iff.1 h1)] at hR
  refine GOH (takes_no t l (bS [47]) h1) id rfl rfl ⟨rfl, trivial⟩ rfl (id_lt rfl) ?_
  rintro g σ' n' ⟨rfl, rfl, rfl⟩
  exact ⟨Nat.le_of_ble_eq_true rfl, .mk c nn m sp ns ql qr, t :: l, hR.symm, hne, hE, by simp; omega, rfl, rfl⟩
theorem sum_hx (f : Nat) (ih : ∀ f', f' < f + 1 → AskOk f') (n : Nat) (t0 : Tok) (l0 : List Tok) (hn : n ≤ 100) (hE0 : ToksOk (t0 :: l0)) (hl0 : l0.length ≤ 200) (hf : 3 * (l0.length + 1) + 3 ≤ f + 1) : Hx pg 48 1 [.p 0 0, gi n] (ps (t0 :: l0)) (okA (sumP (f + 1) n (t0 :: l0)) (l0.length + 1)) (erR (sumP (f + 1) n (t0 :: l0))) := by
  refine okA_n ?_
  generalize hP : sumP (f + 1) n (t0 :: l0) = P
  rw [sumP] at hP
  refine Hx.ofJ pg_ok Tryz.func48 rfl Tryz.ntmps48 rfl Tryz.results48 Tryz.call48 fun H0 S0 w0 h0 g0 => ?_
  refine V ?_
  refine GOX (erR P) ((ih f (Nat.lt_succ_self f)).product n t0 l0 hn hE0 hl0 (by omega)) (fun g ⟨e, p, h2, h3⟩ => ⟨e, p, by rw [← hP, h2], h3⟩) id rfl rfl ⟨rfl, trivial⟩ rfl (id_lt rfl) ?_
  rintro g σ' n' ⟨q, l1, hq, hne, hE1, hl1, rfl, rfl, rfl⟩
  simp only [hq] at hP
  obtain ⟨t1, l1, rfl⟩ := hE1.cons
  simp only [List.length_cons] at hl1
  cases q with
  | nil => exact absurd rfl hne
  | mk c nn m sp ns ql qr =>
  refine V ?_
  show JK _ _ _ _
  refine JK.loop (α := Qn × Tok × List Tok × Nat) (fun x => ⟨[(0, .p 0 0), (1, gi n), (5, qG x.1)], [(0, .blk 87 [tks (x.2.1 :: x.2.2.1)])], 1⟩) (fun x => x.1 ≠ .nil ∧ ToksOk (x.2.1 :: x.2.2.1) ∧ 3 * (x.2.2.1.length + 1) + 3 ≤ x.2.2.2 ∧ x.2.2.2 ≤ f ∧ x.2.2.1.length < l0.length ∧ sumL x.2.2.2 n x.1 (x.2.1 :: x.2.2.1) = P) (fun x => x.2.2.1.length) (.mk c nn m sp ns ql qr, t1, l1, f) id ?_ ?_ ?_
  · exact ⟨⟨rfl, rfl, rfl, trivial⟩, ⟨rfl, trivial⟩, rfl⟩
  · exact ⟨by simp, hE1, by show 3 * (l1.length + 1) + 3 ≤ f; omega, Nat.le_refl _, by show l1.length < l0.length; omega, hP⟩
  rintro ⟨q, t, l, f2⟩ ⟨hne, hE, hf2, hff, hl, hR⟩
  replace hne : q ≠ .nil := hne
  replace hE : ToksOk (t :: l) := hE
  replace hf2 : 3 * (l.length + 1) + 3 ≤ f2 := hf2
  replace hff : f2 ≤ f := hff
  replace hl : l.length < l0.length := hl
  replace hR : sumL f2 n q (t :: l) = P := hR
  obtain ⟨f2, rfl⟩ : ∃ k, f2 = k + 1 := ⟨f2 - 1, by omega⟩
  rw [sumL] at hR
  cases q with
  | nil => exact absurd rfl hne
  | mk c nn m sp ns ql qr =>
  refine V ?_
  rcases tf (takesP (bS [43]) (t :: l)) with h1 | h1
  · rw [if_pos h1] at hR
    have hE2 := hE.tail (takesP_iff.1 h1).2
    obtain ⟨t2, l2, rfl⟩ := hE2.cons
    rw [List.tail_cons] at hR
    simp only [List.length_cons] at hf2 hl
    refine GOH (takes_yes t _ (bS [43]) h1) id rfl rfl ⟨rfl, trivial⟩ rfl (id_lt rfl) ?_
    rintro g σ' n' ⟨rfl, rfl, rfl⟩
    refine GOX (erR P) ((ih f2 (by omega)).product n t2 l2 hn hE2 (by omega) (by omega)) (fun g ⟨e, p, h2, h3⟩ => ⟨e, p, by rw [← hR, h2], h3⟩) id rfl rfl ⟨rfl, trivial⟩ rfl (id_lt rfl) ?_
    rintro g σ' n' ⟨q2, l3, hq2, hne2, hE3, hl3, rfl, rfl, rfl⟩
    simp only [hq2] at hR
    obtain ⟨t3, l3, rfl⟩ := hE3.cons
    simp only [List.length_cons] at hl3
    cases q2 with
    | nil => exact absurd rfl hne2
    | mk c2 nn2 m2 sp2 ns2 ql2 qr2 =>
    refine VM 3 ?_
    show JK _ _ _ _
    refine JK.subBlk 1 [gi 13, gi 0, .sl 3 [], gi 0, .sl 1 [], .r [gi c, gi nn, .sl 3 (m.map mt), gi sp, .sl 1 (ns.map fun s => [gs s]), qG ql, qG qr], .r [gi c2, gi nn2, .sl 3 (m2.map mt), gi sp2, .sl 1 (ns2.map fun s => [gs s]), qG ql2, qG qr2]] rfl (sv7 Sub.rfl (Sub.nil 3) (Sub.nil 1)) ?_
    refine JK.freezeB 1 rfl rfl ?_
    refine V ?_
    exact ⟨(.mk 13 0 [] 0 [] (.mk c nn m sp ns ql qr) (.mk c2 nn2 m2 sp2 ns2 ql2 qr2), t3, l3, f2), id, ⟨⟨rfl, rfl, rfl, trivial⟩, ⟨rfl, trivial⟩, rfl⟩, ⟨by simp, hE3, by show 3 * (l3.length + 1) + 3 ≤ f2; omega, by show f2 ≤ f; omega, by show l3.length < l0.length; omega, hR⟩, by show l3.length < l2.length + 1; omega⟩
  rw [if_neg (Bool.eq_false_iff.1 h1)] at hR
  refine GOH (takes_no t l (bS [43]) h1) id rfl rfl ⟨rfl, trivial⟩ rfl (id_lt rfl) ?_
  rintro g σ' n' ⟨rfl, rfl, rfl⟩
  rcases tf (takesP (bS [45]) (t :: l)) with h1 | h1
  · rw [if_pos h1] at hR
    have hE2 := hE.tail (takesP_iff.1 h1).2
    obtain ⟨t2, l2, rfl⟩ := hE2.cons
    rw [List.tail_cons] at hR
    simp only [List.length_cons] at hf2 hl
    refine GOH (takes_yes t _ (bS [45]) h1) id rfl rfl ⟨rfl, trivial⟩ rfl (id_lt rfl) ?_
    rintro g σ' n' ⟨rfl, rfl, rfl⟩
    refine GOX (erR P) ((ih f2 (by omega)).product n t2 l2 hn hE2 (by omega) (by omega)) (fun g ⟨e, p, h2, h3⟩ => ⟨e, p, by rw [← hR, h2], h3⟩) id rfl rfl ⟨rfl, trivial⟩ rfl (id_lt rfl) ?_
    rintro g σ' n' ⟨q2, l3, hq2, hne2, hE3, hl3, rfl, rfl, rfl⟩
    simp only [hq2] at hR
    obtain ⟨t3, l3, rfl⟩ := hE3.cons
    simp only [List.length_cons] at hl3
    cases q2 with
    | nil => exact absurd rfl hne2
    | mk c2 nn2 m2 sp2 ns2 ql2 qr2 =>
    refine VM 3 ?_
    show JK _ _ _ _
    refine JK.subBlk 1 [gi 14, gi 0, .sl 3 [], gi 0, .sl 1 [], .r [gi c, gi nn, .sl 3 (m.map mt), gi sp, .sl 1 (ns.map fun s => [gs s]), qG ql, qG qr], .r [gi c2, gi nn2, .sl 3 (m2.map mt), gi sp2, .sl 1 (ns2.map fun s => [gs s]), qG ql2, qG qr2]] rfl (sv7 Sub.rfl (Sub.nil 3) (Sub.nil 1)) ?_
    refine JK.freezeB 1 rfl rfl ?_
    refine V ?_
    exact ⟨(.mk 14 0 [] 0 [] (.mk c nn m sp ns ql qr) (.mk c2 nn2 m2 sp2 ns2 ql2 qr2), t3, l3, f2), id, ⟨⟨rfl, rfl, rfl, trivial⟩, ⟨rfl, trivial⟩, rfl⟩, ⟨by simp, hE3, by show 3 * (l3.length + 1) + 3 ≤ f2; omega, by show f2 ≤ f; omega, by show l3.length < l0.length; omega, hR⟩, by show l3.length < l2.length + 1; omega⟩
  rw [if_neg (Bool.eq_false_iff.1 h1)] at hR
  refine GOH (takes_no t l (bS [45]) h1) id rfl rfl ⟨rfl, trivial⟩ rfl (id_lt rfl) ?_
  rintro g σ' n' ⟨rfl, rfl, rfl⟩
  exact ⟨Nat.le_of_ble_eq_true rfl, .mk c nn m sp ns ql qr, t :: l, hR.symm, hne, hE, by simp; omega, rfl, rfl⟩
theorem ask_all : ∀ f : Nat, AskOk f := by
  intro f
  induction f using Nat.strongRecOn with
  | _ f ih =>
    cases f with
    | zero => exact ⟨fun _ _ _ _ _ _ h => by omega, fun _ _ _ _ _ _ h => by omega, fun _ _ _ _ _ _ h => by omega⟩
    | succ f => exact ⟨one_hx f (ih f (Nat.lt_succ_self f)), sum_hx f ih, product_hx f ih⟩
end Go.Proofs.YtkoalgjlkcaonaaGreatDoor
/-
  Contracts: what is thrown is caught.
-/
namespace Go.Proofs.YtkoalgjlkcaonaaGreatDoor
open Go.GK Go.RowKit Go.PL
set_option maxRecDepth 100000
theorem isWrong (u : Value) (w : World) : (Instr.typeAssert (.iface 132 u) 20 132 true).run Tryz.prog w = .ok (.tuple #[u, .bool true]) w := by kernel_rfl
theorem caught_idle (p : Addr) (w : World) : CallsD Tryz.prog 71 #[.pointer (some p)] .returning w fun e u' w' => e = .returned (.tuple #[]) ∧ u' = .returning ∧ w' = w := by
  refine callsD_of_wpS Tryz.func71 rfl fun c₀ cs hu => ?_
  apply wpS_seq
  apply wpS_region
  simp [wpOpsS, go_sem, recoverD, hu, Tryz.ntmps71, Exit.thenS]
  refine wpS_of_wp ?_
  simp only [Array.replicate]
  go_wp2
  cases c₀
  simp_all [bodyPostS, results, Tryz.results71]
theorem caught_panics (p : Addr) (x : Value) (t : TypeId) (q : Value) (w : World) (hc : w.cell? p = some x) (hz : w.frozen? p = false) : CallsD Tryz.prog 71 #[.pointer (some p)] (.panicking [{ v := .iface 132 (.agg #[(.iface t q)]), recovered := false }]) w fun e u' w' => e = .returned (.tuple #[]) ∧ u' = .panicking [{ v := .iface 132 (.agg #[(.iface t q)]), recovered := true }] ∧ w' = (w.alloc (.cells #[(.iface t q)] 132)).setCell p (.iface t q) := by
  refine callsD_of_wpS Tryz.func71 rfl fun c₀ cs hu => ?_
  apply wpS_seq
  apply wpS_region
  simp [wpOpsS, go_sem, recoverD, hu, Tryz.ntmps71, Exit.thenS]
  refine wpS_of_wp ?_
  simp only [Array.replicate]
  go_wp2
  rw [isWrong]
  rename_i K1 a1 K a
  refine a _ _ ?_
  have hlt : p.block < w.heap.size := World.block_lt_of_cell? w _ hc
  have hh : (w.alloc (.cells #[.iface t q] 132)).heap[p.block]? = w.heap[p.block]? := ((Below.refl w.heap.size w).alloc (Nat.le_refl _) _).block _ hlt
  have hc2 : (w.alloc (.cells #[.iface t q] 132)).cell? p = some x := by
    unfold World.cell? at hc ⊢
    rw [hh]
    exact hc
  have hz2 : (w.alloc (.cells #[.iface t q] 132)).frozen? p = false := by
    unfold World.frozen? at hz ⊢
    rw [hh]
    exact hz
  go_wp2
  cases c₀
  simp_all [bodyPostS, results, Tryz.results71]
theorem back {H H' : Hid} {σ σ' : Heap} {w w' w'' : World} {o : Obj} (hs : Sat H σ w) (hs' : Sat H' σ' w') (hfr : Fr H (blks H σ) (w.alloc o) H' (blks H' σ') w') (hos : w''.os = w'.os) (ht : w''.tape = w'.tape) (ho : w''.output = w'.output) (hz : w'.heap.size ≤ w''.heap.size) (hk : ∀ b, b < w'.heap.size → b ≠ w.heap.size → w''.heap[b]? = w'.heap[b]?) : Sat H' σ' w'' ∧ Fr H (blks H σ) w H' (blks H' σ') w'' := by
  have hold : ∀ b, b < w.heap.size → (w.alloc o).heap[b]? = w.heap[b]? := fun b hb => ((Below.refl w.heap.size w).alloc (Nat.le_refl _) _).block b hb
  have hsize : (w.alloc o).heap.size = w.heap.size + 1 := by simp
  have hnb : w.heap.size ∉ blks H σ := fun h => absurd (hs.lt _ h) (Nat.lt_irrefl _)
  have hro : H'.ro w.heap.size = none := by
    cases h : H'.ro w.heap.size with
    | none => rfl
    | some x =>
      rcases hfr.fro w.heap.size (hs.none_size _ (Nat.le_refl _)) (by rw [h]; simp) with h1 | h1
      · exact absurd h1 hnb
      · omega
  have hbl : w.heap.size ∉ blks H' σ' := fun h => by
    rcases hfr.own _ h with h1 | h1
    · exact hnb h1
    · omega
  have hsz := hfr.size
  refine ⟨⟨fun b x hb => ?_, fun x hx => ?_, hs'.nodup, hs'.free, hs'.ids⟩, ⟨hos.trans hfr.os, ht.trans hfr.tape, ho.trans hfr.output, by omega, fun b h1 h2 => ?_, fun b hb => ?_, fun b h1 h2 => ?_, hfr.le⟩⟩
  · have h1 := hs'.ro b x hb
    rw [hk b (Array.getElem?_eq_some_iff.1 h1).1 (fun e => by rw [e, hro] at hb; cases hb)]
    exact h1
  · refine holds_congr (fun b hb => ?_) (hs'.holds x hx)
    have hm : b ∈ blks H' σ' := List.mem_flatMap.2 ⟨x, hx, hb⟩
    exact hk b (hs'.lt b hm) (fun e => hbl (e ▸ hm))
  · rw [hk b (by omega) (by omega), hfr.keep b (by omega) h2, hold b h1]
  · rcases hfr.own b hb with h | h
    · exact .inl h
    · exact .inr (by omega)
  · rcases hfr.fro b h1 h2 with h | h
    · exact .inl h
    · exact .inr (by omega)
theorem caught_hf (g : FuncId) (caps : List GV) (n0 : Nat) (σ : Heap) (Q : GV → Heap → Nat → Prop) (R : GV → Prop) (hx : Hx pg g n0 caps σ Q R) (hR : ∀ x, R x → ∃ e p, x = wrongG e p) :
    Hf pg 35 n0 [.fn (.func g) [] caps] σ (fun r σ' n' => (∃ x, Q x σ' n' ∧ r = .v .nilIface) ∨ (∃ e p, R (wrongG e p) ∧ r = .ifc 129 (.r [gi e, gi p]) ∧ σ' = [])) := by
  refine ⟨Tryz.call35, fun H us w hn hg hcs hs => ?_⟩
  obtain ⟨u, rfl, hu⟩ : ∃ u, us = #[u] ∧ Is H (.fn (.func g) [] caps) u := by
    obtain ⟨h1, h2⟩ := hcs
    have := h2 0 _ rfl
    refine ⟨us.getD 0 undef, ?_, this⟩
    simp at h1
    apply Array.ext
    · simp [← h1]
    · intro i hi1 hi2
      have : i = 0 := by simp at hi2; omega
      subst this
      simp [Array.getD, hi1]
  obtain ⟨us0, vs, rfl, hl0, _, hl1, hi1⟩ := hu.inv_fn
  obtain rfl : us0 = #[] := Array.eq_empty_of_size_eq_zero hl0.symm
  have hvs : Cells H caps vs := ⟨hl1, hi1⟩
  have hcall : ∀ aas w, (callFunc g aas).run Tryz.prog w = .ok (.enter g aas) w := hx.call
  show Calls Tryz.prog _ _ _ _
  go_enter_defers Tryz.func35, Tryz.ntmps35
  go_wp2
  have hnew := heap_alloc_new w (.cells #[Value.nilIface] 42)
  have hold : ∀ b, b < w.heap.size → (w.alloc (.cells #[Value.nilIface] 42)).heap[b]? = w.heap[b]? := fun b hb => ((Below.refl w.heap.size w).alloc (Nat.le_refl _) _).block b hb
  have hsize : (w.alloc (.cells #[Value.nilIface] 42)).heap.size = w.heap.size + 1 := by simp
  have hnb : w.heap.size ∉ blks H σ := fun h => absurd (hs.lt _ h) (Nat.lt_irrefl _)
  have hs1 : Sat H σ (w.alloc (.cells #[Value.nilIface] 42)) := hs.below ((Below.refl w.heap.size w).alloc (Nat.le_refl _) _)
  refine (hx.ct H vs _ hn hg hvs hs1).mono ?_
  rintro e w' (⟨u, x, H', σ', rfl, hi, hs', hfr, hq⟩ | ⟨v, x, H', rfl, hi, hs', hfr, hr, hb⟩)
  · rename_i K1 a1 K a
    have hb0 : w'.heap[w.heap.size]? = some (.cells #[Value.nilIface] 42) := by
      rw [hfr.keep w.heap.size (by rw [hsize]; omega) hnb]
      exact hnew
    have hc : w'.cell? ⟨w.heap.size, 0, none⟩ = some .nilIface := by simp [World.cell?, hb0]
    have hz : w'.frozen? ⟨w.heap.size, 0, none⟩ = false := by simp [World.frozen?, hb0]
    refine a _ _ ?_
    go_wp2
    refine leaves_cons (f := 71) (args := #[.pointer (some ⟨w.heap.size, 0, none⟩)]) (by simp) (by simp [go_sem]) ?_
    refine (caught_idle _ _).mono ?_
    rintro e u' w'' ⟨rfl, rfl, rfl⟩
    show ∃ v, _ ∧ _
    refine ⟨.nilIface, by simp [results, Tryz.results35, go_sem, hc], ?_⟩
    obtain ⟨h1, h2⟩ := back (w'' := w'.setCell ⟨w.heap.size, 0, none⟩ .nilIface) hs hs' hfr rfl rfl rfl (by simp) (fun b _ hb => Below.heap_setCell _ _ _ _ hb)
    exact ⟨.nilIface, .v .nilIface, H', σ', rfl, .ro (.v _), h1, h2, .inl ⟨x, hq, rfl⟩⟩
  · obtain ⟨e, p, rfl⟩ := hR x hr
    have hb0 : w'.heap[w.heap.size]? = some (.cells #[Value.nilIface] 42) := by
      rw [hfr.keep w.heap.size (by rw [hsize]; omega) hnb]
      exact hnew
    have hc : w'.cell? ⟨w.heap.size, 0, none⟩ = some .nilIface := by simp [World.cell?, hb0]
    have hz : w'.frozen? ⟨w.heap.size, 0, none⟩ = false := by simp [World.frozen?, hb0]
    obtain ⟨q, rfl, hq⟩ : ∃ q, v = .iface 132 (.agg #[.iface 129 q]) ∧ Is H' (.r [gi e, gi p]) q := by
      obtain ⟨u1, rfl, h1⟩ := hi.inv_ifc
      obtain ⟨us1, rfl, h2, h3⟩ := h1.inv_agg
      obtain ⟨q, hq1, hq2⟩ := (h3 0 _ rfl).inv_ifc
      refine ⟨q, ?_, hq2⟩
      have : us1 = #[.iface 129 q] := by
        apply Array.ext
        · simpa using h2.symm
        · intro i hi1 hi2
          have : i = 0 := by simp at hi2; omega
          subst this
          rw [Array.getD, dif_pos hi1] at hq1
          simpa using hq1
      rw [this]
    show Leaves _ _ _ _ _ _ _
    refine leaves_cons (f := 71) (args := #[.pointer (some ⟨w.heap.size, 0, none⟩)]) (by simp) (by simp [go_sem]) ?_
    refine (caught_panics _ _ _ _ _ hc hz).mono ?_
    rintro e' u' w'' ⟨rfl, rfl, rfl⟩
    show ∃ v, _ ∧ _
    refine ⟨.iface 129 q, ?_, ?_⟩
    · have hlt : w.heap.size < w'.heap.size := World.block_lt_of_cell? w' _ hc
      have hh : (w'.alloc (.cells #[.iface 129 q] 132)).heap[w.heap.size]? = w'.heap[w.heap.size]? := ((Below.refl w'.heap.size w').alloc (Nat.le_refl _) _).block _ hlt
      have hc2 : (w'.alloc (.cells #[.iface 129 q] 132)).cell? ⟨w.heap.size, 0, none⟩ = some .nilIface := by
        unfold World.cell? at hc ⊢
        rw [hh]
        exact hc
      simp [results, Tryz.results35, go_sem, hc2]
    obtain ⟨h1, h2⟩ := back (w'' := (w'.alloc (.cells #[.iface 129 q] 132)).setCell ⟨w.heap.size, 0, none⟩ (.iface 129 q)) hs hs' hfr rfl rfl rfl (by simp) (fun b hb1 hb2 => (Below.heap_setCell _ _ _ _ hb2).trans (((Below.refl w'.heap.size w').alloc (Nat.le_refl _) _).block b hb1))
    exact ⟨_, .ifc 129 (.r [gi e, gi p]), H', [], rfl, .ifc hq, h1, h2, .inr ⟨e, p, hr, rfl, rfl⟩⟩
end Go.Proofs.YtkoalgjlkcaonaaGreatDoor
/-
  Contracts: questions: a text's tokens.
-/
namespace Go.Proofs.YtkoalgjlkcaonaaGreatDoor
open Go.GK Go.RowKit Go.PL
set_option maxRecDepth 100000
theorem trimLeft_rt (s t : ByteArray) (ht : t.size ≤ 1000) (ha : t.data.toList.all (fun b => decide (b.toNat < 128)) = true) : Rt pg 109 [gs s, gs t] (gs (bS (Lib.trimLeftS s.data.toList t.data.toList))) :=
  Rt.calls Tryz.call109 [.string s, .string t] _ fun w => (Any.strings_TrimLeft_laid Tryz.lays161 (by kernel_rfl) s t w (by omega) (fun _ b hb => of_decide_eq_true (List.all_eq_true.1 ha b (List.mem_of_getElem? hb)))).mono fun e w' ⟨he, hw⟩ => ⟨he, hw⟩
theorem run_rt (s t : ByteArray) (hs : s.size ≤ 1000000) (ht : t.size ≤ 1000) (ha : t.data.toList.all (fun b => decide (b.toNat < 128)) = true) : Rt pg 69 [gs s, gs t] (gi ((s.data.toList.takeWhile (t.data.toList.contains ·)).length : Nat)) := by
  refine Rt.of pg_ok Tryz.func69 rfl Tryz.ntmps69 rfl Tryz.results69 Tryz.call69 fun H0 S0 w0 h0 g0 => ?_
  refine GO (trimLeft_rt s t ht ha) rfl ?_
  refine ⟨?_, rfl⟩
  have h := tw_dw (p := (t.data.toList.contains ·)) s.data.toList
  have e1 : (bS (Lib.trimLeftS s.data.toList t.data.toList)).size = (s.data.toList.dropWhile (t.data.toList.contains ·)).length := by
    show (Lib.trimLeftS s.data.toList t.data.toList).toArray.size = _
    simp [Lib.trimLeftS]
  have e2 : s.size = s.data.toList.length := by simp
  show gi (IntKind.i64.wrap ((s.size : Int) - ((bS (Lib.trimLeftS s.data.toList t.data.toList)).size : Int))) = gi _
  rw [e1, wrap_id (by omega) (by omega)]
  have : (s.size : Int) - ((s.data.toList.dropWhile (t.data.toList.contains ·)).length : Int) = ((s.data.toList.takeWhile (t.data.toList.contains ·)).length : Nat) := by omega
  rw [this]
def splitG : Except (Int × Int) (List Tok) → GV
  | .ok l => .tup [tks l, .v .nilIface]
  | .error (e, p) => .tup [.v (.slice none 0 0), .ifc 129 (.r [gi e, gi p])]
theorem split_rt (s : ByteArray) (hs : s.size ≤ 100000) : Rt pg 34 [gs s] (splitG (tokF s.data.toList (s.size + 1) 0 0)) := by
  have hsz : s.data.toList.length = s.size := by simp
  generalize hR : tokF s.data.toList (s.size + 1) 0 0 = R
  refine Rt.ofJ pg_ok Tryz.func34 rfl Tryz.ntmps34 rfl Tryz.results34 Tryz.call34 fun H0 S0 w0 h0 g0 => ?_
  refine V ?_
  show JK _ _ _ _
  refine JK.ownNil 4 90 3 rfl ?_
  refine JK.loop (α := List Tok × Nat × Nat) (fun x => ⟨[(0, gs s), (4, .o 0), (5, gi x.2.1)], [(0, .row 90 3 (x.1.map tokR))], 1⟩) (fun x => (match tokF s.data.toList x.2.2 x.2.1 x.1.length with | .ok l => .ok (x.1 ++ l) | .error e => .error e) = R ∧ x.2.1 ≤ s.size ∧ s.size - x.2.1 < x.2.2 ∧ x.1.length ≤ 120) (fun x => s.size - x.2.1) ([], 0, s.size + 1) id ?_ ?_ ?_
  · exact ⟨⟨rfl, rfl, rfl, trivial⟩, ⟨rfl, trivial⟩, rfl⟩
  · refine ⟨?_, Nat.zero_le _, by simp, by simp⟩
    show (match tokF s.data.toList (s.size + 1) 0 0 with | .ok l => Except.ok ([] ++ l) | .error e => .error e) = R
    rw [hR]
    cases R <;> rfl
  rintro ⟨out, i, f⟩ ⟨hO, hi, hf, ho⟩
  replace hO : (match tokF s.data.toList f i out.length with | .ok l => .ok (out ++ l) | .error e => .error e) = R := hO
  replace hi : i ≤ s.size := hi
  replace hf : s.size - i < f := hf
  replace ho : out.length ≤ 120 := ho
  obtain ⟨f, rfl⟩ : ∃ k, f = k + 1 := ⟨f - 1, by omega⟩
  have hdr : (s.extract i s.size).data.toList = s.data.toList.drop i := by
    rw [ByteArray.data_extract, Array.toList_extract]
    simp [List.extract, List.take_of_length_le]
  have hk : ((s.data.toList.drop i).takeWhile (· == 32)).length ≤ s.size - i := by
    have := (List.takeWhile_sublist (l := s.data.toList.drop i) (· == 32)).length_le
    rw [List.length_drop, hsz] at this
    exact this
  refine VM 7 ?_
  refine ⟨show (0 : Int) ≤ (i : Int) by omega, show (i : Int) ≤ (s.size : Int) by omega, Int.le_refl _, ?_⟩
  have hrun : Rt pg 69 [gs (s.extract i s.size), gs (bS [32])] (gi (((s.data.toList.drop i).takeWhile (· == 32)).length : Nat)) := by
    have h := run_rt (s.extract i s.size) (bS [32]) (by rw [ByteArray.size_extract]; omega) (by decide) (by decide)
    rw [hdr, tw_congr (q := (· == 32)) (fun b => by
      show ([32] : List UInt8).contains b = _
      rw [Bool.eq_iff_iff]
      simp)] at h
    exact h
  generalize hkk : ((s.data.toList.drop i).takeWhile (· == 32)).length = k at hk hrun
  refine GOJ hrun.hf (fun _ => 0) rfl rfl trivial rfl (fun _ h => absurd h (Nat.not_lt_zero _)) ?_
  rintro g σ' n' ⟨rfl, rfl, rfl⟩
  refine VM 2 ?_
  have hw : gi ((i + k : Nat) : Int) = gi (IntKind.i64.wrap ((i : Int) + (k : Int))) := by rw [wrap_id (by omega) (by omega)]; rfl
  show JK _ _ _ _
  refine JK.sub 5 (gi ((i + k : Nat) : Int)) rfl (Sub.eq hw) ?_
  rw [tokF] at hO
  simp only [hkk, hsz] at hO
  by_cases he : s.size ≤ i + k
  · rw [if_pos he] at hO
    subst hO
    refine VM 20 ?_
    refine p1 ?_ (by simp; omega)
    refine ⟨by simp; omega, ?_⟩
    show JK _ _ _ _
    refine FRZ 2 rfl ?_
    exact ⟨⟨congrArg (GV.sl 3) (List.map_append (l₁ := out) (l₂ := [⟨5, ⟨#[]⟩, ((i + k : Nat) : Int)⟩]) (f := tokR)).symm, rfl, trivial⟩, rfl⟩
  · rw [if_neg he] at hO
    refine VM 33 ?_
    refine p2 ?_ (by simp; omega)
    refine ⟨show (0 : Int) ≤ ((i + k : Nat) : Int) by omega, show ((i + k : Nat) : Int) ≤ (s.size : Int) by omega, Int.le_refl _, ?_⟩
    have hlt : i + k < s.size := by omega
    have hsx : (s.extract (i + k) s.size).size = s.size - (i + k) := by rw [ByteArray.size_extract]; omega
    obtain ⟨c, r, hcr⟩ : ∃ c r, s.data.toList.drop (i + k) = c :: r := by
      cases h : s.data.toList.drop (i + k) with
      | nil => have := congrArg List.length h; rw [List.length_drop, hsz] at this; simp at this; omega
      | cons c r => exact ⟨c, r, rfl⟩
    have hdr2 : (s.extract (i + k) s.size).data.toList = c :: r := by
      rw [← hcr, ByteArray.data_extract, Array.toList_extract]
      simp [List.extract, List.take_of_length_le]
    have hc0 : (s.extract (i + k) s.size)[0]? = some c := byte0 hdr2
    refine ⟨c, by decide, hc0, ?_⟩
    show JK _ _ _ _
    generalize hL : s.extract (i + k) s.size = left at hsx hdr2 hc0
    refine JK.cut (α := Unit) (fun _ => ⟨[(0, gs s), (4, .o 0), (5, gi ((i + k : Nat) : Int)), (6, gs left), (7, .p 1 0), (8, gi ((lexF (c :: r)).1 : Nat))], [(0, .row 90 3 (out.map tokR)), (1, .blk 90 [gi (lexF (c :: r)).2, gs ⟨#[]⟩, gi ((i + k : Nat) : Int)])], 2⟩) (fun _ => True) ?_ ?_
    · subst hL
      refine V ?_
      refine GO (indexByte_rt ⟨lettL.toArray⟩ c) rfl ?_
      have e : decide (0 ≤ Lib.indexByte lettL c) = letB c := lett_iff _
      cases hl : letB c with
      | true =>
        rw [hl] at e
        refine p1 ?_ e
        have hx : lexF (c :: r) = (((c :: r).takeWhile fun b => letB b || digB b).length, 1) := by simp only [lexF, hl, if_true]
        have h := run_rt (s.extract (i + k) s.size) ⟨(lettL ++ digL).toArray⟩ (by omega) (by decide) (by decide)
        rw [hdr2, tw_congr (q := fun b => letB b || digB b) (fun b => word_iff b)] at h
        rw [hx]
        refine GO h rfl ?_
        exact ⟨(), id, ⟨⟨rfl, rfl, rfl, rfl, rfl, rfl, trivial⟩, ⟨rfl, rfl, trivial⟩, rfl⟩, trivial⟩
      | false =>
        rw [hl] at e
        refine p2 ?_ e
        refine GO (indexByte_rt ⟨digL.toArray⟩ c) rfl ?_
        have e : decide (0 ≤ Lib.indexByte digL c) = digB c := dig_iff _
        cases hd : digB c with
        | true =>
          rw [hd] at e
          refine p1 ?_ e
          have hx : lexF (c :: r) = (((c :: r).takeWhile digB).length, 2) := by simp only [lexF, hl, hd, if_true, Bool.false_eq_true, if_false]
          have h := run_rt (s.extract (i + k) s.size) ⟨digL.toArray⟩ (by omega) (by decide) (by decide)
          rw [hdr2, tw_congr (q := digB) (fun b => digs_iff b)] at h
          rw [hx]
          refine GO h rfl ?_
          exact ⟨(), id, ⟨⟨rfl, rfl, rfl, rfl, rfl, rfl, trivial⟩, ⟨rfl, rfl, trivial⟩, rfl⟩, trivial⟩
        | false =>
          rw [hd] at e
          refine p2 ?_ e
          by_cases hq : c.toNat = 34
          · refine p1 ?_ (by simp; omega)
            refine ⟨by omega, by simp; omega, by omega, ?_⟩
            have hx : lexF (c :: r) = (match r.findIdx? (· == 34) with | some j => j + 2 | none => 0, 3) := by
              unfold lexF
              simp only [hl, hd, Bool.false_eq_true, if_false]
              rw [if_pos hq]
              rfl
            have hdr3 : ((s.extract (i + k) s.size).extract 1 (s.extract (i + k) s.size).size).data.toList = r := by
              rw [ByteArray.data_extract, Array.toList_extract, hdr2]
              have hlen := congrArg List.length hdr2
              have : (s.extract (i + k) s.size).data.toList.length = (s.extract (i + k) s.size).size := by simp
              rw [this] at hlen
              simp only [List.length_cons] at hlen
              rw [hlen]
              simp [List.extract]
            have h := indexByte_rt ((s.extract (i + k) s.size).extract 1 (s.extract (i + k) s.size).size) 34
            rw [hdr3, find_byte] at h
            cases hfi : r.findIdx? (· == 34) with
            | none =>
              rw [hfi] at h hx
              rw [hx]
              refine GO h rfl ?_
              refine p1 ?_
              exact ⟨(), id, ⟨⟨rfl, rfl, rfl, rfl, rfl, rfl, trivial⟩, ⟨rfl, rfl, trivial⟩, rfl⟩, trivial⟩
            | some j =>
              rw [hfi] at h hx
              have hj : j < r.length := (List.findIdx?_eq_some_iff_getElem.1 hfi).1
              have hrl : r.length < 100000 := by
                have := congrArg List.length hcr
                rw [List.length_drop, hsz] at this
                simp at this
                omega
              have hw2 : IntKind.i64.wrap (2 + (j : Int)) = ((j + 2 : Nat) : Int) := by rw [wrap_id (by omega) (by omega)]; omega
              rw [hx]
              refine GO h rfl ?_
              refine p2 ?_ (decide_eq_false (by show ¬ IntKind.i64.wrap (2 + (j : Int)) = 1; rw [hw2]; omega))
              exact ⟨(), id, ⟨⟨rfl, rfl, rfl, rfl, rfl, congrArg (fun x : Int => some (gi x)) hw2, trivial⟩, ⟨rfl, rfl, trivial⟩, rfl⟩, trivial⟩
          · refine p2 ?_ (by simp; omega)
            show JK _ _ _ _
            obtain ⟨n, hn, hm1, hm2, _⟩ := first_ix marksL fun m => m.isPrefixOf (c :: r)
            have hml : marksL.length = 15 := rfl
            have hx : lexF (c :: r) = (match marksL[n]? with | some m => m.length | none => 0, 4) := by
              unfold lexF
              simp only [hl, hd, Bool.false_eq_true, if_false]
              rw [if_neg hq, ← find_first (p := fun m => m.isPrefixOf (c :: r)) hn hm1 hm2]
              rfl
            have hpf : ∀ m : List UInt8, prefF (s.extract (i + k) s.size) (bS m) = m.isPrefixOf (c :: r) := fun m => by rw [prefF_is, hdr2]
            refine JK.loopE (α := Nat) (β := Unit) (fun j => ⟨[(0, gs s), (4, .o 0), (5, gi ((i + k : Nat) : Int)), (6, gs (s.extract (i + k) s.size)), (7, .p 1 0), (8, gi 0), (35, .agg (marksL.map fun m => gs (bS m))), (36, gi j)], [(0, .row 90 3 (out.map tokR)), (1, .blk 90 [gi 4, gs ⟨#[]⟩, gi ((i + k : Nat) : Int)])], 2⟩) (fun j => j ≤ n) (fun j => n - j)
              (fun _ => ⟨[(0, gs s), (4, .o 0), (5, gi ((i + k : Nat) : Int)), (6, gs (s.extract (i + k) s.size)), (7, .p 1 0), (8, gi ((lexF (c :: r)).1 : Nat))], [(0, .row 90 3 (out.map tokR)), (1, .blk 90 [gi (lexF (c :: r)).2, gs ⟨#[]⟩, gi ((i + k : Nat) : Int)])], 2⟩) (fun _ => True) 0 id ?_ (Nat.zero_le _) ?_ ?_
            · exact ⟨⟨rfl, rfl, rfl, rfl, rfl, rfl, rfl, rfl, trivial⟩, ⟨rfl, rfl, trivial⟩, rfl⟩
            · intro j hj
              replace hj : j ≤ n := hj
              refine V ?_
              by_cases hlt : j < 15
              · refine p1 ?_
                refine ⟨gs (bS (marksL[j]'(by rw [hml]; exact hlt))), by omega, by omega, ?_, ?_⟩
                · show (marksL.map fun m => gs (bS m))[((j : Nat) : Int).toNat]? = some _
                  rw [Int.toNat_natCast, List.getElem?_map, List.getElem?_eq_getElem (by rw [hml]; exact hlt)]
                  rfl
                have hp := hasPrefix_rt (s.extract (i + k) s.size) (bS (marksL[j]'(by rw [hml]; exact hlt)))
                rw [hpf] at hp
                by_cases hjn : j < n
                · refine GO (hp.bt (hm1 j (by rw [hml]; exact hlt) hjn)) rfl ?_
                  exact ⟨j + 1, id, ⟨⟨rfl, rfl, rfl, rfl, rfl, rfl, rfl, succ_gi (by omega), trivial⟩, ⟨rfl, rfl, trivial⟩, rfl⟩, hjn, by show n - (j + 1) < n - j; omega⟩
                · obtain rfl : j = n := by omega
                  refine GO (hp.bt (hm2 (by rw [hml]; exact hlt))) rfl ?_
                  rw [List.getElem?_eq_getElem (by rw [hml]; exact hlt)] at hx
                  rw [hx]
                  exact ⟨(), id, ⟨⟨rfl, rfl, rfl, rfl, rfl, congrArg (fun x : Nat => some (gi (x : Int))) (show (marksL[j]'(by rw [hml]; exact hlt)).toArray.size = _ by simp), trivial⟩, ⟨rfl, rfl, trivial⟩, rfl⟩, trivial⟩
              · refine p2 ?_
                rw [List.getElem?_eq_none (by rw [hml]; omega)] at hx
                rw [hx]
                exact ⟨(), id, ⟨⟨rfl, rfl, rfl, rfl, rfl, rfl, trivial⟩, ⟨rfl, rfl, trivial⟩, rfl⟩, trivial⟩
            · intro _ _
              refine V ?_
              exact ⟨(), id, ⟨⟨rfl, rfl, rfl, rfl, rfl, rfl, trivial⟩, ⟨rfl, rfl, trivial⟩, rfl⟩, trivial⟩
    rintro _ _
    subst hL
    rw [hcr] at hO
    have hle := lexF_le (c :: r)
    have hlen := congrArg List.length hcr
    rw [List.length_drop, hsz] at hlen
    rw [← hlen] at hle
    generalize lexF (c :: r) = nk at hO hle
    obtain ⟨n, kd⟩ := nk
    replace hle : n ≤ s.size - (i + k) := hle
    by_cases hn0 : n = 0
    · simp only [hn0, if_true] at hO
      subst hO
      refine VM 18 ?_
      refine p1 ?_
      show JK _ _ _ _
      refine JK.freezeB 2 rfl rfl ?_
      refine V ?_
      exact ⟨⟨rfl, rfl, trivial⟩, rfl⟩
    rw [if_neg hn0] at hO
    by_cases hk2 : kd = 2 ∧ 18 < n
    · rw [if_pos (.inl hk2)] at hO
      subst hO
      refine VM 34 ?_
      refine p2 ?_ (by simp; omega)
      refine p1 ?_ (by simp [hk2.1])
      refine p3 ?_ (decide_eq_true (by show ((n : Int) > 18); omega))
      show JK _ _ _ _
      refine JK.freezeB 2 rfl rfl ?_
      refine V ?_
      exact ⟨⟨rfl, rfl, trivial⟩, rfl⟩
    by_cases h120 : 120 ≤ out.length
    · rw [if_pos (.inr h120)] at hO
      subst hO
      by_cases hkd : kd = 2
      · have h18 : ¬ 18 < n := fun h => hk2 ⟨hkd, h⟩
        refine VM 34 ?_
        refine p2 ?_ (by simp; omega)
        refine p1 ?_ (by simp [hkd])
        refine p4 ?_ (decide_eq_false (by show ¬ ((n : Int) > 18); omega))
        refine p1 ?_ (by simp; omega)
        show JK _ _ _ _
        refine JK.freezeB 2 rfl rfl ?_
        refine V ?_
        exact ⟨⟨rfl, rfl, trivial⟩, rfl⟩
      · refine VM 34 ?_
        refine p2 ?_ (by simp; omega)
        refine p2 ?_ (by simp [hkd])
        refine p1 ?_ (by simp; omega)
        show JK _ _ _ _
        refine JK.freezeB 2 rfl rfl ?_
        refine V ?_
        exact ⟨⟨rfl, rfl, trivial⟩, rfl⟩
    rw [if_neg (fun h => h.elim hk2 h120)] at hO
    have ht : (s.extract (i + k) s.size).extract 0 n = ⟨((c :: r).take n).toArray⟩ := by
      have h1 := data_take (s.extract (i + k) s.size) n
      rw [hdr2] at h1
      have h2 : ∀ b : ByteArray, b = ⟨b.data.toList.toArray⟩ := fun b => by cases b; simp
      rw [h2 ((s.extract (i + k) s.size).extract 0 n), h1]
    have hfin : (match tokF s.data.toList f (i + k + n) (out ++ [(⟨kd, (s.extract (i + k) s.size).extract 0 n, ((i + k : Nat) : Int)⟩ : Tok)]).length with | .ok l => .ok ((out ++ [(⟨kd, (s.extract (i + k) s.size).extract 0 n, ((i + k : Nat) : Int)⟩ : Tok)]) ++ l) | .error e => .error e) = R := by
      rw [← hO, List.length_append, ht]
      show (match tokF s.data.toList f (i + k + n) (out.length + 1) with | .ok l => _ | .error e => _) = _
      cases tokF s.data.toList f (i + k + n) (out.length + 1) with
      | error e => rfl
      | ok l => simp
    have hx1 : i + k + n ≤ s.size := by omega
    have hx2 : s.size - (i + k + n) < f := by omega
    have hx3 : (out ++ [(⟨kd, (s.extract (i + k) s.size).extract 0 n, ((i + k : Nat) : Int)⟩ : Tok)]).length ≤ 120 := by simp; omega
    have hx4 : s.size - (i + k + n) < s.size - i := by omega
    have hwn : IntKind.i64.wrap (((i + k : Nat) : Int) + (n : Int)) = ((i + k + n : Nat) : Int) := by rw [wrap_id (by omega) (by omega)]; omega
    by_cases hkd : kd = 2
    · refine V ?_
      refine p2 ?_ (by simp; omega)
      refine p1 ?_ (by simp [hkd])
      have h18 : ¬ 18 < n := fun h => hk2 ⟨hkd, h⟩
      refine p4 ?_ (decide_eq_false (by show ¬ ((n : Int) > 18); omega))
      refine p2 ?_ (by simp; omega)
      refine ⟨by omega, show (0 : Int) ≤ (n : Int) by omega, show (n : Int) ≤ ((s.extract (i + k) s.size).size : Int) by omega, ?_⟩
      refine ⟨by simp; omega, ?_⟩
      exact ⟨(out ++ [(⟨kd, (s.extract (i + k) s.size).extract 0 n, ((i + k : Nat) : Int)⟩ : Tok)], i + k + n, f), fun q => bif Nat.beq q 0 then 3 else q, ⟨⟨rfl, rfl, congrArg (fun x : Int => some (gi x)) hwn, trivial⟩, ⟨congrArg (fun x => some (Res.row 90 3 x)) (List.map_append (l₁ := out) (l₂ := [(⟨kd, (s.extract (i + k) s.size).extract 0 n, ((i + k : Nat) : Int)⟩ : Tok)]) (f := tokR)).symm, trivial⟩, rfl⟩, ⟨hfin, hx1, hx2, hx3⟩, hx4⟩
    · refine V ?_
      refine p2 ?_ (by simp; omega)
      refine p2 ?_ (by simp [hkd])
      refine p2 ?_ (by simp; omega)
      refine ⟨by omega, show (0 : Int) ≤ (n : Int) by omega, show (n : Int) ≤ ((s.extract (i + k) s.size).size : Int) by omega, ?_⟩
      refine ⟨by simp; omega, ?_⟩
      exact ⟨(out ++ [(⟨kd, (s.extract (i + k) s.size).extract 0 n, ((i + k : Nat) : Int)⟩ : Tok)], i + k + n, f), fun q => bif Nat.beq q 0 then 3 else q, ⟨⟨rfl, rfl, congrArg (fun x : Int => some (gi x)) hwn, trivial⟩, ⟨congrArg (fun x => some (Res.row 90 3 x)) (List.map_append (l₁ := out) (l₂ := [(⟨kd, (s.extract (i + k) s.size).extract 0 n, ((i + k : Nat) : Int)⟩ : Tok)]) (f := tokR)).symm, trivial⟩, rfl⟩, ⟨hfin, hx1, hx2, hx3⟩, hx4⟩
end Go.Proofs.YtkoalgjlkcaonaaGreatDoor
/-
  Contracts: questions: a text is read.
-/
namespace Go.Proofs.YtkoalgjlkcaonaaGreatDoor
open Go.GK Go.RowKit Go.PL
set_option maxRecDepth 100000
def askE (l : List Tok) : Except (Int × Int) Qn := match sumP (3 * l.length + 3) 0 l with
  | .error e => .error e
  | .ok (q, l') => if (hdT l').kind ≠ 5 then .error (3, (hdT l').pos) else .ok q
theorem parse1_hx (t : Tok) (l : List Tok) (hE : ToksOk (t :: l)) (hl : l.length ≤ 200) : Hx pg 47 2 [.p 0 0, .p 1 0] [(0, .blk 81 [tks (t :: l)]), (1, .blk 52 [.v (.pointer none)])]
    (fun g σ n => ∃ q, askE (t :: l) = .ok q ∧ q ≠ .nil ∧ g = .tup [] ∧ σ = [(0, .blk 81 [tks (t :: l)]), (1, .blk 52 [qG q])] ∧ n = 2) (fun g => ∃ e p, askE (t :: l) = .error (e, p) ∧ g = wrongG e p) := by
  refine Hx.weak (Q := fun g σ n => 2 ≤ n ∧ ∃ q l', askE (t :: l) = .ok q ∧ q ≠ .nil ∧ g = .tup [] ∧ σ = [(2, .blk 87 [tks l']), (0, .blk 81 [tks (t :: l)]), (1, .blk 52 [qG q])]) ?_ (fun _ h => h) (fun g σ' n' ⟨hn, q, l', h1, h2, h3, h4⟩ => ⟨id, .tup [], [(0, .blk 81 [tks (t :: l)]), (1, .blk 52 [qG q])], 2, ⟨q, h1, h2, rfl, rfl, rfl⟩, by rw [h3]; rfl, by rw [h4]; exact ⟨rfl, by show some _ = _; simp only [renR, renL, ren_qG], trivial⟩, by simp [idb_qG, idbH, idbR, idbL, idb, hids, distB, fixB, memB]; rfl⟩)
  refine Hx.ofJ pg_ok Tryz.func47 rfl Tryz.ntmps47 rfl Tryz.results47 Tryz.call47 fun H0 S0 w0 h0 g0 => ?_
  refine V ?_
  refine GOX (fun g => ∃ e p, askE (t :: l) = .error (e, p) ∧ g = wrongG e p) ((ask_all (3 * (l.length + 1) + 3)).sum 0 t l (by omega) hE hl (Nat.le_refl _)) (fun g ⟨e, p, h1, h2⟩ => ⟨e, p, by rw [askE]; simp only [List.length_cons, h1], h2⟩) (fun _ => 2) rfl rfl ⟨rfl, trivial⟩ rfl (fun _ _ => Nat.lt_of_lt_of_le (by decide) (Nat.le_refl 3)) ?_
  rintro g σ' n' ⟨q, l2, hq, hne, hE2, hl2, rfl, rfl, rfl⟩
  obtain ⟨t2, l2, rfl⟩ := hE2.cons
  cases q with
  | nil => exact absurd rfl hne
  | mk c nn m sp ns ql qr =>
  refine V ?_
  refine ⟨tokR t2, by decide, rfl, ?_⟩
  by_cases hk : t2.kind = 5
  · refine p2 ?_ (by simp [hk])
    exact ⟨Nat.le_of_ble_eq_true rfl, .mk c nn m sp ns ql qr, t2 :: l2, by rw [askE]; simp only [List.length_cons, hq]; rw [if_neg (by simp [hdT, hk])], by simp, rfl, rfl⟩
  · refine p1 ?_ (by simp [hk])
    refine GOX (fun g => ∃ e p, askE (t :: l) = .error (e, p) ∧ g = wrongG e p) (fail_hx t2 l2 3) (fun g hg => ⟨3, t2.pos, by rw [askE]; simp only [List.length_cons, hq]; rw [if_pos (by simpa [hdT] using hk)]; rfl, hg⟩) (fun _ => 2) rfl rfl ⟨rfl, trivial⟩ rfl (fun _ _ => Nat.lt_of_lt_of_le (by decide) (Nat.le_refl 3)) ?_
    exact fun _ _ _ h => h.elim
theorem caught1_hf (t : Tok) (l : List Tok) (hE : ToksOk (t :: l)) (hl : l.length ≤ 200) : Hf pg 35 2 [.fn (.func 47) [] [.p 0 0, .p 1 0]] [(0, .blk 81 [tks (t :: l)]), (1, .blk 52 [.v (.pointer none)])]
    (fun g σ n => (∃ q, askE (t :: l) = .ok q ∧ q ≠ .nil ∧ g = .v .nilIface ∧ σ = [(0, .blk 81 [tks (t :: l)]), (1, .blk 52 [qG q])] ∧ n = 2) ∨ (∃ e p, askE (t :: l) = .error (e, p) ∧ g = .ifc 129 (.r [gi e, gi p]) ∧ σ = [] ∧ n = 2)) := by
  refine (caught_hf _ _ _ _ _ _ (parse1_hx t l hE hl) (fun x ⟨e, p, _, h⟩ => ⟨e, p, h⟩)).weak fun g σ' n' hq => ?_
  rcases hq with ⟨x, ⟨q, h1, h2, _, rfl, rfl⟩, rfl⟩ | ⟨e, p, ⟨e', p', h1, h2⟩, rfl, rfl⟩
  · exact ⟨id, .v .nilIface, _, 2, .inl ⟨q, h1, h2, rfl, rfl, rfl⟩, rfl, ⟨rfl, by show some _ = _; simp only [renR, renL, ren_qG], trivial⟩, by simp [idb_qG, idbH, idbR, idbL, idb, hids, distB, fixB, memB]; rfl⟩
  · cases h2
    exact ⟨id, .ifc 129 (.r [gi e, gi p]), [], 2, .inr ⟨e, p, h1, rfl, rfl, rfl⟩, rfl, trivial, by simp [idbH, idb, hids, distB, fixB]⟩
def parseG : Except (Int × Int) Qn → GV
  | .ok q => .tup [qG q, .v .nilIface]
  | .error (e, p) => .tup [.v (.pointer none), .ifc 129 (.r [gi e, gi p])]
theorem parse_rt (s : ByteArray) (hs : s.size ≤ 1000) : Rt pg 16 [gs s] (parseG (parseF s.data.toList)) := by
  have hsz : s.data.toList.length = s.size := by simp
  have hsp := split_rt s (by omega)
  refine Rt.of pg_ok Tryz.func16 rfl Tryz.ntmps16 rfl Tryz.results16 Tryz.call16 fun H0 S0 w0 h0 g0 => ?_
  cases hT : tokF s.data.toList (s.size + 1) 0 0 with
  | error ep =>
    obtain ⟨e, p⟩ := ep
    rw [hT] at hsp
    have hP : parseF s.data.toList = .error (e, p) := by rw [parseF, hsz, hT]
    rw [hP]
    refine GO hsp rfl ?_
    refine p1 ?_
    exact ⟨⟨rfl, rfl, trivial⟩, rfl⟩
  | ok l =>
    rw [hT] at hsp
    obtain ⟨hE, hlen⟩ := tok_toks s.data.toList (by omega) _ _ _ l hT (by omega)
    obtain ⟨t, l, rfl⟩ := hE.cons
    simp only [List.length_cons] at hlen
    have hP : parseF s.data.toList = askE (t :: l) := by rw [parseF, hsz, hT]; rfl
    rw [hP]
    refine GO hsp rfl ?_
    refine p2 ?_
    refine GOH (caught1_hf t l hE (by omega)) id rfl rfl ⟨rfl, rfl, trivial⟩ rfl (id_lt rfl) ?_
    rintro g σ' n' (⟨q, h1, h2, rfl, rfl, rfl⟩ | ⟨e, p, h1, rfl, rfl, rfl⟩)
    · rw [h1]
      cases q with
      | nil => exact absurd rfl h2
      | mk c nn m sp ns ql qr =>
        refine p2 ?_
        exact ⟨⟨rfl, rfl, trivial⟩, rfl⟩
    · rw [h1]
      refine p1 ?_
      exact ⟨⟨rfl, rfl, trivial⟩, rfl⟩
end Go.Proofs.YtkoalgjlkcaonaaGreatDoor
/-
  Contracts: questions: what is asked of labels is read.
-/
namespace Go.Proofs.YtkoalgjlkcaonaaGreatDoor
open Go.GK Go.RowKit Go.PL
set_option maxRecDepth 100000
def matE (l : List Tok) : Except (Int × Int) (List Mt) := match matchersP l with
  | .error e => .error e
  | .ok (q, l') => if (hdT l').kind ≠ 5 then .error (3, (hdT l').pos) else .ok q
theorem match1_hx (t : Tok) (l : List Tok) (hE : ToksOk (t :: l)) (hl : l.length ≤ 200) : Hx pg 36 2 [.p 0 0, .p 1 0] [(0, .blk 81 [tks (t :: l)]), (1, .blk 40 [.v (.slice none 0 0)])]
    (fun g σ n => ∃ q, matE (t :: l) = .ok q ∧ g = .tup [] ∧ σ = [(0, .blk 81 [tks (t :: l)]), (1, .blk 40 [.sl 3 (q.map mt)])] ∧ n = 2) (fun g => ∃ e p, matE (t :: l) = .error (e, p) ∧ g = wrongG e p) := by
  refine Hx.weak (Q := fun g σ n => 2 ≤ n ∧ ∃ q l', matE (t :: l) = .ok q ∧ g = .tup [] ∧ σ = [(2, .blk 87 [tks l']), (0, .blk 81 [tks (t :: l)]), (1, .blk 40 [.sl 3 (q.map mt)])]) ?_ (fun _ h => h) (fun g σ' n' ⟨hn, q, l', h1, h3, h4⟩ => ⟨id, .tup [], [(0, .blk 81 [tks (t :: l)]), (1, .blk 40 [.sl 3 (q.map mt)])], 2, ⟨q, h1, rfl, rfl, rfl⟩, by rw [h3]; rfl, by rw [h4]; exact ⟨rfl, rfl, trivial⟩, by simp [idb_qG, idbH, idbR, idbL, idb, hids, distB, fixB, memB]; rfl⟩)
  refine Hx.ofJ pg_ok Tryz.func36 rfl Tryz.ntmps36 rfl Tryz.results36 Tryz.call36 fun H0 S0 w0 h0 g0 => ?_
  refine V ?_
  refine GOX (fun g => ∃ e p, matE (t :: l) = .error (e, p) ∧ g = wrongG e p) (matchers_hx t l hE (by omega)) (fun g ⟨e, p, h1, h2⟩ => ⟨e, p, by rw [matE]; simp only [h1], h2⟩) (fun _ => 2) rfl rfl ⟨rfl, trivial⟩ rfl (fun _ _ => Nat.lt_of_lt_of_le (by decide) (Nat.le_refl 3)) ?_
  rintro g σ' n' ⟨q, l2, hq, hE2, hl2, rfl, rfl, rfl⟩
  obtain ⟨t2, l2, rfl⟩ := hE2.cons
  refine V ?_
  refine ⟨tokR t2, by decide, rfl, ?_⟩
  by_cases hk : t2.kind = 5
  · refine p2 ?_ (by simp [hk])
    exact ⟨Nat.le_of_ble_eq_true rfl, q, t2 :: l2, by rw [matE]; simp only [hq]; rw [if_neg (by simp [hdT, hk])], rfl, rfl⟩
  · refine p1 ?_ (by simp [hk])
    refine GOX (fun g => ∃ e p, matE (t :: l) = .error (e, p) ∧ g = wrongG e p) (fail_hx t2 l2 3) (fun g hg => ⟨3, t2.pos, by rw [matE]; simp only [hq]; rw [if_pos (by simpa [hdT] using hk)]; rfl, hg⟩) (fun _ => 2) rfl rfl ⟨rfl, trivial⟩ rfl (fun _ _ => Nat.lt_of_lt_of_le (by decide) (Nat.le_refl 3)) ?_
    exact fun _ _ _ h => h.elim
theorem caughtM_hf (t : Tok) (l : List Tok) (hE : ToksOk (t :: l)) (hl : l.length ≤ 200) : Hf pg 35 2 [.fn (.func 36) [] [.p 0 0, .p 1 0]] [(0, .blk 81 [tks (t :: l)]), (1, .blk 40 [.v (.slice none 0 0)])]
    (fun g σ n => (∃ q, matE (t :: l) = .ok q ∧ g = .v .nilIface ∧ σ = [(0, .blk 81 [tks (t :: l)]), (1, .blk 40 [.sl 3 (q.map mt)])] ∧ n = 2) ∨ (∃ e p, matE (t :: l) = .error (e, p) ∧ g = .ifc 129 (.r [gi e, gi p]) ∧ σ = [] ∧ n = 2)) := by
  refine (caught_hf _ _ _ _ _ _ (match1_hx t l hE hl) (fun x ⟨e, p, _, h⟩ => ⟨e, p, h⟩)).weak fun g σ' n' hq => ?_
  rcases hq with ⟨x, ⟨q, h1, _, rfl, rfl⟩, rfl⟩ | ⟨e, p, ⟨e', p', h1, h2⟩, rfl, rfl⟩
  · exact ⟨id, .v .nilIface, _, 2, .inl ⟨q, h1, rfl, rfl, rfl⟩, rfl, ⟨rfl, rfl, trivial⟩, by simp [idb_qG, idbH, idbR, idbL, idb, hids, distB, fixB, memB]; rfl⟩
  · cases h2
    exact ⟨id, .ifc 129 (.r [gi e, gi p]), [], 2, .inr ⟨e, p, h1, rfl, rfl, rfl⟩, rfl, trivial, by simp [idbH, idb, hids, distB, fixB]⟩
def matchG : Except (Int × Int) (List Mt) → GV
  | .ok q => .tup [.sl 3 (q.map mt), .v .nilIface]
  | .error (e, p) => .tup [.v (.slice none 0 0), .ifc 129 (.r [gi e, gi p])]
theorem match_rt (s : ByteArray) (hs : s.size ≤ 1000) : Rt pg 12 [gs s] (matchG (matchF s.data.toList)) := by
  have hsz : s.data.toList.length = s.size := by simp
  have hsp := split_rt s (by omega)
  refine Rt.of pg_ok Tryz.func12 rfl Tryz.ntmps12 rfl Tryz.results12 Tryz.call12 fun H0 S0 w0 h0 g0 => ?_
  cases hT : tokF s.data.toList (s.size + 1) 0 0 with
  | error ep =>
    obtain ⟨e, p⟩ := ep
    rw [hT] at hsp
    have hP : matchF s.data.toList = .error (e, p) := by rw [matchF, hsz, hT]
    rw [hP]
    refine GO hsp rfl ?_
    refine p1 ?_
    exact ⟨⟨rfl, rfl, trivial⟩, rfl⟩
  | ok l =>
    rw [hT] at hsp
    obtain ⟨hE, hlen⟩ := tok_toks s.data.toList (by omega) _ _ _ l hT (by omega)
    obtain ⟨t, l, rfl⟩ := hE.cons
    simp only [List.length_cons] at hlen
    have hP : matchF s.data.toList = matE (t :: l) := by rw [matchF, hsz, hT]; rfl
    rw [hP]
    refine GO hsp rfl ?_
    refine p2 ?_
    refine GOH (caughtM_hf t l hE (by omega)) id rfl rfl ⟨rfl, rfl, trivial⟩ rfl (id_lt rfl) ?_
    rintro g σ' n' (⟨q, h1, rfl, rfl, rfl⟩ | ⟨e, p, h1, rfl, rfl, rfl⟩)
    · rw [h1]
      refine p2 ?_
      exact ⟨⟨rfl, rfl, trivial⟩, rfl⟩
    · rw [h1]
      refine p1 ?_
      exact ⟨⟨rfl, rfl, trivial⟩, rfl⟩
end Go.Proofs.YtkoalgjlkcaonaaGreatDoor
