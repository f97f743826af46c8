/-
  Contracts: the document's tokens.
-/
import Derived.Test.YtihakhdinkkdmaaGreatDoorK12
import Derived.Test.YtihakhdinkkdmaaGreatDoorK11
import Derived.Tactics
import Derived.Tactics2
import Derived.Defers
import Derived.Recover
import Derived.Test.YtihakhdinkkdmaaGreatDoorK09
import Derived.Test.YtihakhdinkkdmaaGreatDoorK10
namespace Go.Proofs.YtihakhdinkkdmaaGreatDoor
open Go.GK Go.RowKit Go.PL
set_option maxRecDepth 100000
def ftG (e p : Int) : GV := .agg [gi e, gi p]
def toksG : Except (Int × Int) (List Tok) → GV
  | .ok l => .tup [tks l, ftG 0 (-1)]
  | .error (e, p) => .tup [.v (.slice none 0 0), ftG e p]
theorem rtokens_rt (s : ByteArray) (hs : s.size ≤ 1000) : Rt pg 15 [gs s] (toksG (tokF s.data.toList (s.size + 1) 0 0)) := by
  generalize hR : tokF s.data.toList (s.size + 1) 0 0 = R
  refine Rt.ofJ pg_ok Tryz.func15 rfl Tryz.ntmps15 rfl Tryz.results15 Tryz.call15 fun H0 S0 w0 h0 g0 => ?_
  refine V ?_
  show JK _ _ _ _
  refine JK.ownNil 4 52 3 rfl ?_
  refine JK.loopE (α := List Tok × Nat × Nat) (β := List Tok × Nat) (fun x => ⟨[(0, gs s), (3, .p 0 0), (4, .o 1), (5, gi x.2.1)], [(0, .blk 25 [gi 0, gi 0]), (1, .row 52 3 (x.1.map tokR))], 2⟩)
    (fun x => (match tokF (bL s) x.2.2 x.2.1 x.1.length with | .ok l => .ok (x.1 ++ l) | .error e => (.error e : Except (Int × Int) (List Tok))) = R ∧ x.2.1 ≤ s.size ∧ s.size - x.2.1 < x.2.2 ∧ x.1.length ≤ 120) (fun x => s.size - x.2.1)
    (fun y => ⟨[(0, gs s), (3, .p 0 0), (4, .o 1)], [(0, .blk 25 [gi 0, gi 0]), (1, .row 52 3 (y.1.map tokR))], 2⟩) (fun y => R = .ok (y.1 ++ [⟨5, ⟨#[]⟩, s.size⟩]) ∧ y.1.length ≤ 120) ([], 0, s.size + 1) id ?_ ?_ ?_ ?_
  · exact ⟨⟨rfl, rfl, rfl, rfl, trivial⟩, ⟨rfl, rfl, trivial⟩, rfl⟩
  · refine ⟨?_, Nat.zero_le _, by simp, by simp⟩
    show (match tokF (bL s) (s.size + 1) 0 0 with | .ok l => Except.ok ([] ++ l) | .error e => .error e) = R
    rw [show tokF (bL s) (s.size + 1) 0 0 = R from hR]
    cases R <;> rfl
  · rintro ⟨acc, i, f⟩ ⟨hO, hi, hf, ho⟩
    replace hO : (match tokF (bL s) f i acc.length with | .ok l => .ok (acc ++ l) | .error e => (.error e : Except (Int × Int) (List Tok))) = R := hO
    replace hi : i ≤ s.size := hi
    replace hf : s.size - i < f := hf
    replace ho : acc.length ≤ 120 := ho
    obtain ⟨f, rfl⟩ : ∃ k, f = k + 1 := ⟨f - 1, by omega⟩
    show JK _ _ _ (⟨[(0, gs s), (3, .p 0 0), (4, .o 1), (5, gi i)], [(0, .blk 25 [gi 0, gi 0]), (1, .row 52 3 (acc.map tokR))], 2⟩ : St)
    by_cases hlt : i < s.size
    · refine VM 28 ?_
      refine p1 ?_ (decide_eq_true (by show (i : Int) < (s.size : Int); omega))
      refine sx (h := ?_)
      have hs1 : s[i] = s[i] := rfl
      have step := fun (h : s[i] ≠ 32) => tok_at (f := f) (cnt := acc.length) hlt h
      refine JK.cut (α := Nat × Int) (fun x => ⟨[(0, gs s), (3, .p 0 0), (4, .o 1), (5, gi i), (7, gi (i + x.1 : Nat)), (8, .p 2 0)], [(0, .blk 25 [gi 0, gi 0]), (1, .row 52 3 (acc.map tokR)), (2, .blk 52 [gi x.2, gs ⟨#[]⟩, gi i])], 3⟩) (fun x => s[i] ≠ 32 ∧ lexF ((bL s).drop i) = x) ?_ ?_
      · refine V ?_
        by_cases c32 : s[i] = 32
        · refine p1 ?_ (by rw [c32]; rfl)
          refine V ?_
          refine ⟨(acc, i + 1, f + 1), id, ⟨⟨rfl, rfl, rfl, succ_gi (by omega), trivial⟩, ⟨rfl, rfl, trivial⟩, rfl⟩, ⟨?_, hlt, by show s.size - (i + 1) < f + 1; omega, ho⟩, by show s.size - (i + 1) < s.size - i; omega⟩
          rw [tok_sp hlt c32] at hO
          exact hO
        · have n32 : ((s[i].toNat : Int) == 32) = false := by
            have : s[i].toNat ≠ 32 := fun h => c32 (UInt8.toNat_inj.1 h)
            simp
            omega
          refine p2 ?_ n32
          refine V ?_
          rcases tf (letB s[i]) with hl | hl
          · have hlx := lex_let hlt hl
            refine GO ((letter_rt s[i]).bt hl) rfl ?_
            refine JK.loopE (α := Nat) (β := Unit) (fun k => ⟨[(0, gs s), (3, .p 0 0), (4, .o 1), (5, gi i), (7, gi (k)), (8, .p 2 0)], [(0, .blk 25 [gi 0, gi 0]), (1, .row 52 3 (acc.map tokR)), (2, .blk 52 [gi 1, gs ⟨#[]⟩, gi i])], 3⟩) (fun k => i ≤ k ∧ k ≤ i + twN (fun b => letB b || digB b) s (i)) (fun k => s.size - k)
              (fun _ => ⟨[(0, gs s), (3, .p 0 0), (4, .o 1), (5, gi i), (7, gi ((i + twN (fun b => letB b || digB b) s (i) : Nat))), (8, .p 2 0)], [(0, .blk 25 [gi 0, gi 0]), (1, .row 52 3 (acc.map tokR)), (2, .blk 52 [gi 1, gs ⟨#[]⟩, gi i])], 3⟩) (fun _ => True) (i) id ?_ ⟨Nat.le_refl _, Nat.le_add_right _ _⟩ ?_ ?_
            · exact ⟨⟨rfl, rfl, rfl, rfl, rfl, rfl, trivial⟩, ⟨rfl, rfl, rfl, trivial⟩, rfl⟩
            · rintro k ⟨hk1, hk2⟩
              have hW := twN_le (fun b => letB b || digB b) s (i)
              refine V ?_
              by_cases hks : k < s.size
              · have hyes : (fun b => letB b || digB b) s[k] = true → k + 1 ≤ i + twN (fun b => letB b || digB b) s (i) := fun hp => by
                  rcases Nat.lt_or_ge k (i + twN (fun b => letB b || digB b) s (i)) with h | h
                  · omega
                  · exfalso
                    have e : k = i + twN (fun b => letB b || digB b) s (i) := by omega
                    subst e
                    have h2 := twN_stop (p := (fun b => letB b || digB b)) hks
                    exact absurd (hp.symm.trans h2) (by decide)
                have hno : (fun b => letB b || digB b) s[k] = false → k = i + twN (fun b => letB b || digB b) s (i) := fun hp => by
                  refine Classical.byContradiction fun hne => ?_
                  obtain ⟨_, h3⟩ := twN_lt (p := (fun b => letB b || digB b)) hk1 (show k < i + twN (fun b => letB b || digB b) s (i) by omega)
                  exact absurd (h3.symm.trans hp) (by decide)
                refine p1 ?_ (decide_eq_true (by omega))
                refine sx (h := ?_)
                refine V ?_
                rcases tf (letB s[k]) with h1 | h1
                · refine GO ((letter_rt s[k]).bt h1) rfl ?_
                  exact ⟨k + 1, id, ⟨⟨rfl, rfl, rfl, rfl, succ_gi (by omega), rfl, trivial⟩, ⟨rfl, rfl, rfl, trivial⟩, rfl⟩, ⟨by omega, hyes (by simp [h1])⟩, by show s.size - (k + 1) < s.size - k; omega⟩
                · refine GO ((letter_rt s[k]).bt h1) rfl ?_
                  refine sx (h := ?_)
                  rcases tf (digB s[k]) with h2 | h2
                  · refine GO ((digit_rt s[k]).bt h2) rfl ?_
                    exact ⟨k + 1, id, ⟨⟨rfl, rfl, rfl, rfl, succ_gi (by omega), rfl, trivial⟩, ⟨rfl, rfl, rfl, trivial⟩, rfl⟩, ⟨by omega, hyes (by simp [h2])⟩, by show s.size - (k + 1) < s.size - k; omega⟩
                  · refine GO ((digit_rt s[k]).bt h2) rfl ?_
                    have e := hno (by simp [h1, h2])
                    subst e
                    exact ⟨(), id, ⟨⟨rfl, rfl, rfl, rfl, rfl, rfl, trivial⟩, ⟨rfl, rfl, rfl, trivial⟩, rfl⟩, trivial⟩
              · refine p2 ?_ (decide_eq_false (by omega))
                have e : k = i + twN (fun b => letB b || digB b) s (i) := by omega
                subst e
                exact ⟨(), id, ⟨⟨rfl, rfl, rfl, rfl, rfl, rfl, trivial⟩, ⟨rfl, rfl, rfl, trivial⟩, rfl⟩, trivial⟩
            rintro _ _
            refine V ?_
            exact ⟨_, id, ⟨⟨rfl, rfl, rfl, rfl, rfl, rfl, trivial⟩, ⟨rfl, rfl, rfl, trivial⟩, rfl⟩, ⟨c32, hlx⟩⟩
          · refine GO ((letter_rt s[i]).bt hl) rfl ?_
            rcases tf (digB s[i]) with hd | hd
            · have hlx := lex_dig hlt hl hd
              refine V ?_
              refine GO ((digit_rt s[i]).bt hd) rfl ?_
              refine JK.loopE (α := Nat) (β := Unit) (fun k => ⟨[(0, gs s), (3, .p 0 0), (4, .o 1), (5, gi i), (7, gi (k)), (8, .p 2 0)], [(0, .blk 25 [gi 0, gi 0]), (1, .row 52 3 (acc.map tokR)), (2, .blk 52 [gi 2, gs ⟨#[]⟩, gi i])], 3⟩) (fun k => i ≤ k ∧ k ≤ i + twN digB s (i)) (fun k => s.size - k)
                (fun _ => ⟨[(0, gs s), (3, .p 0 0), (4, .o 1), (5, gi i), (7, gi ((i + twN digB s (i) : Nat))), (8, .p 2 0)], [(0, .blk 25 [gi 0, gi 0]), (1, .row 52 3 (acc.map tokR)), (2, .blk 52 [gi 2, gs ⟨#[]⟩, gi i])], 3⟩) (fun _ => True) (i) id ?_ ⟨Nat.le_refl _, Nat.le_add_right _ _⟩ ?_ ?_
              · exact ⟨⟨rfl, rfl, rfl, rfl, rfl, rfl, trivial⟩, ⟨rfl, rfl, rfl, trivial⟩, rfl⟩
              · rintro k ⟨hk1, hk2⟩
                have hW := twN_le digB s (i)
                refine V ?_
                by_cases hks : k < s.size
                · have hyes : digB s[k] = true → k + 1 ≤ i + twN digB s (i) := fun hp => by
                    rcases Nat.lt_or_ge k (i + twN digB s (i)) with h | h
                    · omega
                    · exfalso
                      have e : k = i + twN digB s (i) := by omega
                      subst e
                      have h2 := twN_stop (p := digB) hks
                      exact absurd (hp.symm.trans h2) (by decide)
                  have hno : digB s[k] = false → k = i + twN digB s (i) := fun hp => by
                    refine Classical.byContradiction fun hne => ?_
                    obtain ⟨_, h3⟩ := twN_lt (p := digB) hk1 (show k < i + twN digB s (i) by omega)
                    exact absurd (h3.symm.trans hp) (by decide)
                  refine p1 ?_ (decide_eq_true (by omega))
                  refine sx (h := ?_)
                  refine V ?_
                  rcases tf (digB s[k]) with h2 | h2
                  · refine GO ((digit_rt s[k]).bt h2) rfl ?_
                    exact ⟨k + 1, id, ⟨⟨rfl, rfl, rfl, rfl, succ_gi (by omega), rfl, trivial⟩, ⟨rfl, rfl, rfl, trivial⟩, rfl⟩, ⟨by omega, hyes h2⟩, by show s.size - (k + 1) < s.size - k; omega⟩
                  · refine GO ((digit_rt s[k]).bt h2) rfl ?_
                    have e := hno h2
                    subst e
                    exact ⟨(), id, ⟨⟨rfl, rfl, rfl, rfl, rfl, rfl, trivial⟩, ⟨rfl, rfl, rfl, trivial⟩, rfl⟩, trivial⟩
                · refine p2 ?_ (decide_eq_false (by omega))
                  have e : k = i + twN digB s (i) := by omega
                  subst e
                  exact ⟨(), id, ⟨⟨rfl, rfl, rfl, rfl, rfl, rfl, trivial⟩, ⟨rfl, rfl, rfl, trivial⟩, rfl⟩, trivial⟩
              rintro _ _
              refine V ?_
              exact ⟨_, id, ⟨⟨rfl, rfl, rfl, rfl, rfl, rfl, trivial⟩, ⟨rfl, rfl, rfl, trivial⟩, rfl⟩, ⟨c32, hlx⟩⟩
            · refine V ?_
              refine GO ((digit_rt s[i]).bt hd) rfl ?_
              by_cases c34 : s[i].toNat = 34
              · have hlx := lex_quo hlt hl hd c34
                refine p1 ?_ (by simp [c34])
                refine JK.loopE (α := Nat) (β := Unit) (fun k => ⟨[(0, gs s), (3, .p 0 0), (4, .o 1), (5, gi i), (7, gi (k)), (8, .p 2 0)], [(0, .blk 25 [gi 0, gi 0]), (1, .row 52 3 (acc.map tokR)), (2, .blk 52 [gi 3, gs ⟨#[]⟩, gi i])], 3⟩) (fun k => i + 1 ≤ k ∧ k ≤ i + 1 + twN (fun b => decide (b.toNat ≠ 34)) s (i + 1)) (fun k => s.size - k)
                  (fun _ => ⟨[(0, gs s), (3, .p 0 0), (4, .o 1), (5, gi i), (7, gi ((i + 1 + twN (fun b => decide (b.toNat ≠ 34)) s (i + 1) : Nat))), (8, .p 2 0)], [(0, .blk 25 [gi 0, gi 0]), (1, .row 52 3 (acc.map tokR)), (2, .blk 52 [gi 3, gs ⟨#[]⟩, gi i])], 3⟩) (fun _ => True) (i + 1) id ?_ ⟨Nat.le_refl _, Nat.le_add_right _ _⟩ ?_ ?_
                · exact ⟨⟨rfl, rfl, rfl, rfl, succ_gi (by omega), rfl, trivial⟩, ⟨rfl, rfl, rfl, trivial⟩, rfl⟩
                · rintro k ⟨hk1, hk2⟩
                  have hW := twN_le (fun b => decide (b.toNat ≠ 34)) s (i + 1)
                  refine V ?_
                  by_cases hks : k < s.size
                  · have hyes : (fun b => decide (b.toNat ≠ 34)) s[k] = true → k + 1 ≤ i + 1 + twN (fun b => decide (b.toNat ≠ 34)) s (i + 1) := fun hp => by
                      rcases Nat.lt_or_ge k (i + 1 + twN (fun b => decide (b.toNat ≠ 34)) s (i + 1)) with h | h
                      · omega
                      · exfalso
                        have e : k = i + 1 + twN (fun b => decide (b.toNat ≠ 34)) s (i + 1) := by omega
                        subst e
                        have h2 := twN_stop (p := (fun b => decide (b.toNat ≠ 34))) hks
                        exact absurd (hp.symm.trans h2) (by decide)
                    have hno : (fun b => decide (b.toNat ≠ 34)) s[k] = false → k = i + 1 + twN (fun b => decide (b.toNat ≠ 34)) s (i + 1) := fun hp => by
                      refine Classical.byContradiction fun hne => ?_
                      obtain ⟨_, h3⟩ := twN_lt (p := (fun b => decide (b.toNat ≠ 34))) hk1 (show k < i + 1 + twN (fun b => decide (b.toNat ≠ 34)) s (i + 1) by omega)
                      exact absurd (h3.symm.trans hp) (by decide)
                    refine p1 ?_ (decide_eq_true (by omega))
                    refine sx (h := ?_)
                    by_cases h2 : s[k].toNat = 34
                    · refine p2 ?_ (by simp [h2])
                      have e := hno (by simp [h2])
                      subst e
                      exact ⟨(), id, ⟨⟨rfl, rfl, rfl, rfl, rfl, rfl, trivial⟩, ⟨rfl, rfl, rfl, trivial⟩, rfl⟩, trivial⟩
                    · refine p1 ?_ (by simp; omega)
                      exact ⟨k + 1, id, ⟨⟨rfl, rfl, rfl, rfl, succ_gi (by omega), rfl, trivial⟩, ⟨rfl, rfl, rfl, trivial⟩, rfl⟩, ⟨by omega, hyes (by simp [h2])⟩, by show s.size - (k + 1) < s.size - k; omega⟩
                  · refine p2 ?_ (decide_eq_false (by omega))
                    have e : k = i + 1 + twN (fun b => decide (b.toNat ≠ 34)) s (i + 1) := by omega
                    subst e
                    exact ⟨(), id, ⟨⟨rfl, rfl, rfl, rfl, rfl, rfl, trivial⟩, ⟨rfl, rfl, rfl, trivial⟩, rfl⟩, trivial⟩
                rintro _ _
                refine V ?_
                have hW := twN_le (fun b => decide (b.toNat ≠ 34)) s (i + 1)
                by_cases hend : i + 1 + twN (fun b => decide (b.toNat ≠ 34)) s (i + 1) < s.size
                · rw [if_pos hend] at hlx
                  have hwr : IntKind.i64.wrap (((i + 1 + twN (fun b => decide (b.toNat ≠ 34)) s (i + 1) : Nat) : Int) + 1) = ((i + (twN (fun b => decide (b.toNat ≠ 34)) s (i + 1) + 2) : Nat) : Int) := by rw [wrap_id (by omega) (by omega)]; omega
                  refine p2 ?_ (decide_eq_false (by rw [hwr]; omega))
                  exact ⟨_, id, ⟨⟨rfl, rfl, rfl, rfl, congrArg (fun x => some (gi x)) hwr, rfl, trivial⟩, ⟨rfl, rfl, rfl, trivial⟩, rfl⟩, ⟨c32, hlx⟩⟩
                · rw [if_neg hend] at hlx
                  have hwr : IntKind.i64.wrap (((i + 1 + twN (fun b => decide (b.toNat ≠ 34)) s (i + 1) : Nat) : Int) + 1) = ((i + (twN (fun b => decide (b.toNat ≠ 34)) s (i + 1) + 2) : Nat) : Int) := by rw [wrap_id (by omega) (by omega)]; omega
                  refine p1 ?_ (decide_eq_true (by rw [hwr]; omega))
                  exact ⟨_, id, ⟨⟨rfl, rfl, rfl, rfl, rfl, rfl, trivial⟩, ⟨rfl, rfl, rfl, trivial⟩, rfl⟩, ⟨c32, hlx⟩⟩
              · have hlx := lex_mark hlt hl hd c34
                generalize hdr : (bL s).drop i = dr at hlx
                refine p2 ?_ (by simp; omega)
                show JK _ _ _ _
                have hdre : (s.extract i s.size).data.toList = dr := by
                  rw [← hdr, ByteArray.data_extract, Array.toList_extract]
                  simp [List.extract, List.take_of_length_le, bL]
                have hfit : ∀ n j, markN n dr j = true → i + n ≤ s.size := fun n j h => by
                  have := mark_fit h
                  rw [← hdr, List.length_drop, bL_len] at this
                  omega
                refine JK.loopE (α := Nat) (β := Unit) (fun d => ⟨[(0, gs s), (3, .p 0 0), (4, .o 1), (5, gi i), (7, gi (((match d with | 0 => i | 1 => if markN 2 dr 15 = true then i + 2 else i | _ => if markN 1 dr 15 = true then i + 1 else i : Nat) : Int))), (8, .p 2 0), (9, gi (((2 - d : Nat) : Int)))], [(0, .blk 25 [gi 0, gi 0]), (1, .row 52 3 (acc.map tokR)), (2, .blk 52 [gi 4, gs ⟨#[]⟩, gi i])], 3⟩) (fun d => d ≤ 2 ∧ (d = 2 → markN 2 dr 15 = false)) (fun d => 2 - d)
                  (fun _ => ⟨[(0, gs s), (3, .p 0 0), (4, .o 1), (5, gi i), (7, gi ((i + if markN 2 dr 15 = true then 2 else if markN 1 dr 15 = true then 1 else 0 : Nat))), (8, .p 2 0)], [(0, .blk 25 [gi 0, gi 0]), (1, .row 52 3 (acc.map tokR)), (2, .blk 52 [gi 4, gs ⟨#[]⟩, gi i])], 3⟩) (fun _ => True) 0 id ?_ ⟨Nat.zero_le _, fun h => absurd h (by decide)⟩ ?_ ?_
                · exact ⟨⟨rfl, rfl, rfl, rfl, rfl, rfl, rfl, trivial⟩, ⟨rfl, rfl, rfl, trivial⟩, rfl⟩
                · rintro d ⟨hd2, hm2⟩
                  replace hd2 : d ≤ 2 := hd2
                  rcases (show d = 0 ∨ d = 1 ∨ d = 2 by omega) with rfl | rfl | rfl
                  · refine V ?_
                    refine p1 ?_ rfl
                    refine p1 ?_ (by simp)
                    refine JK.loopE (α := Nat) (β := Unit) (fun j => ⟨[(0, gs s), (3, .p 0 0), (4, .o 1), (5, gi i), (7, gi ((if markN 2 dr j = true then i + 2 else i : Nat))), (8, .p 2 0), (9, gi (2)), (32, .agg (marksL.map fun m => gs (bS m))), (33, gi j)], [(0, .blk 25 [gi 0, gi 0]), (1, .row 52 3 (acc.map tokR)), (2, .blk 52 [gi 4, gs ⟨#[]⟩, gi i])], 3⟩) (fun j => j ≤ 15) (fun j => 15 - j)
                      (fun _ => ⟨[(0, gs s), (3, .p 0 0), (4, .o 1), (5, gi i), (7, gi ((if markN 2 dr 15 = true then i + 2 else i : Nat))), (8, .p 2 0), (9, gi (2))], [(0, .blk 25 [gi 0, gi 0]), (1, .row 52 3 (acc.map tokR)), (2, .blk 52 [gi 4, gs ⟨#[]⟩, gi i])], 3⟩) (fun _ => True) 0 id ?_ (Nat.zero_le _) ?_ ?_
                    · exact ⟨⟨rfl, rfl, rfl, rfl, rfl, rfl, rfl, rfl, rfl, trivial⟩, ⟨rfl, rfl, rfl, trivial⟩, rfl⟩
                    · rintro j hj
                      replace hj : j ≤ 15 := hj
                      refine V ?_
                      by_cases hjl : j < 15
                      · refine p1 ?_ (decide_eq_true (by omega))
                        have hjL : j < marksL.length := hjl
                        have hms := markN_step (n := 2) (l := dr) hjL
                        refine ⟨gs (bS marksL[j]), by omega, by omega, by simp [hjL], ?_⟩
                        have hsz : (bS marksL[j]).size = marksL[j].length := bS_size _
                        by_cases hlen : marksL[j].length = 2
                        · refine p1 ?_ (by simp [hsz, hlen])
                          refine ⟨by omega, by omega, by omega, ?_⟩
                          have hpf : prefF (s.extract i s.size) (bS marksL[j]) = marksL[j].isPrefixOf dr := by rw [prefF_is, hdre]
                          rcases tf (marksL[j].isPrefixOf dr) with hp | hp
                          · refine GO ((hasPrefix_rt (s.extract i s.size) (bS marksL[j])).bt (hpf.trans hp)) rfl ?_
                            have hfj := hfit 2 (j + 1) (by rw [hms, hp, decide_eq_true hlen]; simp)
                            refine ⟨j + 1, id, ⟨⟨rfl, rfl, rfl, rfl, ?_, rfl, rfl, rfl, succ_gi (by omega), trivial⟩, ⟨rfl, rfl, rfl, trivial⟩, rfl⟩, hjl, by show 15 - (j + 1) < 15 - j; omega⟩
                            show some (gi (IntKind.i64.wrap ((i : Int) + (2 : Int)))) = some (gi ((if markN 2 dr (j + 1) = true then i + 2 else i : Nat) : Int))
                            rw [hms, hp, decide_eq_true hlen, if_pos (by simp), wrap_id (by omega) (by omega)]
                            rfl
                          · refine GO ((hasPrefix_rt (s.extract i s.size) (bS marksL[j])).bt (hpf.trans hp)) rfl ?_
                            refine ⟨j + 1, id, ⟨⟨rfl, rfl, rfl, rfl, ?_, rfl, rfl, rfl, succ_gi (by omega), trivial⟩, ⟨rfl, rfl, rfl, trivial⟩, rfl⟩, hjl, by show 15 - (j + 1) < 15 - j; omega⟩
                            show some (gi ((if markN 2 dr j = true then i + 2 else i : Nat) : Int)) = some (gi ((if markN 2 dr (j + 1) = true then i + 2 else i : Nat) : Int))
                            rw [hms, hp, Bool.and_false, Bool.or_false]
                        · refine p2 ?_ (by simp [hsz]; omega)
                          refine ⟨j + 1, id, ⟨⟨rfl, rfl, rfl, rfl, ?_, rfl, rfl, rfl, succ_gi (by omega), trivial⟩, ⟨rfl, rfl, rfl, trivial⟩, rfl⟩, hjl, by show 15 - (j + 1) < 15 - j; omega⟩
                          show some (gi ((if markN 2 dr j = true then i + 2 else i : Nat) : Int)) = some (gi ((if markN 2 dr (j + 1) = true then i + 2 else i : Nat) : Int))
                          rw [hms, decide_eq_false hlen, Bool.false_and, Bool.or_false]
                      · refine p2 ?_ (decide_eq_false (by omega))
                        obtain rfl : j = 15 := by omega
                        exact ⟨(), id, ⟨⟨rfl, rfl, rfl, rfl, rfl, rfl, rfl, trivial⟩, ⟨rfl, rfl, rfl, trivial⟩, rfl⟩, trivial⟩
                    rintro _ _
                    refine V ?_
                    exact ⟨1, id, ⟨⟨rfl, rfl, rfl, rfl, rfl, rfl, rfl, trivial⟩, ⟨rfl, rfl, rfl, trivial⟩, rfl⟩, ⟨by decide, fun h => absurd h (by decide)⟩, by decide⟩
                  · rcases tf (markN 2 dr 15) with h2 | h2
                    · refine V ?_
                      refine p1 ?_ rfl
                      refine p2 ?_ (by simp [h2]; omega)
                      refine ⟨(), id, ⟨⟨rfl, rfl, rfl, rfl, ?_, rfl, trivial⟩, ⟨rfl, rfl, rfl, trivial⟩, rfl⟩, trivial⟩
                      show some (gi ((if markN 2 dr 15 = true then i + 2 else i : Nat) : Int)) = some (gi ((i + if markN 2 dr 15 = true then 2 else if markN 1 dr 15 = true then 1 else 0 : Nat) : Int))
                      rw [if_pos h2, if_pos h2]
                    · refine V ?_
                      refine p1 ?_ rfl
                      refine p1 ?_ (by simp [h2])
                      refine JK.loopE (α := Nat) (β := Unit) (fun j => ⟨[(0, gs s), (3, .p 0 0), (4, .o 1), (5, gi i), (7, gi ((if markN 1 dr j = true then i + 1 else i : Nat))), (8, .p 2 0), (9, gi (1)), (32, .agg (marksL.map fun m => gs (bS m))), (33, gi j)], [(0, .blk 25 [gi 0, gi 0]), (1, .row 52 3 (acc.map tokR)), (2, .blk 52 [gi 4, gs ⟨#[]⟩, gi i])], 3⟩) (fun j => j ≤ 15) (fun j => 15 - j)
                        (fun _ => ⟨[(0, gs s), (3, .p 0 0), (4, .o 1), (5, gi i), (7, gi ((if markN 1 dr 15 = true then i + 1 else i : Nat))), (8, .p 2 0), (9, gi (1))], [(0, .blk 25 [gi 0, gi 0]), (1, .row 52 3 (acc.map tokR)), (2, .blk 52 [gi 4, gs ⟨#[]⟩, gi i])], 3⟩) (fun _ => True) 0 id ?_ (Nat.zero_le _) ?_ ?_
                      · exact ⟨⟨rfl, rfl, rfl, rfl, by rw [if_neg (by rw [h2]; exact Bool.false_ne_true)]; rfl, rfl, rfl, rfl, rfl, trivial⟩, ⟨rfl, rfl, rfl, trivial⟩, rfl⟩
                      · rintro j hj
                        replace hj : j ≤ 15 := hj
                        refine V ?_
                        by_cases hjl : j < 15
                        · refine p1 ?_ (decide_eq_true (by omega))
                          have hjL : j < marksL.length := hjl
                          have hms := markN_step (n := 1) (l := dr) hjL
                          refine ⟨gs (bS marksL[j]), by omega, by omega, by simp [hjL], ?_⟩
                          have hsz : (bS marksL[j]).size = marksL[j].length := bS_size _
                          by_cases hlen : marksL[j].length = 1
                          · refine p1 ?_ (by simp [hsz, hlen])
                            refine ⟨by omega, by omega, by omega, ?_⟩
                            have hpf : prefF (s.extract i s.size) (bS marksL[j]) = marksL[j].isPrefixOf dr := by rw [prefF_is, hdre]
                            rcases tf (marksL[j].isPrefixOf dr) with hp | hp
                            · refine GO ((hasPrefix_rt (s.extract i s.size) (bS marksL[j])).bt (hpf.trans hp)) rfl ?_
                              have hfj := hfit 1 (j + 1) (by rw [hms, hp, decide_eq_true hlen]; simp)
                              refine ⟨j + 1, id, ⟨⟨rfl, rfl, rfl, rfl, ?_, rfl, rfl, rfl, succ_gi (by omega), trivial⟩, ⟨rfl, rfl, rfl, trivial⟩, rfl⟩, hjl, by show 15 - (j + 1) < 15 - j; omega⟩
                              show some (gi (IntKind.i64.wrap ((i : Int) + (1 : Int)))) = some (gi ((if markN 1 dr (j + 1) = true then i + 1 else i : Nat) : Int))
                              rw [hms, hp, decide_eq_true hlen, if_pos (by simp), wrap_id (by omega) (by omega)]
                              rfl
                            · refine GO ((hasPrefix_rt (s.extract i s.size) (bS marksL[j])).bt (hpf.trans hp)) rfl ?_
                              refine ⟨j + 1, id, ⟨⟨rfl, rfl, rfl, rfl, ?_, rfl, rfl, rfl, succ_gi (by omega), trivial⟩, ⟨rfl, rfl, rfl, trivial⟩, rfl⟩, hjl, by show 15 - (j + 1) < 15 - j; omega⟩
                              show some (gi ((if markN 1 dr j = true then i + 1 else i : Nat) : Int)) = some (gi ((if markN 1 dr (j + 1) = true then i + 1 else i : Nat) : Int))
                              rw [hms, hp, Bool.and_false, Bool.or_false]
                          · refine p2 ?_ (by simp [hsz]; omega)
                            refine ⟨j + 1, id, ⟨⟨rfl, rfl, rfl, rfl, ?_, rfl, rfl, rfl, succ_gi (by omega), trivial⟩, ⟨rfl, rfl, rfl, trivial⟩, rfl⟩, hjl, by show 15 - (j + 1) < 15 - j; omega⟩
                            show some (gi ((if markN 1 dr j = true then i + 1 else i : Nat) : Int)) = some (gi ((if markN 1 dr (j + 1) = true then i + 1 else i : Nat) : Int))
                            rw [hms, decide_eq_false hlen, Bool.false_and, Bool.or_false]
                        · refine p2 ?_ (decide_eq_false (by omega))
                          obtain rfl : j = 15 := by omega
                          exact ⟨(), id, ⟨⟨rfl, rfl, rfl, rfl, rfl, rfl, rfl, trivial⟩, ⟨rfl, rfl, rfl, trivial⟩, rfl⟩, trivial⟩
                      rintro _ _
                      refine V ?_
                      exact ⟨2, id, ⟨⟨rfl, rfl, rfl, rfl, rfl, rfl, rfl, trivial⟩, ⟨rfl, rfl, rfl, trivial⟩, rfl⟩, ⟨by decide, fun _ => h2⟩, by decide⟩
                  · have h2 := hm2 rfl
                    refine V ?_
                    refine p2 ?_ rfl
                    refine ⟨(), id, ⟨⟨rfl, rfl, rfl, rfl, ?_, rfl, trivial⟩, ⟨rfl, rfl, rfl, trivial⟩, rfl⟩, trivial⟩
                    show some (gi ((if markN 1 dr 15 = true then i + 1 else i : Nat) : Int)) = some (gi ((i + if markN 2 dr 15 = true then 2 else if markN 1 dr 15 = true then 1 else 0 : Nat) : Int))
                    simp only [h2, Bool.false_eq_true, if_false]
                    split <;> rfl
                rintro _ _
                refine V ?_
                rw [← hdr] at hlx ⊢
                exact ⟨_, id, ⟨⟨rfl, rfl, rfl, rfl, rfl, rfl, trivial⟩, ⟨rfl, rfl, rfl, trivial⟩, rfl⟩, ⟨c32, hlx⟩⟩
      rintro ⟨n, kd⟩ ⟨c32, hlx⟩
      replace hlx : lexF ((bL s).drop i) = (n, kd) := hlx
      have hst := step c32
      rw [hlx] at hst
      simp only at hst
      have hle := lexF_le ((bL s).drop i)
      rw [hlx, List.length_drop, bL_len] at hle
      replace hle : n ≤ s.size - i := hle
      have hwr : IntKind.i64.wrap (((i + n : Nat) : Int) - (i : Int)) = (n : Int) := by rw [wrap_id (by omega) (by omega)]; omega
      show JK _ _ _ (⟨[(0, gs s), (3, .p 0 0), (4, .o 1), (5, gi i), (7, gi (i + n : Nat)), (8, .p 2 0)], [(0, .blk 25 [gi 0, gi 0]), (1, .row 52 3 (acc.map tokR)), (2, .blk 52 [gi kd, gs ⟨#[]⟩, gi i])], 3⟩ : St)
      refine V ?_
      by_cases hn : n = 0
      · rw [if_pos hn] at hst
        rw [hst] at hO
        replace hO : (.error (3, (i : Int)) : Except (Int × Int) (List Tok)) = R := hO
        subst hO
        refine p1 ?_ (by simp [hn])
        exact ⟨⟨rfl, rfl, trivial⟩, rfl⟩
      · rw [if_neg hn] at hst
        refine p2 ?_ (by simp; omega)
        by_cases hlim : (kd = 2 ∧ 18 < n) ∨ 120 ≤ acc.length
        · rw [if_pos hlim] at hst
          rw [hst] at hO
          replace hO : (.error (4, (i : Int)) : Except (Int × Int) (List Tok)) = R := hO
          subst hO
          by_cases hk : kd = 2
          · refine p1 ?_ (by simp [hk])
            by_cases h18 : 18 < n
            · refine p3 ?_ (decide_eq_true (by rw [hwr]; omega))
              exact ⟨⟨rfl, rfl, trivial⟩, rfl⟩
            · have c120 : (((acc.map tokR).length : Int) == 120) = true := by simp; omega
              refine p4 ?_ (decide_eq_false (by rw [hwr]; omega))
              refine p1 ?_ c120
              exact ⟨⟨rfl, rfl, trivial⟩, rfl⟩
          · refine p2 ?_ (by simp [hk])
            have c120 : (((acc.map tokR).length : Int) == 120) = true := by simp; omega
            refine p1 ?_ c120
            exact ⟨⟨rfl, rfl, trivial⟩, rfl⟩
        · rw [if_neg hlim] at hst
          have c120 : (((acc.map tokR).length : Int) == 120) = false := by simp; omega
          have hex : (⟨(((bL s).drop i).take n).toArray⟩ : ByteArray) = s.extract i (i + n) := by
            apply ByteArray.ext
            rw [ByteArray.data_extract]
            apply Array.ext'
            rw [Array.toList_extract]
            simp [List.extract, bL]
          have fin : (match tokF (bL s) f (i + n) (acc ++ [(⟨kd, s.extract i (i + n), i⟩ : Tok)]).length with | .ok l => .ok ((acc ++ [⟨kd, s.extract i (i + n), i⟩]) ++ l) | .error e => (.error e : Except (Int × Int) (List Tok))) = R := by
            rw [hst, hex] at hO
            rw [List.length_append, List.length_singleton]
            cases hT : tokF (bL s) f (i + n) (acc.length + 1) with
            | error e => rw [hT] at hO; exact hO
            | ok l => rw [hT] at hO; rw [← hO]; simp
          by_cases hk : kd = 2
          · refine p1 ?_ (by simp [hk])
            refine p4 ?_ (decide_eq_false (by rw [hwr]; omega))
            refine p2 ?_ c120
            refine ⟨by omega, by omega, by omega, ?_⟩
            refine ⟨by simp; omega, ?_⟩
            refine ⟨(acc ++ [⟨kd, s.extract i (i + n), i⟩], i + n, f), fun z => bif Nat.beq z 1 then 4 else z, ⟨⟨rfl, rfl, rfl, rfl, trivial⟩, ⟨rfl, ?_, trivial⟩, rfl⟩, ⟨?_, by show i + n ≤ s.size; omega, by show s.size - (i + n) < f; omega, by simp; omega⟩, by show s.size - (i + n) < s.size - i; omega⟩
            · exact congrArg (fun x => some (Res.row 52 3 x)) (List.map_append (l₁ := acc) (l₂ := [⟨kd, s.extract i (i + n), i⟩]) (f := tokR)).symm
            · exact fin
          · refine p2 ?_ (by simp [hk])
            refine p2 ?_ c120
            refine ⟨by omega, by omega, by omega, ?_⟩
            refine ⟨by simp; omega, ?_⟩
            refine ⟨(acc ++ [⟨kd, s.extract i (i + n), i⟩], i + n, f), fun z => bif Nat.beq z 1 then 4 else z, ⟨⟨rfl, rfl, rfl, rfl, trivial⟩, ⟨rfl, ?_, trivial⟩, rfl⟩, ⟨?_, by show i + n ≤ s.size; omega, by show s.size - (i + n) < f; omega, by simp; omega⟩, by show s.size - (i + n) < s.size - i; omega⟩
            · exact congrArg (fun x => some (Res.row 52 3 x)) (List.map_append (l₁ := acc) (l₂ := [⟨kd, s.extract i (i + n), i⟩]) (f := tokR)).symm
            · exact fin
    · obtain rfl : i = s.size := by omega
      refine V ?_
      refine p2 ?_ (decide_eq_false (by show ¬ (s.size : Int) < (s.size : Int); omega))
      rw [tok_end] at hO
      exact ⟨(acc, 0), id, ⟨⟨rfl, rfl, rfl, trivial⟩, ⟨rfl, rfl, trivial⟩, rfl⟩, ⟨hO.symm, ho⟩⟩
  · rintro ⟨acc, z⟩ ⟨hO, ho⟩
    replace hO : R = .ok (acc ++ [⟨5, ⟨#[]⟩, s.size⟩]) := hO
    replace ho : acc.length ≤ 120 := ho
    rw [hO]
    refine V ?_
    show JK _ _ _ _
    refine DRAW [0, 1] true (tk [0, 1, 2, 6] ++ al [3, 4, 5] ++ tk [7] ++ al [8]) (by kernel_rfl) ?_
    refine ⟨by simp; omega, ?_⟩
    show JK _ _ _ _
    refine FRZ 3 rfl ?_
    refine ⟨⟨?_, rfl, trivial⟩, rfl⟩
    exact congrArg (GV.sl 3) (List.map_append (l₁ := acc) (l₂ := [⟨5, ⟨#[]⟩, s.size⟩]) (f := tokR)).symm
end Go.Proofs.YtihakhdinkkdmaaGreatDoor
/-
  Contracts: what is thrown is caught.
-/
namespace Go.Proofs.YtihakhdinkkdmaaGreatDoor
open Go.GK Go.RowKit Go.PL
set_option maxRecDepth 100000
theorem isWrong (u : Value) (w : World) : (Instr.typeAssert (.iface 88 u) 20 88 true).run Tryz.prog w = .ok (.tuple #[u, .bool true]) w := by kernel_rfl
theorem caught_idle (p : Addr) (w : World) : CallsD Tryz.prog 41 #[.pointer (some p)] .returning w fun e u' w' => e = .returned (.tuple #[]) ∧ u' = .returning ∧ w' = w := by
  refine callsD_of_wpS Tryz.func41 rfl fun c₀ cs hu => ?_
  apply wpS_seq
  apply wpS_region
  simp [wpOpsS, go_sem, recoverD, hu, Tryz.ntmps41, Exit.thenS]
  refine wpS_of_wp ?_
  simp only [Array.replicate]
  go_wp2
  cases c₀
  simp_all [bodyPostS, results, Tryz.results41]
theorem caught_panics (p : Addr) (x : Value) (t : TypeId) (q : Value) (w : World) (hc : w.cell? p = some x) (hz : w.frozen? p = false) : CallsD Tryz.prog 41 #[.pointer (some p)] (.panicking [{ v := .iface 88 (.agg #[(.iface t q)]), recovered := false }]) w fun e u' w' => e = .returned (.tuple #[]) ∧ u' = .panicking [{ v := .iface 88 (.agg #[(.iface t q)]), recovered := true }] ∧ w' = (w.alloc (.cells #[(.iface t q)] 88)).setCell p (.iface t q) := by
  refine callsD_of_wpS Tryz.func41 rfl fun c₀ cs hu => ?_
  apply wpS_seq
  apply wpS_region
  simp [wpOpsS, go_sem, recoverD, hu, Tryz.ntmps41, Exit.thenS]
  refine wpS_of_wp ?_
  simp only [Array.replicate]
  go_wp2
  rw [isWrong]
  rename_i K1 a1 K a
  refine a _ _ ?_
  have hlt : p.block < w.heap.size := World.block_lt_of_cell? w _ hc
  have hh : (w.alloc (.cells #[.iface t q] 88)).heap[p.block]? = w.heap[p.block]? := ((Below.refl w.heap.size w).alloc (Nat.le_refl _) _).block _ hlt
  have hc2 : (w.alloc (.cells #[.iface t q] 88)).cell? p = some x := by
    unfold World.cell? at hc ⊢
    rw [hh]
    exact hc
  have hz2 : (w.alloc (.cells #[.iface t q] 88)).frozen? p = false := by
    unfold World.frozen? at hz ⊢
    rw [hh]
    exact hz
  go_wp2
  cases c₀
  simp_all [bodyPostS, results, Tryz.results41]
theorem back {H H' : Hid} {σ σ' : Heap} {w w' w'' : World} {o : Obj} (hs : Sat H σ w) (hs' : Sat H' σ' w') (hfr : Fr H (blks H σ) (w.alloc o) H' (blks H' σ') w') (hos : w''.os = w'.os) (ht : w''.tape = w'.tape) (ho : w''.output = w'.output) (hz : w'.heap.size ≤ w''.heap.size) (hk : ∀ b, b < w'.heap.size → b ≠ w.heap.size → w''.heap[b]? = w'.heap[b]?) : Sat H' σ' w'' ∧ Fr H (blks H σ) w H' (blks H' σ') w'' := by
  have hold : ∀ b, b < w.heap.size → (w.alloc o).heap[b]? = w.heap[b]? := fun b hb => ((Below.refl w.heap.size w).alloc (Nat.le_refl _) _).block b hb
  have hsize : (w.alloc o).heap.size = w.heap.size + 1 := by simp
  have hnb : w.heap.size ∉ blks H σ := fun h => absurd (hs.lt _ h) (Nat.lt_irrefl _)
  have hro : H'.ro w.heap.size = none := by
    cases h : H'.ro w.heap.size with
    | none => rfl
    | some x =>
      rcases hfr.fro w.heap.size (hs.none_size _ (Nat.le_refl _)) (by rw [h]; simp) with h1 | h1
      · exact absurd h1 hnb
      · omega
  have hbl : w.heap.size ∉ blks H' σ' := fun h => by
    rcases hfr.own _ h with h1 | h1
    · exact hnb h1
    · omega
  have hsz := hfr.size
  refine ⟨⟨fun b x hb => ?_, fun x hx => ?_, hs'.nodup, hs'.free, hs'.ids⟩, ⟨hos.trans hfr.os, ht.trans hfr.tape, ho.trans hfr.output, by omega, fun b h1 h2 => ?_, fun b hb => ?_, fun b h1 h2 => ?_, hfr.le⟩⟩
  · have h1 := hs'.ro b x hb
    rw [hk b (Array.getElem?_eq_some_iff.1 h1).1 (fun e => by rw [e, hro] at hb; cases hb)]
    exact h1
  · refine holds_congr (fun b hb => ?_) (hs'.holds x hx)
    have hm : b ∈ blks H' σ' := List.mem_flatMap.2 ⟨x, hx, hb⟩
    exact hk b (hs'.lt b hm) (fun e => hbl (e ▸ hm))
  · rw [hk b (by omega) (by omega), hfr.keep b (by omega) h2, hold b h1]
  · rcases hfr.own b hb with h | h
    · exact .inl h
    · exact .inr (by omega)
  · rcases hfr.fro b h1 h2 with h | h
    · exact .inl h
    · exact .inr (by omega)
theorem caught_hf (g : FuncId) (caps : List GV) (n0 : Nat) (σ : Heap) (Q : GV → Heap → Nat → Prop) (R : GV → Prop) (hx : Hx pg g n0 caps σ Q R) (hR : ∀ x, R x → ∃ e p, x = wrongG e p) :
    Hf pg 20 n0 [.fn (.func g) [] caps] σ (fun r σ' n' => (∃ x, Q x σ' n' ∧ r = .v .nilIface) ∨ (∃ e p, R (wrongG e p) ∧ r = .ifc 85 (.r [gi e, gi p]) ∧ σ' = [])) := by
  refine ⟨Tryz.call20, fun H us w hn hg hcs hs => ?_⟩
  obtain ⟨u, rfl, hu⟩ : ∃ u, us = #[u] ∧ Is H (.fn (.func g) [] caps) u := by
    obtain ⟨h1, h2⟩ := hcs
    have := h2 0 _ rfl
    refine ⟨us.getD 0 undef, ?_, this⟩
    simp at h1
    apply Array.ext
    · simp [← h1]
    · intro i hi1 hi2
      have : i = 0 := by simp at hi2; omega
      subst this
      simp [Array.getD, hi1]
  obtain ⟨us0, vs, rfl, hl0, _, hl1, hi1⟩ := hu.inv_fn
  obtain rfl : us0 = #[] := Array.eq_empty_of_size_eq_zero hl0.symm
  have hvs : Cells H caps vs := ⟨hl1, hi1⟩
  have hcall : ∀ aas w, (callFunc g aas).run Tryz.prog w = .ok (.enter g aas) w := hx.call
  show Calls Tryz.prog _ _ _ _
  go_enter_defers Tryz.func20, Tryz.ntmps20
  go_wp2
  have hnew := heap_alloc_new w (.cells #[Value.nilIface] 29)
  have hold : ∀ b, b < w.heap.size → (w.alloc (.cells #[Value.nilIface] 29)).heap[b]? = w.heap[b]? := fun b hb => ((Below.refl w.heap.size w).alloc (Nat.le_refl _) _).block b hb
  have hsize : (w.alloc (.cells #[Value.nilIface] 29)).heap.size = w.heap.size + 1 := by simp
  have hnb : w.heap.size ∉ blks H σ := fun h => absurd (hs.lt _ h) (Nat.lt_irrefl _)
  have hs1 : Sat H σ (w.alloc (.cells #[Value.nilIface] 29)) := hs.below ((Below.refl w.heap.size w).alloc (Nat.le_refl _) _)
  refine (hx.ct H vs _ hn hg hvs hs1).mono ?_
  rintro e w' (⟨u, x, H', σ', rfl, hi, hs', hfr, hq⟩ | ⟨v, x, H', rfl, hi, hs', hfr, hr, hb⟩)
  · rename_i K1 a1 K a
    have hb0 : w'.heap[w.heap.size]? = some (.cells #[Value.nilIface] 29) := by
      rw [hfr.keep w.heap.size (by rw [hsize]; omega) hnb]
      exact hnew
    have hc : w'.cell? ⟨w.heap.size, 0, none⟩ = some .nilIface := by simp [World.cell?, hb0]
    have hz : w'.frozen? ⟨w.heap.size, 0, none⟩ = false := by simp [World.frozen?, hb0]
    refine a _ _ ?_
    go_wp2
    refine leaves_cons (f := 41) (args := #[.pointer (some ⟨w.heap.size, 0, none⟩)]) (by simp) (by simp [go_sem]) ?_
    refine (caught_idle _ _).mono ?_
    rintro e u' w'' ⟨rfl, rfl, rfl⟩
    show ∃ v, _ ∧ _
    refine ⟨.nilIface, by simp [results, Tryz.results20, go_sem, hc], ?_⟩
    obtain ⟨h1, h2⟩ := back (w'' := w'.setCell ⟨w.heap.size, 0, none⟩ .nilIface) hs hs' hfr rfl rfl rfl (by simp) (fun b _ hb => Below.heap_setCell _ _ _ _ hb)
    exact ⟨.nilIface, .v .nilIface, H', σ', rfl, .ro (.v _), h1, h2, .inl ⟨x, hq, rfl⟩⟩
  · obtain ⟨e, p, rfl⟩ := hR x hr
    have hb0 : w'.heap[w.heap.size]? = some (.cells #[Value.nilIface] 29) := by
      rw [hfr.keep w.heap.size (by rw [hsize]; omega) hnb]
      exact hnew
    have hc : w'.cell? ⟨w.heap.size, 0, none⟩ = some .nilIface := by simp [World.cell?, hb0]
    have hz : w'.frozen? ⟨w.heap.size, 0, none⟩ = false := by simp [World.frozen?, hb0]
    obtain ⟨q, rfl, hq⟩ : ∃ q, v = .iface 88 (.agg #[.iface 85 q]) ∧ Is H' (.r [gi e, gi p]) q := by
      obtain ⟨u1, rfl, h1⟩ := hi.inv_ifc
      obtain ⟨us1, rfl, h2, h3⟩ := h1.inv_agg
      obtain ⟨q, hq1, hq2⟩ := (h3 0 _ rfl).inv_ifc
      refine ⟨q, ?_, hq2⟩
      have : us1 = #[.iface 85 q] := by
        apply Array.ext
        · simpa using h2.symm
        · intro i hi1 hi2
          have : i = 0 := by simp at hi2; omega
          subst this
          rw [Array.getD, dif_pos hi1] at hq1
          simpa using hq1
      rw [this]
    show Leaves _ _ _ _ _ _ _
    refine leaves_cons (f := 41) (args := #[.pointer (some ⟨w.heap.size, 0, none⟩)]) (by simp) (by simp [go_sem]) ?_
    refine (caught_panics _ _ _ _ _ hc hz).mono ?_
    rintro e' u' w'' ⟨rfl, rfl, rfl⟩
    show ∃ v, _ ∧ _
    refine ⟨.iface 85 q, ?_, ?_⟩
    · have hlt : w.heap.size < w'.heap.size := World.block_lt_of_cell? w' _ hc
      have hh : (w'.alloc (.cells #[.iface 85 q] 88)).heap[w.heap.size]? = w'.heap[w.heap.size]? := ((Below.refl w'.heap.size w').alloc (Nat.le_refl _) _).block _ hlt
      have hc2 : (w'.alloc (.cells #[.iface 85 q] 88)).cell? ⟨w.heap.size, 0, none⟩ = some .nilIface := by
        unfold World.cell? at hc ⊢
        rw [hh]
        exact hc
      simp [results, Tryz.results20, go_sem, hc2]
    obtain ⟨h1, h2⟩ := back (w'' := (w'.alloc (.cells #[.iface 85 q] 88)).setCell ⟨w.heap.size, 0, none⟩ (.iface 85 q)) hs hs' hfr rfl rfl rfl (by simp) (fun b hb1 hb2 => (Below.heap_setCell _ _ _ _ hb2).trans (((Below.refl w'.heap.size w').alloc (Nat.le_refl _) _).block b hb1))
    exact ⟨_, .ifc 85 (.r [gi e, gi p]), H', [], rfl, .ifc hq, h1, h2, .inr ⟨e, p, hr, rfl, rfl⟩⟩
end Go.Proofs.YtihakhdinkkdmaaGreatDoor
/-
  Contracts: questions: a text's tokens.
-/
namespace Go.Proofs.YtihakhdinkkdmaaGreatDoor
open Go.GK Go.RowKit Go.PL
set_option maxRecDepth 100000
theorem trimLeft_rt (s t : ByteArray) (ht : t.size ≤ 1000) (ha : t.data.toList.all (fun b => decide (b.toNat < 128)) = true) : Rt pg 64 [gs s, gs t] (gs (bS (Lib.trimLeftS s.data.toList t.data.toList))) :=
  Rt.calls Tryz.call64 [.string s, .string t] _ fun w => (Any.strings_TrimLeft_laid Tryz.lays161 (by kernel_rfl) s t w (by omega) (fun _ b hb => of_decide_eq_true (List.all_eq_true.1 ha b (List.mem_of_getElem? hb)))).mono fun e w' ⟨he, hw⟩ => ⟨he, hw⟩
theorem run_rt (s t : ByteArray) (hs : s.size ≤ 1000000) (ht : t.size ≤ 1000) (ha : t.data.toList.all (fun b => decide (b.toNat < 128)) = true) : Rt pg 39 [gs s, gs t] (gi ((s.data.toList.takeWhile (t.data.toList.contains ·)).length : Nat)) := by
  refine Rt.of pg_ok Tryz.func39 rfl Tryz.ntmps39 rfl Tryz.results39 Tryz.call39 fun H0 S0 w0 h0 g0 => ?_
  refine GO (trimLeft_rt s t ht ha) rfl ?_
  refine ⟨?_, rfl⟩
  have h := tw_dw (p := (t.data.toList.contains ·)) s.data.toList
  have e1 : (bS (Lib.trimLeftS s.data.toList t.data.toList)).size = (s.data.toList.dropWhile (t.data.toList.contains ·)).length := by
    show (Lib.trimLeftS s.data.toList t.data.toList).toArray.size = _
    simp [Lib.trimLeftS]
  have e2 : s.size = s.data.toList.length := by simp
  show gi (IntKind.i64.wrap ((s.size : Int) - ((bS (Lib.trimLeftS s.data.toList t.data.toList)).size : Int))) = gi _
  rw [e1, wrap_id (by omega) (by omega)]
  have : (s.size : Int) - ((s.data.toList.dropWhile (t.data.toList.contains ·)).length : Int) = ((s.data.toList.takeWhile (t.data.toList.contains ·)).length : Nat) := by omega
  rw [this]
def splitG : Except (Int × Int) (List Tok) → GV
  | .ok l => .tup [tks l, .v .nilIface]
  | .error (e, p) => .tup [.v (.slice none 0 0), .ifc 85 (.r [gi e, gi p])]
theorem split_rt (s : ByteArray) (hs : s.size ≤ 100000) : Rt pg 19 [gs s] (splitG (tokF s.data.toList (s.size + 1) 0 0)) := by
  have hsz : s.data.toList.length = s.size := by simp
  generalize hR : tokF s.data.toList (s.size + 1) 0 0 = R
  refine Rt.ofJ pg_ok Tryz.func19 rfl Tryz.ntmps19 rfl Tryz.results19 Tryz.call19 fun H0 S0 w0 h0 g0 => ?_
  refine V ?_
  show JK _ _ _ _
  refine JK.ownNil 4 63 3 rfl ?_
  refine JK.loop (α := List Tok × Nat × Nat) (fun x => ⟨[(0, gs s), (4, .o 0), (5, gi x.2.1)], [(0, .row 63 3 (x.1.map tokR))], 1⟩) (fun x => (match tokF s.data.toList x.2.2 x.2.1 x.1.length with | .ok l => .ok (x.1 ++ l) | .error e => .error e) = R ∧ x.2.1 ≤ s.size ∧ s.size - x.2.1 < x.2.2 ∧ x.1.length ≤ 120) (fun x => s.size - x.2.1) ([], 0, s.size + 1) id ?_ ?_ ?_
  · exact ⟨⟨rfl, rfl, rfl, trivial⟩, ⟨rfl, trivial⟩, rfl⟩
  · refine ⟨?_, Nat.zero_le _, by simp, by simp⟩
    show (match tokF s.data.toList (s.size + 1) 0 0 with | .ok l => Except.ok ([] ++ l) | .error e => .error e) = R
    rw [hR]
    cases R <;> rfl
  rintro ⟨out, i, f⟩ ⟨hO, hi, hf, ho⟩
  replace hO : (match tokF s.data.toList f i out.length with | .ok l => .ok (out ++ l) | .error e => .error e) = R := hO
  replace hi : i ≤ s.size := hi
  replace hf : s.size - i < f := hf
  replace ho : out.length ≤ 120 := ho
  obtain ⟨f, rfl⟩ : ∃ k, f = k + 1 := ⟨f - 1, by omega⟩
  have hdr : (s.extract i s.size).data.toList = s.data.toList.drop i := by
    rw [ByteArray.data_extract, Array.toList_extract]
    simp [List.extract, List.take_of_length_le]
  have hk : ((s.data.toList.drop i).takeWhile (· == 32)).length ≤ s.size - i := by
    have := (List.takeWhile_sublist (l := s.data.toList.drop i) (· == 32)).length_le
    rw [List.length_drop, hsz] at this
    exact this
  refine VM 7 ?_
  refine ⟨show (0 : Int) ≤ (i : Int) by omega, show (i : Int) ≤ (s.size : Int) by omega, Int.le_refl _, ?_⟩
  have hrun : Rt pg 39 [gs (s.extract i s.size), gs (bS [32])] (gi (((s.data.toList.drop i).takeWhile (· == 32)).length : Nat)) := by
    have h := run_rt (s.extract i s.size) (bS [32]) (by rw [ByteArray.size_extract]; omega) (by decide) (by decide)
    rw [hdr, tw_congr (q := (· == 32)) (fun b => by
      show ([32] : List UInt8).contains b = _
      rw [Bool.eq_iff_iff]
      simp)] at h
    exact h
  generalize hkk : ((s.data.toList.drop i).takeWhile (· == 32)).length = k at hk hrun
  refine GOJ hrun.hf (fun _ => 0) rfl rfl trivial rfl (fun _ h => absurd h (Nat.not_lt_zero _)) ?_
  rintro g σ' n' ⟨rfl, rfl, rfl⟩
  refine VM 2 ?_
  have hw : gi ((i + k : Nat) : Int) = gi (IntKind.i64.wrap ((i : Int) + (k : Int))) := by rw [wrap_id (by omega) (by omega)]; rfl
  show JK _ _ _ _
  refine JK.sub 5 (gi ((i + k : Nat) : Int)) rfl (Sub.eq hw) ?_
  rw [tokF] at hO
  simp only [hkk, hsz] at hO
  by_cases he : s.size ≤ i + k
  · rw [if_pos he] at hO
    subst hO
    refine VM 20 ?_
    refine p1 ?_ (by simp; omega)
    refine ⟨by simp; omega, ?_⟩
    show JK _ _ _ _
    refine FRZ 2 rfl ?_
    exact ⟨⟨congrArg (GV.sl 3) (List.map_append (l₁ := out) (l₂ := [⟨5, ⟨#[]⟩, ((i + k : Nat) : Int)⟩]) (f := tokR)).symm, rfl, trivial⟩, rfl⟩
  · rw [if_neg he] at hO
    refine VM 33 ?_
    refine p2 ?_ (by simp; omega)
    refine ⟨show (0 : Int) ≤ ((i + k : Nat) : Int) by omega, show ((i + k : Nat) : Int) ≤ (s.size : Int) by omega, Int.le_refl _, ?_⟩
    have hlt : i + k < s.size := by omega
    have hsx : (s.extract (i + k) s.size).size = s.size - (i + k) := by rw [ByteArray.size_extract]; omega
    obtain ⟨c, r, hcr⟩ : ∃ c r, s.data.toList.drop (i + k) = c :: r := by
      cases h : s.data.toList.drop (i + k) with
      | nil => have := congrArg List.length h; rw [List.length_drop, hsz] at this; simp at this; omega
      | cons c r => exact ⟨c, r, rfl⟩
    have hdr2 : (s.extract (i + k) s.size).data.toList = c :: r := by
      rw [← hcr, ByteArray.data_extract, Array.toList_extract]
      simp [List.extract, List.take_of_length_le]
    have hc0 : (s.extract (i + k) s.size)[0]? = some c := byte0 hdr2
    refine ⟨c, by decide, hc0, ?_⟩
    show JK _ _ _ _
    generalize hL : s.extract (i + k) s.size = left at hsx hdr2 hc0
    refine JK.cut (α := Unit) (fun _ => ⟨[(0, gs s), (4, .o 0), (5, gi ((i + k : Nat) : Int)), (6, gs left), (7, .p 1 0), (8, gi ((lexF (c :: r)).1 : Nat))], [(0, .row 63 3 (out.map tokR)), (1, .blk 63 [gi (lexF (c :: r)).2, gs ⟨#[]⟩, gi ((i + k : Nat) : Int)])], 2⟩) (fun _ => True) ?_ ?_
    · subst hL
      refine V ?_
      refine GO (indexByte_rt ⟨lettL.toArray⟩ c) rfl ?_
      have e : decide (0 ≤ Lib.indexByte lettL c) = letB c := lett_iff _
      cases hl : letB c with
      | true =>
        rw [hl] at e
        refine p1 ?_ e
        have hx : lexF (c :: r) = (((c :: r).takeWhile fun b => letB b || digB b).length, 1) := by simp only [lexF, hl, if_true]
        have h := run_rt (s.extract (i + k) s.size) ⟨(lettL ++ digL).toArray⟩ (by omega) (by decide) (by decide)
        rw [hdr2, tw_congr (q := fun b => letB b || digB b) (fun b => word_iff b)] at h
        rw [hx]
        refine GO h rfl ?_
        exact ⟨(), id, ⟨⟨rfl, rfl, rfl, rfl, rfl, rfl, trivial⟩, ⟨rfl, rfl, trivial⟩, rfl⟩, trivial⟩
      | false =>
        rw [hl] at e
        refine p2 ?_ e
        refine GO (indexByte_rt ⟨digL.toArray⟩ c) rfl ?_
        have e : decide (0 ≤ Lib.indexByte digL c) = digB c := dig_iff _
        cases hd : digB c with
        | true =>
          rw [hd] at e
          refine p1 ?_ e
          have hx : lexF (c :: r) = (((c :: r).takeWhile digB).length, 2) := by simp only [lexF, hl, hd, if_true, Bool.false_eq_true, if_false]
          have h := run_rt (s.extract (i + k) s.size) ⟨digL.toArray⟩ (by omega) (by decide) (by decide)
          rw [hdr2, tw_congr (q := digB) (fun b => digs_iff b)] at h
          rw [hx]
          refine GO h rfl ?_
          exact ⟨(), id, ⟨⟨rfl, rfl, rfl, rfl, rfl, rfl, trivial⟩, ⟨rfl, rfl, trivial⟩, rfl⟩, trivial⟩
        | false =>
          rw [hd] at e
          refine p2 ?_ e
          by_cases hq : c.toNat = 34
          · refine p1 ?_ (by simp; omega)
            refine ⟨by omega, by simp; omega, by omega, ?_⟩
            have hx : lexF (c :: r) = (match r.findIdx? (· == 34) with | some j => j + 2 | none => 0, 3) := by
              unfold lexF
              simp only [hl, hd, Bool.false_eq_true, if_false]
              rw [if_pos hq]
              rfl
            have hdr3 : ((s.extract (i + k) s.size).extract 1 (s.extract (i + k) s.size).size).data.toList = r := by
              rw [ByteArray.data_extract, Array.toList_extract, hdr2]
              have hlen := congrArg List.length hdr2
              have : (s.extract (i + k) s.size).data.toList.length = (s.extract (i + k) s.size).size := by simp
              rw [this] at hlen
              simp only [List.length_cons] at hlen
              rw [hlen]
              simp [List.extract]
            have h := indexByte_rt ((s.extract (i + k) s.size).extract 1 (s.extract (i + k) s.size).size) 34
            rw [hdr3, find_byte] at h
            cases hfi : r.findIdx? (· == 34) with
            | none =>
              rw [hfi] at h hx
              rw [hx]
              refine GO h rfl ?_
              refine p1 ?_
              exact ⟨(), id, ⟨⟨rfl, rfl, rfl, rfl, rfl, rfl, trivial⟩, ⟨rfl, rfl, trivial⟩, rfl⟩, trivial⟩
            | some j =>
              rw [hfi] at h hx
              have hj : j < r.length := (List.findIdx?_eq_some_iff_getElem.1 hfi).1
              have hrl : r.length < 100000 := by
                have := congrArg List.length hcr
                rw [List.length_drop, hsz] at this
                simp at this
                omega
              have hw2 : IntKind.i64.wrap (2 + (j : Int)) = ((j + 2 : Nat) : Int) := by rw [wrap_id (by omega) (by omega)]; omega
              rw [hx]
              refine GO h rfl ?_
              refine p2 ?_ (decide_eq_false (by show ¬ IntKind.i64.wrap (2 + (j : Int)) = 1; rw [hw2]; omega))
              exact ⟨(), id, ⟨⟨rfl, rfl, rfl, rfl, rfl, congrArg (fun x : Int => some (gi x)) hw2, trivial⟩, ⟨rfl, rfl, trivial⟩, rfl⟩, trivial⟩
          · refine p2 ?_ (by simp; omega)
            show JK _ _ _ _
            obtain ⟨n, hn, hm1, hm2, _⟩ := first_ix marksL fun m => m.isPrefixOf (c :: r)
            have hml : marksL.length = 15 := rfl
            have hx : lexF (c :: r) = (match marksL[n]? with | some m => m.length | none => 0, 4) := by
              unfold lexF
              simp only [hl, hd, Bool.false_eq_true, if_false]
              rw [if_neg hq, ← find_first (p := fun m => m.isPrefixOf (c :: r)) hn hm1 hm2]
              rfl
            have hpf : ∀ m : List UInt8, prefF (s.extract (i + k) s.size) (bS m) = m.isPrefixOf (c :: r) := fun m => by rw [prefF_is, hdr2]
            refine JK.loopE (α := Nat) (β := Unit) (fun j => ⟨[(0, gs s), (4, .o 0), (5, gi ((i + k : Nat) : Int)), (6, gs (s.extract (i + k) s.size)), (7, .p 1 0), (8, gi 0), (35, .agg (marksL.map fun m => gs (bS m))), (36, gi j)], [(0, .row 63 3 (out.map tokR)), (1, .blk 63 [gi 4, gs ⟨#[]⟩, gi ((i + k : Nat) : Int)])], 2⟩) (fun j => j ≤ n) (fun j => n - j)
              (fun _ => ⟨[(0, gs s), (4, .o 0), (5, gi ((i + k : Nat) : Int)), (6, gs (s.extract (i + k) s.size)), (7, .p 1 0), (8, gi ((lexF (c :: r)).1 : Nat))], [(0, .row 63 3 (out.map tokR)), (1, .blk 63 [gi (lexF (c :: r)).2, gs ⟨#[]⟩, gi ((i + k : Nat) : Int)])], 2⟩) (fun _ => True) 0 id ?_ (Nat.zero_le _) ?_ ?_
            · exact ⟨⟨rfl, rfl, rfl, rfl, rfl, rfl, rfl, rfl, trivial⟩, ⟨rfl, rfl, trivial⟩, rfl⟩
            · intro j hj
              replace hj : j ≤ n := hj
              refine V ?_
              by_cases hlt : j < 15
              · refine p1 ?_
                refine ⟨gs (bS (marksL[j]'(by rw [hml]; exact hlt))), by omega, by omega, ?_, ?_⟩
                · show (marksL.map fun m => gs (bS m))[((j : Nat) : Int).toNat]? = some _
                  rw [Int.toNat_natCast, List.getElem?_map, List.getElem?_eq_getElem (by rw [hml]; exact hlt)]
                  rfl
                have hp := hasPrefix_rt (s.extract (i + k) s.size) (bS (marksL[j]'(by rw [hml]; exact hlt)))
                rw [hpf] at hp
                by_cases hjn : j < n
                · refine GO (hp.bt (hm1 j (by rw [hml]; exact hlt) hjn)) rfl ?_
                  exact ⟨j + 1, id, ⟨⟨rfl, rfl, rfl, rfl, rfl, rfl, rfl, succ_gi (by omega), trivial⟩, ⟨rfl, rfl, trivial⟩, rfl⟩, hjn, by show n - (j + 1) < n - j; omega⟩
                · obtain rfl : j = n := by omega
                  refine GO (hp.bt (hm2 (by rw [hml]; exact hlt))) rfl ?_
                  rw [List.getElem?_eq_getElem (by rw [hml]; exact hlt)] at hx
                  rw [hx]
                  exact ⟨(), id, ⟨⟨rfl, rfl, rfl, rfl, rfl, congrArg (fun x : Nat => some (gi (x : Int))) (show (marksL[j]'(by rw [hml]; exact hlt)).toArray.size = _ by simp), trivial⟩, ⟨rfl, rfl, trivial⟩, rfl⟩, trivial⟩
              · refine p2 ?_
                rw [List.getElem?_eq_none (by rw [hml]; omega)] at hx
                rw [hx]
                exact ⟨(), id, ⟨⟨rfl, rfl, rfl, rfl, rfl, rfl, trivial⟩, ⟨rfl, rfl, trivial⟩, rfl⟩, trivial⟩
            · intro _ _
              refine V ?_
              exact ⟨(), id, ⟨⟨rfl, rfl, rfl, rfl, rfl, rfl, trivial⟩, ⟨rfl, rfl, trivial⟩, rfl⟩, trivial⟩
    rintro _ _
    subst hL
    rw [hcr] at hO
    have hle := lexF_le (c :: r)
    have hlen := congrArg List.length hcr
    rw [List.length_drop, hsz] at hlen
    rw [← hlen] at hle
    generalize lexF (c :: r) = nk at hO hle
    obtain ⟨n, kd⟩ := nk
    replace hle : n ≤ s.size - (i + k) := hle
    by_cases hn0 : n = 0
    · simp only [hn0, if_true] at hO
      subst hO
      refine VM 18 ?_
      refine p1 ?_
      show JK _ _ _ _
      refine JK.freezeB 2 rfl rfl ?_
      refine V ?_
      exact ⟨⟨rfl, rfl, trivial⟩, rfl⟩
    rw [if_neg hn0] at hO
    by_cases hk2 : kd = 2 ∧ 18 < n
    · rw [if_pos (.inl hk2)] at hO
      subst hO
      refine VM 34 ?_
      refine p2 ?_ (by simp; omega)
      refine p1 ?_ (by simp [hk2.1])
      refine p3 ?_ (decide_eq_true (by show ((n : Int) > 18); omega))
      show JK _ _ _ _
      refine JK.freezeB 2 rfl rfl ?_
      refine V ?_
      exact ⟨⟨rfl, rfl, trivial⟩, rfl⟩
    by_cases h120 : 120 ≤ out.length
    · rw [if_pos (.inr h120)] at hO
      subst hO
      by_cases hkd : kd = 2
      · have h18 : ¬ 18 < n := fun h => hk2 ⟨hkd, h⟩
        refine VM 34 ?_
        refine p2 ?_ (by simp; omega)
        refine p1 ?_ (by simp [hkd])
        refine p4 ?_ (decide_eq_false (by show ¬ ((n : Int) > 18); omega))
        refine p1 ?_ (by simp; omega)
        show JK _ _ _ _
        refine JK.freezeB 2 rfl rfl ?_
        refine V ?_
        exact ⟨⟨rfl, rfl, trivial⟩, rfl⟩
      · refine VM 34 ?_
        refine p2 ?_ (by simp; omega)
        refine p2 ?_ (by simp [hkd])
        refine p1 ?_ (by simp; omega)
        show JK _ _ _ _
        refine JK.freezeB 2 rfl rfl ?_
        refine V ?_
        exact ⟨⟨rfl, rfl, trivial⟩, rfl⟩
    rw [if_neg (fun h => h.elim hk2 h120)] at hO
    have ht : (s.extract (i + k) s.size).extract 0 n = ⟨((c :: r).take n).toArray⟩ := by
      have h1 := data_take (s.extract (i + k) s.size) n
      rw [hdr2] at h1
      have h2 : ∀ b : ByteArray, b = ⟨b.data.toList.toArray⟩ := fun b => by cases b; simp
      rw [h2 ((s.extract (i + k) s.size).extract 0 n), h1]
    have hfin : (match tokF s.data.toList f (i + k + n) (out ++ [(⟨kd, (s.extract (i + k) s.size).extract 0 n, ((i + k : Nat) : Int)⟩ : Tok)]).length with | .ok l => .ok ((out ++ [(⟨kd, (s.extract (i + k) s.size).extract 0 n, ((i + k : Nat) : Int)⟩ : Tok)]) ++ l) | .error e => .error e) = R := by
      rw [← hO, List.length_append, ht]
      show (match tokF s.data.toList f (i + k + n) (out.length + 1) with | .ok l => _ | .error e => _) = _
      cases tokF s.data.toList f (i + k + n) (out.length + 1) with
      | error e => rfl
      | ok l => simp
    have hx1 : i + k + n ≤ s.size := by omega
    have hx2 : s.size - (i + k + n) < f := by omega
    have hx3 : (out ++ [(⟨kd, (s.extract (i + k) s.size).extract 0 n, ((i + k : Nat) : Int)⟩ : Tok)]).length ≤ 120 := by simp; omega
    have hx4 : s.size - (i + k + n) < s.size - i := by omega
    have hwn : IntKind.i64.wrap (((i + k : Nat) : Int) + (n : Int)) = ((i + k + n : Nat) : Int) := by rw [wrap_id (by omega) (by omega)]; omega
    by_cases hkd : kd = 2
    · refine V ?_
      refine p2 ?_ (by simp; omega)
      refine p1 ?_ (by simp [hkd])
      have h18 : ¬ 18 < n := fun h => hk2 ⟨hkd, h⟩
      refine p4 ?_ (decide_eq_false (by show ¬ ((n : Int) > 18); omega))
      refine p2 ?_ (by simp; omega)
      refine ⟨by omega, show (0 : Int) ≤ (n : Int) by omega, show (n : Int) ≤ ((s.extract (i + k) s.size).size : Int) by omega, ?_⟩
      refine ⟨by simp; omega, ?_⟩
      exact ⟨(out ++ [(⟨kd, (s.extract (i + k) s.size).extract 0 n, ((i + k : Nat) : Int)⟩ : Tok)], i + k + n, f), fun q => bif Nat.beq q 0 then 3 else q, ⟨⟨rfl, rfl, congrArg (fun x : Int => some (gi x)) hwn, trivial⟩, ⟨congrArg (fun x => some (Res.row 63 3 x)) (List.map_append (l₁ := out) (l₂ := [(⟨kd, (s.extract (i + k) s.size).extract 0 n, ((i + k : Nat) : Int)⟩ : Tok)]) (f := tokR)).symm, trivial⟩, rfl⟩, ⟨hfin, hx1, hx2, hx3⟩, hx4⟩
    · refine V ?_
      refine p2 ?_ (by simp; omega)
      refine p2 ?_ (by simp [hkd])
      refine p2 ?_ (by simp; omega)
      refine ⟨by omega, show (0 : Int) ≤ (n : Int) by omega, show (n : Int) ≤ ((s.extract (i + k) s.size).size : Int) by omega, ?_⟩
      refine ⟨by simp; omega, ?_⟩
      exact ⟨(out ++ [(⟨kd, (s.extract (i + k) s.size).extract 0 n, ((i + k : Nat) : Int)⟩ : Tok)], i + k + n, f), fun q => bif Nat.beq q 0 then 3 else q, ⟨⟨rfl, rfl, congrArg (fun x : Int => some (gi x)) hwn, trivial⟩, ⟨congrArg (fun x => some (Res.row 63 3 x)) (List.map_append (l₁ := out) (l₂ := [(⟨kd, (s.extract (i + k) s.size).extract 0 n, ((i + k : Nat) : Int)⟩ : Tok)]) (f := tokR)).symm, trivial⟩, rfl⟩, ⟨hfin, hx1, hx2, hx3⟩, hx4⟩
end Go.Proofs.YtihakhdinkkdmaaGreatDoor
/-
  Contracts: questions: a text is read.
-/
namespace Go.Proofs.YtihakhdinkkdmaaGreatDoor
open Go.GK Go.RowKit Go.PL
set_option maxRecDepth 100000
def askE (l : List Tok) : Except (Int × Int) Qn := match sumP (3 * l.length + 3) 0 l with
  | .error e => .error e
  | .ok (q, l') => if (hdT l').kind ≠ 5 then .error (3, (hdT l').pos) else .ok q
theorem parse1_hx (t : Tok) (l : List Tok) (hE : ToksOk (t :: l)) (hl : l.length ≤ 200) : Hx pg 21 2 [.p 0 0, .p 1 0] [(0, .blk 55 [tks (t :: l)]), (1, .blk 22 [.v (.pointer none)])]
    (fun g σ n => ∃ q, askE (t :: l) = .ok q ∧ q ≠ .nil ∧ g = .tup [] ∧ σ = [(0, .blk 55 [tks (t :: l)]), (1, .blk 22 [qG q])] ∧ n = 2) (fun g => ∃ e p, askE (t :: l) = .error (e, p) ∧ g = wrongG e p) := by
  refine Hx.weak (Q := fun g σ n => 2 ≤ n ∧ ∃ q l', askE (t :: l) = .ok q ∧ q ≠ .nil ∧ g = .tup [] ∧ σ = [(2, .blk 61 [tks l']), (0, .blk 55 [tks (t :: l)]), (1, .blk 22 [qG q])]) ?_ (fun _ h => h) (fun g σ' n' ⟨hn, q, l', h1, h2, h3, h4⟩ => ⟨id, .tup [], [(0, .blk 55 [tks (t :: l)]), (1, .blk 22 [qG q])], 2, ⟨q, h1, h2, rfl, rfl, rfl⟩, by rw [h3]; rfl, by rw [h4]; exact ⟨rfl, by show some _ = _; simp only [renR, renL, ren_qG], trivial⟩, by simp [idb_qG, idbH, idbR, idbL, idb, hids, distB, fixB, memB]; rfl⟩)
  refine Hx.ofJ pg_ok Tryz.func21 rfl Tryz.ntmps21 rfl Tryz.results21 Tryz.call21 fun H0 S0 w0 h0 g0 => ?_
  refine V ?_
  refine GOX (fun g => ∃ e p, askE (t :: l) = .error (e, p) ∧ g = wrongG e p) ((ask_all (3 * (l.length + 1) + 3)).sum 0 t l (by omega) hE hl (Nat.le_refl _)) (fun g ⟨e, p, h1, h2⟩ => ⟨e, p, by rw [askE]; simp only [List.length_cons, h1], h2⟩) (fun _ => 2) rfl rfl ⟨rfl, trivial⟩ rfl (fun _ _ => Nat.lt_of_lt_of_le (by decide) (Nat.le_refl 3)) ?_
  rintro g σ' n' ⟨q, l2, hq, hne, hE2, hl2, rfl, rfl, rfl⟩
  obtain ⟨t2, l2, rfl⟩ := hE2.cons
  cases q with
  | nil => exact absurd rfl hne
  | mk c nn m sp ns ql qr =>
  refine V ?_
  refine ⟨tokR t2, by decide, rfl, ?_⟩
  by_cases hk : t2.kind = 5
  · refine p2 ?_ (by simp [hk])
    exact ⟨Nat.le_of_ble_eq_true rfl, .mk c nn m sp ns ql qr, t2 :: l2, by rw [askE]; simp only [List.length_cons, hq]; rw [if_neg (by simp [hdT, hk])], by simp, rfl, rfl⟩
  · refine p1 ?_ (by simp [hk])
    refine GOX (fun g => ∃ e p, askE (t :: l) = .error (e, p) ∧ g = wrongG e p) (fail_hx t2 l2 3) (fun g hg => ⟨3, t2.pos, by rw [askE]; simp only [List.length_cons, hq]; rw [if_pos (by simpa [hdT] using hk)]; rfl, hg⟩) (fun _ => 2) rfl rfl ⟨rfl, trivial⟩ rfl (fun _ _ => Nat.lt_of_lt_of_le (by decide) (Nat.le_refl 3)) ?_
    exact fun _ _ _ h => h.elim
theorem caught1_hf (t : Tok) (l : List Tok) (hE : ToksOk (t :: l)) (hl : l.length ≤ 200) : Hf pg 20 2 [.fn (.func 21) [] [.p 0 0, .p 1 0]] [(0, .blk 55 [tks (t :: l)]), (1, .blk 22 [.v (.pointer none)])]
    (fun g σ n => (∃ q, askE (t :: l) = .ok q ∧ q ≠ .nil ∧ g = .v .nilIface ∧ σ = [(0, .blk 55 [tks (t :: l)]), (1, .blk 22 [qG q])] ∧ n = 2) ∨ (∃ e p, askE (t :: l) = .error (e, p) ∧ g = .ifc 85 (.r [gi e, gi p]) ∧ σ = [] ∧ n = 2)) := by
  refine (caught_hf _ _ _ _ _ _ (parse1_hx t l hE hl) (fun x ⟨e, p, _, h⟩ => ⟨e, p, h⟩)).weak fun g σ' n' hq => ?_
  rcases hq with ⟨x, ⟨q, h1, h2, _, rfl, rfl⟩, rfl⟩ | ⟨e, p, ⟨e', p', h1, h2⟩, rfl, rfl⟩
  · exact ⟨id, .v .nilIface, _, 2, .inl ⟨q, h1, h2, rfl, rfl, rfl⟩, rfl, ⟨rfl, by show some _ = _; simp only [renR, renL, ren_qG], trivial⟩, by simp [idb_qG, idbH, idbR, idbL, idb, hids, distB, fixB, memB]; rfl⟩
  · cases h2
    exact ⟨id, .ifc 85 (.r [gi e, gi p]), [], 2, .inr ⟨e, p, h1, rfl, rfl, rfl⟩, rfl, trivial, by simp [idbH, idb, hids, distB, fixB]⟩
def parseG : Except (Int × Int) Qn → GV
  | .ok q => .tup [qG q, .v .nilIface]
  | .error (e, p) => .tup [.v (.pointer none), .ifc 85 (.r [gi e, gi p])]
theorem parse_rt (s : ByteArray) (hs : s.size ≤ 1000) : Rt pg 5 [gs s] (parseG (parseF s.data.toList)) := by
  have hsz : s.data.toList.length = s.size := by simp
  have hsp := split_rt s (by omega)
  refine Rt.of pg_ok Tryz.func5 rfl Tryz.ntmps5 rfl Tryz.results5 Tryz.call5 fun H0 S0 w0 h0 g0 => ?_
  cases hT : tokF s.data.toList (s.size + 1) 0 0 with
  | error ep =>
    obtain ⟨e, p⟩ := ep
    rw [hT] at hsp
    have hP : parseF s.data.toList = .error (e, p) := by rw [parseF, hsz, hT]
    rw [hP]
    refine GO hsp rfl ?_
    refine p1 ?_
    exact ⟨⟨rfl, rfl, trivial⟩, rfl⟩
  | ok l =>
    rw [hT] at hsp
    obtain ⟨hE, hlen⟩ := tok_toks s.data.toList (by omega) _ _ _ l hT (by omega)
    obtain ⟨t, l, rfl⟩ := hE.cons
    simp only [List.length_cons] at hlen
    have hP : parseF s.data.toList = askE (t :: l) := by rw [parseF, hsz, hT]; rfl
    rw [hP]
    refine GO hsp rfl ?_
    refine p2 ?_
    refine GOH (caught1_hf t l hE (by omega)) id rfl rfl ⟨rfl, rfl, trivial⟩ rfl (id_lt rfl) ?_
    rintro g σ' n' (⟨q, h1, h2, rfl, rfl, rfl⟩ | ⟨e, p, h1, rfl, rfl, rfl⟩)
    · rw [h1]
      cases q with
      | nil => exact absurd rfl h2
      | mk c nn m sp ns ql qr =>
        refine p2 ?_
        exact ⟨⟨rfl, rfl, trivial⟩, rfl⟩
    · rw [h1]
      refine p1 ?_
      exact ⟨⟨rfl, rfl, trivial⟩, rfl⟩
end Go.Proofs.YtihakhdinkkdmaaGreatDoor
/-
  Contracts: questions: what is asked of labels is read.
-/
namespace Go.Proofs.YtihakhdinkkdmaaGreatDoor
open Go.GK Go.RowKit Go.PL
set_option maxRecDepth 100000
def matE (l : List Tok) : Except (Int × Int) (List Mt) := match matchersP l with
  | .error e => .error e
  | .ok (q, l') => if (hdT l').kind ≠ 5 then .error (3, (hdT l').pos) else .ok q
theorem match1_hx (t : Tok) (l : List Tok) (hE : ToksOk (t :: l)) (hl : l.length ≤ 200) : Hx pg 30 2 [.p 0 0, .p 1 0] [(0, .blk 55 [tks (t :: l)]), (1, .blk 36 [.v (.slice none 0 0)])]
    (fun g σ n => ∃ q, matE (t :: l) = .ok q ∧ g = .tup [] ∧ σ = [(0, .blk 55 [tks (t :: l)]), (1, .blk 36 [.sl 3 (q.map mt)])] ∧ n = 2) (fun g => ∃ e p, matE (t :: l) = .error (e, p) ∧ g = wrongG e p) := by
  refine Hx.weak (Q := fun g σ n => 2 ≤ n ∧ ∃ q l', matE (t :: l) = .ok q ∧ g = .tup [] ∧ σ = [(2, .blk 61 [tks l']), (0, .blk 55 [tks (t :: l)]), (1, .blk 36 [.sl 3 (q.map mt)])]) ?_ (fun _ h => h) (fun g σ' n' ⟨hn, q, l', h1, h3, h4⟩ => ⟨id, .tup [], [(0, .blk 55 [tks (t :: l)]), (1, .blk 36 [.sl 3 (q.map mt)])], 2, ⟨q, h1, rfl, rfl, rfl⟩, by rw [h3]; rfl, by rw [h4]; exact ⟨rfl, rfl, trivial⟩, by simp [idb_qG, idbH, idbR, idbL, idb, hids, distB, fixB, memB]; rfl⟩)
  refine Hx.ofJ pg_ok Tryz.func30 rfl Tryz.ntmps30 rfl Tryz.results30 Tryz.call30 fun H0 S0 w0 h0 g0 => ?_
  refine V ?_
  refine GOX (fun g => ∃ e p, matE (t :: l) = .error (e, p) ∧ g = wrongG e p) (matchers_hx t l hE (by omega)) (fun g ⟨e, p, h1, h2⟩ => ⟨e, p, by rw [matE]; simp only [h1], h2⟩) (fun _ => 2) rfl rfl ⟨rfl, trivial⟩ rfl (fun _ _ => Nat.lt_of_lt_of_le (by decide) (Nat.le_refl 3)) ?_
  rintro g σ' n' ⟨q, l2, hq, hE2, hl2, rfl, rfl, rfl⟩
  obtain ⟨t2, l2, rfl⟩ := hE2.cons
  refine V ?_
  refine ⟨tokR t2, by decide, rfl, ?_⟩
  by_cases hk : t2.kind = 5
  · refine p2 ?_ (by simp [hk])
    exact ⟨Nat.le_of_ble_eq_true rfl, q, t2 :: l2, by rw [matE]; simp only [hq]; rw [if_neg (by simp [hdT, hk])], rfl, rfl⟩
  · refine p1 ?_ (by simp [hk])
    refine GOX (fun g => ∃ e p, matE (t :: l) = .error (e, p) ∧ g = wrongG e p) (fail_hx t2 l2 3) (fun g hg => ⟨3, t2.pos, by rw [matE]; simp only [hq]; rw [if_pos (by simpa [hdT] using hk)]; rfl, hg⟩) (fun _ => 2) rfl rfl ⟨rfl, trivial⟩ rfl (fun _ _ => Nat.lt_of_lt_of_le (by decide) (Nat.le_refl 3)) ?_
    exact fun _ _ _ h => h.elim
theorem caughtM_hf (t : Tok) (l : List Tok) (hE : ToksOk (t :: l)) (hl : l.length ≤ 200) : Hf pg 20 2 [.fn (.func 30) [] [.p 0 0, .p 1 0]] [(0, .blk 55 [tks (t :: l)]), (1, .blk 36 [.v (.slice none 0 0)])]
    (fun g σ n => (∃ q, matE (t :: l) = .ok q ∧ g = .v .nilIface ∧ σ = [(0, .blk 55 [tks (t :: l)]), (1, .blk 36 [.sl 3 (q.map mt)])] ∧ n = 2) ∨ (∃ e p, matE (t :: l) = .error (e, p) ∧ g = .ifc 85 (.r [gi e, gi p]) ∧ σ = [] ∧ n = 2)) := by
  refine (caught_hf _ _ _ _ _ _ (match1_hx t l hE hl) (fun x ⟨e, p, _, h⟩ => ⟨e, p, h⟩)).weak fun g σ' n' hq => ?_
  rcases hq with ⟨x, ⟨q, h1, _, rfl, rfl⟩, rfl⟩ | ⟨e, p, ⟨e', p', h1, h2⟩, rfl, rfl⟩
  · exact ⟨id, .v .nilIface, _, 2, .inl ⟨q, h1, rfl, rfl, rfl⟩, rfl, ⟨rfl, rfl, trivial⟩, by simp [idb_qG, idbH, idbR, idbL, idb, hids, distB, fixB, memB]; rfl⟩
  · cases h2
    exact ⟨id, .ifc 85 (.r [gi e, gi p]), [], 2, .inr ⟨e, p, h1, rfl, rfl, rfl⟩, rfl, trivial, by simp [idbH, idb, hids, distB, fixB]⟩
def matchG : Except (Int × Int) (List Mt) → GV
  | .ok q => .tup [.sl 3 (q.map mt), .v .nilIface]
  | .error (e, p) => .tup [.v (.slice none 0 0), .ifc 85 (.r [gi e, gi p])]
theorem match_rt (s : ByteArray) (hs : s.size ≤ 1000) : Rt pg 11 [gs s] (matchG (matchF s.data.toList)) := by
  have hsz : s.data.toList.length = s.size := by simp
  have hsp := split_rt s (by omega)
  refine Rt.of pg_ok Tryz.func11 rfl Tryz.ntmps11 rfl Tryz.results11 Tryz.call11 fun H0 S0 w0 h0 g0 => ?_
  cases hT : tokF s.data.toList (s.size + 1) 0 0 with
  | error ep =>
    obtain ⟨e, p⟩ := ep
    rw [hT] at hsp
    have hP : matchF s.data.toList = .error (e, p) := by rw [matchF, hsz, hT]
    rw [hP]
    refine GO hsp rfl ?_
    refine p1 ?_
    exact ⟨⟨rfl, rfl, trivial⟩, rfl⟩
  | ok l =>
    rw [hT] at hsp
    obtain ⟨hE, hlen⟩ := tok_toks s.data.toList (by omega) _ _ _ l hT (by omega)
    obtain ⟨t, l, rfl⟩ := hE.cons
    simp only [List.length_cons] at hlen
    have hP : matchF s.data.toList = matE (t :: l) := by rw [matchF, hsz, hT]; rfl
    rw [hP]
    refine GO hsp rfl ?_
    refine p2 ?_
    refine GOH (caughtM_hf t l hE (by omega)) id rfl rfl ⟨rfl, rfl, trivial⟩ rfl (id_lt rfl) ?_
    rintro g σ' n' (⟨q, h1, rfl, rfl, rfl⟩ | ⟨e, p, h1, rfl, rfl, rfl⟩)
    · rw [h1]
      refine p2 ?_
      exact ⟨⟨rfl, rfl, trivial⟩, rfl⟩
    · rw [h1]
      refine p1 ?_
      exact ⟨⟨rfl, rfl, trivial⟩, rfl⟩
end Go.Proofs.YtihakhdinkkdmaaGreatDoor
/-
  Contracts: what a text asks, by the document.
-/
namespace Go.Proofs.YtihakhdinkkdmaaGreatDoor
open Go.GK Go.RowKit Go.PL
set_option maxRecDepth 100000
def rparseG : Except (Int × Int) Qn → GV
  | .ok q => .tup [qG q, ftG 0 (-1)]
  | .error (e, p) => .tup [.v (.pointer none), ftG e p]
def rmatchG : Except (Int × Int) (List Mt) → GV
  | .ok q => .tup [.sl 3 (q.map mt), ftG 0 (-1)]
  | .error (e, p) => .tup [.v (.slice none 0 0), ftG e p]
theorem tok_err (s : List UInt8) : ∀ (f i cnt : Nat) {e p : Int}, s.length - i < f → tokF s f i cnt = .error (e, p) → e ≠ 0
  | 0, _, _, _, _, hf, _ => by omega
  | f + 1, i, cnt, e, p, hf, h => by
    rw [tokF] at h
    simp only at h
    generalize ((s.drop i).takeWhile (· == 32)).length = k at h
    by_cases he : s.length ≤ i + k
    · rw [if_pos he] at h; cases h
    rw [if_neg he] at h
    generalize lexF (s.drop (i + k)) = nk at h
    obtain ⟨n, kd⟩ := nk
    simp only at h
    by_cases hn : n = 0
    · rw [if_pos hn] at h; cases h; decide
    rw [if_neg hn] at h
    by_cases hl : (kd = 2 ∧ 18 < n) ∨ 120 ≤ cnt
    · rw [if_pos hl] at h; cases h; decide
    rw [if_neg hl] at h
    cases hr : tokF s f (i + k + n) (cnt + 1) with
    | error e2 =>
      obtain ⟨e2, p2⟩ := e2
      rw [hr] at h
      cases h
      exact tok_err s f _ _ (by omega) hr
    | ok l2 => rw [hr] at h; cases h
theorem rparse_rt (s : ByteArray) (hs : s.size ≤ 1000) : Rt pg 4 [gs s] (rparseG (parseF s.data.toList)) := by
  have hsz : s.data.toList.length = s.size := by simp
  have hsp := rtokens_rt s (by omega)
  generalize hP : parseF s.data.toList = P
  rw [parseF, hsz] at hP
  refine Rt.of pg_ok Tryz.func4 rfl Tryz.ntmps4 rfl Tryz.results4 Tryz.call4 fun H0 S0 w0 h0 g0 => ?_
  cases hT : tokF s.data.toList (s.size + 1) 0 0 with
  | error ep =>
    obtain ⟨e, p⟩ := ep
    rw [hT] at hsp hP
    replace hP : (.error (e, p) : Except (Int × Int) Qn) = P := hP
    subst hP
    refine GO hsp rfl ?_
    have hne : ((e == 0) && (p == -1)) = false := by
      have := tok_err _ _ _ _ (by omega) hT
      simp only [Bool.and_eq_false_iff, beq_eq_false_iff_ne]
      omega
    refine p1 ?_ (by rw [Bool.and_true, hne]; rfl)
    show JK _ _ _ _
    refine DRAW [0] true (tk [0, 1] ++ al [2]) (by kernel_rfl) ?_
    refine V ?_
    exact ⟨⟨rfl, rfl, trivial⟩, rfl⟩
  | ok l =>
    rw [hT] at hsp hP
    simp only at hP
    obtain ⟨hE, hlen⟩ := tok_toks s.data.toList (by omega) _ _ _ l hT (by omega)
    have hr : RdOk (goodR l) := ⟨hE, fun _ => rfl⟩
    refine GO hsp rfl ?_
    refine p2 ?_ rfl
    refine GOJ (rsum_hf (goodR l) hr (by show l.length ≤ 300; omega)) (fun _ => 2) rfl rfl ⟨rfl, trivial⟩ rfl (fun _ _ => Nat.lt_of_lt_of_le (by decide) (Nat.le_refl 3)) ?_
    rintro g σ' n' ⟨q, r1, ⟨hq, hneq⟩, rfl, rfl, rfl⟩
    have o1 := hq.ok
    have hag : Agr (sumP (3 * l.length + 3) 0 l) q r1 := hq.good rfl
    obtain ⟨t1, l1, hl1⟩ := tks_cons o1
    obtain ⟨ll, e1, pq⟩ := r1
    simp only at hl1
    subst hl1
    have hbad : Rd.ok ⟨t1 :: l1, e1, pq⟩ = false → (.error (e1, pq) : Except (Int × Int) Qn) = P := fun hno => by
      rw [← hP]
      cases hS : sumP (3 * l.length + 3) 0 l with
      | error ep =>
        obtain ⟨e, p⟩ := ep
        rw [hS] at hag
        obtain ⟨z1, z2, _⟩ := hag
        simp only at z1 z2 ⊢
        rw [z1, z2]
      | ok v =>
        rw [hS] at hag
        rw [hag.2] at hno
        cases hno
    have hgood : Rd.ok ⟨t1 :: l1, e1, pq⟩ = true → (if (hdT (t1 :: l1)).kind ≠ 5 then .error (3, (hdT (t1 :: l1)).pos) else .ok q : Except (Int × Int) Qn) = P := fun ho1 => by
      rw [← hP]
      cases hS : sumP (3 * l.length + 3) 0 l with
      | error ep =>
        rw [hS] at hag
        rw [hag.bad] at ho1
        cases ho1
      | ok v =>
        obtain ⟨q2, l2⟩ := v
        rw [hS] at hag
        obtain ⟨z1, z2⟩ := hag
        have z3 : t1 :: l1 = l2 := congrArg Rd.l z2
        simp only
        rw [← z3, z1]
    clear hP
    cases q with
    | nil =>
      refine V ?_
      refine ⟨tokR t1, by decide, rfl, ?_⟩
      rcases tf (Rd.ok ⟨t1 :: l1, e1, pq⟩) with ho1 | hno
      · exact absurd rfl (hneq ho1)
      · have hP := hbad hno
        subst hP
        rcases tf (t1.kind != 5) with hk | hk
        · refine p1 ?_ hk
          refine GOH (rfails_hf _ o1 3) (fun _ => 2) rfl rfl ⟨rfl, trivial⟩ rfl (fun _ _ => Nat.lt_of_lt_of_le (by decide) (Nat.le_refl 3)) ?_
          rintro g σ' n' ⟨rfl, rfl, rfl⟩
          rw [rfail_bad hno]
          refine GOH (rok_b hno) (fun _ => 2) rfl rfl ⟨rfl, trivial⟩ rfl (fun _ _ => Nat.lt_of_lt_of_le (by decide) (Nat.le_refl 3)) ?_
          rintro g σ' n' ⟨rfl, rfl, rfl⟩
          show JK _ _ _ _
          refine DRAW [0] true (tk [0, 1, 2, 3, 4] ++ al [5]) (by kernel_rfl) ?_
          refine V ?_
          exact ⟨⟨rfl, rfl, trivial⟩, rfl⟩
        · refine p2 ?_ hk
          refine GOH (rok_b hno) (fun _ => 2) rfl rfl ⟨rfl, trivial⟩ rfl (fun _ _ => Nat.lt_of_lt_of_le (by decide) (Nat.le_refl 3)) ?_
          rintro g σ' n' ⟨rfl, rfl, rfl⟩
          show JK _ _ _ _
          refine DRAW [0] true (tk [0, 1, 2, 3, 4] ++ al [5]) (by kernel_rfl) ?_
          refine V ?_
          exact ⟨⟨rfl, rfl, trivial⟩, rfl⟩
    | mk c nn m sp ns ql qr =>
      refine V ?_
      refine ⟨tokR t1, by decide, rfl, ?_⟩
      rcases tf (Rd.ok ⟨t1 :: l1, e1, pq⟩) with ho1 | hno
      · have hP := hgood ho1
        rcases tf (t1.kind != 5) with hk | hk
        · refine p1 ?_ hk
          refine GOH (rfails_hf _ o1 3) (fun _ => 2) rfl rfl ⟨rfl, trivial⟩ rfl (fun _ _ => Nat.lt_of_lt_of_le (by decide) (Nat.le_refl 3)) ?_
          rintro g σ' n' ⟨rfl, rfl, rfl⟩
          have hno : (rfail 3 ⟨t1 :: l1, e1, pq⟩).ok = false := by rw [rfail, if_pos ho1]; rfl
          have hrf : rfail 3 ⟨t1 :: l1, e1, pq⟩ = ⟨t1 :: l1, 3, t1.pos⟩ := by rw [rfail, if_pos ho1]; rfl
          rw [hrf] at hno ⊢
          have hk5 : t1.kind ≠ 5 := by simpa using hk
          rw [if_pos (show (hdT (t1 :: l1)).kind ≠ 5 from hk5)] at hP
          subst hP
          refine GOH (rok_b hno) (fun _ => 2) rfl rfl ⟨rfl, trivial⟩ rfl (fun _ _ => Nat.lt_of_lt_of_le (by decide) (Nat.le_refl 3)) ?_
          rintro g σ' n' ⟨rfl, rfl, rfl⟩
          show JK _ _ _ _
          refine DRAW [0] true (tk [0, 1, 2, 3, 4] ++ al [5]) (by kernel_rfl) ?_
          refine V ?_
          exact ⟨⟨rfl, rfl, trivial⟩, rfl⟩
        · have hk5 : t1.kind = 5 := by simpa using hk
          rw [if_neg (show ¬ (hdT (t1 :: l1)).kind ≠ 5 from fun h => h hk5)] at hP
          subst hP
          refine p2 ?_ hk
          refine GOH (rok_b ho1) (fun _ => 2) rfl rfl ⟨rfl, trivial⟩ rfl (fun _ _ => Nat.lt_of_lt_of_le (by decide) (Nat.le_refl 3)) ?_
          rintro g σ' n' ⟨rfl, rfl, rfl⟩
          show JK _ _ _ _
          refine DRAW [0] true (tk [0, 1, 2] ++ al [3]) (by kernel_rfl) ?_
          refine V ?_
          exact ⟨⟨rfl, rfl, trivial⟩, rfl⟩
      · have hP := hbad hno
        subst hP
        rcases tf (t1.kind != 5) with hk | hk
        · refine p1 ?_ hk
          refine GOH (rfails_hf _ o1 3) (fun _ => 2) rfl rfl ⟨rfl, trivial⟩ rfl (fun _ _ => Nat.lt_of_lt_of_le (by decide) (Nat.le_refl 3)) ?_
          rintro g σ' n' ⟨rfl, rfl, rfl⟩
          rw [rfail_bad hno]
          refine GOH (rok_b hno) (fun _ => 2) rfl rfl ⟨rfl, trivial⟩ rfl (fun _ _ => Nat.lt_of_lt_of_le (by decide) (Nat.le_refl 3)) ?_
          rintro g σ' n' ⟨rfl, rfl, rfl⟩
          show JK _ _ _ _
          refine DRAW [0] true (tk [0, 1, 2, 3, 4] ++ al [5]) (by kernel_rfl) ?_
          refine V ?_
          exact ⟨⟨rfl, rfl, trivial⟩, rfl⟩
        · refine p2 ?_ hk
          refine GOH (rok_b hno) (fun _ => 2) rfl rfl ⟨rfl, trivial⟩ rfl (fun _ _ => Nat.lt_of_lt_of_le (by decide) (Nat.le_refl 3)) ?_
          rintro g σ' n' ⟨rfl, rfl, rfl⟩
          show JK _ _ _ _
          refine DRAW [0] true (tk [0, 1, 2, 3, 4] ++ al [5]) (by kernel_rfl) ?_
          refine V ?_
          exact ⟨⟨rfl, rfl, trivial⟩, rfl⟩
theorem rmatch_rt (s : ByteArray) (hs : s.size ≤ 1000) : Rt pg 10 [gs s] (rmatchG (matchF s.data.toList)) := by
  have hsz : s.data.toList.length = s.size := by simp
  have hsp := rtokens_rt s (by omega)
  generalize hP : matchF s.data.toList = P
  rw [matchF, hsz] at hP
  refine Rt.of pg_ok Tryz.func10 rfl Tryz.ntmps10 rfl Tryz.results10 Tryz.call10 fun H0 S0 w0 h0 g0 => ?_
  cases hT : tokF s.data.toList (s.size + 1) 0 0 with
  | error ep =>
    obtain ⟨e, p⟩ := ep
    rw [hT] at hsp hP
    replace hP : (.error (e, p) : Except (Int × Int) (List Mt)) = P := hP
    subst hP
    refine GO hsp rfl ?_
    have hne : ((e == 0) && (p == -1)) = false := by
      have := tok_err _ _ _ _ (by omega) hT
      simp only [Bool.and_eq_false_iff, beq_eq_false_iff_ne]
      omega
    refine p1 ?_ (by rw [Bool.and_true, hne]; rfl)
    show JK _ _ _ _
    refine DRAW [0] true (tk [0, 1] ++ al [2]) (by kernel_rfl) ?_
    refine V ?_
    exact ⟨⟨rfl, rfl, trivial⟩, rfl⟩
  | ok l =>
    rw [hT] at hsp hP
    simp only at hP
    obtain ⟨hE, hlen⟩ := tok_toks s.data.toList (by omega) _ _ _ l hT (by omega)
    have hr : RdOk (goodR l) := ⟨hE, fun _ => rfl⟩
    refine GO hsp rfl ?_
    refine p2 ?_ rfl
    refine GOJ (some_hf hr (by show l.length ≤ 1000; omega)) (fun _ => 2) rfl rfl ⟨rfl, trivial⟩ rfl (fun _ _ => Nat.lt_of_lt_of_le (by decide) (Nat.le_refl 3)) ?_
    rintro g σ' n' ⟨q, r1, hq, rfl, rfl, rfl⟩
    have o1 := hq.ok
    have hag : Agr (matchersP l) q r1 := hq.good rfl
    obtain ⟨t1, l1, hl1⟩ := tks_cons o1
    obtain ⟨ll, e1, pq⟩ := r1
    simp only at hl1
    subst hl1
    have hbad : Rd.ok ⟨t1 :: l1, e1, pq⟩ = false → (.error (e1, pq) : Except (Int × Int) (List Mt)) = P := fun hno => by
      rw [← hP]
      cases hS : matchersP l with
      | error ep =>
        obtain ⟨e, p⟩ := ep
        rw [hS] at hag
        obtain ⟨z1, z2, _⟩ := hag
        simp only at z1 z2 ⊢
        rw [z1, z2]
      | ok v =>
        rw [hS] at hag
        rw [hag.2] at hno
        cases hno
    have hgood : Rd.ok ⟨t1 :: l1, e1, pq⟩ = true → (if (hdT (t1 :: l1)).kind ≠ 5 then .error (3, (hdT (t1 :: l1)).pos) else .ok q : Except (Int × Int) (List Mt)) = P := fun ho1 => by
      rw [← hP]
      cases hS : matchersP l with
      | error ep =>
        rw [hS] at hag
        rw [hag.bad] at ho1
        cases ho1
      | ok v =>
        obtain ⟨q2, l2⟩ := v
        rw [hS] at hag
        obtain ⟨z1, z2⟩ := hag
        have z3 : t1 :: l1 = l2 := congrArg Rd.l z2
        simp only
        rw [← z3, z1]
    clear hP
    refine V ?_
    refine ⟨tokR t1, by decide, rfl, ?_⟩
    rcases tf (Rd.ok ⟨t1 :: l1, e1, pq⟩) with ho1 | hno
    · have hP := hgood ho1
      rcases tf (t1.kind != 5) with hk | hk
      · refine p1 ?_ hk
        refine GOH (rfails_hf _ o1 3) (fun _ => 2) rfl rfl ⟨rfl, trivial⟩ rfl (fun _ _ => Nat.lt_of_lt_of_le (by decide) (Nat.le_refl 3)) ?_
        rintro g σ' n' ⟨rfl, rfl, rfl⟩
        have hno : (rfail 3 ⟨t1 :: l1, e1, pq⟩).ok = false := by rw [rfail, if_pos ho1]; rfl
        have hrf : rfail 3 ⟨t1 :: l1, e1, pq⟩ = ⟨t1 :: l1, 3, t1.pos⟩ := by rw [rfail, if_pos ho1]; rfl
        rw [hrf] at hno ⊢
        have hk5 : t1.kind ≠ 5 := by simpa using hk
        rw [if_pos (show (hdT (t1 :: l1)).kind ≠ 5 from hk5)] at hP
        subst hP
        refine GOH (rok_b hno) (fun _ => 2) rfl rfl ⟨rfl, trivial⟩ rfl (fun _ _ => Nat.lt_of_lt_of_le (by decide) (Nat.le_refl 3)) ?_
        rintro g σ' n' ⟨rfl, rfl, rfl⟩
        show JK _ _ _ _
        refine DRAW [0] true (tk [0, 1, 2, 3, 4] ++ al [5]) (by kernel_rfl) ?_
        refine V ?_
        exact ⟨⟨rfl, rfl, trivial⟩, rfl⟩
      · have hk5 : t1.kind = 5 := by simpa using hk
        rw [if_neg (show ¬ (hdT (t1 :: l1)).kind ≠ 5 from fun h => h hk5)] at hP
        subst hP
        refine p2 ?_ hk
        refine GOH (rok_b ho1) (fun _ => 2) rfl rfl ⟨rfl, trivial⟩ rfl (fun _ _ => Nat.lt_of_lt_of_le (by decide) (Nat.le_refl 3)) ?_
        rintro g σ' n' ⟨rfl, rfl, rfl⟩
        show JK _ _ _ _
        refine DRAW [0] true (tk [0, 1, 2] ++ al [3]) (by kernel_rfl) ?_
        refine V ?_
        exact ⟨⟨rfl, rfl, trivial⟩, rfl⟩
    · have hP := hbad hno
      subst hP
      rcases tf (t1.kind != 5) with hk | hk
      · refine p1 ?_ hk
        refine GOH (rfails_hf _ o1 3) (fun _ => 2) rfl rfl ⟨rfl, trivial⟩ rfl (fun _ _ => Nat.lt_of_lt_of_le (by decide) (Nat.le_refl 3)) ?_
        rintro g σ' n' ⟨rfl, rfl, rfl⟩
        rw [rfail_bad hno]
        refine GOH (rok_b hno) (fun _ => 2) rfl rfl ⟨rfl, trivial⟩ rfl (fun _ _ => Nat.lt_of_lt_of_le (by decide) (Nat.le_refl 3)) ?_
        rintro g σ' n' ⟨rfl, rfl, rfl⟩
        show JK _ _ _ _
        refine DRAW [0] true (tk [0, 1, 2, 3, 4] ++ al [5]) (by kernel_rfl) ?_
        refine V ?_
        exact ⟨⟨rfl, rfl, trivial⟩, rfl⟩
      · refine p2 ?_ hk
        refine GOH (rok_b hno) (fun _ => 2) rfl rfl ⟨rfl, trivial⟩ rfl (fun _ _ => Nat.lt_of_lt_of_le (by decide) (Nat.le_refl 3)) ?_
        rintro g σ' n' ⟨rfl, rfl, rfl⟩
        show JK _ _ _ _
        refine DRAW [0] true (tk [0, 1, 2, 3, 4] ++ al [5]) (by kernel_rfl) ?_
        refine V ?_
        exact ⟨⟨rfl, rfl, trivial⟩, rfl⟩
end Go.Proofs.YtihakhdinkkdmaaGreatDoor
/-
  Contracts: questions that are the same.
-/
namespace Go.Proofs.YtihakhdinkkdmaaGreatDoor
open Go.GK Go.RowKit Go.PL
set_option maxRecDepth 100000
theorem sameMt_rt (l : List Mt) (hl : l.length ≤ 1000000) : Rt pg 12 [.sl 3 (l.map mt), .sl 3 (l.map mt)] (.v (.bool true)) := by
  refine Rt.of pg_ok Tryz.func12 rfl Tryz.ntmps12 rfl Tryz.results12 Tryz.call12 fun H0 S0 w0 h0 g0 => ?_
  have hll : (l.map mt).length = l.length := by simp
  refine p2 ?_ (by simp)
  refine JK.loopE (α := Nat) (β := Unit) (fun i => ⟨[(0, .sl 3 (l.map mt)), (1, .sl 3 (l.map mt)), (5, gi i)], [], 0⟩) (fun i => i ≤ l.length) (fun i => l.length - i)
    (fun _ => ⟨[], [], 0⟩) (fun _ => True) 0 id ?_ (Nat.zero_le _) ?_ ?_
  · exact ⟨⟨rfl, rfl, rfl, trivial⟩, trivial, rfl⟩
  · rintro i hi
    replace hi : i ≤ l.length := hi
    refine V ?_
    by_cases hlt : i < l.length
    · refine p1 ?_ (decide_eq_true (by omega))
      refine ⟨by kernel_rfl, ?_⟩
      refine ix (h := ?_)
      refine ix (h := ?_)
      refine p2 ?_ (by simp)
      exact ⟨i + 1, id, ⟨⟨rfl, rfl, succ_gi (by omega), trivial⟩, trivial, rfl⟩, hlt, by show l.length - (i + 1) < l.length - i; omega⟩
    · refine p2 ?_ (decide_eq_false (by omega))
      exact ⟨(), id, ⟨trivial, trivial, rfl⟩, trivial⟩
  · rintro _ _
    refine V ?_
    exact ⟨rfl, rfl⟩
abbrev tsA (l : List ByteArray) : GV := .sl 1 (l.map fun x => [gs x])
theorem sameTxA_rt (l : List ByteArray) (hl : l.length ≤ 1000000) : Rt pg 25 [tsA l, tsA l] (.v (.bool true)) := by
  refine Rt.of pg_ok Tryz.func25 rfl Tryz.ntmps25 rfl Tryz.results25 Tryz.call25 fun H0 S0 w0 h0 g0 => ?_
  have hll : (l.map fun x => [gs x]).length = l.length := by simp
  refine p2 ?_ (by simp)
  refine JK.loopE (α := Nat) (β := Unit) (fun i => ⟨[(0, tsA l), (1, tsA l), (5, gi i)], [], 0⟩) (fun i => i ≤ l.length) (fun i => l.length - i)
    (fun _ => ⟨[], [], 0⟩) (fun _ => True) 0 id ?_ (Nat.zero_le _) ?_ ?_
  · exact ⟨⟨rfl, rfl, rfl, trivial⟩, trivial, rfl⟩
  · rintro i hi
    replace hi : i ≤ l.length := hi
    refine V ?_
    by_cases hlt : i < l.length
    · refine p1 ?_ (decide_eq_true (by omega))
      refine ⟨by kernel_rfl, ?_⟩
      refine ix (h := ?_)
      refine ix (h := ?_)
      refine p2 ?_ (by simp)
      exact ⟨i + 1, id, ⟨⟨rfl, rfl, succ_gi (by omega), trivial⟩, trivial, rfl⟩, hlt, by show l.length - (i + 1) < l.length - i; omega⟩
    · refine p2 ?_ (decide_eq_false (by omega))
      exact ⟨(), id, ⟨trivial, trivial, rfl⟩, trivial⟩
  · rintro _ _
    refine V ?_
    exact ⟨rfl, rfl⟩
theorem sameNil_rt : Rt pg 7 [.v (.pointer none), .v (.pointer none)] (.b true) := by
  refine Rt.of pg_ok Tryz.func7 rfl Tryz.ntmps7 rfl Tryz.results7 Tryz.call7 fun H0 S0 w0 h0 g0 => ?_
  refine p3 ?_ rfl
  refine p1 ?_ rfl
  exact ⟨rfl, rfl⟩
def QLen : Qn → Prop
  | .nil => True
  | .mk _ _ m _ b l r => m.length ≤ 1000000 ∧ b.length ≤ 1000000 ∧ QLen l ∧ QLen r
theorem sa_00 (c n : Int) (m : List Mt) (sp : Int) (b : List ByteArray) (hm : Rt pg 12 [.sl 3 (m.map mt), .sl 3 (m.map mt)] (.v (.bool true))) (ht : Rt pg 25 [tsA b, tsA b] (.v (.bool true)))
    (i1 : Rt pg 7 [qG .nil, qG .nil] (.v (.bool true))) (i2 : Rt pg 7 [qG .nil, qG .nil] (.v (.bool true))) : Rt pg 7 [qG (.mk c n m sp b .nil .nil), qG (.mk c n m sp b .nil .nil)] (.b true) := by
  have cc : (c == c) = true := by simp
  have cn : (n == n) = true := by simp
  have cs : (sp == sp) = true := by simp
  refine Rt.of pg_ok Tryz.func7 rfl Tryz.ntmps7 rfl Tryz.results7 Tryz.call7 fun H0 S0 w0 h0 g0 => ?_
  refine p4 ?_ rfl
  refine p2 ?_ rfl
  show JK _ _ _ _
  refine DRAW [] false (tk [0, 1, 2, 3, 4, 5, 6, 7, 8, 9, 10, 11, 12, 13, 14, 15, 16, 17, 18, 19, 20, 21, 22, 23, 24, 25, 26, 27, 28, 29, 30, 31, 32, 33, 34, 35, 36, 37, 38, 39]) (by kernel_rfl) ?_
  refine p1 ?_ cc
  refine p1 ?_ cn
  refine p1 ?_ cs
  refine RGO 40 false (tk [41, 42, 43, 44, 45, 46, 47, 48, 49, 50]) hm rfl (congrArg (fun c => bif (c == true) then some (12, [GV.sl 3 (m.map mt), GV.sl 3 (m.map mt)]) else none) cs) (by kernel_rfl) ?_
  refine RGO 51 false (tk [52, 53, 54, 55, 56, 57, 58, 59, 60, 61]) ht rfl rfl (by kernel_rfl) ?_
  refine RGO 62 false (tk [63, 64, 65, 66, 67, 68, 69, 70, 71, 72]) i1 rfl rfl (by kernel_rfl) ?_
  refine RGO 73 true (tk [74, 75]) i2 rfl rfl (by kernel_rfl) ?_
  refine V ?_
  exact ⟨rfl, rfl⟩
theorem sa_01 (c n : Int) (m : List Mt) (sp : Int) (b : List ByteArray) (c2 n2 : Int) (m2 : List Mt) (s2 : Int) (b2 : List ByteArray) (l2 r2 : Qn) (hm : Rt pg 12 [.sl 3 (m.map mt), .sl 3 (m.map mt)] (.v (.bool true))) (ht : Rt pg 25 [tsA b, tsA b] (.v (.bool true)))
    (i1 : Rt pg 7 [qG .nil, qG .nil] (.v (.bool true))) (i2 : Rt pg 7 [qG (.mk c2 n2 m2 s2 b2 l2 r2), qG (.mk c2 n2 m2 s2 b2 l2 r2)] (.v (.bool true))) : Rt pg 7 [qG (.mk c n m sp b .nil (.mk c2 n2 m2 s2 b2 l2 r2)), qG (.mk c n m sp b .nil (.mk c2 n2 m2 s2 b2 l2 r2))] (.b true) := by
  have cc : (c == c) = true := by simp
  have cn : (n == n) = true := by simp
  have cs : (sp == sp) = true := by simp
  refine Rt.of pg_ok Tryz.func7 rfl Tryz.ntmps7 rfl Tryz.results7 Tryz.call7 fun H0 S0 w0 h0 g0 => ?_
  refine p4 ?_ rfl
  refine p2 ?_ rfl
  show JK _ _ _ _
  refine DRAW [] false (tk [0, 1, 2, 3, 4, 5, 6, 7, 8, 9, 10, 11, 12, 13, 14, 15, 16, 17, 18, 19, 20, 21, 22, 23, 24, 25, 26, 27, 28, 29, 30, 31, 32, 33, 34, 35, 36, 37, 38, 39]) (by kernel_rfl) ?_
  refine p1 ?_ cc
  refine p1 ?_ cn
  refine p1 ?_ cs
  refine RGO 40 false (tk [41, 42, 43, 44, 45, 46, 47, 48, 49, 50]) hm rfl (congrArg (fun c => bif (c == true) then some (12, [GV.sl 3 (m.map mt), GV.sl 3 (m.map mt)]) else none) cs) (by kernel_rfl) ?_
  refine RGO 51 false (tk [52, 53, 54, 55, 56, 57, 58, 59, 60, 61]) ht rfl rfl (by kernel_rfl) ?_
  refine RGO 62 false (tk [63, 64, 65, 66, 67, 68, 69, 70, 71, 72]) i1 rfl rfl (by kernel_rfl) ?_
  refine RGO 73 true (tk [74, 75]) i2 rfl rfl (by kernel_rfl) ?_
  refine V ?_
  exact ⟨rfl, rfl⟩
theorem sa_10 (c n : Int) (m : List Mt) (sp : Int) (b : List ByteArray) (c1 n1 : Int) (m1 : List Mt) (s1 : Int) (b1 : List ByteArray) (l1 r1 : Qn) (hm : Rt pg 12 [.sl 3 (m.map mt), .sl 3 (m.map mt)] (.v (.bool true))) (ht : Rt pg 25 [tsA b, tsA b] (.v (.bool true)))
    (i1 : Rt pg 7 [qG (.mk c1 n1 m1 s1 b1 l1 r1), qG (.mk c1 n1 m1 s1 b1 l1 r1)] (.v (.bool true))) (i2 : Rt pg 7 [qG .nil, qG .nil] (.v (.bool true))) : Rt pg 7 [qG (.mk c n m sp b (.mk c1 n1 m1 s1 b1 l1 r1) .nil), qG (.mk c n m sp b (.mk c1 n1 m1 s1 b1 l1 r1) .nil)] (.b true) := by
  have cc : (c == c) = true := by simp
  have cn : (n == n) = true := by simp
  have cs : (sp == sp) = true := by simp
  refine Rt.of pg_ok Tryz.func7 rfl Tryz.ntmps7 rfl Tryz.results7 Tryz.call7 fun H0 S0 w0 h0 g0 => ?_
  refine p4 ?_ rfl
  refine p2 ?_ rfl
  show JK _ _ _ _
  refine DRAW [] false (tk [0, 1, 2, 3, 4, 5, 6, 7, 8, 9, 10, 11, 12, 13, 14, 15, 16, 17, 18, 19, 20, 21, 22, 23, 24, 25, 26, 27, 28, 29, 30, 31, 32, 33, 34, 35, 36, 37, 38, 39]) (by kernel_rfl) ?_
  refine p1 ?_ cc
  refine p1 ?_ cn
  refine p1 ?_ cs
  refine RGO 40 false (tk [41, 42, 43, 44, 45, 46, 47, 48, 49, 50]) hm rfl (congrArg (fun c => bif (c == true) then some (12, [GV.sl 3 (m.map mt), GV.sl 3 (m.map mt)]) else none) cs) (by kernel_rfl) ?_
  refine RGO 51 false (tk [52, 53, 54, 55, 56, 57, 58, 59, 60, 61]) ht rfl rfl (by kernel_rfl) ?_
  refine RGO 62 false (tk [63, 64, 65, 66, 67, 68, 69, 70, 71, 72]) i1 rfl rfl (by kernel_rfl) ?_
  refine RGO 73 true (tk [74, 75]) i2 rfl rfl (by kernel_rfl) ?_
  refine V ?_
  exact ⟨rfl, rfl⟩
theorem sa_11 (c n : Int) (m : List Mt) (sp : Int) (b : List ByteArray) (c1 n1 : Int) (m1 : List Mt) (s1 : Int) (b1 : List ByteArray) (l1 r1 : Qn) (c2 n2 : Int) (m2 : List Mt) (s2 : Int) (b2 : List ByteArray) (l2 r2 : Qn) (hm : Rt pg 12 [.sl 3 (m.map mt), .sl 3 (m.map mt)] (.v (.bool true))) (ht : Rt pg 25 [tsA b, tsA b] (.v (.bool true)))
    (i1 : Rt pg 7 [qG (.mk c1 n1 m1 s1 b1 l1 r1), qG (.mk c1 n1 m1 s1 b1 l1 r1)] (.v (.bool true))) (i2 : Rt pg 7 [qG (.mk c2 n2 m2 s2 b2 l2 r2), qG (.mk c2 n2 m2 s2 b2 l2 r2)] (.v (.bool true))) : Rt pg 7 [qG (.mk c n m sp b (.mk c1 n1 m1 s1 b1 l1 r1) (.mk c2 n2 m2 s2 b2 l2 r2)), qG (.mk c n m sp b (.mk c1 n1 m1 s1 b1 l1 r1) (.mk c2 n2 m2 s2 b2 l2 r2))] (.b true) := by
  have cc : (c == c) = true := by simp
  have cn : (n == n) = true := by simp
  have cs : (sp == sp) = true := by simp
  refine Rt.of pg_ok Tryz.func7 rfl Tryz.ntmps7 rfl Tryz.results7 Tryz.call7 fun H0 S0 w0 h0 g0 => ?_
  refine p4 ?_ rfl
  refine p2 ?_ rfl
  show JK _ _ _ _
  refine DRAW [] false (tk [0, 1, 2, 3, 4, 5, 6, 7, 8, 9, 10, 11, 12, 13, 14, 15, 16, 17, 18, 19, 20, 21, 22, 23, 24, 25, 26, 27, 28, 29, 30, 31, 32, 33, 34, 35, 36, 37, 38, 39]) (by kernel_rfl) ?_
  refine p1 ?_ cc
  refine p1 ?_ cn
  refine p1 ?_ cs
  refine RGO 40 false (tk [41, 42, 43, 44, 45, 46, 47, 48, 49, 50]) hm rfl (congrArg (fun c => bif (c == true) then some (12, [GV.sl 3 (m.map mt), GV.sl 3 (m.map mt)]) else none) cs) (by kernel_rfl) ?_
  refine RGO 51 false (tk [52, 53, 54, 55, 56, 57, 58, 59, 60, 61]) ht rfl rfl (by kernel_rfl) ?_
  refine RGO 62 false (tk [63, 64, 65, 66, 67, 68, 69, 70, 71, 72]) i1 rfl rfl (by kernel_rfl) ?_
  refine RGO 73 true (tk [74, 75]) i2 rfl rfl (by kernel_rfl) ?_
  refine V ?_
  exact ⟨rfl, rfl⟩
theorem sameAsk_rt : ∀ q : Qn, QLen q → Rt pg 7 [qG q, qG q] (.b true)
  | .nil, _ => sameNil_rt
  | .mk c n m sp b .nil .nil, h => sa_00 c n m sp b (sameMt_rt m h.1) (sameTxA_rt b h.2.1) (sameNil_rt.bt rfl) (sameNil_rt.bt rfl)
  | .mk c n m sp b .nil (.mk c2 n2 m2 s2 b2 l2 r2), h => sa_01 c n m sp b c2 n2 m2 s2 b2 l2 r2 (sameMt_rt m h.1) (sameTxA_rt b h.2.1) (sameNil_rt.bt rfl) ((sameAsk_rt _ h.2.2.2).bt rfl)
  | .mk c n m sp b (.mk c1 n1 m1 s1 b1 l1 r1) .nil, h => sa_10 c n m sp b c1 n1 m1 s1 b1 l1 r1 (sameMt_rt m h.1) (sameTxA_rt b h.2.1) ((sameAsk_rt _ h.2.2.1).bt rfl) (sameNil_rt.bt rfl)
  | .mk c n m sp b (.mk c1 n1 m1 s1 b1 l1 r1) (.mk c2 n2 m2 s2 b2 l2 r2), h => sa_11 c n m sp b c1 n1 m1 s1 b1 l1 r1 c2 n2 m2 s2 b2 l2 r2 (sameMt_rt m h.1) (sameTxA_rt b h.2.1) ((sameAsk_rt _ h.2.2.1).bt rfl) ((sameAsk_rt _ h.2.2.2).bt rfl)
theorem wf_len {q : Qn} (h : Wf q) : QLen q := by
  induction h with
  | num n h0 h1 => exact ⟨Nat.zero_le _, Nat.zero_le _, trivial, trivial⟩
  | pick m h => exact ⟨by have := h.2; omega, Nat.zero_le _, trivial, trivial⟩
  | over k hk m h sp h1 h2 => exact ⟨by have := h.2; omega, Nat.zero_le _, trivial, trivial⟩
  | all k hk b hb hl q hq ih => exact ⟨Nat.zero_le _, by omega, ih, trivial⟩
  | neg q hq ih => exact ⟨Nat.zero_le _, Nat.zero_le _, ih, trivial⟩
  | add k hk l r hl hr ih1 ih2 => exact ⟨Nat.zero_le _, Nat.zero_le _, ih1, ih2⟩
  | mul k hk l r hl hr ih1 ih2 => exact ⟨Nat.zero_le _, Nat.zero_le _, ih1, ih2⟩
end Go.Proofs.YtihakhdinkkdmaaGreatDoor
/-
  Plain laws: questions: the bytes that are printed. No program is in sight.
-/
namespace Go.PL
open Go Go.GK
theorem bytes_sep {y : Lx} {s : List UInt8} (hy : y.bytes = s) : ∀ l : List (List Lx), bytesL (sepX y l) = s.intercalate (l.map bytesL)
  | [] => rfl
  | [x] => by simp [sepX, List.intercalate]
  | x :: z :: r => by
    have e : sepX y (x :: z :: r) = x ++ y :: sepX y (z :: r) := rfl
    rw [e, bytesL_append, bytesL_cons, hy, bytes_sep hy (z :: r)]
    simp [List.intercalate]
def itemM (m : Mt) : List UInt8 := bL m.name ++ bL (opsL.getD m.op.toNat ⟨#[]⟩) ++ [34] ++ bL m.value ++ [34]
theorem bytes_mt (m : Mt) : bytesL (mtX m) = itemM m := by
  simp [mtX, itemM, bytesL, Lx.bytes, wL, mL, qL, spc]
theorem bytes_ms (l : List Mt) : bytesL (msX l) = [123] ++ ([44] : List UInt8).intercalate (l.map itemM) ++ [125] := by
  have e : (mL [44]).bytes = [44] := rfl
  rw [msX, bytesL_cons, bytesL_append, bytes_sep e, List.map_map]
  have : bytesL ∘ mtX = itemM := funext bytes_mt
  rw [this]
  simp [bytesL, Lx.bytes, mL, spc]
theorem bytes_by (b : List ByteArray) : bytesL (byX b) = ([44, 32] : List UInt8).intercalate (b.map bL) := by
  have e : (⟨0, [44], 4, 1⟩ : Lx).bytes = [44, 32] := rfl
  rw [byX, bytes_sep e, List.map_map]
  have : bytesL ∘ (fun s => [wL (bL s)]) = bL := funext fun s => by simp [bytesL, Lx.bytes, wL, spc]
  rw [this]
theorem bytes_par (x : List Lx) : bytesL (parX x) = [40] ++ bytesL x ++ [41] := by
  rw [parX, bytesL_cons, bytesL_append]
  simp [bytesL, Lx.bytes, mL, spc]
theorem bytes_dL (n : Int) : bytesL [dL (Lib.itoa n)] = Lib.itoa n := by simp [bytesL, Lx.bytes, dL, spc]
theorem bytes_over (w : List UInt8) (m : List Mt) (sp : Int) : bytesL (wL w :: parX (msX m ++ [mL [91], dL (Lib.itoa sp), mL [93]])) = w ++ [40] ++ bytesL (msX m) ++ [91] ++ Lib.itoa sp ++ [93, 41] := by
  rw [bytesL_cons, bytes_par, bytesL_append]
  simp [bytesL, Lx.bytes, wL, mL, dL, spc]
theorem bytes_all (w : List UInt8) (x : List Lx) : bytesL (wL w :: (parX x ++ [])) = w ++ [40] ++ bytesL x ++ [41] := by
  rw [List.append_nil, bytesL_cons, bytes_par]
  simp [Lx.bytes, wL, spc]
theorem bytes_allby (w : List UInt8) (x : List Lx) (s : ByteArray) (b : List ByteArray) : bytesL (wL w :: (parX x ++ bysX (s :: b))) = w ++ [40] ++ bytesL x ++ [41] ++ ([32, 98, 121, 32, 40] ++ ([44, 32] : List UInt8).intercalate ((s :: b).map bL) ++ [41]) := by
  have e : bysX (s :: b) = ⟨1, [98, 121], 1, 1⟩ :: parX (byX (s :: b)) := rfl
  rw [bytesL_cons, bytesL_append, bytes_par, e, bytesL_cons, bytes_par, bytes_by]
  simp [Lx.bytes, wL, spc]
theorem bytes_neg (x : List Lx) : bytesL (mL [45] :: x) = [45] ++ bytesL x := by
  rw [bytesL_cons]
  simp [Lx.bytes, mL, spc]
theorem bytes_bin (x y : List Lx) (c : Int) : bytesL (x ++ binX c :: y) = bytesL x ++ [32] ++ symX c ++ [32] ++ bytesL y := by
  rw [bytesL_append, bytesL_cons]
  simp [Lx.bytes, binX, spc]
theorem inter_len' {s : List UInt8} {k : Nat} (hs : s.length ≤ k) {m : Nat} : ∀ {l : List (List UInt8)}, (∀ x ∈ l, x.length ≤ m) → (s.intercalate l).length ≤ l.length * (m + k)
  | [], _ => by simp [List.intercalate]
  | [a], h => by
    have h1 := h a List.mem_cons_self
    have e : s.intercalate [a] = a := by simp [List.intercalate]
    rw [e]
    simp
    omega
  | a :: b :: l, h => by
    have h1 := h a List.mem_cons_self
    have h2 := inter_len' hs (fun x hx => h x (List.mem_cons_of_mem _ hx) : ∀ x ∈ b :: l, x.length ≤ m)
    have e : s.intercalate (a :: b :: l) = a ++ (s ++ s.intercalate (b :: l)) := by simp [List.intercalate]
    rw [e]
    simp only [List.length_append, List.length_cons, Nat.add_mul] at h2 ⊢
    omega
theorem item_short {m : Mt} (h : MOk m) : (itemM m).length ≤ 52 := by
  obtain ⟨h1, h2, h3, h4⟩ := h
  rw [nameF, Bool.and_eq_true, decide_eq_true_iff] at h1
  rw [valueF, Bool.and_eq_true, decide_eq_true_iff] at h2
  have ho : ∀ k : Fin 4, (bL (opsL.getD k.val ⟨#[]⟩)).length ≤ 2 := by decide
  have := ho ⟨m.op.toNat, by omega⟩
  rw [bL_len] at this
  simp only at this
  simp only [itemM, List.length_append, bL_len, List.length_cons, List.length_nil]
  omega
theorem ms_short {l : List Mt} (h : MsOk l) : (bytesL (msX l)).length ≤ 500 := by
  have h1 := inter_len' (s := [44]) (k := 1) (by decide) (m := 52) (l := l.map itemM) fun x hx => by
    obtain ⟨m, hm, rfl⟩ := List.mem_map.1 hx
    exact item_short (h.1 m hm)
  have := h.2
  rw [List.length_map] at h1
  rw [bytes_ms]
  simp only [List.length_append, List.length_cons, List.length_nil]
  omega
end Go.PL
/-
  Contracts: questions: how they are printed.
-/
namespace Go.Proofs.YtihakhdinkkdmaaGreatDoor
open Go.GK Go.RowKit Go.PL
set_option maxRecDepth 100000
theorem level_rt (c : Int) : Rt pg 45 [gi c] (gi (lvl c : Nat)) := by
  refine Rt.of pg_ok Tryz.func45 rfl Tryz.ntmps45 rfl Tryz.results45 Tryz.call45 fun H0 S0 w0 h0 g0 => ?_
  by_cases h1 : c = 13
  · subst h1
    repeat (first | refine p1 ?_ | refine p2 ?_ | refine p3 ?_ | refine p4 ?_)
    exact ⟨rfl, rfl⟩
  by_cases h2 : c = 14
  · subst h2
    repeat (first | refine p1 ?_ | refine p2 ?_ | refine p3 ?_ | refine p4 ?_)
    exact ⟨rfl, rfl⟩
  by_cases h3 : c = 15
  · subst h3
    repeat (first | refine p1 ?_ | refine p2 ?_ | refine p3 ?_ | refine p4 ?_)
    exact ⟨rfl, rfl⟩
  by_cases h4 : c = 16
  · subst h4
    repeat (first | refine p1 ?_ | refine p2 ?_ | refine p3 ?_ | refine p4 ?_)
    exact ⟨rfl, rfl⟩
  have hl : lvl c = 2 := by simp [lvl, h1, h2, h3, h4]
  rw [hl]
  have e1 : (c == 13) = false := by simpa using h1
  have e2 : (c == 14) = false := by simpa using h2
  have e3 : (c == 15) = false := by simpa using h3
  have e4 : (c == 16) = false := by simpa using h4
  repeat (first | refine p1 ?_ | refine p2 ?_ | refine p3 ?_ | refine p4 ?_)
  exact ⟨rfl, rfl⟩
theorem ops_at {o : Int} (h0 : 0 ≤ o) (h1 : o ≤ 3) : (List.drop (o.toNat * 1) [gs (bS [61]), gs (bS [33, 61]), gs (bS [94, 61]), gs (bS [33, 94])])[0]? = some (gs (opsL.getD o.toNat ⟨#[]⟩)) := by
  match o, h0, h1 with
  | 0, _, _ => rfl
  | 1, _, _ => rfl
  | 2, _, _ => rfl
  | 3, _, _ => rfl
theorem ops_size {o : Int} (h0 : 0 ≤ o) (h1 : o ≤ 3) : (opsL.getD o.toNat ⟨#[]⟩).size ≤ 2 := by
  have ho : ∀ k : Fin 4, (opsL.getD k.val ⟨#[]⟩).size ≤ 2 := by decide
  exact ho ⟨o.toNat, by omega⟩
theorem mok_size {m : Mt} (h : MOk m) : m.name.size ≤ 24 ∧ m.value.size ≤ 24 := by
  obtain ⟨h1, h2, _⟩ := h
  rw [nameF, Bool.and_eq_true, decide_eq_true_iff] at h1
  rw [valueF, Bool.and_eq_true, decide_eq_true_iff] at h2
  exact ⟨h1.2.2, h2.2⟩
theorem sz1 (b : UInt8) : ByteArray.size ⟨#[b]⟩ = 1 := rfl
theorem itemM_bs (m : Mt) : m.name ++ opsL.getD m.op.toNat ⟨#[]⟩ ++ ⟨#[34]⟩ ++ m.value ++ ⟨#[34]⟩ = bS (itemM m) := by
  rw [itemM, bS_append, bS_append, bS_append, bS_append, bS_bL, bS_bL, bS_bL]
  rfl
theorem matchersT_rt (l : List Mt) (hl : MsOk l) : Rt pg 13 [.sl 3 (l.map mt)] (gs (printM l)) := by
  refine Rt.of pg_ok Tryz.func13 rfl Tryz.ntmps13 rfl Tryz.results13 Tryz.call13 fun H0 S0 w0 h0 g0 => ?_
  have hl1 := hl.2
  have hll : (l.map mt).length = l.length := by simp
  refine JK.ownNil 3 9 1 rfl ?_
  refine JK.loopE (α := Nat) (β := Unit) (fun i => ⟨[(3, .o 0), (6, .sl 3 (l.map mt)), (7, gi (l.map mt).length), (8, gi i)], [(0, .row 9 1 ((l.take i).map fun x => [gs (bS (itemM x))]))], 1⟩) (fun i => i ≤ l.length) (fun i => l.length - i)
    (fun _ => ⟨[(3, .o 0)], [(0, .row 9 1 (l.map fun x => [gs (bS (itemM x))]))], 1⟩) (fun _ => True) 0 id ?_ (Nat.zero_le _) ?_ ?_
  · exact ⟨⟨rfl, rfl, rfl, rfl, trivial⟩, ⟨rfl, trivial⟩, rfl⟩
  · rintro i hi
    refine V ?_
    by_cases hlt : i < l.length
    · have hm := hl.1 l[i] (List.getElem_mem hlt)
      have h1 := ops_size hm.2.2.1 hm.2.2.2
      obtain ⟨h2, h3⟩ := mok_size hm
      refine p1 ?_
      refine ix (h := ?_)
      refine DRAW [0] true (tk [0, 1, 2, 3, 4, 5, 6, 7, 8, 9, 10, 11, 12] ++ al [13, 14] ++ tk [15]) (by kernel_rfl) ?_
      refine ⟨hm.2.2.1, by have := hm.2.2.2; omega, ?_⟩
      refine ons_mk (ops_at hm.2.2.1 hm.2.2.2) ?_
      refine ⟨by omega, ?_⟩
      refine ⟨by simp only [app_size, sz1]; omega, ?_⟩
      refine ⟨by simp only [app_size, sz1]; omega, ?_⟩
      refine ⟨by simp only [app_size, sz1]; omega, ?_⟩
      refine ⟨by simp; omega, ?_⟩
      refine V ?_
      refine ⟨i + 1, fun _ => 3, ⟨⟨rfl, rfl, rfl, succ_gi (by omega), trivial⟩, ⟨?_, trivial⟩, rfl⟩, hlt, by show l.length - (i + 1) < l.length - i; omega⟩
      rw [List.take_succ_eq_append_getElem hlt, List.map_append]
      show some (Res.row _ _ (_ ++ [[gs (l[i].name ++ opsL.getD l[i].op.toNat ⟨#[]⟩ ++ ⟨#[34]⟩ ++ l[i].value ++ ⟨#[34]⟩)]])) = some (Res.row _ _ (_ ++ [[gs (bS (itemM l[i]))]]))
      rw [itemM_bs]
    · refine p2 ?_
      obtain rfl : i = l.length := by omega
      exact ⟨(), id, ⟨⟨rfl, trivial⟩, ⟨by rw [List.take_length]; rfl, trivial⟩, rfl⟩, trivial⟩
  · rintro _ _
    refine V ?_
    have hs := ms_short hl
    have e1 : Lib.join ((l.map fun x => bS (itemM x)).map (·.data.toList)) [44] = ([44] : List UInt8).intercalate (l.map itemM) := by
      rw [List.map_map]
      rfl
    have hj : (([44] : List UInt8).intercalate (l.map itemM)).length + 2 ≤ 500 := by
      rw [bytes_ms] at hs
      simp only [List.length_append, List.length_cons, List.length_nil] at hs
      omega
    refine GOB (join_rt (l.map fun x => bS (itemM x)) ⟨#[44]⟩ (by rw [show (ByteArray.mk #[44]).data.toList = [44] from rfl, e1]; omega) (by simp; omega)) rfl ⟨⟨rfl, by rw [List.map_map]; rfl⟩, ⟨rfl, rfl⟩, trivial⟩ ?_
    rw [show (ByteArray.mk #[44]).data.toList = [44] from rfl, e1]
    refine ⟨by rw [bs_size, sz1]; omega, ?_⟩
    refine ⟨by rw [app_size, bs_size, sz1, sz1]; omega, ?_⟩
    refine ⟨?_, rfl⟩
    show gs _ = gs _
    rw [printM, bytes_ms, bS_append, bS_append]
    rfl
end Go.Proofs.YtihakhdinkkdmaaGreatDoor
