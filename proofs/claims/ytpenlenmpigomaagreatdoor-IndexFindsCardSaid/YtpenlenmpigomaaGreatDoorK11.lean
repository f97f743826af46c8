/-
  IndexFinds: the law's walk.
-/
import Derived.Test.YtpenlenmpigomaaGreatDoorK10
import Derived.Test.YtpenlenmpigomaaGreatDoorK06
import Derived.Test.YtpenlenmpigomaaGreatDoorRows
import Derived.ProofKit
import Derived.LaidMore
import Derived.LaidHandle
import Derived.LaidSub
import Derived.Lay
import Derived.ChangeSame
import Derived.OpenShut
import Derived.Stop.Joined
namespace Go.Proofs.YtpenlenmpigomaaGreatDoor
open Go.GK Go.PL Go.RowKit
set_option maxRecDepth 100000
theorem shL_lenF {l : List Lb} (h : shL l = true) : l.length ≤ 20 ∧ ∀ x ∈ l, x.name.size ≤ 60 ∧ x.value.size ≤ 60 := by
  unfold shL at h
  rw [Bool.and_eq_true, decide_eq_true_iff, Bool.not_eq_true'] at h
  refine ⟨by omega, fun x hx => ?_⟩
  obtain ⟨i, hi, rfl⟩ := List.getElem_of_mem hx
  have := anyB_get h.2 i hi
  simp only [Bool.or_eq_false_iff, decide_eq_false_iff_not] at this
  rw [show l.getD i default = l[i] by simp [hi]] at this
  omega
theorem sameTx_rt (l : List ByteArray) (hl : l.length ≤ 1000000) : Rt pg 9 [tls l, tls l] (.v (.bool true)) := by
  refine Rt.of pg_ok Tryz.func9 rfl Tryz.ntmps9 rfl Tryz.results9 Tryz.call9 fun H0 S0 w0 h0 g0 => ?_
  have hll := tRow_len l
  refine p2 ?_ (by simp)
  refine JK.loopE (α := Nat) (β := Unit) (fun i => ⟨[(0, tls l), (1, tls l), (5, gi i)], [], 0⟩) (fun i => i ≤ l.length) (fun i => l.length - i)
    (fun _ => ⟨[], [], 0⟩) (fun _ => True) 0 id ?_ (Nat.zero_le _) ?_ ?_
  · exact ⟨⟨rfl, rfl, rfl, trivial⟩, trivial, rfl⟩
  · rintro i hi
    replace hi : i ≤ l.length := hi
    refine V ?_
    by_cases hlt : i < l.length
    · refine p1 ?_ (decide_eq_true (by omega))
      refine ⟨by kernel_rfl, ?_⟩
      refine ix (h := ?_)
      refine ix (h := ?_)
      refine p2 ?_ (by simp)
      exact ⟨i + 1, id, ⟨⟨rfl, rfl, succ_gi (by omega), trivial⟩, trivial, rfl⟩, hlt, by show l.length - (i + 1) < l.length - i; omega⟩
    · refine p2 ?_ (decide_eq_false (by omega))
      exact ⟨(), id, ⟨trivial, trivial, rfl⟩, trivial⟩
  · rintro _ _
    refine V ?_
    exact ⟨rfl, rfl⟩
/-- The first labels that may not be. -/
def FirstBad (S : List (List Lb)) (i : Nat) : Option Nat → Prop
  | none => ∀ j (h : j < S.length), j < i → rightF S[j] = true
  | some k => ∃ h : k < S.length, k < i ∧ rightF S[k] = false ∧ ∀ j (h : j < S.length), j < k → rightF S[j] = true
def fE : Option Nat → Int
  | none => 0
  | some _ => 1
def fP : Option Nat → Int
  | none => -1
  | some k => k
theorem indexFinds_rt (S : List (List Lb)) (m : List Mt) (name : ByteArray) : Rt pg 3 [lss S, .sl 3 (m.map mt), gs name] (.b true) := by
  refine Rt.of pg_ok Tryz.func3 rfl Tryz.ntmps3 rfl Tryz.results3 Tryz.call3 fun H0 S0 w0 h0 g0 => ?_
  have hSl : (S.map fun s => [GV.sl 2 (s.map lb)]).length = S.length := by simp
  have hml : (m.map mt).length = m.length := by simp
  by_cases h30 : 30 < S.length
  · have e0 : decide ((S.map fun s => [GV.sl 2 (s.map lb)]).length > (30 : Int)) = true := decide_eq_true (by omega)
    repeat (first | refine p1 ?_ | refine p2 ?_ | refine p3 ?_ | refine p4 ?_)
    exact ⟨rfl, rfl⟩
  have e0 : decide ((S.map fun s => [GV.sl 2 (s.map lb)]).length > (30 : Int)) = false := decide_eq_false (by omega)
  repeat (first | refine p1 ?_ | refine p2 ?_ | refine p3 ?_ | refine p4 ?_)
  rcases tf (shM m) with hm | hm
  · refine GOJ (Rq.hf ((shortM_rt m).bt hm)) id rfl rfl trivial rfl (fun _ h => absurd h (Nat.not_lt_zero _)) ?_
    rintro _ _ _ ⟨rfl, rfl, rfl⟩
    refine VM 20 ?_
    obtain ⟨hm1, hm2⟩ := shM_le hm
    refine JK.ownNil 8 33 2 rfl ?_
    refine V ?_
    refine JK.loopE (α := Nat × Option Nat) (β := Option Nat) (fun z => ⟨[(0, lss S), (1, .sl 3 (m.map mt)), (2, gs name), (7, .p 0 0), (8, .o 1), (9, gi z.1)], [(0, .blk 27 [gi (fE z.2), gi (fP z.2)]), (1, .row 33 2 ((S.take z.1).map fun s => [.sl 2 (s.map lb), .v (.slice none 0 0)]))], 2⟩) (fun z => z.1 ≤ S.length ∧ FirstBad S z.1 z.2 ∧ ∀ j (h : j < S.length), j < z.1 → shL S[j] = true) (fun z => S.length - z.1)
      (fun b => ⟨[(0, lss S), (1, .sl 3 (m.map mt)), (2, gs name), (7, .p 0 0), (8, .o 1)], [(0, .blk 27 [gi (fE b), gi (fP b)]), (1, .row 33 2 (S.map fun s => [.sl 2 (s.map lb), .v (.slice none 0 0)]))], 2⟩) (fun b => FirstBad S S.length b ∧ ∀ s ∈ S, shL s = true) (0, none) id ?_ ⟨Nat.zero_le _, fun j _ h => absurd h (Nat.not_lt_zero _), fun j _ h => absurd h (Nat.not_lt_zero _)⟩ ?_ ?_
    · exact ⟨⟨rfl, rfl, rfl, rfl, rfl, rfl, trivial⟩, ⟨rfl, rfl, trivial⟩, rfl⟩
    · rintro ⟨i, b⟩ ⟨hi, hb, hsh⟩
      simp only at hi hb hsh
      refine V ?_
      by_cases hlt : i < S.length
      · refine p1 ?_ (decide_eq_true (by dsimp only; omega))
        refine ix (h := ?_)
        rcases tf (shL S[i]) with hs | hs
        · refine GO ((shortL_rt S[i]).bt hs) rfl ?_
          have hsh' : ∀ j (h : j < S.length), j < i + 1 → shL S[j] = true := fun j h h2 => by
            rcases Nat.lt_succ_iff_lt_or_eq.1 h2 with h3 | rfl
            · exact hsh j h h3
            · exact hs
          have hlab := labels_rt S[i] (shL_Hl hs)
          have htk : (S.take (i + 1)).map (fun s => [GV.sl 2 (s.map lb), GV.v (.slice none 0 0)]) = (S.take i).map (fun s => [GV.sl 2 (s.map lb), GV.v (.slice none 0 0)]) ++ [[GV.sl 2 (S[i].map lb), GV.v (.slice none 0 0)]] := by
            rw [List.take_succ_eq_append_getElem hlt, List.map_append]
            rfl
          cases b with
          | none =>
            repeat (first | refine p1 ?_ | refine p2 ?_ | refine p3 ?_ | refine p4 ?_)
            refine ix (h := ?_)
            rcases tf (rightF S[i]) with hr | hr
            · refine GO (hlab.bt hr) rfl ?_
              repeat (first | refine p1 ?_ | refine p2 ?_ | refine p3 ?_ | refine p4 ?_)
              refine ix (h := ?_)
              refine ⟨by simp only [List.length_map, List.length_cons, List.length_nil, List.length_take]; omega, ?_⟩
              exact ⟨(i + 1, none), r1 1 3, ⟨⟨rfl, rfl, rfl, rfl, rfl, succ_gi (by omega), trivial⟩, ⟨rfl, congrArg (fun q => some (Res.row 33 2 q)) htk.symm, trivial⟩, rfl⟩, ⟨hlt, fun j h h2 => by
                rcases Nat.lt_succ_iff_lt_or_eq.1 h2 with h3 | rfl
                · exact hb j h h3
                · exact hr, hsh'⟩, by simp only; omega⟩
            · refine GO (hlab.bt hr) rfl ?_
              repeat (first | refine p1 ?_ | refine p2 ?_ | refine p3 ?_ | refine p4 ?_)
              refine ix (h := ?_)
              refine ⟨by simp only [List.length_map, List.length_cons, List.length_nil, List.length_take]; omega, ?_⟩
              exact ⟨(i + 1, some i), r1 1 3, ⟨⟨rfl, rfl, rfl, rfl, rfl, succ_gi (by omega), trivial⟩, ⟨rfl, congrArg (fun q => some (Res.row 33 2 q)) htk.symm, trivial⟩, rfl⟩, ⟨hlt, ⟨hlt, Nat.lt_succ_self i, hr, fun j h h2 => hb j h h2⟩, hsh'⟩, by simp only; omega⟩
          | some k =>
            repeat (first | refine p1 ?_ | refine p2 ?_ | refine p3 ?_ | refine p4 ?_)
            refine ix (h := ?_)
            refine ⟨by simp only [List.length_map, List.length_cons, List.length_nil, List.length_take]; omega, ?_⟩
            exact ⟨(i + 1, some k), r1 1 3, ⟨⟨rfl, rfl, rfl, rfl, rfl, succ_gi (by omega), trivial⟩, ⟨rfl, congrArg (fun q => some (Res.row 33 2 q)) htk.symm, trivial⟩, rfl⟩, ⟨hlt, by obtain ⟨q1, q2, q3, q4⟩ := hb; exact ⟨q1, Nat.lt_succ_of_lt q2, q3, q4⟩, hsh'⟩, by simp only; omega⟩
        · refine GO ((shortL_rt S[i]).bt hs) rfl ?_
          exact ⟨rfl, rfl⟩
      · refine p2 ?_ (decide_eq_false (by dsimp only; omega))
        obtain rfl : i = S.length := by omega
        refine ⟨b, id, ⟨⟨rfl, rfl, rfl, rfl, rfl, trivial⟩, ⟨rfl, ?_, trivial⟩, rfl⟩, hb, fun s hs => ?_⟩
        · simp only [List.take_length]
          rfl
        · obtain ⟨j, hj, rfl⟩ := List.getElem_of_mem hs
          exact hsh j hj hj
    · rintro b ⟨hb, hsh⟩
      refine JK.freeze 1 rfl ?_
      refine V ?_
      have hsm : ∀ s ∈ S, s.length ≤ 20 ∧ ∀ x ∈ s, x.name.size ≤ 60 ∧ x.value.size ≤ 60 := fun s hs => shL_lenF (hsh s hs)
      have hnew := new_hf S (fun s hs => ⟨fun x hx => by have := (hsm s hs).2 x hx; omega, by have := (hsm s hs).1; omega⟩) (by omega)
      refine GOH hnew (fun i => i) rfl rfl trivial rfl (fun _ h => absurd h (Nat.not_lt_zero _)) ?_
      rintro _ _ _ (⟨hr, f, rfl, rfl, rfl⟩ | ⟨i, hi, hi1, hi2, rfl, rfl, rfl⟩)
      · obtain rfl : b = none := by
          cases b with
          | none => rfl
          | some k =>
            obtain ⟨q1, q2, q3, q4⟩ := hb
            rw [hr _ (List.getElem_mem q1)] at q3
            cases q3
        refine GO ((isE_rt none 0 (-1)).bt (d := true) rfl) rfl ?_
        repeat (first | refine p1 ?_ | refine p2 ?_ | refine p3 ?_ | refine p4 ?_)
        have hLen := ixF_len 20 S fun s hs => (hsm s hs).1
        have hK : LenLe 600 (ixF S) := ⟨Nat.le_trans hLen.1 (by omega), fun x hx => Nat.le_trans (hLen.2 x hx) (by omega)⟩
        have hvl := vals_len hK
        have hsame : ∀ n, sortT (valsI (ixF S) n) = sortT (refK n S) := fun n => sortT_ext (vals_nodup hr n) (refK_ok n S).1 fun v => by rw [vals_mem hr, (refK_ok n S).2.1]
        have hrl : ∀ n, (sortT (refK n S)).length ≤ 600 := fun n => by rw [← hsame n, sortT_len]; exact hvl n
        refine GOH (values_hf S f name (by have := hvl name; omega) (vals_nodup hr name)) (rr 2 3) rfl rfl ⟨rfl, rfl, trivial⟩ rfl (rr_lt rfl rfl) ?_
        rintro _ _ _ ⟨f2, rfl, rfl, rfl⟩
        rw [hsame name]
        refine GO (rvalues_rt S name (by omega)) rfl ?_
        refine GO (sameTx_rt _ (by have := hrl name; omega)) rfl ?_
        repeat (first | refine p1 ?_ | refine p2 ?_ | refine p3 ?_ | refine p4 ?_)
        have hnd := (ixF_ok S hr).nd
        have hkn : (keysA (ixF S)).length ≤ 600 := by have := hK.1; simpa [keysA] using this
        refine GOH (names_hf S f2 (by omega) hnd) (rr 2 3) rfl rfl ⟨rfl, rfl, trivial⟩ rfl (rr_lt rfl rfl) ?_
        rintro _ _ _ ⟨f3, rfl, rfl, rfl⟩
        have hsr := sortT_rise hnd
        have hsl := sortT_len (keysA (ixF S))
        have hsm2 := sortT_mem (keysA (ixF S))
        generalize sortT (keysA (ixF S)) = K at hsr hsl hsm2
        have hKl := tRow_len K
        refine JK.loopE (α := Nat) (β := Unit) (fun i => ⟨[(0, lss S), (1, .sl 3 (m.map mt)), (8, sNil S), (10, .p 0 0), (12, tls K), (13, gi i)], IX S f3, 2⟩) (fun i => i ≤ K.length) (fun i => K.length - i)
          (fun _ => ⟨[(0, lss S), (1, .sl 3 (m.map mt)), (10, .p 0 0)], IX S f3, 2⟩) (fun _ => True) 0 (rr 2 3) ?_ (Nat.zero_le _) ?_ ?_
        · exact ⟨⟨rfl, rfl, rfl, rfl, rfl, rfl, trivial⟩, ⟨rfl, rfl, trivial⟩, rfl⟩
        · rintro i hi
          replace hi : i ≤ K.length := hi
          refine V ?_
          by_cases hlt : i < K.length
          · refine p1 ?_ (decide_eq_true (by omega))
            have hne : ¬ (sortT (refK K[i] S)).length = 0 := fun h0 => by
              obtain ⟨v, hv⟩ := names_some hr ((hsm2 K[i]).1 (List.getElem_mem hlt))
              rw [← hsame, sortT_len] at h0
              rw [List.length_eq_zero_iff.1 h0] at hv
              cases hv
            have htl := tRow_len (sortT (refK K[i] S))
            have hz : (((tRow (sortT (refK K[i] S))).length : Int) == 0) = false := beq_false_of_ne (by omega)
            refine DRAW [] false (tk [0, 1, 2, 3, 4]) (by kernel_rfl) ?_
            refine ix (h := ?_)
            refine RGO 5 true (al [6] ++ tk [7, 8, 9, 10, 11, 12, 13, 14, 15, 16, 17, 18, 19, 20, 21, 22, 23]) (rvalues_rt S K[i] (by omega)) rfl rfl (by kernel_rfl) ?_
            by_cases hi0 : i = 0
            · subst hi0
              repeat (first | refine p1 ?_ | refine p2 ?_ | refine p3 ?_ | refine p4 ?_)
              refine V ?_
              repeat (first | refine p1 ?_ | refine p2 ?_ | refine p3 ?_ | refine p4 ?_)
              exact ⟨0 + 1, id, ⟨⟨rfl, rfl, rfl, rfl, rfl, succ_gi (by omega), trivial⟩, ⟨rfl, rfl, trivial⟩, rfl⟩, hlt, by show K.length - (0 + 1) < K.length - 0; omega⟩
            · have hgt : decide ((i : Int) > 0) = true := decide_eq_true (by omega)
              repeat (first | refine p1 ?_ | refine p2 ?_ | refine p3 ?_ | refine p4 ?_)
              refine idx (i - 1) (by rw [wrap_id (by omega) (by omega)]; omega) (by omega) ?_
              refine ix (h := ?_)
              have hlt2 : sLt K[i - 1] K[i] = true := List.pairwise_iff_getElem.1 hsr _ _ (by omega) hlt (by omega)
              have hge : (!Op.bytesLess K[i - 1].toList K[i].toList) = false := by rw [show Op.bytesLess K[i - 1].toList K[i].toList = true from hlt2]; rfl
              repeat (first | refine p1 ?_ | refine p2 ?_ | refine p3 ?_ | refine p4 ?_)
              refine V ?_
              repeat (first | refine p1 ?_ | refine p2 ?_ | refine p3 ?_ | refine p4 ?_)
              exact ⟨i + 1, id, ⟨⟨rfl, rfl, rfl, rfl, rfl, succ_gi (by omega), trivial⟩, ⟨rfl, rfl, trivial⟩, rfl⟩, hlt, by show K.length - (i + 1) < K.length - i; omega⟩
          · refine p2 ?_ (decide_eq_false (by omega))
            exact ⟨(), id, ⟨⟨rfl, rfl, rfl, trivial⟩, ⟨rfl, rfl, trivial⟩, rfl⟩, trivial⟩
        · rintro _ _
          refine V ?_
          have hSm2 : Sm2 m := fun x hx => by have := hm2 x hx; omega
          have hmat := match_hf S f3 m (by omega) hr hSm2 (by omega)
          have hask := refAsked_rt m (fun x hx => by have := hm2 x hx; omega) (by omega)
          rcases tf (askedF m) with hk | hk
          · rw [if_pos hk] at hmat
            refine GOH hmat id rfl rfl ⟨rfl, rfl, trivial⟩ rfl (id_lt rfl) ?_
            rintro _ _ _ ⟨f4, rfl, rfl, rfl⟩
            refine GO (hask.bt hk) rfl ?_
            repeat (first | refine p1 ?_ | refine p2 ?_ | refine p3 ?_ | refine p4 ?_)
            have hop := asked_op'' hk
            have hGl := iRow_len (matF S m)
            have hGle := upL_len S.length fun i => allF (S.getD i []) m
            refine JK.loopE (α := Nat) (β := Unit) (fun i => ⟨[(0, lss S), (1, .sl 3 (m.map mt)), (11, .v .nilIface), (14, ils (matF S m)), (15, gi (cntU (fun i => allF (S.getD i []) m) i)), (16, gi i)], [], 0⟩) (fun i => i ≤ S.length) (fun i => S.length - i)
              (fun _ => ⟨[(11, .v .nilIface), (14, ils (matF S m)), (15, gi (cntU (fun i => allF (S.getD i []) m) S.length))], [], 0⟩) (fun _ => True) 0 id ?_ (Nat.zero_le _) ?_ ?_
            · exact ⟨⟨rfl, rfl, rfl, rfl, rfl, rfl, trivial⟩, trivial, rfl⟩
            · rintro i hi
              replace hi : i ≤ S.length := hi
              refine V ?_
              by_cases hlt : i < S.length
              · refine p1 ?_ (decide_eq_true (by omega))
                refine ix (h := ?_)
                have hci := cnt_le (fun i => allF (S.getD i []) m) i
                have hst := cnt_step (fun i => allF (S.getD i []) m) i
                have hSi : S.getD i [] = S[i] := by simp [hlt]
                rw [hSi] at hst
                rcases tf (allF S[i] m) with ha | ha
                · refine GO ((fits_rt S[i] m hop (by omega)).bt ha) rfl ?_
                  have hat := upL_at (p := fun i => allF (S.getD i []) m) hlt (by rw [hSi]; exact ha)
                  have hcl := (List.getElem?_eq_some_iff.1 hat).1
                  rw [if_pos ha] at hst
                  have hc1 : decide (((cntU (fun i => allF (S.getD i []) m) i : Nat) : Int) ≥ ((iRow (matF S m)).length : Int)) = false := decide_eq_false (by rw [hGl]; unfold matF; omega)
                  repeat (first | refine p1 ?_ | refine p2 ?_ | refine p3 ?_ | refine p4 ?_)
                  refine ⟨[gi i], by omega, ?_, ?_⟩
                  · rw [Int.toNat_natCast]
                    show (iRow (upL S.length fun i => allF (S.getD i []) m))[_]? = _
                    unfold iRow
                    rw [List.getElem?_map, hat]
                    rfl
                  have hne : ((i : Int) != (i : Int)) = false := by simp
                  repeat (first | refine p1 ?_ | refine p2 ?_ | refine p3 ?_ | refine p4 ?_)
                  refine ⟨i + 1, id, ⟨⟨rfl, rfl, rfl, rfl, ?_, succ_gi (by omega), trivial⟩, trivial, rfl⟩, hlt, by show S.length - (i + 1) < S.length - i; omega⟩
                  exact congrArg (fun i => some (gi i)) (by rw [wrap_id (by omega) (by omega), hst]; omega)
                · refine GO ((fits_rt S[i] m hop (by omega)).bt ha) rfl ?_
                  rw [if_neg (by rw [ha]; decide), Nat.add_zero] at hst
                  refine ⟨i + 1, id, ⟨⟨rfl, rfl, rfl, rfl, congrArg (fun i : Nat => some (gi i)) hst.symm, succ_gi (by omega), trivial⟩, trivial, rfl⟩, hlt, by show S.length - (i + 1) < S.length - i; omega⟩
              · refine p2 ?_ (decide_eq_false (by omega))
                obtain rfl : i = S.length := by omega
                exact ⟨(), id, ⟨⟨rfl, rfl, rfl, trivial⟩, trivial, rfl⟩, trivial⟩
            · rintro _ _
              refine V ?_
              have hcN := cnt_len S.length fun i => allF (S.getD i []) m
              have heq : (((cntU (fun i => allF (S.getD i []) m) S.length : Nat) : Int) == ((iRow (matF S m)).length : Int)) = true := by rw [hcN, hGl]; unfold matF; simp
              repeat (first | refine p1 ?_ | refine p2 ?_ | refine p3 ?_ | refine p4 ?_)
              exact ⟨heq, rfl⟩
          · rw [if_neg (by rw [hk]; decide)] at hmat
            refine GOH hmat id rfl rfl ⟨rfl, rfl, trivial⟩ rfl (id_lt rfl) ?_
            rintro _ _ _ ⟨f4, rfl, rfl, rfl⟩
            refine GO (hask.bt hk) rfl ?_
            repeat (first | refine p1 ?_ | refine p2 ?_ | refine p3 ?_ | refine p4 ?_)
            refine GO ((bareE_rt (some 1) 1).bt (d := true) rfl) rfl ?_
            repeat (first | refine p1 ?_ | refine p2 ?_ | refine p3 ?_ | refine p4 ?_)
            exact ⟨rfl, rfl⟩
      · obtain ⟨k, rfl⟩ : ∃ k, b = some k := by
          cases b with
          | none => rw [hb i hi hi] at hi2; cases hi2
          | some k => exact ⟨k, rfl⟩
        obtain ⟨q1, q2, q3, q4⟩ := hb
        obtain rfl : k = i := by
          rcases Nat.lt_trichotomy k i with h | h | h
          · rw [hi1 k q1 h] at q3; cases q3
          · exact h
          · rw [q4 i hi h] at hi2; cases hi2
        refine GO ((isAt_rt 1 k 1 k).bt (d := true) (by simp)) rfl ?_
        repeat (first | refine p1 ?_ | refine p2 ?_ | refine p3 ?_ | refine p4 ?_)
        refine GO ((isAt_rt 1 k 1 k).bt (d := true) (by simp)) rfl ?_
        repeat (first | refine p1 ?_ | refine p2 ?_ | refine p3 ?_ | refine p4 ?_)
        exact ⟨rfl, rfl⟩
  · refine GO ((shortM_rt m).bt hm) rfl ?_
    repeat (first | refine p1 ?_ | refine p2 ?_ | refine p3 ?_ | refine p4 ?_)
    exact ⟨rfl, rfl⟩
end Go.Proofs.YtpenlenmpigomaaGreatDoor
/-
  A law's contract, as the row asks for it.
-/
namespace Go.Proofs.YtpenlenmpigomaaGreatDoor
open Go.GK
theorem of_rt {f : FuncId} {gs : List GV} (h : Rt pg f gs (.b true)) : Ct pg f 0 gs [] (Val fun g => g = .b true) := by
  exact h.ct.weak fun g σ' n' hq => ⟨id, g, [], 0, ⟨hq.1.1, rfl, rfl⟩, (ren_id g).symm, trivial, by simp [hq.1.2, idbH, hids, distB, fixB]⟩
end Go.Proofs.YtpenlenmpigomaaGreatDoor
/-
  Arguments by their shapes: labels and matchers.
-/
namespace Go.Proofs.YtpenlenmpigomaaGreatDoor
open Go.GK Go.PL
theorem lb_list : ∀ (rows : List (List GV)), (∀ row ∈ rows, fitsL [.str, .str] row) → ∃ l : List Lb, rows = l.map lb
  | [], _ => ⟨[], rfl⟩
  | row :: rows, h => by
    obtain ⟨l, rfl⟩ := lb_list rows (fun r hr => h r (by simp [hr]))
    have h0 := h row (by simp)
    simp only [fitsL, fits] at h0
    obtain ⟨_, _, rfl, ⟨a, rfl, ha⟩, _, _, rfl, ⟨b, rfl, hb⟩, rfl⟩ := h0
    exact ⟨⟨a, b⟩ :: l, rfl⟩
theorem mt_list : ∀ (rows : List (List GV)), (∀ row ∈ rows, fitsL [.str, .int .i64, .str] row) → ∃ l : List Mt, rows = l.map mt
  | [], _ => ⟨[], rfl⟩
  | row :: rows, h => by
    obtain ⟨l, rfl⟩ := mt_list rows (fun r hr => h r (by simp [hr]))
    have h0 := h row (by simp)
    simp only [fitsL, fits] at h0
    obtain ⟨_, _, rfl, ⟨a, rfl, ha⟩, _, _, rfl, ⟨o, rfl, ho⟩, _, _, rfl, ⟨b, rfl, hb⟩, rfl⟩ := h0
    exact ⟨⟨a, o, b⟩ :: l, rfl⟩
end Go.Proofs.YtpenlenmpigomaaGreatDoor
/-
  Arguments by their shapes: lists of labels of series.
-/
namespace Go.Proofs.YtpenlenmpigomaaGreatDoor
open Go.GK Go.PL
theorem lbss_list : ∀ (rows : List (List GV)), (∀ row ∈ rows, fitsL [.slice [.str, .str]] row) → ∃ l : List (List Lb), rows = l.map fun s => [.sl 2 (s.map lb)]
  | [], _ => ⟨[], rfl⟩
  | row :: rows, h => by
    obtain ⟨l, rfl⟩ := lbss_list rows (fun r hr => h r (by simp [hr]))
    have h0 := h row (by simp)
    simp only [fitsL, fits] at h0
    obtain ⟨_, _, rfl, ⟨b, rfl, hb⟩, rfl⟩ := h0
    obtain ⟨x, rfl⟩ := lb_list b hb
    exact ⟨x :: l, rfl⟩
end Go.Proofs.YtpenlenmpigomaaGreatDoor
/-
  What the row of this seat has: of what is laid the document's Fine and the library's handle of the type error are read.
-/
namespace Go.Proofs.YtpenlenmpigomaaGreatDoor
open Go.GK Go.ChangeShapes Go.WideShapes Go.RowKit

abbrev rowLaid : List (String × DataW Unit) := [("unicode/utf8.acceptRanges", Rows.laid_unicode_utf8_acceptRanges), ("errors.errorType", Rows.laid_errors_errorType), ("raingauge/raingaugeref.Fine", Rows.laid_raingauge_raingaugeref_Fine), ("unicode/utf8.first", Rows.laid_unicode_utf8_first)]
theorem own : ownKnob Tryz.prog.godebug = none := by kernel_rfl
theorem laidOut : laidOutB Tryz.prog = true := by kernel_rfl
theorem gErr : Tryz.prog.globalNamed "errors.errorType" = some 1 := by kernel_rfl
theorem rtErr : (Tryz.prog.cutTypes.find? (·.1 == "internal/reflectlite.rtype")).map (·.2) = some 142 := by kernel_rfl
theorem oneRow : ((List.range 203).filter fun t => Tryz.prog.rowNamed t [101, 114, 114, 111, 114]) = [36] := by kernel_rfl
theorem typesSize : Tryz.prog.types.size = 203 := by kernel_rfl

theorem handle_ok {W : World} (h : handlesMet Tryz.prog [("errors.errorType", Rows.laid_errors_errorType)] W) : W.cell? ⟨1, 0, none⟩ = some rtV := by
  obtain ⟨name, u, ty, e1, e2, e3, e4, e5⟩ := h _ (List.mem_singleton.2 rfl)
  have en : name = [101, 114, 114, 111, 114] := (Option.some.inj e1).symm
  subst en
  obtain rfl := Option.some.inj (rtErr.symm.trans e2)
  have hm : ty ∈ (List.range 203).filter fun t => Tryz.prog.rowNamed t [101, 114, 114, 111, 114] := List.mem_filter.2 ⟨List.mem_range.2 (by rw [← typesSize]; exact e3), e4⟩
  rw [oneRow] at hm
  obtain rfl := List.mem_singleton.1 hm
  have hh : typeHandle Tryz.prog 36 = .pointer (some ⟨5, 36, none⟩) := by kernel_rfl
  rw [hh] at e5
  simpa using World.var?_cell gErr e5 0

theorem gFine : Tryz.prog.globalNamed "raingauge/raingaugeref.Fine" = some 0 := by kernel_rfl
theorem tFine : (Tryz.prog.globals[0]?).map (·.type) = some 27 := by kernel_rfl
theorem fine_cells {W : World} (h : laidMet Tryz.prog [("raingauge/raingaugeref.Fine", Rows.laid_raingauge_raingaugeref_Fine)] W) : ∀ i, W.cell? ⟨0, i, none⟩ = ([0, -1].map (Value.int .i64))[i]? := by
  obtain ⟨ps, ⟨g0, t0, cs0, f0, p0, q0, hg0, ht0, hv0, hd0, _, _⟩, _, _⟩ := h
  obtain rfl := Option.some.inj (gFine.symm.trans hg0)
  obtain rfl := Option.some.inj (tFine.symm.trans ht0)
  obtain ⟨y0, y1, n, hx, hl, h0, h1⟩ := trod_struct2 (Tryz.underlying27) hd0
  obtain ⟨a, ha, rfl, _⟩ := DataW.trod_int (k := .i64) (by kernel_rfl) h0
  obtain ⟨b, hb, rfl, _⟩ := DataW.trod_int (k := .i64) (by kernel_rfl) h1
  have hlen : cs0.toList.length = 2 := hl.trans (by kernel_rfl)
  have hc1 : Tryz.prog.cellsOf 25 = 1 := by kernel_rfl
  have hc2 : Tryz.prog.cellsOf 3 = 1 := by kernel_rfl
  have e : cs0.toList = [.int .i64 a, .int .i64 b] := by
    match hcs : cs0.toList, hlen with
    | [u, v], _ =>
      rw [hcs] at ha hb
      have ha' : (List.drop 0 [u, v]).take (Tryz.prog.cellsOf 25) = [.int .i64 a] := ha
      have hb' : (List.drop 1 [u, v]).take (Tryz.prog.cellsOf 3) = [.int .i64 b] := hb
      rw [hc1] at ha'
      rw [hc2] at hb'
      simp at ha' hb'
      rw [ha', hb']
  simp only [Rows.laid_raingauge_raingaugeref_Fine, Prod.mk.injEq, DataW.agg.injEq, List.cons.injEq, DataW.lit.injEq, Lit.int.injEq, true_and, and_true] at hx
  obtain ⟨⟨rfl, rfl⟩, _⟩ := hx
  intro i
  rw [World.var?_cell hg0 hv0 i]
  have : cs0[i]? = cs0.toList[i]? := by simp
  rw [this, e]
  rfl
theorem gl_okH {W : World} (hL : laidMetH Tryz.prog rowLaid W) : ∀ H : Hid, H.ro = roOf W → GlOk pg H := by
  have hL' : laidMet Tryz.prog [("unicode/utf8.acceptRanges", Rows.laid_unicode_utf8_acceptRanges), ("raingauge/raingaugeref.Fine", Rows.laid_raingauge_raingaugeref_Fine), ("unicode/utf8.first", Rows.laid_unicode_utf8_first)] W ∧ handlesMet Tryz.prog [("errors.errorType", Rows.laid_errors_errorType)] W := hL
  obtain ⟨h, hE⟩ := hL'
  have hE' := handle_ok hE
  have hF := fine_cells (h.filter fun x => x.1 == "raingauge/raingaugeref.Fine")
  intro H hro g gv hg
  have hg' : GK.look gl g = some gv := hg
  unfold gl at hg'
  unfold GK.look at hg'
  cases hb : Nat.beq 0 g with
  | true =>
    rw [hb] at hg'
    have := beq_eq hb
    subst this
    simp only [cond_true, Option.some.injEq] at hg'
    subst hg'
    exact gl_ints (zs := [0, -1]) hro hF
  | false =>
    rw [hb] at hg'
    simp only [cond_false] at hg'
    unfold GK.look at hg'
    cases hb2 : Nat.beq 1 g with
    | false => rw [hb2] at hg'; simp [GK.look] at hg'
    | true =>
      rw [hb2] at hg'
      have := beq_eq hb2
      subst this
      simp only [cond_true, Option.some.injEq] at hg'
      subst hg'
      exact gl_one hro hE'
/-- What is listed, but the handle. -/
abbrev plainLaid : List (String × DataW Unit) := [("unicode/utf8.acceptRanges", Rows.laid_unicode_utf8_acceptRanges), ("raingauge/raingaugeref.Fine", Rows.laid_raingauge_raingaugeref_Fine), ("unicode/utf8.first", Rows.laid_unicode_utf8_first)]
noncomputable def wit (os : Os) : World := (World.doorLaid Tryz.prog 400 os).layVars Tryz.prog plainLaid
theorem wit_os (os : Os) : (wit os).os = os := World.layVars_os _ _ _
theorem wit_fits (os : Os) : (World.doorLaid Tryz.prog 400 os).layFits Tryz.prog plainLaid [] = true := by kernel_rfl
theorem wit_ifaces (os : Os) : (World.doorLaid Tryz.prog 400 os).layIfaces Tryz.prog plainLaid (wit os) = true := by kernel_rfl
theorem wit_handle (os : Os) (args : Array Value) : (rowLaid.filter fun x => x.2.handleName?.isSome).all (handleAtB Tryz.prog ((wit os).forCall (fun _ _ => 0) ⟨#[], args, []⟩).memory) = true := by kernel_rfl
theorem wit_shaped (os : Os) (args : Array Value) : ((wit os).forCall (fun _ _ => 0) ⟨#[], args, []⟩).Shaped Tryz.prog := World.shaped_of_ZipB (by kernel_rfl) (by kernel_rfl)
theorem wit_met (os : Os) (args : Array Value) : laidMetH Tryz.prog rowLaid ((wit os).forCall (fun _ _ => 0) ⟨#[], args, []⟩).memory := by
  have e1 : (plainLaid.filter fun x => (plainLaid.map (·.1)).contains x.1) = plainLaid := List.filter_eq_self.2 fun x hx => List.contains_iff_mem.2 (List.mem_map.2 ⟨x, hx, rfl⟩)
  have e2 : (plainLaid.filter fun x => !(plainLaid.map (·.1)).contains x.1) = [] := List.filter_eq_nil_iff.2 fun x hx => by rw [List.contains_iff_mem.2 (List.mem_map.2 ⟨x, hx, rfl⟩)]; simp
  have h : laidMet Tryz.prog plainLaid (wit os) := laidMet_layVars (w0 := World.doorLaid Tryz.prog 400 os) (plainLaid.map (·.1)) [] (by rw [e1]; rfl) (by rw [e1]; exact wit_fits os) (by rw [e1]; exact wit_ifaces os) (by rw [e2]; exact LaidIn.none)
  have h' : laidMet Tryz.prog plainLaid ((wit os).forCall (fun _ _ => 0) ⟨#[], args, []⟩).memory := h.of_heap (by simp [World.memory, World.forCall, Input.heap])
  exact laidMetH_of_parts h' (wit_handle os args)
end Go.Proofs.YtpenlenmpigomaaGreatDoor
