/-
  Contracts: package index: sets of numbers; what one matcher, and what all, find.
-/
import Derived.Test.YtpenlenmpigomaaGreatDoorK09
import Derived.Test.YtpenlenmpigomaaGreatDoorK06
import Derived.Test.YtpenlenmpigomaaGreatDoorK08
import Derived.Test.YtpenlenmpigomaaGreatDoorK07
import Derived.Test.YtpenlenmpigomaaGreatDoorK05
import Derived.WalkKit
import Derived.LaidEql
import Derived.Stop.Asserts
import Derived.RowKitTokens
namespace Go.Proofs.YtpenlenmpigomaaGreatDoor
open Go.GK Go.PL Go.RowKit Go.Lib
set_option maxRecDepth 100000
theorem ior_rt (a b : List Int) (ha : a.length ≤ 100000) (hb : b.length ≤ 100000) : Rt pg 40 [ils a, ils b] (ils (orF a b)) := by
  refine Rt.of pg_ok Tryz.func40 rfl Tryz.ntmps40 rfl Tryz.results40 Tryz.call40 fun H0 S0 w0 h0 g0 => ?_
  have hc := concatI_hf [a, b] (by simp) (by simp; omega)
  have e : [a, b].flatten = a ++ b := by simp
  rw [e] at hc
  refine GOH hc id rfl rfl ⟨rfl, trivial⟩ rfl (id_lt rfl) ?_
  rintro _ _ _ ⟨rfl, rfl, rfl⟩
  refine GOH (sortI_hf (a ++ b) (by simp; omega)) (fun _ => 1) rfl rfl ⟨rfl, trivial⟩ rfl (fun _ _ => Nat.le_of_ble_eq_true rfl) ?_
  rintro _ _ _ ⟨rfl, rfl, rfl⟩
  refine GOJ (compactI_hf (sortI (a ++ b)) (by simp [sortI]; omega)) (fun _ => 1) rfl rfl ⟨rfl, trivial⟩ rfl (fun _ _ => Nat.le_of_ble_eq_true rfl) ?_
  rintro _ _ _ ⟨rfl, rfl, rfl⟩
  refine FRZ 2 rfl ?_
  exact ⟨rfl, rfl⟩
theorem keepI_rt (a b : List Int) (c : Bool) (ha : a.length ≤ 100000) (hb : b.length ≤ 100000) (hs : Ris b) : Rt pg 39 [ils a, ils b, .v (.bool c)] (ils (keepF a b c)) := by
  refine Rt.of pg_ok Tryz.func39 rfl Tryz.ntmps39 rfl Tryz.results39 Tryz.call39 fun H0 S0 w0 h0 g0 => ?_
  have hla := iRow_len a
  refine JK.ownNil 7 3 1 rfl ?_
  refine JK.loopE (α := Nat) (β := Unit) (fun i => ⟨[(1, ils b), (2, .v (.bool c)), (7, .o 0), (12, ils a), (13, gi (iRow a).length), (14, gi i)], [(0, .row 3 1 (iRow (keepF (a.take i) b c)))], 1⟩) (fun i => i ≤ a.length) (fun i => a.length - i)
    (fun _ => ⟨[(7, .o 0)], [(0, .row 3 1 (iRow (keepF a b c)))], 1⟩) (fun _ => True) 0 id ?_ (Nat.zero_le _) ?_ ?_
  · exact ⟨⟨rfl, rfl, rfl, rfl, rfl, rfl, trivial⟩, ⟨rfl, trivial⟩, rfl⟩
  · rintro i hi
    replace hi : i ≤ a.length := hi
    refine V ?_
    by_cases hlt : i < a.length
    · have hk := keep_len (a.take i) b c
      rw [List.length_take] at hk
      have hst : keepF (a.take (i + 1)) b c = keepF (a.take i) b c ++ if (decide (a[i] ∈ b) == c) = true then [a[i]] else [] := by
        unfold keepF
        rw [List.take_succ_eq_append_getElem hlt, List.filter_append, List.filter_cons]
        rfl
      have hkl := iRow_len (keepF (a.take i) b c)
      refine p1 ?_ (decide_eq_true (by omega))
      refine ix (h := ?_)
      have hb := binSearch_rt b a[i] (by omega) (hs.imp fun h => Int.le_of_lt h)
      rw [List.contains_eq_mem] at hb
      refine GO hb rfl ?_
      rcases tf (decide (a[i] ∈ b) == c) with hc | hc
      · refine p1 ?_ hc
        refine ⟨by simp only [List.length_map, List.length_cons, List.length_nil]; omega, ?_⟩
        refine ⟨i + 1, fun _ => 2, ⟨⟨rfl, rfl, rfl, rfl, rfl, succ_gi (by omega), trivial⟩, ⟨?_, trivial⟩, rfl⟩, hlt, by show a.length - (i + 1) < a.length - i; omega⟩
        refine congrArg (fun r => some (Res.row 3 1 r)) ?_
        rw [hst, if_pos hc]
        exact (List.map_append (l₁ := keepF (a.take i) b c) (l₂ := [a[i]])).symm
      · refine p2 ?_ hc
        refine ⟨i + 1, id, ⟨⟨rfl, rfl, rfl, rfl, rfl, succ_gi (by omega), trivial⟩, ⟨?_, trivial⟩, rfl⟩, hlt, by show a.length - (i + 1) < a.length - i; omega⟩
        refine congrArg (fun r => some (Res.row 3 1 r)) ?_
        rw [hst, if_neg (by rw [hc]; decide), List.append_nil]
    · refine p2 ?_ (decide_eq_false (by omega))
      obtain rfl : i = a.length := by omega
      rw [List.take_length]
      exact ⟨(), id, ⟨⟨rfl, trivial⟩, ⟨rfl, trivial⟩, rfl⟩, trivial⟩
  · rintro _ _
    refine FRZ 0 rfl ?_
    exact ⟨rfl, rfl⟩
theorem and_rt (a b : List Int) (ha : a.length ≤ 100000) (hb : b.length ≤ 100000) (hs : Ris b) : Rt pg 27 [ils a, ils b] (ils (keepF a b true)) := by
  refine Rt.of pg_ok Tryz.func27 rfl Tryz.ntmps27 rfl Tryz.results27 Tryz.call27 fun H0 S0 w0 h0 g0 => ?_
  refine GO (keepI_rt a b true ha hb hs) rfl ?_
  exact ⟨rfl, rfl⟩
theorem not_rt (a b : List Int) (ha : a.length ≤ 100000) (hb : b.length ≤ 100000) (hs : Ris b) : Rt pg 42 [ils a, ils b] (ils (keepF a b false)) := by
  refine Rt.of pg_ok Tryz.func42 rfl Tryz.ntmps42 rfl Tryz.results42 Tryz.call42 fun H0 S0 w0 h0 g0 => ?_
  refine GO (keepI_rt a b false ha hb hs) rfl ?_
  exact ⟨rfl, rfl⟩
/-- An index, whatever its blocks are. -/
def IxQ (S : List (List Lb)) (G : GV) (g : GV) (σ : Heap) (n : Nat) : Prop := ∃ f, g = G ∧ σ = IX S f ∧ n = 2
theorem fin_ix {F : FuncId} {args : List GV} {σ : Heap} {S : List (List Lb)} {G : GV} (hG : idb 0 G = true) (h : Hf pg F 2 args σ (fun g σ' _ => g = G ∧ ∃ f, hlook σ' 0 = some (.blk 59 [gi S.length, .o 1]) ∧ hlook σ' 1 = some (.ab (mapA roF none (encI (ixF S)) f)))) :
    Hf pg F 2 args σ (IxQ S G) := by
  refine h.weak ?_
  rintro g σ' n ⟨rfl, f, h0, h1⟩
  refine ⟨id, g, IX S f, 2, ⟨f, rfl, rfl, rfl⟩, (ren_none _ hG).symm, ⟨h0, h1, trivial⟩, ?_⟩
  rw [idb_up 2 hG]
  rfl
theorem all_up (N : Nat) : upL N (fun _ => true) = (List.range N).map Int.ofNat := by
  unfold upL
  rw [List.filter_eq_self.2 (by simp)]
theorem all_hf (S : List (List Lb)) (f : List Nat) (hl : S.length ≤ 100000) : Hf pg 26 2 [.p 0 0] (IX S f) (IxQ S (ils (upL S.length fun _ => true))) := by
  refine fin_ix rfl (Hf.of pg_ok Tryz.func26 rfl Tryz.ntmps26 rfl Tryz.results26 Tryz.call26 fun H0 S0 w0 h0 g0 => ?_)
  refine JK.ownNil 3 3 1 rfl ?_
  refine JK.loopE (α := Nat) (β := Unit) (fun i => ⟨[(3, .o 2), (8, gi S.length), (9, gi i)], (2, .row 3 1 (iRow ((List.range i).map Int.ofNat))) :: IX S f, 3⟩) (fun i => i ≤ S.length) (fun i => S.length - i)
    (fun _ => ⟨[(3, .o 2)], (2, .row 3 1 (iRow ((List.range S.length).map Int.ofNat))) :: IX S f, 3⟩) (fun _ => True) 0 id ?_ (Nat.zero_le _) ?_ ?_
  · exact ⟨⟨rfl, rfl, rfl, trivial⟩, ⟨rfl, rfl, rfl, trivial⟩, rfl⟩
  · rintro i hi
    replace hi : i ≤ S.length := hi
    refine V ?_
    by_cases hlt : i < S.length
    · refine p1 ?_ (decide_eq_true (by omega))
      refine ⟨by simp [iRow]; omega, ?_⟩
      refine ⟨i + 1, fun k => bif Nat.beq k 2 then 4 else k, ⟨⟨rfl, rfl, succ_gi (by omega), trivial⟩, ⟨?_, rfl, rfl, trivial⟩, rfl⟩, hlt, by show S.length - (i + 1) < S.length - i; omega⟩
      refine congrArg (fun r => some (Res.row 3 1 r)) ?_
      rw [List.range_succ, List.map_append]
      exact (List.map_append (l₁ := (List.range i).map Int.ofNat) (l₂ := [Int.ofNat i])).symm
    · refine p2 ?_ (decide_eq_false (by omega))
      obtain rfl : i = S.length := by omega
      exact ⟨(), id, ⟨⟨rfl, trivial⟩, ⟨rfl, rfl, rfl, trivial⟩, rfl⟩, trivial⟩
  · rintro _ _
    refine FRZ 2 rfl ?_
    rw [all_up]
    exact ⟨rfl, f, rfl, rfl⟩
def mE' (M : In1) : List (Value × GV) := pes ils (enc1 M)
theorem enc1_find {v : ByteArray} : ∀ {M : In1}, v ∈ keysA M → mfind (.string v) (mE' M) = some (ils (getA v [] M))
  | [], h => by cases h
  | (q, r) :: R, h => by
    unfold getA
    by_cases e : q = v
    · rw [if_pos e]
      subst e
      show mfind _ ((Value.string q, ils r) :: mE' R) = _
      rw [mfind, if_pos (vkey_str.2 rfl)]
    · rw [if_neg e]
      show mfind _ ((Value.string q, ils r) :: mE' R) = _
      rw [mfind, if_neg (by rw [vkey_no fun e' => e e'.symm]; decide)]
      refine enc1_find ?_
      simp only [keysA, List.map_cons, List.mem_cons] at h
      rcases h with h | h
      · exact absurd h.symm e
      · exact h
theorem ren_mE' (f : Nat → Nat) (M : In1) : renM f (mE' M) = mE' M := renM_pes _ (fun _ => rfl) f _
theorem idb_mE' (n : Nat) (M : In1) : idbM n (mE' M) = true := idbM_pes _ n (fun _ => rfl) _
theorem one_hf (S : List (List Lb)) (f : List Nat) (m : Mt) (hl : S.length ≤ 50000) (hS : ∀ s ∈ S, rightF s = true) (hop : 0 ≤ m.op ∧ m.op ≤ 3) : Hf pg 28 2 [.p 0 0, .agg (mt m)] (IX S f) (IxQ S (ils (upL S.length fun i => loneF (S.getD i []) m))) := by
  have hrow := row_up hS m.name
  have hsome := fun i (hi : i < S.length) => some_up hS hop hi
  refine fin_ix rfl (Hf.ofJ pg_ok Tryz.func28 rfl Tryz.ntmps28 rfl Tryz.results28 Tryz.call28 fun H0 S0 w0 h0 g0 => ?_)
  refine VM 10 ?_
  refine JK.freezeB 2 rfl rfl ?_
  refine JK.sub 5 (ils []) rfl (Sub.nil 1) ?_
  refine JK.sub 6 (ils []) rfl (Sub.nil 1) ?_
  refine VM 1 ?_
  refine JK.cut (α := List Nat) (fun f' => ⟨[(0, .p 0 0), (3, .r (mt m)), (5, ils (upL S.length fun i => (valsI (ixF S) m.name).any fun v => yesF m v && saysB S i m.name v)), (6, ils (upL S.length fun i => (valsI (ixF S) m.name).any fun v => true && saysB S i m.name v))], IX S f', 3⟩) (fun _ => True) ?_ ?_
  · by_cases hn : m.name ∈ keysA (ixF S)
    · obtain ⟨l1, M, l2, hL, hn1⟩ := splitA hn
      have hM : getA m.name [] (ixF S) = M := by rw [hL, getA_old hn1]
      have hnd : (keysA M).Nodup := (ixF_ok S hS).nd2 (m.name, M) (by rw [hL]; simp)
      have hr : ∀ v, getA v [] M = upL S.length fun i => saysB S i m.name v := fun v => by rw [← hrow v, rowI, hM]
      rw [show valsI (ixF S) m.name = keysA M by rw [valsI, hM]]
      refine JK.focus (F := roF) (kd := none) (l1 := encI l1) (l2 := encI l2) (key := .string m.name) (x := enc1 M) (f := f) 1 (congrArg (fun q => some (Res.ab (mapA roF none q f))) (by rw [hL, encI_mid])) fun m1 m2 f1 f2 hm1 hm2 => ?_
      refine JK.unpackM (kd := none) (es := mE' M) (fp := f1) 3 rfl (fun g => ren_mE' g M) ?_
      refine V ?_
      refine DRAW [3] true (tk [0, 1, 2, 3, 4, 5, 6] ++ al [7]) (by kernel_rfl) ?_
      refine lkS (find_mid (noKeyI hm1 hn1)) ?_
      refine V ?_
      refine JK.loopE (α := List Value × Option Value × List ByteArray) (β := Option Value × List ByteArray) (fun a => ⟨[(0, .p 0 0), (3, .r (mt m)), (5, ils (upL S.length fun i => a.2.2.any fun v => yesF m v && saysB S i m.name v)), (6, ils (upL S.length fun i => a.2.2.any fun v => true && saysB S i m.name v)), (16, .p 6 0)], [(0, .blk 59 [gi S.length, .o 1]), (1, .mp none (mE m1 ++ (Value.string m.name, .o 3) :: mE m2)), (3, .itr 6), (6, .mr none (mE' M) a.1 a.2.1), (4, .ab (bag roF ((m1 ++ m2).map (·.2)) f2))], 7⟩)
        (fun a => (a.1 ++ a.2.2.map Value.string).Perm ((keysA M).map Value.string)) (fun a => a.1.length)
        (fun c => ⟨[(0, .p 0 0), (3, .r (mt m)), (5, ils (upL S.length fun i => c.2.any fun v => yesF m v && saysB S i m.name v)), (6, ils (upL S.length fun i => c.2.any fun v => true && saysB S i m.name v))], [(0, .blk 59 [gi S.length, .o 1]), (1, .mp none (mE m1 ++ (Value.string m.name, .o 3) :: mE m2)), (3, .itr 6), (6, .mr none (mE' M) [] c.1), (4, .ab (bag roF ((m1 ++ m2).map (·.2)) f2))], 7⟩) (fun c => (c.2.map Value.string).Perm ((keysA M).map Value.string)) ((mE' M).map (·.1), none, []) id ?_ ?_ ?_ ?_
      · exact ⟨⟨rfl, rfl, congrArg (fun l => some (ils l)) (upL_false S.length).symm, congrArg (fun l => some (ils l)) (upL_false S.length).symm, rfl, trivial⟩, ⟨rfl, congrArg (fun q => some (Res.mp none q)) (mid_ren (f := id) (Y := 3)).symm, rfl, congrArg (fun q => some (Res.mr none q ((mE' M).map Prod.fst) none)) (ren_mE' id M).symm, rfl, trivial⟩, by simp [idbE, idb, idbL, idbH, idbR, hids, distB, fixB, memB, mid_idb, idb_mE']; try decide⟩
      · show ((mE' M).map (·.1) ++ [].map Value.string).Perm _
        rw [List.map_nil, List.append_nil, show (mE' M).map (·.1) = (keysA M).map Value.string by simp [mE', pes, enc1, keysA]]
      · rintro ⟨lf, cur, vis⟩ hp
        replace hp : (lf ++ vis.map Value.string).Perm ((keysA M).map Value.string) := hp
        refine V ?_
        refine ⟨fun e => ?_, fun kl1 k kl2 g hlk hg => ?_⟩
        · obtain rfl : lf = [] := e
          exact ⟨(cur, vis), id, ⟨⟨rfl, rfl, rfl, rfl, trivial⟩, ⟨rfl, congrArg (fun q => some (Res.mp none q)) (mid_ren (f := id) (Y := 3)).symm, rfl, congrArg (fun q => some (Res.mr none q [] cur)) (ren_mE' id M).symm, rfl, trivial⟩, by simp [idbE, idb, idbL, idbH, idbR, hids, distB, fixB, memB, mid_idb, idb_mE']; try decide⟩, hp⟩
        · obtain rfl : lf = kl1 ++ k :: kl2 := hlk
          obtain ⟨v, hv, rfl⟩ : ∃ v, v ∈ keysA M ∧ Value.string v = k := by
            have hm : k ∈ (keysA M).map Value.string := hp.mem_iff.1 (by simp)
            exact List.mem_map.1 hm
          have hf := enc1_find hv
          obtain rfl : ils (getA v [] M) = g := Option.some.inj (hf.symm.trans hg)
          refine ⟨_, hf, ?_⟩
          have hor : ∀ q : ByteArray → Bool, q v = true → Rt pg 40 [ils (upL S.length fun i => vis.any fun v => q v && saysB S i m.name v), ils (getA v [] M)] (ils (upL S.length fun i => (vis ++ [v]).any fun v => q v && saysB S i m.name v)) := fun q hq => by
            have h := ior_rt (upL S.length fun i => vis.any fun v => q v && saysB S i m.name v) (getA v [] M) (by have := upL_len S.length fun i => vis.any fun v => q v && saysB S i m.name v; omega) (by rw [hr v]; have := upL_len S.length fun i => saysB S i m.name v; omega)
            have e : orF (upL S.length fun i => vis.any fun v => q v && saysB S i m.name v) (getA v [] M) = upL S.length fun i => (vis ++ [v]).any fun v => q v && saysB S i m.name v := by
              rw [hr v, orF_up]
              refine upL_congr fun i _ => ?_
              simp [hq]
            rw [e] at h
            exact h
          refine GOJ (Rq.hf (hor (fun _ => true) rfl)) id rfl rfl trivial rfl (fun _ h => absurd h (Nat.not_lt_zero _)) ?_
          rintro _ _ _ ⟨rfl, rfl, rfl⟩
          refine VM 2 ?_
          refine JK.cut (α := Unit) (fun _ => ⟨[(0, .p 0 0), (3, .r (mt m)), (5, ils (upL S.length fun i => (vis ++ [v]).any fun v => yesF m v && saysB S i m.name v)), (6, ils (upL S.length fun i => (vis ++ [v]).any fun v => true && saysB S i m.name v)), (16, .p 6 0)], [(0, .blk 59 [gi S.length, .o 1]), (1, .mp none (mE m1 ++ (Value.string m.name, .o 3) :: mE m2)), (3, .itr 6), (6, .mr none (mE' M) (kl1 ++ kl2) (some (.string v))), (4, .ab (bag roF ((m1 ++ m2).map (·.2)) f2))], 7⟩) (fun _ => True) ?_ ?_
          · have hsame : yesF m v = false → some (ils (upL S.length fun i => vis.any fun v => yesF m v && saysB S i m.name v)) = some (ils (upL S.length fun i => (vis ++ [v]).any fun v => yesF m v && saysB S i m.name v)) := fun hq => by
              refine congrArg (fun l => some (ils l)) (upL_congr fun i _ => ?_)
              simp [hq]
            refine V ?_
            have h4 : m.op = 0 ∨ m.op = 1 ∨ m.op = 2 ∨ m.op = 3 := by omega
            rcases h4 with hm | hm | hm | hm
            · have e0 : (m.op == 0) = true := by simp [hm]
              have e1 : (m.op == 1) = false := by simp [hm]
              have e2 : (m.op == 2) = false := by simp [hm]
              have e3 : (m.op == 3) = false := by simp [hm]
              have hy : yesF m v = (sEq v m.value) := by simp [yesF, hm]
              rcases tf (sEq v m.value) with hq | hq
              · repeat (first | refine p1 ?_ | refine p2 ?_ | refine p3 ?_ | refine p4 ?_)
                refine GO (hor (yesF m) (hy.trans hq)) rfl ?_
                exact ⟨(), id, ⟨⟨rfl, rfl, rfl, rfl, rfl, trivial⟩, ⟨rfl, congrArg (fun q => some (Res.mp none q)) (mid_ren (f := id) (Y := 3)).symm, rfl, congrArg (fun q => some (Res.mr none q (kl1 ++ kl2) (some (.string v)))) (ren_mE' id M).symm, rfl, trivial⟩, by simp [idbE, idb, idbL, idbH, idbR, hids, distB, fixB, memB, mid_idb, idb_mE']; try decide⟩, trivial⟩
              · repeat (first | refine p1 ?_ | refine p2 ?_ | refine p3 ?_ | refine p4 ?_)
                exact ⟨(), id, ⟨⟨rfl, rfl, hsame (hy.trans hq), rfl, rfl, trivial⟩, ⟨rfl, congrArg (fun q => some (Res.mp none q)) (mid_ren (f := id) (Y := 3)).symm, rfl, congrArg (fun q => some (Res.mr none q (kl1 ++ kl2) (some (.string v)))) (ren_mE' id M).symm, rfl, trivial⟩, by simp [idbE, idb, idbL, idbH, idbR, hids, distB, fixB, memB, mid_idb, idb_mE']; try decide⟩, trivial⟩
            · have e0 : (m.op == 0) = false := by simp [hm]
              have e1 : (m.op == 1) = true := by simp [hm]
              have e2 : (m.op == 2) = false := by simp [hm]
              have e3 : (m.op == 3) = false := by simp [hm]
              have hy : yesF m v = (sEq v m.value) := by simp [yesF, hm]
              rcases tf (sEq v m.value) with hq | hq
              · repeat (first | refine p1 ?_ | refine p2 ?_ | refine p3 ?_ | refine p4 ?_)
                refine GO (hor (yesF m) (hy.trans hq)) rfl ?_
                exact ⟨(), id, ⟨⟨rfl, rfl, rfl, rfl, rfl, trivial⟩, ⟨rfl, congrArg (fun q => some (Res.mp none q)) (mid_ren (f := id) (Y := 3)).symm, rfl, congrArg (fun q => some (Res.mr none q (kl1 ++ kl2) (some (.string v)))) (ren_mE' id M).symm, rfl, trivial⟩, by simp [idbE, idb, idbL, idbH, idbR, hids, distB, fixB, memB, mid_idb, idb_mE']; try decide⟩, trivial⟩
              · repeat (first | refine p1 ?_ | refine p2 ?_ | refine p3 ?_ | refine p4 ?_)
                exact ⟨(), id, ⟨⟨rfl, rfl, hsame (hy.trans hq), rfl, rfl, trivial⟩, ⟨rfl, congrArg (fun q => some (Res.mp none q)) (mid_ren (f := id) (Y := 3)).symm, rfl, congrArg (fun q => some (Res.mr none q (kl1 ++ kl2) (some (.string v)))) (ren_mE' id M).symm, rfl, trivial⟩, by simp [idbE, idb, idbL, idbH, idbR, hids, distB, fixB, memB, mid_idb, idb_mE']; try decide⟩, trivial⟩
            · have e0 : (m.op == 0) = false := by simp [hm]
              have e1 : (m.op == 1) = false := by simp [hm]
              have e2 : (m.op == 2) = true := by simp [hm]
              have e3 : (m.op == 3) = false := by simp [hm]
              have hy : yesF m v = (prefF v m.value) := by simp [yesF, hm]
              rcases tf (prefF v m.value) with hq | hq
              · repeat (first | refine p1 ?_ | refine p2 ?_ | refine p3 ?_ | refine p4 ?_)
                refine GO ((hasPrefix_rt v m.value).bt hq) rfl ?_
                repeat (first | refine p1 ?_ | refine p2 ?_ | refine p3 ?_ | refine p4 ?_)
                refine GO (hor (yesF m) (hy.trans hq)) rfl ?_
                exact ⟨(), id, ⟨⟨rfl, rfl, rfl, rfl, rfl, trivial⟩, ⟨rfl, congrArg (fun q => some (Res.mp none q)) (mid_ren (f := id) (Y := 3)).symm, rfl, congrArg (fun q => some (Res.mr none q (kl1 ++ kl2) (some (.string v)))) (ren_mE' id M).symm, rfl, trivial⟩, by simp [idbE, idb, idbL, idbH, idbR, hids, distB, fixB, memB, mid_idb, idb_mE']; try decide⟩, trivial⟩
              · repeat (first | refine p1 ?_ | refine p2 ?_ | refine p3 ?_ | refine p4 ?_)
                refine GO ((hasPrefix_rt v m.value).bt hq) rfl ?_
                repeat (first | refine p1 ?_ | refine p2 ?_ | refine p3 ?_ | refine p4 ?_)
                exact ⟨(), id, ⟨⟨rfl, rfl, hsame (hy.trans hq), rfl, rfl, trivial⟩, ⟨rfl, congrArg (fun q => some (Res.mp none q)) (mid_ren (f := id) (Y := 3)).symm, rfl, congrArg (fun q => some (Res.mr none q (kl1 ++ kl2) (some (.string v)))) (ren_mE' id M).symm, rfl, trivial⟩, by simp [idbE, idb, idbL, idbH, idbR, hids, distB, fixB, memB, mid_idb, idb_mE']; try decide⟩, trivial⟩
            · have e0 : (m.op == 0) = false := by simp [hm]
              have e1 : (m.op == 1) = false := by simp [hm]
              have e2 : (m.op == 2) = false := by simp [hm]
              have e3 : (m.op == 3) = true := by simp [hm]
              have hy : yesF m v = (prefF v m.value) := by simp [yesF, hm]
              rcases tf (prefF v m.value) with hq | hq
              · repeat (first | refine p1 ?_ | refine p2 ?_ | refine p3 ?_ | refine p4 ?_)
                refine GO ((hasPrefix_rt v m.value).bt hq) rfl ?_
                repeat (first | refine p1 ?_ | refine p2 ?_ | refine p3 ?_ | refine p4 ?_)
                refine GO (hor (yesF m) (hy.trans hq)) rfl ?_
                exact ⟨(), id, ⟨⟨rfl, rfl, rfl, rfl, rfl, trivial⟩, ⟨rfl, congrArg (fun q => some (Res.mp none q)) (mid_ren (f := id) (Y := 3)).symm, rfl, congrArg (fun q => some (Res.mr none q (kl1 ++ kl2) (some (.string v)))) (ren_mE' id M).symm, rfl, trivial⟩, by simp [idbE, idb, idbL, idbH, idbR, hids, distB, fixB, memB, mid_idb, idb_mE']; try decide⟩, trivial⟩
              · repeat (first | refine p1 ?_ | refine p2 ?_ | refine p3 ?_ | refine p4 ?_)
                refine GO ((hasPrefix_rt v m.value).bt hq) rfl ?_
                repeat (first | refine p1 ?_ | refine p2 ?_ | refine p3 ?_ | refine p4 ?_)
                exact ⟨(), id, ⟨⟨rfl, rfl, hsame (hy.trans hq), rfl, rfl, trivial⟩, ⟨rfl, congrArg (fun q => some (Res.mp none q)) (mid_ren (f := id) (Y := 3)).symm, rfl, congrArg (fun q => some (Res.mr none q (kl1 ++ kl2) (some (.string v)))) (ren_mE' id M).symm, rfl, trivial⟩, by simp [idbE, idb, idbL, idbH, idbR, hids, distB, fixB, memB, mid_idb, idb_mE']; try decide⟩, trivial⟩
          · rintro _ _
            refine V ?_
            refine ⟨(kl1 ++ kl2, some (.string v), vis ++ [v]), id, ⟨⟨rfl, rfl, rfl, rfl, rfl, trivial⟩, ⟨rfl, congrArg (fun q => some (Res.mp none q)) (mid_ren (f := id) (Y := 3)).symm, rfl, congrArg (fun q => some (Res.mr none q (kl1 ++ kl2) (some (.string v)))) (ren_mE' id M).symm, rfl, trivial⟩, by simp [idbE, idb, idbL, idbH, idbR, hids, distB, fixB, memB, mid_idb, idb_mE']; try decide⟩, ?_, by show (kl1 ++ kl2).length < (kl1 ++ Value.string v :: kl2).length; simp⟩
            show ((kl1 ++ kl2) ++ (vis ++ [v]).map Value.string).Perm _
            refine List.Perm.trans ?_ hp
            rw [List.map_append, ← List.append_assoc]
            refine (List.perm_append_comm (l₂ := [v].map Value.string)).trans ?_
            show (Value.string v :: ((kl1 ++ kl2) ++ vis.map Value.string)).Perm _
            exact (List.perm_middle (l₁ := kl1)).symm.append_right _ |>.trans (by exact List.Perm.refl _)
      · rintro ⟨c, vis⟩ hp
        have hp2 : vis.Perm (keysA M) := by
          have h2 := List.Perm.map (fun x => match x with | Value.string s => s | _ => ByteArray.empty) (show (vis.map Value.string).Perm ((keysA M).map Value.string) from hp)
          rw [List.map_map, List.map_map] at h2
          have e : ((fun x => match x with | Value.string s => s | _ => ByteArray.empty) ∘ Value.string) = id := rfl
          rw [e, List.map_id, List.map_id] at h2
          exact h2
        have hany : ∀ q : ByteArray → Bool, vis.any q = (keysA M).any q := fun q => by
          rw [Bool.eq_iff_iff, List.any_eq_true, List.any_eq_true]
          exact ⟨fun ⟨x, h1, h2⟩ => ⟨x, hp2.mem_iff.1 h1, h2⟩, fun ⟨x, h1, h2⟩ => ⟨x, hp2.mem_iff.2 h1, h2⟩⟩
        refine JK.unrange 3 6 rfl rfl rfl ?_
        refine JK.pack (fun _ => 3) 1 3 [(0, .mp none (mE' M))] ⟨congrArg (fun q => some (Res.mp none q)) (ren_mE' _ M).symm, trivial⟩ (by simp [idbH, idbR, idb_mE', hids, distB, memB]; try decide) fun g1 => ?_
        refine JK.unfocus (F := roF) (kd := none) (m1 := m1) (m2 := m2) (x := enc1 M) (f1 := g1) (f2 := f2) 1 3 4 rfl rfl rfl fun f' => ?_
        refine V ?_
        refine ⟨f', id, ⟨⟨rfl, rfl, congrArg (fun l => some (ils l)) (upL_congr fun i _ => hany _), congrArg (fun l => some (ils l)) (upL_congr fun i _ => hany _), trivial⟩, ⟨rfl, ?_, trivial⟩, rfl⟩, trivial⟩
        exact congrArg (fun q => some (Res.ab (mapA roF none q f'))) (by rw [hm1, hm2, ← encI_mid, hL])
    · have hM : getA m.name [] (ixF S) = [] := getA_new hn
      rw [show valsI (ixF S) m.name = [] by rw [valsI, hM]; rfl]
      refine JK.mopen (F := roF) (kd := none) (l := encI (ixF S)) (f := f) 1 rfl fun q f2 hq => ?_
      refine V ?_
      refine DRAW [] true (tk [0, 1, 2, 3, 4, 5, 6] ++ al [7]) (by kernel_rfl) ?_
      refine lkN (find_no (noKeyI hq hn)) ?_
      refine V ?_
      refine JK.loopE (α := Unit) (β := Unit) (fun _ => ⟨[(0, .p 0 0), (3, .r (mt m)), (5, ils []), (6, ils []), (16, .p 4 0)], [(0, .blk 59 [gi S.length, .o 1]), (1, .mp none (mE q)), (3, .ab (bag roF (q.map (·.2)) f2)), (4, .ob (.mapIter none 0 #[] 0))], 5⟩) (fun _ => True) (fun _ => 0)
        (fun _ => ⟨[(0, .p 0 0), (3, .r (mt m)), (5, ils []), (6, ils [])], [(0, .blk 59 [gi S.length, .o 1]), (1, .mp none (mE q)), (3, .ab (bag roF (q.map (·.2)) f2))], 4⟩) (fun _ => True) () id ?_ trivial ?_ ?_
      · exact ⟨⟨rfl, rfl, rfl, rfl, rfl, trivial⟩, ⟨rfl, congrArg (fun q => some (Res.mp none q)) (mE_ren id q).symm, rfl, rfl, trivial⟩, by simp [idbE, idb, idbL, idbH, idbR, hids, distB, fixB, memB, mE_idb]; try decide⟩
      · rintro _ _
        refine V ?_
        exact ⟨(), id, ⟨⟨rfl, rfl, rfl, rfl, trivial⟩, ⟨rfl, congrArg (fun q => some (Res.mp none q)) (mE_ren id q).symm, rfl, trivial⟩, by simp [idbE, idb, idbL, idbH, idbR, hids, distB, fixB, memB, mE_idb]; try decide⟩, trivial⟩
      · rintro _ _
        refine JK.mclose (F := roF) (kd := none) (l' := q) (f2 := f2) 1 3 rfl rfl fun f' => ?_
        refine V ?_
        refine ⟨f', id, ⟨⟨rfl, rfl, congrArg (fun l => some (ils l)) (upL_false S.length).symm, congrArg (fun l => some (ils l)) (upL_false S.length).symm, trivial⟩, ⟨rfl, ?_, trivial⟩, rfl⟩, trivial⟩
        exact congrArg (fun q => some (Res.ab (mapA roF none q f'))) hq
  · rintro f' _
    have hlu := fun p => upL_len S.length p
    refine VM 1 ?_
    refine JK.cut (α := List Nat) (fun f' => ⟨[(0, .p 0 0), (3, .r (mt m)), (5, ils (upL S.length fun i => yesF m (lgetF (S.getD i []) m.name)))], IX S f', 3⟩) (fun _ => True) ?_ ?_
    · refine V ?_
      rcases tf (sEq m.value ⟨#[]⟩) with he | he
      · refine p1 ?_ he
        refine GOH (all_hf S f' (by omega)) id rfl rfl ⟨rfl, rfl, trivial⟩ rfl (id_lt rfl) ?_
        rintro _ _ _ ⟨f2, rfl, rfl, rfl⟩
        refine GO (not_rt (upL S.length fun _ => true) (upL S.length fun i => (valsI (ixF S) m.name).any fun v => true && saysB S i m.name v) (by have := hlu fun _ => true; omega) (by have := hlu fun i => (valsI (ixF S) m.name).any fun v => true && saysB S i m.name v; omega) (upL_ris _ _)) rfl ?_
        have hk := keep_len (upL S.length fun _ => true) (upL S.length fun i => (valsI (ixF S) m.name).any fun v => true && saysB S i m.name v) false
        refine GO (ior_rt (upL S.length fun i => (valsI (ixF S) m.name).any fun v => yesF m v && saysB S i m.name v) _ (by have := hlu fun i => (valsI (ixF S) m.name).any fun v => yesF m v && saysB S i m.name v; omega) (by have := hlu fun _ => true; omega)) rfl ?_
        refine ⟨f2, id, ⟨⟨rfl, rfl, ?_, trivial⟩, ⟨rfl, rfl, trivial⟩, rfl⟩, trivial⟩
        refine congrArg (fun l => some (ils l)) ?_
        rw [keep_up, orF_up]
        refine upL_congr fun i hi => ?_
        have := hsome i hi
        rw [he, Bool.true_and] at this
        rw [Bool.true_and]
        exact this
      · refine p2 ?_ he
        refine ⟨f', id, ⟨⟨rfl, rfl, ?_, trivial⟩, ⟨rfl, rfl, trivial⟩, rfl⟩, trivial⟩
        refine congrArg (fun l => some (ils l)) (upL_congr fun i hi => ?_)
        have := hsome i hi
        rw [he, Bool.false_and, Bool.or_false] at this
        exact this
    · rintro f2 _
      refine V ?_
      have hlone : ∀ i, loneF (S.getD i []) m = if m.op = 0 ∨ m.op = 2 then yesF m (lgetF (S.getD i []) m.name) else !yesF m (lgetF (S.getD i []) m.name) := fun i => lone_yes hop
      have h4 : m.op = 0 ∨ m.op = 1 ∨ m.op = 2 ∨ m.op = 3 := by omega
      have fin1 : m.op = 0 ∨ m.op = 2 → upL S.length (fun i => yesF m (lgetF (S.getD i []) m.name)) = upL S.length fun i => loneF (S.getD i []) m := fun h => upL_congr fun i _ => by rw [hlone, if_pos h]
      have fin2 : ¬ (m.op = 0 ∨ m.op = 2) → keepF (upL S.length fun _ => true) (upL S.length fun i => yesF m (lgetF (S.getD i []) m.name)) false = upL S.length fun i => loneF (S.getD i []) m := fun h => by
        rw [keep_up]
        refine upL_congr fun i _ => ?_
        rw [hlone, if_neg h]
        cases yesF m (lgetF (S.getD i []) m.name) <;> rfl
      have hnot := not_rt (upL S.length fun _ => true) (upL S.length fun i => yesF m (lgetF (S.getD i []) m.name)) (by have := hlu fun _ => true; omega) (by have := hlu fun i => yesF m (lgetF (S.getD i []) m.name); omega) (upL_ris _ _)
      rcases h4 with hm | hm | hm | hm
      · have e0 : (m.op == 0) = true := by simp [hm]
        repeat (first | refine p1 ?_ | refine p2 ?_ | refine p3 ?_ | refine p4 ?_)
        rw [← fin1 (.inl hm)]
        exact ⟨rfl, f2, rfl, rfl⟩
      · have e0 : (m.op == 0) = false := by simp [hm]
        have e2 : (m.op == 2) = false := by simp [hm]
        repeat (first | refine p1 ?_ | refine p2 ?_ | refine p3 ?_ | refine p4 ?_)
        refine GOH (all_hf S f2 (by omega)) id rfl rfl ⟨rfl, rfl, trivial⟩ rfl (id_lt rfl) ?_
        rintro _ _ _ ⟨f3, rfl, rfl, rfl⟩
        refine GO hnot rfl ?_
        rw [← fin2 (by omega)]
        exact ⟨rfl, f3, rfl, rfl⟩
      · have e0 : (m.op == 0) = false := by simp [hm]
        have e2 : (m.op == 2) = true := by simp [hm]
        repeat (first | refine p1 ?_ | refine p2 ?_ | refine p3 ?_ | refine p4 ?_)
        rw [← fin1 (.inr hm)]
        exact ⟨rfl, f2, rfl, rfl⟩
      · have e0 : (m.op == 0) = false := by simp [hm]
        have e2 : (m.op == 2) = false := by simp [hm]
        repeat (first | refine p1 ?_ | refine p2 ?_ | refine p3 ?_ | refine p4 ?_)
        refine GOH (all_hf S f2 (by omega)) id rfl rfl ⟨rfl, rfl, trivial⟩ rfl (id_lt rfl) ?_
        rintro _ _ _ ⟨f3, rfl, rfl, rfl⟩
        refine GO hnot rfl ?_
        rw [← fin2 (by omega)]
        exact ⟨rfl, f3, rfl, rfl⟩
theorem asked_op'' {l : List Mt} (h : askedF l = true) : ∀ x ∈ l, 0 ≤ x.op ∧ x.op ≤ 3 := by
  unfold askedF at h
  rw [Bool.and_eq_true, Bool.not_eq_true'] at h
  intro x hx
  obtain ⟨i, hi, rfl⟩ := List.getElem_of_mem hx
  have := anyB_get h.1 i hi
  rw [show l.getD i default = l[i] by simp [hi]] at this
  unfold mbad at this
  simp only [Bool.or_eq_false_iff, Bool.not_eq_false', decide_eq_true_eq] at this
  exact this.2.2
/-- What matchers find. -/
def matF (S : List (List Lb)) (ms : List Mt) : List Int := upL S.length fun i => allF (S.getD i []) ms
theorem allF_snoc (l : List Lb) (ms : List Mt) (i : Nat) (h : i < ms.length) : allF l (ms.take (i + 1)) = (allF l (ms.take i) && loneF l ms[i]) := by
  rw [List.take_succ_eq_append_getElem h]
  unfold allF
  rw [List.all_append]
  simp
theorem mat_step (S : List (List Lb)) (ms : List Mt) (i : Nat) (h : i < ms.length) : keepF (matF S (ms.take i)) (upL S.length fun j => loneF (S.getD j []) ms[i]) true = matF S (ms.take (i + 1)) := by
  unfold matF
  rw [keep_up]
  refine upL_congr fun j _ => ?_
  rw [allF_snoc _ _ _ h]
  cases loneF (S.getD j []) ms[i] <;> rfl
theorem match_hf (S : List (List Lb)) (f : List Nat) (ms : List Mt) (hl : S.length ≤ 50000) (hS : ∀ s ∈ S, rightF s = true) (hm : Sm2 ms) (hml : ms.length ≤ 1000000) : Hf pg 13 2 [.p 0 0, .sl 3 (ms.map mt)] (IX S f) (IxQ S (if askedF ms = true then .tup [ils (matF S ms), .v .nilIface] else .tup [.v (.slice none 0 0), .ifc 25 (gi 1)])) := by
  refine fin_ix (by split <;> rfl) (Hf.of pg_ok Tryz.func13 rfl Tryz.ntmps13 rfl Tryz.results13 Tryz.call13 fun H0 S0 w0 h0 g0 => ?_)
  rcases tf (askedF ms) with hk | hk
  · rw [if_pos hk]
    have hop := asked_op'' hk
    refine GO ((lasked_rt ms hm).bt hk) rfl ?_
    refine GOH (all_hf S f (by omega)) id rfl rfl ⟨rfl, rfl, trivial⟩ rfl (id_lt rfl) ?_
    rintro _ _ _ ⟨f1, rfl, rfl, rfl⟩
    have hll : (ms.map mt).length = ms.length := by simp
    refine JK.loopE (α := Nat × List Nat) (β := List Nat) (fun z => ⟨[(0, .p 0 0), (6, ils (matF S (ms.take z.1))), (15, .sl 3 (ms.map mt)), (16, gi (ms.map mt).length), (17, gi z.1)], IX S z.2, 2⟩) (fun z => z.1 ≤ ms.length) (fun z => ms.length - z.1)
      (fun f => ⟨[(6, ils (matF S ms))], IX S f, 2⟩) (fun _ => True) (0, f1) id ?_ (Nat.zero_le _) ?_ ?_
    · refine ⟨⟨rfl, ?_, rfl, rfl, rfl, trivial⟩, ⟨rfl, rfl, trivial⟩, rfl⟩
      exact congrArg (fun l => some (ils l)) (upL_congr fun i _ => by simp [allF])
    · rintro ⟨i, f2⟩ hi
      replace hi : i ≤ ms.length := hi
      refine V ?_
      by_cases hlt : i < ms.length
      · refine p1 ?_ (decide_eq_true (by dsimp only; omega))
        refine ix (h := ?_)
        have hone := one_hf S f2 ms[i] hl hS (hop _ (List.getElem_mem hlt))
        refine GOH hone id rfl rfl ⟨rfl, rfl, trivial⟩ rfl (id_lt rfl) ?_
        rintro _ _ _ ⟨f3, rfl, rfl, rfl⟩
        refine GO (and_rt (matF S (ms.take i)) (upL S.length fun j => loneF (S.getD j []) ms[i]) (by have := upL_len S.length fun j => allF (S.getD j []) (ms.take i); unfold matF; omega) (by have := upL_len S.length fun j => loneF (S.getD j []) ms[i]; omega) (upL_ris _ _)) rfl ?_
        refine ⟨(i + 1, f3), id, ⟨⟨rfl, ?_, rfl, rfl, succ_gi (by omega), trivial⟩, ⟨rfl, rfl, trivial⟩, rfl⟩, hlt, by show ms.length - (i + 1) < ms.length - i; omega⟩
        exact congrArg (fun l => some (ils l)) (mat_step S ms i hlt)
      · refine p2 ?_ (decide_eq_false (by dsimp only; omega))
        obtain rfl : i = ms.length := by omega
        simp only [List.take_length]
        exact ⟨f2, id, ⟨⟨rfl, trivial⟩, ⟨rfl, rfl, trivial⟩, rfl⟩, trivial⟩
    · rintro f2 _
      refine V ?_
      exact ⟨rfl, f2, rfl, rfl⟩
  · rw [if_neg (by rw [hk]; decide)]
    refine GO ((lasked_rt ms hm).bt hk) rfl ?_
    exact ⟨rfl, f, rfl, rfl⟩
end Go.Proofs.YtpenlenmpigomaaGreatDoor
/-
  Contracts: package index: all names, and all that a name says.
-/
namespace Go.Proofs.YtpenlenmpigomaaGreatDoor
open Go.GK Go.PL Go.RowKit
set_option maxRecDepth 100000
theorem str_perm {a b : List ByteArray} (h : (a.map Value.string).Perm (b.map Value.string)) : a.Perm b := by
  have h2 := List.Perm.map (fun x => match x with | Value.string s => s | _ => ByteArray.empty) h
  rw [List.map_map, List.map_map] at h2
  have e : ((fun x => match x with | Value.string s => s | _ => ByteArray.empty) ∘ Value.string) = id := rfl
  rw [e, List.map_id, List.map_id] at h2
  exact h2
theorem perm_step {l1 l2 l : List Value} {k : Value} {vis : List Value} (h : ((l1 ++ k :: l2) ++ vis).Perm l) : ((l1 ++ l2) ++ (vis ++ [k])).Perm l := by
  refine List.Perm.trans ?_ h
  rw [← List.append_assoc]
  refine (List.perm_append_comm (l₂ := [k])).trans ?_
  show (k :: ((l1 ++ l2) ++ vis)).Perm _
  exact (List.perm_middle (l₁ := l1)).symm.append_right _ |>.trans (by exact List.Perm.refl _)
theorem sort_perm {a b : List ByteArray} (h : a.Perm b) (hb : b.Nodup) : sortT a = sortT b := sortT_ext (h.nodup_iff.2 hb) hb fun _ => h.mem_iff
theorem find_v {α : Type} {k : Value} {g : GV} : ∀ {q : List (Value × α × Value)}, mfind k (mE q) = some g → ∃ u, g = .v u
  | [], h => by cases h
  | x :: r, h => by
    rw [show mE (x :: r) = (x.1, GV.v x.2.2) :: mE r from rfl, mfind] at h
    split at h
    · cases h; exact ⟨_, rfl⟩
    · exact find_v h
theorem names_hf (S : List (List Lb)) (f : List Nat) (hl : (keysA (ixF S)).length ≤ 1000000) (hnd : (keysA (ixF S)).Nodup) : Hf pg 12 2 [.p 0 0] (IX S f) (IxQ S (tls (sortT (keysA (ixF S))))) := by
  refine fin_ix rfl (Hf.ofJ pg_ok Tryz.func12 rfl Tryz.ntmps12 rfl Tryz.results12 Tryz.call12 fun H0 S0 w0 h0 g0 => ?_)
  refine VM 9 ?_
  refine JK.mopen (F := roF) (kd := none) (l := encI (ixF S)) (f := f) 1 rfl fun q f2 hq => ?_
  have hkeys : (mE q).map (·.1) = (keysA (ixF S)).map Value.string := by
    have e1 : (mE q).map (·.1) = (q.map er).map (·.1) := by simp
    rw [e1, hq]
    simp [encI, keysA]
  refine JK.ownNil 3 9 1 rfl ?_
  refine V ?_
  refine JK.loopE (α := List Value × Option Value × List ByteArray) (β := Option Value × List ByteArray) (fun a => ⟨[(3, .o 3), (9, .p 4 0)], [(0, .blk 59 [gi S.length, .o 1]), (1, .itr 4), (4, .mr none (mE q) a.1 a.2.1), (2, .ab (bag roF (q.map (·.2)) f2)), (3, .row 9 1 (tRow a.2.2))], 5⟩)
    (fun a => (a.1 ++ a.2.2.map Value.string).Perm ((keysA (ixF S)).map Value.string)) (fun a => a.1.length)
    (fun c => ⟨[(3, .o 3)], [(0, .blk 59 [gi S.length, .o 1]), (1, .itr 4), (4, .mr none (mE q) [] c.1), (2, .ab (bag roF (q.map (·.2)) f2)), (3, .row 9 1 (tRow c.2))], 5⟩) (fun c => (c.2.map Value.string).Perm ((keysA (ixF S)).map Value.string)) ((mE q).map (·.1), none, []) id ?_ ?_ ?_ ?_
  · exact ⟨⟨rfl, rfl, trivial⟩, ⟨rfl, rfl, congrArg (fun x => some (Res.mr none x ((mE q).map Prod.fst) none)) (mE_ren id q).symm, rfl, rfl, trivial⟩, by simp [idbE, idb, idbL, idbH, idbR, hids, distB, fixB, memB, mid_idb, mE_idb, idb_mE']; try decide⟩
  · show ((mE q).map (·.1) ++ [].map Value.string).Perm _
    rw [List.map_nil, List.append_nil, hkeys]
  · rintro ⟨lf, cur, vis⟩ hp
    replace hp : (lf ++ vis.map Value.string).Perm ((keysA (ixF S)).map Value.string) := hp
    have hlen := hp.length_eq
    simp only [List.length_append, List.length_map] at hlen
    refine V ?_
    refine ⟨fun e => ?_, fun kl1 k kl2 g hlk hg => ?_⟩
    · obtain rfl : lf = [] := e
      exact ⟨(cur, vis), id, ⟨⟨rfl, trivial⟩, ⟨rfl, rfl, congrArg (fun x => some (Res.mr none x [] cur)) (mE_ren id q).symm, rfl, rfl, trivial⟩, by simp [idbE, idb, idbL, idbH, idbR, hids, distB, fixB, memB, mid_idb, mE_idb, idb_mE']; try decide⟩, hp⟩
    · obtain rfl : lf = kl1 ++ k :: kl2 := hlk
      obtain ⟨v, hv, rfl⟩ : ∃ v, v ∈ keysA (ixF S) ∧ Value.string v = k := by
        have hm : k ∈ (keysA (ixF S)).map Value.string := hp.mem_iff.1 (by simp)
        exact List.mem_map.1 hm
      obtain ⟨u, rfl⟩ := find_v hg
      refine ⟨_, hg, ?_⟩
      simp only [List.length_append, List.length_cons] at hlen
      have hkl : (keysA (ixF S)).length = (ixF S).length := by simp [keysA]
      refine ⟨by simp only [tRow, List.length_map, List.length_cons, List.length_nil]; omega, ?_⟩
      refine ⟨(kl1 ++ kl2, some (.string v), vis ++ [v]), fun i => bif Nat.beq i 3 then 6 else i, ⟨⟨rfl, rfl, trivial⟩, ⟨rfl, rfl, congrArg (fun x => some (Res.mr none x (kl1 ++ kl2) (some (.string v)))) (mE_ren _ q).symm, rfl, ?_, trivial⟩, by simp [idbE, idb, idbL, idbH, idbR, hids, distB, fixB, memB, mid_idb, mE_idb, idb_mE']; try decide⟩, ?_, by show (kl1 ++ kl2).length < (kl1 ++ Value.string v :: kl2).length; simp⟩
      · refine congrArg (fun x => some (Res.row 9 1 x)) ?_
        exact (List.map_append (l₁ := vis) (l₂ := [v])).symm
      · show ((kl1 ++ kl2) ++ (vis ++ [v]).map Value.string).Perm _
        rw [List.map_append]
        exact perm_step hp
  · rintro ⟨c, vis⟩ hp
    have hp2 := str_perm (show (vis.map Value.string).Perm ((keysA (ixF S)).map Value.string) from hp)
    have hlen := hp2.length_eq
    refine JK.unrange 1 4 rfl rfl rfl ?_
    refine JK.mclose (F := roF) (kd := none) (l' := q) (f2 := f2) 1 2 rfl rfl fun f' => ?_
    refine V ?_
    refine GOJ (slSortT_hf vis (by omega)) (fun _ => 3) rfl rfl ⟨rfl, trivial⟩ rfl (fun _ _ => Nat.le_of_ble_eq_true rfl) ?_
    rintro _ _ _ ⟨rfl, rfl, rfl⟩
    refine FRZ 3 rfl ?_
    rw [sort_perm hp2 hnd]
    refine ⟨rfl, f', rfl, ?_⟩
    exact congrArg (fun q => some (Res.ab (mapA roF none q f'))) hq
theorem values_hf (S : List (List Lb)) (f : List Nat) (n : ByteArray) (hl : (valsI (ixF S) n).length ≤ 1000000) (hnd : (valsI (ixF S) n).Nodup) : Hf pg 10 2 [.p 0 0, gs n] (IX S f) (IxQ S (tls (sortT (valsI (ixF S) n)))) := by
  refine fin_ix rfl (Hf.ofJ pg_ok Tryz.func10 rfl Tryz.ntmps10 rfl Tryz.results10 Tryz.call10 fun H0 S0 w0 h0 g0 => ?_)
  refine VM 9 ?_
  by_cases hn : n ∈ keysA (ixF S)
  · obtain ⟨l1, M, l2, hL, hn1⟩ := splitA hn
    have hM : getA n [] (ixF S) = M := by rw [hL, getA_old hn1]
    rw [show valsI (ixF S) n = keysA M by rw [valsI, hM]] at hl hnd ⊢
    refine JK.focus (F := roF) (kd := none) (l1 := encI l1) (l2 := encI l2) (key := .string n) (x := enc1 M) (f := f) 1 (congrArg (fun q => some (Res.ab (mapA roF none q f))) (by rw [hL, encI_mid])) fun m1 m2 f1 f2 hm1 hm2 => ?_
    refine JK.unpackM (kd := none) (es := mE' M) (fp := f1) 2 rfl (fun g => ren_mE' g M) ?_
    refine JK.ownNil 5 9 1 rfl ?_
    refine V ?_
    refine lkS (find_mid (noKeyI hm1 hn1)) ?_
    refine JK.loopE (α := List Value × Option Value × List ByteArray) (β := Option Value × List ByteArray) (fun a => ⟨[(5, .o 5), (13, .p 6 0)], [(0, .blk 59 [gi S.length, .o 1]), (1, .mp none (mE m1 ++ (Value.string n, .o 2) :: mE m2)), (2, .itr 6), (6, .mr none (mE' M) a.1 a.2.1), (3, .ab (bag roF ((m1 ++ m2).map (·.2)) f2)), (5, .row 9 1 (tRow a.2.2))], 7⟩)
      (fun a => (a.1 ++ a.2.2.map Value.string).Perm ((keysA M).map Value.string)) (fun a => a.1.length)
      (fun c => ⟨[(5, .o 5)], [(0, .blk 59 [gi S.length, .o 1]), (1, .mp none (mE m1 ++ (Value.string n, .o 2) :: mE m2)), (2, .itr 6), (6, .mr none (mE' M) [] c.1), (3, .ab (bag roF ((m1 ++ m2).map (·.2)) f2)), (5, .row 9 1 (tRow c.2))], 7⟩) (fun c => (c.2.map Value.string).Perm ((keysA M).map Value.string)) ((mE' M).map (·.1), none, []) id ?_ ?_ ?_ ?_
    · exact ⟨⟨rfl, rfl, trivial⟩, ⟨rfl, congrArg (fun q => some (Res.mp none q)) (mid_ren (f := id) (Y := 2)).symm, rfl, congrArg (fun x => some (Res.mr none x ((mE' M).map Prod.fst) none)) (ren_mE' id M).symm, rfl, rfl, trivial⟩, by simp [idbE, idb, idbL, idbH, idbR, hids, distB, fixB, memB, mid_idb, mE_idb, idb_mE']; try decide⟩
    · show ((mE' M).map (·.1) ++ [].map Value.string).Perm _
      rw [List.map_nil, List.append_nil, show (mE' M).map (·.1) = (keysA M).map Value.string by simp [mE', pes, enc1, keysA]]
    · rintro ⟨lf, cur, vis⟩ hp
      replace hp : (lf ++ vis.map Value.string).Perm ((keysA M).map Value.string) := hp
      have hlen := hp.length_eq
      simp only [List.length_append, List.length_map] at hlen
      refine V ?_
      refine ⟨fun e => ?_, fun kl1 k kl2 g hlk hg => ?_⟩
      · obtain rfl : lf = [] := e
        exact ⟨(cur, vis), id, ⟨⟨rfl, trivial⟩, ⟨rfl, congrArg (fun q => some (Res.mp none q)) (mid_ren (f := id) (Y := 2)).symm, rfl, congrArg (fun x => some (Res.mr none x [] cur)) (ren_mE' id M).symm, rfl, rfl, trivial⟩, by simp [idbE, idb, idbL, idbH, idbR, hids, distB, fixB, memB, mid_idb, mE_idb, idb_mE']; try decide⟩, hp⟩
      · obtain rfl : lf = kl1 ++ k :: kl2 := hlk
        obtain ⟨v, hv, rfl⟩ : ∃ v, v ∈ keysA M ∧ Value.string v = k := by
          have hm : k ∈ (keysA M).map Value.string := hp.mem_iff.1 (by simp)
          exact List.mem_map.1 hm
        have hf := enc1_find hv
        obtain rfl : ils (getA v [] M) = g := Option.some.inj (hf.symm.trans hg)
        refine ⟨_, hf, ?_⟩
        simp only [List.length_append, List.length_cons] at hlen
        refine ⟨by simp only [tRow, List.length_map, List.length_cons, List.length_nil]; simp only [keysA, List.length_map] at hl; omega, ?_⟩
        refine ⟨(kl1 ++ kl2, some (.string v), vis ++ [v]), fun i => bif Nat.beq i 5 then 8 else i, ⟨⟨rfl, rfl, trivial⟩, ⟨rfl, congrArg (fun q => some (Res.mp none q)) (mid_ren (f := fun i => bif Nat.beq i 5 then 8 else i) (Y := 2)).symm, rfl, congrArg (fun x => some (Res.mr none x (kl1 ++ kl2) (some (.string v)))) (ren_mE' _ M).symm, rfl, ?_, trivial⟩, by simp [idbE, idb, idbL, idbH, idbR, hids, distB, fixB, memB, mid_idb, mE_idb, idb_mE']; try decide⟩, ?_, by show (kl1 ++ kl2).length < (kl1 ++ Value.string v :: kl2).length; simp⟩
        · refine congrArg (fun x => some (Res.row 9 1 x)) ?_
          exact (List.map_append (l₁ := vis) (l₂ := [v])).symm
        · show ((kl1 ++ kl2) ++ (vis ++ [v]).map Value.string).Perm _
          rw [List.map_append]
          exact perm_step hp
    · rintro ⟨c, vis⟩ hp
      have hp2 := str_perm (show (vis.map Value.string).Perm ((keysA M).map Value.string) from hp)
      have hlen := hp2.length_eq
      refine JK.unrange 2 6 rfl rfl rfl ?_
      refine JK.pack (fun _ => 2) 1 2 [(0, .mp none (mE' M))] ⟨congrArg (fun q => some (Res.mp none q)) (ren_mE' _ M).symm, trivial⟩ (by simp [idbH, idbR, idb_mE', hids, distB, memB]; try decide) fun g1 => ?_
      refine JK.unfocus (F := roF) (kd := none) (m1 := m1) (m2 := m2) (x := enc1 M) (f1 := g1) (f2 := f2) 1 2 3 rfl rfl rfl fun f' => ?_
      refine V ?_
      refine GOJ (slSortT_hf vis (by omega)) (fun _ => 5) rfl rfl ⟨rfl, trivial⟩ rfl (fun _ _ => Nat.le_of_ble_eq_true rfl) ?_
      rintro _ _ _ ⟨rfl, rfl, rfl⟩
      refine FRZ 5 rfl ?_
      rw [sort_perm hp2 hnd]
      refine ⟨rfl, f', rfl, ?_⟩
      exact congrArg (fun q => some (Res.ab (mapA roF none q f'))) (by rw [hm1, hm2, ← encI_mid, hL])
  · have hM : getA n [] (ixF S) = [] := getA_new hn
    rw [show valsI (ixF S) n = [] by rw [valsI, hM]; rfl]
    refine JK.mopen (F := roF) (kd := none) (l := encI (ixF S)) (f := f) 1 rfl fun q f2 hq => ?_
    refine JK.ownNil 5 9 1 rfl ?_
    refine V ?_
    refine lkN (find_no (noKeyI hq hn)) ?_
    refine JK.loopE (α := Unit) (β := Unit) (fun _ => ⟨[(5, .o 3), (13, .p 4 0)], [(0, .blk 59 [gi S.length, .o 1]), (1, .mp none (mE q)), (2, .ab (bag roF (q.map (·.2)) f2)), (3, .row 9 1 []), (4, .ob (.mapIter none 0 #[] 0))], 5⟩) (fun _ => True) (fun _ => 0)
      (fun _ => ⟨[(5, .o 3)], [(0, .blk 59 [gi S.length, .o 1]), (1, .mp none (mE q)), (2, .ab (bag roF (q.map (·.2)) f2)), (3, .row 9 1 [])], 4⟩) (fun _ => True) () id ?_ trivial ?_ ?_
    · exact ⟨⟨rfl, rfl, trivial⟩, ⟨rfl, congrArg (fun q => some (Res.mp none q)) (mE_ren id q).symm, rfl, rfl, rfl, trivial⟩, by simp [idbE, idb, idbL, idbH, idbR, hids, distB, fixB, memB, mid_idb, mE_idb, idb_mE']; try decide⟩
    · rintro _ _
      refine V ?_
      exact ⟨(), id, ⟨⟨rfl, trivial⟩, ⟨rfl, congrArg (fun q => some (Res.mp none q)) (mE_ren id q).symm, rfl, rfl, trivial⟩, by simp [idbE, idb, idbL, idbH, idbR, hids, distB, fixB, memB, mid_idb, mE_idb, idb_mE']; try decide⟩, trivial⟩
    · rintro _ _
      refine JK.mclose (F := roF) (kd := none) (l' := q) (f2 := f2) 1 2 rfl rfl fun f' => ?_
      refine V ?_
      refine GOJ (slSortT_hf [] (by simp)) (fun _ => 3) rfl rfl ⟨rfl, trivial⟩ rfl (fun _ _ => Nat.le_of_ble_eq_true rfl) ?_
      rintro _ _ _ ⟨rfl, rfl, rfl⟩
      refine FRZ 3 rfl ?_
      refine ⟨rfl, f', rfl, ?_⟩
      exact congrArg (fun q => some (Res.ab (mapA roF none q f'))) hq
end Go.Proofs.YtpenlenmpigomaaGreatDoor
/-
  Contracts: the document's Values: all that a name says.
-/
namespace Go.Proofs.YtpenlenmpigomaaGreatDoor
open Go.GK Go.PL Go.RowKit
set_option maxRecDepth 100000
open Classical in
/-- All that a name says, as it comes up. -/
noncomputable def refK (n : ByteArray) : List (List Lb) → List ByteArray := fun S => S.foldl (fun acc s => if lgetF s n = ⟨#[]⟩ ∨ lgetF s n ∈ acc then acc else acc ++ [lgetF s n]) []
open Classical in
theorem refK_snoc (n : ByteArray) (S : List (List Lb)) (s : List Lb) : refK n (S ++ [s]) = if lgetF s n = ⟨#[]⟩ ∨ lgetF s n ∈ refK n S then refK n S else refK n S ++ [lgetF s n] := by
  unfold refK
  rw [List.foldl_append]
  rfl
open Classical in
theorem refK_ok (n : ByteArray) : ∀ (S : List (List Lb)), (refK n S).Nodup ∧ (∀ v, v ∈ refK n S ↔ ∃ s ∈ S, lgetF s n = v ∧ v ≠ ⟨#[]⟩) ∧ (refK n S).length ≤ S.length := by
  intro S
  induction hn : S.length generalizing S with
  | zero =>
    obtain rfl := List.length_eq_zero_iff.1 hn
    exact ⟨by simp [refK], by simp [refK], by simp [refK]⟩
  | succ N ih =>
    obtain ⟨A, s, rfl⟩ : ∃ A s, S = A ++ [s] := by
      cases hl : S.getLast? with
      | none => rw [List.getLast?_eq_none_iff] at hl; subst hl; cases hn
      | some s => exact ⟨_, s, (List.getLast?_eq_some_iff.1 hl).choose_spec⟩
    have hA : A.length = N := by simpa using hn
    obtain ⟨h1, h2, h3⟩ := ih A hA
    rw [refK_snoc]
    by_cases hc : lgetF s n = ⟨#[]⟩ ∨ lgetF s n ∈ refK n A
    · rw [if_pos hc]
      refine ⟨h1, fun v => ?_, by omega⟩
      rw [h2]
      constructor
      · rintro ⟨t, ht, h⟩; exact ⟨t, by simp [ht], h⟩
      · rintro ⟨t, ht, e, hne⟩
        rcases List.mem_append.1 ht with ht | ht
        · exact ⟨t, ht, e, hne⟩
        · rw [List.mem_singleton.1 ht] at e
          rcases hc with hc | hc
          · exact absurd (e.symm.trans hc) hne
          · rw [e] at hc
            exact (h2 v).1 hc
    · rw [if_neg hc]
      rw [not_or] at hc
      refine ⟨List.nodup_append.2 ⟨h1, by simp, fun a ha b hb e => hc.2 ?_⟩, fun v => ?_, by simp; omega⟩
      · rw [List.mem_singleton.1 hb] at e
        rw [← e]; exact ha
      · rw [List.mem_append, h2, List.mem_singleton]
        constructor
        · rintro (⟨t, ht, h⟩ | rfl)
          · exact ⟨t, by simp [ht], h⟩
          · exact ⟨s, by simp, rfl, hc.1⟩
        · rintro ⟨t, ht, e, hne⟩
          rcases List.mem_append.1 ht with ht | ht
          · exact .inl ⟨t, ht, e, hne⟩
          · rw [List.mem_singleton.1 ht] at e
            exact .inr e.symm
section
variable {α : Type}
theorem pfind_no {v : ByteArray} : ∀ {K : List ByteArray} {L : List (Value × α)}, L.map (·.1) = K.map Value.string → (pfind (.string v) L = none ↔ v ∉ K)
  | [], [], _ => by simp [pfind]
  | x :: K, (k, a) :: L, h => by
    simp only [List.map_cons, List.cons.injEq] at h
    obtain ⟨rfl, h2⟩ := h
    rw [pfind, List.mem_cons, not_or]
    by_cases e : v = x
    · subst e
      rw [if_pos (vkey_str.2 rfl)]
      simp
    · rw [if_neg (by rw [vkey_no e]; decide), pfind_no h2]
      exact ⟨fun h => ⟨e, h⟩, fun h => h.2⟩
  | [], _ :: _, h => by simp at h
  | _ :: _, [], h => by simp at h
open Classical in
theorem pput_ks {v : ByteArray} {a : α} : ∀ {K : List ByteArray} {L : List (Value × α)}, L.map (·.1) = K.map Value.string → (pput (.string v) a L).map (·.1) = (if v ∈ K then K else K ++ [v]).map Value.string
  | [], [], _ => by simp [pput]
  | x :: K, (k, b) :: L, h => by
    simp only [List.map_cons, List.cons.injEq] at h
    obtain ⟨rfl, h2⟩ := h
    rw [pput]
    by_cases e : v = x
    · subst e
      rw [if_pos (vkey_str.2 rfl), if_pos (by simp)]
      simp [h2]
    · rw [if_neg (by rw [vkey_no e]; decide)]
      have ih := pput_ks (v := v) (a := a) h2
      rw [List.map_cons, ih]
      by_cases hm : v ∈ K
      · rw [if_pos hm, if_pos (by simp [hm])]; rfl
      · rw [if_neg hm, if_neg (by simp [hm, e])]; rfl
  | [], _ :: _, h => by simp at h
  | _ :: _, [], h => by simp at h
end
def eC (L : List (Value × Int)) : List (Value × GV) := pes gi L
theorem eC_ren (f : Nat → Nat) (L : List (Value × Int)) : renM f (eC L) = eC L := renM_pes _ (fun _ => rfl) f _
theorem eC_idb (n : Nat) (L : List (Value × Int)) : idbM n (eC L) = true := idbM_pes _ n (fun _ => rfl) _
abbrev sNil (S : List (List Lb)) : GV := .sl 2 (S.map fun s => [.sl 2 (s.map lb), .v (.slice none 0 0)])
theorem rvalues_rt (S : List (List Lb)) (n : ByteArray) (hl : S.length ≤ 1000000) : Rt pg 11 [sNil S, gs n] (tls (sortT (refK n S))) := by
  have hKl : ∀ i, (refK n (S.take i)).length ≤ i := fun i => Nat.le_trans (refK_ok n (S.take i)).2.2 (by simp; omega)
  refine Rt.of pg_ok Tryz.func11 rfl Tryz.ntmps11 rfl Tryz.results11 Tryz.call11 fun H0 S0 w0 h0 g0 => ?_
  have hll : (S.map fun s => [GV.sl 2 (s.map lb), GV.v (.slice none 0 0)]).length = S.length := by simp
  refine JK.loopE (α := Nat × List (Value × Int)) (β := List (Value × Int)) (fun z => ⟨[(1, gs n), (5, .o 0), (12, sNil S), (13, gi S.length), (14, gi z.1)], [(0, .mp none (eC z.2))], 1⟩) (fun z => z.1 ≤ S.length ∧ z.2.map (·.1) = (refK n (S.take z.1)).map Value.string) (fun z => S.length - z.1)
    (fun L => ⟨[(5, .o 0)], [(0, .mp none (eC L))], 1⟩) (fun L => L.map (·.1) = (refK n S).map Value.string) (0, []) id ?_ ⟨Nat.zero_le _, rfl⟩ ?_ ?_
  · exact ⟨⟨rfl, rfl, rfl, congrArg (fun n : Nat => some (gi n)) hll, rfl, trivial⟩, ⟨rfl, trivial⟩, rfl⟩
  · rintro ⟨i, L⟩ ⟨hi, hK⟩
    simp only at hi hK
    refine V ?_
    by_cases hlt : i < S.length
    · refine p1 ?_ (decide_eq_true (by dsimp only; omega))
      refine ix (h := ?_)
      refine GO (tell_rt S[i] n) rfl ?_
      have hst := refK_snoc n (S.take i) S[i]
      rw [← List.take_succ_eq_append_getElem hlt] at hst
      rcases tf (sEq (lgetF S[i] n) ⟨#[]⟩) with he | he
      · refine p2 ?_ (by rw [show ((lgetF S[i] n).toList == (⟨#[]⟩ : ByteArray).toList) = true from he]; rfl)
        rw [if_pos (.inl (sEq_iff.1 he))] at hst
        refine ⟨(i + 1, L), id, ⟨⟨rfl, rfl, rfl, rfl, succ_gi (by omega), trivial⟩, ⟨congrArg (fun q => some (Res.mp none q)) (eC_ren id L).symm, trivial⟩, by simp [idbE, idb, idbL, idbH, idbR, eC_idb, hids, distB, fixB, memB]; try decide⟩, ⟨hlt, by rw [hst]; exact hK⟩, by simp only; omega⟩
      · refine p1 ?_ (by rw [show ((lgetF S[i] n).toList == (⟨#[]⟩ : ByteArray).toList) = false from he]; rfl)
        have hput : ∀ a : Int, (pput (.string (lgetF S[i] n)) a L).map (·.1) = (refK n (S.take (i + 1))).map Value.string := fun a => by
          rw [pput_ks hK, hst]
          by_cases hm : lgetF S[i] n ∈ refK n (S.take i)
          · rw [if_pos hm, if_pos (.inr hm)]
          · rw [if_neg hm, if_neg (not_or.2 ⟨sEq_false.1 he, hm⟩)]
        cases hf : pfind (.string (lgetF S[i] n)) L with
        | none =>
          refine lkN ((mfind_pes gi _ L).trans (by rw [hf]; rfl)) ?_
          refine ⟨(i + 1, pput (.string (lgetF S[i] n)) (IntKind.i64.wrap (0 + 1)) L), id, ⟨⟨rfl, rfl, rfl, rfl, succ_gi (by omega), trivial⟩, ⟨congrArg (fun q => some (Res.mp none q)) ((mput_pes gi _ _ L).trans (eC_ren id _).symm), trivial⟩, by simp [idbE, idb, idbL, idbH, idbR, eC_idb, hids, distB, fixB, memB]; try decide⟩, ⟨hlt, hput _⟩, by simp only; omega⟩
        | some c =>
          refine lkS ((mfind_pes gi _ L).trans (by rw [hf]; rfl)) ?_
          refine ⟨(i + 1, pput (.string (lgetF S[i] n)) (IntKind.i64.wrap (c + 1)) L), id, ⟨⟨rfl, rfl, rfl, rfl, succ_gi (by omega), trivial⟩, ⟨congrArg (fun q => some (Res.mp none q)) ((mput_pes gi _ _ L).trans (eC_ren id _).symm), trivial⟩, by simp [idbE, idb, idbL, idbH, idbR, eC_idb, hids, distB, fixB, memB]; try decide⟩, ⟨hlt, hput _⟩, by simp only; omega⟩
    · refine p2 ?_ (decide_eq_false (by dsimp only; omega))
      obtain rfl : i = S.length := by omega
      rw [List.take_length] at hK
      exact ⟨L, id, ⟨⟨rfl, trivial⟩, ⟨congrArg (fun q => some (Res.mp none q)) (eC_ren id L).symm, trivial⟩, by simp [idbE, idb, idbL, idbH, idbR, eC_idb, hids, distB, fixB, memB]; try decide⟩, hK⟩
  · rintro L hK
    replace hK : L.map (·.1) = (refK n S).map Value.string := hK
    refine VM 4 ?_
    refine JK.ownNil 9 9 1 rfl ?_
    refine V ?_
    have hnd := (refK_ok n S).1
    have hkl := (refK_ok n S).2.2
    refine JK.loopE (α := List Value × Option Value × List ByteArray) (β := Option Value × List ByteArray) (fun a => ⟨[(9, .o 1), (30, .p 2 0)], [(0, .itr 2), (2, .mr none (eC L) a.1 a.2.1), (1, .row 9 1 (tRow a.2.2))], 3⟩)
      (fun a => (a.1 ++ a.2.2.map Value.string).Perm ((refK n S).map Value.string)) (fun a => a.1.length)
      (fun c => ⟨[(9, .o 1)], [(0, .itr 2), (2, .mr none (eC L) [] c.1), (1, .row 9 1 (tRow c.2))], 3⟩) (fun c => (c.2.map Value.string).Perm ((refK n S).map Value.string)) ((eC L).map (·.1), none, []) id ?_ ?_ ?_ ?_
    · exact ⟨⟨rfl, rfl, trivial⟩, ⟨rfl, congrArg (fun x => some (Res.mr none x ((eC L).map Prod.fst) none)) (eC_ren id L).symm, rfl, trivial⟩, by simp [idbE, idb, idbL, idbH, idbR, eC_idb, hids, distB, fixB, memB]; try decide⟩
    · show ((eC L).map (·.1) ++ [].map Value.string).Perm _
      rw [List.map_nil, List.append_nil, show (eC L).map (·.1) = L.map (·.1) by simp [eC, pes], hK]
    · rintro ⟨lf, cur, vis⟩ hp
      replace hp : (lf ++ vis.map Value.string).Perm ((refK n S).map Value.string) := hp
      have hlen := hp.length_eq
      simp only [List.length_append, List.length_map] at hlen
      refine V ?_
      refine ⟨fun e => ?_, fun kl1 k kl2 g hlk hg => ?_⟩
      · obtain rfl : lf = [] := e
        exact ⟨(cur, vis), id, ⟨⟨rfl, trivial⟩, ⟨rfl, congrArg (fun x => some (Res.mr none x [] cur)) (eC_ren id L).symm, rfl, trivial⟩, by simp [idbE, idb, idbL, idbH, idbR, eC_idb, hids, distB, fixB, memB]; try decide⟩, hp⟩
      · obtain rfl : lf = kl1 ++ k :: kl2 := hlk
        obtain ⟨v, hv, rfl⟩ : ∃ v, v ∈ refK n S ∧ Value.string v = k := by
          have hm : k ∈ (refK n S).map Value.string := hp.mem_iff.1 (by simp)
          exact List.mem_map.1 hm
        obtain ⟨c, rfl⟩ : ∃ c, g = gi c := by
          have := (mfind_pes gi (.string v) L).symm.trans hg
          cases hf : pfind (.string v) L with
          | none => rw [hf] at this; cases this
          | some c => rw [hf] at this; cases this; exact ⟨c, rfl⟩
        refine ⟨_, hg, ?_⟩
        simp only [List.length_append, List.length_cons] at hlen
        refine ⟨by simp only [tRow, List.length_map, List.length_cons, List.length_nil]; omega, ?_⟩
        refine ⟨(kl1 ++ kl2, some (.string v), vis ++ [v]), fun i => bif Nat.beq i 1 then 4 else i, ⟨⟨rfl, rfl, trivial⟩, ⟨rfl, congrArg (fun x => some (Res.mr none x (kl1 ++ kl2) (some (.string v)))) (eC_ren _ L).symm, ?_, trivial⟩, by simp [idbE, idb, idbL, idbH, idbR, eC_idb, hids, distB, fixB, memB]; try decide⟩, ?_, by show (kl1 ++ kl2).length < (kl1 ++ Value.string v :: kl2).length; simp⟩
        · refine congrArg (fun x => some (Res.row 9 1 x)) ?_
          exact (List.map_append (l₁ := vis) (l₂ := [v])).symm
        · show ((kl1 ++ kl2) ++ (vis ++ [v]).map Value.string).Perm _
          rw [List.map_append]
          exact perm_step hp
    · rintro ⟨c, vis⟩ hp
      have hp2 := str_perm (show (vis.map Value.string).Perm ((refK n S).map Value.string) from hp)
      have hlen := hp2.length_eq
      refine JK.unrange 0 2 rfl rfl rfl ?_
      refine V ?_
      refine GOJ (stringsT_hf vis (by omega)) (fun _ => 1) rfl rfl ⟨rfl, trivial⟩ rfl (fun _ _ => Nat.le_of_ble_eq_true rfl) ?_
      rintro _ _ _ ⟨rfl, rfl, rfl⟩
      refine FRZ 1 rfl ?_
      rw [sort_perm hp2 hnd]
      exact ⟨rfl, rfl⟩
end Go.Proofs.YtpenlenmpigomaaGreatDoor
/-
  Contracts: the document's answer on labels: order, text, Only, Fits; short labels, the same labels.
-/
namespace Go.Proofs.YtpenlenmpigomaaGreatDoor
open Go.GK Go.PL Go.RowKit
set_option maxRecDepth 100000
theorem eqLb (a b : Lb) : (sEq a.name b.name && (sEq a.value b.value && true)) = decide (cmpL1 a b = 0) := by
  rw [Bool.eq_iff_iff, decide_eq_true_iff, cmpL1_is.eq0, Bool.and_true, Bool.and_eq_true, sEq_iff, sEq_iff]
  obtain ⟨a1, a2⟩ := a
  obtain ⟨b1, b2⟩ := b
  simp
theorem fits_rt (l : List Lb) (m : List Mt) (hm : ∀ x ∈ m, 0 ≤ x.op ∧ x.op ≤ 3) (hml : m.length ≤ 1000000) : Rt pg 16 [.sl 2 (l.map lb), .sl 3 (m.map mt)] (.b (allF l m)) := by
  refine Rt.of pg_ok Tryz.func16 rfl Tryz.ntmps16 rfl Tryz.results16 Tryz.call16 fun H0 S0 w0 h0 g0 => ?_
  have hll : (m.map mt).length = m.length := by simp
  refine JK.loop (α := Nat) (fun i => ⟨[(0, .sl 2 (l.map lb)), (10, .sl 3 (m.map mt)), (11, gi (m.map mt).length), (12, gi i)], [], 0⟩) (fun i => i ≤ m.length ∧ allF l (m.take i) = true) (fun i => m.length - i) 0 id ?_ ⟨Nat.zero_le _, rfl⟩ ?_
  · exact ⟨⟨rfl, rfl, rfl, rfl, trivial⟩, trivial, rfl⟩
  · rintro i ⟨hi, hgood⟩
    refine V ?_
    by_cases hlt : i < m.length
    · have hop := hm m[i] (List.getElem_mem hlt)
      have hsn : allF l (m.take (i + 1)) = loneF l m[i] := by
        unfold allF at hgood ⊢
        rw [List.take_succ_eq_append_getElem hlt, List.all_append, hgood]
        simp
      have hno : loneF l m[i] = false → allF l m = false := fun h => by
        unfold allF
        rw [List.all_eq_false]
        exact ⟨m[i], List.getElem_mem hlt, by rw [h]; decide⟩
      have fin : ∀ (c : Bool), c = loneF l m[i] → (c = true → allF l (m.take (i + 1)) = true) ∧ (c = false → allF l m = false) := fun c e => ⟨fun h => by rw [hsn, ← e, h], fun h => hno (by rw [← e, h])⟩
      refine p1 ?_
      refine ix (h := ?_)
      refine GO (tell_rt l m[i].name) rfl ?_
      refine ⟨by kernel_rfl, ?_⟩
      have hpref : ∀ s p : ByteArray, p.size ≤ s.size → prefF s p = sEq (s.extract 0 p.size) p := fun s p h => by unfold prefF; rw [decide_eq_true h]; rfl
      have hpref0 : ∀ s p : ByteArray, ¬ p.size ≤ s.size → prefF s p = false := fun s p h => by unfold prefF; rw [decide_eq_false h]; rfl
      have h4 : m[i].op = 0 ∨ m[i].op = 1 ∨ m[i].op = 2 ∨ m[i].op = 3 := by omega
      by_cases hp : m[i].value.size ≤ (lgetF l m[i].name).size
      · have hpr := hpref _ _ hp
        refine p1 ?_
        refine ⟨by omega, by omega, by omega, ?_⟩
        rcases h4 with h4 | h4 | h4 | h4
        · cases hc : sEq (lgetF l m[i].name) m[i].value with
          | true =>
            have hone : loneF l m[i] = true := by unfold loneF; rw [if_pos h4]; exact hc
            refine ⟨_, by omega, by omega, (by rw [h4]; rfl), ?_⟩
            have hc2 : (!(sEq (lgetF l m[i].name) m[i].value)) = false := by rw [hc]; rfl
            have hc3 : (!(!(sEq (lgetF l m[i].name) m[i].value))) = true := by rw [hc]; rfl
            repeat (first | refine p1 ?_ | refine p2 ?_ | refine p3 ?_ | refine p4 ?_ | refine p1 ?_ hc2 | refine p2 ?_ hc2 | refine p1 ?_ hc3 | refine p2 ?_ hc3)
            exact ⟨i + 1, id, ⟨⟨rfl, rfl, rfl, succ_gi (by omega), trivial⟩, trivial, rfl⟩, ⟨hlt, hsn.trans hone⟩, by show m.length - (i + 1) < m.length - i; omega⟩
          | false =>
            have hone : loneF l m[i] = false := by unfold loneF; rw [if_pos h4]; exact hc
            refine ⟨_, by omega, by omega, (by rw [h4]; rfl), ?_⟩
            have hc2 : (!(sEq (lgetF l m[i].name) m[i].value)) = true := by rw [hc]; rfl
            have hc3 : (!(!(sEq (lgetF l m[i].name) m[i].value))) = false := by rw [hc]; rfl
            repeat (first | refine p1 ?_ | refine p2 ?_ | refine p3 ?_ | refine p4 ?_ | refine p1 ?_ hc2 | refine p2 ?_ hc2 | refine p1 ?_ hc3 | refine p2 ?_ hc3)
            exact ⟨(hno hone).symm, rfl⟩
        · cases hc : sEq (lgetF l m[i].name) m[i].value with
          | true =>
            have hone : loneF l m[i] = false := by unfold loneF; rw [if_neg (by omega), if_pos h4, hc]; rfl
            refine ⟨_, by omega, by omega, (by rw [h4]; rfl), ?_⟩
            have hc2 : (!(sEq (lgetF l m[i].name) m[i].value)) = false := by rw [hc]; rfl
            have hc3 : (!(!(sEq (lgetF l m[i].name) m[i].value))) = true := by rw [hc]; rfl
            repeat (first | refine p1 ?_ | refine p2 ?_ | refine p3 ?_ | refine p4 ?_ | refine p1 ?_ hc2 | refine p2 ?_ hc2 | refine p1 ?_ hc3 | refine p2 ?_ hc3)
            exact ⟨(hno hone).symm, rfl⟩
          | false =>
            have hone : loneF l m[i] = true := by unfold loneF; rw [if_neg (by omega), if_pos h4, hc]; rfl
            refine ⟨_, by omega, by omega, (by rw [h4]; rfl), ?_⟩
            have hc2 : (!(sEq (lgetF l m[i].name) m[i].value)) = true := by rw [hc]; rfl
            have hc3 : (!(!(sEq (lgetF l m[i].name) m[i].value))) = false := by rw [hc]; rfl
            repeat (first | refine p1 ?_ | refine p2 ?_ | refine p3 ?_ | refine p4 ?_ | refine p1 ?_ hc2 | refine p2 ?_ hc2 | refine p1 ?_ hc3 | refine p2 ?_ hc3)
            exact ⟨i + 1, id, ⟨⟨rfl, rfl, rfl, succ_gi (by omega), trivial⟩, trivial, rfl⟩, ⟨hlt, hsn.trans hone⟩, by show m.length - (i + 1) < m.length - i; omega⟩
        · cases hc : sEq ((lgetF l m[i].name).extract 0 m[i].value.size) m[i].value with
          | true =>
            have hone : loneF l m[i] = true := by unfold loneF; rw [if_neg (by omega), if_neg (by omega), if_pos h4, hpr, hc]
            refine ⟨_, by omega, by omega, (by rw [h4]; rfl), ?_⟩
            have hc2 : (!(sEq ((lgetF l m[i].name).extract 0 m[i].value.size) m[i].value)) = false := by rw [hc]; rfl
            have hc3 : (!(!(sEq ((lgetF l m[i].name).extract 0 m[i].value.size) m[i].value))) = true := by rw [hc]; rfl
            repeat (first | refine p1 ?_ | refine p2 ?_ | refine p3 ?_ | refine p4 ?_ | refine p1 ?_ hc2 | refine p2 ?_ hc2 | refine p1 ?_ hc3 | refine p2 ?_ hc3)
            exact ⟨i + 1, id, ⟨⟨rfl, rfl, rfl, succ_gi (by omega), trivial⟩, trivial, rfl⟩, ⟨hlt, hsn.trans hone⟩, by show m.length - (i + 1) < m.length - i; omega⟩
          | false =>
            have hone : loneF l m[i] = false := by unfold loneF; rw [if_neg (by omega), if_neg (by omega), if_pos h4, hpr, hc]
            refine ⟨_, by omega, by omega, (by rw [h4]; rfl), ?_⟩
            have hc2 : (!(sEq ((lgetF l m[i].name).extract 0 m[i].value.size) m[i].value)) = true := by rw [hc]; rfl
            have hc3 : (!(!(sEq ((lgetF l m[i].name).extract 0 m[i].value.size) m[i].value))) = false := by rw [hc]; rfl
            repeat (first | refine p1 ?_ | refine p2 ?_ | refine p3 ?_ | refine p4 ?_ | refine p1 ?_ hc2 | refine p2 ?_ hc2 | refine p1 ?_ hc3 | refine p2 ?_ hc3)
            exact ⟨(hno hone).symm, rfl⟩
        · cases hc : sEq ((lgetF l m[i].name).extract 0 m[i].value.size) m[i].value with
          | true =>
            have hone : loneF l m[i] = false := by unfold loneF; rw [if_neg (by omega), if_neg (by omega), if_neg (by omega), hpr, hc]; rfl
            refine ⟨_, by omega, by omega, (by rw [h4]; rfl), ?_⟩
            have hc2 : (!(sEq ((lgetF l m[i].name).extract 0 m[i].value.size) m[i].value)) = false := by rw [hc]; rfl
            have hc3 : (!(!(sEq ((lgetF l m[i].name).extract 0 m[i].value.size) m[i].value))) = true := by rw [hc]; rfl
            repeat (first | refine p1 ?_ | refine p2 ?_ | refine p3 ?_ | refine p4 ?_ | refine p1 ?_ hc2 | refine p2 ?_ hc2 | refine p1 ?_ hc3 | refine p2 ?_ hc3)
            exact ⟨(hno hone).symm, rfl⟩
          | false =>
            have hone : loneF l m[i] = true := by unfold loneF; rw [if_neg (by omega), if_neg (by omega), if_neg (by omega), hpr, hc]; rfl
            refine ⟨_, by omega, by omega, (by rw [h4]; rfl), ?_⟩
            have hc2 : (!(sEq ((lgetF l m[i].name).extract 0 m[i].value.size) m[i].value)) = true := by rw [hc]; rfl
            have hc3 : (!(!(sEq ((lgetF l m[i].name).extract 0 m[i].value.size) m[i].value))) = false := by rw [hc]; rfl
            repeat (first | refine p1 ?_ | refine p2 ?_ | refine p3 ?_ | refine p4 ?_ | refine p1 ?_ hc2 | refine p2 ?_ hc2 | refine p1 ?_ hc3 | refine p2 ?_ hc3)
            exact ⟨i + 1, id, ⟨⟨rfl, rfl, rfl, succ_gi (by omega), trivial⟩, trivial, rfl⟩, ⟨hlt, hsn.trans hone⟩, by show m.length - (i + 1) < m.length - i; omega⟩
      · have hpr := hpref0 _ _ hp
        refine p2 ?_
        rcases h4 with h4 | h4 | h4 | h4
        · cases hc : sEq (lgetF l m[i].name) m[i].value with
          | true =>
            have hone : loneF l m[i] = true := by unfold loneF; rw [if_pos h4]; exact hc
            refine ⟨_, by omega, by omega, (by rw [h4]; rfl), ?_⟩
            have hc2 : (!(sEq (lgetF l m[i].name) m[i].value)) = false := by rw [hc]; rfl
            have hc3 : (!(!(sEq (lgetF l m[i].name) m[i].value))) = true := by rw [hc]; rfl
            repeat (first | refine p1 ?_ | refine p2 ?_ | refine p3 ?_ | refine p4 ?_)
            exact ⟨i + 1, id, ⟨⟨rfl, rfl, rfl, succ_gi (by omega), trivial⟩, trivial, rfl⟩, ⟨hlt, hsn.trans hone⟩, by show m.length - (i + 1) < m.length - i; omega⟩
          | false =>
            have hone : loneF l m[i] = false := by unfold loneF; rw [if_pos h4]; exact hc
            refine ⟨_, by omega, by omega, (by rw [h4]; rfl), ?_⟩
            have hc2 : (!(sEq (lgetF l m[i].name) m[i].value)) = true := by rw [hc]; rfl
            have hc3 : (!(!(sEq (lgetF l m[i].name) m[i].value))) = false := by rw [hc]; rfl
            repeat (first | refine p1 ?_ | refine p2 ?_ | refine p3 ?_ | refine p4 ?_)
            exact ⟨(hno hone).symm, rfl⟩
        · cases hc : sEq (lgetF l m[i].name) m[i].value with
          | true =>
            have hone : loneF l m[i] = false := by unfold loneF; rw [if_neg (by omega), if_pos h4, hc]; rfl
            refine ⟨_, by omega, by omega, (by rw [h4]; rfl), ?_⟩
            have hc2 : (!(sEq (lgetF l m[i].name) m[i].value)) = false := by rw [hc]; rfl
            have hc3 : (!(!(sEq (lgetF l m[i].name) m[i].value))) = true := by rw [hc]; rfl
            repeat (first | refine p1 ?_ | refine p2 ?_ | refine p3 ?_ | refine p4 ?_)
            exact ⟨(hno hone).symm, rfl⟩
          | false =>
            have hone : loneF l m[i] = true := by unfold loneF; rw [if_neg (by omega), if_pos h4, hc]; rfl
            refine ⟨_, by omega, by omega, (by rw [h4]; rfl), ?_⟩
            have hc2 : (!(sEq (lgetF l m[i].name) m[i].value)) = true := by rw [hc]; rfl
            have hc3 : (!(!(sEq (lgetF l m[i].name) m[i].value))) = false := by rw [hc]; rfl
            repeat (first | refine p1 ?_ | refine p2 ?_ | refine p3 ?_ | refine p4 ?_)
            exact ⟨i + 1, id, ⟨⟨rfl, rfl, rfl, succ_gi (by omega), trivial⟩, trivial, rfl⟩, ⟨hlt, hsn.trans hone⟩, by show m.length - (i + 1) < m.length - i; omega⟩
        · have hone : loneF l m[i] = false := by unfold loneF; rw [if_neg (by omega), if_neg (by omega), if_pos h4, hpr]
          refine ⟨_, by omega, by omega, (by rw [h4]; rfl), ?_⟩
          repeat (first | refine p1 ?_ | refine p2 ?_ | refine p3 ?_ | refine p4 ?_)
          exact ⟨(hno hone).symm, rfl⟩
        · have hone : loneF l m[i] = true := by unfold loneF; rw [if_neg (by omega), if_neg (by omega), if_neg (by omega), hpr]; rfl
          refine ⟨_, by omega, by omega, (by rw [h4]; rfl), ?_⟩
          repeat (first | refine p1 ?_ | refine p2 ?_ | refine p3 ?_ | refine p4 ?_)
          exact ⟨i + 1, id, ⟨⟨rfl, rfl, rfl, succ_gi (by omega), trivial⟩, trivial, rfl⟩, ⟨hlt, hsn.trans hone⟩, by show m.length - (i + 1) < m.length - i; omega⟩
    · refine p2 ?_
      refine V ?_
      obtain rfl : i = m.length := by omega
      rw [List.take_length] at hgood
      exact ⟨hgood.symm, rfl⟩

/-- Labels, matchers that are short enough to be held, as the laws say. -/
def shL (l : List Lb) : Bool := decide (l.length ≤ 20) && !anyB l.length (fun i => decide (60 < (l.getD i default).name.size) || decide (60 < (l.getD i default).value.size))
def shM (l : List Mt) : Bool := decide (l.length ≤ 20) && !anyB l.length (fun i => decide (60 < (l.getD i default).name.size) || decide (60 < (l.getD i default).value.size))
theorem shL_Hl {l : List Lb} (h : shL l = true) : Hl l := by
  unfold shL at h
  rw [Bool.and_eq_true, decide_eq_true_iff, Bool.not_eq_true'] at h
  have key : ∀ x ∈ l, x.name.size ≤ 60 ∧ x.value.size ≤ 60 := fun x hx => by
    obtain ⟨i, hi, rfl⟩ := List.getElem_of_mem hx
    have := anyB_get h.2 i hi
    rw [show l.getD i default = l[i] by simp [hi], Bool.or_eq_false_iff, decide_eq_false_iff_not, decide_eq_false_iff_not] at this
    omega
  exact ⟨by omega, fun x hx => by have := key x hx; omega, fun x hx => by have := key x hx; omega⟩
theorem shM_le {l : List Mt} (h : shM l = true) : l.length ≤ 20 ∧ ∀ x ∈ l, x.name.size ≤ 60 ∧ x.value.size ≤ 60 := by
  unfold shM at h
  rw [Bool.and_eq_true, decide_eq_true_iff, Bool.not_eq_true'] at h
  refine ⟨h.1, fun x hx => ?_⟩
  obtain ⟨i, hi, rfl⟩ := List.getElem_of_mem hx
  have := anyB_get h.2 i hi
  rw [show l.getD i default = l[i] by simp [hi], Bool.or_eq_false_iff, decide_eq_false_iff_not, decide_eq_false_iff_not] at this
  omega
theorem Hl.sh {l : List Lb} (h : Hl l) : Sh l := fun x hx => by have := h.value x hx; omega
theorem shortL_rt (l : List Lb) : Rt pg 5 [.sl 2 (l.map lb)] (.b (shL l)) := by
  refine Rt.of pg_ok Tryz.func5 rfl Tryz.ntmps5 rfl Tryz.results5 Tryz.call5 fun H0 S0 w0 h0 g0 => ?_
  have hll : (l.map lb).length = l.length := by simp
  unfold shL
  by_cases hl : l.length ≤ 20
  · refine p2 ?_
    refine JK.loop (α := Nat) (fun i => ⟨[(0, .sl 2 (l.map lb)), (3, gi i)], [], 0⟩) (fun i => i ≤ l.length ∧ ∀ j, j < i → (decide (60 < (l.getD j default).name.size) || decide (60 < (l.getD j default).value.size)) = false) (fun i => l.length - i) 0 id ?_ ⟨Nat.zero_le _, fun j hj => absurd hj (by omega)⟩ ?_
    · exact ⟨⟨rfl, rfl, trivial⟩, trivial, rfl⟩
    · rintro i ⟨hi, hgood⟩
      refine V ?_
      by_cases hlt : i < l.length
      · have hg : l.getD i default = l[i] := by simp [hlt]
        have hbad : (decide (60 < l[i].name.size) || decide (60 < l[i].value.size)) = true → (decide (l.length ≤ 20) && !anyB l.length (fun i => decide (60 < (l.getD i default).name.size) || decide (60 < (l.getD i default).value.size))) = false := fun h => by rw [anyB_true hlt (by rw [hg]; exact h)]; simp
        have hnext : (decide (60 < l[i].name.size) || decide (60 < l[i].value.size)) = false → ∀ j, j < i + 1 → (decide (60 < (l.getD j default).name.size) || decide (60 < (l.getD j default).value.size)) = false := fun h j hj => by
          rcases Nat.lt_succ_iff_lt_or_eq.1 hj with h1 | h1
          · exact hgood j h1
          · subst h1; rw [hg]; exact h
        by_cases h1 : 60 < l[i].name.size
        · repeat (first | refine p1 ?_ | refine p2 ?_ | refine p3 ?_ | refine p4 ?_ | refine ix (h := ?_))
          exact ⟨(hbad (by rw [decide_eq_true h1]; rfl)).symm, rfl⟩
        · by_cases h2 : 60 < l[i].value.size
          · repeat (first | refine p1 ?_ | refine p2 ?_ | refine p3 ?_ | refine p4 ?_ | refine ix (h := ?_))
            exact ⟨(hbad (by rw [decide_eq_true h2, Bool.or_true])).symm, rfl⟩
          · repeat (first | refine p1 ?_ | refine p2 ?_ | refine p3 ?_ | refine p4 ?_ | refine ix (h := ?_))
            exact ⟨i + 1, id, ⟨⟨rfl, succ_gi (by omega), trivial⟩, trivial, rfl⟩, ⟨hlt, hnext (by rw [decide_eq_false h1, decide_eq_false h2]; rfl)⟩, by show l.length - (i + 1) < l.length - i; omega⟩
      · refine p2 ?_
        refine V ?_
        obtain rfl : i = l.length := by omega
        exact ⟨by rw [anyB_false hgood, decide_eq_true hl]; rfl, rfl⟩
  · refine p1 ?_
    exact ⟨by rw [decide_eq_false hl]; rfl, rfl⟩
theorem shortM_rt (l : List Mt) : Rt pg 4 [.sl 3 (l.map mt)] (.b (shM l)) := by
  refine Rt.of pg_ok Tryz.func4 rfl Tryz.ntmps4 rfl Tryz.results4 Tryz.call4 fun H0 S0 w0 h0 g0 => ?_
  have hll : (l.map mt).length = l.length := by simp
  unfold shM
  by_cases hl : l.length ≤ 20
  · refine p2 ?_
    refine JK.loop (α := Nat) (fun i => ⟨[(0, .sl 3 (l.map mt)), (3, gi i)], [], 0⟩) (fun i => i ≤ l.length ∧ ∀ j, j < i → (decide (60 < (l.getD j default).name.size) || decide (60 < (l.getD j default).value.size)) = false) (fun i => l.length - i) 0 id ?_ ⟨Nat.zero_le _, fun j hj => absurd hj (by omega)⟩ ?_
    · exact ⟨⟨rfl, rfl, trivial⟩, trivial, rfl⟩
    · rintro i ⟨hi, hgood⟩
      refine V ?_
      by_cases hlt : i < l.length
      · have hg : l.getD i default = l[i] := by simp [hlt]
        have hbad : (decide (60 < l[i].name.size) || decide (60 < l[i].value.size)) = true → (decide (l.length ≤ 20) && !anyB l.length (fun i => decide (60 < (l.getD i default).name.size) || decide (60 < (l.getD i default).value.size))) = false := fun h => by rw [anyB_true hlt (by rw [hg]; exact h)]; simp
        have hnext : (decide (60 < l[i].name.size) || decide (60 < l[i].value.size)) = false → ∀ j, j < i + 1 → (decide (60 < (l.getD j default).name.size) || decide (60 < (l.getD j default).value.size)) = false := fun h j hj => by
          rcases Nat.lt_succ_iff_lt_or_eq.1 hj with h1 | h1
          · exact hgood j h1
          · subst h1; rw [hg]; exact h
        by_cases h1 : 60 < l[i].name.size
        · repeat (first | refine p1 ?_ | refine p2 ?_ | refine p3 ?_ | refine p4 ?_ | refine ix (h := ?_))
          exact ⟨(hbad (by rw [decide_eq_true h1]; rfl)).symm, rfl⟩
        · by_cases h2 : 60 < l[i].value.size
          · repeat (first | refine p1 ?_ | refine p2 ?_ | refine p3 ?_ | refine p4 ?_ | refine ix (h := ?_))
            exact ⟨(hbad (by rw [decide_eq_true h2, Bool.or_true])).symm, rfl⟩
          · repeat (first | refine p1 ?_ | refine p2 ?_ | refine p3 ?_ | refine p4 ?_ | refine ix (h := ?_))
            exact ⟨i + 1, id, ⟨⟨rfl, succ_gi (by omega), trivial⟩, trivial, rfl⟩, ⟨hlt, hnext (by rw [decide_eq_false h1, decide_eq_false h2]; rfl)⟩, by show l.length - (i + 1) < l.length - i; omega⟩
      · refine p2 ?_
        refine V ?_
        obtain rfl : i = l.length := by omega
        exact ⟨by rw [anyB_false hgood, decide_eq_true hl]; rfl, rfl⟩
  · refine p1 ?_
    exact ⟨by rw [decide_eq_false hl]; rfl, rfl⟩
end Go.Proofs.YtpenlenmpigomaaGreatDoor
/-
  errors.As by its contracts, at the target *Errno: the library's own text of errors.As and errors.as is walked: an error that is an Errno: it is set, and true comes back.
-/
namespace Go.Proofs.YtpenlenmpigomaaGreatDoor
open Go.RowKit Go.Extern.Stop Go.Stop Go.Extern

/-! ### Closed facts on the model's entries for internal/reflectlite, at this program's types -/
theorem as_valueOfP (t : Addr) (w : World) : (ReflectliteValue.unpack (.iface 89 (.pointer (some t)))).run Tryz.prog w
    = .ok (.agg #[.pointer (some ⟨5, 89, none⟩), .pointer (some ⟨w.heap.size, 0, none⟩), .int .u64 150]) (w.alloc (.cells #[.pointer (some t)] 89)) := by kernel_rfl
theorem as_typeP (a : Addr) (w : World) : (ReflectliteValue.methodAny (ReflectliteValue.valueError "reflectlite.Value.Type" 0) (fun t _ _ _ => ReflectliteType.toType t) #[.agg #[.pointer (some ⟨5, 89, none⟩), .pointer (some a), .int .u64 150]]).run Tryz.prog w
    = .ok (.iface 142 (.agg #[.pointer (some ⟨5, 89, none⟩)])) w := by kernel_rfl
theorem as_methodKind (h : Value) (w : World) : (Go.method 303 142 (.agg #[h]) "Kind").run Tryz.prog w = .ok (127, h) w := by kernel_rfl
theorem as_kindP (w : World) : ((ReflectliteType.abiMethod fun t => (fun a : Nat => Value.int IntKind.u8 (a : Int)) <$> Rtype.kind t) #[.pointer (some ⟨5, 89, none⟩)]).run Tryz.prog w = .ok (.int .u8 22) w := by kernel_rfl
theorem as_kindE (w : World) : ((ReflectliteType.abiMethod fun t => (fun a : Nat => Value.int IntKind.u8 (a : Int)) <$> Rtype.kind t) #[.pointer (some ⟨5, 25, none⟩)]).run Tryz.prog w = .ok (.int .u8 2) w := by kernel_rfl

theorem as_rlm (z : Sem Value) (f : TypeId → Addr → Nat → Nat → Sem Value) (v : Value) :
    ReflectliteValue.method z f #[v] = (do match ← ReflectliteValue.parts v with | none => z | some (t, a, fl) => f t a fl (fl % 32)) := rfl
theorem as_partsP (a : Addr) (w : World) : (ReflectliteValue.parts (.agg #[.pointer (some ⟨5, 89, none⟩), .pointer (some a), .int .u64 150])).run Tryz.prog w = .ok (some (89, a, 150)) w := by kernel_rfl
theorem as_isNilP (a p : Addr) (W : World) (ha : W.cell? a = some (.pointer (some p))) :
    (ReflectliteValue.method (ReflectliteValue.valueError "reflectlite.Value.IsNil" 0) ReflectliteValue.isNil #[.agg #[.pointer (some ⟨5, 89, none⟩), .pointer (some a), .int .u64 150]]).run Tryz.prog W = .ok (.bool false) W := by
  rw [as_rlm]
  simp only [Sem.run_bind, as_partsP, Result.andThen]
  simp [ReflectliteValue.isNil, loadVar, isAgg, underlying, Tryz.underlying89, ha, Result.andThen]

theorem as_methodElem (h : Value) (w : World) : (Go.method 303 142 (.agg #[h]) "Elem").run Tryz.prog w = .ok (139, .agg #[h]) w := by kernel_rfl
theorem as_methodImplements (h : Value) (w : World) : (Go.method 303 142 (.agg #[h]) "Implements").run Tryz.prog w = .ok (140, .agg #[h]) w := by kernel_rfl
theorem as_methodAssignableTo (h : Value) (w : World) : (Go.method 303 142 (.agg #[h]) "AssignableTo").run Tryz.prog w = .ok (137, .agg #[h]) w := by kernel_rfl
theorem as_elemP (w : World) : (ReflectliteType.method ReflectliteType.elem #[.agg #[.pointer (some ⟨5, 89, none⟩)]]).run Tryz.prog w = .ok (.iface 142 (.agg #[.pointer (some ⟨5, 25, none⟩)])) w := by kernel_rfl
theorem as_implementsE (w : World) : (ReflectliteType.relation "Implements" ReflectliteType.implements_ #[.agg #[.pointer (some ⟨5, 25, none⟩)], .iface 142 (.agg #[.pointer (some ⟨5, 36, none⟩)])]).run Tryz.prog w = .ok (.bool true) w := by kernel_rfl
theorem as_typeOfE (v : Value) (w : World) : (ReflectliteType.typeOf #[.iface 25 v]).run Tryz.prog w = .ok (.iface 142 (.agg #[.pointer (some ⟨5, 25, none⟩)])) w := by kernel_rfl
theorem as_assignableE (w : World) : (ReflectliteType.relation "AssignableTo" ReflectliteType.assignableTo #[.agg #[.pointer (some ⟨5, 25, none⟩)], .iface 142 (.agg #[.pointer (some ⟨5, 25, none⟩)])]).run Tryz.prog w = .ok (.bool true) w := by kernel_rfl
theorem as_valueOfE (m : Int) (w : World) : (ReflectliteValue.unpack (.iface 25 (.int .i64 m))).run Tryz.prog w
    = .ok (.agg #[.pointer (some ⟨5, 25, none⟩), .pointer (some ⟨w.heap.size, 0, none⟩), .int .u64 130]) (w.alloc (.cells #[.int .i64 m] 25)) := by kernel_rfl

theorem as_elemOfP (w : World) : (Rtype.elem? 89).run Tryz.prog w = .ok (some 25) w := by kernel_rfl
theorem as_mkE (p : Addr) (w : World) : (ReflectliteValue.mk 25 p ReflectliteValue.flagAddr).run Tryz.prog w = .ok (.agg #[.pointer (some ⟨5, 25, none⟩), .pointer (some p), .int .u64 386]) w := by kernel_rfl
theorem as_elemVP (a p : Addr) (W : World) (ha : W.cell? a = some (.pointer (some p))) :
    (ReflectliteValue.method (ReflectliteValue.valueError "reflectlite.Value.Elem" 0) ReflectliteValue.elem #[.agg #[.pointer (some ⟨5, 89, none⟩), .pointer (some a), .int .u64 150]]).run Tryz.prog W
      = .ok (.agg #[.pointer (some ⟨5, 25, none⟩), .pointer (some p), .int .u64 386]) W := by
  rw [as_rlm]
  simp only [Sem.run_bind, as_partsP, Result.andThen]
  simp [ReflectliteValue.elem, loadVar, isAgg, underlying, Tryz.underlying89, ha, Result.andThen, as_elemOfP, as_mkE]
theorem as_rls (v x : Value) : ReflectliteValue.set #[v, x] = (do
    let (some (dst, a, fl), some (src, b, _)) := (← ReflectliteValue.parts v, ← ReflectliteValue.parts x)
      | unsupported (.noEntry "extern/(internal/reflectlite.Value).Set.zeroValue")
    if fl / ReflectliteValue.flagAddr % 2 == 0 then unsupported (.noEntry "extern/(internal/reflectlite.Value).Set.unaddressable")
    let val ← loadVar src b
    if ← Rtype.directlyAssignable dst src then storeVar dst a val
    else if ← Rtype.implements dst src then
      if (← Rtype.kind src) == 20 then
        match val with
        | .nilIface => unsupported (.noEntry "extern/reflectlite: a nil value of one interface type handed on as a value of another")
        | _ => storeVar dst a val
      else storeVar dst a (.iface src val)
    else panicString ("reflectlite.Set: value of type " ++ (← Rtype.spelt src) ++ " is not assignable to type " ++ (← Rtype.spelt dst))
    pure (.tuple #[])) := rfl
theorem as_partsEa (a : Addr) (w : World) : (ReflectliteValue.parts (.agg #[.pointer (some ⟨5, 25, none⟩), .pointer (some a), .int .u64 386])).run Tryz.prog w = .ok (some (25, a, 386)) w := by kernel_rfl
theorem as_partsE (a : Addr) (w : World) : (ReflectliteValue.parts (.agg #[.pointer (some ⟨5, 25, none⟩), .pointer (some a), .int .u64 130])).run Tryz.prog w = .ok (some (25, a, 130)) w := by kernel_rfl
theorem as_directE (w : World) : (Rtype.directlyAssignable 25 25).run Tryz.prog w = .ok true w := by kernel_rfl
theorem as_sizeE (w : World) : (sizeOf 25).run Tryz.prog w = .ok 1 w := by kernel_rfl
theorem as_setE (ta b : Addr) (m : Int) (old : Value) (W : World) (hb : W.cell? b = some (.int .i64 m)) (ht : W.cell? ta = some old) (hf : W.frozen? ta = false) :
    (ReflectliteValue.set #[.agg #[.pointer (some ⟨5, 25, none⟩), .pointer (some ta), .int .u64 386], .agg #[.pointer (some ⟨5, 25, none⟩), .pointer (some b), .int .u64 130]]).run Tryz.prog W
      = .ok (.tuple #[]) (W.setCell ta (.int .i64 m)) := by
  rw [as_rls]
  simp only [Sem.run_bind, as_partsEa, as_partsE, Result.andThen]
  simp [ReflectliteValue.flagAddr, loadVar, isAgg, underlying, Tryz.underlying25, hb, Result.andThen, as_directE, storeVar, Value.cells, storeCells, Addr.add]
  rw [run_store Tryz.prog W ta _ _ (by rfl)]
  simp [ht, hf]

/-- What errors.As leaves behind it. -/
noncomputable def asW (t : Addr) (m : Int) (w : World) : World := ((((w.alloc (.cells #[.pointer (some t)] 89)).alloc (.cells #[.pointer (some ⟨5, 89, none⟩), .pointer (some ⟨w.heap.size, 0, none⟩), .int .u64 150] 117)).alloc (.cells #[.pointer (some ⟨5, 89, none⟩), .pointer (some ⟨w.heap.size, 0, none⟩), .int .u64 150] 117)).alloc (.cells #[.int .i64 m] 25)).setCell t (.int .i64 m)

set_option maxHeartbeats 4000000 in
theorem as_hit (m : Int) (t : Addr) (old : Value) (w : World) (hg : w.cell? ⟨1, 0, none⟩ = some (.iface 142 (.agg #[.pointer (some ⟨5, 36, none⟩)]))) (ht0 : w.cell? t = some old) (hf0 : w.frozen? t = false) :
    Calls Tryz.prog 45 #[.iface 25 (.int .i64 m), .iface 89 (.pointer (some t))] w fun ev w' => ev = .returned (.bool true) ∧ w' = asW t m w := by
  have h6 := @run_callFunc_extern Tryz.prog 71 _ (fun args => ReflectliteValue.unpack (args.getD 0 (.tuple #[]))) Tryz.func71 (by kernel_rfl) (by kernel_rfl) (by kernel_rfl) (by kernel_rfl)
  have h7 := @run_callFunc_extern Tryz.prog 72 _ (ReflectliteValue.methodAny (ReflectliteValue.valueError "reflectlite.Value.Type" 0) (fun t _ _ _ => ReflectliteType.toType t)) Tryz.func72 (by kernel_rfl) (by kernel_rfl) (by kernel_rfl) (by kernel_rfl)
  have h8 := @run_callFunc_extern Tryz.prog 73 _ (ReflectliteValue.method (ReflectliteValue.valueError "reflectlite.Value.IsNil" 0) ReflectliteValue.isNil) Tryz.func73 (by kernel_rfl) (by kernel_rfl) (by kernel_rfl) (by kernel_rfl)
  have h27 := @run_callFunc_extern Tryz.prog 127 _ (ReflectliteType.abiMethod fun t => do pure (.int .u8 (← Rtype.kind t))) Tryz.func127 (by kernel_rfl) (by kernel_rfl) (by kernel_rfl) (by kernel_rfl)
  have h37 := @run_callFunc_extern Tryz.prog 139 _ (ReflectliteType.method ReflectliteType.elem) Tryz.func139 (by kernel_rfl) (by kernel_rfl) (by kernel_rfl) (by kernel_rfl)
  have h38 := @run_callFunc_extern Tryz.prog 140 _ (ReflectliteType.relation "Implements" ReflectliteType.implements_) Tryz.func140 (by kernel_rfl) (by kernel_rfl) (by kernel_rfl) (by kernel_rfl)
  have h10 := @run_callFunc_extern Tryz.prog 90 _ ReflectliteType.typeOf Tryz.func90 (by kernel_rfl) (by kernel_rfl) (by kernel_rfl) (by kernel_rfl)
  have h35 := @run_callFunc_extern Tryz.prog 137 _ (ReflectliteType.relation "AssignableTo" ReflectliteType.assignableTo) Tryz.func137 (by kernel_rfl) (by kernel_rfl) (by kernel_rfl) (by kernel_rfl)
  have h11 := @run_callFunc_extern Tryz.prog 91 _ (ReflectliteValue.method (ReflectliteValue.valueError "reflectlite.Value.Elem" 0) ReflectliteValue.elem) Tryz.func91 (by kernel_rfl) (by kernel_rfl) (by kernel_rfl) (by kernel_rfl)
  have h12 := @run_callFunc_extern Tryz.prog 92 _ ReflectliteValue.set Tryz.func92 (by kernel_rfl) (by kernel_rfl) (by kernel_rfl) (by kernel_rfl)
  have tO := as_typeOfE
  have mA := as_methodAssignableTo
  have a25 := as_assignableE
  have v25 := as_valueOfE
  have f6 := as_valueOfP
  have f7 := as_typeP
  have mK := as_methodKind
  have mE := as_methodElem
  have mI := as_methodImplements
  have k27 := as_kindP
  have k25 := as_kindE
  have e27 := as_elemP
  have i25 := as_implementsE
  have n8 := as_isNilP ⟨w.heap.size, 0, none⟩ t ((w.alloc (.cells #[.pointer (some t)] 89)).alloc (.cells #[.pointer (some ⟨5, 89, none⟩), .pointer (some ⟨w.heap.size, 0, none⟩), .int .u64 150] 117)) (by simp)
  have hlt : 1 < w.heap.size := by
    rcases Nat.lt_or_ge 1 w.heap.size with h | h
    · exact h
    · simp [World.cell?, Array.getElem?_eq_none h] at hg
  have hg2 : ((w.alloc (.cells #[.pointer (some t)] 89)).alloc (.cells #[.pointer (some ⟨5, 89, none⟩), .pointer (some ⟨w.heap.size, 0, none⟩), .int .u64 150] 117)).cell? ⟨1, 0, none⟩ = some (.iface 142 (.agg #[.pointer (some ⟨5, 36, none⟩)])) := by
    rw [World.cell?_alloc_lt _ _ ⟨1, 0, none⟩ (by simp <;> omega), World.cell?_alloc_lt _ _ ⟨1, 0, none⟩ hlt]; exact hg
  have htl : t.block < w.heap.size := by
    rcases Nat.lt_or_ge t.block w.heap.size with h | h
    · exact h
    · simp [World.cell?, Array.getElem?_eq_none h] at ht0
  have el := as_elemVP ⟨w.heap.size, 0, none⟩ t (((w.alloc (.cells #[.pointer (some t)] 89)).alloc (.cells #[.pointer (some ⟨5, 89, none⟩), .pointer (some ⟨w.heap.size, 0, none⟩), .int .u64 150] 117)).alloc (.cells #[.pointer (some ⟨5, 89, none⟩), .pointer (some ⟨w.heap.size, 0, none⟩), .int .u64 150] 117)) (by rw [World.cell?_alloc_lt _ _ ⟨w.heap.size, 0, none⟩ (by simp <;> omega)]; simp)
  have st := as_setE t ⟨w.heap.size + 1 + 1 + 1, 0, none⟩ m old ((((w.alloc (.cells #[.pointer (some t)] 89)).alloc (.cells #[.pointer (some ⟨5, 89, none⟩), .pointer (some ⟨w.heap.size, 0, none⟩), .int .u64 150] 117)).alloc (.cells #[.pointer (some ⟨5, 89, none⟩), .pointer (some ⟨w.heap.size, 0, none⟩), .int .u64 150] 117)).alloc (.cells #[.int .i64 m] 25))
    (by rw [World.cell?_alloc_at _ _ _ _ (by simp)]; rfl)
    (by rw [World.cell?_alloc_lt _ _ t (by simp <;> omega), World.cell?_alloc_lt _ _ t (by simp <;> omega), World.cell?_alloc_lt _ _ t (by simp <;> omega), World.cell?_alloc_lt _ _ t htl]; exact ht0)
    (by rw [World.frozen?_alloc_old _ _ t (by simp <;> omega), World.frozen?_alloc_old _ _ t (by simp <;> omega), World.frozen?_alloc_old _ _ t (by simp <;> omega), World.frozen?_alloc_old _ _ t (Nat.ne_of_lt htl)]; exact hf0)
  go_enter Tryz.func45, Tryz.ntmps45
  go_wp2
  refine wp_loop_rounds 1 ?_
  rw [rounds_succ]
  go_wp2
  go_ret
  exact ⟨rfl, rfl⟩
end Go.Proofs.YtpenlenmpigomaaGreatDoor
/-
  errors.As by its contracts, at the target *Errno: an error that is an At: it is taken apart, and what it holds is set.
-/
namespace Go.Proofs.YtpenlenmpigomaaGreatDoor
open Go.RowKit Go.Extern.Stop Go.Stop Go.Extern
theorem as_typeOfA (v : Value) (w : World) : (ReflectliteType.typeOf #[.iface 60 v]).run Tryz.prog w = .ok (.iface 142 (.agg #[.pointer (some ⟨5, 60, none⟩)])) w := by kernel_rfl
theorem as_assignableA (w : World) : (ReflectliteType.relation "AssignableTo" ReflectliteType.assignableTo #[.agg #[.pointer (some ⟨5, 60, none⟩)], .iface 142 (.agg #[.pointer (some ⟨5, 25, none⟩)])]).run Tryz.prog w = .ok (.bool false) w := by kernel_rfl
theorem as_noAs (v : Value) (xT : Nat) (w : World) : (Instr.typeAssert (.iface 60 v) xT 147 true).run Tryz.prog w = .ok (.tuple #[.nilIface, .bool false]) w := run_typeAssert_lacksB Tryz.underlying147 (by kernel_rfl) (by kernel_rfl) v _ w
theorem as_unw (v : Value) (xT : Nat) (w : World) : (Instr.typeAssert (.iface 60 v) xT 76 true).run Tryz.prog w = .ok (.tuple #[.iface 60 v, .bool true]) w := run_typeAssert_hasB Tryz.underlying76 (by kernel_rfl) v _ w
theorem as_methodUnw (h : Value) (w : World) : (Go.method 303 60 h "Unwrap").run Tryz.prog w = .ok (132, h) w := by kernel_rfl
set_option maxRecDepth 100000 in
set_option maxHeartbeats 4000000 in
theorem as_hit_at (m : Int) (a t : Addr) (old : Value) (w : World) (ha : w.cell? a = some (.int .i64 m)) (hg : w.cell? ⟨1, 0, none⟩ = some (.iface 142 (.agg #[.pointer (some ⟨5, 36, none⟩)]))) (ht0 : w.cell? t = some old) (hf0 : w.frozen? t = false) :
    Calls Tryz.prog 45 #[.iface 60 (.pointer (some a)), .iface 89 (.pointer (some t))] w fun ev w' => ev = .returned (.bool true) ∧ w' = asW t m w := by
  have h6 := @run_callFunc_extern Tryz.prog 71 _ (fun args => ReflectliteValue.unpack (args.getD 0 (.tuple #[]))) Tryz.func71 (by kernel_rfl) (by kernel_rfl) (by kernel_rfl) (by kernel_rfl)
  have h7 := @run_callFunc_extern Tryz.prog 72 _ (ReflectliteValue.methodAny (ReflectliteValue.valueError "reflectlite.Value.Type" 0) (fun t _ _ _ => ReflectliteType.toType t)) Tryz.func72 (by kernel_rfl) (by kernel_rfl) (by kernel_rfl) (by kernel_rfl)
  have h8 := @run_callFunc_extern Tryz.prog 73 _ (ReflectliteValue.method (ReflectliteValue.valueError "reflectlite.Value.IsNil" 0) ReflectliteValue.isNil) Tryz.func73 (by kernel_rfl) (by kernel_rfl) (by kernel_rfl) (by kernel_rfl)
  have h27 := @run_callFunc_extern Tryz.prog 127 _ (ReflectliteType.abiMethod fun t => do pure (.int .u8 (← Rtype.kind t))) Tryz.func127 (by kernel_rfl) (by kernel_rfl) (by kernel_rfl) (by kernel_rfl)
  have h37 := @run_callFunc_extern Tryz.prog 139 _ (ReflectliteType.method ReflectliteType.elem) Tryz.func139 (by kernel_rfl) (by kernel_rfl) (by kernel_rfl) (by kernel_rfl)
  have h38 := @run_callFunc_extern Tryz.prog 140 _ (ReflectliteType.relation "Implements" ReflectliteType.implements_) Tryz.func140 (by kernel_rfl) (by kernel_rfl) (by kernel_rfl) (by kernel_rfl)
  have h10 := @run_callFunc_extern Tryz.prog 90 _ ReflectliteType.typeOf Tryz.func90 (by kernel_rfl) (by kernel_rfl) (by kernel_rfl) (by kernel_rfl)
  have h35 := @run_callFunc_extern Tryz.prog 137 _ (ReflectliteType.relation "AssignableTo" ReflectliteType.assignableTo) Tryz.func137 (by kernel_rfl) (by kernel_rfl) (by kernel_rfl) (by kernel_rfl)
  have h11 := @run_callFunc_extern Tryz.prog 91 _ (ReflectliteValue.method (ReflectliteValue.valueError "reflectlite.Value.Elem" 0) ReflectliteValue.elem) Tryz.func91 (by kernel_rfl) (by kernel_rfl) (by kernel_rfl) (by kernel_rfl)
  have h12 := @run_callFunc_extern Tryz.prog 92 _ ReflectliteValue.set Tryz.func92 (by kernel_rfl) (by kernel_rfl) (by kernel_rfl) (by kernel_rfl)
  have tO := as_typeOfE
  have tA := as_typeOfA
  have aA := as_assignableA
  have nA := as_noAs
  have uA := as_unw
  have mU := as_methodUnw
  have mA := as_methodAssignableTo
  have a25 := as_assignableE
  have v25 := as_valueOfE
  have f6 := as_valueOfP
  have f7 := as_typeP
  have mK := as_methodKind
  have mE := as_methodElem
  have mI := as_methodImplements
  have k27 := as_kindP
  have k25 := as_kindE
  have e27 := as_elemP
  have i25 := as_implementsE
  have n8 := as_isNilP ⟨w.heap.size, 0, none⟩ t ((w.alloc (.cells #[.pointer (some t)] 89)).alloc (.cells #[.pointer (some ⟨5, 89, none⟩), .pointer (some ⟨w.heap.size, 0, none⟩), .int .u64 150] 117)) (by simp)
  have hlt : 1 < w.heap.size := by
    rcases Nat.lt_or_ge 1 w.heap.size with h | h
    · exact h
    · simp [World.cell?, Array.getElem?_eq_none h] at hg
  have hg2 : ((w.alloc (.cells #[.pointer (some t)] 89)).alloc (.cells #[.pointer (some ⟨5, 89, none⟩), .pointer (some ⟨w.heap.size, 0, none⟩), .int .u64 150] 117)).cell? ⟨1, 0, none⟩ = some (.iface 142 (.agg #[.pointer (some ⟨5, 36, none⟩)])) := by
    rw [World.cell?_alloc_lt _ _ ⟨1, 0, none⟩ (by simp <;> omega), World.cell?_alloc_lt _ _ ⟨1, 0, none⟩ hlt]; exact hg
  have htl : t.block < w.heap.size := by
    rcases Nat.lt_or_ge t.block w.heap.size with h | h
    · exact h
    · simp [World.cell?, Array.getElem?_eq_none h] at ht0
  have el := as_elemVP ⟨w.heap.size, 0, none⟩ t (((w.alloc (.cells #[.pointer (some t)] 89)).alloc (.cells #[.pointer (some ⟨5, 89, none⟩), .pointer (some ⟨w.heap.size, 0, none⟩), .int .u64 150] 117)).alloc (.cells #[.pointer (some ⟨5, 89, none⟩), .pointer (some ⟨w.heap.size, 0, none⟩), .int .u64 150] 117)) (by rw [World.cell?_alloc_lt _ _ ⟨w.heap.size, 0, none⟩ (by simp <;> omega)]; simp)
  have st := as_setE t ⟨w.heap.size + 1 + 1 + 1, 0, none⟩ m old ((((w.alloc (.cells #[.pointer (some t)] 89)).alloc (.cells #[.pointer (some ⟨5, 89, none⟩), .pointer (some ⟨w.heap.size, 0, none⟩), .int .u64 150] 117)).alloc (.cells #[.pointer (some ⟨5, 89, none⟩), .pointer (some ⟨w.heap.size, 0, none⟩), .int .u64 150] 117)).alloc (.cells #[.int .i64 m] 25))
    (by rw [World.cell?_alloc_at _ _ _ _ (by simp)]; rfl)
    (by rw [World.cell?_alloc_lt _ _ t (by simp <;> omega), World.cell?_alloc_lt _ _ t (by simp <;> omega), World.cell?_alloc_lt _ _ t (by simp <;> omega), World.cell?_alloc_lt _ _ t htl]; exact ht0)
    (by rw [World.frozen?_alloc_old _ _ t (by simp <;> omega), World.frozen?_alloc_old _ _ t (by simp <;> omega), World.frozen?_alloc_old _ _ t (by simp <;> omega), World.frozen?_alloc_old _ _ t (Nat.ne_of_lt htl)]; exact hf0)
  have hal : a.block < w.heap.size := by
    rcases Nat.lt_or_ge a.block w.heap.size with h | h
    · exact h
    · simp [World.cell?, Array.getElem?_eq_none h] at ha
  have la : (((w.alloc (.cells #[.pointer (some t)] 89)).alloc (.cells #[.pointer (some ⟨5, 89, none⟩), .pointer (some ⟨w.heap.size, 0, none⟩), .int .u64 150] 117)).alloc (.cells #[.pointer (some ⟨5, 89, none⟩), .pointer (some ⟨w.heap.size, 0, none⟩), .int .u64 150] 117)).cell? a = some (.int .i64 m) := by
    rw [World.cell?_alloc_lt _ _ a (by simp <;> omega), World.cell?_alloc_lt _ _ a (by simp <;> omega), World.cell?_alloc_lt _ _ a hal]; exact ha
  go_enter Tryz.func45, Tryz.ntmps45
  go_wp2
  refine wp_loop_rounds 2 ?_
  rw [rounds_succ]
  go_wp2
  rw [rounds_succ]
  go_wp2
  go_ret
  exact ⟨rfl, rfl⟩
end Go.Proofs.YtpenlenmpigomaaGreatDoor
/-
  Errors as the ghost machine has them.
-/
namespace Go.Proofs.YtpenlenmpigomaaGreatDoor
open Go.GK
/-- No error, or an Errno; its number. -/
def erG : Option Int → GV
  | none => .v .nilIface
  | some m => .ifc 25 (gi m)
def erN : Option Int → Int
  | none => 0
  | some m => m

end Go.Proofs.YtpenlenmpigomaaGreatDoor
/-
  Contracts: errors told apart (errors.As, api.Tell, plain.Place, raingaugelaw.is, bare): no error, or an Errno.
-/
namespace Go.Proofs.YtpenlenmpigomaaGreatDoor
open Go.GK Go.RowKit
set_option maxRecDepth 100000
abbrev rtV : Value := .iface 142 (.agg #[.pointer (some ⟨5, 36, none⟩)])
theorem errG_of {H : Hid} {σ : Heap} {w : World} (hg : GlOk pg H) (hs : Sat H σ w) : w.cell? ⟨1, 0, none⟩ = some rtV := hg.cell hs rfl

theorem below4 (w : World) (a b c d : Obj) : Below w.heap.size w ((((w.alloc a).alloc b).alloc c).alloc d) := by
  have h : ∀ (w : World) (o : Obj), w.heap.size ≤ (w.alloc o).heap.size := fun w o => by show _ ≤ (w.heap.push o).size; simp
  have h1 := h w a
  have h2 := h (w.alloc a) b
  have h3 := h ((w.alloc a).alloc b) c
  exact ((((Below.refl _ _).alloc (Nat.le_refl _) a).alloc h1 b).alloc (Nat.le_trans h1 h2) c).alloc (Nat.le_trans h1 (Nat.le_trans h2 h3)) d
theorem asW_below (t : Addr) (m : Int) (w : World) : ∃ w5, Below w.heap.size w w5 ∧ asW t m w = w5.setCell t (.int .i64 m) := by
  exact ⟨_, below4 _ _ _ _ _, rfl⟩
theorem as_ct (m old : Int) : Ct pg 45 1 [.ifc 25 (gi m), .ifc 89 (.p 0 0)] [(0, .blk 25 [gi old])] (fun g σ n => g = .v (.bool true) ∧ σ = [(0, .blk 25 [gi m])] ∧ n = 1) :=
  Ct.set1 (p := pg) (G := fun w => w.cell? ⟨1, 0, none⟩ = some rtV) (.int .i64 m) (.int .i64 old) (.int .i64 m) (.bool true) (fun _ _ _ hg hs => errG_of hg hs) fun t w hg h1 h2 =>
    (as_hit m t _ w hg h1 h2).mono fun e w' ⟨he, hw⟩ => by
      obtain ⟨w5, hb, hw5⟩ := asW_below t m w
      exact ⟨he, w5, hb, hw.trans hw5⟩

theorem tell_ct (x : Option Int) : Ct pg 34 0 [erG x] [] (Val fun g => g = gi (erN x)) := by
  refine Ct.val (Ct.of_JK pg_ok Tryz.func34 rfl Tryz.ntmps34 rfl Tryz.results34 fun H0 S0 w0 h0 g0 => ?_)
  cases x with
  | none =>
    refine vc_sound pg_ok 200 _ _ ?_
    refine pos rfl ?_
    exact ⟨rfl, rfl⟩
  | some m =>
    refine vc_sound pg_ok 200 _ _ ?_
    refine neg rfl ?_
    refine JK.call (n0 := 1) (r := id) (as_ct m 0) Tryz.call45 rfl rfl rfl rfl rfl ⟨rfl, trivial⟩ rfl (by simp) ?_
    rintro g σ' n' ⟨rfl, rfl, rfl⟩
    refine vc_sound pg_ok 200 _ _ ?_
    exact ⟨rfl, rfl⟩
theorem noAt (u : Value) (w : World) : (Instr.typeAssert (.iface 25 u) 36 60 true).run Tryz.prog w = .ok (.tuple #[.pointer none, .bool false]) w := by kernel_rfl
theorem noUnwrap (u : Value) (w : World) : (Instr.typeAssert (.iface 25 u) 36 76 true).run Tryz.prog w = .ok (.tuple #[.nilIface, .bool false]) w := run_typeAssert_lacksB Tryz.underlying76 (by kernel_rfl) (by kernel_rfl) u _ w
theorem tup2 {H : Hid} {a b : Value} : Is H (.tup [.v a, .v b]) (.tuple #[a, b]) := .tup rfl fun j g hj => by
  match j with
  | 0 => simp at hj; subst hj; exact .ro (.v a)
  | 1 => simp at hj; subst hj; exact .ro (.v b)
  | j + 2 => simp at hj
theorem place_ct (x : Option Int) : Ct pg 21 0 [erG x] [] (Val fun g => g = .tup [gi (erN x), gi (-1)]) := by
  refine Ct.val (Ct.of_JK pg_ok Tryz.func21 rfl Tryz.ntmps21 rfl Tryz.results21 fun H0 S0 w0 h0 g0 => ?_)
  cases x with
  | none =>
    refine vc_sound pg_ok 200 _ _ ?_
    refine JK.call (n0 := 0) (r := id) (tell_ct none) Tryz.call34 rfl rfl rfl rfl rfl trivial rfl (by simp) ?_
    rintro g σ' n' ⟨rfl, rfl, rfl⟩
    refine vc_sound pg_ok 200 _ _ ?_
    refine JK.loopE (α := Unit) (β := Unit) (fun _ => ⟨[(0, .v .nilIface), (4, gi 0)], [], 0⟩) (fun _ => True) (fun _ => 0) (fun _ => ⟨[(4, gi 0)], [], 0⟩) (fun _ => True) () id ?_ trivial ?_ ?_
    · exact ⟨⟨rfl, rfl, trivial⟩, trivial, rfl⟩
    · intro _ _
      refine vc_sound pg_ok 200 _ _ ?_
      refine neg rfl ?_
      exact ⟨(), id, ⟨⟨rfl, trivial⟩, trivial, rfl⟩, trivial⟩
    · intro _ _
      refine vc_sound pg_ok 200 _ _ ?_
      exact ⟨rfl, rfl⟩
  | some m =>
    refine vc_sound pg_ok 200 _ _ ?_
    refine JK.call (n0 := 0) (r := id) (tell_ct (some m)) Tryz.call34 rfl rfl rfl rfl rfl trivial rfl (by simp) ?_
    rintro g σ' n' ⟨rfl, rfl, rfl⟩
    refine vc_sound pg_ok 200 _ _ ?_
    refine JK.loopE (α := Unit) (β := Unit) (fun _ => ⟨[(0, .ifc 25 (gi m)), (4, gi m)], [], 0⟩) (fun _ => True) (fun _ => 0) (fun _ => ⟨[(4, gi m)], [], 0⟩) (fun _ => True) () id ?_ trivial ?_ ?_
    · exact ⟨⟨rfl, rfl, trivial⟩, trivial, rfl⟩
    · intro _ _
      refine vc_sound pg_ok 200 _ _ ?_
      refine pos rfl ?_
      refine JK.tassert (t := 25) (g := gi m) (r := .tup [.v (.pointer none), .v (.bool false)]) (fun H u w _ => ⟨_, noAt u w, tup2⟩) rfl rfl rfl ?_
      refine vc_sound pg_ok 200 _ _ ?_
      refine JK.tassert (t := 25) (g := gi m) (r := .tup [.v .nilIface, .v (.bool false)]) (fun H u w _ => ⟨_, noUnwrap u w, tup2⟩) rfl rfl rfl ?_
      refine vc_sound pg_ok 200 _ _ ?_
      exact ⟨(), id, ⟨⟨rfl, trivial⟩, trivial, rfl⟩, trivial⟩
    · intro _ _
      refine vc_sound pg_ok 200 _ _ ?_
      exact ⟨rfl, rfl⟩
theorem is_ct (x : Option Int) (e p : Int) : Ct pg 8 0 [erG x, .agg [gi e, gi p]] [] (Val fun g => g = .b (erN x == e && -1 == p)) := by
  refine Ct.bool (Ct.of_JK pg_ok Tryz.func8 rfl Tryz.ntmps8 rfl Tryz.results8 fun H0 S0 w0 h0 g0 => ?_)
  cases x with
  | none =>
    refine vc_sound pg_ok 200 _ _ ?_
    refine JK.call (n0 := 0) (r := id) (place_ct none) Tryz.call21 rfl rfl rfl rfl rfl trivial rfl (by simp) ?_
    rintro g σ' n' ⟨rfl, rfl, rfl⟩
    refine vc_sound pg_ok 200 _ _ ?_
    refine ⟨fun h => ?_, fun h => ?_⟩
    · refine .inr (congrArg GV.b ?_)
      show _ = (((0 : Int) == e) && _)
      rw [show ((0 : Int) == e) = true from h]; rfl
    · refine .inl (congrArg (fun c => GV.v (.bool c)) ?_)
      show _ = (((0 : Int) == e) && _)
      rw [show ((0 : Int) == e) = false from h]; rfl
  | some m =>
    refine vc_sound pg_ok 200 _ _ ?_
    refine JK.call (n0 := 0) (r := id) (place_ct (some m)) Tryz.call21 rfl rfl rfl rfl rfl trivial rfl (by simp) ?_
    rintro g σ' n' ⟨rfl, rfl, rfl⟩
    refine vc_sound pg_ok 200 _ _ ?_
    refine ⟨fun h => ?_, fun h => ?_⟩
    · refine .inr (congrArg GV.b ?_)
      show _ = ((m == e) && _)
      rw [show (m == e) = true from h]; rfl
    · refine .inl (congrArg (fun c => GV.v (.bool c)) ?_)
      show _ = ((m == e) && _)
      rw [show (m == e) = false from h]; rfl
theorem refBare_ct (e : Int) : Ct pg 29 0 [gi e] [] (Val fun g => g = .agg [gi e, gi (-1)]) := by
  refine Ct.val (Ct.of_JK pg_ok Tryz.func29 rfl Tryz.ntmps29 rfl Tryz.results29 fun H0 S0 w0 h0 g0 => ?_)
  refine vc_sound pg_ok 200 _ _ ?_
  exact ⟨rfl, rfl⟩
theorem bare_ct (x : Option Int) (e : Int) : Ct pg 15 0 [erG x, gi e] [] (Val fun g => g = .b (erN x == e)) := by
  have fin : ∀ c : Bool, (c && ((-1 : Int) == -1)) = c := fun c => by cases c <;> rfl
  refine Ct.val (Ct.of_JK pg_ok Tryz.func15 rfl Tryz.ntmps15 rfl Tryz.results15 fun H0 S0 w0 h0 g0 => ?_)
  cases x with
  | none =>
    refine vc_sound pg_ok 200 _ _ ?_
    refine JK.call (n0 := 0) (r := id) (refBare_ct e) Tryz.call29 rfl rfl rfl rfl rfl trivial rfl (by simp) ?_
    rintro g σ' n' ⟨rfl, rfl, rfl⟩
    refine vc_sound pg_ok 200 _ _ ?_
    refine JK.call (n0 := 0) (r := id) (is_ct none e (-1)) Tryz.call8 rfl rfl rfl rfl rfl trivial rfl (by simp) ?_
    rintro g σ' n' ⟨rfl, rfl, rfl⟩
    refine vc_sound pg_ok 200 _ _ ?_
    exact ⟨congrArg GV.b (fin _), rfl⟩
  | some m =>
    refine vc_sound pg_ok 200 _ _ ?_
    refine JK.call (n0 := 0) (r := id) (refBare_ct e) Tryz.call29 rfl rfl rfl rfl rfl trivial rfl (by simp) ?_
    rintro g σ' n' ⟨rfl, rfl, rfl⟩
    refine vc_sound pg_ok 200 _ _ ?_
    refine JK.call (n0 := 0) (r := id) (is_ct (some m) e (-1)) Tryz.call8 rfl rfl rfl rfl rfl trivial rfl (by simp) ?_
    rintro g σ' n' ⟨rfl, rfl, rfl⟩
    refine vc_sound pg_ok 200 _ _ ?_
    exact ⟨congrArg GV.b (fin _), rfl⟩
end Go.Proofs.YtpenlenmpigomaaGreatDoor
/-
  Contracts: errors told apart: an error at a place (*api.At).
-/
namespace Go.Proofs.YtpenlenmpigomaaGreatDoor
open Go.GK Go.RowKit
set_option maxRecDepth 100000
/-- An error at a place. -/
abbrev atG (m p : Int) : GV := .ifc 60 (.r [gi m, gi p])
theorem asAt_ct (m p old : Int) : Ct pg 45 1 [atG m p, .ifc 89 (.p 0 0)] [(0, .blk 25 [gi old])] (fun g σ n => g = .v (.bool true) ∧ σ = [(0, .blk 25 [gi m])] ∧ n = 1) :=
  Ct.set1g (p := pg) (G := fun u w => w.cell? ⟨1, 0, none⟩ = some rtV ∧ ∃ a, u = .pointer (some a) ∧ w.cell? a = some (.int .i64 m)) (.r [gi m, gi p]) (.int .i64 old) (.int .i64 m) (.bool true) (fun _ _ _ _ hg hs hi => ⟨errG_of hg hs, hi.r0 hs⟩) fun u t w hg h1 h2 => by
    obtain ⟨hg, a, rfl, ha⟩ := hg
    refine (as_hit_at m a t _ w ha hg h1 h2).mono fun e w' ⟨he, hw⟩ => ?_
    obtain ⟨w5, hb, hw5⟩ := asW_below t m w
    exact ⟨he, w5, hb, hw.trans hw5⟩
theorem tellAt_rt (m p : Int) : Rt pg 34 [atG m p] (gi m) := by
  refine Rt.of pg_ok Tryz.func34 rfl Tryz.ntmps34 rfl Tryz.results34 Tryz.call34 fun H0 S0 w0 h0 g0 => ?_
  refine p2 ?_
  refine JK.call (n0 := 1) (r := id) (asAt_ct m p 0) Tryz.call45 rfl rfl rfl rfl rfl ⟨rfl, trivial⟩ rfl (by simp) ?_
  rintro g σ' n' ⟨rfl, rfl, rfl⟩
  refine V ?_
  exact ⟨rfl, rfl⟩
theorem isAt (u : Value) (w : World) : (Instr.typeAssert (.iface 60 u) 36 60 true).run Tryz.prog w = .ok (.tuple #[u, .bool true]) w := by kernel_rfl
theorem tupR {H : Hid} {x : GV} {a b : Value} (h : Is H x a) : Is H (.tup [x, .v b]) (.tuple #[a, b]) := .tup rfl fun j g hj => by
  match j with
  | 0 => simp at hj; subst hj; exact h
  | 1 => simp at hj; subst hj; exact .ro (.v b)
  | j + 2 => simp at hj
theorem placeAt_rt (m p : Int) : Rt pg 21 [atG m p] (.tup [gi m, gi p]) := by
  refine Rt.of pg_ok Tryz.func21 rfl Tryz.ntmps21 rfl Tryz.results21 Tryz.call21 fun H0 S0 w0 h0 g0 => ?_
  refine GO (tellAt_rt m p) rfl ?_
  refine JK.loopE (α := Unit) (β := Unit) (fun _ => ⟨[(0, atG m p), (4, gi m)], [], 0⟩) (fun _ => True) (fun _ => 0) (fun _ => ⟨[], [], 0⟩) (fun _ => False) () id ?_ trivial ?_ ?_
  · exact ⟨⟨rfl, rfl, trivial⟩, trivial, rfl⟩
  · intro _ _
    refine V ?_
    refine p1 ?_
    refine JK.tassert (t := 60) (g := .r [gi m, gi p]) (r := .tup [.r [gi m, gi p], .v (.bool true)]) (fun H u w hu => ⟨_, isAt u w, tupR hu⟩) rfl rfl rfl ?_
    refine V ?_
    repeat (first | refine p1 ?_ | refine p2 ?_ | refine p3 ?_ | refine p4 ?_)
    refine ⟨by kernel_rfl, ?_⟩
    exact ⟨⟨rfl, rfl, trivial⟩, rfl⟩
  · intro _ h
    exact h.elim
theorem isAt_rt (m p e q : Int) : Rt pg 8 [atG m p, .agg [gi e, gi q]] (.b (m == e && p == q)) := by
  refine Rt.of pg_ok Tryz.func8 rfl Tryz.ntmps8 rfl Tryz.results8 Tryz.call8 fun H0 S0 w0 h0 g0 => ?_
  refine GO (placeAt_rt m p) rfl ?_
  rcases tf (m == e) with h | h
  · refine p1 ?_ h
    exact ⟨by rw [h]; rfl, rfl⟩
  · refine p2 ?_ h
    exact ⟨by rw [h]; rfl, rfl⟩
theorem isE_rt (x : Option Int) (e p : Int) : Rt pg 8 [erG x, .agg [gi e, gi p]] (.b (erN x == e && -1 == p)) := Rq.old Tryz.call8 (is_ct x e p)
theorem bareE_rt (x : Option Int) (e : Int) : Rt pg 15 [erG x, gi e] (.b (erN x == e)) := Rq.old Tryz.call15 (bare_ct x e)
end Go.Proofs.YtpenlenmpigomaaGreatDoor
