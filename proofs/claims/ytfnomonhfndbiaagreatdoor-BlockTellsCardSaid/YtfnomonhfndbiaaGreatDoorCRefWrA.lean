/-
  Contracts: the document's bytes: a number, a text.
-/
import Derived.Test.YtfnomonhfndbiaaGreatDoorCWrA
import Derived.Test.YtfnomonhfndbiaaGreatDoorCTkA
import Derived.Test.YtfnomonhfndbiaaGreatDoorCBld
import Derived.Test.YtfnomonhfndbiaaGreatDoorCRefChunk
namespace Go.Proofs.YtfnomonhfndbiaaGreatDoor
open Go.GK Go.PL Go.RowKit
set_option maxRecDepth 100000
theorem low_row (u : Nat) : [[GV.v (.int .u8 (IntKind.u8.wrap ((u : Int).tmod 256)))]] = [UInt8.ofNat u].map byRow := by
  have e : (u : Int).tmod 256 = ((u % 256 : Nat) : Int) := by
    rw [Int.tmod_eq_emod_of_nonneg (by omega)]
    omega
  rw [e, u8lo]
  show _ = [[GV.v (.int .u8 ((UInt8.ofNat u).toNat : Int))]]
  have h : UInt8.ofNat (u % 256) = UInt8.ofNat u := by
    apply UInt8.toNat_inj.1
    rw [UInt8.toNat_ofNat', UInt8.toNat_ofNat']
    omega
  rw [h]
theorem ba_cons (b : UInt8) (L : List UInt8) : (⟨[b].toArray⟩ : ByteArray) ++ ⟨L.toArray⟩ = ⟨(b :: L).toArray⟩ := by
  apply ByteArray.ext
  rw [ByteArray.data_append]
  simp
theorem eight_rt (n : Int) : Rt pg 15 [gi n] (gs (wrN n)) := by
  refine Rt.of pg_ok Tryz.func15 rfl Tryz.ntmps15 rfl Tryz.results15 Tryz.call15 fun H0 S0 w0 h0 g0 => ?_
  have e2 : IntKind.u64.wrap n = ((uN n : Nat) : Int) := by rw [IntKind.wrap_u64]; unfold uN; omega
  have hu : uN n < 18446744073709551616 := by unfold uN; omega
  refine JK.loopE (α := Nat) (β := Unit) (fun j => ⟨[(3, gs ⟨((be8 (uN n)).drop (8 - j)).toArray⟩), (4, g64 (uN n / 2 ^ (8 * j))), (7, gi j)], [], 0⟩) (fun j => j ≤ 8) (fun j => 8 - j)
    (fun _ => ⟨[(3, gs (wrN n))], [], 0⟩) (fun _ => True) 0 id ?_ (by decide) ?_ ?_
  · exact ⟨⟨rfl, by rw [e2, Nat.mul_zero, Nat.pow_zero, Nat.div_one]; rfl, rfl, trivial⟩, trivial, rfl⟩
  · intro j hj
    refine V ?_
    by_cases hlt : j < 8
    · have hL : (be8 (uN n)).drop (8 - (j + 1)) = UInt8.ofNat (uN n / 2 ^ (8 * j)) :: (be8 (uN n)).drop (8 - j) := by
        have h8 : (be8 (uN n)).length = 8 := rfl
        have hi : 8 - (j + 1) < (be8 (uN n)).length := by omega
        rw [List.drop_eq_getElem_cons hi]
        have ha := be8_at (u := uN n) (j := 8 - (j + 1)) (by omega)
        rw [List.getElem?_eq_getElem hi] at ha
        rw [Option.some.inj ha, show 7 - (8 - (j + 1)) = j by omega, show 8 - (j + 1) + 1 = 8 - j by omega]
      have hd : uN n / 2 ^ (8 * j) / 256 = uN n / 2 ^ (8 * (j + 1)) := by
        rw [Nat.div_div_eq_div_mul, show 8 * (j + 1) = 8 * j + 8 by omega, Nat.pow_add]
      have hb : uN n / 2 ^ (8 * j) ≤ uN n := Nat.div_le_self _ _
      generalize uN n / 2 ^ (8 * j) = v at hL hd hb ⊢
      refine p1 ?_ (decide_eq_true (by omega))
      refine ⟨by decide, ?_⟩
      refine ⟨[UInt8.ofNat v], low_row v, ?_⟩
      refine ⟨by show 1 + ((be8 (uN n)).drop (8 - j)).toArray.size ≤ _; rw [List.size_toArray, List.length_drop]; have : (be8 (uN n)).length = 8 := rfl; omega, ?_⟩
      refine ⟨by decide, ?_⟩
      refine ⟨j + 1, id, ⟨⟨?_, ?_, succ_gi (by omega), trivial⟩, trivial, rfl⟩, hlt, by show 8 - (j + 1) < 8 - j; omega⟩
      · refine congrArg (fun x => some (gs x)) ?_
        show (⟨[UInt8.ofNat v].toArray⟩ : ByteArray) ++ _ = _
        rw [ba_cons, hL]
      · refine congrArg (fun x => some (GV.v (.int .u64 x))) ?_
        rw [← hd, Int.tdiv_eq_ediv_of_nonneg (by omega), IntKind.wrap_u64]
        omega
    · obtain rfl : j = 8 := by omega
      refine p2 ?_ (decide_eq_false (by decide))
      exact ⟨(), id, ⟨⟨rfl, trivial⟩, trivial, rfl⟩, trivial⟩
  · rintro _ _
    refine V ?_
    exact ⟨rfl, rfl⟩
theorem text_rt (s : ByteArray) (hs : s.size ≤ 1000000) : Rt pg 38 [gs s] (gs (wrT s)) := by
  refine Rt.of pg_ok Tryz.func38 rfl Tryz.ntmps38 rfl Tryz.results38 Tryz.call38 fun H0 S0 w0 h0 g0 => ?_
  refine GO (eight_rt s.size) rfl ?_
  refine ⟨by rw [wrN_size]; omega, ?_⟩
  exact ⟨rfl, rfl⟩
end Go.Proofs.YtfnomonhfndbiaaGreatDoor


namespace Go.Proofs.YtfnomonhfndbiaaGreatDoor
open Go.GK Go.PL Go.RowKit
set_option maxRecDepth 100000
def wsG (l : List Ser) : Option Nat → GV
  | none => .tup [gs (wrS l), .agg [gi 0, gi (-1)]]
  | some i => .tup [gs ⟨#[]⟩, .agg [gi 1, gi i]]
theorem wrR_snoc' (l : List Ser) (x : Ser) : wrR (l ++ [x]) = wrR l ++ (wrN x.labels.length ++ wrP x.labels) ++ wrT (enc x.samples) := by
  rw [wrR_app]
  simp only [wrR, app_nil]
  unfold wr1 wrL
  simp only [ByteArray.append_assoc]
theorem wrP_snoc' (l : List Lb) (x : Lb) : wrP (l ++ [x]) = wrP l ++ (wrT x.name ++ wrT x.value) := by
  rw [wrP_app]
  simp only [wrP, app_nil]
theorem rwrite_yes {xs : List Sm} (hV : V64 xs) (h : okS xs = true) : Rt pg 37 [sms xs] (.tup [gs (enc xs), gi 0]) := Rq.old Tryz.call37 (refWrite_ct xs hV h)
theorem rwrite_no {xs : List Sm} (hl : xs.length ≤ 1000000) (h : okS xs = false) : Rt pg 37 [sms xs] (.tup [gs ⟨#[]⟩, gi 1]) := Rq.old Tryz.call37 (refWriteNo_ct xs hl h)
theorem ws_rt (l : List Ser) (hl : (wrS l).size ≤ 100000) (hV : ∀ x ∈ l, V64 x.samples) (hlab : ∀ x ∈ l, x.labels.length ≤ 1000000 ∧ x.samples.length ≤ 1000000 ∧ ∀ y ∈ x.labels, y.name.size < 4611686018427387904 ∧ y.value.size < 4611686018427387904) : Rt pg 14 [ses l] (wsG l (badI l)) := by
  have hS : (wrS l).size = 8 + (wrR l).size := by unfold wrS; rw [ByteArray.size_append, wrN_size]
  have hbig := wrR_big l
  refine Rt.of pg_ok Tryz.func14 rfl Tryz.ntmps14 rfl Tryz.results14 Tryz.call14 fun H0 S0 w0 h0 g0 => ?_
  refine JK.bld 1 (e := 5) (by decide) rfl fun fp0 => ?_
  refine GO (eight_rt (l.map se).length) rfl ?_
  refine GOH (writeString_hf ByteArray.empty (wrN (l.map se).length) fp0 (by rw [wrN_size]; decide)) (r1 0 1) rfl rfl ⟨rfl, trivial⟩ rfl (by exact r1_lt rfl) ?_
  rintro _ _ _ ⟨rfl, ⟨fp1, rfl⟩, rfl⟩
  refine JK.loopE (α := Nat × List Nat) (β := List Nat) (fun a => ⟨[(3, .p 0 0), (4, .p 1 0), (15, ses l), (16, gi (l.map se).length), (17, gi a.1)], [(0, .blk 50 [gi 0, gi 0]), (1, .ab (bd (wrN l.length ++ wrR (l.take a.1)) a.2))], 2⟩)
    (fun a => a.1 ≤ l.length ∧ ∀ i (hi : i < l.length), i < a.1 → goodB l[i] = true) (fun a => l.length - a.1)
    (fun fp => ⟨[(3, .p 0 0), (4, .p 1 0)], [(0, .blk 50 [gi 0, gi 0]), (1, .ab (bd (wrS l) fp))], 2⟩) (fun _ => ∀ i (hi : i < l.length), goodB l[i] = true) (0, fp1) id ?_ ?_ ?_ ?_
  · refine ⟨⟨rfl, rfl, rfl, rfl, rfl, trivial⟩, ⟨rfl, ?_, trivial⟩, rfl⟩
    show some (Res.ab (bd (ByteArray.empty ++ wrN (l.map se).length) fp1)) = some (Res.ab (bd (wrN l.length ++ wrR (l.take 0)) fp1))
    rw [ByteArray.empty_append, List.length_map, List.take_zero]
    show _ = some (Res.ab (bd (wrN l.length ++ ByteArray.empty) fp1))
    rw [app_nil]
  · exact ⟨Nat.zero_le _, fun i _ h => absurd h (by omega)⟩
  · rintro ⟨j, fp⟩ ⟨hj, hgood⟩
    replace hj : j ≤ l.length := hj
    refine V ?_
    by_cases hlt : j < l.length
    · have hA := wrR_le l j
      have hB := wrR_le l (j + 1)
      have hsn := wrR_snoc' (l.take j) l[j]
      rw [List.take_append_getElem hlt] at hsn
      have hsz := congrArg ByteArray.size hsn
      simp only [ByteArray.size_append, wrN_size] at hsz
      have hsx : (wrT (enc l[j].samples)).size = 8 + (enc l[j].samples).size := by unfold wrT; rw [ByteArray.size_append, wrN_size]
      have hbad : goodB l[j] = false → badI l = some j := fun h => badI_some hlt h fun i hi => hgood i (by omega) hi
      obtain ⟨hl1, hl2, hl3⟩ := hlab l[j] (List.getElem_mem hlt)
      refine p1 ?_ (decide_eq_true (by simp only [List.length_map]; omega))
      refine ix (h := ?_)
      rcases tf (okS l[j].samples) with hok | hok
      · refine GO (rwrite_yes (hV l[j] (List.getElem_mem hlt)) hok) rfl ?_
        repeat (first | refine p1 ?_ | refine p2 ?_ | refine p3 ?_ | refine p4 ?_)
        have hr := labelsW_rt l[j].labels hl1 hl3
        rcases tf (rightF l[j].labels) with hR | hR
        · refine GO (hr.bt hR) rfl ?_
          repeat (first | refine p1 ?_ | refine p2 ?_ | refine p3 ?_ | refine p4 ?_)
          refine GO (eight_rt (l[j].labels.map lb).length) rfl ?_
          refine GOH (writeString_hf _ (wrN (l[j].labels.map lb).length) fp (by rw [wrN_size]; simp only [ByteArray.size_append, wrN_size]; omega)) (r1 0 1) rfl rfl ⟨rfl, trivial⟩ rfl (by exact r1_lt rfl) ?_
          rintro _ _ _ ⟨rfl, ⟨fp2, rfl⟩, rfl⟩
          refine JK.loopE (α := Nat × List Nat) (β := List Nat) (fun a => ⟨[(3, .p 0 0), (4, .p 1 0), (15, ses l), (16, gi (l.map se).length), (17, gi j), (7, gs (enc l[j].samples)), (44, lbs l[j].labels), (45, gi (l[j].labels.map lb).length), (46, gi a.1)], [(0, .blk 50 [gi 0, gi 0]), (1, .ab (bd (wrN l.length ++ wrR (l.take j) ++ (wrN l[j].labels.length ++ wrP (l[j].labels.take a.1))) a.2))], 2⟩)
            (fun a => a.1 ≤ l[j].labels.length) (fun a => l[j].labels.length - a.1)
            (fun fp => ⟨[(3, .p 0 0), (4, .p 1 0), (15, ses l), (16, gi (l.map se).length), (17, gi j), (7, gs (enc l[j].samples))], [(0, .blk 50 [gi 0, gi 0]), (1, .ab (bd (wrN l.length ++ wrR (l.take j) ++ (wrN l[j].labels.length ++ wrP l[j].labels)) fp))], 2⟩) (fun _ => True) (0, fp2) id ?_ (Nat.zero_le _) ?_ ?_
          · refine ⟨⟨rfl, rfl, rfl, rfl, rfl, rfl, rfl, rfl, rfl, trivial⟩, ⟨rfl, ?_, trivial⟩, rfl⟩
            show some (Res.ab (bd (wrN l.length ++ wrR (l.take j) ++ wrN (l[j].labels.map lb).length) fp2)) = some (Res.ab (bd (wrN l.length ++ wrR (l.take j) ++ (wrN l[j].labels.length ++ wrP (l[j].labels.take 0))) fp2))
            rw [List.length_map, List.take_zero]
            show _ = some (Res.ab (bd (wrN l.length ++ wrR (l.take j) ++ (wrN l[j].labels.length ++ ByteArray.empty)) fp2))
            rw [app_nil]
          · rintro ⟨i, fp⟩ hi
            replace hi : i ≤ l[j].labels.length := hi
            refine V ?_
            by_cases hilt : i < l[j].labels.length
            · have hC := wrP_le l[j].labels i
              have hD := wrP_le l[j].labels (i + 1)
              have hsp := wrP_snoc' (l[j].labels.take i) l[j].labels[i]
              rw [List.take_append_getElem hilt] at hsp
              have hsq := congrArg ByteArray.size hsp
              simp only [ByteArray.size_append] at hsq
              have hy1 : (wrT l[j].labels[i].name).size = 8 + l[j].labels[i].name.size := by unfold wrT; rw [ByteArray.size_append, wrN_size]
              have hy2 : (wrT l[j].labels[i].value).size = 8 + l[j].labels[i].value.size := by unfold wrT; rw [ByteArray.size_append, wrN_size]
              refine p1 ?_ (decide_eq_true (by simp only [List.length_map]; omega))
              refine ix (h := ?_)
              refine DRAW [1] false (tk [0, 1, 3, 4]) (by kernel_rfl) ?_
              refine RGO 2 false [] (text_rt l[j].labels[i].name (by omega)) rfl rfl (by kernel_rfl) ?_
              refine RGO 5 false (tk [6]) (text_rt l[j].labels[i].value (by omega)) rfl rfl (by kernel_rfl) ?_
              refine ⟨by omega, ?_⟩
              refine RGOH 7 true [] (writeString_hf _ (wrT l[j].labels[i].name ++ wrT l[j].labels[i].value) fp (by simp only [ByteArray.size_append, wrN_size]; omega)) (r1 0 1) rfl rfl rfl ⟨rfl, trivial⟩ rfl (by exact r1_lt rfl) (by kernel_rfl) ?_
              rintro _ _ _ ⟨rfl, ⟨fp3, rfl⟩, rfl⟩
              refine V ?_
              refine ⟨(i + 1, fp3), id, ⟨⟨rfl, rfl, rfl, rfl, rfl, rfl, rfl, rfl, succ_gi (by omega), trivial⟩, ⟨rfl, ?_, trivial⟩, rfl⟩, hilt, by show l[j].labels.length - (i + 1) < l[j].labels.length - i; omega⟩
              refine congrArg (fun x => some (Res.ab (bd x fp3))) ?_
              rw [hsp]
              simp only [ByteArray.append_assoc]
            · obtain rfl : i = l[j].labels.length := by omega
              refine p2 ?_ (decide_eq_false (by simp only [List.length_map]; omega))
              refine ⟨fp, id, ⟨⟨rfl, rfl, rfl, rfl, rfl, rfl, trivial⟩, ⟨rfl, ?_, trivial⟩, rfl⟩, trivial⟩
              rw [List.take_length]
              rfl
          · rintro fp3 _
            refine V ?_
            refine GO (text_rt (enc l[j].samples) (by omega)) rfl ?_
            refine GOH (writeString_hf _ (wrT (enc l[j].samples)) fp3 (by simp only [ByteArray.size_append, wrN_size]; omega)) (r1 0 1) rfl rfl ⟨rfl, trivial⟩ rfl (by exact r1_lt rfl) ?_
            rintro _ _ _ ⟨rfl, ⟨fp4, rfl⟩, rfl⟩
            refine ⟨(j + 1, fp4), id, ⟨⟨rfl, rfl, rfl, rfl, succ_gi (by omega), trivial⟩, ⟨rfl, ?_, trivial⟩, rfl⟩, ⟨hlt, fun i hi hij => ?_⟩, by show l.length - (j + 1) < l.length - j; omega⟩
            · refine congrArg (fun x => some (Res.ab (bd x fp4))) ?_
              rw [hsn]
              simp only [ByteArray.append_assoc]
            · rcases Nat.lt_succ_iff_lt_or_eq.1 hij with h | h
              · exact hgood i hi h
              · subst h
                unfold goodB
                rw [hok, hR]
                rfl
        · rw [hbad (by unfold goodB; rw [hok, hR]; rfl)]
          refine GO (hr.bt hR) rfl ?_
          repeat (first | refine p1 ?_ | refine p2 ?_ | refine p3 ?_ | refine p4 ?_)
          exact ⟨⟨rfl, rfl, trivial⟩, rfl⟩
      · rw [hbad (by unfold goodB; rw [hok]; rfl)]
        refine GO (rwrite_no hl2 hok) rfl ?_
        repeat (first | refine p1 ?_ | refine p2 ?_ | refine p3 ?_ | refine p4 ?_)
        exact ⟨⟨rfl, rfl, trivial⟩, rfl⟩
    · obtain rfl : j = l.length := by omega
      refine p2 ?_ (decide_eq_false (by simp only [List.length_map]; omega))
      refine ⟨fp, id, ⟨⟨rfl, rfl, trivial⟩, ⟨rfl, ?_, trivial⟩, rfl⟩, fun i hi => hgood i hi hi⟩
      rw [List.take_length]
      rfl
  · rintro fp hgood
    rw [badI_none hgood]
    refine V ?_
    refine DRAW [0, 1] false (tk [1]) (by kernel_rfl) ?_
    refine RGOH 0 true (tk [2] ++ al [3]) (string_hf (wrS l) fp) (r1 0 1) rfl rfl rfl ⟨rfl, trivial⟩ rfl (by exact r1_lt rfl) (by kernel_rfl) ?_
    rintro _ _ _ ⟨rfl, rfl, rfl⟩
    refine V ?_
    exact ⟨⟨rfl, rfl, trivial⟩, rfl⟩
end Go.Proofs.YtfnomonhfndbiaaGreatDoor
