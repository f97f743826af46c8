/-
  Contracts: a writer of bytes (code.Writer).
-/
import Derived.Test.YtcdnilijfnfkbaaDoorCRdA
import Derived.Test.YtcdnilijfnfkbaaDoorGKh
namespace Go.Proofs.YtcdnilijfnfkbaaDoor
open Go.GK Go.PL Go.RowKit
set_option maxRecDepth 100000
abbrev wH (b r : Nat) (bs : List UInt8) : Heap := [(b, .blk 76 [.o r]), (r, .row 5 1 (bs.map byRow))]
theorem be8_at {u j : Nat} (h : j < 8) : (be8 u)[j]? = some (UInt8.ofNat (u / 2 ^ (8 * (7 - j)))) := by
  match j, h with
  | 0, _ | 1, _ | 2, _ | 3, _ | 4, _ | 5, _ | 6, _ => rfl
  | 7, _ => show some (UInt8.ofNat u) = some (UInt8.ofNat (u / 1)); rw [Nat.div_one]
theorem num_row (bs : List UInt8) (n : Int) (j : Nat) (h : j < 8) (X : Int) (hX : X = ((UInt8.ofNat (uN n / 2 ^ (8 * (7 - j)))).toNat : Int)) :
    some (Res.row 5 1 ((bs ++ (be8 (uN n)).take j).map byRow ++ [[GV.v (.int .u8 X)]])) = some (Res.row 5 1 ((bs ++ (be8 (uN n)).take (j + 1)).map byRow)) := by
  refine congrArg (fun x => some (Res.row 5 1 x)) ?_
  rw [List.take_add_one, be8_at h, hX]
  simp only [List.map_append, List.append_assoc]
  rfl
theorem u8lo {n : Nat} : IntKind.u8.wrap (n : Int) = ((UInt8.ofNat n).toNat : Int) := by
  rw [UInt8.toNat_ofNat']
  simp [IntKind.wrap, IntKind.signed, IntKind.bits]
theorem num_byte (n : Int) (j : Nat) (h : j < 8) : IntKind.u8.wrap ((IntKind.u64.wrap n).fdiv (2 ^ min (IntKind.i64.wrap (8 * (7 - (j : Int)))).toNat IntKind.u64.bits)) = ((UInt8.ofNat (uN n / 2 ^ (8 * (7 - j)))).toNat : Int) := by
  have e1 : IntKind.i64.wrap (8 * (7 - (j : Int))) = ((8 * (7 - j) : Nat) : Int) := by rw [wrap_id (by omega) (by omega)]; omega
  have e2 : IntKind.u64.wrap n = ((uN n : Nat) : Int) := by rw [IntKind.wrap_u64]; unfold uN; omega
  rw [e1, e2, show IntKind.u64.bits = 64 from rfl, fdiv_pow (uN n) (8 * (7 - j)) 64 (by omega), u8lo, Nat.shiftRight_eq_div_pow]
theorem wnum_hf (bs : List UInt8) (n : Int) (hl : bs.length ≤ 1000000000) : Hf pg 34 2 [.p 0 0, gi n] (wH 0 1 bs) (fun g σ m => g = .tup [] ∧ σ = wH 0 2 (bs ++ be8 (uN n)) ∧ m = 3) := by
  refine Hf.of pg_ok Tryd.func34 rfl Tryd.ntmps34 rfl Tryd.results34 Tryd.call34 fun H0 S0 w0 h0 g0 => ?_
  refine JK.loopE (α := Nat) (β := Unit) (fun j => ⟨[(0, .p 0 0), (1, gi n), (4, gi (7 - (j : Int)))], wH 0 2 (bs ++ (be8 (uN n)).take j), 3⟩) (fun j => j ≤ 8) (fun j => 8 - j)
    (fun _ => ⟨[], wH 0 2 (bs ++ be8 (uN n)), 3⟩) (fun _ => True) 0 (r1 2 1) ?_ (by decide) ?_ ?_
  · exact ⟨⟨rfl, rfl, rfl, trivial⟩, ⟨rfl, by rw [List.take_zero, List.append_nil]; rfl, trivial⟩, rfl⟩
  · intro j hj
    refine V ?_
    by_cases hlt : j < 8
    · refine p1 ?_ (decide_eq_true (by omega))
      refine JK.drawJ [0, 2] ⟨[(0, .p 0 0), (1, gi n), (4, gi (7 - (j : Int)))], wH 0 2 (bs ++ (be8 (uN n)).take (j + 1)), 3⟩ pg_ok ?_ (fun hk => ?_)
      · refine V ?_
        refine ⟨j + 1, id, ⟨⟨rfl, rfl, ?_, trivial⟩, ⟨rfl, rfl, trivial⟩, rfl⟩, hlt, by show 8 - (j + 1) < 8 - j; omega⟩
        rw [wrap_id (by omega) (by omega)]
        exact congrArg (fun x => some (gi x)) (show (7 : Int) - (j : Int) - 1 = 7 - ((j + 1 : Nat) : Int) by omega)
      · refine RA.run (cx := ⟨pg, _, _, _, _, _, _, _⟩) pg_ok (by kernel_rfl) (by intro _ _ h; exact h) (tk [0, 1, 2, 3, 5, 6, 7, 8, 9, 10]) (e := false) (by kernel_rfl) ?_
        refine ⟨by rw [wrap_id (by omega) (by omega)]; omega, ?_⟩
        refine RA.both 4 11 (eqB_eq (by kernel_rfl)) (Stp.read 4 pg_ok rfl rfl ?_) (Stp.mem 11 pg_ok rfl rfl rfl ?_)
        · refine RA.run (cx := ⟨pg, _, _, _, _, _, _, _⟩) pg_ok (by kernel_rfl) (by intro _ _ h; exact h) (al [11, 12] ++ tk [13, 14] ++ al [15]) (e := false) (by kernel_rfl) ?_
          refine ⟨by simp only [List.length_map, List.length_append, List.length_take, List.length_cons, List.length_nil]; omega, ?_⟩
          refine RA.endJ (r1 2 4) (by kernel_rfl) hk ⟨⟨rfl, rfl, rfl, trivial⟩, ⟨rfl, ?_, trivial⟩, rfl⟩
          refine num_row bs n j hlt _ ?_
          exact num_byte n j hlt
        · refine RA.run (cx := ⟨pg, _, _, _, _, _, _, _⟩) pg_ok (by kernel_rfl) (by intro _ _ h; exact h) (al [4, 12] ++ tk [13, 14] ++ al [15]) (e := false) (by kernel_rfl) ?_
          refine ⟨by simp only [List.length_map, List.length_append, List.length_take, List.length_cons, List.length_nil]; omega, ?_⟩
          refine RA.endJ (r1 2 4) (by kernel_rfl) hk ⟨⟨rfl, rfl, rfl, trivial⟩, ⟨rfl, ?_, trivial⟩, rfl⟩
          refine num_row bs n j hlt _ ?_
          exact num_byte n j hlt
    · obtain rfl : j = 8 := by omega
      refine p2 ?_ (decide_eq_false (by decide))
      exact ⟨(), id, ⟨trivial, ⟨rfl, rfl, trivial⟩, rfl⟩, trivial⟩
  · rintro _ _
    refine V ?_
    exact ⟨rfl, rfl, rfl⟩
theorem wrT_list (s : ByteArray) : (wrT s).data.toList = be8 (uN s.size) ++ s.data.toList := by
  unfold wrT
  rw [ByteArray.data_append, Array.toList_append]
  rfl
theorem wtext_hf (bs : List UInt8) (s : ByteArray) (hl : bs.length + s.size ≤ 100000000) : Hf pg 53 2 [.p 0 0, gs s] (wH 0 1 bs) (fun g σ m => g = .tup [] ∧ σ = wH 0 2 (bs ++ (wrT s).data.toList) ∧ m = 3) := by
  refine Hf.weak (Q := fun g σ m => g = .tup [] ∧ hlook σ 0 = some (.blk 76 [.o 3]) ∧ hlook σ 3 = some (.row 5 1 ((bs ++ (wrT s).data.toList).map byRow)) ∧ m = 4) (Hf.of pg_ok Tryd.func53 rfl Tryd.ntmps53 rfl Tryd.results53 Tryd.call53 fun H0 S0 w0 h0 g0 => ?_) ?_
  · refine GOJ (wnum_hf bs s.size (by omega)) (rr 0 1) rfl rfl ⟨rfl, rfl, trivial⟩ rfl (rr_lt rfl rfl) ?_
    rintro _ _ _ ⟨rfl, rfl, rfl⟩
    refine VM 8 ?_
    refine JK.appendStr (rows := (bs ++ be8 (uN s.size)).map byRow) pg_ok rfl rfl rfl rfl Tryd.underlying9 rfl rfl rfl (by kernel_rfl) rfl rfl rfl (by simp only [List.length_map, List.length_append]; have : (be8 (uN s.size)).length = 8 := rfl; omega) ?_
    refine V ?_
    refine ⟨rfl, rfl, ?_, rfl⟩
    exact congrArg (fun x => some (Res.row 5 1 x)) (show (bs ++ be8 (uN s.size)).map byRow ++ s.data.toList.map byRow = (bs ++ (wrT s).data.toList).map byRow by rw [wrT_list, ← List.append_assoc, List.map_append (l₁ := bs ++ _)])
  · rintro g σ m ⟨rfl, h1, h2, rfl⟩
    exact ⟨r1 2 3, .tup [], wH 0 2 (bs ++ (wrT s).data.toList), 3, ⟨rfl, rfl, rfl⟩, rfl, ⟨h1, h2, trivial⟩, rfl⟩
theorem bl_size (s : ByteArray) : s.data.toList.length = s.size := rfl
theorem bl_app (a b : ByteArray) : (a ++ b).data.toList = a.data.toList ++ b.data.toList := by rw [ByteArray.data_append, Array.toList_append]
theorem wbytes_hf (bs : List UInt8) : Hf pg 36 2 [.p 0 0] (wH 0 1 bs) (fun g σ m => g = gs ⟨bs.toArray⟩ ∧ σ = wH 0 1 bs ∧ m = 2) := by
  refine Hf.of pg_ok Tryd.func36 rfl Tryd.ntmps36 rfl Tryd.results36 Tryd.call36 fun H0 S0 w0 h0 g0 => ?_
  refine ⟨bs, rfl, ?_⟩
  exact ⟨rfl, rfl, rfl⟩
theorem wrP_snoc (l : List Lb) (x : Lb) : (wrP (l ++ [x])).data.toList = (wrP l).data.toList ++ (wrT x.name).data.toList ++ (wrT x.value).data.toList := by
  rw [wrP_app, bl_app]
  simp only [wrP, app_nil, bl_app, List.append_assoc]
theorem wrP_le (l : List Lb) (j : Nat) : (wrP (l.take j)).size ≤ (wrP l).size := by
  conv => rhs; rw [← List.take_append_drop j l, wrP_app, ByteArray.size_append]
  omega
theorem wrP_big (l : List Lb) : 16 * l.length ≤ (wrP l).size := by
  induction l with
  | nil => exact Nat.le_refl _
  | cons x l ih =>
    have h1 : (wrT x.name).size = 8 + x.name.size := by unfold wrT; rw [ByteArray.size_append, wrN_size]
    have h2 : (wrT x.value).size = 8 + x.value.size := by unfold wrT; rw [ByteArray.size_append, wrN_size]
    simp only [wrP, ByteArray.size_append, List.length_cons]
    omega
theorem wlabels_hf (bs : List UInt8) (l : List Lb) (hl : bs.length + (wrL l).size ≤ 10000000) : Hf pg 52 2 [.p 0 0, lbs l] (wH 0 1 bs) (fun g σ m => g = .tup [] ∧ σ = wH 0 2 (bs ++ (wrL l).data.toList) ∧ m = 3) := by
  have hL : (wrL l).data.toList = be8 (uN l.length) ++ (wrP l).data.toList := by
    unfold wrL
    rw [bl_app]
    rfl
  have hs : (wrL l).size = 8 + (wrP l).size := by unfold wrL; rw [ByteArray.size_append, wrN_size]
  have h8 : (be8 (uN l.length)).length = 8 := rfl
  have hbig := wrP_big l
  have hn := wnum_hf bs (l.map lb).length (by omega)
  refine Hf.of pg_ok Tryd.func52 rfl Tryd.ntmps52 rfl Tryd.results52 Tryd.call52 fun H0 S0 w0 h0 g0 => ?_
  refine GOH hn (rr 0 1) rfl rfl ⟨rfl, rfl, trivial⟩ rfl (rr_lt rfl rfl) ?_
  rintro _ _ _ ⟨rfl, rfl, rfl⟩
  refine JK.loopE (α := Nat) (β := Unit) (fun j => ⟨[(0, .p 0 0), (10, lbs l), (11, gi (l.map lb).length), (12, gi j)], wH 0 2 (bs ++ be8 (uN l.length) ++ (wrP (l.take j)).data.toList), 3⟩) (fun j => j ≤ l.length) (fun j => l.length - j)
    (fun _ => ⟨[], wH 0 2 (bs ++ be8 (uN l.length) ++ (wrP l).data.toList), 3⟩) (fun _ => True) 0 id ?_ (Nat.zero_le _) ?_ ?_
  · refine ⟨⟨rfl, rfl, rfl, rfl, trivial⟩, ⟨rfl, ?_, trivial⟩, rfl⟩
    rw [List.take_zero, List.length_map]
    exact congrArg (fun x : List UInt8 => some (Res.row 5 1 (x.map byRow))) (List.append_nil (bs ++ be8 (uN l.length))).symm
  · intro j hj
    refine V ?_
    by_cases hlt : j < l.length
    · have hA := wrP_le l j
      have hB := wrP_le l (j + 1)
      have hsn := wrP_snoc (l.take j) l[j]
      rw [List.take_append_getElem hlt] at hsn
      have hsz := congrArg List.length hsn
      simp only [List.length_append, bl_size] at hsz
      have hsx : (wrT l[j].name).size = 8 + l[j].name.size := by unfold wrT; rw [ByteArray.size_append, wrN_size]
      have hsy : (wrT l[j].value).size = 8 + l[j].value.size := by unfold wrT; rw [ByteArray.size_append, wrN_size]
      refine p1 ?_ (decide_eq_true (by simp only [List.length_map]; omega))
      refine ix (h := ?_)
      refine GOH (wtext_hf _ l[j].name (by simp only [List.length_append, bl_size]; omega)) (rr 0 2) rfl rfl ⟨rfl, rfl, trivial⟩ rfl (rr_lt rfl rfl) ?_
      rintro _ _ _ ⟨rfl, rfl, rfl⟩
      refine GOH (wtext_hf _ l[j].value (by simp only [List.length_append, bl_size]; omega)) (rr 0 4) rfl rfl ⟨rfl, rfl, trivial⟩ rfl (rr_lt rfl rfl) ?_
      rintro _ _ _ ⟨rfl, rfl, rfl⟩
      refine ⟨j + 1, r1 2 5, ⟨⟨rfl, rfl, rfl, succ_gi (by omega), trivial⟩, ⟨rfl, ?_, trivial⟩, rfl⟩, hlt, by show l.length - (j + 1) < l.length - j; omega⟩
      refine congrArg (fun x : List UInt8 => some (Res.row 5 1 (x.map byRow))) ?_
      rw [hsn]
      simp only [List.append_assoc]
    · obtain rfl : j = l.length := by omega
      refine p2 ?_ (decide_eq_false (by simp only [List.length_map]; omega))
      refine ⟨(), id, ⟨trivial, ⟨rfl, ?_, trivial⟩, rfl⟩, trivial⟩
      rw [List.take_length]
      rfl
  · rintro _ _
    refine V ?_
    exact ⟨rfl, by rw [hL, List.append_assoc], rfl⟩
end Go.Proofs.YtcdnilijfnfkbaaDoor


namespace Go.Proofs.YtcdnilijfnfkbaaDoor
open Go.GK Go.PL Go.RowKit
set_option maxRecDepth 100000
noncomputable def goodB (x : Ser) : Bool := okS x.samples && rightF x.labels
/-- The first that may not be. -/
noncomputable def badI (l : List Ser) : Option Nat := l.findIdx? fun x => !goodB x
theorem badI_none {l : List Ser} (h : ∀ i (hi : i < l.length), goodB l[i] = true) : badI l = none := by
  unfold badI
  rw [List.findIdx?_eq_none_iff]
  intro x hx
  obtain ⟨i, hi, rfl⟩ := List.mem_iff_getElem.1 hx
  rw [h i hi]
  rfl
theorem badI_some {l : List Ser} {j : Nat} (hj : j < l.length) (hb : goodB l[j] = false) (h : ∀ i (hi : i < j), goodB (l[i]'(by omega)) = true) : badI l = some j := by
  unfold badI
  rw [List.findIdx?_eq_some_iff_getElem]
  exact ⟨hj, by rw [hb]; rfl, fun k hk => by rw [h k hk]; decide⟩
theorem wrR_snoc (l : List Ser) (x : Ser) : (wrR (l ++ [x])).data.toList = (wrR l).data.toList ++ (wrL x.labels).data.toList ++ (wrT (enc x.samples)).data.toList := by
  rw [wrR_app, bl_app]
  simp only [wrR, app_nil]
  unfold wr1
  rw [bl_app, List.append_assoc]
theorem wrR_le (l : List Ser) (j : Nat) : (wrR (l.take j)).size ≤ (wrR l).size := by
  conv => rhs; rw [← List.take_append_drop j l, wrR_app, ByteArray.size_append]
  omega
theorem cwrite_yes {xs : List Sm} (h : okS xs = true) : Rt pg 51 [sms xs] (.tup [gs (enc xs), .v .nilIface]) := Rq.old Tryd.call51 (write_ct xs h)
theorem cwrite_no {xs : List Sm} (h : okS xs = false) : Rt pg 51 [sms xs] (.tup [gs ⟨#[]⟩, .ifc 72 (gi 1)]) := Rq.old Tryd.call51 (writeNo_ct xs h)
def SerQ (l : List Ser) (b : Option Nat) : GV → Heap → Nat → Prop := fun g σ n => match b with
  | none => g = .tup [gs (wrS l), .v .nilIface] ∧ σ = [] ∧ n = 0
  | some i => g = .tup [gs ⟨#[]⟩, .ifc 94 (.p 0 0)] ∧ σ = [(0, .blk 96 [gi 1, gi i])] ∧ n = 1
def SerR (l : List Ser) (b : Option Nat) : GV → Heap → Nat → Prop := fun g σ _ => match b with
  | none => g = .tup [gs (wrS l), .v .nilIface]
  | some i => ∃ k, g = .tup [gs ⟨#[]⟩, .ifc 94 (.p k 0)] ∧ hlook σ k = some (.blk 96 [gi 1, gi i])
theorem cser_hf (l : List Ser) (hl : (wrS l).size ≤ 10000000) (hlab : ∀ x ∈ l, Sh x.labels) : Hf pg 35 0 [ses l] [] (SerQ l (badI l)) := by
  refine Hf.weak (Q := SerR l (badI l)) ?_ ?_
  · have hS : (wrS l).size = 8 + (wrR l).size := by unfold wrS; rw [ByteArray.size_append, wrN_size]
    have hSl : (wrS l).data.toList = be8 (uN l.length) ++ (wrR l).data.toList := by
      unfold wrS
      rw [bl_app]
      rfl
    have h8 : (be8 (uN l.length)).length = 8 := rfl
    have hbig := wrR_big l
    have hn := wnum_hf [] (l.map se).length (by simp)
    refine Hf.of pg_ok Tryd.func35 rfl Tryd.ntmps35 rfl Tryd.results35 Tryd.call35 fun H0 S0 w0 h0 g0 => ?_
    refine JK.ownNilB 0 0 5 1 rfl rfl ?_
    refine GOH hn (rr 0 1) rfl rfl ⟨rfl, rfl, trivial⟩ rfl (rr_lt rfl rfl) ?_
    rintro _ _ _ ⟨rfl, rfl, rfl⟩
    refine JK.loopE (α := Nat) (β := Unit) (fun j => ⟨[(4, .p 0 0), (15, ses l), (16, gi (l.map se).length), (17, gi j)], wH 0 2 (be8 (uN l.length) ++ (wrR (l.take j)).data.toList), 3⟩) (fun j => j ≤ l.length ∧ ∀ i (hi : i < l.length), i < j → goodB l[i] = true) (fun j => l.length - j)
      (fun _ => ⟨[(4, .p 0 0)], wH 0 2 (be8 (uN l.length) ++ (wrR l).data.toList), 3⟩) (fun _ => ∀ i (hi : i < l.length), goodB l[i] = true) 0 id ?_ ⟨Nat.zero_le _, fun i _ h => absurd h (by omega)⟩ ?_ ?_
    · refine ⟨⟨rfl, rfl, rfl, rfl, trivial⟩, ⟨rfl, ?_, trivial⟩, rfl⟩
      rw [List.take_zero, List.length_map]
      exact congrArg (fun x : List UInt8 => some (Res.row 5 1 (x.map byRow))) (List.append_nil (be8 (uN l.length))).symm
    · rintro j ⟨hj, hgood⟩
      replace hj : j ≤ l.length := hj
      refine V ?_
      by_cases hlt : j < l.length
      · have hA := wrR_le l j
        have hB := wrR_le l (j + 1)
        have hsn := wrR_snoc (l.take j) l[j]
        rw [List.take_append_getElem hlt] at hsn
        have hsz := congrArg List.length hsn
        simp only [List.length_append, bl_size] at hsz
        have hsx : (wrT (enc l[j].samples)).size = 8 + (enc l[j].samples).size := by unfold wrT; rw [ByteArray.size_append, wrN_size]
        refine p1 ?_ (decide_eq_true (by simp only [List.length_map]; omega))
        refine ix (h := ?_)
        have hbad : goodB l[j] = false → badI l = some j := fun h => badI_some hlt h fun i hi => hgood i (by omega) hi
        rcases tf (okS l[j].samples) with hok | hok
        · refine GO (cwrite_yes hok) rfl ?_
          repeat (first | refine p1 ?_ | refine p2 ?_ | refine p3 ?_ | refine p4 ?_)
          have hr := right_rt l[j].labels (hlab l[j] (List.getElem_mem hlt))
          rcases tf (rightF l[j].labels) with hR | hR
          · refine GO (hr.bt hR) rfl ?_
            repeat (first | refine p1 ?_ | refine p2 ?_ | refine p3 ?_ | refine p4 ?_)
            refine GOH (wlabels_hf _ l[j].labels (by simp only [List.length_append, bl_size]; omega)) (rr 0 2) rfl rfl ⟨rfl, rfl, trivial⟩ rfl (rr_lt rfl rfl) ?_
            rintro _ _ _ ⟨rfl, rfl, rfl⟩
            refine GOH (wtext_hf _ (enc l[j].samples) (by simp only [List.length_append, bl_size]; omega)) (rr 0 4) rfl rfl ⟨rfl, rfl, trivial⟩ rfl (rr_lt rfl rfl) ?_
            rintro _ _ _ ⟨rfl, rfl, rfl⟩
            refine ⟨j + 1, r1 2 5, ⟨⟨rfl, rfl, rfl, succ_gi (by omega), trivial⟩, ⟨rfl, ?_, trivial⟩, rfl⟩, ⟨hlt, fun i hi hij => ?_⟩, by show l.length - (j + 1) < l.length - j; omega⟩
            · refine congrArg (fun x : List UInt8 => some (Res.row 5 1 (x.map byRow))) ?_
              rw [hsn]
              simp only [List.append_assoc]
            · rcases Nat.lt_succ_iff_lt_or_eq.1 hij with h | h
              · exact hgood i hi h
              · subst h
                unfold goodB
                rw [hok, hR]
                rfl
          · rw [hbad (by unfold goodB; rw [hok, hR]; rfl)]
            refine GO (hr.bt hR) rfl ?_
            repeat (first | refine p1 ?_ | refine p2 ?_ | refine p3 ?_ | refine p4 ?_)
            exact ⟨_, rfl, rfl⟩
        · rw [hbad (by unfold goodB; rw [hok]; rfl)]
          refine GO (cwrite_no hok) rfl ?_
          repeat (first | refine p1 ?_ | refine p2 ?_ | refine p3 ?_ | refine p4 ?_)
          exact ⟨_, rfl, rfl⟩
      · obtain rfl : j = l.length := by omega
        refine p2 ?_ (decide_eq_false (by simp only [List.length_map]; omega))
        refine ⟨(), id, ⟨⟨rfl, trivial⟩, ⟨rfl, ?_, trivial⟩, rfl⟩, fun i hi => hgood i hi hi⟩
        rw [List.take_length]
        rfl
    · rintro _ hgood
      rw [badI_none hgood]
      refine V ?_
      refine GOH (wbytes_hf _) (rr 0 2) rfl rfl ⟨rfl, rfl, trivial⟩ rfl (rr_lt rfl rfl) ?_
      rintro _ _ _ ⟨rfl, rfl, rfl⟩
      show GV.tup [_, _] = _
      refine congrArg (fun x => GV.tup [gs x, .v .nilIface]) ?_
      rw [← hSl]
  · intro g σ n hq
    cases hb : badI l with
    | none =>
      rw [hb] at hq
      exact ⟨id, g, [], 0, ⟨hq, rfl, rfl⟩, (ren_id g).symm, trivial, by rw [show g = _ from hq]; rfl⟩
    | some i =>
      rw [hb] at hq
      obtain ⟨k, rfl, hk⟩ := hq
      exact ⟨fun _ => k, .tup [gs ⟨#[]⟩, .ifc 94 (.p 0 0)], [(0, .blk 96 [gi 1, gi i])], 1, ⟨rfl, rfl, rfl⟩, rfl, ⟨hk, trivial⟩, rfl⟩
end Go.Proofs.YtcdnilijfnfkbaaDoor
