/-
  Contracts: notes: just these.
-/
import Derived.Test.YtbapgglhpbbonaaDoorCWal2
namespace Go.Proofs.YtbapgglhpbbonaaDoor
open Go.GK Go.PL Go.RowKit
set_option maxRecDepth 100000
theorem frs_take (l : List ByteArray) (i : Nat) (h : i < l.length) : frs (l.take (i + 1)) = frs (l.take i) ++ frameF l[i] := by
  rw [List.take_add_one, List.getElem?_eq_getElem h, frs_app]
  show _ ++ (frameF l[i] ++ ByteArray.empty) = _
  simp
theorem frs_take_le (l : List ByteArray) (i : Nat) : (frs (l.take i)).size ≤ (frs l).size := by
  have e := congrArg ByteArray.size (congrArg frs (List.take_append_drop i l))
  rw [frs_app, ByteArray.size_append] at e
  omega
theorem set_hf (d : Dk) (fp : List Nat) (B : Nat) (hok : d.ok B) (l : List ByteArray) (hl : ∀ x ∈ l, x.size ≤ 60000) (hB : B + (frs l).size ≤ 1000000000000) (c : Bool) : Hf pg 31 2 [.p 1 0, .sl 1 (l.map fun x => [gs x])] [(0, .ab (dk d fp)), wl 1 0 c] (WalQ (erG (setF l d).1) c (setF l d).2) := by
  have hll := frs_len l
  have hclr := clrF_ok hok
  generalize hR : setF l d = R
  refine WalQ.of (by cases R.1 <;> rfl) (Hf.of pg_ok Tryd.func31 rfl Tryd.ntmps31 rfl Tryd.results31 Tryd.call31 fun H0 S0 w0 h0 g0 => ?_)
  refine GOH (read_hf d fp B hok fN) id rfl rfl ⟨rfl, trivial⟩ rfl (by simp) ?_
  rintro _ _ _ ⟨rfl, ⟨fp1, rfl⟩, rfl⟩
  have hrem := remove_hf d fp1 B hok fN
  cases hf : fnd fN d with
  | none =>
    have hcl : clrF d = (none, d) := by unfold clrF; rw [hf]
    refine p2 ?_
    have hap := append_hf d fp1 B hok fN (frs l) (by omega)
    have hok2 := appendF_ok hok fN (frs l)
    generalize hA : appendF fN (frs l) d = A at hap hok2
    obtain ⟨e1, d2⟩ := A
    have hsy := fun fp => sync_hf d2 fp (B + (frs l).size) hok2 fN
    have hok3 := syncF_ok hok2 fN
    generalize hA2 : syncF fN d2 = A2 at hsy hok3
    obtain ⟨e2, d3⟩ := A2
    have hmv := fun fp => move_hf d3 fp (B + (frs l).size) hok3 fN nN
    refine JK.bld 2 (e := 5) (by decide) rfl fun fpb => ?_
    refine JK.loopE (α := Nat × List Nat) (β := List Nat) (fun a => ⟨[(0, .p 1 0), (31, .sl 1 (l.map fun x => [gs x])), (32, gi l.length), (33, gi a.1), (8, .p 2 0)], [(0, .ab (dk d fp1)), wl 1 0 c, (2, .ab (bd (frs (l.take a.1)) a.2))], 3⟩) (fun a => a.1 ≤ l.length) (fun a => l.length - a.1) (fun f => ⟨[(0, .p 1 0), (8, .p 2 0)], [(0, .ab (dk d fp1)), wl 1 0 c, (2, .ab (bd (frs l) f))], 3⟩) (fun _ => True) (0, fpb) id ?_ (Nat.zero_le _) ?_ ?_
    · exact ⟨⟨rfl, rfl, by simp; rfl, rfl, rfl, trivial⟩, ⟨rfl, rfl, rfl, trivial⟩, rfl⟩
    · rintro ⟨i, f⟩ hi
      replace hi : i ≤ l.length := hi
      refine V ?_
      by_cases hlt : i < l.length
      · have hx := hl l[i] (List.getElem_mem hlt)
        have hle := frs_take_le l i
        refine p1 ?_
        refine ix (h := ?_)
        refine GO (frame_rt l[i] (by omega)) rfl ?_
        refine GOH (writeString_hf (frs (l.take i)) (frameF l[i]) f (by rw [frameF_size]; omega)) (fun _ => 2) rfl rfl ⟨rfl, trivial⟩ rfl (by simp) ?_
        rintro _ _ _ ⟨rfl, ⟨f', rfl⟩, rfl⟩
        refine ⟨(i + 1, f'), id, ⟨⟨rfl, rfl, rfl, succ_gi (by omega), rfl, trivial⟩, ⟨rfl, rfl, ?_, trivial⟩, rfl⟩, hlt, by show l.length - (i + 1) < l.length - i; omega⟩
        exact congrArg (fun x => some (Res.ab (bd x f'))) (frs_take l i hlt).symm
      · refine p2 ?_
        obtain rfl : i = l.length := by omega
        refine ⟨f, id, ⟨⟨rfl, rfl, trivial⟩, ⟨rfl, rfl, ?_, trivial⟩, rfl⟩, trivial⟩
        rw [show frs (l.take (l.length, f).1) = frs l by rw [List.take_length]]
        rfl
    · rintro f _
      refine V ?_
      refine DRAW [0, 2] false (tk [0, 1, 2, 3]) (by kernel_rfl) ?_
      refine RGOH 4 false [] (string_hf (frs l) f) (fun _ => 2) rfl rfl rfl ⟨rfl, trivial⟩ rfl (by simp) (by kernel_rfl) ?_
      rintro _ _ _ ⟨rfl, rfl, rfl⟩
      refine RGOH 5 true (tk [6]) hap id rfl rfl rfl ⟨rfl, trivial⟩ rfl (by simp) (by kernel_rfl) ?_
      rintro _ _ _ ⟨rfl, ⟨fp2, rfl⟩, rfl⟩
      cases e1 with
      | some m =>
        refine V ?_
        obtain rfl : R = (some m, d2) := hR.symm.trans (setF_e1 hcl hA)
        refine p1 ?_
        exact ⟨rfl, ⟨fp2, rfl⟩, rfl, rfl⟩
      | none =>
        refine V ?_
        refine p2 ?_
        refine GOH (hsy fp2) id rfl rfl ⟨rfl, trivial⟩ rfl (by simp) ?_
        rintro _ _ _ ⟨rfl, ⟨fp3, rfl⟩, rfl⟩
        cases e2 with
        | some m =>
          obtain rfl : R = (some m, d3) := hR.symm.trans (setF_e2 hcl hA hA2)
          refine p1 ?_
          exact ⟨rfl, ⟨fp3, rfl⟩, rfl, rfl⟩
        | none =>
          obtain rfl : R = moveF fN nN d3 := hR.symm.trans (setF_e3 hcl hA hA2)
          refine p2 ?_
          refine GOH (hmv fp3) id rfl rfl ⟨rfl, trivial⟩ rfl (by simp) ?_
          rintro _ _ _ ⟨rfl, ⟨fp4, rfl⟩, rfl⟩
          generalize moveF fN nN d3 = A3 at *
          obtain ⟨e3, d4⟩ := A3
          cases e3 <;> exact ⟨rfl, ⟨fp4, rfl⟩, rfl, rfl⟩
  | some x =>
    have hcl0 : clrF d = removeF fN d := by unfold clrF; rw [hf]
    rw [hcl0] at hclr
    generalize hA0 : removeF fN d = A0 at hrem hclr
    obtain ⟨e0, d1⟩ := A0
    have hcl := hcl0.trans hA0
    refine p1 ?_
    refine GOH hrem id rfl rfl ⟨rfl, trivial⟩ rfl (by simp) ?_
    rintro _ _ _ ⟨rfl, ⟨fp1, rfl⟩, rfl⟩
    cases e0 with
    | some m =>
      obtain rfl : R = (some m, d1) := hR.symm.trans (setF_e0 hcl)
      refine p1 ?_
      exact ⟨rfl, ⟨fp1, rfl⟩, rfl, rfl⟩
    | none =>
      refine p2 ?_
      have hap := append_hf d1 fp1 B hclr fN (frs l) (by omega)
      have hok2 := appendF_ok hclr fN (frs l)
      generalize hA : appendF fN (frs l) d1 = A at hap hok2
      obtain ⟨e1, d2⟩ := A
      have hsy := fun fp => sync_hf d2 fp (B + (frs l).size) hok2 fN
      have hok3 := syncF_ok hok2 fN
      generalize hA2 : syncF fN d2 = A2 at hsy hok3
      obtain ⟨e2, d3⟩ := A2
      have hmv := fun fp => move_hf d3 fp (B + (frs l).size) hok3 fN nN
      refine JK.bld 2 (e := 5) (by decide) rfl fun fpb => ?_
      refine JK.loopE (α := Nat × List Nat) (β := List Nat) (fun a => ⟨[(0, .p 1 0), (31, .sl 1 (l.map fun x => [gs x])), (32, gi l.length), (33, gi a.1), (8, .p 2 0)], [(0, .ab (dk d1 fp1)), wl 1 0 c, (2, .ab (bd (frs (l.take a.1)) a.2))], 3⟩) (fun a => a.1 ≤ l.length) (fun a => l.length - a.1) (fun f => ⟨[(0, .p 1 0), (8, .p 2 0)], [(0, .ab (dk d1 fp1)), wl 1 0 c, (2, .ab (bd (frs l) f))], 3⟩) (fun _ => True) (0, fpb) id ?_ (Nat.zero_le _) ?_ ?_
      · exact ⟨⟨rfl, rfl, by simp; rfl, rfl, rfl, trivial⟩, ⟨rfl, rfl, rfl, trivial⟩, rfl⟩
      · rintro ⟨i, f⟩ hi
        replace hi : i ≤ l.length := hi
        refine V ?_
        by_cases hlt : i < l.length
        · have hx := hl l[i] (List.getElem_mem hlt)
          have hle := frs_take_le l i
          refine p1 ?_
          refine ix (h := ?_)
          refine GO (frame_rt l[i] (by omega)) rfl ?_
          refine GOH (writeString_hf (frs (l.take i)) (frameF l[i]) f (by rw [frameF_size]; omega)) (fun _ => 2) rfl rfl ⟨rfl, trivial⟩ rfl (by simp) ?_
          rintro _ _ _ ⟨rfl, ⟨f', rfl⟩, rfl⟩
          refine ⟨(i + 1, f'), id, ⟨⟨rfl, rfl, rfl, succ_gi (by omega), rfl, trivial⟩, ⟨rfl, rfl, ?_, trivial⟩, rfl⟩, hlt, by show l.length - (i + 1) < l.length - i; omega⟩
          exact congrArg (fun x => some (Res.ab (bd x f'))) (frs_take l i hlt).symm
        · refine p2 ?_
          obtain rfl : i = l.length := by omega
          refine ⟨f, id, ⟨⟨rfl, rfl, trivial⟩, ⟨rfl, rfl, ?_, trivial⟩, rfl⟩, trivial⟩
          rw [show frs (l.take (l.length, f).1) = frs l by rw [List.take_length]]
          rfl
      · rintro f _
        refine V ?_
        refine DRAW [0, 2] false (tk [0, 1, 2, 3]) (by kernel_rfl) ?_
        refine RGOH 4 false [] (string_hf (frs l) f) (fun _ => 2) rfl rfl rfl ⟨rfl, trivial⟩ rfl (by simp) (by kernel_rfl) ?_
        rintro _ _ _ ⟨rfl, rfl, rfl⟩
        refine RGOH 5 true (tk [6]) hap id rfl rfl rfl ⟨rfl, trivial⟩ rfl (by simp) (by kernel_rfl) ?_
        rintro _ _ _ ⟨rfl, ⟨fp2, rfl⟩, rfl⟩
        cases e1 with
        | some m =>
          refine V ?_
          obtain rfl : R = (some m, d2) := hR.symm.trans (setF_e1 hcl hA)
          refine p1 ?_
          exact ⟨rfl, ⟨fp2, rfl⟩, rfl, rfl⟩
        | none =>
          refine V ?_
          refine p2 ?_
          refine GOH (hsy fp2) id rfl rfl ⟨rfl, trivial⟩ rfl (by simp) ?_
          rintro _ _ _ ⟨rfl, ⟨fp3, rfl⟩, rfl⟩
          cases e2 with
          | some m =>
            obtain rfl : R = (some m, d3) := hR.symm.trans (setF_e2 hcl hA hA2)
            refine p1 ?_
            exact ⟨rfl, ⟨fp3, rfl⟩, rfl, rfl⟩
          | none =>
            obtain rfl : R = moveF fN nN d3 := hR.symm.trans (setF_e3 hcl hA hA2)
            refine p2 ?_
            refine GOH (hmv fp3) id rfl rfl ⟨rfl, trivial⟩ rfl (by simp) ?_
            rintro _ _ _ ⟨rfl, ⟨fp4, rfl⟩, rfl⟩
            generalize moveF fN nN d3 = A3 at *
            obtain ⟨e3, d4⟩ := A3
            cases e3 <;> exact ⟨rfl, ⟨fp4, rfl⟩, rfl, rfl⟩
/-- .. and the own texts that were given. -/
def WalOQ (l : List ByteArray) (g : GV) (down : Bool) (d : Dk) : GV → Heap → Nat → Prop := fun g' σ n => g' = g ∧ (∃ fp, σ = [(0, .ab (dk d fp)), wl 1 0 down, (2, .row 9 1 (l.map fun x => [gs x]))]) ∧ n = 3
theorem WalOQ.of {f : FuncId} {args : List GV} {σ : Heap} {g : GV} {down : Bool} {d : Dk} {l : List ByteArray} (hg : idb 3 g = true) (h : Hf pg f 3 args σ fun g' σ' n' => eqG g g' ∧ (∃ fp, hlook σ' 0 = some (.ab (dk d fp))) ∧ hlook σ' 1 = some (.blk 70 [.p 0 0, .b down]) ∧ hlook σ' 2 = some (.row 9 1 (l.map fun x => [gs x])) ∧ Nat.ble 3 n' = true) : Hf pg f 3 args σ (WalOQ l g down d) := by
  refine h.eqG.weak fun g' σ' n' ⟨hgg, ⟨fp, h1⟩, h2, h3, h4⟩ => ⟨id, g, _, 3, ⟨rfl, ⟨fp, rfl⟩, rfl⟩, by rw [hgg, ren_id], ⟨h1, h2, h3, trivial⟩, ?_⟩
  rw [hg]
  rfl
theorem setO_hf (d : Dk) (fp : List Nat) (B : Nat) (hok : d.ok B) (l : List ByteArray) (hl : ∀ x ∈ l, x.size ≤ 60000) (hB : B + (frs l).size ≤ 1000000000000) (c : Bool) : Hf pg 31 3 [.p 1 0, .o 2] [(0, .ab (dk d fp)), wl 1 0 c, (2, .row 9 1 (l.map fun x => [gs x]))] (WalOQ l (erG (setF l d).1) c (setF l d).2) := by
  have hll := frs_len l
  have hclr := clrF_ok hok
  generalize hR : setF l d = R
  refine WalOQ.of (by cases R.1 <;> rfl) (Hf.of pg_ok Tryd.func31 rfl Tryd.ntmps31 rfl Tryd.results31 Tryd.call31 fun H0 S0 w0 h0 g0 => ?_)
  refine GOH (read_hf d fp B hok fN) id rfl rfl ⟨rfl, trivial⟩ rfl (by simp) ?_
  rintro _ _ _ ⟨rfl, ⟨fp1, rfl⟩, rfl⟩
  have hrem := remove_hf d fp1 B hok fN
  cases hf : fnd fN d with
  | none =>
    have hcl : clrF d = (none, d) := by unfold clrF; rw [hf]
    refine p2 ?_
    have hap := append_hf d fp1 B hok fN (frs l) (by omega)
    have hok2 := appendF_ok hok fN (frs l)
    generalize hA : appendF fN (frs l) d = A at hap hok2
    obtain ⟨e1, d2⟩ := A
    have hsy := fun fp => sync_hf d2 fp (B + (frs l).size) hok2 fN
    have hok3 := syncF_ok hok2 fN
    generalize hA2 : syncF fN d2 = A2 at hsy hok3
    obtain ⟨e2, d3⟩ := A2
    have hmv := fun fp => move_hf d3 fp (B + (frs l).size) hok3 fN nN
    refine JK.bld 3 (e := 5) (by decide) rfl fun fpb => ?_
    refine JK.loopE (α := Nat × List Nat) (β := List Nat) (fun a => ⟨[(0, .p 1 0), (31, .o 2), (32, gi l.length), (33, gi a.1), (8, .p 3 0)], [(0, .ab (dk d fp1)), wl 1 0 c, (3, .ab (bd (frs (l.take a.1)) a.2)), (2, .row 9 1 (l.map fun x => [gs x]))], 4⟩) (fun a => a.1 ≤ l.length) (fun a => l.length - a.1) (fun f => ⟨[(0, .p 1 0), (8, .p 3 0)], [(0, .ab (dk d fp1)), wl 1 0 c, (3, .ab (bd (frs l) f)), (2, .row 9 1 (l.map fun x => [gs x]))], 4⟩) (fun _ => True) (0, fpb) id ?_ (Nat.zero_le _) ?_ ?_
    · exact ⟨⟨rfl, rfl, by simp; rfl, rfl, rfl, trivial⟩, ⟨rfl, rfl, rfl, rfl, trivial⟩, rfl⟩
    · rintro ⟨i, f⟩ hi
      replace hi : i ≤ l.length := hi
      refine V ?_
      by_cases hlt : i < l.length
      · have hx := hl l[i] (List.getElem_mem hlt)
        have hle := frs_take_le l i
        refine p1 ?_
        refine ⟨Int.natCast_nonneg _, by simp only [List.length_map]; omega, ?_⟩
        refine ⟨[gs l[i]], by simp [hlt], ?_⟩
        refine GO (frame_rt l[i] (by omega)) rfl ?_
        refine GOH (writeString_hf (frs (l.take i)) (frameF l[i]) f (by rw [frameF_size]; omega)) (fun _ => 3) rfl rfl ⟨rfl, trivial⟩ rfl (by simp) ?_
        rintro _ _ _ ⟨rfl, ⟨f', rfl⟩, rfl⟩
        refine ⟨(i + 1, f'), id, ⟨⟨rfl, rfl, rfl, succ_gi (by omega), rfl, trivial⟩, ⟨rfl, rfl, ?_, rfl, trivial⟩, rfl⟩, hlt, by show l.length - (i + 1) < l.length - i; omega⟩
        exact congrArg (fun x => some (Res.ab (bd x f'))) (frs_take l i hlt).symm
      · refine p2 ?_
        obtain rfl : i = l.length := by omega
        refine ⟨f, id, ⟨⟨rfl, rfl, trivial⟩, ⟨rfl, rfl, ?_, rfl, trivial⟩, rfl⟩, trivial⟩
        rw [show frs (l.take (l.length, f).1) = frs l by rw [List.take_length]]
        rfl
    · rintro f _
      refine V ?_
      refine DRAW [0, 3] false (tk [0, 1, 2, 3]) (by kernel_rfl) ?_
      refine RGOH 4 false [] (string_hf (frs l) f) (fun _ => 3) rfl rfl rfl ⟨rfl, trivial⟩ rfl (by simp) (by kernel_rfl) ?_
      rintro _ _ _ ⟨rfl, rfl, rfl⟩
      refine RGOH 5 true (tk [6]) hap id rfl rfl rfl ⟨rfl, trivial⟩ rfl (by simp) (by kernel_rfl) ?_
      rintro _ _ _ ⟨rfl, ⟨fp2, rfl⟩, rfl⟩
      cases e1 with
      | some m =>
        refine V ?_
        obtain rfl : R = (some m, d2) := hR.symm.trans (setF_e1 hcl hA)
        refine p1 ?_
        exact ⟨rfl, ⟨fp2, rfl⟩, rfl, rfl, rfl⟩
      | none =>
        refine V ?_
        refine p2 ?_
        refine GOH (hsy fp2) id rfl rfl ⟨rfl, trivial⟩ rfl (by simp) ?_
        rintro _ _ _ ⟨rfl, ⟨fp3, rfl⟩, rfl⟩
        cases e2 with
        | some m =>
          obtain rfl : R = (some m, d3) := hR.symm.trans (setF_e2 hcl hA hA2)
          refine p1 ?_
          exact ⟨rfl, ⟨fp3, rfl⟩, rfl, rfl, rfl⟩
        | none =>
          obtain rfl : R = moveF fN nN d3 := hR.symm.trans (setF_e3 hcl hA hA2)
          refine p2 ?_
          refine GOH (hmv fp3) id rfl rfl ⟨rfl, trivial⟩ rfl (by simp) ?_
          rintro _ _ _ ⟨rfl, ⟨fp4, rfl⟩, rfl⟩
          generalize moveF fN nN d3 = A3 at *
          obtain ⟨e3, d4⟩ := A3
          cases e3 <;> exact ⟨rfl, ⟨fp4, rfl⟩, rfl, rfl, rfl⟩
  | some x =>
    have hcl0 : clrF d = removeF fN d := by unfold clrF; rw [hf]
    rw [hcl0] at hclr
    generalize hA0 : removeF fN d = A0 at hrem hclr
    obtain ⟨e0, d1⟩ := A0
    have hcl := hcl0.trans hA0
    refine p1 ?_
    refine GOH hrem id rfl rfl ⟨rfl, trivial⟩ rfl (by simp) ?_
    rintro _ _ _ ⟨rfl, ⟨fp1, rfl⟩, rfl⟩
    cases e0 with
    | some m =>
      obtain rfl : R = (some m, d1) := hR.symm.trans (setF_e0 hcl)
      refine p1 ?_
      exact ⟨rfl, ⟨fp1, rfl⟩, rfl, rfl, rfl⟩
    | none =>
      refine p2 ?_
      have hap := append_hf d1 fp1 B hclr fN (frs l) (by omega)
      have hok2 := appendF_ok hclr fN (frs l)
      generalize hA : appendF fN (frs l) d1 = A at hap hok2
      obtain ⟨e1, d2⟩ := A
      have hsy := fun fp => sync_hf d2 fp (B + (frs l).size) hok2 fN
      have hok3 := syncF_ok hok2 fN
      generalize hA2 : syncF fN d2 = A2 at hsy hok3
      obtain ⟨e2, d3⟩ := A2
      have hmv := fun fp => move_hf d3 fp (B + (frs l).size) hok3 fN nN
      refine JK.bld 3 (e := 5) (by decide) rfl fun fpb => ?_
      refine JK.loopE (α := Nat × List Nat) (β := List Nat) (fun a => ⟨[(0, .p 1 0), (31, .o 2), (32, gi l.length), (33, gi a.1), (8, .p 3 0)], [(0, .ab (dk d1 fp1)), wl 1 0 c, (3, .ab (bd (frs (l.take a.1)) a.2)), (2, .row 9 1 (l.map fun x => [gs x]))], 4⟩) (fun a => a.1 ≤ l.length) (fun a => l.length - a.1) (fun f => ⟨[(0, .p 1 0), (8, .p 3 0)], [(0, .ab (dk d1 fp1)), wl 1 0 c, (3, .ab (bd (frs l) f)), (2, .row 9 1 (l.map fun x => [gs x]))], 4⟩) (fun _ => True) (0, fpb) id ?_ (Nat.zero_le _) ?_ ?_
      · exact ⟨⟨rfl, rfl, by simp; rfl, rfl, rfl, trivial⟩, ⟨rfl, rfl, rfl, rfl, trivial⟩, rfl⟩
      · rintro ⟨i, f⟩ hi
        replace hi : i ≤ l.length := hi
        refine V ?_
        by_cases hlt : i < l.length
        · have hx := hl l[i] (List.getElem_mem hlt)
          have hle := frs_take_le l i
          refine p1 ?_
          refine ⟨Int.natCast_nonneg _, by simp only [List.length_map]; omega, ?_⟩
          refine ⟨[gs l[i]], by simp [hlt], ?_⟩
          refine GO (frame_rt l[i] (by omega)) rfl ?_
          refine GOH (writeString_hf (frs (l.take i)) (frameF l[i]) f (by rw [frameF_size]; omega)) (fun _ => 3) rfl rfl ⟨rfl, trivial⟩ rfl (by simp) ?_
          rintro _ _ _ ⟨rfl, ⟨f', rfl⟩, rfl⟩
          refine ⟨(i + 1, f'), id, ⟨⟨rfl, rfl, rfl, succ_gi (by omega), rfl, trivial⟩, ⟨rfl, rfl, ?_, rfl, trivial⟩, rfl⟩, hlt, by show l.length - (i + 1) < l.length - i; omega⟩
          exact congrArg (fun x => some (Res.ab (bd x f'))) (frs_take l i hlt).symm
        · refine p2 ?_
          obtain rfl : i = l.length := by omega
          refine ⟨f, id, ⟨⟨rfl, rfl, trivial⟩, ⟨rfl, rfl, ?_, rfl, trivial⟩, rfl⟩, trivial⟩
          rw [show frs (l.take (l.length, f).1) = frs l by rw [List.take_length]]
          rfl
      · rintro f _
        refine V ?_
        refine DRAW [0, 3] false (tk [0, 1, 2, 3]) (by kernel_rfl) ?_
        refine RGOH 4 false [] (string_hf (frs l) f) (fun _ => 3) rfl rfl rfl ⟨rfl, trivial⟩ rfl (by simp) (by kernel_rfl) ?_
        rintro _ _ _ ⟨rfl, rfl, rfl⟩
        refine RGOH 5 true (tk [6]) hap id rfl rfl rfl ⟨rfl, trivial⟩ rfl (by simp) (by kernel_rfl) ?_
        rintro _ _ _ ⟨rfl, ⟨fp2, rfl⟩, rfl⟩
        cases e1 with
        | some m =>
          refine V ?_
          obtain rfl : R = (some m, d2) := hR.symm.trans (setF_e1 hcl hA)
          refine p1 ?_
          exact ⟨rfl, ⟨fp2, rfl⟩, rfl, rfl, rfl⟩
        | none =>
          refine V ?_
          refine p2 ?_
          refine GOH (hsy fp2) id rfl rfl ⟨rfl, trivial⟩ rfl (by simp) ?_
          rintro _ _ _ ⟨rfl, ⟨fp3, rfl⟩, rfl⟩
          cases e2 with
          | some m =>
            obtain rfl : R = (some m, d3) := hR.symm.trans (setF_e2 hcl hA hA2)
            refine p1 ?_
            exact ⟨rfl, ⟨fp3, rfl⟩, rfl, rfl, rfl⟩
          | none =>
            obtain rfl : R = moveF fN nN d3 := hR.symm.trans (setF_e3 hcl hA hA2)
            refine p2 ?_
            refine GOH (hmv fp3) id rfl rfl ⟨rfl, trivial⟩ rfl (by simp) ?_
            rintro _ _ _ ⟨rfl, ⟨fp4, rfl⟩, rfl⟩
            generalize moveF fN nN d3 = A3 at *
            obtain ⟨e3, d4⟩ := A3
            cases e3 <;> exact ⟨rfl, ⟨fp4, rfl⟩, rfl, rfl, rfl⟩
end Go.Proofs.YtbapgglhpbbonaaDoor
