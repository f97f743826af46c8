/-
  Contracts: notes: Set, Open.
-/
import Derived.Test.YtbapgglhpbbonaaDoorCWal3
namespace Go.Proofs.YtbapgglhpbbonaaDoor
open Go.GK Go.PL Go.RowKit
set_option maxRecDepth 100000
theorem setAll_hf (d : Dk) (fp : List Nat) (B : Nat) (hok : d.ok B) (l : List ByteArray) (hlen : l.length ≤ 1000000) (hB : B + (frs l).size ≤ 1000000000000) (down : Bool) : Hf pg 10 2 [.p 1 0, .sl 1 (l.map fun x => [gs x])] [(0, .ab (dk d fp)), wl 1 0 down] (WalQ (erG (setAllF l down d).1) (setAllF l down d).2.1 (setAllF l down d).2.2) := by
  unfold setAllF
  rcases tf (longs l) with hlong | hlong
  · rw [if_pos hlong]
    refine WalQ.of rfl (Hf.of pg_ok Tryd.func10 rfl Tryd.ntmps10 rfl Tryd.results10 Tryd.call10 fun H0 S0 w0 h0 g0 => ?_)
    refine GO ((contains_rt l (by omega)).bt (d := true) hlong) rfl ?_
    exact ⟨rfl, ⟨fp, rfl⟩, rfl, rfl⟩
  · rw [if_neg (by rw [hlong]; decide)]
    cases down with
    | true =>
      rw [if_pos rfl]
      refine WalQ.of rfl (Hf.of pg_ok Tryd.func10 rfl Tryd.ntmps10 rfl Tryd.results10 Tryd.call10 fun H0 S0 w0 h0 g0 => ?_)
      refine GO ((contains_rt l (by omega)).bt (d := false) hlong) rfl ?_
      refine p1 ?_
      exact ⟨rfl, ⟨fp, rfl⟩, rfl, rfl⟩
    | false =>
      rw [if_neg (by decide)]
      have hl : ∀ x ∈ l, x.size ≤ 60000 := fun x hx => by
        have := List.any_eq_false.1 hlong x hx
        simp only [decide_eq_true_eq] at this
        omega
      have hset := set_hf d fp B hok l hl hB false
      generalize setF l d = A at *
      obtain ⟨e1, d1⟩ := A
      refine WalQ.of (by cases e1 <;> rfl) (Hf.of pg_ok Tryd.func10 rfl Tryd.ntmps10 rfl Tryd.results10 Tryd.call10 fun H0 S0 w0 h0 g0 => ?_)
      refine GO ((contains_rt l (by omega)).bt (d := false) hlong) rfl ?_
      refine p2 ?_
      refine GOH hset id rfl rfl ⟨rfl, rfl, trivial⟩ rfl (by simp) ?_
      rintro _ _ _ ⟨rfl, ⟨fp1, rfl⟩, rfl⟩
      cases e1 with
      | none => exact ⟨rfl, ⟨fp1, rfl⟩, rfl, rfl⟩
      | some m => exact ⟨rfl, ⟨fp1, rfl⟩, rfl, rfl⟩
theorem setAllO_hf (d : Dk) (fp : List Nat) (B : Nat) (hok : d.ok B) (l : List ByteArray) (hlen : l.length ≤ 1000000) (hB : B + (frs l).size ≤ 1000000000000) (down : Bool) : Hf pg 10 3 [.p 1 0, .o 2] [(0, .ab (dk d fp)), wl 1 0 down, (2, .row 9 1 (l.map fun x => [gs x]))] (WalOQ l (erG (setAllF l down d).1) (setAllF l down d).2.1 (setAllF l down d).2.2) := by
  unfold setAllF
  rcases tf (longs l) with hlong | hlong
  · rw [if_pos hlong]
    refine WalOQ.of rfl (Hf.of pg_ok Tryd.func10 rfl Tryd.ntmps10 rfl Tryd.results10 Tryd.call10 fun H0 S0 w0 h0 g0 => ?_)
    refine GOB ((contains_rt l (by omega)).bt (d := true) hlong) rfl ⟨⟨rfl, rfl⟩, ⟨rfl, rfl⟩, trivial⟩ ?_
    exact ⟨rfl, ⟨fp, rfl⟩, rfl, rfl, rfl⟩
  · rw [if_neg (by rw [hlong]; decide)]
    cases down with
    | true =>
      rw [if_pos rfl]
      refine WalOQ.of rfl (Hf.of pg_ok Tryd.func10 rfl Tryd.ntmps10 rfl Tryd.results10 Tryd.call10 fun H0 S0 w0 h0 g0 => ?_)
      refine GOB ((contains_rt l (by omega)).bt (d := false) hlong) rfl ⟨⟨rfl, rfl⟩, ⟨rfl, rfl⟩, trivial⟩ ?_
      refine p1 ?_
      exact ⟨rfl, ⟨fp, rfl⟩, rfl, rfl, rfl⟩
    | false =>
      rw [if_neg (by decide)]
      have hl : ∀ x ∈ l, x.size ≤ 60000 := fun x hx => by
        have := List.any_eq_false.1 hlong x hx
        simp only [decide_eq_true_eq] at this
        omega
      have hset := setO_hf d fp B hok l hl hB false
      generalize setF l d = A at *
      obtain ⟨e1, d1⟩ := A
      refine WalOQ.of (by cases e1 <;> rfl) (Hf.of pg_ok Tryd.func10 rfl Tryd.ntmps10 rfl Tryd.results10 Tryd.call10 fun H0 S0 w0 h0 g0 => ?_)
      refine GOB ((contains_rt l (by omega)).bt (d := false) hlong) rfl ⟨⟨rfl, rfl⟩, ⟨rfl, rfl⟩, trivial⟩ ?_
      refine p2 ?_
      refine GOH hset id rfl rfl ⟨rfl, rfl, rfl, trivial⟩ rfl (by simp) ?_
      rintro _ _ _ ⟨rfl, ⟨fp1, rfl⟩, rfl⟩
      cases e1 with
      | none => exact ⟨rfl, ⟨fp1, rfl⟩, rfl, rfl, rfl⟩
      | some m => exact ⟨rfl, ⟨fp1, rfl⟩, rfl, rfl, rfl⟩
theorem openNil_rt : Rt pg 6 [.v (.pointer none)] (.tup [.v (.pointer none), .v (.slice none 0 0), erG (some 7)]) := by
  refine Rt.of pg_ok Tryd.func6 rfl Tryd.ntmps6 rfl Tryd.results6 Tryd.call6 fun H0 S0 w0 h0 g0 => ?_
  refine p1 ?_
  exact ⟨⟨rfl, rfl, rfl, trivial⟩, rfl⟩
def OpenQ (l : List ByteArray) (d : Dk) : GV → Heap → Nat → Prop := fun g σ n => g = .tup [.p 1 0, .sl 1 (l.map fun x => [gs x]), .v .nilIface] ∧ (∃ fp, σ = [(0, .ab (dk d fp)), wl 1 0 false]) ∧ n = 2
theorem OpenQ.of {f : FuncId} {args : List GV} {σ : Heap} {l : List ByteArray} {d : Dk} (h : Hf pg f 1 args σ fun g' σ' n' => ∃ k, (Nat.blt 0 k = true) ∧ g' = .tup [.p k 0, .sl 1 (l.map fun x => [gs x]), .v .nilIface] ∧ (∃ fp, hlook σ' 0 = some (.ab (dk d fp))) ∧ hlook σ' k = some (.blk 70 [.p 0 0, .b false])) : Hf pg f 1 args σ (OpenQ l d) := by
  refine h.weak fun g' σ' _ ⟨k, hk, hg, ⟨fp, h1⟩, h2⟩ => ⟨fun i => bif Nat.beq i 0 then 0 else k, .tup [.p 1 0, .sl 1 (l.map fun x => [gs x]), .v .nilIface], _, 2, ⟨rfl, ⟨fp, rfl⟩, rfl⟩, hg, ⟨h1, h2, trivial⟩, ?_⟩
  have hne : Nat.beq 0 k = false := by
    cases h : Nat.beq 0 k with
    | false => rfl
    | true => rw [← beq_eq h] at hk; cases hk
  have h2 : Nat.beq 0 (bif Nat.beq 1 0 then 0 else k) = false := hne
  simp [idb, idbL, idbH, idbR, distB, hids, memB, fixB, h2]
theorem open_hf (d : Dk) (fp : List Nat) (B : Nat) (hok : d.ok B) (l : List ByteArray) (p : ByteArray) (hc : cont d = frs l ++ p) (hp : Torn p) (hl : ∀ x ∈ l, x.size ≤ 60000) (hB : B + (frs l).size ≤ 1000000000000) (hBc : (frs l ++ p).size ≤ B) (hgo : p.size ≠ 0 → (setF l d).1 = none) : Hf pg 6 1 [.p 0 0] [(0, .ab (dk d fp))] (OpenQ l (openF l p d)) := by
  have hsz : (frs l ++ p).size = (frs l).size + p.size := ByteArray.size_append
  have hn := notes_rt l p (fun x hx => by have := hl x hx; omega) hp (by omega)
  rw [← hc] at hn
  have hset := fun fp => set_hf d fp B hok l hl hB false
  refine OpenQ.of ⟨Tryd.call6, Ct.of_JK pg_ok Tryd.func6 rfl Tryd.ntmps6 rfl Tryd.results6 fun H0 S0 w0 h0 g0 => ?_⟩
  refine V ?_
  refine p2 ?_
  refine JK.recell 1 [.p 0 0, .b false] rfl ⟨rfl, rfl, trivial⟩ ?_
  cases hf : fnd nN d with
  | none =>
    have hcd : PL.cont d = ⟨#[]⟩ := by unfold PL.cont; rw [hf]; rfl
    have hz : (frs l).size + p.size = 0 := by rw [← hsz, ← hc, hcd]; rfl
    rw [hcd] at hn
    refine GOH (read_hf d fp B hok nN) id rfl rfl ⟨rfl, trivial⟩ rfl (by simp) ?_
    rw [hf]
    rintro _ _ _ ⟨rfl, ⟨fp1, rfl⟩, rfl⟩
    refine GO hn rfl ?_
    by_cases hp0 : p.size = 0
    · have ho : openF l p d = d := if_pos hp0
      rw [ho]
      refine p2 ?_ (decide_eq_false (by show ¬ ((frs l).size : Int) < ((0 : Nat) : Int); omega))
      exact ⟨1, rfl, rfl, ⟨fp1, rfl⟩, rfl⟩
    · have ho : openF l p d = (setF l d).2 := if_neg hp0
      have he := hgo hp0
      rw [ho]
      generalize setF l d = A at *
      obtain ⟨e1, d1⟩ := A
      obtain rfl : e1 = none := he
      refine p1 ?_ (absurd hz (by omega))
      refine GOH (hset fp1) id rfl rfl ⟨rfl, rfl, trivial⟩ rfl (by simp) ?_
      rintro _ _ _ ⟨rfl, ⟨fp2, rfl⟩, rfl⟩
      refine p2 ?_
      exact ⟨1, rfl, rfl, ⟨fp2, rfl⟩, rfl⟩
  | some x =>
    have hcd : PL.cont d = x.1 := by unfold PL.cont; rw [hf]
    have hz : (frs l).size + p.size = x.1.size := by rw [← hsz, ← hc, hcd]
    rw [hcd] at hn
    refine GOH (read_hf d fp B hok nN) id rfl rfl ⟨rfl, trivial⟩ rfl (by simp) ?_
    rw [hf]
    rintro _ _ _ ⟨rfl, ⟨fp1, rfl⟩, rfl⟩
    refine GO hn rfl ?_
    by_cases hp0 : p.size = 0
    · have ho : openF l p d = d := if_pos hp0
      rw [ho]
      refine p2 ?_ (decide_eq_false (by omega))
      exact ⟨1, rfl, rfl, ⟨fp1, rfl⟩, rfl⟩
    · have ho : openF l p d = (setF l d).2 := if_neg hp0
      have he := hgo hp0
      rw [ho]
      generalize setF l d = A at *
      obtain ⟨e1, d1⟩ := A
      obtain rfl : e1 = none := he
      refine p1 ?_ (decide_eq_true (by omega))
      refine GOH (hset fp1) id rfl rfl ⟨rfl, rfl, trivial⟩ rfl (by simp) ?_
      rintro _ _ _ ⟨rfl, ⟨fp2, rfl⟩, rfl⟩
      refine p2 ?_
      exact ⟨1, rfl, rfl, ⟨fp2, rfl⟩, rfl⟩
end Go.Proofs.YtbapgglhpbbonaaDoor
