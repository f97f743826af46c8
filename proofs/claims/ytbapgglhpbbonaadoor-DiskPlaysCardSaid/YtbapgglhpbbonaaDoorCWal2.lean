/-
  Contracts: notes: add one.
-/
import Derived.Test.YtbapgglhpbbonaaDoorCWal
namespace Go.Proofs.YtbapgglhpbbonaaDoor
open Go.GK Go.PL Go.RowKit
set_option maxRecDepth 100000
theorem RGOH {N n0 : Nat} {H0 : Hid} {S0 : List Nat} {w0 : World} {h0 : H0.n = n0} {g0 : GlOk pg H0} {T : Post} {k : List It} {s : St} {ops : List Oper} {σs : Heap} {ρq : Env} {fuel : Nat} {listed : List Bool} (i : Nat) (e : Bool) (order : List (Nat × Bool)) {o : Oper} {f : FuncId} {m : Nat} {cargs gs : List GV} {σc : Heap} {Q : GV → Heap → Nat → Prop} (hr : Hf pg f m cargs σc Q) (r : Nat → Nat) (hi : ops[i]? = some o) (hk : callG pg ops s.ρ o = some (f, gs)) (hargs : gs = renL r cargs) (hσ : leσ r σc s.σ)
    (chk : (idbL m cargs && idbH m σc && distB (hids r σc)) = true) (hrn : ∀ i, i < m → r i < s.n)
    (hB : (Region.noSelect ops.toArray && eqB (Region.ready .any ops.toArray listed.toArray) [i] && ordB ops e order (listed.set i true)) = true)
    (h : ∀ g σ' n', Q g σ' n' → nf (ren (sh r m s.n) g) fun g => nfH (renH (sh r m s.n) σ' ++ hrest (hids r σc) s.σ) fun σ => nfN (s.n + (n' - m)) fun n => nfE (qput ρq o.dst g) fun ρq => dputV N s.ρ o.dst g fun ρ' => rvc ⟨pg, N, n0, H0, S0, w0, h0, g0⟩ T ops k σs e order fuel (listed.set i true) ρq ⟨ρ', σ, n⟩) (hT : ∀ ch s, ¬ T (.panic ch) s := by intro _ _ h; exact h) : RA ⟨pg, N, n0, H0, S0, w0, h0, g0⟩ T ops k σs ρq (fuel + 1) listed s := by
  simp only [Bool.and_eq_true] at hB
  exact RA.goH i order e pg_ok hB.1.1 hT hr r hi hk hargs hσ chk hrn (by simp only [hB.1.2, hB.2, Bool.and_self]) h
abbrev wl (w d : Nat) (down : Bool) : Nat × Res := (w, .blk 70 [.p d 0, .b down])
/-- What a call on notes leaves. -/
def WalQ (g : GV) (down : Bool) (d : Dk) : GV → Heap → Nat → Prop := fun g' σ n => g' = g ∧ (∃ fp, σ = [(0, .ab (dk d fp)), wl 1 0 down]) ∧ n = 2
theorem WalQ.of {f : FuncId} {args : List GV} {σ : Heap} {g : GV} {down : Bool} {d : Dk} (hg : idb 2 g = true) (h : Hf pg f 2 args σ fun g' σ' n' => eqG g g' ∧ (∃ fp, hlook σ' 0 = some (.ab (dk d fp))) ∧ hlook σ' 1 = some (.blk 70 [.p 0 0, .b down]) ∧ Nat.ble 2 n' = true) : Hf pg f 2 args σ (WalQ g down d) := by
  refine h.eqG.weak fun g' σ' n' ⟨hgg, ⟨fp, h1⟩, h2, h3⟩ => ⟨id, g, _, 2, ⟨rfl, ⟨fp, rfl⟩, rfl⟩, by rw [hgg, ren_id], ⟨h1, h2, trivial⟩, ?_⟩
  rw [hg]
  rfl
theorem down_hf (d : Dk) (fp : List Nat) (down : Bool) : Hf pg 12 2 [.p 1 0] [(0, .ab (dk d fp)), wl 1 0 down] (WalQ (.b down) down d) := by
  refine WalQ.of rfl (Hf.of pg_ok Tryd.func12 rfl Tryd.ntmps12 rfl Tryd.results12 Tryd.call12 fun H0 S0 w0 h0 g0 => ?_)
  exact ⟨rfl, ⟨fp, rfl⟩, rfl, rfl⟩
theorem add_hf (d : Dk) (fp : List Nat) (B : Nat) (hok : d.ok B) (hB : B ≤ 1000000000000) (s : ByteArray) (down : Bool) : Hf pg 9 2 [.p 1 0, gs s] [(0, .ab (dk d fp)), wl 1 0 down] (WalQ (erG (addF s down d).1) (addF s down d).2.1 (addF s down d).2.2) := by
  unfold addF
  by_cases hs : (s.size : Int) > 60000
  · rw [if_pos hs]
    refine WalQ.of rfl (Hf.of pg_ok Tryd.func9 rfl Tryd.ntmps9 rfl Tryd.results9 Tryd.call9 fun H0 S0 w0 h0 g0 => ?_)
    refine p1 ?_ (decide_eq_true hs)
    exact ⟨rfl, ⟨fp, rfl⟩, rfl, rfl⟩
  · rw [if_neg hs]
    cases down with
    | true =>
      rw [if_pos rfl]
      refine WalQ.of rfl (Hf.of pg_ok Tryd.func9 rfl Tryd.ntmps9 rfl Tryd.results9 Tryd.call9 fun H0 S0 w0 h0 g0 => ?_)
      refine p2 ?_ (decide_eq_false hs)
      refine p1 ?_
      exact ⟨rfl, ⟨fp, rfl⟩, rfl, rfl⟩
    | false =>
      rw [if_neg (by decide)]
      have hf := frame_rt s (by omega)
      have hfs := frameF_size s
      have hap := append_hf d fp B hok nN (frameF s) (by omega)
      have hok1 := appendF_ok hok nN (frameF s)
      generalize appendF nN (frameF s) d = A at *
      obtain ⟨e1, d1⟩ := A
      cases e1 with
      | some m =>
        refine WalQ.of rfl (Hf.of pg_ok Tryd.func9 rfl Tryd.ntmps9 rfl Tryd.results9 Tryd.call9 fun H0 S0 w0 h0 g0 => ?_)
        refine p2 ?_ (decide_eq_false hs)
        refine p2 ?_
        refine DRAW [0] false (tk [0, 1, 2, 3, 4]) (by kernel_rfl) ?_
        refine RGO 5 false [] hf rfl rfl (by kernel_rfl) ?_
        refine RGOH 6 true (tk [7]) hap id rfl rfl rfl ⟨rfl, trivial⟩ rfl (by simp) (by kernel_rfl) ?_
        rintro _ _ _ ⟨rfl, ⟨fp1, rfl⟩, rfl⟩
        refine V ?_
        refine p2 ?_
        exact ⟨rfl, ⟨fp1, rfl⟩, rfl, rfl⟩
      | none =>
        have hsy := fun fp1 => sync_hf d1 fp1 (B + (frameF s).size) hok1 nN
        show Hf pg _ 2 _ _ (WalQ (erG (syncF nN d1).1) (syncF nN d1).1.isSome (syncF nN d1).2)
        generalize syncF nN d1 = A at *
        obtain ⟨e2, d2⟩ := A
        refine WalQ.of (by cases e2 <;> rfl) (Hf.of pg_ok Tryd.func9 rfl Tryd.ntmps9 rfl Tryd.results9 Tryd.call9 fun H0 S0 w0 h0 g0 => ?_)
        refine p2 ?_ (decide_eq_false hs)
        refine p2 ?_
        refine DRAW [0] false (tk [0, 1, 2, 3, 4]) (by kernel_rfl) ?_
        refine RGO 5 false [] hf rfl rfl (by kernel_rfl) ?_
        refine RGOH 6 true (tk [7]) hap id rfl rfl rfl ⟨rfl, trivial⟩ rfl (by simp) (by kernel_rfl) ?_
        rintro _ _ _ ⟨rfl, ⟨fp1, rfl⟩, rfl⟩
        refine V ?_
        refine p1 ?_
        refine GOH (hsy fp1) id rfl rfl ⟨rfl, trivial⟩ rfl (by simp) ?_
        rintro _ _ _ ⟨rfl, ⟨fp2, rfl⟩, rfl⟩
        cases e2 with
        | none => exact ⟨rfl, ⟨fp2, rfl⟩, rfl, rfl⟩
        | some m => exact ⟨rfl, ⟨fp2, rfl⟩, rfl, rfl⟩
/-! too long -/
theorem setfn_rt (s : ByteArray) : Rt pg 36 [gs s] (.b (decide ((s.size : Int) > 60000))) := by
  refine Rt.of pg_ok Tryd.func36 rfl Tryd.ntmps36 rfl Tryd.results36 Tryd.call36 fun H0 S0 w0 h0 g0 => ?_
  exact ⟨rfl, rfl⟩
theorem index_rq (l : List ByteArray) (hl : l.length ≤ 1000000) : Rq pg 46 [.sl 1 (l.map fun x => [gs x]), .fn (.func 36) [] []] (fun g => ∃ n : Int, g = gi n ∧ decide (n ≥ 0) = longs l) := by
  refine Rq.of pg_ok Tryd.func46 rfl Tryd.ntmps46 rfl Tryd.results46 Tryd.call46 fun H0 S0 w0 h0 g0 => ?_
  refine JK.loopE (α := Nat) (β := Unit) (fun i => ⟨[(0, .sl 1 (l.map fun x => [gs x])), (1, .fn (.func 36) [] []), (7, gi l.length), (8, gi i)], [], 0⟩) (fun i => i ≤ l.length ∧ ∀ x ∈ l.take i, ¬ (x.size : Int) > 60000) (fun i => l.length - i) (fun _ => ⟨[], [], 0⟩) (fun _ => longs l = false) 0 id ?_ ?_ ?_ ?_
  · exact ⟨⟨rfl, rfl, by simp; rfl, rfl, trivial⟩, trivial, rfl⟩
  · exact ⟨Nat.zero_le _, by simp⟩
  · rintro i ⟨hi, hno⟩
    refine V ?_
    by_cases hlt : i < l.length
    · refine p1 ?_
      refine ix (h := ?_)
      by_cases h1 : (l[i].size : Int) > 60000
      · refine GO ((setfn_rt l[i]).bt (d := true) (decide_eq_true h1)) rfl ?_
        refine ⟨⟨_, rfl, ?_⟩, rfl⟩
        rw [decide_eq_true (by omega)]
        exact (List.any_eq_true.2 ⟨l[i], List.getElem_mem hlt, decide_eq_true h1⟩).symm
      · refine GO ((setfn_rt l[i]).bt (d := false) (decide_eq_false h1)) rfl ?_
        refine ⟨i + 1, id, ⟨⟨rfl, rfl, rfl, succ_gi (by omega), trivial⟩, trivial, rfl⟩, ⟨hlt, fun x hx => ?_⟩, by show l.length - (i + 1) < l.length - i; omega⟩
        rw [List.take_add_one, List.getElem?_eq_getElem hlt] at hx
        rcases List.mem_append.1 hx with hx | hx
        · exact hno x hx
        · rw [List.mem_singleton.1 hx]; exact h1
    · refine p2 ?_
      obtain rfl : i = l.length := by omega
      refine ⟨(), id, ⟨trivial, trivial, rfl⟩, ?_⟩
      rw [List.take_length] at hno
      exact List.any_eq_false.2 fun x hx h => hno x hx (of_decide_eq_true h)
  · rintro _ hno
    refine V ?_
    exact ⟨⟨_, rfl, by rw [hno]; rfl⟩, rfl⟩
theorem contains_rt (l : List ByteArray) (hl : l.length ≤ 1000000) : Rt pg 35 [.sl 1 (l.map fun x => [gs x]), .fn (.func 36) [] []] (.b (longs l)) := by
  refine Rt.of pg_ok Tryd.func35 rfl Tryd.ntmps35 rfl Tryd.results35 Tryd.call35 fun H0 S0 w0 h0 g0 => ?_
  refine GOQ (index_rq l hl) rfl ?_
  rintro _ ⟨n, rfl, hn⟩
  exact ⟨hn, rfl⟩
end Go.Proofs.YtbapgglhpbbonaaDoor
