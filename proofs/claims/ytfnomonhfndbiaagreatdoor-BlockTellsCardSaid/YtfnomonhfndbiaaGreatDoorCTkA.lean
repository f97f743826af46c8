/-
  Contracts: the document's reader (ref.Taker): a number, a text.
-/
import Derived.Test.YtfnomonhfndbiaaGreatDoorCRdA
import Derived.Test.YtfnomonhfndbiaaGreatDoorCRefLab
import Derived.Test.YtfnomonhfndbiaaGreatDoorCRefRdA
namespace Go.Proofs.YtfnomonhfndbiaaGreatDoor
open Go.GK Go.PL Go.RowKit
set_option maxRecDepth 100000
abbrev tkr (s : ByteArray) (b : Bool) : Nat × Res := (0, .blk 70 [gs s, .b b])
theorem num_step2 {s : ByteArray} {i : Nat} (h : i < s.size) (hi : i < 8) : IntKind.u64.wrap (IntKind.u64.wrap ((beN (s.data.toList.take i) : Int) * 256) + IntKind.u64.wrap (s[i].toNat : Int)) = ((beN (s.data.toList.take (i + 1)) : Nat) : Int) := by
  have hb := s[i].toNat_lt
  have hu := be_lt s i hi
  rw [take_step h]
  generalize beN (s.data.toList.take i) = u at *
  generalize s[i].toNat = b at *
  simp only [IntKind.wrap_u64]
  omega
theorem tnum_hf (s : ByteArray) (b : Bool) : Hf pg 28 1 [.p 0 0] [tkr s b] (rdQ 70 (okP b (numP s)) (gi 0) gi) := by
  refine rd_of Sub.rfl rfl (fun _ => rfl) ?_
  cases b with
  | true =>
    refine Hf.of pg_ok Tryz.func28 rfl Tryz.ntmps28 rfl Tryz.results28 Tryz.call28 fun H0 S0 w0 h0 g0 => ?_
    repeat (first | refine p1 ?_ | refine p2 ?_ | refine p3 ?_ | refine p4 ?_)
    exact ⟨rfl, rfl, s, _, rfl, rfl⟩
  | false =>
    by_cases h8 : s.size < 8
    · have hP : okP false (numP s) = none := by simp [okP, numP, h8]
      rw [hP]
      refine Hf.of pg_ok Tryz.func28 rfl Tryz.ntmps28 rfl Tryz.results28 Tryz.call28 fun H0 S0 w0 h0 g0 => ?_
      repeat (first | refine p1 ?_ | refine p2 ?_ | refine p3 ?_ | refine p4 ?_)
      exact ⟨rfl, rfl, s, _, rfl, rfl⟩
    · have hP : okP false (numP s) = some (numF s, rest8 s) := by simp [okP, numP, h8]
      rw [hP]
      refine Hf.of pg_ok Tryz.func28 rfl Tryz.ntmps28 rfl Tryz.results28 Tryz.call28 fun H0 S0 w0 h0 g0 => ?_
      repeat (first | refine p1 ?_ | refine p2 ?_ | refine p3 ?_ | refine p4 ?_)
      refine JK.loopE (α := Nat) (β := Unit) (fun i => ⟨[(0, .p 0 0), (3, g64 (beN (s.data.toList.take i))), (20, gi i)], [tkr s false], 1⟩) (fun i => i ≤ 8) (fun i => 8 - i)
        (fun _ => ⟨[(0, .p 0 0), (3, g64 (beN (s.data.toList.take 8)))], [tkr s false], 1⟩) (fun _ => True) 0 id ?_ (by decide) ?_ ?_
      · exact ⟨⟨rfl, rfl, rfl, trivial⟩, ⟨rfl, trivial⟩, rfl⟩
      · intro i hi
        refine V ?_
        by_cases hlt : i < 8
        · refine p1 ?_ (decide_eq_true (by omega))
          refine sx (h := ?_)
          refine ⟨i + 1, id, ⟨⟨rfl, ?_, succ_gi (by omega), trivial⟩, ⟨rfl, trivial⟩, rfl⟩, hlt, by show 8 - (i + 1) < 8 - i; omega⟩
          exact congrArg (fun x => some (GV.v (.int .u64 x))) (num_step2 (by omega) hlt)
        · obtain rfl : i = 8 := by omega
          refine p2 ?_ (decide_eq_false (by decide))
          exact ⟨(), id, ⟨⟨rfl, rfl, trivial⟩, ⟨rfl, trivial⟩, rfl⟩, trivial⟩
      · rintro _ _
        refine V ?_
        refine ⟨by decide, by omega, by omega, ?_⟩
        exact ⟨rfl, rfl, rfl⟩
theorem ttext_hf (s : ByteArray) (b : Bool) : Hf pg 51 1 [.p 0 0] [tkr s b] (rdQ 70 (okP b (textP s)) (gs ByteArray.empty) gs) := by
  refine rd_of Sub.rfl rfl (fun _ => rfl) ?_
  have h := tnum_hf s b
  cases hP : okP b (numP s) with
  | none =>
    have h := rdN h hP
    rw [okP_none (Q := textP s) hP fun e => by unfold textP; rw [e]]
    refine Hf.of pg_ok Tryz.func51 rfl Tryz.ntmps51 rfl Tryz.results51 Tryz.call51 fun H0 S0 w0 h0 g0 => ?_
    refine GOH h id rfl rfl ⟨rfl, trivial⟩ rfl (id_lt rfl) ?_
    rintro _ _ _ ⟨rfl, ⟨s', rfl⟩, rfl⟩
    repeat (first | refine p1 ?_ | refine p2 ?_ | refine p3 ?_ | refine p4 ?_)
    exact ⟨rfl, rfl, s', _, rfl, rfl⟩
  | some x =>
    obtain ⟨n, r⟩ := x
    have h := rdS h hP
    obtain ⟨rfl, hn⟩ := okP_some hP
    have ht : okP false (textP s) = if 0 ≤ n ∧ n ≤ r.size then some (r.extract 0 n.toNat, r.extract n.toNat r.size) else none := by simp only [okP, cond_false]; unfold textP; rw [hn]
    by_cases hc : 0 ≤ n ∧ n ≤ r.size
    · rw [ht, if_pos hc]
      refine Hf.of pg_ok Tryz.func51 rfl Tryz.ntmps51 rfl Tryz.results51 Tryz.call51 fun H0 S0 w0 h0 g0 => ?_
      refine GOH h id rfl rfl ⟨rfl, trivial⟩ rfl (id_lt rfl) ?_
      rintro _ _ _ ⟨rfl, rfl, rfl⟩
      repeat (first | refine p1 ?_ | refine p2 ?_ | refine p3 ?_ | refine p4 ?_)
      refine GO ((in_rt n 0 r.size).bt (d := true) (decide_eq_true hc)) rfl ?_
      repeat (first | refine p1 ?_ | refine p2 ?_ | refine p3 ?_ | refine p4 ?_)
      refine ⟨by omega, by omega, by omega, ?_⟩
      refine ⟨by omega, by omega, by omega, ?_⟩
      exact ⟨rfl, rfl, rfl⟩
    · rw [ht, if_neg hc]
      refine Hf.of pg_ok Tryz.func51 rfl Tryz.ntmps51 rfl Tryz.results51 Tryz.call51 fun H0 S0 w0 h0 g0 => ?_
      refine GOH h id rfl rfl ⟨rfl, trivial⟩ rfl (id_lt rfl) ?_
      rintro _ _ _ ⟨rfl, rfl, rfl⟩
      repeat (first | refine p1 ?_ | refine p2 ?_ | refine p3 ?_ | refine p4 ?_)
      refine GO ((in_rt n 0 r.size).bt (d := false) (decide_eq_false hc)) rfl ?_
      repeat (first | refine p1 ?_ | refine p2 ?_ | refine p3 ?_ | refine p4 ?_)
      exact ⟨rfl, rfl, r, _, rfl, rfl⟩
/-- What a number leaves: which, and from where on. -/
theorem tcount_hf (s : ByteArray) (b : Bool) : Hf pg 28 1 [.p 0 0] [tkr s b] (fun g σ n => (∃ (k : Int) (s0 : ByteArray) (b0 : Bool), g = gi k ∧ σ = [tkr s0 b0] ∧ (b0 = true → okP b (numP s) = none) ∧ (b0 = false → b = false ∧ numP s = some (k, s0))) ∧ n = 1) := by
  have h := tnum_hf s b
  cases hP : okP b (numP s) with
  | none =>
    exact (rdN h hP).imp fun g σ n ⟨h1, ⟨s', h2⟩, h3⟩ => ⟨⟨0, s', true, h1, h2, fun _ => rfl, fun e => (by cases e)⟩, h3⟩
  | some x =>
    obtain ⟨k, r⟩ := x
    obtain ⟨hb, hs⟩ := okP_some hP
    exact (rdS h hP).imp fun g σ n ⟨h1, h2, h3⟩ => ⟨⟨k, r, false, h1, h2, fun e => (by cases e), fun _ => ⟨hb, hs⟩⟩, h3⟩
theorem ReadRQ.id {t : ByteArray} {g : GV} (h : ReadRQ t g) : idb 0 g = true := by
  rcases h with ⟨l, _, _, _, rfl⟩ | ⟨_, rfl⟩ <;> rfl
theorem tread_yes {t : ByteArray} {xs : List Sm} (ht : t.size ≤ 100000) (h : decS t = some xs) : Rt pg 52 [gs t] (.tup [sms xs, gi 0]) := by
  refine (Rq_ct Tryz.call52 (refRead_ct t ht) fun _ => ReadRQ.id).sub fun g hg => ?_
  obtain ⟨h1, h2, h3⟩ := decS_some h
  rcases hg with ⟨l, e1, e2, e3, rfl⟩ | ⟨hno, _⟩
  · have := decS_of e1 e2 e3
    rw [h] at this
    cases this
    exact ⟨_, Sub.rfl, rfl, rfl⟩
  · exact absurd h3 (hno _ h1 h2)
theorem tread_no {t : ByteArray} (ht : t.size ≤ 100000) (h : decS t = none) : Rt pg 52 [gs t] (.tup [sms [], gi 3]) := by
  refine (Rq_ct Tryz.call52 (refRead_ct t ht) fun _ => ReadRQ.id).sub fun g hg => ?_
  rcases hg with ⟨l, e1, e2, e3, rfl⟩ | ⟨hno, rfl⟩
  · have := decS_of e1 e2 e3
    rw [h] at this
    cases this
  · exact ⟨.tup [sms [], gi 3], Sub.tup2 (Sub.nil 2) Sub.rfl, rfl, rfl⟩
end Go.Proofs.YtfnomonhfndbiaaGreatDoor


namespace Go.Proofs.YtfnomonhfndbiaaGreatDoor
open Go.GK Go.PL Go.RowKit
set_option maxRecDepth 100000
theorem tseries_hf (s : ByteArray) (b : Bool) (hs : b = false → s.size ≤ 100000) : Hf pg 29 1 [.p 0 0] [tkr s b] (rdQ 70 (okP b (seriesP s)) (ses []) ses) := by
  refine rd_of (Sub.nil 2) rfl (fun _ => rfl) ?_
  have hc := tcount_hf s b
  refine Hf.of pg_ok Tryz.func29 rfl Tryz.ntmps29 rfl Tryz.results29 Tryz.call29 fun H0 S0 w0 h0 g0 => ?_
  refine GOJ hc id rfl rfl ⟨rfl, trivial⟩ rfl (id_lt rfl) ?_
  rintro _ _ _ ⟨⟨K, s0, b0, rfl, rfl, hbt, hbf⟩, rfl⟩
  refine VM 3 ?_
  refine JK.cut (α := Bool × Bool) (fun a => ⟨[(0, .p 0 0), (3, .v (.slice none 0 0)), (4, gi K)], [(0, .blk 70 [gs s0, cl a.2 a.1])], 1⟩)
    (fun a => (a.1 = false → b0 = false ∧ 0 ≤ K ∧ K ≤ s0.size) ∧ (a.1 = true → okP b (seriesP s) = none)) ?_ ?_
  · refine V ?_
    by_cases hin : 0 ≤ K ∧ K ≤ s0.size
    · refine GO ((in_rt K 0 s0.size).bt (d := true) (decide_eq_true hin)) rfl ?_
      repeat (first | refine p1 ?_ | refine p2 ?_ | refine p3 ?_ | refine p4 ?_)
      refine ⟨(b0, false), id, ⟨⟨rfl, rfl, rfl, trivial⟩, ⟨rfl, trivial⟩, rfl⟩, fun e => ⟨e, hin⟩, fun e => ?_⟩
      exact okP_none (hbt e) fun h => by unfold seriesP; rw [h]
    · refine GO ((in_rt K 0 s0.size).bt (d := false) (decide_eq_false hin)) rfl ?_
      repeat (first | refine p1 ?_ | refine p2 ?_ | refine p3 ?_ | refine p4 ?_)
      refine ⟨(true, true), id, ⟨⟨rfl, rfl, rfl, trivial⟩, ⟨rfl, trivial⟩, rfl⟩, fun e => (by cases e), fun _ => ?_⟩
      cases b0 with
      | true => exact okP_none (hbt rfl) fun h => by unfold seriesP; rw [h]
      | false =>
        obtain ⟨rfl, h1⟩ := hbf rfl
        show seriesP s = none
        unfold seriesP
        rw [h1]
        exact if_neg hin
  rintro ⟨b1, v1⟩ ⟨hf, ht⟩
  replace hf : b1 = false → b0 = false ∧ 0 ≤ K ∧ K ≤ s0.size := hf
  replace ht : b1 = true → okP b (seriesP s) = none := ht
  have hall : ∀ i, i ≤ K.toNat → b1 = false → sersP i s0 = none → okP b (seriesP s) = none := by
    intro i hi e h
    obtain ⟨e0, h1⟩ := hf e
    obtain ⟨rfl, h2⟩ := hbf e0
    show seriesP s = none
    unfold seriesP
    rw [h2]
    simp only
    rw [if_pos h1]
    exact sersP_mono hi h
  have hyes : ∀ l r, b1 = false → sersP K.toNat s0 = some (l, r) → okP b (seriesP s) = some (l, r) := by
    intro l r e h
    obtain ⟨e0, h1⟩ := hf e
    obtain ⟨rfl, h2⟩ := hbf e0
    show seriesP s = _
    unfold seriesP
    rw [h2]
    simp only
    rw [if_pos h1, h]
  have hsz : b1 = false → s0.size ≤ s.size := fun e => by
    have := (numP_size (hbf (hf e).1).2).1
    omega
  refine JK.ownNil 3 48 2 rfl ?_
  refine V ?_
  refine JK.loopE (α := Nat × List Ser × ByteArray × Bool × Bool) (β := List Ser × ByteArray × Bool × Bool) (fun a => ⟨[(0, .p 0 0), (3, .o 1), (4, gi K), (5, gi a.1)], [(0, .blk 70 [gs a.2.2.1, cl a.2.2.2.2 a.2.2.2.1]), (1, .row 48 2 (a.2.1.map se))], 2⟩)
    (fun a => a.1 ≤ K.toNat ∧ a.2.1.length = a.1 ∧ (a.2.2.2.1 = false → b1 = false ∧ sersP a.1 s0 = some (a.2.1, a.2.2.1)) ∧ (a.2.2.2.1 = true → okP b (seriesP s) = none)) (fun a => K.toNat - a.1)
    (fun a => ⟨[(0, .p 0 0), (3, .o 1)], [(0, .blk 70 [gs a.2.1, cl a.2.2.2 a.2.2.1]), (1, .row 48 2 (a.1.map se))], 2⟩) (fun a => (a.2.2.1 = false → okP b (seriesP s) = some (a.1, a.2.1)) ∧ (a.2.2.1 = true → okP b (seriesP s) = none)) (0, [], s0, b1, v1) id ?_ ?_ ?_ ?_
  · exact ⟨⟨rfl, rfl, rfl, rfl, trivial⟩, ⟨by cases v1 <;> rfl, rfl, trivial⟩, by cases v1 <;> rfl⟩
  · exact ⟨Nat.zero_le _, rfl, fun e => ⟨e, rfl⟩, ht⟩
  · rintro ⟨i, l, s1, b2, v2⟩ ⟨hi, hl, hf2, ht2⟩
    replace hi : i ≤ K.toNat := hi
    replace hl : l.length = i := hl
    replace hf2 : b2 = false → b1 = false ∧ sersP i s0 = some (l, s1) := hf2
    replace ht2 : b2 = true → okP b (seriesP s) = none := ht2
    refine JK.recell 0 [gs s1, .b b2] rfl ⟨rfl, cl_eq v2 b2, trivial⟩ ?_
    refine V ?_
    by_cases hlt : (i : Int) < K
    · cases b2 with
      | true =>
        repeat (first | refine p1 ?_ | refine p2 ?_ | refine p3 ?_ | refine p4 ?_)
        exact ⟨(l, s1, true, false), id, ⟨⟨rfl, rfl, trivial⟩, ⟨rfl, rfl, trivial⟩, rfl⟩, fun e => (by cases e), ht2⟩
      | false =>
        obtain ⟨hb1, h1⟩ := hf2 rfl
        have hs := hs (hbf (hf hb1).1).1
        have hs1 : s1.size ≤ 100000 := by
          have := (sersP_size h1).1
          have := hsz hb1
          omega
        have hnx := sersP_next h1
        have hKs := (hf hb1).2.2
        have hss := hsz hb1
        have hbad : sersP (i + 1) s0 = none → okP b (seriesP s) = none := fun h => hall (i + 1) (by omega) hb1 h
        repeat (first | refine p1 ?_ | refine p2 ?_ | refine p3 ?_ | refine p4 ?_)
        refine GOJ (tcount_hf s1 false) id rfl rfl ⟨rfl, trivial⟩ rfl (id_lt rfl) ?_
        rintro _ _ _ ⟨⟨K2, s2, b3, rfl, rfl, hbt3, hbf3⟩, rfl⟩
        refine VM 3 ?_
        refine JK.cut (α := Bool × Bool) (fun a => ⟨[(0, .p 0 0), (3, .o 1), (4, gi K), (5, gi i), (6, .p 2 0), (7, gi K2)], [(0, .blk 70 [gs s2, cl a.2 a.1]), (1, .row 48 2 (l.map se)), (2, .blk 48 [.v (.slice none 0 0), .v (.slice none 0 0)])], 3⟩)
          (fun a => (a.1 = false → b3 = false ∧ 0 ≤ K2 ∧ K2 ≤ 8) ∧ (a.1 = true → labelsP s1 = none)) ?_ ?_
        · refine V ?_
          by_cases hin : 0 ≤ K2 ∧ K2 ≤ 8
          · refine GO ((in_rt K2 0 8).bt (d := true) (decide_eq_true hin)) rfl ?_
            repeat (first | refine p1 ?_ | refine p2 ?_ | refine p3 ?_ | refine p4 ?_)
            refine ⟨(b3, false), id, ⟨⟨rfl, rfl, rfl, rfl, rfl, rfl, trivial⟩, ⟨rfl, rfl, rfl, trivial⟩, rfl⟩, fun e => ⟨e, hin⟩, fun e => ?_⟩
            have h : numP s1 = none := hbt3 e
            unfold labelsP
            rw [h]
          · refine GO ((in_rt K2 0 8).bt (d := false) (decide_eq_false hin)) rfl ?_
            repeat (first | refine p1 ?_ | refine p2 ?_ | refine p3 ?_ | refine p4 ?_)
            refine ⟨(true, true), id, ⟨⟨rfl, rfl, rfl, rfl, rfl, rfl, trivial⟩, ⟨rfl, rfl, rfl, trivial⟩, rfl⟩, fun e => (by cases e), fun _ => ?_⟩
            unfold labelsP
            cases b3 with
            | true =>
              have h : numP s1 = none := hbt3 rfl
              rw [h]
            | false =>
              rw [(hbf3 rfl).2]
              exact if_neg hin
        rintro ⟨b4, v4⟩ ⟨hf4, ht4⟩
        replace hf4 : b4 = false → b3 = false ∧ 0 ≤ K2 ∧ K2 ≤ 8 := hf4
        replace ht4 : b4 = true → labelsP s1 = none := ht4
        have hlab : b4 = false → labelsP s1 = pairsP K2.toNat s2 := fun e => by
          obtain ⟨e3, h3⟩ := hf4 e
          unfold labelsP
          rw [(hbf3 e3).2]
          exact if_pos h3
        refine JK.recell 0 [gs s2, .b b4] rfl ⟨rfl, cl_eq v4 b4, trivial⟩ ?_
        refine JK.ownNilB 2 0 78 2 rfl rfl ?_
        refine V ?_
        refine JK.loopE (α := Nat × List Lb × ByteArray × Bool × Bool) (β := List Lb × ByteArray × Bool × Bool) (fun a => ⟨[(0, .p 0 0), (3, .o 1), (4, gi K), (5, gi i), (6, .p 2 0), (7, gi K2), (8, gi a.1)], [(0, .blk 70 [gs a.2.2.1, cl a.2.2.2.2 a.2.2.2.1]), (1, .row 48 2 (l.map se)), (2, .blk 48 [.o 3, .v (.slice none 0 0)]), (3, .row 78 2 (a.2.1.map lb))], 4⟩)
          (fun a => a.1 ≤ K2.toNat ∧ a.2.1.length = a.1 ∧ (a.2.2.2.1 = false → b4 = false ∧ pairsP a.1 s2 = some (a.2.1, a.2.2.1)) ∧ (a.2.2.2.1 = true → labelsP s1 = none)) (fun a => K2.toNat - a.1)
          (fun a => ⟨[(0, .p 0 0), (3, .o 1), (4, gi K), (5, gi i), (6, .p 2 0)], [(0, .blk 70 [gs a.2.1, cl a.2.2.2 a.2.2.1]), (1, .row 48 2 (l.map se)), (2, .blk 48 [.o 3, .v (.slice none 0 0)]), (3, .row 78 2 (a.1.map lb))], 4⟩)
          (fun a => (a.2.2.1 = false → labelsP s1 = some (a.1, a.2.1)) ∧ (a.2.2.1 = true → labelsP s1 = none)) (0, [], s2, b4, false) id ?_ ?_ ?_ ?_
        · exact ⟨⟨rfl, rfl, rfl, rfl, rfl, rfl, rfl, trivial⟩, ⟨rfl, rfl, rfl, rfl, trivial⟩, rfl⟩
        · exact ⟨Nat.zero_le _, rfl, fun e => ⟨e, rfl⟩, ht4⟩
        · rintro ⟨j, ls, s3, b5, v5⟩ ⟨hj, hjl, hf5, ht5⟩
          replace hj : j ≤ K2.toNat := hj
          replace hjl : ls.length = j := hjl
          replace hf5 : b5 = false → b4 = false ∧ pairsP j s2 = some (ls, s3) := hf5
          replace ht5 : b5 = true → labelsP s1 = none := ht5
          refine JK.recell 0 [gs s3, .b b5] rfl ⟨rfl, cl_eq v5 b5, trivial⟩ ?_
          refine V ?_
          by_cases hjlt : (j : Int) < K2
          · cases b5 with
            | true =>
              repeat (first | refine p1 ?_ | refine p2 ?_ | refine p3 ?_ | refine p4 ?_)
              exact ⟨(ls, s3, true, false), id, ⟨⟨rfl, rfl, rfl, rfl, rfl, trivial⟩, ⟨rfl, rfl, rfl, rfl, trivial⟩, rfl⟩, fun e => (by cases e), ht5⟩
            | false =>
              obtain ⟨e4, hp⟩ := hf5 rfl
              have h8 := (hf4 e4).2
              have hla := hlab e4
              have hno : pairsP (j + 1) s2 = none → labelsP s1 = none := fun h => by rw [hla]; exact pairsP_mono (by omega) h
              have hnx : pairsP (j + 1) s2 = (match textP s3 with | none => none | some (a, r1) => match textP r1 with | none => none | some (b, r2) => some (ls ++ [⟨a, b⟩], r2)) := by
                conv => lhs; unfold pairsP
                rw [hp]
                rfl
              repeat (first | refine p1 ?_ | refine p2 ?_ | refine p3 ?_ | refine p4 ?_)
              have hx1 := ttext_hf s3 false
              cases hP : textP s3 with
              | none =>
                rw [hP] at hnx
                simp only at hnx
                refine GOH (rdN hx1 hP) id rfl rfl ⟨rfl, trivial⟩ rfl (id_lt rfl) ?_
                rintro _ _ _ ⟨rfl, ⟨s4, rfl⟩, rfl⟩
                refine GOH (rdN (ttext_hf s4 true) rfl) id rfl rfl ⟨rfl, trivial⟩ rfl (id_lt rfl) ?_
                rintro _ _ _ ⟨rfl, ⟨s5, rfl⟩, rfl⟩
                refine ⟨by simp only [List.length_map, List.length_cons, List.length_nil]; omega, ?_⟩
                refine ⟨(j + 1, ls ++ [⟨ByteArray.empty, ByteArray.empty⟩], s5, true, false), r1 3 5, ⟨⟨rfl, rfl, rfl, rfl, rfl, rfl, succ_gi (by omega), trivial⟩, ⟨rfl, rfl, rfl, ?_, trivial⟩, rfl⟩, ⟨by omega, by simp [hjl], fun e => (by cases e), fun _ => hno hnx⟩, by show K2.toNat - (j + 1) < K2.toNat - j; omega⟩
                exact lb_snoc ls ⟨ByteArray.empty, ByteArray.empty⟩
              | some x =>
                obtain ⟨a, s4⟩ := x
                rw [hP] at hnx
                simp only at hnx
                refine GOH (rdS hx1 hP) id rfl rfl ⟨rfl, trivial⟩ rfl (id_lt rfl) ?_
                rintro _ _ _ ⟨rfl, rfl, rfl⟩
                have hx2 := ttext_hf s4 false
                cases hP2 : textP s4 with
                | none =>
                  rw [hP2] at hnx
                  simp only at hnx
                  refine GOH (rdN hx2 hP2) id rfl rfl ⟨rfl, trivial⟩ rfl (id_lt rfl) ?_
                  rintro _ _ _ ⟨rfl, ⟨s5, rfl⟩, rfl⟩
                  refine ⟨by simp only [List.length_map, List.length_cons, List.length_nil]; omega, ?_⟩
                  refine ⟨(j + 1, ls ++ [⟨a, ByteArray.empty⟩], s5, true, false), r1 3 5, ⟨⟨rfl, rfl, rfl, rfl, rfl, rfl, succ_gi (by omega), trivial⟩, ⟨rfl, rfl, rfl, ?_, trivial⟩, rfl⟩, ⟨by omega, by simp [hjl], fun e => (by cases e), fun _ => hno hnx⟩, by show K2.toNat - (j + 1) < K2.toNat - j; omega⟩
                  exact lb_snoc ls ⟨a, ByteArray.empty⟩
                | some x =>
                  obtain ⟨c, s5⟩ := x
                  rw [hP2] at hnx
                  simp only at hnx
                  refine GOH (rdS hx2 hP2) id rfl rfl ⟨rfl, trivial⟩ rfl (id_lt rfl) ?_
                  rintro _ _ _ ⟨rfl, rfl, rfl⟩
                  refine ⟨by simp only [List.length_map, List.length_cons, List.length_nil]; omega, ?_⟩
                  refine ⟨(j + 1, ls ++ [⟨a, c⟩], s5, false, false), r1 3 5, ⟨⟨rfl, rfl, rfl, rfl, rfl, rfl, succ_gi (by omega), trivial⟩, ⟨rfl, rfl, rfl, ?_, trivial⟩, rfl⟩, ⟨by omega, by simp [hjl], fun _ => ⟨e4, hnx⟩, fun e => (by cases e)⟩, by show K2.toNat - (j + 1) < K2.toNat - j; omega⟩
                  exact lb_snoc ls ⟨a, c⟩
          · repeat (first | refine p1 ?_ | refine p2 ?_ | refine p3 ?_ | refine p4 ?_)
            refine ⟨(ls, s3, b5, false), id, ⟨⟨rfl, rfl, rfl, rfl, rfl, trivial⟩, ⟨rfl, rfl, rfl, rfl, trivial⟩, rfl⟩, fun e => ?_, ht5⟩
            obtain ⟨e4, hp⟩ := hf5 e
            have h8 := (hf4 e4).2
            have hj2 : j = K2.toNat := by omega
            subst hj2
            rw [hlab e4]
            exact hp
        rintro ⟨ls, s3, b5, v5⟩ ⟨hf5, ht5⟩
        replace hf5 : b5 = false → labelsP s1 = some (ls, s3) := hf5
        replace ht5 : b5 = true → labelsP s1 = none := ht5
        refine JK.recell 0 [gs s3, .b b5] rfl ⟨rfl, cl_eq v5 b5, trivial⟩ ?_
        refine FRZ 3 rfl ?_
        have hA : oneP s1 = none → sersP (i + 1) s0 = none := fun h => by rw [hnx, h]
        have hA1 : labelsP s1 = none → oneP s1 = none := fun h => by unfold oneP; rw [h]
        cases b5 with
        | true =>
          have hn := hA (hA1 (ht5 rfl))
          refine GOH (rdN (ttext_hf s3 true) rfl) id rfl rfl ⟨rfl, trivial⟩ rfl (id_lt rfl) ?_
          rintro _ _ _ ⟨rfl, ⟨s4, rfl⟩, rfl⟩
          cases hd : decS ByteArray.empty with
          | none =>
            refine GO (tread_no (by decide) hd) rfl ?_
            repeat (first | refine p1 ?_ | refine p2 ?_ | refine p3 ?_ | refine p4 ?_)
            refine ⟨by simp only [List.length_map, List.length_cons, List.length_nil]; omega, ?_⟩
            refine ⟨(i + 1, l ++ [⟨ls, []⟩], s4, true, true), r1 1 5, ⟨⟨rfl, rfl, rfl, succ_gi (by omega), trivial⟩, ⟨rfl, ?_, trivial⟩, rfl⟩, ⟨by omega, by simp [hl], fun e => (by cases e), fun _ => hbad (hn)⟩, by show K.toNat - (i + 1) < K.toNat - i; omega⟩
            exact se_snoc l ⟨ls, []⟩
          | some xs =>
            refine GO (tread_yes (by decide) hd) rfl ?_
            repeat (first | refine p1 ?_ | refine p2 ?_ | refine p3 ?_ | refine p4 ?_)
            refine ⟨by simp only [List.length_map, List.length_cons, List.length_nil]; omega, ?_⟩
            refine ⟨(i + 1, l ++ [⟨ls, xs⟩], s4, true, true), r1 1 5, ⟨⟨rfl, rfl, rfl, succ_gi (by omega), trivial⟩, ⟨rfl, ?_, trivial⟩, rfl⟩, ⟨by omega, by simp [hl], fun e => (by cases e), fun _ => hbad (hn)⟩, by show K.toNat - (i + 1) < K.toNat - i; omega⟩
            exact se_snoc l ⟨ls, xs⟩
        | false =>
          have hlp := hf5 rfl
          obtain ⟨g1, g2, g3⟩ := labelsP_size hlp
          have hlw := labelsW_rt ls (by omega) fun x hx => by have := g3 x hx; omega
          have hR : rightF ls = false → sersP (i + 1) s0 = none := fun h => hA (by unfold oneP; rw [hlp]; exact if_neg (by rw [h]; decide))
          have htx := ttext_hf s3 false
          cases hP : textP s3 with
          | none =>
            have hn := hA (by unfold oneP; rw [hlp]; simp only; split; · rw [hP]
                              · rfl)
            refine GOH (rdN htx hP) id rfl rfl ⟨rfl, trivial⟩ rfl (id_lt rfl) ?_
            rintro _ _ _ ⟨rfl, ⟨s4, rfl⟩, rfl⟩
            cases hd : decS ByteArray.empty with
            | none =>
              refine GO (tread_no (by decide) hd) rfl ?_
              repeat (first | refine p1 ?_ | refine p2 ?_ | refine p3 ?_ | refine p4 ?_)
              refine ⟨by simp only [List.length_map, List.length_cons, List.length_nil]; omega, ?_⟩
              refine ⟨(i + 1, l ++ [⟨ls, []⟩], s4, true, true), r1 1 5, ⟨⟨rfl, rfl, rfl, succ_gi (by omega), trivial⟩, ⟨rfl, ?_, trivial⟩, rfl⟩, ⟨by omega, by simp [hl], fun e => (by cases e), fun _ => hbad (hn)⟩, by show K.toNat - (i + 1) < K.toNat - i; omega⟩
              exact se_snoc l ⟨ls, []⟩
            | some xs =>
              refine GO (tread_yes (by decide) hd) rfl ?_
              repeat (first | refine p1 ?_ | refine p2 ?_ | refine p3 ?_ | refine p4 ?_)
              refine ⟨by simp only [List.length_map, List.length_cons, List.length_nil]; omega, ?_⟩
              refine ⟨(i + 1, l ++ [⟨ls, xs⟩], s4, true, true), r1 1 5, ⟨⟨rfl, rfl, rfl, succ_gi (by omega), trivial⟩, ⟨rfl, ?_, trivial⟩, rfl⟩, ⟨by omega, by simp [hl], fun e => (by cases e), fun _ => hbad (hn)⟩, by show K.toNat - (i + 1) < K.toNat - i; omega⟩
              exact se_snoc l ⟨ls, xs⟩
          | some x =>
            obtain ⟨t, s4⟩ := x
            have ht3 := textP_size hP
            refine GOH (rdS htx hP) id rfl rfl ⟨rfl, trivial⟩ rfl (id_lt rfl) ?_
            rintro _ _ _ ⟨rfl, rfl, rfl⟩
            cases hd : decS t with
            | none =>
              have hn := hA (by unfold oneP; rw [hlp]; simp only; split; · rw [hP]; simp only; rw [hd]
                                · rfl)
              refine GO (tread_no (by omega) hd) rfl ?_
              repeat (first | refine p1 ?_ | refine p2 ?_ | refine p3 ?_ | refine p4 ?_)
              rcases tf (rightF ls) with hRt | hRt
              · refine GO (hlw.bt hRt) rfl ?_
                repeat (first | refine p1 ?_ | refine p2 ?_ | refine p3 ?_ | refine p4 ?_)
                refine ⟨by simp only [List.length_map, List.length_cons, List.length_nil]; omega, ?_⟩
                refine ⟨(i + 1, l ++ [⟨ls, []⟩], s4, true, true), r1 1 5, ⟨⟨rfl, rfl, rfl, succ_gi (by omega), trivial⟩, ⟨rfl, ?_, trivial⟩, rfl⟩, ⟨by omega, by simp [hl], fun e => (by cases e), fun _ => hbad (hn)⟩, by show K.toNat - (i + 1) < K.toNat - i; omega⟩
                exact se_snoc l ⟨ls, []⟩
              · refine GO (hlw.bt hRt) rfl ?_
                repeat (first | refine p1 ?_ | refine p2 ?_ | refine p3 ?_ | refine p4 ?_)
                refine ⟨by simp only [List.length_map, List.length_cons, List.length_nil]; omega, ?_⟩
                refine ⟨(i + 1, l ++ [⟨ls, []⟩], s4, true, true), r1 1 5, ⟨⟨rfl, rfl, rfl, succ_gi (by omega), trivial⟩, ⟨rfl, ?_, trivial⟩, rfl⟩, ⟨by omega, by simp [hl], fun e => (by cases e), fun _ => hbad (hn)⟩, by show K.toNat - (i + 1) < K.toNat - i; omega⟩
                exact se_snoc l ⟨ls, []⟩
            | some xs =>
              refine GO (tread_yes (by omega) hd) rfl ?_
              repeat (first | refine p1 ?_ | refine p2 ?_ | refine p3 ?_ | refine p4 ?_)
              rcases tf (rightF ls) with hRt | hRt
              · have hgood : sersP (i + 1) s0 = some (l ++ [⟨ls, xs⟩], s4) := by
                  rw [hnx]
                  unfold oneP
                  rw [hlp]
                  simp only
                  rw [if_pos hRt, hP]
                  simp only
                  rw [hd]
                refine GO (hlw.bt hRt) rfl ?_
                repeat (first | refine p1 ?_ | refine p2 ?_ | refine p3 ?_ | refine p4 ?_)
                refine ⟨by simp only [List.length_map, List.length_cons, List.length_nil]; omega, ?_⟩
                refine ⟨(i + 1, l ++ [⟨ls, xs⟩], s4, false, false), r1 1 5, ⟨⟨rfl, rfl, rfl, succ_gi (by omega), trivial⟩, ⟨rfl, ?_, trivial⟩, rfl⟩, ⟨by omega, by simp [hl], fun _ => ⟨hb1, hgood⟩, fun e => (by cases e)⟩, by show K.toNat - (i + 1) < K.toNat - i; omega⟩
                exact se_snoc l ⟨ls, xs⟩
              · refine GO (hlw.bt hRt) rfl ?_
                repeat (first | refine p1 ?_ | refine p2 ?_ | refine p3 ?_ | refine p4 ?_)
                refine ⟨by simp only [List.length_map, List.length_cons, List.length_nil]; omega, ?_⟩
                refine ⟨(i + 1, l ++ [⟨ls, xs⟩], s4, true, true), r1 1 5, ⟨⟨rfl, rfl, rfl, succ_gi (by omega), trivial⟩, ⟨rfl, ?_, trivial⟩, rfl⟩, ⟨by omega, by simp [hl], fun e => (by cases e), fun _ => hbad (hR hRt)⟩, by show K.toNat - (i + 1) < K.toNat - i; omega⟩
                exact se_snoc l ⟨ls, xs⟩
    · repeat (first | refine p1 ?_ | refine p2 ?_ | refine p3 ?_ | refine p4 ?_)
      refine ⟨(l, s1, b2, false), id, ⟨⟨rfl, rfl, trivial⟩, ⟨rfl, rfl, trivial⟩, rfl⟩, fun e => ?_, ht2⟩
      obtain ⟨e1, h1⟩ := hf2 e
      have hi2 : i = K.toNat := by omega
      subst hi2
      exact hyes l s1 e1 h1
  · rintro ⟨l, s1, b2, v2⟩ ⟨hf2, ht2⟩
    replace hf2 : b2 = false → okP b (seriesP s) = some (l, s1) := hf2
    replace ht2 : b2 = true → okP b (seriesP s) = none := ht2
    refine JK.recell 0 [gs s1, .b b2] rfl ⟨rfl, cl_eq v2 b2, trivial⟩ ?_
    refine FRZ 1 rfl ?_
    cases b2 with
    | true =>
      rw [ht2 rfl]
      refine p1 ?_
      exact ⟨rfl, rfl, s1, _, rfl, rfl⟩
    | false =>
      rw [hf2 rfl]
      refine p2 ?_
      exact ⟨rfl, rfl, rfl⟩
end Go.Proofs.YtfnomonhfndbiaaGreatDoor
