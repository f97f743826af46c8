/-
  CodeReads: the law's walk.
-/
import Derived.Test.YtogpkeoahlkokaaDoorCSameS
namespace Go.Proofs.YtogpkeoahlkokaaDoor
open Go.GK Go.PL Go.RowKit
set_option maxRecDepth 100000
abbrev nr (x : Int) : List GV := [gi x]
theorem r1_lt {b n : Nat} (h : Nat.blt b n = true) : ∀ i, i < 1 → r1 0 b i < n := fun i hi => by
  obtain rfl : i = 0 := by omega
  rw [Nat.blt_eq] at h
  exact h
theorem codeReads_rt (s : ByteArray) (l : List Int) : Rt pg 3 [gs s, .sl 1 (l.map nr)] (.b true) := by
  refine Rt.of pg_ok Tryd.func3 rfl Tryd.ntmps3 rfl Tryd.results3 Tryd.call3 fun H0 S0 w0 h0 g0 => ?_
  by_cases hbig : s.size > 400
  · repeat (first | refine p1 ?_ | refine p2 ?_ | refine p3 ?_ | refine p4 ?_)
    exact ⟨rfl, rfl⟩
  by_cases hbig2 : l.length > 30
  · have hb : (l.map nr).length > 30 := by simpa using hbig2
    repeat (first | refine p1 ?_ | refine p2 ?_ | refine p3 ?_ | refine p4 ?_)
    exact ⟨rfl, rfl⟩
  have hb : ¬ (l.map nr).length > 30 := by simpa using hbig2
  repeat (first | refine p1 ?_ | refine p2 ?_ | refine p3 ?_ | refine p4 ?_)
  refine GOH (from_hf s) id rfl rfl trivial rfl (by exact id_lt rfl) ?_
  rintro _ _ _ ⟨rfl, rfl, rfl⟩
  refine JK.loopE (α := Nat × ByteArray × ByteArray × Bool × Bool) (β := Unit) (fun a => ⟨[(1, .sl 1 (l.map nr)), (5, .p 0 0), (6, .p 1 0), (7, gi a.1)], [rd a.2.1 a.2.2.2.1, (1, .blk 27 [gs a.2.2.1, cl a.2.2.2.2 a.2.2.2.1])], 2⟩)
    (fun a => a.1 ≤ l.length ∧ (a.2.2.2.1 = false → a.2.1 = a.2.2.1 ∧ a.2.1.size ≤ 400)) (fun a => l.length - a.1) (fun _ => ⟨[], [], 0⟩) (fun _ => True) (0, s, s, false, true) id ?_ ?_ ?_ ?_
  · exact ⟨⟨rfl, rfl, rfl, rfl, trivial⟩, ⟨rfl, rfl, trivial⟩, rfl⟩
  · exact ⟨Nat.zero_le _, fun _ => ⟨rfl, by show s.size ≤ 400; omega⟩⟩
  · rintro ⟨i, s1, s2, b, v⟩ ⟨hi, hbf⟩
    replace hi : i ≤ l.length := hi
    replace hbf : b = false → s1 = s2 ∧ s1.size ≤ 400 := hbf
    show JK _ _ _ ⟨[(1, .sl 1 (l.map nr)), (5, .p 0 0), (6, .p 1 0), (7, gi i)], [rd s1 b, (1, .blk 27 [gs s2, cl v b])], 2⟩
    refine JK.recell 1 [gs s2, .b b] rfl ⟨rfl, cl_eq v b, trivial⟩ ?_
    by_cases hlt : i < l.length
    · refine VM 22 ?_
      refine p1 ?_ (decide_eq_true (by simp only [List.length_map]; omega))
      refine ix (h := ?_)
      refine ⟨by decide, ?_⟩
      refine JK.cut (α := ByteArray × ByteArray × Bool × Bool) (fun a => ⟨[(1, .sl 1 (l.map nr)), (5, .p 0 0), (6, .p 1 0), (7, gi i)], [rd a.1 a.2.2.1, (1, .blk 27 [gs a.2.1, cl a.2.2.2 a.2.2.1])], 2⟩)
        (fun a => a.2.2.1 = false → a.1 = a.2.1 ∧ a.1.size ≤ 400) ?_ ?_
      · refine V ?_
        by_cases m0 : (IntKind.u64.wrap l[i]).tmod 4 = 0
        · refine p1 ?_ (by simp [m0])
          cases b with
          | true =>
            refine GOH (rdN (rnum_hf s1 true) rfl) id rfl rfl ⟨rfl, trivial⟩ rfl (by exact id_lt rfl) ?_
            rintro _ _ _ ⟨rfl, ⟨s3, rfl⟩, rfl⟩
            refine GOH (rdN (tnum_hf s2 true) rfl) (r1 0 1) rfl rfl ⟨rfl, trivial⟩ rfl (by exact r1_lt rfl) ?_
            rintro _ _ _ ⟨rfl, ⟨s4, rfl⟩, rfl⟩
            refine p2 ?_ (by simp)
            exact ⟨(s3, s4, true, false), id, ⟨⟨rfl, rfl, rfl, rfl, trivial⟩, ⟨rfl, rfl, trivial⟩, rfl⟩, fun e => (by cases e)⟩
          | false =>
            obtain ⟨rfl, hs4⟩ := hbf rfl
            have hr := rnum_hf s1 false
            have ht := tnum_hf s1 false
            cases hP : numP s1 with
            | none =>
              refine GOH (rdN hr hP) id rfl rfl ⟨rfl, trivial⟩ rfl (by exact id_lt rfl) ?_
              rintro _ _ _ ⟨rfl, ⟨s3, rfl⟩, rfl⟩
              refine GOH (rdN ht hP) (r1 0 1) rfl rfl ⟨rfl, trivial⟩ rfl (by exact r1_lt rfl) ?_
              rintro _ _ _ ⟨rfl, ⟨s4, rfl⟩, rfl⟩
              refine p2 ?_ (by simp)
              exact ⟨(s3, s4, true, false), id, ⟨⟨rfl, rfl, rfl, rfl, trivial⟩, ⟨rfl, rfl, trivial⟩, rfl⟩, fun e => (by cases e)⟩
            | some x =>
              obtain ⟨n, r⟩ := x
              have hsz : r.size ≤ 400 := by
                have := (numP_size hP).1
                omega
              refine GOH (rdS hr hP) id rfl rfl ⟨rfl, trivial⟩ rfl (by exact id_lt rfl) ?_
              rintro _ _ _ ⟨rfl, rfl, rfl⟩
              refine GOH (rdS ht hP) (r1 0 1) rfl rfl ⟨rfl, trivial⟩ rfl (by exact r1_lt rfl) ?_
              rintro _ _ _ ⟨rfl, rfl, rfl⟩
              refine p2 ?_ (by simp)
              exact ⟨(r, r, false, false), id, ⟨⟨rfl, rfl, rfl, rfl, trivial⟩, ⟨rfl, rfl, trivial⟩, rfl⟩, fun _ => ⟨rfl, hsz⟩⟩
        refine p2 ?_ (by simp [m0])
        by_cases m1 : (IntKind.u64.wrap l[i]).tmod 4 = 1
        · refine p1 ?_ (by simp [m1])
          cases b with
          | true =>
            refine GOH (rdN (rtext_hf s1 true) rfl) id rfl rfl ⟨rfl, trivial⟩ rfl (by exact id_lt rfl) ?_
            rintro _ _ _ ⟨rfl, ⟨s3, rfl⟩, rfl⟩
            refine GOH (rdN (ttext_hf s2 true) rfl) (r1 0 1) rfl rfl ⟨rfl, trivial⟩ rfl (by exact r1_lt rfl) ?_
            rintro _ _ _ ⟨rfl, ⟨s4, rfl⟩, rfl⟩
            refine p2 ?_ (by simp)
            exact ⟨(s3, s4, true, false), id, ⟨⟨rfl, rfl, rfl, rfl, trivial⟩, ⟨rfl, rfl, trivial⟩, rfl⟩, fun e => (by cases e)⟩
          | false =>
            obtain ⟨rfl, hs4⟩ := hbf rfl
            have hr := rtext_hf s1 false
            have ht := ttext_hf s1 false
            cases hP : textP s1 with
            | none =>
              refine GOH (rdN hr hP) id rfl rfl ⟨rfl, trivial⟩ rfl (by exact id_lt rfl) ?_
              rintro _ _ _ ⟨rfl, ⟨s3, rfl⟩, rfl⟩
              refine GOH (rdN ht hP) (r1 0 1) rfl rfl ⟨rfl, trivial⟩ rfl (by exact r1_lt rfl) ?_
              rintro _ _ _ ⟨rfl, ⟨s4, rfl⟩, rfl⟩
              refine p2 ?_ (by simp)
              exact ⟨(s3, s4, true, false), id, ⟨⟨rfl, rfl, rfl, rfl, trivial⟩, ⟨rfl, rfl, trivial⟩, rfl⟩, fun e => (by cases e)⟩
            | some x =>
              obtain ⟨n, r⟩ := x
              have hsz : r.size ≤ 400 := by
                have := textP_size hP
                omega
              refine GOH (rdS hr hP) id rfl rfl ⟨rfl, trivial⟩ rfl (by exact id_lt rfl) ?_
              rintro _ _ _ ⟨rfl, rfl, rfl⟩
              refine GOH (rdS ht hP) (r1 0 1) rfl rfl ⟨rfl, trivial⟩ rfl (by exact r1_lt rfl) ?_
              rintro _ _ _ ⟨rfl, rfl, rfl⟩
              refine p2 ?_ (by simp)
              exact ⟨(r, r, false, false), id, ⟨⟨rfl, rfl, rfl, rfl, trivial⟩, ⟨rfl, rfl, trivial⟩, rfl⟩, fun _ => ⟨rfl, hsz⟩⟩
        refine p2 ?_ (by simp [m1])
        by_cases m2 : (IntKind.u64.wrap l[i]).tmod 4 = 2
        · refine p1 ?_ (by simp [m2])
          refine ix (h := ?_)
          refine ⟨by decide, ?_⟩
          have hm : 0 ≤ IntKind.i64.wrap ((IntKind.u64.wrap l[i]).tmod 50) := by
            have h1 : 0 ≤ IntKind.u64.wrap l[i] := by rw [IntKind.wrap_u64]; omega
            rw [Int.tmod_eq_emod_of_nonneg h1, wrap_id (by omega) (by omega)]
            omega
          cases b with
          | true =>
            refine GOH (rdN (tnum_hf s2 true) rfl) (r1 0 1) rfl rfl ⟨rfl, trivial⟩ rfl (by exact r1_lt rfl) ?_
            rintro _ _ _ ⟨rfl, ⟨s4, rfl⟩, rfl⟩
            repeat (first | refine p1 ?_ | refine p2 ?_ | refine p3 ?_ | refine p4 ?_)
            refine GOH (rdN (rsize_hf s1 true (IntKind.i64.wrap ((IntKind.u64.wrap l[i]).tmod 50))) rfl) id rfl rfl ⟨rfl, trivial⟩ rfl (by exact id_lt rfl) ?_
            rintro _ _ _ ⟨rfl, ⟨s3, rfl⟩, rfl⟩
            refine p2 ?_ (by simp)
            exact ⟨(s3, s4, true, false), id, ⟨⟨rfl, rfl, rfl, rfl, trivial⟩, ⟨rfl, rfl, trivial⟩, rfl⟩, fun e => (by cases e)⟩
          | false =>
            obtain ⟨rfl, hs4⟩ := hbf rfl
            have hr := rsize_hf s1 false (IntKind.i64.wrap ((IntKind.u64.wrap l[i]).tmod 50))
            have ht := tnum_hf s1 false
            cases hP : numP s1 with
            | none =>
              have hP2 : sizeP (IntKind.i64.wrap ((IntKind.u64.wrap l[i]).tmod 50)) s1 = none := by unfold sizeP; rw [hP]
              refine GOH (rdN ht hP) (r1 0 1) rfl rfl ⟨rfl, trivial⟩ rfl (by exact r1_lt rfl) ?_
              rintro _ _ _ ⟨rfl, ⟨s4, rfl⟩, rfl⟩
              repeat (first | refine p1 ?_ | refine p2 ?_ | refine p3 ?_ | refine p4 ?_)
              refine GOH (rdN hr hP2) id rfl rfl ⟨rfl, trivial⟩ rfl (by exact id_lt rfl) ?_
              rintro _ _ _ ⟨rfl, ⟨s3, rfl⟩, rfl⟩
              refine p2 ?_ (by simp)
              exact ⟨(s3, s4, true, false), id, ⟨⟨rfl, rfl, rfl, rfl, trivial⟩, ⟨rfl, rfl, trivial⟩, rfl⟩, fun e => (by cases e)⟩
            | some x =>
              obtain ⟨n, r⟩ := x
              have hsz : r.size ≤ 400 := by
                have := (numP_size hP).1
                omega
              by_cases hn : 0 ≤ n ∧ n ≤ (IntKind.i64.wrap ((IntKind.u64.wrap l[i]).tmod 50))
              · have hP2 : sizeP (IntKind.i64.wrap ((IntKind.u64.wrap l[i]).tmod 50)) s1 = some (n, r) := by unfold sizeP; rw [hP]; exact if_pos hn
                refine GOH (rdS ht hP) (r1 0 1) rfl rfl ⟨rfl, trivial⟩ rfl (by exact r1_lt rfl) ?_
                rintro _ _ _ ⟨rfl, rfl, rfl⟩
                repeat (first | refine p1 ?_ | refine p2 ?_ | refine p3 ?_ | refine p4 ?_)
                refine GOH (rdS hr hP2) id rfl rfl ⟨rfl, trivial⟩ rfl (by exact id_lt rfl) ?_
                rintro _ _ _ ⟨rfl, rfl, rfl⟩
                refine p2 ?_ (by simp)
                exact ⟨(r, r, false, false), id, ⟨⟨rfl, rfl, rfl, rfl, trivial⟩, ⟨rfl, rfl, trivial⟩, rfl⟩, fun _ => ⟨rfl, hsz⟩⟩
              · have hP2 : sizeP (IntKind.i64.wrap ((IntKind.u64.wrap l[i]).tmod 50)) s1 = none := by unfold sizeP; rw [hP]; exact if_neg hn
                refine GOH (rdS ht hP) (r1 0 1) rfl rfl ⟨rfl, trivial⟩ rfl (by exact r1_lt rfl) ?_
                rintro _ _ _ ⟨rfl, rfl, rfl⟩
                by_cases hn0 : n < 0
                · repeat (first | refine p1 ?_ | refine p2 ?_ | refine p3 ?_ | refine p4 ?_)
                  refine GOH (rdN hr hP2) id rfl rfl ⟨rfl, trivial⟩ rfl (by exact id_lt rfl) ?_
                  rintro _ _ _ ⟨rfl, ⟨s3, rfl⟩, rfl⟩
                  refine p2 ?_ (by simp)
                  exact ⟨(s3, r, true, true), id, ⟨⟨rfl, rfl, rfl, rfl, trivial⟩, ⟨rfl, rfl, trivial⟩, rfl⟩, fun e => (by cases e)⟩
                · repeat (first | refine p1 ?_ | refine p2 ?_ | refine p3 ?_ | refine p4 ?_)
                  refine GOH (rdN hr hP2) id rfl rfl ⟨rfl, trivial⟩ rfl (by exact id_lt rfl) ?_
                  rintro _ _ _ ⟨rfl, ⟨s3, rfl⟩, rfl⟩
                  refine p2 ?_ (by simp)
                  exact ⟨(s3, r, true, true), id, ⟨⟨rfl, rfl, rfl, rfl, trivial⟩, ⟨rfl, rfl, trivial⟩, rfl⟩, fun e => (by cases e)⟩
        refine p2 ?_ (by simp [m2])
        cases b with
        | true =>
          refine GOH (rdN (rseries_hf s1 true (fun e => (by cases e))) rfl) id rfl rfl ⟨rfl, trivial⟩ rfl (by exact id_lt rfl) ?_
          rintro _ _ _ ⟨rfl, ⟨s3, rfl⟩, rfl⟩
          refine GOH (rdN (tseries_hf s2 true (fun e => (by cases e))) rfl) (r1 0 1) rfl rfl ⟨rfl, trivial⟩ rfl (by exact r1_lt rfl) ?_
          rintro _ _ _ ⟨rfl, ⟨s4, rfl⟩, rfl⟩
          refine GO ((sameSeriesL_rt _).bt (d := true) rfl) rfl ?_
          exact ⟨(s3, s4, true, false), id, ⟨⟨rfl, rfl, rfl, rfl, trivial⟩, ⟨rfl, rfl, trivial⟩, rfl⟩, fun e => (by cases e)⟩
        | false =>
          obtain ⟨rfl, hs4⟩ := hbf rfl
          have hr := rseries_hf s1 false (fun e => (by omega))
          have ht := tseries_hf s1 false (fun e => (by omega))
          cases hP : seriesP s1 with
          | none =>
            refine GOH (rdN hr hP) id rfl rfl ⟨rfl, trivial⟩ rfl (by exact id_lt rfl) ?_
            rintro _ _ _ ⟨rfl, ⟨s3, rfl⟩, rfl⟩
            refine GOH (rdN ht hP) (r1 0 1) rfl rfl ⟨rfl, trivial⟩ rfl (by exact r1_lt rfl) ?_
            rintro _ _ _ ⟨rfl, ⟨s4, rfl⟩, rfl⟩
            refine GO ((sameSeriesL_rt _).bt (d := true) rfl) rfl ?_
            exact ⟨(s3, s4, true, false), id, ⟨⟨rfl, rfl, rfl, rfl, trivial⟩, ⟨rfl, rfl, trivial⟩, rfl⟩, fun e => (by cases e)⟩
          | some x =>
            obtain ⟨n, r⟩ := x
            have hsz : r.size ≤ 400 := by
              have := (seriesP_size hP)
              omega
            refine GOH (rdS hr hP) id rfl rfl ⟨rfl, trivial⟩ rfl (by exact id_lt rfl) ?_
            rintro _ _ _ ⟨rfl, rfl, rfl⟩
            refine GOH (rdS ht hP) (r1 0 1) rfl rfl ⟨rfl, trivial⟩ rfl (by exact r1_lt rfl) ?_
            rintro _ _ _ ⟨rfl, rfl, rfl⟩
            refine GO ((sameSeriesL_rt _).bt (d := true) rfl) rfl ?_
            exact ⟨(r, r, false, false), id, ⟨⟨rfl, rfl, rfl, rfl, trivial⟩, ⟨rfl, rfl, trivial⟩, rfl⟩, fun _ => ⟨rfl, hsz⟩⟩
      rintro ⟨s1', s2', b', v'⟩ hb'
      replace hb' : b' = false → s1' = s2' ∧ s1'.size ≤ 400 := hb'
      refine JK.recell 1 [gs s2', .b b'] rfl ⟨rfl, cl_eq v' b', trivial⟩ ?_
      cases b' with
      | true =>
        refine V ?_
        refine DRAW [0] false (tk [0, 2, 3, 4, 5]) (by kernel_rfl) ?_
        refine RGOH 1 false (tk [6, 7, 8, 10, 11, 12, 13, 14]) (bad_hf s1' true) id rfl rfl rfl ⟨rfl, trivial⟩ rfl (by exact id_lt rfl) (by kernel_rfl) ?_
        rintro _ _ _ ⟨rfl, rfl, rfl⟩
        repeat (first | refine p1 ?_ | refine p2 ?_ | refine p3 ?_ | refine p4 ?_)
        refine RGOH 9 true (tk [15, 16, 17, 18, 19, 20, 21, 22, 23]) (done_hf s1' true) id rfl rfl rfl ⟨rfl, trivial⟩ rfl (by exact id_lt rfl) (by kernel_rfl) ?_
        rintro _ _ _ ⟨rfl, rfl, rfl⟩
        repeat (first | refine p1 ?_ | refine p2 ?_ | refine p3 ?_ | refine p4 ?_)
        refine V ?_
        repeat (first | refine p1 ?_ | refine p2 ?_ | refine p3 ?_ | refine p4 ?_)
        refine p2 ?_ (by cases emptyB s1' <;> rfl)
        exact ⟨(i + 1, s1', s2', true, false), id, ⟨⟨rfl, rfl, rfl, succ_gi (by omega), trivial⟩, ⟨rfl, rfl, trivial⟩, rfl⟩, ⟨hlt, fun e => (by cases e)⟩, by show l.length - (i + 1) < l.length - i; omega⟩
      | false =>
        obtain ⟨rfl, hs4⟩ := hb' rfl
        have he := empty_iff s1'
        have hd := done_hf s1' false
        unfold emptyB at hd
        refine V ?_
        refine DRAW [0] false (tk [0, 2, 3, 4, 5]) (by kernel_rfl) ?_
        refine RGOH 1 false (tk [6, 7, 8, 10, 11, 12, 13, 14]) (bad_hf s1' false) id rfl rfl rfl ⟨rfl, trivial⟩ rfl (by exact id_lt rfl) (by kernel_rfl) ?_
        rintro _ _ _ ⟨rfl, rfl, rfl⟩
        repeat (first | refine p1 ?_ | refine p2 ?_ | refine p3 ?_ | refine p4 ?_)
        by_cases hE : s1'.size = 0
        · rw [decide_eq_true hE] at he hd
          refine RGOH 9 true (tk [15, 16, 17, 18, 19, 20, 21, 22, 23]) hd id rfl rfl rfl ⟨rfl, trivial⟩ rfl (by exact id_lt rfl) (by kernel_rfl) ?_
          rintro _ _ _ ⟨rfl, rfl, rfl⟩
          repeat (first | refine p1 ?_ | refine p2 ?_ | refine p3 ?_ | refine p4 ?_)
          refine V ?_
          refine p2 ?_ (show (!(true && !false) == sEq s1' ⟨#[]⟩) = false by rw [he]; rfl)
          exact ⟨(i + 1, s1', s1', false, false), id, ⟨⟨rfl, rfl, rfl, succ_gi (by omega), trivial⟩, ⟨rfl, rfl, trivial⟩, rfl⟩, ⟨hlt, fun _ => ⟨rfl, hs4⟩⟩, by show l.length - (i + 1) < l.length - i; omega⟩
        · rw [decide_eq_false hE] at he hd
          refine RGOH 9 true (tk [15, 16, 17, 18, 19, 20, 21, 22, 23]) hd id rfl rfl rfl ⟨rfl, trivial⟩ rfl (by exact id_lt rfl) (by kernel_rfl) ?_
          rintro _ _ _ ⟨rfl, rfl, rfl⟩
          repeat (first | refine p1 ?_ | refine p2 ?_ | refine p3 ?_ | refine p4 ?_)
          refine V ?_
          refine p2 ?_ (show (!(false && !false) == sEq s1' ⟨#[]⟩) = false by rw [he]; rfl)
          exact ⟨(i + 1, s1', s1', false, false), id, ⟨⟨rfl, rfl, rfl, succ_gi (by omega), trivial⟩, ⟨rfl, rfl, trivial⟩, rfl⟩, ⟨hlt, fun _ => ⟨rfl, hs4⟩⟩, by show l.length - (i + 1) < l.length - i; omega⟩
    · refine V ?_
      refine p2 ?_ (decide_eq_false (by simp only [List.length_map]; omega))
      exact ⟨(), id, ⟨trivial, trivial, rfl⟩, trivial⟩
  · rintro _ _
    refine V ?_
    exact ⟨rfl, rfl⟩
end Go.Proofs.YtogpkeoahlkokaaDoor
