/-
  Contracts: the document's series parted by what holds.
-/
import Derived.Test.YtcdnilijfnfkbaaCSe
import Derived.Test.YtcdnilijfnfkbaaGKh
import Derived.Test.YtcdnilijfnfkbaaPGnA
import Derived.Test.YtcdnilijfnfkbaaCGo
namespace Go.Proofs.Ytcdnilijfnfkbaa
open Go.GK Go.PL Go.RowKit
set_option maxRecDepth 100000
theorem part_step {α : Type} (p : α → Bool) (l : List α) (j : Nat) (h : j < l.length) : (l.take (j + 1)).filter p = (l.take j).filter p ++ if p l[j] = true then [l[j]] else [] := by
  rw [List.take_succ_eq_append_getElem h, List.filter_append, List.filter_cons]
  rfl
theorem part_rt (l : List Ser) (f : FuncId) (caps : List GV) (hcaps : idbL 0 caps = true) (h : Hit) (hf : ∀ x ∈ l, ∀ t, Rt pg f (lbs x.labels :: gi t :: caps) (.b (h x.labels t))) (hl : l.length ≤ 1000000) (hs : ∀ x ∈ l, x.samples.length ≤ 1000000) :
    Rt pg 8 [ses l, .fn (.func f) [] caps] (.tup [ses (withoutF (fun ls t => !h ls t) l), ses (withoutF h l)]) := by
  have hr : ∀ r : Nat → Nat, renL r caps = caps := fun r => renL_none r caps hcaps
  have hfz : ∀ id cs0, fzbL id cs0 caps = caps := fun id cs0 => fzbL_none id cs0 caps hcaps
  have hfr : ∀ id sz rows, frzL id sz rows caps = caps := fun id sz rows => frzL_none id sz rows caps hcaps
  have hcapU := fun n => idbL_up n caps hcaps
  have hll : (l.map se).length = l.length := by simp
  refine Rt.of pg_ok Try.func8 rfl Try.ntmps8 rfl Try.results8 Try.call8 fun H0 S0 w0 h0 g0 => ?_
  refine JK.ownNil 4 44 2 rfl ?_
  refine JK.ownNil 5 44 2 rfl ?_
  refine JK.loopE (α := Nat) (β := Unit) (fun i => ⟨[(1, .fn (.func f) [] caps), (4, .o 0), (5, .o 1), (12, ses l), (13, gi (l.map se).length), (14, gi i)], [(0, .row 44 2 ((withoutF (fun ls t => !h ls t) (l.take i)).map se)), (1, .row 44 2 ((withoutF h (l.take i)).map se))], 2⟩) (fun i => i ≤ l.length) (fun i => l.length - i)
    (fun _ => ⟨[(4, .o 0), (5, .o 1)], [(0, .row 44 2 ((withoutF (fun ls t => !h ls t) l).map se)), (1, .row 44 2 ((withoutF h l).map se))], 2⟩) (fun _ => True) 0 id ?_ (Nat.zero_le _) ?_ ?_
  · exact ⟨⟨by simp only [ren, renL, hr]; rfl, rfl, rfl, rfl, rfl, rfl, trivial⟩, ⟨rfl, rfl, trivial⟩, by simp [idbE, idb, idbL, hcapU, idbH, idbR, hids, distB, fixB, memB]; rfl⟩
  · rintro i hi
    replace hi : i ≤ l.length := hi
    refine V ?_
    by_cases hlt : i < l.length
    · have hx := hs l[i] (List.getElem_mem hlt)
      have hfi := hf l[i] (List.getElem_mem hlt)
      refine p1 ?_ (decide_eq_true (by omega))
      refine ix (h := ?_)
      refine FZB 2 rfl rfl ?_
      refine JK.drawJ [] ⟨[(1, .fn (.func f) [] caps), (4, .o 0), (5, .o 1), (7, .r (se l[i])), (8, .p 2 0), (9, .p 3 0), (12, ses l), (13, gi (l.map se).length), (14, gi i)], [(0, .row 44 2 ((withoutF (fun ls t => !h ls t) (l.take i)).map se)), (1, .row 44 2 ((withoutF h (l.take i)).map se)), (2, .blk 44 [lbs l[i].labels, .v (.slice none 0 0)]), (3, .blk 44 [lbs l[i].labels, .v (.slice none 0 0)])], 4⟩ pg_ok ?_ (fun hk => ?_)
      · refine V ?_
        refine JK.ownNilB 2 1 47 2 rfl rfl ?_
        refine JK.ownNilB 3 1 47 2 rfl rfl ?_
        have hsl : (l[i].samples.map sm).length = l[i].samples.length := by simp
        refine JK.loopE (α := Nat) (β := Unit) (fun j => ⟨[(1, .fn (.func f) [] caps), (4, .o 0), (5, .o 1), (7, .r (se l[i])), (8, .p 2 0), (9, .p 3 0), (12, ses l), (13, gi (l.map se).length), (14, gi i), (25, sms l[i].samples), (26, gi (l[i].samples.map sm).length), (27, gi j)], [(0, .row 44 2 ((withoutF (fun ls t => !h ls t) (l.take i)).map se)), (1, .row 44 2 ((withoutF h (l.take i)).map se)), (2, .blk 44 [lbs l[i].labels, .o 4]), (3, .blk 44 [lbs l[i].labels, .o 5]), (4, .row 47 2 (((l[i].samples.take j).filter fun s => h l[i].labels s.time).map sm)), (5, .row 47 2 (((l[i].samples.take j).filter fun s => !h l[i].labels s.time).map sm))], 6⟩) (fun j => j ≤ l[i].samples.length) (fun j => l[i].samples.length - j)
          (fun _ => ⟨[(1, .fn (.func f) [] caps), (4, .o 0), (5, .o 1), (8, .p 2 0), (9, .p 3 0), (12, ses l), (13, gi (l.map se).length), (14, gi i)], [(0, .row 44 2 ((withoutF (fun ls t => !h ls t) (l.take i)).map se)), (1, .row 44 2 ((withoutF h (l.take i)).map se)), (2, .blk 44 [lbs l[i].labels, .o 4]), (3, .blk 44 [lbs l[i].labels, .o 5]), (4, .row 47 2 ((l[i].samples.filter fun s => h l[i].labels s.time).map sm)), (5, .row 47 2 ((l[i].samples.filter fun s => !h l[i].labels s.time).map sm))], 6⟩) (fun _ => True) 0 id ?_ (Nat.zero_le _) ?_ ?_
        · exact ⟨⟨by simp only [ren, renL, hr]; rfl, rfl, rfl, rfl, rfl, rfl, rfl, rfl, rfl, rfl, rfl, rfl, trivial⟩, ⟨rfl, rfl, rfl, rfl, rfl, rfl, trivial⟩, by simp [idbE, idb, idbL, hcapU, idbH, idbR, hids, distB, fixB, memB]; try decide⟩
        · rintro j hj
          replace hj : j ≤ l[i].samples.length := hj
          refine V ?_
          by_cases hjl : j < l[i].samples.length
          · have hy := part_step (fun s : Sm => h l[i].labels s.time) l[i].samples j hjl
            have hn := part_step (fun s : Sm => !h l[i].labels s.time) l[i].samples j hjl
            have ly : ((l[i].samples.take j).filter fun s => h l[i].labels s.time).length ≤ j := Nat.le_trans (List.length_filter_le _ _) (by simp; omega)
            have ln : ((l[i].samples.take j).filter fun s => !h l[i].labels s.time).length ≤ j := Nat.le_trans (List.length_filter_le _ _) (by simp; omega)
            refine p1 ?_ (decide_eq_true (by omega))
            refine ix (h := ?_)
            have hc := hfi l[i].samples[j].time
            rcases tf (h l[i].labels l[i].samples[j].time) with hb | hb
            · refine GO (hc.bt hb) rfl ?_ (by simp [idbL, idb, hcaps])
              refine ⟨by simp only [List.length_map, List.length_cons, List.length_nil]; omega, ?_⟩
              refine ⟨j + 1, fun k => bif Nat.beq k 4 then 8 else k, ⟨⟨by simp only [ren, renL, hr]; rfl, rfl, rfl, rfl, rfl, rfl, rfl, rfl, rfl, rfl, rfl, succ_gi (by omega), trivial⟩, ⟨rfl, rfl, rfl, rfl, ?_, ?_, trivial⟩, by simp [idbE, idb, idbL, hcapU, idbH, idbR, hids, distB, fixB, memB]; try decide⟩, hjl, by show l[i].samples.length - (j + 1) < l[i].samples.length - j; omega⟩
              · rw [hy, if_pos hb, List.map_append]; rfl
              · rw [hn, if_neg (by rw [hb]; decide), List.append_nil]; rfl
            · refine GO (hc.bt hb) rfl ?_ (by simp [idbL, idb, hcaps])
              refine ⟨by simp only [List.length_map, List.length_cons, List.length_nil]; omega, ?_⟩
              refine ⟨j + 1, fun k => bif Nat.beq k 5 then 8 else k, ⟨⟨by simp only [ren, renL, hr]; rfl, rfl, rfl, rfl, rfl, rfl, rfl, rfl, rfl, rfl, rfl, succ_gi (by omega), trivial⟩, ⟨rfl, rfl, rfl, rfl, ?_, ?_, trivial⟩, by simp [idbE, idb, idbL, hcapU, idbH, idbR, hids, distB, fixB, memB]; try decide⟩, hjl, by show l[i].samples.length - (j + 1) < l[i].samples.length - j; omega⟩
              · rw [hy, if_neg (by rw [hb]; decide), List.append_nil]; rfl
              · rw [hn, if_pos (by rw [hb]; rfl), List.map_append]; rfl
          · refine p2 ?_ (decide_eq_false (by omega))
            obtain rfl : j = l[i].samples.length := by omega
            rw [List.take_length]
            exact ⟨(), id, ⟨⟨by simp only [ren, renL, hr]; rfl, rfl, rfl, rfl, rfl, rfl, rfl, rfl, trivial⟩, ⟨rfl, rfl, rfl, rfl, rfl, rfl, trivial⟩, by simp [idbE, idb, idbL, hcapU, idbH, idbR, hids, distB, fixB, memB]; try decide⟩, trivial⟩
        · rintro _ _
          refine JK.freeze 4 rfl ?_
          refine FRZ 5 rfl ?_
          have hstY := wo_step (fun ls t => !h ls t) l i hlt
          have hstN := wo_step h l i hlt
          have lY : (withoutF (fun ls t => !h ls t) (l.take i)).length ≤ l.length := Nat.le_trans (withoutF_len _ _) (by simp; omega)
          have lN : (withoutF h (l.take i)).length ≤ l.length := Nat.le_trans (withoutF_len _ _) (by simp; omega)
          have hyes : leftS (fun ls t => !h ls t) l[i] = l[i].samples.filter fun s => h l[i].labels s.time := by
            unfold leftS
            simp only [Bool.not_not]
          cases hy : l[i].samples.filter fun s => h l[i].labels s.time with
          | nil =>
            refine p2 ?_ (decide_eq_false (by simp))
            cases hn : l[i].samples.filter fun s => !h l[i].labels s.time with
            | nil =>
              refine p2 ?_ (decide_eq_false (by simp))
              refine ⟨i + 1, id, ⟨⟨by simp only [ren, renL, hr]; exact congrArg (fun c => some (GV.fn (.func f) [] c)) ((congrArg (frzL _ _ _) (hfr _ _ _)).trans (hfr _ _ _)), rfl, rfl, rfl, rfl, succ_gi (by omega), trivial⟩, ⟨?_, ?_, trivial⟩, by simp [idbE, idb, idbL, hcapU, idbH, idbR, hids, distB, fixB, memB]; try decide⟩, hlt, by show l.length - (i + 1) < l.length - i; omega⟩
              · rw [hstY, withoutF_no _ (hyes.trans hy), show withoutF (fun ls t => !h ls t) [] = [] from rfl, List.append_nil]; rfl
              · rw [hstN, withoutF_no _ hn, show withoutF h [] = [] from rfl, List.append_nil]; rfl
            | cons z q =>
              refine p1 ?_ (decide_eq_true (by rw [List.length_map, List.length_cons]; omega))
              refine ⟨by simp only [List.length_map, List.length_cons, List.length_nil]; omega, ?_⟩
              refine ⟨i + 1, (fun k => bif Nat.beq k 1 then 7 else k), ⟨⟨by simp only [ren, renL, hr]; exact congrArg (fun c => some (GV.fn (.func f) [] c)) ((congrArg (frzL _ _ _) (hfr _ _ _)).trans (hfr _ _ _)), rfl, rfl, rfl, rfl, succ_gi (by omega), trivial⟩, ⟨?_, ?_, trivial⟩, by simp [idbE, idb, idbL, hcapU, idbH, idbR, hids, distB, fixB, memB]; try decide⟩, hlt, by show l.length - (i + 1) < l.length - i; omega⟩
              · rw [hstY, withoutF_no _ (hyes.trans hy), show withoutF (fun ls t => !h ls t) [] = [] from rfl, List.append_nil]; rfl
              · rw [hstN, withoutF_yes _ hn, List.map_append]; rfl
          | cons y r =>
            refine p1 ?_ (decide_eq_true (by rw [List.length_map, List.length_cons]; omega))
            refine ⟨by simp only [List.length_map, List.length_cons, List.length_nil]; omega, ?_⟩
            cases hn : l[i].samples.filter fun s => !h l[i].labels s.time with
            | nil =>
              refine p2 ?_ (decide_eq_false (by simp))
              refine ⟨i + 1, (fun k => bif Nat.beq k 0 then 7 else k), ⟨⟨by simp only [ren, renL, hr]; exact congrArg (fun c => some (GV.fn (.func f) [] c)) ((congrArg (frzL _ _ _) (hfr _ _ _)).trans (hfr _ _ _)), rfl, rfl, rfl, rfl, succ_gi (by omega), trivial⟩, ⟨?_, ?_, trivial⟩, by simp [idbE, idb, idbL, hcapU, idbH, idbR, hids, distB, fixB, memB]; try decide⟩, hlt, by show l.length - (i + 1) < l.length - i; omega⟩
              · rw [hstY, withoutF_yes _ (hyes.trans hy), List.map_append]; rfl
              · rw [hstN, withoutF_no _ hn, show withoutF h [] = [] from rfl, List.append_nil]; rfl
            | cons z q =>
              refine p1 ?_ (decide_eq_true (by rw [List.length_map, List.length_cons]; omega))
              refine ⟨by simp only [List.length_map, List.length_cons, List.length_nil]; omega, ?_⟩
              refine ⟨i + 1, (fun k => bif Nat.beq k 0 then 7 else 9), ⟨⟨by simp only [ren, renL, hr]; exact congrArg (fun c => some (GV.fn (.func f) [] c)) ((congrArg (frzL _ _ _) (hfr _ _ _)).trans (hfr _ _ _)), rfl, rfl, rfl, rfl, succ_gi (by omega), trivial⟩, ⟨?_, ?_, trivial⟩, by simp [idbE, idb, idbL, hcapU, idbH, idbR, hids, distB, fixB, memB]; try decide⟩, hlt, by show l.length - (i + 1) < l.length - i; omega⟩
              · rw [hstY, withoutF_yes _ (hyes.trans hy), List.map_append]; rfl
              · rw [hstN, withoutF_yes _ hn, List.map_append]; rfl
      · refine RA.run (cx := ⟨pg, _, _, _, _, _, _, _⟩) pg_ok (by kernel_rfl) (by intro _ _ h; exact h) (tk [0, 1, 3, 4]) (e := false) (by kernel_rfl) ?_
        refine RA.takeB 2 pg_ok rfl rfl rfl rfl rfl rfl rfl (by kernel_rfl) (by intro _ _ h; exact h) ?_
        refine RA.takeB 5 pg_ok rfl rfl rfl rfl rfl rfl rfl (by kernel_rfl) (by intro _ _ h; exact h) ?_
        refine RA.both 6 7 (eqB_eq (by kernel_rfl)) (Stp.mem 6 pg_ok rfl rfl rfl ?_) (Stp.mem 7 pg_ok rfl rfl rfl ?_)
        · refine RA.run (cx := ⟨pg, _, _, _, _, _, _, _⟩) pg_ok (by kernel_rfl) (by intro _ _ h; exact h) (al [7, 8, 9]) (e := false) (by kernel_rfl) ?_
          refine RA.endJ (fun k => bif Nat.beq k 2 then 3 else bif Nat.beq k 3 then 4 else k) (by kernel_rfl) hk ⟨⟨by simp only [ren, renL, hr]; exact congrArg (fun c => some (GV.fn (.func f) [] c)) (hfz _ _), rfl, rfl, rfl, rfl, rfl, rfl, rfl, rfl, trivial⟩, ⟨rfl, rfl, rfl, rfl, trivial⟩, ?_⟩
          simp [idbE, idb, idbL, hcapU, idbH, idbR, hids, distB, fixB, memB]; try decide
        · refine RA.run (cx := ⟨pg, _, _, _, _, _, _, _⟩) pg_ok (by kernel_rfl) (by intro _ _ h; exact h) (al [6, 8, 9]) (e := false) (by kernel_rfl) ?_
          refine RA.endJ (fun k => bif Nat.beq k 2 then 4 else k) (by kernel_rfl) hk ⟨⟨by simp only [ren, renL, hr]; exact congrArg (fun c => some (GV.fn (.func f) [] c)) (hfz _ _), rfl, rfl, rfl, rfl, rfl, rfl, rfl, rfl, trivial⟩, ⟨rfl, rfl, rfl, rfl, trivial⟩, ?_⟩
          simp [idbE, idb, idbL, hcapU, idbH, idbR, hids, distB, fixB, memB]; try decide
    · refine p2 ?_ (decide_eq_false (by omega))
      obtain rfl : i = l.length := by omega
      rw [List.take_length]
      exact ⟨(), id, ⟨⟨rfl, rfl, trivial⟩, ⟨rfl, rfl, trivial⟩, rfl⟩, trivial⟩
  · rintro _ _
    refine JK.freeze 0 rfl ?_
    refine FRZ 1 rfl ?_
    exact ⟨⟨rfl, rfl, trivial⟩, rfl⟩
end Go.Proofs.Ytcdnilijfnfkbaa
