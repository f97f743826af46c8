/-
  Contracts: package block: which may be, written, read.
-/
import Derived.Test.YtcdnilijfnfkbaaCShS
import Derived.Test.YtcdnilijfnfkbaaPCa
import Derived.Test.YtcdnilijfnfkbaaCTkA
import Derived.Test.YtcdnilijfnfkbaaCRefLab2
import Derived.Test.YtcdnilijfnfkbaaCSamples
import Derived.Test.YtcdnilijfnfkbaaCWrA
namespace Go.Proofs.Ytcdnilijfnfkbaa
open Go.GK Go.PL Go.RowKit
set_option maxRecDepth 100000
abbrev bkG (to_ old : Int) (l : List Ser) : GV := .agg [gi to_, gi old, ses l]
theorem badI_blk {to_ old : Int} {l : List Ser} (h : blkR to_ old l = true) : badI l = none := badI_none fun i hi => by
  obtain ⟨h1, h2⟩ := blkR_all h l[i] (List.getElem_mem hi)
  unfold goodB
  rw [h1, h2]
  rfl
/-- The two numbers ahead of a block's series, read one behind the other. -/
theorem two_none {s s1 s2 : ByteArray} {a b : Int} {b1 b2 : Bool} (h1 : b1 = true → okP false (numP s) = none) (h1' : b1 = false → false = false ∧ numP s = some (a, s1)) (h2 : b2 = true → okP b1 (numP s1) = none) (h2' : b2 = false → b1 = false ∧ numP s1 = some (b, s2))
    (h : okP b2 (seriesP s2) = none) : blkP s = none := by
  unfold blkP
  cases b1 with
  | true => rw [show numP s = none from h1 rfl]
  | false =>
    rw [(h1' rfl).2]
    simp only
    cases b2 with
    | true => rw [show numP s1 = none from h2 rfl]
    | false =>
      rw [(h2' rfl).2]
      simp only
      rw [show seriesP s2 = none from h]
theorem two_some {s s1 s2 r : ByteArray} {a b : Int} {b1 b2 : Bool} {l : List Ser} (h1' : b1 = false → false = false ∧ numP s = some (a, s1)) (h2' : b2 = false → b1 = false ∧ numP s1 = some (b, s2))
    (h : okP b2 (seriesP s2) = some (l, r)) : blkP s = some ((a, b, l), r) := by
  obtain ⟨rfl, hs⟩ := okP_some h
  obtain ⟨rfl, hb⟩ := h2' rfl
  unfold blkP
  rw [(h1' rfl).2]
  simp only
  rw [hb]
  simp only
  rw [hs]
theorem two_size {s s1 s2 : ByteArray} {a b : Int} {b1 b2 : Bool} (h1' : b1 = false → false = false ∧ numP s = some (a, s1)) (h2' : b2 = false → b1 = false ∧ numP s1 = some (b, s2)) (e : b2 = false) : s2.size ≤ s.size := by
  obtain ⟨rfl, hb⟩ := h2' e
  have i1 := (numP_size hb).1
  have i2 := (numP_size (h1' rfl).2).1
  omega
end Go.Proofs.Ytcdnilijfnfkbaa


namespace Go.Proofs.Ytcdnilijfnfkbaa
open Go.GK Go.PL Go.RowKit
set_option maxRecDepth 100000
/-- A series that is not too long for this world. -/
def Short1 (x : Ser) : Prop := x.labels.length ≤ 1000000 ∧ x.samples.length ≤ 1000000 ∧ ∀ y ∈ x.labels, y.name.size < 4611686018427387904 ∧ y.value.size < 4611686018427387904
theorem rbright_rt (to_ old : Int) (l : List Ser) (hlab : ∀ x ∈ l, Short1 x) : Rt pg 5 [bkG to_ old l] (.b (blkR to_ old l)) := by
  refine Rt.of pg_ok Try.func5 rfl Try.ntmps5 rfl Try.results5 Try.call5 fun H0 S0 w0 h0 g0 => ?_
  have hll : (l.map se).length = l.length := by simp
  refine JK.len 7 rfl fun hlen _ => ?_
  have hlen' : l.length ≤ 9223372036854775807 := by simpa [maxLen] using hlen
  refine JK.loop (α := Nat) (fun i => ⟨[(1, .p 0 0), (7, ses l), (8, gi (l.map se).length), (9, gi i)], [(0, .blk 26 [gi to_, gi old, ses l])], 1⟩) (fun i => i ≤ l.length ∧ ∀ j, j < i → blkBad to_ l j = false) (fun i => l.length - i) 0 id ?_ ⟨Nat.zero_le _, fun j hj => absurd hj (by omega)⟩ ?_
  · exact ⟨⟨rfl, rfl, rfl, rfl, trivial⟩, ⟨rfl, trivial⟩, rfl⟩
  · rintro i ⟨hi, hgood⟩
    replace hi : i ≤ l.length := hi
    refine V ?_
    by_cases hlt : i < l.length
    · have hat := blkBad_at (to_ := to_) hlt
      have hbad : blkBad to_ l i = true → blkR to_ old l = false := fun h => by unfold blkR; rw [anyB_true hlt h]; rfl
      have hnext : blkBad to_ l i = false → ∀ j, j < i + 1 → blkBad to_ l j = false := fun h j hj => by
        rcases Nat.lt_succ_iff_lt_or_eq.1 hj with h1 | h1
        · exact hgood j h1
        · subst h1; exact h
      obtain ⟨q1, q2, q3⟩ := hlab l[i] (List.getElem_mem hlt)
      have hr1 := labelsW_rt l[i].labels q1 q3
      have hr2 := Rq.old Try.call16 (samples_ct l[i].samples q2)
      have hsl : (l[i].samples.map sm).length = l[i].samples.length := by simp
      refine p1 ?_ (decide_eq_true (by omega))
      refine ix (h := ?_)
      rcases tf (rightF l[i].labels) with h1 | h1
      · refine DRAW [] false (tk [0, 1]) (by kernel_rfl) ?_
        refine RGO 2 false (tk [3, 4, 5, 6]) (hr1.bt h1) rfl rfl (by kernel_rfl) ?_
        repeat (first | refine p1 ?_ | refine p2 ?_ | refine p3 ?_ | refine p4 ?_)
        rcases tf (okS l[i].samples) with h2 | h2
        · refine RGO 7 false (tk [8, 9, 10, 11, 12, 13, 14, 15, 16, 17, 18, 19, 20, 21, 22, 23, 24, 25, 26, 27, 28, 29, 30, 31, 32, 33, 34, 35, 36, 37, 38]) (hr2.bt h2) rfl rfl (by kernel_rfl) ?_
          repeat (first | refine p1 ?_ | refine p2 ?_ | refine p3 ?_ | refine p4 ?_)
          by_cases h3 : l[i].samples.length = 0
          · refine p3 ?_ (by simp [h3])
            repeat (first | refine p1 ?_ | refine p2 ?_ | refine p3 ?_ | refine p4 ?_)
            refine RSKIP 39 true (tk [40, 41, 42]) rfl rfl (by kernel_rfl) ?_
            repeat (first | refine p1 ?_ | refine p2 ?_ | refine p3 ?_ | refine p4 ?_)
            refine V ?_
            repeat (first | refine p1 ?_ | refine p2 ?_ | refine p3 ?_ | refine p4 ?_)
            rw [hbad (by rw [hat, h1, h2, decide_eq_true h3]; rfl)]
            exact ⟨rfl, rfl⟩
          · have h3' : l[i].samples.length - 1 < l[i].samples.length := by omega
            have hla := lastB_at (to_ := to_) h3'
            refine p4 ?_ (by rw [beq_eq_false_iff_ne]; omega)
            repeat (first | refine p1 ?_ | refine p2 ?_ | refine p3 ?_ | refine p4 ?_)
            refine idx (l[i].samples.length - 1) (by rw [hsl, wrap_id (by omega) (by omega)]; omega) h3' ?_
            by_cases h4 : to_ < l[i].samples[l[i].samples.length - 1].time
            · refine p3 ?_ (decide_eq_true h4)
              repeat (first | refine p1 ?_ | refine p2 ?_ | refine p3 ?_ | refine p4 ?_)
              refine RSKIP 39 true (tk [40, 41, 42]) rfl rfl (by kernel_rfl) ?_
              repeat (first | refine p1 ?_ | refine p2 ?_ | refine p3 ?_ | refine p4 ?_)
              refine V ?_
              repeat (first | refine p1 ?_ | refine p2 ?_ | refine p3 ?_ | refine p4 ?_)
              rw [hbad (by rw [hat, h1, h2, decide_eq_false h3, hla, decide_eq_true h4]; rfl)]
              exact ⟨rfl, rfl⟩
            · refine p4 ?_ (decide_eq_false h4)
              by_cases h5 : 0 < i
              · repeat (first | refine p1 ?_ | refine p2 ?_ | refine p3 ?_ | refine p4 ?_)
                refine idx (i - 1) (by rw [wrap_id (by omega) (by omega)]; omega) (by omega) ?_
                have hpv := prevB_at (l := l) (x := l[i]) (by omega : i - 1 < l.length) h5
                refine RGO 39 true (tk [40, 41, 42]) (refCompare_rt l[i - 1].labels l[i].labels (hlab l[i - 1] (List.getElem_mem (by omega))).1 q1) rfl (congrArg (fun c => bif (c == true) then some (17, [lbs l[i - 1].labels, lbs l[i].labels]) else none) (decide_eq_true (show (i : Int) > 0 by omega))) (by kernel_rfl) ?_
                refine V ?_
                by_cases h6 : 0 ≤ cmpF l[i - 1].labels l[i].labels
                · refine p1 ?_ (decide_eq_true h6)
                  rw [hbad (by rw [hat, h1, h2, decide_eq_false h3, hla, decide_eq_false h4, hpv, decide_eq_true h6]; rfl)]
                  exact ⟨rfl, rfl⟩
                · refine p2 ?_ (decide_eq_false h6)
                  exact ⟨i + 1, id, ⟨⟨rfl, rfl, rfl, succ_gi (by omega), trivial⟩, ⟨rfl, trivial⟩, rfl⟩, ⟨hlt, hnext (by rw [hat, h1, h2, decide_eq_false h3, hla, decide_eq_false h4, hpv, decide_eq_false h6]; rfl)⟩, by show l.length - (i + 1) < l.length - i; omega⟩
              · have hi0 : i = 0 := by omega
                repeat (first | refine p1 ?_ | refine p2 ?_ | refine p3 ?_ | refine p4 ?_)
                refine RSKIP 39 true (tk [40, 41, 42]) rfl (congrArg (fun c => c == !true) (decide_eq_false (show ¬ (i : Int) > 0 by omega))) (by kernel_rfl) ?_
                refine V ?_
                have hp0 : prevB l i l[i] = false := by unfold prevB; rw [decide_eq_false h5]; rfl
                exact ⟨i + 1, id, ⟨⟨rfl, rfl, rfl, succ_gi (by omega), trivial⟩, ⟨rfl, trivial⟩, rfl⟩, ⟨hlt, hnext (by rw [hat, h1, h2, decide_eq_false h3, hla, decide_eq_false h4, hp0]; rfl)⟩, by show l.length - (i + 1) < l.length - i; omega⟩
        · refine RGO 7 false (tk [8, 9, 10, 11, 12, 13, 14, 15, 16, 17, 18, 19, 20, 21, 22, 23, 24, 25, 26, 27, 28, 29, 30, 31, 32, 33, 34, 35, 36, 37, 38]) (hr2.bt h2) rfl rfl (by kernel_rfl) ?_
          repeat (first | refine p1 ?_ | refine p2 ?_ | refine p3 ?_ | refine p4 ?_)
          refine RSKIP 39 true (tk [40, 41, 42]) rfl rfl (by kernel_rfl) ?_
          repeat (first | refine p1 ?_ | refine p2 ?_ | refine p3 ?_ | refine p4 ?_)
          refine V ?_
          repeat (first | refine p1 ?_ | refine p2 ?_ | refine p3 ?_ | refine p4 ?_)
          rw [hbad (by rw [hat, h1, h2]; rfl)]
          exact ⟨rfl, rfl⟩
      · refine DRAW [] false (tk [0, 1]) (by kernel_rfl) ?_
        refine RGO 2 false (tk [3, 4, 5, 6]) (hr1.bt h1) rfl rfl (by kernel_rfl) ?_
        repeat (first | refine p1 ?_ | refine p2 ?_ | refine p3 ?_ | refine p4 ?_)
        refine RSKIP 7 false (tk [8, 9, 10, 11, 12, 13, 14, 15, 16, 17, 18, 19, 20, 21, 22, 23, 24, 25, 26, 27, 28, 29, 30, 31, 32, 33, 34, 35, 36, 37, 38]) rfl rfl (by kernel_rfl) ?_
        repeat (first | refine p1 ?_ | refine p2 ?_ | refine p3 ?_ | refine p4 ?_)
        refine RSKIP 39 true (tk [40, 41, 42]) rfl rfl (by kernel_rfl) ?_
        repeat (first | refine p1 ?_ | refine p2 ?_ | refine p3 ?_ | refine p4 ?_)
        refine V ?_
        repeat (first | refine p1 ?_ | refine p2 ?_ | refine p3 ?_ | refine p4 ?_)
        rw [hbad (by rw [hat, h1]; rfl)]
        exact ⟨rfl, rfl⟩
    · obtain rfl : i = l.length := by omega
      refine p2 ?_ (decide_eq_false (by omega))
      refine V ?_
      have hR : blkR to_ old l = (decide (-1099511627776 ≤ to_ ∧ to_ ≤ 1099511627776) && decide (-1 ≤ old)) := by unfold blkR; rw [anyB_false hgood]; rfl
      rw [hR]
      by_cases t1 : -1099511627776 ≤ to_ ∧ to_ ≤ 1099511627776
      · refine GO ((in_rt to_ (-1099511627776) 1099511627776).bt (d := true) (decide_eq_true t1)) rfl ?_
        repeat (first | refine p1 ?_ | refine p2 ?_ | refine p3 ?_ | refine p4 ?_)
        exact ⟨by rw [decide_eq_true t1]; rfl, rfl⟩
      · refine GO ((in_rt to_ (-1099511627776) 1099511627776).bt (d := false) (decide_eq_false t1)) rfl ?_
        repeat (first | refine p1 ?_ | refine p2 ?_ | refine p3 ?_ | refine p4 ?_)
        exact ⟨by rw [decide_eq_false t1]; rfl, rfl⟩
end Go.Proofs.Ytcdnilijfnfkbaa


namespace Go.Proofs.Ytcdnilijfnfkbaa
open Go.GK Go.PL Go.RowKit
set_option maxRecDepth 100000
noncomputable def bW (s : ByteArray) : Option (Int × Int × List Ser) := match blkP s with
  | some (x, r) => if r.size = 0 then (if blkR x.1 x.2.1 x.2.2 = true then some x else none) else none
  | none => none
theorem good_short {x : Ser} (h : GoodS x) : Short1 x := by
  obtain ⟨h1, h2, _⟩ := h
  obtain ⟨r1, r2⟩ := right_small h1
  have h3 := ((okS_iff _).1 h2).2
  exact ⟨by omega, by omega, fun y hy => by have := r2 y hy; omega⟩
end Go.Proofs.Ytcdnilijfnfkbaa
