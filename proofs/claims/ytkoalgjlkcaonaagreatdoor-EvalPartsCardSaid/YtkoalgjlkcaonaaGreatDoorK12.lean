/-
  Contracts: a reader of bytes (code.Reader): a size, a text, labels; whether it is bad, whether it is done.
-/
import Derived.Test.YtkoalgjlkcaonaaGreatDoorK11
import Derived.Test.YtkoalgjlkcaonaaGreatDoorK07
import Derived.Test.YtkoalgjlkcaonaaGreatDoorK06
import Derived.Test.YtkoalgjlkcaonaaGreatDoorK08
import Derived.Test.YtkoalgjlkcaonaaGreatDoorK10
import Derived.Test.YtkoalgjlkcaonaaGreatDoorK09
import Derived.Test.YtkoalgjlkcaonaaGreatDoorK05
import Derived.LaidMore
import Derived.Stop.LaidErr
import Derived.Test.YtkoalgjlkcaonaaGreatDoorRows
import Derived.ProofKit
import Derived.LaidLaws
import Derived.LaidHandle
import Derived.LaidSub
import Derived.Lay
import Derived.ChangeSame
import Derived.OpenShut
import Derived.Stop.Joined
set_option linter.unusedSimpArgs false
namespace Go.Proofs.YtkoalgjlkcaonaaGreatDoor
open Go.GK Go.PL Go.RowKit
set_option maxRecDepth 100000
end Go.Proofs.YtkoalgjlkcaonaaGreatDoor
/-
  Contracts: a reader of bytes (code.Reader): labels.
-/
namespace Go.Proofs.YtkoalgjlkcaonaaGreatDoor
open Go.GK Go.PL Go.RowKit
set_option maxRecDepth 100000
end Go.Proofs.YtkoalgjlkcaonaaGreatDoor
/-
  Contracts: package bits.
-/
namespace Go.Proofs.YtkoalgjlkcaonaaGreatDoor
open Go.GK Go.PL
set_option maxRecDepth 100000
end Go.Proofs.YtkoalgjlkcaonaaGreatDoor
/-
  Contracts: package roll.
-/
namespace Go.Proofs.YtkoalgjlkcaonaaGreatDoor
open Go.GK Go.PL
set_option maxRecDepth 100000

end Go.Proofs.YtkoalgjlkcaonaaGreatDoor
/-
  Contracts: which samples may be.
-/
namespace Go.Proofs.YtkoalgjlkcaonaaGreatDoor
open Go.GK Go.PL
set_option maxRecDepth 100000
theorem right_ct (l : List Sm) : Ct pg 32 0 [.sl 2 (l.map sm)] [] (Val fun g => g = .b (okS l)) := by
  refine Ct.len 0 rfl fun hlen _ => ?_
  have hlen' : l.length ≤ 9223372036854775807 := by simpa [maxLen] using hlen
  refine Ct.bool (Ct.of_JK pg_ok Tryz.func32 rfl Tryz.ntmps32 rfl Tryz.results32 fun H0 S0 w0 h0 g0 => ?_)
  refine vc_sound pg_ok 200 _ _ ?_
  refine JK.loop (α := Nat) (fun i => ⟨[(0, .sl 2 (l.map sm)), (5, .sl 2 (l.map sm)), (6, gi (l.map sm).length), (7, gi i)], [], 0⟩) (fun i => i ≤ l.length ∧ ∀ j x, j < i → l[j]? = some x → ¬ badAt l j x) (fun i => l.length - i) 0 id ?_ ⟨Nat.zero_le _, fun j x hj => absurd hj (by omega)⟩ ?_
  · exact ⟨⟨rfl, rfl, rfl, rfl, trivial⟩, trivial, rfl⟩
  · rintro i ⟨hi, hgood⟩
    refine vc_sound pg_ok 200 _ _ ?_
    refine ⟨fun hb => ?_, fun hb => ?_⟩
    · have hlt : i < l.length := by simpa using hb
      refine idx i rfl hlt ?_
      refine ⟨by kernel_rfl, ?_⟩
      have hfalse : badAt l i l[i] → false = okS l := fun hb => by
        cases h : okS l with
        | false => rfl
        | true => exact ((okS_bad l).1 h |>.1 i l[i] (List.getElem?_eq_getElem hlt) hb).elim
      have hnext : ¬ badAt l i l[i] → i + 1 ≤ l.length ∧ ∀ j x, j < i + 1 → l[j]? = some x → ¬ badAt l j x := fun hn => ⟨hlt, fun j x hj hx => by
        rcases Nat.lt_succ_iff_lt_or_eq.1 hj with h1 | h1
        · exact hgood j x h1 hx
        · subst h1
          rw [List.getElem?_eq_getElem hlt] at hx
          cases hx
          exact hn⟩
      have e18 : some (gi (IntKind.i64.wrap (i + 1 : Int))) = some (gi ((i + 1 : Nat) : Int)) := by rw [wrap_id (by omega) (by omega)]; rfl
      refine ⟨fun ha => ?_, fun ha => ?_⟩
      · have ha' : ¬ l[i].time < -1099511627776 := by simpa using ha
        refine ⟨fun hc => ?_, fun hc => ?_⟩
        · have hc' : ¬ l[i].time > 1099511627776 := by simpa using hc
          refine ⟨fun hd => ?_, fun hd => ?_⟩
          · have hd' : 0 < i := by simpa using hd
            have ew : IntKind.i64.wrap ((i : Int) - 1) = ((i - 1 : Nat) : Int) := by rw [wrap_id (by omega) (by omega)]; omega
            refine idx (i - 1) ew (by omega) ?_
            refine ⟨fun he => ?_, fun he => ?_⟩
            · exact .inl (congrArg (fun c => GV.v (.bool c)) (hfalse (.inr (.inr ⟨hd', _, List.getElem?_eq_getElem (by omega), by simpa using he⟩))))
            · refine ⟨i + 1, id, ⟨⟨rfl, rfl, rfl, e18, trivial⟩, trivial, rfl⟩, hnext ?_, by show l.length - (i + 1) < l.length - i; omega⟩
              rintro (h | h | ⟨_, y, hy, h⟩)
              · exact ha' h
              · exact hc' h
              · rw [List.getElem?_eq_getElem (by omega)] at hy
                rw [Option.some.injEq] at hy
                rw [← hy] at h
                simp at he
                omega
          · have hd' : ¬ 0 < i := by simpa using hd
            refine ⟨i + 1, id, ⟨⟨rfl, rfl, rfl, e18, trivial⟩, trivial, rfl⟩, hnext ?_, by show l.length - (i + 1) < l.length - i; omega⟩
            rintro (h | h | ⟨h, _⟩)
            · exact ha' h
            · exact hc' h
            · exact hd' h
        · exact .inl (congrArg (fun c => GV.v (.bool c)) (hfalse (.inr (.inl (by simpa using hc)))))
      · exact .inl (congrArg (fun c => GV.v (.bool c)) (hfalse (.inl (by simpa using ha))))
    · have hge : i = l.length := by simp at hb; omega
      refine vc_sound pg_ok 200 _ _ ?_
      refine .inr (congrArg GV.b ?_)
      rw [Bool.eq_iff_iff, okS_bad, decide_eq_true_iff, List.length_map]
      exact ⟨fun h => ⟨fun j x hj => hgood j x (by rw [hge]; exact (List.getElem?_eq_some_iff.1 hj).1) hj, by omega⟩, fun h => by omega⟩
end Go.Proofs.YtkoalgjlkcaonaaGreatDoor
/-
  Contracts: package chunk, writing.
-/
namespace Go.Proofs.YtkoalgjlkcaonaaGreatDoor
open Go.GK Go.PL
set_option maxRecDepth 100000
end Go.Proofs.YtkoalgjlkcaonaaGreatDoor
/-
  Contracts: package chunk, reading.
-/
namespace Go.Proofs.YtkoalgjlkcaonaaGreatDoor
open Go.GK Go.PL
set_option maxRecDepth 100000
def ReadQ (s : ByteArray) (g : GV) : Prop :=
  (∃ l, okS l = true ∧ V64 l ∧ s = enc l ∧ g = .tup [.sl 2 (l.map sm), .v .nilIface]) ∨
  ((∀ l, okS l = true → V64 l → s ≠ enc l) ∧ g = .tup [.v (.slice none 0 0), .ifc 53 (gi 3)])
end Go.Proofs.YtkoalgjlkcaonaaGreatDoor
/-
  Contracts: a reader of bytes (code.Reader): series.
-/
namespace Go.Proofs.YtkoalgjlkcaonaaGreatDoor
open Go.GK Go.PL Go.RowKit
set_option maxRecDepth 100000
theorem ReadQ.id {t : ByteArray} {g : GV} (h : ReadQ t g) : idb 0 g = true := by
  rcases h with ⟨l, _, _, _, rfl⟩ | ⟨_, rfl⟩ <;> rfl
end Go.Proofs.YtkoalgjlkcaonaaGreatDoor
/-
  Contracts: a writer of bytes (code.Writer).
-/
namespace Go.Proofs.YtkoalgjlkcaonaaGreatDoor
open Go.GK Go.PL Go.RowKit
set_option maxRecDepth 100000
end Go.Proofs.YtkoalgjlkcaonaaGreatDoor
/-
  Contracts: series written (code.Series).
-/
namespace Go.Proofs.YtkoalgjlkcaonaaGreatDoor
open Go.GK Go.PL Go.RowKit
set_option maxRecDepth 100000
end Go.Proofs.YtkoalgjlkcaonaaGreatDoor
/-
  Contracts: the document's answer on labels and matchers (chapter 4).
-/
namespace Go.Proofs.YtkoalgjlkcaonaaGreatDoor
open Go.GK Go.PL Go.RowKit
set_option maxRecDepth 100000
end Go.Proofs.YtkoalgjlkcaonaaGreatDoor
/-
  Contracts: the document's answer on labels: order, text, Only, Fits; short labels, the same labels.
-/
namespace Go.Proofs.YtkoalgjlkcaonaaGreatDoor
open Go.GK Go.PL Go.RowKit
set_option maxRecDepth 100000
def shL (l : List Lb) : Bool := decide (l.length ≤ 20) && !anyB l.length (fun i => decide (60 < (l.getD i default).name.size) || decide (60 < (l.getD i default).value.size))
theorem Hl.sh {l : List Lb} (h : Hl l) : Sh l := fun x hx => by have := h.value x hx; omega
end Go.Proofs.YtkoalgjlkcaonaaGreatDoor
/-
  Series that are short; what code.Series says of good ones and of others.
-/
namespace Go.Proofs.YtkoalgjlkcaonaaGreatDoor
open Go.GK Go.PL Go.RowKit
set_option maxRecDepth 100000
theorem shL_small {l : List Lb} (h : shL l = true) : l.length ≤ 20 ∧ ∀ x ∈ l, x.name.size ≤ 60 ∧ x.value.size ≤ 60 := by
  unfold shL at h
  rw [Bool.and_eq_true, decide_eq_true_iff, Bool.not_eq_true'] at h
  refine ⟨h.1, fun x hx => ?_⟩
  obtain ⟨i, hi, rfl⟩ := List.getElem_of_mem hx
  have := anyB_get h.2 i hi
  rw [show l.getD i default = l[i] by simp [hi], Bool.or_eq_false_iff, decide_eq_false_iff_not, decide_eq_false_iff_not] at this
  omega
def badS (l : List Ser) (i : Nat) : Bool := match l[i]? with | some x => !shL x.labels || decide (60 < x.samples.length) | none => false
theorem badS_at {l : List Ser} {i : Nat} (h : i < l.length) : badS l i = (!shL l[i].labels || decide (60 < l[i].samples.length)) := by unfold badS; rw [List.getElem?_eq_getElem h]
def shS (l : List Ser) : Bool := decide (l.length ≤ 20) && !anyB l.length (badS l)
theorem shS_small {l : List Ser} (h : shS l = true) : l.length ≤ 20 ∧ ∀ x ∈ l, shL x.labels = true ∧ x.samples.length ≤ 60 := by
  unfold shS at h
  rw [Bool.and_eq_true, decide_eq_true_iff, Bool.not_eq_true'] at h
  refine ⟨h.1, fun x hx => ?_⟩
  obtain ⟨i, hi, rfl⟩ := List.getElem_of_mem hx
  have := anyB_get h.2 i hi
  rw [badS_at hi] at this
  simp only [Bool.or_eq_false_iff, Bool.not_eq_false', decide_eq_false_iff_not] at this
  exact ⟨this.1, by omega⟩
end Go.Proofs.YtkoalgjlkcaonaaGreatDoor
/-
  Contracts: package block: which may be, written, read.
-/
namespace Go.Proofs.YtkoalgjlkcaonaaGreatDoor
open Go.GK Go.PL Go.RowKit
set_option maxRecDepth 100000
abbrev bkG (to_ old : Int) (l : List Ser) : GV := .agg [gi to_, gi old, ses l]
end Go.Proofs.YtkoalgjlkcaonaaGreatDoor
/-
  Contracts: the document's reader (ref.Taker): a number, a text.
-/
namespace Go.Proofs.YtkoalgjlkcaonaaGreatDoor
open Go.GK Go.PL Go.RowKit
set_option maxRecDepth 100000
end Go.Proofs.YtkoalgjlkcaonaaGreatDoor
/-
  Contracts: which blocks may be.
-/
namespace Go.Proofs.YtkoalgjlkcaonaaGreatDoor
open Go.GK Go.PL Go.RowKit
set_option maxRecDepth 100000
def Short1 (x : Ser) : Prop := x.labels.length ≤ 1000000 ∧ x.samples.length ≤ 1000000 ∧ ∀ y ∈ x.labels, y.name.size < 4611686018427387904 ∧ y.value.size < 4611686018427387904
theorem bright_rt (to_ old : Int) (l : List Ser) (hlab : ∀ x ∈ l, Short1 x) : Rt pg 8 [bkG to_ old l] (.b (blkR to_ old l)) := by
  refine Rt.of pg_ok Tryz.func8 rfl Tryz.ntmps8 rfl Tryz.results8 Tryz.call8 fun H0 S0 w0 h0 g0 => ?_
  have hll : (l.map se).length = l.length := by simp
  refine JK.len 7 rfl fun hlen _ => ?_
  have hlen' : l.length ≤ 9223372036854775807 := by simpa [maxLen] using hlen
  refine JK.loop (α := Nat) (fun i => ⟨[(1, .p 0 0), (7, ses l), (8, gi (l.map se).length), (9, gi i)], [(0, .blk 27 [gi to_, gi old, ses l])], 1⟩) (fun i => i ≤ l.length ∧ ∀ j, j < i → blkBad to_ l j = false) (fun i => l.length - i) 0 id ?_ ⟨Nat.zero_le _, fun j hj => absurd hj (by omega)⟩ ?_
  · exact ⟨⟨rfl, rfl, rfl, rfl, trivial⟩, ⟨rfl, trivial⟩, rfl⟩
  · rintro i ⟨hi, hgood⟩
    replace hi : i ≤ l.length := hi
    refine V ?_
    by_cases hlt : i < l.length
    · have hat := blkBad_at (to_ := to_) hlt
      have hbad : blkBad to_ l i = true → blkR to_ old l = false := fun h => by unfold blkR; rw [anyB_true hlt h]; rfl
      have hnext : blkBad to_ l i = false → ∀ j, j < i + 1 → blkBad to_ l j = false := fun h j hj => by
        rcases Nat.lt_succ_iff_lt_or_eq.1 hj with h1 | h1
        · exact hgood j h1
        · subst h1; exact h
      obtain ⟨q1, q2, q3⟩ := hlab l[i] (List.getElem_mem hlt)
      have hr1 := right_rt l[i].labels (fun y hy => (q3 y hy).2)
      have hr2 := Rq.old Tryz.call32 (right_ct l[i].samples)
      have hsl : (l[i].samples.map sm).length = l[i].samples.length := by simp
      refine p1 ?_ (decide_eq_true (by omega))
      refine ix (h := ?_)
      rcases tf (rightF l[i].labels) with h1 | h1
      · refine DRAW [] false (tk [0, 1]) (by kernel_rfl) ?_
        refine RGO 2 false (tk [3, 4, 5, 6]) (hr1.bt h1) rfl rfl (by kernel_rfl) ?_
        repeat (first | refine p1 ?_ | refine p2 ?_ | refine p3 ?_ | refine p4 ?_)
        rcases tf (okS l[i].samples) with h2 | h2
        · refine RGO 7 false (tk [8, 9, 10, 11, 12, 13, 14, 15, 16, 17, 18, 19, 20, 21, 22, 23, 24, 25, 26, 27, 28, 29, 30, 31, 32, 33, 34, 35, 36, 37, 38]) (hr2.bt h2) rfl rfl (by kernel_rfl) ?_
          repeat (first | refine p1 ?_ | refine p2 ?_ | refine p3 ?_ | refine p4 ?_)
          by_cases h3 : l[i].samples.length = 0
          · refine p3 ?_ (by simp [h3])
            repeat (first | refine p1 ?_ | refine p2 ?_ | refine p3 ?_ | refine p4 ?_)
            refine RSKIP 39 true (tk [40, 41, 42]) rfl rfl (by kernel_rfl) ?_
            repeat (first | refine p1 ?_ | refine p2 ?_ | refine p3 ?_ | refine p4 ?_)
            refine V ?_
            repeat (first | refine p1 ?_ | refine p2 ?_ | refine p3 ?_ | refine p4 ?_)
            rw [hbad (by rw [hat, h1, h2, decide_eq_true h3]; rfl)]
            exact ⟨rfl, rfl⟩
          · have h3' : l[i].samples.length - 1 < l[i].samples.length := by omega
            have hla := lastB_at (to_ := to_) h3'
            refine p4 ?_ (by rw [beq_eq_false_iff_ne]; omega)
            repeat (first | refine p1 ?_ | refine p2 ?_ | refine p3 ?_ | refine p4 ?_)
            refine idx (l[i].samples.length - 1) (by rw [hsl, wrap_id (by omega) (by omega)]; omega) h3' ?_
            by_cases h4 : to_ < l[i].samples[l[i].samples.length - 1].time
            · refine p3 ?_ (decide_eq_true h4)
              repeat (first | refine p1 ?_ | refine p2 ?_ | refine p3 ?_ | refine p4 ?_)
              refine RSKIP 39 true (tk [40, 41, 42]) rfl rfl (by kernel_rfl) ?_
              repeat (first | refine p1 ?_ | refine p2 ?_ | refine p3 ?_ | refine p4 ?_)
              refine V ?_
              repeat (first | refine p1 ?_ | refine p2 ?_ | refine p3 ?_ | refine p4 ?_)
              rw [hbad (by rw [hat, h1, h2, decide_eq_false h3, hla, decide_eq_true h4]; rfl)]
              exact ⟨rfl, rfl⟩
            · refine p4 ?_ (decide_eq_false h4)
              by_cases h5 : 0 < i
              · repeat (first | refine p1 ?_ | refine p2 ?_ | refine p3 ?_ | refine p4 ?_)
                refine idx (i - 1) (by rw [wrap_id (by omega) (by omega)]; omega) (by omega) ?_
                have hpv := prevB_at (l := l) (x := l[i]) (by omega : i - 1 < l.length) h5
                refine RGO 39 true (tk [40, 41, 42]) (lcompare_rt l[i - 1].labels l[i].labels) rfl (congrArg (fun c => bif (c == true) then some (13, [lbs l[i - 1].labels, lbs l[i].labels]) else none) (decide_eq_true (show (i : Int) > 0 by omega))) (by kernel_rfl) ?_
                refine V ?_
                by_cases h6 : 0 ≤ cmpF l[i - 1].labels l[i].labels
                · refine p1 ?_ (decide_eq_true h6)
                  rw [hbad (by rw [hat, h1, h2, decide_eq_false h3, hla, decide_eq_false h4, hpv, decide_eq_true h6]; rfl)]
                  exact ⟨rfl, rfl⟩
                · refine p2 ?_ (decide_eq_false h6)
                  exact ⟨i + 1, id, ⟨⟨rfl, rfl, rfl, succ_gi (by omega), trivial⟩, ⟨rfl, trivial⟩, rfl⟩, ⟨hlt, hnext (by rw [hat, h1, h2, decide_eq_false h3, hla, decide_eq_false h4, hpv, decide_eq_false h6]; rfl)⟩, by show l.length - (i + 1) < l.length - i; omega⟩
              · have hi0 : i = 0 := by omega
                repeat (first | refine p1 ?_ | refine p2 ?_ | refine p3 ?_ | refine p4 ?_)
                refine RSKIP 39 true (tk [40, 41, 42]) rfl (congrArg (fun c => c == !true) (decide_eq_false (show ¬ (i : Int) > 0 by omega))) (by kernel_rfl) ?_
                refine V ?_
                have hp0 : prevB l i l[i] = false := by unfold prevB; rw [decide_eq_false h5]; rfl
                exact ⟨i + 1, id, ⟨⟨rfl, rfl, rfl, succ_gi (by omega), trivial⟩, ⟨rfl, trivial⟩, rfl⟩, ⟨hlt, hnext (by rw [hat, h1, h2, decide_eq_false h3, hla, decide_eq_false h4, hp0]; rfl)⟩, by show l.length - (i + 1) < l.length - i; omega⟩
        · refine RGO 7 false (tk [8, 9, 10, 11, 12, 13, 14, 15, 16, 17, 18, 19, 20, 21, 22, 23, 24, 25, 26, 27, 28, 29, 30, 31, 32, 33, 34, 35, 36, 37, 38]) (hr2.bt h2) rfl rfl (by kernel_rfl) ?_
          repeat (first | refine p1 ?_ | refine p2 ?_ | refine p3 ?_ | refine p4 ?_)
          refine RSKIP 39 true (tk [40, 41, 42]) rfl rfl (by kernel_rfl) ?_
          repeat (first | refine p1 ?_ | refine p2 ?_ | refine p3 ?_ | refine p4 ?_)
          refine V ?_
          repeat (first | refine p1 ?_ | refine p2 ?_ | refine p3 ?_ | refine p4 ?_)
          rw [hbad (by rw [hat, h1, h2]; rfl)]
          exact ⟨rfl, rfl⟩
      · refine DRAW [] false (tk [0, 1]) (by kernel_rfl) ?_
        refine RGO 2 false (tk [3, 4, 5, 6]) (hr1.bt h1) rfl rfl (by kernel_rfl) ?_
        repeat (first | refine p1 ?_ | refine p2 ?_ | refine p3 ?_ | refine p4 ?_)
        refine RSKIP 7 false (tk [8, 9, 10, 11, 12, 13, 14, 15, 16, 17, 18, 19, 20, 21, 22, 23, 24, 25, 26, 27, 28, 29, 30, 31, 32, 33, 34, 35, 36, 37, 38]) rfl rfl (by kernel_rfl) ?_
        repeat (first | refine p1 ?_ | refine p2 ?_ | refine p3 ?_ | refine p4 ?_)
        refine RSKIP 39 true (tk [40, 41, 42]) rfl rfl (by kernel_rfl) ?_
        repeat (first | refine p1 ?_ | refine p2 ?_ | refine p3 ?_ | refine p4 ?_)
        refine V ?_
        repeat (first | refine p1 ?_ | refine p2 ?_ | refine p3 ?_ | refine p4 ?_)
        rw [hbad (by rw [hat, h1]; rfl)]
        exact ⟨rfl, rfl⟩
    · obtain rfl : i = l.length := by omega
      refine p2 ?_ (decide_eq_false (by omega))
      refine V ?_
      have hR : blkR to_ old l = (decide (-1099511627776 ≤ to_ ∧ to_ ≤ 1099511627776) && decide (-1 ≤ old)) := by unfold blkR; rw [anyB_false hgood]; rfl
      rw [hR]
      by_cases t1 : -1099511627776 ≤ to_
      · by_cases t2 : to_ ≤ 1099511627776
        · repeat (first | refine p1 ?_ | refine p2 ?_ | refine p3 ?_ | refine p4 ?_)
          exact ⟨by rw [decide_eq_true (show -1099511627776 ≤ to_ ∧ to_ ≤ 1099511627776 from ⟨t1, t2⟩)]; rfl, rfl⟩
        · repeat (first | refine p1 ?_ | refine p2 ?_ | refine p3 ?_ | refine p4 ?_)
          exact ⟨by rw [decide_eq_false (show ¬(-1099511627776 ≤ to_ ∧ to_ ≤ 1099511627776) from fun h => t2 h.2)]; rfl, rfl⟩
      · repeat (first | refine p1 ?_ | refine p2 ?_ | refine p3 ?_ | refine p4 ?_)
        exact ⟨by rw [decide_eq_false (show ¬(-1099511627776 ≤ to_ ∧ to_ ≤ 1099511627776) from fun h => t1 h.1)]; rfl, rfl⟩
end Go.Proofs.YtkoalgjlkcaonaaGreatDoor
/-
  Contracts: the laws LabelOrder, LabelNot.
-/
namespace Go.Proofs.YtkoalgjlkcaonaaGreatDoor
open Go.GK Go.PL Go.RowKit
set_option maxRecDepth 100000
theorem kshortL_rt (l : List Lb) : Rt pg 28 [.sl 2 (l.map lb)] (.b (shL l)) := by
  refine Rt.of pg_ok Tryz.func28 rfl Tryz.ntmps28 rfl Tryz.results28 Tryz.call28 fun H0 S0 w0 h0 g0 => ?_
  have hll : (l.map lb).length = l.length := by simp
  unfold shL
  by_cases hl : l.length ≤ 20
  · refine p2 ?_
    refine JK.loop (α := Nat) (fun i => ⟨[(0, .sl 2 (l.map lb)), (3, gi i)], [], 0⟩) (fun i => i ≤ l.length ∧ ∀ j, j < i → (decide (60 < (l.getD j default).name.size) || decide (60 < (l.getD j default).value.size)) = false) (fun i => l.length - i) 0 id ?_ ⟨Nat.zero_le _, fun j hj => absurd hj (by omega)⟩ ?_
    · exact ⟨⟨rfl, rfl, trivial⟩, trivial, rfl⟩
    · rintro i ⟨hi, hgood⟩
      refine V ?_
      by_cases hlt : i < l.length
      · have hg : l.getD i default = l[i] := by simp [hlt]
        have hbad : (decide (60 < l[i].name.size) || decide (60 < l[i].value.size)) = true → (decide (l.length ≤ 20) && !anyB l.length (fun i => decide (60 < (l.getD i default).name.size) || decide (60 < (l.getD i default).value.size))) = false := fun h => by rw [anyB_true hlt (by rw [hg]; exact h)]; simp
        have hnext : (decide (60 < l[i].name.size) || decide (60 < l[i].value.size)) = false → ∀ j, j < i + 1 → (decide (60 < (l.getD j default).name.size) || decide (60 < (l.getD j default).value.size)) = false := fun h j hj => by
          rcases Nat.lt_succ_iff_lt_or_eq.1 hj with h1 | h1
          · exact hgood j h1
          · subst h1; rw [hg]; exact h
        by_cases h1 : 60 < l[i].name.size
        · repeat (first | refine p1 ?_ | refine p2 ?_ | refine p3 ?_ | refine p4 ?_ | refine ix (h := ?_))
          exact ⟨(hbad (by rw [decide_eq_true h1]; rfl)).symm, rfl⟩
        · by_cases h2 : 60 < l[i].value.size
          · repeat (first | refine p1 ?_ | refine p2 ?_ | refine p3 ?_ | refine p4 ?_ | refine ix (h := ?_))
            exact ⟨(hbad (by rw [decide_eq_true h2, Bool.or_true])).symm, rfl⟩
          · repeat (first | refine p1 ?_ | refine p2 ?_ | refine p3 ?_ | refine p4 ?_ | refine ix (h := ?_))
            exact ⟨i + 1, id, ⟨⟨rfl, succ_gi (by omega), trivial⟩, trivial, rfl⟩, ⟨hlt, hnext (by rw [decide_eq_false h1, decide_eq_false h2]; rfl)⟩, by show l.length - (i + 1) < l.length - i; omega⟩
      · refine p2 ?_
        refine V ?_
        obtain rfl : i = l.length := by omega
        exact ⟨by rw [anyB_false hgood, decide_eq_true hl]; rfl, rfl⟩
  · refine p1 ?_
    exact ⟨by rw [decide_eq_false hl]; rfl, rfl⟩
end Go.Proofs.YtkoalgjlkcaonaaGreatDoor
/-
  Contracts: a number within bounds.
-/
namespace Go.Proofs.YtkoalgjlkcaonaaGreatDoor
open Go.GK
set_option maxRecDepth 100000
end Go.Proofs.YtkoalgjlkcaonaaGreatDoor
/-
  Contracts: series that are short, and the same; a number that is picked (package raingaugekeep).
-/
namespace Go.Proofs.YtkoalgjlkcaonaaGreatDoor
open Go.GK Go.PL Go.RowKit
set_option maxRecDepth 100000
theorem shortS_rt (l : List Ser) : Rt pg 6 [ses l] (.b (shS l)) := by
  refine Rt.of pg_ok Tryz.func6 rfl Tryz.ntmps6 rfl Tryz.results6 Tryz.call6 fun H0 S0 w0 h0 g0 => ?_
  have hll : (l.map se).length = l.length := by simp
  unfold shS
  by_cases hl : l.length ≤ 20
  · refine p2 ?_
    refine JK.loop (α := Nat) (fun i => ⟨[(0, ses l), (3, gi i)], [], 0⟩) (fun i => i ≤ l.length ∧ ∀ j, j < i → badS l j = false) (fun i => l.length - i) 0 id ?_ ⟨Nat.zero_le _, fun j hj => absurd hj (by omega)⟩ ?_
    · exact ⟨⟨rfl, rfl, trivial⟩, trivial, rfl⟩
    · rintro i ⟨hi, hgood⟩
      refine V ?_
      by_cases hlt : i < l.length
      · have hg := badS_at hlt
        have hbad : (!shL l[i].labels || decide (60 < l[i].samples.length)) = true → (decide (l.length ≤ 20) && !anyB l.length (badS l)) = false := fun h => by rw [anyB_true hlt (by rw [hg]; exact h)]; simp
        have hnext : (!shL l[i].labels || decide (60 < l[i].samples.length)) = false → ∀ j, j < i + 1 → badS l j = false := fun h j hj => by
          rcases Nat.lt_succ_iff_lt_or_eq.1 hj with h1 | h1
          · exact hgood j h1
          · subst h1; rw [hg]; exact h
        refine p1 ?_ (decide_eq_true (by omega))
        refine ix (h := ?_)
        have hsm : (l[i].samples.map sm).length = l[i].samples.length := by simp
        rcases tf (shL l[i].labels) with h1 | h1
        · refine GO ((kshortL_rt l[i].labels).bt h1) rfl ?_
          repeat (first | refine p1 ?_ | refine p2 ?_ | refine p3 ?_ | refine p4 ?_)
          refine ix (h := ?_)
          by_cases h2 : 60 < l[i].samples.length
          · refine p1 ?_ (decide_eq_true (by omega))
            exact ⟨(hbad (by rw [decide_eq_true h2, Bool.or_true])).symm, rfl⟩
          · refine p2 ?_ (decide_eq_false (by omega))
            exact ⟨i + 1, id, ⟨⟨rfl, succ_gi (by omega), trivial⟩, trivial, rfl⟩, ⟨hlt, hnext (by rw [decide_eq_false h2, h1]; rfl)⟩, by show l.length - (i + 1) < l.length - i; omega⟩
        · refine GO ((kshortL_rt l[i].labels).bt h1) rfl ?_
          repeat (first | refine p1 ?_ | refine p2 ?_ | refine p3 ?_ | refine p4 ?_)
          exact ⟨(hbad (by rw [h1]; rfl)).symm, rfl⟩
      · refine p2 ?_ (decide_eq_false (by omega))
        refine V ?_
        obtain rfl : i = l.length := by omega
        exact ⟨by rw [anyB_false hgood, decide_eq_true hl]; rfl, rfl⟩
  · refine p1 ?_
    exact ⟨by rw [decide_eq_false hl]; rfl, rfl⟩
end Go.Proofs.YtkoalgjlkcaonaaGreatDoor
/-
  EvalMoves: the law's walk.
-/
namespace Go.Proofs.YtkoalgjlkcaonaaGreatDoor
open Go.GK Go.PL Go.RowKit
set_option maxRecDepth 100000
theorem ser_ok {to_ old : Int} {l : List Ser} (h1 : shS l = true) (h2 : blkR to_ old l = true) (hv : ∀ x ∈ l, V64 x.samples) : SerOk l := by
  obtain ⟨h3, h4⟩ := shS_small h1
  refine ⟨(blkR_ris h2).1, by omega, fun x hx y hy => hv x hx y hy, fun x hx => ?_⟩
  obtain ⟨h5, h6⟩ := h4 x hx
  have := (shL_small h5).1
  exact ⟨by omega, by omega⟩
theorem shS_short {l : List Ser} (h1 : shS l = true) : ∀ x ∈ l, Short1 x := fun x hx => by
  obtain ⟨h5, h6⟩ := (shS_small h1).2 x hx
  obtain ⟨h7, h8⟩ := shL_small h5
  exact ⟨by omega, by omega, fun y hy => by have := h8 y hy; omega⟩
end Go.Proofs.YtkoalgjlkcaonaaGreatDoor
/-
  Plain laws: what a text of matchers, and greater ones around it, ask of series. No program is in sight.
-/
namespace Go.PL
open Go Go.GK
def pickP (S : List Ser) (ms : List Mt) (t : Int) : List Pt := ptsF 2 (srcF S ms (wr64 (wr64 (t - 300) + 1)) t)
theorem eval_pickQ (S : List Ser) (ms : List Mt) (t : Int) : evalF (srcF S) t (pickQ ms) = .ok (pickP S ms t, false) := by
  unfold pickQ
  rw [evalF, if_neg (by decide), if_pos (by decide)]
  rfl
theorem eval_allQ (S : List Ser) (t : Int) (k : Nat) (hk : k < 4) (b : List ByteArray) {q : Qn} {P : List Pt} (h : evalF (srcF S) t q = .ok (P, false)) : evalF (srcF S) t (allQ k b q) = .ok (togF (8 + k) b P, false) := by
  unfold allQ
  rw [evalF, if_neg (by omega), if_neg (by omega), h]
  simp only
  rw [if_pos (by omega), if_neg (by decide)]
theorem asks_pick {S : List Ser} {s : ByteArray} {ms : List Mt} {t : Int} (h : parseF s.data.toList = .ok (pickQ ms)) : asksF S s.data.toList t = some (pickP S ms t) := by
  unfold asksF
  rw [h]
  simp only
  rw [eval_pickQ]
def t1 (K s : ByteArray) : ByteArray := K ++ ⟨#[40]⟩ ++ s ++ ⟨#[41]⟩
def t2 (K K2 s b : ByteArray) : ByteArray := K ++ ⟨#[40]⟩ ++ K2 ++ ⟨#[40]⟩ ++ s ++ ⟨#[41, 32, 98, 121, 32, 40]⟩ ++ b ++ ⟨#[41, 41]⟩
theorem t1_list (K s : ByteArray) : (t1 K s).data.toList = bL K ++ 40 :: (bL s ++ [41]) := by
  unfold t1 bL
  simp [ByteArray.data_append]
theorem t2_list (K K2 s b : ByteArray) : (t2 K K2 s b).data.toList = bL K ++ 40 :: (bL K2 ++ 40 :: (bL s ++ 41 :: 32 :: 98 :: 121 :: 32 :: 40 :: (bL b ++ [41, 41]))) := by
  unfold t2 bL
  simp [ByteArray.data_append]
theorem t1_size (K s : ByteArray) : (t1 K s).size = K.size + s.size + 2 := by
  have h1 : (⟨#[40]⟩ : ByteArray).size = 1 := rfl
  have h2 : (⟨#[41]⟩ : ByteArray).size = 1 := rfl
  unfold t1
  simp only [ByteArray.size_append, h1, h2]
  omega
theorem t2_size (K K2 s b : ByteArray) : (t2 K K2 s b).size = K.size + K2.size + s.size + b.size + 10 := by
  have h1 : (⟨#[40]⟩ : ByteArray).size = 1 := rfl
  have h2 : (⟨#[41, 32, 98, 121, 32, 40]⟩ : ByteArray).size = 6 := rfl
  have h3 : (⟨#[41, 41]⟩ : ByteArray).size = 2 := rfl
  unfold t2
  simp only [ByteArray.size_append, h1, h2, h3]
  omega
structure PartsOk (S : List Ser) (s b : ByteArray) (t : Int) (P : List Pt) : Prop where
  pick : asksF S s.data.toList t = some P
  one : ∀ k, k < 4 → asksF S (t1 (allsL.getD k ⟨#[]⟩) s).data.toList t = some (togF (8 + k) [] P)
  two : ∀ k, k < 3 → asksF S (t2 (allsL.getD k ⟨#[]⟩) (allsL.getD k ⟨#[]⟩) s b).data.toList t = some (togF (8 + k) [] P)
  many : asksF S (t2 (allsL.getD 0 ⟨#[]⟩) (allsL.getD 3 ⟨#[]⟩) s b).data.toList t = some (togF 11 [] P)
theorem parts_ok (S : List Ser) {s b : ByteArray} (t : Int) (hs : s.size ≤ 60) {ms : List Mt} (h : matchF s.data.toList = .ok ms) (hb : nameF b = true) : PartsOk S s b t (pickP S ms t) := by
  obtain ⟨_, h1, h2, h3⟩ := parts_parse (s := s.data.toList) (by simpa using hs) h
  have hp := eval_pickQ S ms t
  have two : ∀ k, k < 4 → ∀ k2, k2 < 4 → asksF S (t2 (allsL.getD k ⟨#[]⟩) (allsL.getD k2 ⟨#[]⟩) s b).data.toList t = some (togF (8 + k) [] (togF (8 + k2) [b] (pickP S ms t))) := by
    intro k hk k2 hk2
    unfold asksF
    rw [t2_list]
    have := h3 k hk k2 hk2 b hb
    unfold bL at this ⊢
    rw [this]
    simp only
    rw [eval_allQ S t k hk [] (eval_allQ S t k2 hk2 [b] hp)]
  refine ⟨asks_pick h1, fun k hk => ?_, fun k hk => ?_, ?_⟩
  · unfold asksF
    rw [t1_list]
    have := h2 k hk
    unfold bL at this ⊢
    rw [this]
    simp only
    rw [eval_allQ S t k hk [] hp]
  · rw [two k (by omega) k (by omega), parts_same (by omega)]
  · rw [two 0 (by omega) 3 (by omega)]
    exact congrArg some (parts_many [b] (pickP S ms t))
theorem alls_size {k : Nat} (hk : k < 4) : (allsL.getD k ⟨#[]⟩).size ≤ 5 := by
  have : k = 0 ∨ k = 1 ∨ k = 2 ∨ k = 3 := by omega
  rcases this with rfl | rfl | rfl | rfl <;> decide
theorem pickP_ok {S : List Ser} (h : SerOk S) (ms : List Mt) (t : Int) : RisP (pickP S ms t) ∧ (pickP S ms t).length ≤ 100 := by
  have := (pts_good (src_b h) 2 ms (wr64 (wr64 (t - 300) + 1)) t).1
  exact ⟨this.ris, this.len⟩
end Go.PL
/-
  EvalParts: the law's walk.
-/
namespace Go.Proofs.YtkoalgjlkcaonaaGreatDoor
open Go.GK Go.PL Go.RowKit
set_option maxRecDepth 100000
set_option linter.unusedSimpArgs false
theorem evalParts_rt (l : List Ser) (hv : ∀ x ∈ l, V64 x.samples) (s b : ByteArray) (t : Int) : Rt pg 4 [ses l, gs s, gs b, gi t] (.b true) := by
  refine Rt.of pg_ok Tryz.func4 rfl Tryz.ntmps4 rfl Tryz.results4 Tryz.call4 fun H0 S0 w0 h0 g0 => ?_
  rcases tf (shS l) with h1 | h1
  rotate_left
  · refine GO ((shortS_rt l).bt h1) rfl ?_
    repeat (first | refine p1 ?_ | refine p2 ?_ | refine p3 ?_ | refine p4 ?_)
    exact ⟨rfl, rfl⟩
  have hsh := shS_small h1
  refine GO ((shortS_rt l).bt h1) rfl ?_
  by_cases hb : s.size ≤ 60 ∧ b.size ≤ 30 ∧ -1099511627776 ≤ t ∧ t ≤ 1099511627776
  rotate_left
  · by_cases c1 : 60 < s.size
    · repeat (first | refine p1 ?_ | refine p2 ?_ | refine p3 ?_ | refine p4 ?_)
      exact ⟨rfl, rfl⟩
    by_cases c2 : 30 < b.size
    · repeat (first | refine p1 ?_ | refine p2 ?_ | refine p3 ?_ | refine p4 ?_)
      exact ⟨rfl, rfl⟩
    by_cases c3 : t < -1099511627776
    · repeat (first | refine p1 ?_ | refine p2 ?_ | refine p3 ?_ | refine p4 ?_)
      exact ⟨rfl, rfl⟩
    have c4 : 1099511627776 < t := by omega
    repeat (first | refine p1 ?_ | refine p2 ?_ | refine p3 ?_ | refine p4 ?_)
    exact ⟨rfl, rfl⟩
  obtain ⟨b1, b2, b3, b4⟩ := hb
  repeat (first | refine p1 ?_ | refine p2 ?_ | refine p3 ?_ | refine p4 ?_)
  refine GO (asked_rt.bt rfl) rfl ?_
  rcases tf (blkR 1099511627776 0 l) with h2 | h2
  rotate_left
  · refine GO ((bright_rt 1099511627776 0 l (shS_short h1)).bt h2) rfl ?_
    repeat (first | refine p1 ?_ | refine p2 ?_ | refine p3 ?_ | refine p4 ?_)
    exact ⟨rfl, rfl⟩
  have hok := ser_ok h1 h2 hv
  refine GO ((bright_rt 1099511627776 0 l (shS_short h1)).bt h2) rfl ?_
  repeat (first | refine p1 ?_ | refine p2 ?_ | refine p3 ?_ | refine p4 ?_)
  have hna := lname_rt b
  rcases tf (nameF b) with h3 | h3
  rotate_left
  · refine GO (hna.bt h3) rfl ?_
    repeat (first | refine p1 ?_ | refine p2 ?_ | refine p3 ?_ | refine p4 ?_)
    exact ⟨rfl, rfl⟩
  refine GO (hna.bt h3) rfl ?_
  repeat (first | refine p1 ?_ | refine p2 ?_ | refine p3 ?_ | refine p4 ?_)
  have hm := match_rt s (by omega)
  cases hM : matchF s.data.toList with
  | error ep =>
    obtain ⟨e, p⟩ := ep
    rw [hM] at hm
    refine GO hm rfl ?_
    refine p1 ?_ rfl
    exact ⟨rfl, rfl⟩
  | ok ms =>
  rw [hM] at hm
  refine GO hm rfl ?_
  refine p2 ?_ rfl
  have hP := parts_ok l t b1 hM h3
  obtain ⟨hris, hlen⟩ := pickP_ok hok ms t
  generalize pickP l ms t = P at hP hris hlen
  have c40 : (⟨#[40]⟩ : ByteArray).size = 1 := rfl
  have c41 : (⟨#[41]⟩ : ByteArray).size = 1 := rfl
  have cby : (⟨#[41, 32, 98, 121, 32, 40]⟩ : ByteArray).size = 6 := rfl
  have cee : (⟨#[41, 41]⟩ : ByteArray).size = 2 := rfl
  have cm : (⟨#[109, 97, 110, 121, 40]⟩ : ByteArray).size = 5 := rfl
  have ctm : (⟨#[116, 111, 116, 97, 108, 40, 109, 97, 110, 121, 40]⟩ : ByteArray).size = 11 := rfl
  refine JK.loopE (α := Nat) (β := Unit) (fun i => ⟨[(0, ses l), (1, gs s), (2, gs b), (3, gi t), (63, .agg [gs (allsL.getD 0 ⟨#[]⟩), gs (allsL.getD 1 ⟨#[]⟩), gs (allsL.getD 2 ⟨#[]⟩)]), (64, gi i)], [], 0⟩) (fun i => i ≤ 3) (fun i => 3 - i)
    (fun _ => ⟨[(0, ses l), (1, gs s), (2, gs b), (3, gi t)], [], 0⟩) (fun _ => True) 0 id ?_ (Nat.zero_le _) ?_ ?_
  · exact ⟨⟨rfl, rfl, rfl, rfl, rfl, rfl, trivial⟩, trivial, rfl⟩
  · intro i hi
    refine V ?_
    by_cases hlt : i < 3
    · refine p1 ?_ (decide_eq_true (by omega))
      have hK := alls_size (k := i) (by omega)
      have hone := hP.one i (by omega)
      have htwo := hP.two i hlt
      have hrow : [gs (allsL.getD 0 ⟨#[]⟩), gs (allsL.getD 1 ⟨#[]⟩), gs (allsL.getD 2 ⟨#[]⟩)][(i : Int).toNat]? = some (gs (allsL.getD i ⟨#[]⟩)) := by
        have : i = 0 ∨ i = 1 ∨ i = 2 := by omega
        rcases this with rfl | rfl | rfl <;> rfl
      generalize allsL.getD i ⟨#[]⟩ = K at hK hone htwo hrow
      have s1 := t1_size K s
      have s2 := t2_size K K s b
      have a1 := asks_rt hok (t1 K s) (by omega) t b3 b4
      have a2 := asks_rt hok (t2 K K s b) (by omega) t b3 b4
      rw [hone] at a1
      rw [htwo] at a2
      refine ⟨gs K, by omega, by omega, hrow, ?_⟩
      refine ⟨by simp only [ByteArray.size_append, c40, c41, cby, cee]; omega, ?_⟩
      refine ⟨by simp only [ByteArray.size_append, c40, c41, cby, cee]; omega, ?_⟩
      refine ⟨by simp only [ByteArray.size_append, c40, c41, cby, cee]; omega, ?_⟩
      refine GO a1 rfl ?_
      refine ⟨by simp only [ByteArray.size_append, c40, c41, cby, cee]; omega, ?_⟩
      refine ⟨by simp only [ByteArray.size_append, c40, c41, cby, cee]; omega, ?_⟩
      refine ⟨by simp only [ByteArray.size_append, c40, c41, cby, cee]; omega, ?_⟩
      refine ⟨by simp only [ByteArray.size_append, c40, c41, cby, cee]; omega, ?_⟩
      refine ⟨by simp only [ByteArray.size_append, c40, c41, cby, cee]; omega, ?_⟩
      refine ⟨by simp only [ByteArray.size_append, c40, c41, cby, cee]; omega, ?_⟩
      refine ⟨by simp only [ByteArray.size_append, c40, c41, cby, cee]; omega, ?_⟩
      refine GO a2 rfl ?_
      refine GO ((samePK_rt (togF (8 + i) [] P)).bt rfl) rfl ?_
      repeat (first | refine p1 ?_ | refine p2 ?_ | refine p3 ?_ | refine p4 ?_)
      exact ⟨i + 1, id, ⟨⟨rfl, rfl, rfl, rfl, rfl, succ_gi (by omega), trivial⟩, trivial, rfl⟩, hlt, by show 3 - (i + 1) < 3 - i; omega⟩
    · refine p2 ?_ (decide_eq_false (by omega))
      exact ⟨(), id, ⟨⟨rfl, rfl, rfl, rfl, trivial⟩, trivial, rfl⟩, trivial⟩
  · rintro _ _
    have e3 : (allsL.getD 3 ⟨#[]⟩ : ByteArray) = ⟨#[109, 97, 110, 121]⟩ := by decide
    have hone := hP.one 3 (by omega)
    have htwo := hP.many
    have hK := alls_size (k := 3) (by omega)
    have hK0 := alls_size (k := 0) (by omega)
    have n1 : t1 (allsL.getD 3 ⟨#[]⟩) s = ⟨#[109, 97, 110, 121, 40]⟩ ++ s ++ ⟨#[41]⟩ := rfl
    have n2 : t2 (allsL.getD 0 ⟨#[]⟩) (allsL.getD 3 ⟨#[]⟩) s b = ⟨#[116, 111, 116, 97, 108, 40, 109, 97, 110, 121, 40]⟩ ++ s ++ ⟨#[41, 32, 98, 121, 32, 40]⟩ ++ b ++ ⟨#[41, 41]⟩ := rfl
    rw [n1] at hone
    rw [n2] at htwo
    have a1 := asks_rt hok (⟨#[109, 97, 110, 121, 40]⟩ ++ s ++ ⟨#[41]⟩) (by simp only [ByteArray.size_append, cm, c41]; omega) t b3 b4
    have a2 := asks_rt hok (⟨#[116, 111, 116, 97, 108, 40, 109, 97, 110, 121, 40]⟩ ++ s ++ ⟨#[41, 32, 98, 121, 32, 40]⟩ ++ b ++ ⟨#[41, 41]⟩) (by simp only [ByteArray.size_append, ctm, cby, cee]; omega) t b3 b4
    have a3 := asks_rt hok s (by omega) t b3 b4
    rw [hone] at a1
    rw [htwo] at a2
    rw [hP.pick] at a3
    have hPl : (P.map ptc).length = P.length := by simp
    have hN : P ≠ [] → togF 11 [] P = [⟨[], P.length⟩] := fun h => many_len (by omega) h
    have a1 : Rt pg 9 [ses l, gs (⟨#[109, 97, 110, 121, 40]⟩ ++ s ++ ⟨#[41]⟩), gi t] (asksG (some (togF 11 [] P))) := a1
    generalize togF 11 [] P = N at a1 a2 hN
    have hsame := (samePK_rt N).bt (d := true) rfl
    refine V ?_
    refine ⟨by simp only [ByteArray.size_append, cm, c41]; omega, ?_⟩
    refine ⟨by simp only [ByteArray.size_append, cm, c41]; omega, ?_⟩
    refine GO a1 rfl ?_
    refine ⟨by simp only [ByteArray.size_append, ctm, cby, cee]; omega, ?_⟩
    refine ⟨by simp only [ByteArray.size_append, ctm, cby, cee]; omega, ?_⟩
    refine ⟨by simp only [ByteArray.size_append, ctm, cby, cee]; omega, ?_⟩
    refine ⟨by simp only [ByteArray.size_append, ctm, cby, cee]; omega, ?_⟩
    refine GO a2 rfl ?_
    refine GO a3 rfl ?_
    refine GO hsame rfl ?_
    by_cases h0 : P = []
    · subst h0
      repeat (first | refine p1 ?_ | refine p2 ?_ | refine p3 ?_ | refine p4 ?_)
      refine JK.loopE (α := Unit) (β := Unit) (fun _ => ⟨[(21, pts []), (23, gi 1)], [], 0⟩) (fun _ => True) (fun _ => 0)
        (fun _ => ⟨[], [], 0⟩) (fun _ => True) () id ?_ trivial ?_ ?_
      · exact ⟨⟨rfl, rfl, trivial⟩, trivial, rfl⟩
      · intro _ _
        refine V ?_
        refine p2 ?_ rfl
        exact ⟨(), id, ⟨trivial, trivial, rfl⟩, trivial⟩
      · rintro _ _
        refine V ?_
        exact ⟨rfl, rfl⟩
    · have hpos : 0 < P.length := List.length_pos_iff.2 h0
      obtain rfl := hN h0
      repeat (first | refine p1 ?_ | refine p2 ?_ | refine p3 ?_ | refine p4 ?_)
      refine idx (f := ptc) (l := [⟨[], P.length⟩]) 0 rfl (Nat.zero_lt_succ _) ?_
      have hne : ((P.length : Int) != ((P.map ptc).length : Int)) = false := by simp
      refine p2 ?_ hne
      refine JK.loopE (α := Nat) (β := Unit) (fun i => ⟨[(21, pts P), (23, gi (i + 1 : Nat))], [], 0⟩) (fun i => i = 0 ∨ i < P.length) (fun i => P.length - i)
        (fun _ => ⟨[], [], 0⟩) (fun _ => True) 0 id ?_ (.inl rfl) ?_ ?_
      · exact ⟨⟨rfl, rfl, trivial⟩, trivial, rfl⟩
      · intro i hi
        refine V ?_
        by_cases hlt : i + 1 < P.length
        · refine p1 ?_ (decide_eq_true (by omega))
          have hc := lcompare_rt P[i].labels P[i + 1].labels
          have hneg : cmpF P[i].labels P[i + 1].labels < 0 := List.pairwise_iff_getElem.1 hris i (i + 1) (by omega) hlt (by omega)
          refine DRAW [] false (tk [0, 1, 2, 3, 4, 5, 6, 7, 8, 9, 10]) (by kernel_rfl) ?_
          refine idx (f := ptc) (l := P) i (by rw [wrap_id (by omega) (by omega)]; omega) (by omega) ?_
          refine ix (h := ?_)
          refine RGO 11 true (tk [12]) hc rfl rfl (by kernel_rfl) ?_
          refine V ?_
          refine p2 ?_ (decide_eq_false (by omega))
          exact ⟨i + 1, id, ⟨⟨rfl, succ_gi (by omega), trivial⟩, trivial, rfl⟩, .inr hlt, by show P.length - (i + 1) < P.length - i; omega⟩
        · refine p2 ?_ (decide_eq_false (by omega))
          exact ⟨(), id, ⟨trivial, trivial, rfl⟩, trivial⟩
      · rintro _ _
        refine V ?_
        exact ⟨rfl, rfl⟩
end Go.Proofs.YtkoalgjlkcaonaaGreatDoor
/-
  Arguments by their shapes: series.
-/
namespace Go.Proofs.YtkoalgjlkcaonaaGreatDoor
open Go.GK Go.PL
theorem lbl_list : ∀ (rows : List (List GV)), (∀ row ∈ rows, fitsL [.str, .str] row) → ∃ l : List Lb, rows = l.map lb
  | [], _ => ⟨[], rfl⟩
  | row :: rows, h => by
    obtain ⟨l, rfl⟩ := lbl_list rows (fun r hr => h r (by simp [hr]))
    have h0 := h row (by simp)
    simp only [fitsL, fits] at h0
    obtain ⟨_, _, rfl, ⟨a, rfl, _⟩, _, _, rfl, ⟨b, rfl, _⟩, rfl⟩ := h0
    exact ⟨⟨a, b⟩ :: l, rfl⟩
theorem sml_list : ∀ (rows : List (List GV)), (∀ row ∈ rows, fitsL [.int .i64, .int .i64] row) → ∃ l : List Sm, rows = l.map sm ∧ V64 l
  | [], _ => ⟨[], rfl, fun _ h => by cases h⟩
  | row :: rows, h => by
    obtain ⟨l, rfl, hl⟩ := sml_list rows (fun r hr => h r (by simp [hr]))
    have h0 := h row (by simp)
    simp only [fitsL, fits] at h0
    obtain ⟨_, _, rfl, ⟨a, rfl, _⟩, _, _, rfl, ⟨b, rfl, hb⟩, rfl⟩ := h0
    refine ⟨⟨a, b⟩ :: l, rfl, fun x hx => ?_⟩
    rcases List.mem_cons.1 hx with rfl | hx
    · have hb' : -9223372036854775808 ≤ b ∧ b ≤ 9223372036854775807 := by simpa [Lit.wf, IntKind.min, IntKind.max, IntKind.signed, IntKind.bits] using hb
      exact hb'
    · exact hl x hx
theorem ser_list : ∀ (rows : List (List GV)), (∀ row ∈ rows, fitsL [.slice [.str, .str], .slice [.int .i64, .int .i64]] row) → ∃ l : List Ser, rows = l.map se ∧ ∀ x ∈ l, V64 x.samples
  | [], _ => ⟨[], rfl, fun _ h => by cases h⟩
  | row :: rows, h => by
    obtain ⟨l, rfl, hl⟩ := ser_list rows (fun r hr => h r (by simp [hr]))
    have h0 := h row (by simp)
    simp only [fitsL, fits] at h0
    obtain ⟨_, _, rfl, ⟨a, rfl, ha⟩, _, _, rfl, ⟨b, rfl, hb⟩, rfl⟩ := h0
    obtain ⟨la, rfl⟩ := lbl_list a ha
    obtain ⟨lb', rfl, hV⟩ := sml_list b hb
    refine ⟨⟨la, lb'⟩ :: l, rfl, fun x hx => ?_⟩
    rcases List.mem_cons.1 hx with rfl | hx
    · exact hV
    · exact hl x hx
end Go.Proofs.YtkoalgjlkcaonaaGreatDoor
/-
  A law's contract, as the row asks for it.
-/
namespace Go.Proofs.YtkoalgjlkcaonaaGreatDoor
open Go.GK
theorem of_rt {f : FuncId} {gs : List GV} (h : Rt pg f gs (.b true)) : Ct pg f 0 gs [] (Val fun g => g = .b true) := by
  exact h.ct.weak fun g σ' n' hq => ⟨id, g, [], 0, ⟨hq.1.1, rfl, rfl⟩, (ren_id g).symm, trivial, by simp [hq.1.2, idbH, hids, distB, fixB]⟩
end Go.Proofs.YtkoalgjlkcaonaaGreatDoor
/-
  Package-level variables as rows list them: tables of integers and of texts, errors, each by what is laid.
-/
namespace Go.GK
open Go.ChangeShapes Go.WideShapes
def VarOk (W : World) (g : Nat) (gv : GV) : Prop := ∀ H : Hid, H.ro = roOf W → IsR H.ro gv (.pointer (some ⟨g, 0, none⟩)) ∧ ∀ cs, gv = .r cs → ∃ c ty fz, H.ro g = some (.cells c ty fz) ∧ c.size = cs.length
theorem look_mem : ∀ {l : Env} {g : Nat} {gv : GV}, look l g = some gv → (g, gv) ∈ l
  | [], _, _, h => by simp [look] at h
  | (g', x) :: l, g, gv, h => by
    unfold look at h
    cases hb : Nat.beq g' g with
    | true =>
      rw [hb] at h
      simp only [cond_true, Option.some.injEq] at h
      subst h
      have := Nat.eq_of_beq_eq_true hb
      subst this
      exact List.mem_cons_self
    | false =>
      rw [hb] at h
      exact List.mem_cons_of_mem _ (look_mem h)
theorem GlOk.of_vars {p : Pg} {W : World} (h : ∀ x ∈ p.gl, VarOk W x.1 x.2) : ∀ H : Hid, H.ro = roOf W → GlOk p H := fun H hro =>
  ⟨fun g gv hl => (h _ (look_mem hl) H hro).1, fun g cs hl => (h _ (look_mem hl) H hro).2 cs rfl⟩
theorem VarOk.of_vals {P : Program} {W : World} {n : String} {g : Nat} {cs : Array Value} {vs : List Value} (hg : P.globalNamed n = some g) (hv : W.var? P n = some cs) (h : cs.toList = vs) : VarOk W g (.r (vs.map .v)) := by
  intro H hro
  have hc : ∀ i, W.cell? ⟨g, i, none⟩ = vs[i]? := fun i => by
    rw [World.var?_cell hg hv i, ← h]
    simp
  refine ⟨?_, fun cs' he => ?_⟩
  · refine .r (fun j => (vs[j]?).getD undef) (fun j gv hj => ?_) (fun j gv hj => ?_)
    · rw [hro, addr_add_none, Nat.zero_add]
      have hj' : j < vs.length := by have := (List.getElem?_eq_some_iff.1 hj).1; simpa using this
      have := hc j
      rw [List.getElem?_eq_getElem hj'] at this ⊢
      exact this
    · have hj' : j < vs.length := by have := (List.getElem?_eq_some_iff.1 hj).1; simpa using this
      rw [List.getElem?_map, List.getElem?_eq_getElem hj'] at hj
      simp only [Option.map_some, Option.some.injEq] at hj
      subst hj
      rw [List.getElem?_eq_getElem hj']
      exact .v _
  · cases he
    have hv' := hv
    simp only [World.var?, hg, Option.bind_some] at hv'
    rw [hro]
    unfold roOf
    cases ho : W.heap[g]? with
    | none => rw [ho] at hv'; cases hv'
    | some o =>
      rw [ho] at hv'
      cases o with
      | cells c ty fz =>
        simp only [Option.some.injEq] at hv'
        subst hv'
        exact ⟨_, ty, fz, rfl, by rw [List.length_map, ← h]; simp⟩
      | _ => cases hv'
theorem arr_strs {Hh : Type} {enc : TypeId × Value → Hh} {P : Program} {w : World} {base : Nat} {spare : Nat → Bool} {held : Bool} {n : Nat} {t e : TypeId} (ht : P.underlying t = some (.array n e)) (he : P.underlying e = some .string) (hc : P.cellsOf e = 1) {zs : List (List UInt8)} (hz : zs.length = n) (hct : P.cellsOf t = n) {fuel : Nat} {cs : List Value} {ps : List MemPlace}
    (h : DataW.trod enc P w base spare held fuel t cs = some (.agg (zs.map fun z => .lit (.string z)), ps)) : cs = zs.map fun z => Value.string ⟨z.toArray⟩ := by
  obtain ⟨xs, m1, _, hx, hlen, hn, hel⟩ := DataW.trod_array ht h
  simp only [Prod.mk.injEq, DataW.agg.injEq] at hx
  rw [hct] at hlen
  refine List.ext_getElem (by simp; omega) fun i h1 h2 => ?_
  have hi : i < xs.length := by omega
  have := hel i (by omega)
  rw [hc, Nat.mul_one, List.getElem?_eq_getElem hi] at this
  obtain ⟨m, e1, e2, _⟩ := DataW.trod_string he this
  have e3 : (cs.drop i).take 1 = [cs[i]] := by rw [List.drop_eq_getElem_cons h1]; rfl
  rw [e3] at e1
  have e4 : (zs.map fun z => DataW.lit (H := Hh) (.string z))[i]? = (xs.map (·.1))[i]? := by rw [hx.1]
  rw [List.getElem?_map, List.getElem?_map, List.getElem?_eq_getElem hi, List.getElem?_eq_getElem (by omega), e2] at e4
  simp only [Option.map_some, Option.some.injEq, DataW.lit.injEq, Lit.string.injEq] at e4
  rw [List.getElem_map, e4]
  have e5 : (⟨m.data.toList.toArray⟩ : ByteArray) = m := by cases m; simp
  rw [e5]
  simpa using e1
section
variable {P : Program} {W : World} {n : String} {g : Nat} {t : TypeId}
theorem VarOk.ints {k : IntKind} {e : TypeId} {zs : List Int} (h : laidMet P [(n, .agg (zs.map fun z => .lit (.int k z)))] W) (hg : P.globalNamed n = some g) (hty : (P.globals[g]?).map (·.type) = some t) (ht : P.underlying t = some (.array zs.length e)) (he : P.underlying e = some (.int k)) (hc : P.cellsOf e = 1) (hct : P.cellsOf t = zs.length) :
    VarOk W g (.r ((zs.map (Value.int k)).map .v)) := by
  obtain ⟨ps, ⟨g0, t0, cs0, f0, p0, q0, hg0, ht0, hv0, hd0, _, _⟩, _, _⟩ := h
  obtain rfl := Option.some.inj (hg.symm.trans hg0)
  obtain rfl := Option.some.inj (hty.symm.trans ht0)
  exact .of_vals hg hv0 (arr_ints ht he hc rfl hct hd0)
theorem VarOk.strs {e : TypeId} {zs : List (List UInt8)} (h : laidMet P [(n, .agg (zs.map fun z => .lit (.string z)))] W) (hg : P.globalNamed n = some g) (hty : (P.globals[g]?).map (·.type) = some t) (ht : P.underlying t = some (.array zs.length e)) (he : P.underlying e = some .string) (hc : P.cellsOf e = 1) (hct : P.cellsOf t = zs.length) :
    VarOk W g (.r ((zs.map fun z => Value.string ⟨z.toArray⟩).map .v)) := by
  obtain ⟨ps, ⟨g0, t0, cs0, f0, p0, q0, hg0, ht0, hv0, hd0, _, _⟩, _, _⟩ := h
  obtain rfl := Option.some.inj (hg.symm.trans hg0)
  obtain rfl := Option.some.inj (hty.symm.trans ht0)
  exact .of_vals hg hv0 (arr_strs ht he hc rfl hct hd0)
theorem VarOk.two {k0 k1 : IntKind} {f0 f1 : Field} {a b : Int} (h : laidMet P [(n, .agg [.lit (.int k0 a), .lit (.int k1 b)])] W) (hg : P.globalNamed n = some g) (hty : (P.globals[g]?).map (·.type) = some t) (ht : P.underlying t = some (.struct #[f0, f1])) (he0 : P.underlying f0.type = some (.int k0)) (he1 : P.underlying f1.type = some (.int k1)) (hc0 : P.cellsOf f0.type = 1) (hc1 : P.cellsOf f1.type = 1) (hct : P.cellsOf t = 2) (ho0 : f0.offset = 0) (ho1 : f1.offset = 1) :
    VarOk W g (.r [.v (.int k0 a), .v (.int k1 b)]) := by
  obtain ⟨ps, ⟨g0, t0, cs0, fu, p0, q0, hg0, ht0, hv0, hd0, _, _⟩, _, _⟩ := h
  obtain rfl := Option.some.inj (hg.symm.trans hg0)
  obtain rfl := Option.some.inj (hty.symm.trans ht0)
  obtain ⟨y0, y1, m, hx, hl, h0, h1⟩ := trod_struct2 ht hd0
  obtain ⟨a', ha, rfl, _⟩ := DataW.trod_int he0 h0
  obtain ⟨b', hb, rfl, _⟩ := DataW.trod_int he1 h1
  rw [hct] at hl
  rw [hc0, ho0] at ha
  rw [hc1, ho1] at hb
  simp only [Prod.mk.injEq, DataW.agg.injEq, List.cons.injEq, DataW.lit.injEq, Lit.int.injEq, true_and, and_true] at hx
  obtain ⟨⟨rfl, rfl⟩, _⟩ := hx
  refine VarOk.of_vals (vs := [.int k0 a, .int k1 b]) hg hv0 ?_
  match hcs : cs0.toList, hl with
  | [u, v], _ =>
    rw [hcs] at ha hb
    simp at ha hb
    rw [ha, hb]
theorem VarOk.err {ms : Array (String × TypeId)} {tp te ts : TypeId} {f : Field} {nm : String} {text : List UInt8} (h : laidMet P [(n, .iface nm (.ptr (.agg [.lit (.string text)])))] W) (hg : P.globalNamed n = some g) (hty : (P.globals[g]?).map (·.type) = some t) (hi : P.underlying t = some (.interface ms)) (hrow : ∀ u, P.typeName? 3 u = some nm → u = tp)
    (hp : P.underlying tp = some (.pointer te)) (he : P.underlying te = some (.struct #[f])) (hft : f.type = ts) (hfo : f.offset = 0) (hs : P.underlying ts = some .string) (hc : P.cellsOf te = 1) (hcs : P.cellsOf ts = 1) :
    VarOk W g (.r [.ifc tp (.r [.v (.string ⟨text.toArray⟩)])]) := by
  obtain ⟨a, s, hv, hcell, htx, _⟩ := laid_sentinel h hg hty hi hrow hp he hft hfo hs hc hcs
  have hsx : (⟨text.toArray⟩ : ByteArray) = s := by rw [← htx]
  rw [hsx]
  intro H hro
  refine ⟨?_, fun cs' hcs' => ?_⟩
  · refine .r (fun _ => .iface tp (.pointer (some a))) (fun j gv hj => ?_) (fun j gv hj => ?_)
    · cases j with
      | zero =>
        rw [hro]
        have := World.var?_cell hg hv 0
        exact this
      | succ j => simp at hj
    · cases j with
      | zero =>
        simp at hj
        subst hj
        refine .ifc (.r (fun _ => .string s) (fun j gv hj => ?_) (fun j gv hj => ?_))
        · cases j with
          | zero =>
            rw [hro]
            exact hcell
          | succ j => simp at hj
        · cases j with
          | zero => simp at hj; subst hj; exact .v _
          | succ j => simp at hj
      | succ j => simp at hj
  · cases hcs'
    have := (VarOk.of_vals hg hv rfl H hro).2 _ rfl
    simpa using this
end
end Go.GK
/-
  What the row of this seat lists, as the walk reads it; the world that holds it.
-/
namespace Go.Proofs.YtkoalgjlkcaonaaGreatDoor
open Go.GK Go.ChangeShapes Go.WideShapes Go.RowKit

abbrev rowLaid : List (String × DataW Unit) := [("math/bits.deBruijn32tab", Rows.laid_math_bits_deBruijn32tab), ("math/bits.deBruijn64tab", Rows.laid_math_bits_deBruijn64tab), ("internal/strconv.uint64pow10", Rows.laid_internal_strconv_uint64pow10), ("unicode/utf8.acceptRanges", Rows.laid_unicode_utf8_acceptRanges), ("strconv.ErrRange", Rows.laid_strconv_ErrRange), ("strconv.ErrSyntax", Rows.laid_strconv_ErrSyntax), ("raingauge/ask.marks", Rows.laid_raingauge_ask_marks), ("raingauge/ask.ops", Rows.laid_raingauge_ask_ops), ("raingauge/ask.overs", Rows.laid_raingauge_ask_overs), ("raingauge/ask.alls", Rows.laid_raingauge_ask_alls), ("unicode/utf8.first", Rows.laid_unicode_utf8_first)]
abbrev plainLaid : List (String × DataW Unit) := [("math/bits.deBruijn32tab", Rows.laid_math_bits_deBruijn32tab), ("math/bits.deBruijn64tab", Rows.laid_math_bits_deBruijn64tab), ("internal/strconv.uint64pow10", Rows.laid_internal_strconv_uint64pow10), ("unicode/utf8.acceptRanges", Rows.laid_unicode_utf8_acceptRanges), ("strconv.ErrRange", Rows.laid_strconv_ErrRange), ("strconv.ErrSyntax", Rows.laid_strconv_ErrSyntax), ("raingauge/ask.marks", Rows.laid_raingauge_ask_marks), ("raingauge/ask.ops", Rows.laid_raingauge_ask_ops), ("raingauge/ask.overs", Rows.laid_raingauge_ask_overs), ("raingauge/ask.alls", Rows.laid_raingauge_ask_alls), ("unicode/utf8.first", Rows.laid_unicode_utf8_first)]
theorem own : ownKnob Tryz.prog.godebug = none := by kernel_rfl
theorem laidOut : laidOutB Tryz.prog = true := by kernel_rfl
theorem star_err : "*" ++ "errors.errorString" = "*errors.errorString" := by decide
theorem row_err (u : TypeId) (h : Tryz.prog.typeName? 3 u = some "*errors.errorString") : u = 242 :=
  typeName_ptr_named (nm := "errors.errorString") (by rw [star_err]; kernel_rfl) (by kernel_rfl) (by decide) u (by rw [star_err]; exact h)
theorem v_raingauge_ask_marks {W : World} (h : laidMet Tryz.prog [("raingauge/ask.marks", Rows.laid_raingauge_ask_marks)] W) : VarOk W 1 (.r [.v (.string ⟨#[33, 61]⟩), .v (.string ⟨#[94, 61]⟩), .v (.string ⟨#[33, 94]⟩), .v (.string ⟨#[61]⟩), .v (.string ⟨#[123]⟩), .v (.string ⟨#[125]⟩), .v (.string ⟨#[91]⟩), .v (.string ⟨#[93]⟩), .v (.string ⟨#[40]⟩), .v (.string ⟨#[41]⟩), .v (.string ⟨#[44]⟩), .v (.string ⟨#[43]⟩), .v (.string ⟨#[45]⟩), .v (.string ⟨#[42]⟩), .v (.string ⟨#[47]⟩)]) :=
  VarOk.strs (t := 127) (e := 9) (n := "raingauge/ask.marks") (zs := [[33, 61], [94, 61], [33, 94], [61], [123], [125], [91], [93], [40], [41], [44], [43], [45], [42], [47]]) h (by kernel_rfl) (by kernel_rfl) (by kernel_rfl) (by kernel_rfl) (by kernel_rfl) (by kernel_rfl)
theorem v_raingauge_ask_ops {W : World} (h : laidMet Tryz.prog [("raingauge/ask.ops", Rows.laid_raingauge_ask_ops)] W) : VarOk W 2 (.r [.v (.string ⟨#[61]⟩), .v (.string ⟨#[33, 61]⟩), .v (.string ⟨#[94, 61]⟩), .v (.string ⟨#[33, 94]⟩)]) :=
  VarOk.strs (t := 137) (e := 9) (n := "raingauge/ask.ops") (zs := [[61], [33, 61], [94, 61], [33, 94]]) h (by kernel_rfl) (by kernel_rfl) (by kernel_rfl) (by kernel_rfl) (by kernel_rfl) (by kernel_rfl)
theorem v_raingauge_ask_overs {W : World} (h : laidMet Tryz.prog [("raingauge/ask.overs", Rows.laid_raingauge_ask_overs)] W) : VarOk W 4 (.r [.v (.string ⟨#[99, 111, 117, 110, 116]⟩), .v (.string ⟨#[115, 117, 109]⟩), .v (.string ⟨#[109, 105, 110]⟩), .v (.string ⟨#[109, 97, 120]⟩), .v (.string ⟨#[100, 101, 108, 116, 97]⟩)]) :=
  VarOk.strs (t := 192) (e := 9) (n := "raingauge/ask.overs") (zs := [[99, 111, 117, 110, 116], [115, 117, 109], [109, 105, 110], [109, 97, 120], [100, 101, 108, 116, 97]]) h (by kernel_rfl) (by kernel_rfl) (by kernel_rfl) (by kernel_rfl) (by kernel_rfl) (by kernel_rfl)
theorem v_raingauge_ask_alls {W : World} (h : laidMet Tryz.prog [("raingauge/ask.alls", Rows.laid_raingauge_ask_alls)] W) : VarOk W 5 (.r [.v (.string ⟨#[116, 111, 116, 97, 108]⟩), .v (.string ⟨#[108, 101, 97, 115, 116]⟩), .v (.string ⟨#[109, 111, 115, 116]⟩), .v (.string ⟨#[109, 97, 110, 121]⟩)]) :=
  VarOk.strs (t := 137) (e := 9) (n := "raingauge/ask.alls") (zs := [[116, 111, 116, 97, 108], [108, 101, 97, 115, 116], [109, 111, 115, 116], [109, 97, 110, 121]]) h (by kernel_rfl) (by kernel_rfl) (by kernel_rfl) (by kernel_rfl) (by kernel_rfl) (by kernel_rfl)
theorem v_strconv_ErrRange {W : World} (h : laidMet Tryz.prog [("strconv.ErrRange", Rows.laid_strconv_ErrRange)] W) : VarOk W 10 (.r [.ifc 242 (.r [.v (.string ⟨#[118, 97, 108, 117, 101, 32, 111, 117, 116, 32, 111, 102, 32, 114, 97, 110, 103, 101]⟩)])]) :=
  VarOk.err (t := 42) (n := "strconv.ErrRange") (text := [118, 97, 108, 117, 101, 32, 111, 117, 116, 32, 111, 102, 32, 114, 97, 110, 103, 101]) h (by kernel_rfl) (by kernel_rfl) Tryz.underlying42 row_err Tryz.underlying242 Tryz.underlying244 rfl rfl Tryz.underlying9 (by kernel_rfl) (by kernel_rfl)
theorem v_strconv_ErrSyntax {W : World} (h : laidMet Tryz.prog [("strconv.ErrSyntax", Rows.laid_strconv_ErrSyntax)] W) : VarOk W 9 (.r [.ifc 242 (.r [.v (.string ⟨#[105, 110, 118, 97, 108, 105, 100, 32, 115, 121, 110, 116, 97, 120]⟩)])]) :=
  VarOk.err (t := 42) (n := "strconv.ErrSyntax") (text := [105, 110, 118, 97, 108, 105, 100, 32, 115, 121, 110, 116, 97, 120]) h (by kernel_rfl) (by kernel_rfl) Tryz.underlying42 row_err Tryz.underlying242 Tryz.underlying244 rfl rfl Tryz.underlying9 (by kernel_rfl) (by kernel_rfl)
theorem v_internal_strconv_uint64pow10 {W : World} (h : laidMet Tryz.prog [("internal/strconv.uint64pow10", Rows.laid_internal_strconv_uint64pow10)] W) : VarOk W 11 (.r [.v (.int .u64 1), .v (.int .u64 10), .v (.int .u64 100), .v (.int .u64 1000), .v (.int .u64 10000), .v (.int .u64 100000), .v (.int .u64 1000000), .v (.int .u64 10000000), .v (.int .u64 100000000), .v (.int .u64 1000000000), .v (.int .u64 10000000000), .v (.int .u64 100000000000), .v (.int .u64 1000000000000), .v (.int .u64 10000000000000), .v (.int .u64 100000000000000), .v (.int .u64 1000000000000000), .v (.int .u64 10000000000000000), .v (.int .u64 100000000000000000), .v (.int .u64 1000000000000000000), .v (.int .u64 10000000000000000000)]) :=
  VarOk.ints (t := 252) (e := 153) (n := "internal/strconv.uint64pow10") (k := .u64) (zs := [1, 10, 100, 1000, 10000, 100000, 1000000, 10000000, 100000000, 1000000000, 10000000000, 100000000000, 1000000000000, 10000000000000, 100000000000000, 1000000000000000, 10000000000000000, 100000000000000000, 1000000000000000000, 10000000000000000000]) h (by kernel_rfl) (by kernel_rfl) (by kernel_rfl) (by kernel_rfl) (by kernel_rfl) (by kernel_rfl)
theorem gl_okH {W : World} (hL : laidMetH Tryz.prog rowLaid W) : ∀ H : Hid, H.ro = roOf W → GlOk pg H := by
  rw [MakeChecks.laidMetH_plain _ _ _ (by kernel_rfl)] at hL
  have h := hL
  refine GlOk.of_vars ?_
  show ∀ x ∈ gl, VarOk W x.1 x.2
  unfold gl
  refine List.forall_mem_cons.2 ⟨v_raingauge_ask_marks (h.filter fun x => x.1 == "raingauge/ask.marks"), ?_⟩
  refine List.forall_mem_cons.2 ⟨v_raingauge_ask_ops (h.filter fun x => x.1 == "raingauge/ask.ops"), ?_⟩
  refine List.forall_mem_cons.2 ⟨v_raingauge_ask_overs (h.filter fun x => x.1 == "raingauge/ask.overs"), ?_⟩
  refine List.forall_mem_cons.2 ⟨v_raingauge_ask_alls (h.filter fun x => x.1 == "raingauge/ask.alls"), ?_⟩
  refine List.forall_mem_cons.2 ⟨v_strconv_ErrRange (h.filter fun x => x.1 == "strconv.ErrRange"), ?_⟩
  refine List.forall_mem_cons.2 ⟨v_strconv_ErrSyntax (h.filter fun x => x.1 == "strconv.ErrSyntax"), ?_⟩
  refine List.forall_mem_cons.2 ⟨v_internal_strconv_uint64pow10 (h.filter fun x => x.1 == "internal/strconv.uint64pow10"), ?_⟩
  exact fun x hx => by cases hx
noncomputable def wit (os : Os) : World := (World.doorLaid Tryz.prog 400 os).layVars Tryz.prog plainLaid
theorem wit_os (os : Os) : (wit os).os = os := World.layVars_os _ _ _
theorem wit_fits (os : Os) : (World.doorLaid Tryz.prog 400 os).layFits Tryz.prog plainLaid [] = true := by kernel_rfl
theorem wit_ifaces (os : Os) : (World.doorLaid Tryz.prog 400 os).layIfaces Tryz.prog plainLaid (wit os) = true := by kernel_rfl
theorem wit_handle (os : Os) (args : Array Value) : (rowLaid.filter fun x => x.2.handleName?.isSome).all (handleAtB Tryz.prog ((wit os).forCall (fun _ _ => 0) ⟨#[], args, []⟩).memory) = true := by kernel_rfl
theorem wit_shaped (os : Os) (args : Array Value) : ((wit os).forCall (fun _ _ => 0) ⟨#[], args, []⟩).Shaped Tryz.prog := World.shaped_of_ZipB (by kernel_rfl) (by kernel_rfl)
theorem wit_met (os : Os) (args : Array Value) : laidMetH Tryz.prog rowLaid ((wit os).forCall (fun _ _ => 0) ⟨#[], args, []⟩).memory := by
  have e1 : (plainLaid.filter fun x => (plainLaid.map (·.1)).contains x.1) = plainLaid := List.filter_eq_self.2 fun x hx => List.contains_iff_mem.2 (List.mem_map.2 ⟨x, hx, rfl⟩)
  have e2 : (plainLaid.filter fun x => !(plainLaid.map (·.1)).contains x.1) = [] := List.filter_eq_nil_iff.2 fun x hx => by rw [List.contains_iff_mem.2 (List.mem_map.2 ⟨x, hx, rfl⟩)]; simp
  have h : laidMet Tryz.prog plainLaid (wit os) := laidMet_layVars (w0 := World.doorLaid Tryz.prog 400 os) (plainLaid.map (·.1)) [] (by rw [e1]; rfl) (by rw [e1]; exact wit_fits os) (by rw [e1]; exact wit_ifaces os) (by rw [e2]; exact LaidIn.none)
  have h' : laidMet Tryz.prog plainLaid ((wit os).forCall (fun _ _ => 0) ⟨#[], args, []⟩).memory := h.of_heap (by simp [World.memory, World.forCall, Input.heap])
  exact laidMetH_of_parts h' (wit_handle os args)
end Go.Proofs.YtkoalgjlkcaonaaGreatDoor
