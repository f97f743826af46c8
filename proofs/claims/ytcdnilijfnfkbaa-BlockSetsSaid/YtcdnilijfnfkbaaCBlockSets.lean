/-
  BlockSets: the law's walk.
-/
import Derived.Test.YtcdnilijfnfkbaaCRefPart
import Derived.Test.YtcdnilijfnfkbaaCRefMS
import Derived.Test.YtcdnilijfnfkbaaCGnA
import Derived.Test.YtcdnilijfnfkbaaCBMerge
import Derived.Test.YtcdnilijfnfkbaaCBlkA
import Derived.Test.YtcdnilijfnfkbaaCShL
import Derived.Test.YtcdnilijfnfkbaaCSameS
import Derived.Test.YtcdnilijfnfkbaaPGnA
namespace Go.Proofs.Ytcdnilijfnfkbaa
open Go.GK Go.PL Go.RowKit
set_option maxRecDepth 100000
theorem small_of' {l : List Ser} (h : shS l = true) : (∀ x ∈ l, Short1 x) ∧ SmallS l ∧ SmlS l ∧ l.length ≤ 20 ∧ ∀ x ∈ l, x.samples.length ≤ 60 ∧ x.labels.length ≤ 20 := by
  obtain ⟨h0, h⟩ := shS_small h
  refine ⟨fun x hx => ?_, fun x hx => ?_, fun x hx => ?_, h0, fun x hx => ?_⟩
  all_goals
    obtain ⟨h1, h2⟩ := h x hx
    obtain ⟨h3, h4⟩ := shL_small h1
  · exact ⟨by omega, by omega, fun y hy => by have := h4 y hy; omega⟩
  · exact ⟨by omega, by omega⟩
  · exact ⟨by omega, by omega⟩
  · exact ⟨h2, h3⟩
theorem asked_op' {l : List Mt} (h : askedF l = true) : ∀ x ∈ l, 0 ≤ x.op ∧ x.op ≤ 3 := by
  unfold askedF at h
  rw [Bool.and_eq_true, Bool.not_eq_true'] at h
  intro x hx
  obtain ⟨i, hi, rfl⟩ := List.getElem_of_mem hx
  have := anyB_get h.1 i hi
  rw [show l.getD i default = l[i] by simp [hi]] at this
  unfold mbad at this
  simp only [Bool.or_eq_false_iff, Bool.not_eq_false', decide_eq_true_eq] at this
  exact this.2.2
theorem goes1_rt (g : Gn) (ls : List Lb) (t : Int) (hop : ∀ x ∈ g.mt, 0 ≤ x.op ∧ x.op ≤ 3) (hm : g.mt.length ≤ 1000000) : Rt pg 21 [lbs ls, gi t, .r (gn g)] (.b (gHit g ls t)) := by
  refine Rt.of pg_ok Try.func21 rfl Try.ntmps21 rfl Try.results21 Try.call21 fun H0 S0 w0 h0 g0 => ?_
  have hin := Rq.old Try.call18 (in_ct t g.lo g.hi)
  unfold gHit
  by_cases h1 : g.lo ≤ t ∧ t ≤ g.hi
  · refine GO (hin.bt (d := true) (decide_eq_true h1)) rfl ?_
    refine GO (fits_rt ls g.mt hop hm) rfl ?_
    exact ⟨by rw [decide_eq_true h1.1, decide_eq_true h1.2]; rfl, rfl⟩
  · refine GO (hin.bt (d := false) (decide_eq_false h1)) rfl ?_
    refine ⟨?_, rfl⟩
    by_cases h2 : g.lo ≤ t
    · rw [decide_eq_true h2, decide_eq_false (fun h => h1 ⟨h2, h⟩)]; rfl
    · rw [decide_eq_false h2]; rfl
theorem goes_rt (g : Gn) : Rt pg 9 [.agg (gn g)] (.fn (.func 21) [] [.r (gn g)]) := by
  refine Rt.ofJ pg_ok Try.func9 rfl Try.ntmps9 rfl Try.results9 Try.call9 fun H0 S0 w0 h0 g0 => ?_
  refine VM 5 ?_
  refine FZB 0 rfl rfl ?_
  exact ⟨rfl, rfl⟩
theorem blockSets_rt (a b : List Ser) (gone : List Gn) : Rt pg 3 [ses a, ses b, gns gone] (.b true) := by
  refine Rt.of pg_ok Try.func3 rfl Try.ntmps3 rfl Try.results3 Try.call3 fun H0 S0 w0 h0 g0 => ?_
  have hgl : (gone.map gn).length = gone.length := by simp
  rcases tf (shS a) with ha | ha
  · refine GO ((lshortS_rt a).bt ha) rfl ?_
    repeat (first | refine p1 ?_ | refine p2 ?_ | refine p3 ?_ | refine p4 ?_)
    rcases tf (shS b) with hb | hb
    · refine GO ((lshortS_rt b).bt hb) rfl ?_
      repeat (first | refine p1 ?_ | refine p2 ?_ | refine p3 ?_ | refine p4 ?_)
      by_cases hg : gone.length > 10
      · refine p1 ?_ (decide_eq_true (by omega))
        exact ⟨rfl, rfl⟩
      · refine p2 ?_ (decide_eq_false (by omega))
        obtain ⟨a1, a2, a3, a4, a5⟩ := small_of' ha
        obtain ⟨b1, b2, b3, b4, b5⟩ := small_of' hb
        rcases tf (blkR 1099511627776 0 a) with hRa | hRa
        · refine GO ((rbright_rt 1099511627776 0 a a1).bt hRa) rfl ?_
          rcases tf (blkR 1099511627776 0 b) with hRb | hRb
          · refine GO ((rbright_rt 1099511627776 0 b b1).bt hRb) rfl ?_
            obtain ⟨ra1, ra2⟩ := blkR_ris hRa
            obtain ⟨rb1, rb2⟩ := blkR_ris hRb
            refine JK.loopE (α := Nat) (β := Unit) (fun i => ⟨[(0, ses a), (1, ses b), (2, gns gone), (9, ses (withoutF (anyHit (gone.take i)) a)), (10, gi i)], [], 0⟩) (fun i => i ≤ gone.length ∧ ∀ j (h : j < gone.length), j < i → gone[j].mt.length ≤ 20) (fun i => gone.length - i)
              (fun _ => ⟨[(0, ses a), (1, ses b), (2, gns gone), (9, ses (withoutF (anyHit gone) a))], [], 0⟩) (fun _ => ∀ g ∈ gone, g.mt.length ≤ 20) 0 id ?_ ⟨Nat.zero_le _, fun j _ hj => absurd hj (by omega)⟩ ?_ ?_
            · refine ⟨⟨rfl, rfl, rfl, ?_, rfl, trivial⟩, trivial, rfl⟩
              exact congrArg (fun l => some (ses l)) (withoutF_none a fun x hx => (ra2 x hx).2).symm
            · rintro i ⟨hi, hgood⟩
              replace hi : i ≤ gone.length := hi
              refine V ?_
              by_cases hlt : i < gone.length
              · refine p1 ?_ (decide_eq_true (by omega))
                refine ix (h := ?_)
                rcases tf (shM gone[i].mt) with hm | hm
                · have hml := shM_le hm
                  refine GO ((shortM_rt gone[i].mt).bt hm) rfl ?_
                  repeat (first | refine p1 ?_ | refine p2 ?_ | refine p3 ?_ | refine p4 ?_)
                  refine ix (h := ?_)
                  have hka := refAsked_rt gone[i].mt (fun x hx => by have := hml.2 x hx; omega) (by omega)
                  rcases tf (askedF gone[i].mt) with hk | hk
                  · refine GO (hka.bt hk) rfl ?_
                    repeat (first | refine p1 ?_ | refine p2 ?_ | refine p3 ?_ | refine p4 ?_)
                    refine ix (h := ?_)
                    refine GO (goes_rt gone[i]) rfl ?_
                    have hwl := withoutF_len (anyHit (gone.take i)) a
                    have hp := part_rt (withoutF (anyHit (gone.take i)) a) 21 [.r (gn gone[i])] rfl (gHit gone[i]) (fun x _ t => goes1_rt gone[i] x.labels t (asked_op' hk) (by omega)) (by omega) (fun x hx => by
                      obtain ⟨y, hy, _, h1⟩ := mem_withoutF_len a x hx
                      have := a5 y hy
                      omega)
                    rw [anyHit_snoc gone i hlt a] at hp
                    refine GO hp rfl ?_
                    refine ⟨i + 1, id, ⟨⟨rfl, rfl, rfl, rfl, succ_gi (by omega), trivial⟩, trivial, rfl⟩, ⟨hlt, fun j hj hj2 => ?_⟩, by show gone.length - (i + 1) < gone.length - i; omega⟩
                    rcases Nat.lt_succ_iff_lt_or_eq.1 hj2 with h1 | h1
                    · exact hgood j hj h1
                    · subst h1; exact hml.1
                  · refine GO (hka.bt hk) rfl ?_
                    repeat (first | refine p1 ?_ | refine p2 ?_ | refine p3 ?_ | refine p4 ?_)
                    exact ⟨rfl, rfl⟩
                · refine GO ((shortM_rt gone[i].mt).bt hm) rfl ?_
                  repeat (first | refine p1 ?_ | refine p2 ?_ | refine p3 ?_ | refine p4 ?_)
                  exact ⟨rfl, rfl⟩
              · refine p2 ?_ (decide_eq_false (by omega))
                obtain rfl : i = gone.length := by omega
                rw [List.take_length]
                exact ⟨(), id, ⟨⟨rfl, rfl, rfl, rfl, trivial⟩, trivial, rfl⟩, fun g hg => by
                  obtain ⟨j, hj, rfl⟩ := List.getElem_of_mem hg
                  exact hgood j hj (by omega)⟩
            · rintro _ hgm
              have hG : SmallG gone := ⟨by omega, fun g hg => by have := hgm g hg; omega⟩
              have same : ∀ l, Rt pg 10 [ses l, ses l] (.v (.bool true)) := fun l => (sameSeriesL_rt l).bt (d := true) rfl
              refine V ?_
              refine GO (without_rt a gone (by omega) a2 hG) rfl ?_
              refine GO (same _) rfl ?_
              refine GO (bmerge_rt a b (by omega) (by omega) a3 b3) rfl ?_
              refine GO (rms_rt a b ra1 rb1 (fun x hx => (ra2 x hx).1) (fun x hx => (rb2 x hx).1) (by omega) (by omega) (fun x hx => by have := a5 x hx; omega) (fun x hx => by have := b5 x hx; omega)) rfl ?_
              refine GO (same _) rfl ?_
              exact ⟨rfl, rfl⟩
          · refine GO ((rbright_rt 1099511627776 0 b b1).bt hRb) rfl ?_
            repeat (first | refine p1 ?_ | refine p2 ?_ | refine p3 ?_ | refine p4 ?_)
            exact ⟨rfl, rfl⟩
        · refine GO ((rbright_rt 1099511627776 0 a a1).bt hRa) rfl ?_
          repeat (first | refine p1 ?_ | refine p2 ?_ | refine p3 ?_ | refine p4 ?_)
          exact ⟨rfl, rfl⟩
    · refine GO ((lshortS_rt b).bt hb) rfl ?_
      repeat (first | refine p1 ?_ | refine p2 ?_ | refine p3 ?_ | refine p4 ?_)
      exact ⟨rfl, rfl⟩
  · refine GO ((lshortS_rt a).bt ha) rfl ?_
    repeat (first | refine p1 ?_ | refine p2 ?_ | refine p3 ?_ | refine p4 ?_)
    exact ⟨rfl, rfl⟩
end Go.Proofs.Ytcdnilijfnfkbaa
