/-
  BlockSame: the law's walk.
-/
import Derived.Test.YtcdnilijfnfkbaaDoorCGnA
import Derived.Test.YtcdnilijfnfkbaaDoorCBMerge
import Derived.Test.YtcdnilijfnfkbaaDoorCBlkA
import Derived.Test.YtcdnilijfnfkbaaDoorCShK
import Derived.Test.YtcdnilijfnfkbaaDoorPGnA
namespace Go.Proofs.YtcdnilijfnfkbaaDoor
open Go.GK Go.PL Go.RowKit
set_option maxRecDepth 100000
def oneS (v : ByteArray) (t n : Int) : Ser := ⟨[⟨⟨#[110]⟩, v⟩], [⟨t, n⟩]⟩
theorem one_rt (v : ByteArray) (t n : Int) : Rt pg 17 [gs v, gi t, gi n] (ses [oneS v t n]) := by
  refine Rt.ofJ pg_ok Tryd.func17 rfl Tryd.ntmps17 rfl Tryd.results17 Tryd.call17 fun H0 S0 w0 h0 g0 => ?_
  refine VM 14 ?_
  refine JK.freeze 0 rfl ?_
  refine JK.freeze 1 rfl ?_
  refine VM 3 ?_
  refine FRZ 2 rfl ?_
  exact ⟨rfl, rfl⟩
def aS : ByteArray := ⟨#[97]⟩
theorem oneB_good : GoodS (oneS aS 5 1) := by
  refine ⟨by decide +kernel, ?_, fun x hx => by simp [oneS] at hx; subst hx; constructor <;> decide⟩
  rw [okS_iff]
  refine ⟨⟨by simp [oneS], by simp [oneS], by simp [oneS]⟩, by simp [oneS]⟩
theorem oneB_right : blkR 5 (-1) [oneS aS 5 1] = true := by
  have hb : blkBad 5 [oneS aS 5 1] 0 = false := by
    rw [blkBad_at (by simp)]
    show (!rightF (oneS aS 5 1).labels || (!okS (oneS aS 5 1).samples || (_ || (_ || _)))) = false
    rw [oneB_good.1, oneB_good.2.1]
    rfl
  unfold blkR
  rw [anyB_false (fun i hi => by have : i = 0 := by simpa using hi
                                 subst this; exact hb)]
  rfl
theorem oneB_short : ∀ x ∈ [oneS aS 5 1], Short1 x := fun x hx => by
  rw [List.mem_singleton.1 hx]
  exact good_short oneB_good
theorem oneB_size : (wrS [oneS aS 5 1]).size ≤ 500000 := by
  have h1 : (wrS [oneS aS 5 1]).size = 8 + (wrR [oneS aS 5 1]).size := by unfold wrS; rw [ByteArray.size_append, wrN_size]
  have h2 := enc_small oneB_good.2.1
  have h3 : (wrR [oneS aS 5 1]).size = (wrL (oneS aS 5 1).labels).size + (8 + (enc (oneS aS 5 1).samples).size) := by
    simp only [wrR, app_nil]
    unfold wr1 wrT
    simp only [ByteArray.size_append, wrN_size]
  have h4 : (wrL (oneS aS 5 1).labels).size = 26 := by kernel_rfl
  have h5 : (oneS aS 5 1).samples.length = 1 := rfl
  omega
theorem bW_wr {to_ old : Int} {l : List Ser} (h2 : In64 old) (hl : ∀ x ∈ l, GoodS x) (hn : l.length < 9223372036854775808) (hR : blkR to_ old l = true) : bW (wrB to_ old l) = some (to_, old, l) := by
  unfold bW
  rw [blkP_wr (In64.of_blk hR) h2 hl hn]
  simp only
  rw [if_pos (by rfl), if_pos hR]
theorem bread_wr {to_ old : Int} {l : List Ser} (h2 : In64 old) (hl : ∀ x ∈ l, GoodS x) (hz : (wrS l).size ≤ 900000) (hn : l.length < 9223372036854775808) (hR : blkR to_ old l = true) : Rt pg 15 [gs (wrB to_ old l)] (.tup [bkG to_ old l, .v .nilIface]) := by
  have h := bread_rt (wrB to_ old l) (by unfold wrB; rw [ByteArray.size_append, ByteArray.size_append, wrN_size, wrN_size]; omega)
  rw [bW_wr h2 hl hn hR] at h
  exact h
theorem blocked_rt : Rt pg 5 [] (.b true) := by
  refine Rt.of pg_ok Tryd.func5 rfl Tryd.ntmps5 rfl Tryd.results5 Tryd.call5 fun H0 S0 w0 h0 g0 => ?_
  have hz := oneB_size
  refine GO (one_rt aS 5 1) rfl ?_
  refine GO (bwrite_yes 5 (-1) [oneS aS 5 1] oneB_short (by omega) oneB_right) rfl ?_
  repeat (first | refine p1 ?_ | refine p2 ?_ | refine p3 ?_ | refine p4 ?_)
  refine GO (bread_wr (by constructor <;> decide) (fun x hx => by rw [List.mem_singleton.1 hx]; exact oneB_good) (by omega) (by decide) oneB_right) rfl ?_
  repeat (first | refine p1 ?_ | refine p2 ?_ | refine p3 ?_ | refine p4 ?_)
  refine GO ((sameSeriesK_rt [oneS aS 5 1]).bt (d := true) rfl) rfl ?_
  refine FRZ 2 rfl ?_
  refine JK.sub 42 (gns [⟨[], 5, 5⟩]) rfl (Sub.rows (.cons (.cons (SubR.nil 3) (.cons (fun h => h) (.cons (fun h => h) .nil))) .nil)) ?_
  have hw : withoutF (anyHit [⟨[], 5, 5⟩]) [oneS aS 5 1] = [] := rfl
  have hc := without_rt [oneS aS 5 1] [⟨[], 5, 5⟩] (by decide) (fun x hx => by rw [List.mem_singleton.1 hx]; exact ⟨by decide, by decide⟩) ⟨by decide, fun g hg => by rw [List.mem_singleton.1 hg]; decide⟩
  rw [hw] at hc
  refine GO hc rfl ?_
  exact ⟨rfl, rfl⟩
theorem small_of {l : List Ser} (h : shS l = true) : (∀ x ∈ l, Short1 x) ∧ SmallS l ∧ SmlS l ∧ l.length ≤ 20 ∧ ∀ x ∈ l, x.samples.length ≤ 60 ∧ x.labels.length ≤ 20 := by
  obtain ⟨h0, h⟩ := shS_small h
  refine ⟨fun x hx => ?_, fun x hx => ?_, fun x hx => ?_, h0, fun x hx => ?_⟩
  all_goals
    obtain ⟨h1, h2⟩ := h x hx
    obtain ⟨h3, h4⟩ := shL_small h1
  · exact ⟨by omega, by omega, fun y hy => by have := h4 y hy; omega⟩
  · exact ⟨by omega, by omega⟩
  · exact ⟨by omega, by omega⟩
  · exact ⟨h2, h3⟩
theorem wo_small (h : Hit) {l : List Ser} {n k : Nat} (hs : ∀ x ∈ l, x.samples.length ≤ n ∧ x.labels.length ≤ k) : ∀ x ∈ withoutF h l, x.samples.length ≤ n ∧ x.labels.length ≤ k := fun x hx => by
  obtain ⟨y, hy, e, h1⟩ := mem_withoutF_len l x hx
  have := hs y hy
  rw [← e]
  exact ⟨by omega, this.2⟩
theorem shM_Sm2 {l : List Mt} (h : shM l = true) : Sm2 l := fun x hx => by have := (shM_le h).2 x hx; omega
theorem blockSame_rt (a b : List Ser) (gone : List Gn) (at_ : Int) (hV : ∀ x ∈ a, V64 x.samples) : Rt pg 3 [ses a, ses b, gns gone, gi at_] (.b true) := by
  refine Rt.of pg_ok Tryd.func3 rfl Tryd.ntmps3 rfl Tryd.results3 Tryd.call3 fun H0 S0 w0 h0 g0 => ?_
  have hgl : (gone.map gn).length = gone.length := by simp
  rcases tf (shS a) with ha | ha
  · refine GO ((shortS_rt a).bt ha) rfl ?_
    repeat (first | refine p1 ?_ | refine p2 ?_ | refine p3 ?_ | refine p4 ?_)
    rcases tf (shS b) with hb | hb
    · refine GO ((shortS_rt b).bt hb) rfl ?_
      repeat (first | refine p1 ?_ | refine p2 ?_ | refine p3 ?_ | refine p4 ?_)
      by_cases hg : gone.length > 8
      · refine p1 ?_ (decide_eq_true (by omega))
        exact ⟨rfl, rfl⟩
      · refine p2 ?_ (decide_eq_false (by omega))
        refine GO (blocked_rt.bt (d := true) rfl) rfl ?_
        obtain ⟨a1, a2, a3, a4, a5⟩ := small_of ha
        obtain ⟨b1, b2, b3, b4, b5⟩ := small_of hb
        rcases tf (blkR 1099511627776 0 a) with hRa | hRa
        · refine GO ((bright_rt 1099511627776 0 a a1).bt hRa) rfl ?_
          rcases tf (blkR 1099511627776 0 b) with hRb | hRb
          · refine GO ((bright_rt 1099511627776 0 b b1).bt hRb) rfl ?_
            repeat (first | refine p1 ?_ | refine p2 ?_ | refine p3 ?_ | refine p4 ?_)
            refine JK.loopE (α := Nat) (β := Unit) (fun i => ⟨[(0, ses a), (1, ses b), (2, gns gone), (3, gi at_), (9, .p 0 0), (11, gi i)], [(0, .blk 27 [gi 1099511627776, gi 0, ses a])], 1⟩) (fun i => i ≤ gone.length ∧ ∀ j (h : j < gone.length), j < i → gone[j].mt.length ≤ 20) (fun i => gone.length - i)
              (fun _ => ⟨[(0, ses a), (1, ses b), (2, gns gone), (3, gi at_), (9, .p 0 0)], [(0, .blk 27 [gi 1099511627776, gi 0, ses a])], 1⟩) (fun _ => ∀ g ∈ gone, g.mt.length ≤ 20) 0 id ?_ ⟨Nat.zero_le _, fun j _ hj => absurd hj (by omega)⟩ ?_ ?_
            · exact ⟨⟨rfl, rfl, rfl, rfl, rfl, rfl, trivial⟩, ⟨rfl, trivial⟩, rfl⟩
            · rintro i ⟨hi, hgood⟩
              replace hi : i ≤ gone.length := hi
              refine V ?_
              by_cases hlt : i < gone.length
              · refine p1 ?_ (decide_eq_true (by omega))
                refine ix (h := ?_)
                rcases tf (shM gone[i].mt) with hm | hm
                · refine GO ((kshortM_rt gone[i].mt).bt hm) rfl ?_
                  repeat (first | refine p1 ?_ | refine p2 ?_ | refine p3 ?_ | refine p4 ?_)
                  refine ix (h := ?_)
                  rcases tf (askedF gone[i].mt) with hk | hk
                  · refine GO ((lasked_rt gone[i].mt (shM_Sm2 hm)).bt hk) rfl ?_
                    repeat (first | refine p1 ?_ | refine p2 ?_ | refine p3 ?_ | refine p4 ?_)
                    refine ⟨i + 1, id, ⟨⟨rfl, rfl, rfl, rfl, rfl, succ_gi (by omega), trivial⟩, ⟨rfl, trivial⟩, rfl⟩, ⟨hlt, fun j hj hj2 => ?_⟩, by show gone.length - (i + 1) < gone.length - i; omega⟩
                    rcases Nat.lt_succ_iff_lt_or_eq.1 hj2 with h1 | h1
                    · exact hgood j hj h1
                    · subst h1
                      unfold shM at hm
                      rw [Bool.and_eq_true, decide_eq_true_iff] at hm
                      exact hm.1
                  · refine GO ((lasked_rt gone[i].mt (shM_Sm2 hm)).bt hk) rfl ?_
                    repeat (first | refine p1 ?_ | refine p2 ?_ | refine p3 ?_ | refine p4 ?_)
                    exact ⟨rfl, rfl⟩
                · refine GO ((kshortM_rt gone[i].mt).bt hm) rfl ?_
                  repeat (first | refine p1 ?_ | refine p2 ?_ | refine p3 ?_ | refine p4 ?_)
                  exact ⟨rfl, rfl⟩
              · refine p2 ?_ (decide_eq_false (by omega))
                exact ⟨(), id, ⟨⟨rfl, rfl, rfl, rfl, rfl, trivial⟩, ⟨rfl, trivial⟩, rfl⟩, fun g hg => by
                  obtain ⟨j, hj, rfl⟩ := List.getElem_of_mem hg
                  exact hgood j hj (by omega)⟩
            · rintro _ hgm
              obtain ⟨ra1, ra2⟩ := blkR_ris hRa
              obtain ⟨rb1, rb2⟩ := blkR_ris hRb
              have hG : SmallG gone := ⟨by omega, fun g hg => by have := hgm g hg; omega⟩
              have hGd : ∀ k, SmallG (gone.drop k) := fun k => ⟨by simp; omega, fun g hg => hG.2 g (List.mem_of_mem_drop hg)⟩
              have hGt : ∀ k, SmallG (gone.take k) := fun k => ⟨by simp; omega, fun g hg => hG.2 g (List.mem_of_mem_take hg)⟩
              have wa := wo_small (anyHit gone) a5
              have wb := wo_small (anyHit gone) b5
              have la := withoutF_len (anyHit gone) a
              have lb' := withoutF_len (anyHit gone) b
              have toS : ∀ {l : List Ser} {n k : Nat}, (∀ x ∈ l, x.samples.length ≤ n ∧ x.labels.length ≤ k) → n ≤ 1000 → k ≤ 1000 → SmallS l ∧ SmlS l := fun h h1 h2 => ⟨fun x hx => by have := h x hx; omega, fun x hx => by have := h x hx; omega⟩
              have hgood : ∀ x ∈ a, GoodS x := fun x hx => ⟨(blkR_all hRa x hx).1, (blkR_all hRa x hx).2, hV x hx⟩
              have hz := size_short ha
              have hW := without_rt a gone (by omega) a2 hG
              refine V ?_
              refine GOQ (pk at_ (IntKind.i64.wrap (((gone.map gn).length : Int) + 1)) (by rw [wrap_id (by omega) (by omega)]; omega) (by rw [wrap_id (by omega) (by omega)]; omega)) rfl ?_
              rintro _ ⟨k, hk, rfl⟩
              rw [wrap_id (by omega) (by omega)] at hk
              have hw1 : Rt pg 10 [ses a, .sl 3 (((gone.map gn).take ((gone.map gn).length : Int).toNat).drop (k : Int).toNat)] (ses (withoutF (anyHit (gone.drop k)) a)) := by
                rw [cut_hi]; exact without_rt a (gone.drop k) (by omega) a2 (hGd k)
              have hw2 : Rt pg 10 [ses (withoutF (anyHit (gone.drop k)) a), .sl 3 (((gone.map gn).take (k : Int).toNat).drop (0 : Int).toNat)] (ses (withoutF (anyHit gone) a)) := by
                rw [cut_lo, ← anyHit_take gone k a]
                exact without_rt _ (gone.take k) (by have := withoutF_len (anyHit (gone.drop k)) a; omega) (toS (wo_small _ a5) (by omega) (by omega)).1 (hGt k)
              have hw3 : Rt pg 10 [ses (withoutF (anyHit gone) a), gns gone] (ses (withoutF (anyHit gone) a)) := by
                have := without_rt (withoutF (anyHit gone) a) gone (by omega) (toS wa (by omega) (by omega)).1 hG
                rwa [withoutF_again] at this
              have hm1 : Rt pg 12 [ses a, ses a] (ses a) := by
                have := bmerge_rt a a (by omega) (by omega) a3 a3
                rwa [mergeL_self a fun x _ => mgS_self x.samples] at this
              have hm2 : Rt pg 12 [ses a, .v (.slice none 0 0)] (ses a) := by
                have := bmerge_rt a [] (by omega) (by simp) a3 (fun x hx => by cases hx)
                rw [mergeL_nil] at this
                exact Rq.nl (pre := [ses a]) (suf := []) (z := 2) this
              have hm3 := bmerge_rt a b (by omega) (by omega) a3 b3
              have hml := mergeL_len mgS a b
              have hw4 : Rt pg 10 [ses (mergeL mgS a b), gns gone] (ses (mergeL mgS (withoutF (anyHit gone) a) (withoutF (anyHit gone) b))) := by
                have := without_rt (mergeL mgS a b) gone (by omega) (toS (fun x hx => mem_mergeL_len 60 60 20 a b x a5 b5 hx) (by omega) (by omega)).1 hG
                rwa [gone_merge gone a b ra1 rb1 (fun x hx => (ra2 x hx).1) (fun x hx => (rb2 x hx).1)] at this
              have hw5 := without_rt b gone (by omega) b2 hG
              have hm4 := bmerge_rt (withoutF (anyHit gone) a) (withoutF (anyHit gone) b) (by omega) (by omega) (toS wa (by omega) (by omega)).2 (toS wb (by omega) (by omega)).2
              have same : ∀ l, Rt pg 11 [ses l, ses l] (.v (.bool true)) := fun l => (sameSeriesK_rt l).bt (d := true) rfl
              refine GO hW rfl ?_
              refine DRAW [] false (tk [0, 1, 2, 3, 5, 6, 7]) (by kernel_rfl) ?_
              refine ⟨by omega, by omega, by omega, ?_⟩
              refine ⟨by omega, by omega, by omega, ?_⟩
              refine RGO 4 false (tk []) hw1 rfl rfl (by kernel_rfl) ?_
              refine RGO 8 true (al [9]) hw2 rfl rfl (by kernel_rfl) ?_
              refine V ?_
              refine GO (same _) rfl ?_
              refine GO hw3 rfl ?_
              refine GO (same _) rfl ?_
              refine GO hm1 rfl ?_
              refine GO (same _) rfl ?_
              refine GO hm2 rfl ?_
              refine GO (same _) rfl ?_
              refine GO hm3 rfl ?_
              refine GO hw4 rfl ?_
              refine GO hw5 rfl ?_
              refine GO hm4 rfl ?_
              refine GO (same _) rfl ?_
              refine GO (bwrite_yes 1099511627776 0 a a1 (by omega) hRa) rfl ?_
              repeat (first | refine p1 ?_ | refine p2 ?_ | refine p3 ?_ | refine p4 ?_)
              refine GO (bread_wr (by constructor <;> decide) hgood (by omega) (by omega) hRa) rfl ?_
              repeat (first | refine p1 ?_ | refine p2 ?_ | refine p3 ?_ | refine p4 ?_)
              refine GO (same _) rfl ?_
              exact ⟨rfl, rfl⟩
          · refine GO ((bright_rt 1099511627776 0 b b1).bt hRb) rfl ?_
            repeat (first | refine p1 ?_ | refine p2 ?_ | refine p3 ?_ | refine p4 ?_)
            exact ⟨rfl, rfl⟩
        · refine GO ((bright_rt 1099511627776 0 a a1).bt hRa) rfl ?_
          repeat (first | refine p1 ?_ | refine p2 ?_ | refine p3 ?_ | refine p4 ?_)
          exact ⟨rfl, rfl⟩
    · refine GO ((shortS_rt b).bt hb) rfl ?_
      repeat (first | refine p1 ?_ | refine p2 ?_ | refine p3 ?_ | refine p4 ?_)
      exact ⟨rfl, rfl⟩
  · refine GO ((shortS_rt a).bt ha) rfl ?_
    repeat (first | refine p1 ?_ | refine p2 ?_ | refine p3 ?_ | refine p4 ?_)
    exact ⟨rfl, rfl⟩
end Go.Proofs.YtcdnilijfnfkbaaDoor
