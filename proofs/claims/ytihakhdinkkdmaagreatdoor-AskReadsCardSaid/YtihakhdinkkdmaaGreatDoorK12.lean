/-
  Contracts: the document's reader of questions: one of them.
-/
import Derived.Test.YtihakhdinkkdmaaGreatDoorK11
import Derived.Test.YtihakhdinkkdmaaGreatDoorK10
namespace Go.Proofs.YtihakhdinkkdmaaGreatDoor
open Go.GK Go.RowKit Go.PL
set_option maxRecDepth 100000
theorem relq {P : List Tok → PRes Qn} {r : Rd} {q : Qn} {r' : Rd} (hro : r.ok = true) (hok : RdOk r') (hlen : r'.l.length ≤ r.l.length) (hless : r'.ok = true → r'.l.length < r.l.length) (hg : Agr (P r.l) q r') (hq : r'.ok = true → q ≠ .nil) : RelQ P r q r' :=
  ⟨⟨hok, hlen, fun _ => hg, fun _ => hless, fun h => absurd hro (by rw [h]; exact Bool.false_ne_true)⟩, hq⟩
theorem one_step (f n : Nat) (hn : n ≤ 100) (ih : ∀ f', f' < f + 1 → ∀ n', n' ≤ 9 → OneOk f' n') : OneOk (f + 1) n := by
  intro r hr hl hf
  refine rq_n ?_
  have hw : IntKind.i64.wrap ((n : Int) + 1) = ((n + 1 : Nat) : Int) := by rw [wrap_id (by omega) (by omega)]; rfl
  have hoe := one_eq f n r.l
  refine Hf.of pg_ok Tryz.func38 rfl Tryz.ntmps38 rfl Tryz.results38 Tryz.call38 fun H0 S0 w0 h0 g0 => ?_
  by_cases h8 : 8 < n
  · rw [if_pos h8] at hoe
    refine p1 ?_ (decide_eq_true (by omega))
    refine GOH (rfails_hf r hr 4) id rfl rfl ⟨rfl, trivial⟩ rfl (id_lt rfl) ?_
    rintro g σ' n' ⟨rfl, rfl, rfl⟩
    have hno : (rfail 4 r).ok = false := by
      rcases tf r.ok with h | h
      · rw [rfail, if_pos h]; rfl
      · rw [rfail_bad h, h]
    refine GOH (rok_b hno) id rfl rfl ⟨rfl, trivial⟩ rfl (id_lt rfl) ?_
    rintro g σ' n' ⟨rfl, rfl, rfl⟩
    refine ⟨.nil, rfail 4 r, ⟨⟨hr.fails (by decide), by rw [rfail_l]; exact Nat.le_refl _, fun ho => ?_, fun _ h => (by rw [hno] at h; cases h), fun h => rfail_bad h 4⟩, fun h => (by rw [hno] at h; cases h)⟩, rfl, rfl, ⟨rfl, trivial⟩⟩
    rw [hoe]
    have := Agr.fail (α := Qn) (e := 4) (by decide) r.l .nil
    rwa [← hr.good ho] at this
  rw [if_neg h8] at hoe
  refine p2 ?_ (decide_eq_false (by omega))
  rcases tf r.ok with ho | ho
  rotate_left
  · refine GOH (rok_b ho) id rfl rfl ⟨rfl, trivial⟩ rfl (id_lt rfl) ?_
    rintro g σ' n' ⟨rfl, rfl, rfl⟩
    exact ⟨.nil, r, ⟨⟨hr, Nat.le_refl _, fun h => (by rw [ho] at h; cases h), fun h => (by rw [ho] at h; cases h), fun _ => rfl⟩, fun h => (by rw [ho] at h; cases h)⟩, rfl, rfl, ⟨rfl, trivial⟩⟩
  have hg := hr.good ho
  have hto : ∀ s, rsee s r = takesP s r.l := fun s => by rw [← rsee_good hr.toks, ← hg]
  obtain ⟨t0, l0, hl0⟩ := tks_cons hr
  have hlen : l0.length + 1 = r.l.length := by rw [hl0]; rfl
  refine GOH (rok_b ho) id rfl rfl ⟨rfl, trivial⟩ rfl (id_lt rfl) ?_
  rintro g σ' n' ⟨rfl, rfl, rfl⟩
  have htl : rtail r = goodR r.l.tail := by
    show (⟨r.l.tail, r.e, r.p⟩ : Rd) = _
    rw [hg]
    rfl
  have hlt := rtail_len r
  -- a sign
  rcases tf (rsee (bS [45]) r) with hs | hs
  · have ht := hto (bS [45])
    rw [hs] at ht
    rw [if_pos ht.symm] at hoe
    have hRt := hr.tl (see_k hs)
    refine GOH (take_yes hr hs) id rfl rfl ⟨rfl, trivial⟩ rfl (id_lt rfl) ?_
    rintro g σ' n' ⟨rfl, rfl, rfl⟩
    refine GOJ (ih f (by omega) (n + 1) (by omega) (rtail r) hRt (by omega) (by omega)) id rfl (congrArg (fun x : Int => [GV.p 0 0, gi x]) hw) ⟨rfl, trivial⟩ rfl (id_lt rfl) ?_
    rintro g σ' n' ⟨q, r3, ⟨hq, hne⟩, rfl, rfl, rfl⟩
    have hq1 := hq.good (show (rtail r).ok = true from ho)
    have hq2 := hq.less (show (rtail r).ok = true from ho)
    have hq3 := hq.len
    have fin : RelQ (oneP (f + 1) n) r (.mk 12 0 [] 0 [] q .nil) r3 := by
      refine relq ho hq.ok (by omega) (fun h => by have := hq2 h; omega) ?_ (fun _ => by simp)
      rw [hoe]
      exact hq1.bind (fun _ => rfl) (fun l h1 h2 => ⟨rfl, h2⟩)
    cases q with
    | nil =>
      refine VM 4 ?_
      show JK _ _ _ _
      refine JK.subBlk 1 [gi 12, gi 0, .sl 3 [], gi 0, .sl 1 [], .v (.pointer none), .v (.pointer none)] rfl (sv7 Sub.rfl (Sub.nil 3) (Sub.nil 1)) ?_
      refine JK.freezeB 1 rfl rfl ?_
      refine V ?_
      exact ⟨_, _, fin, rfl, rfl, ⟨rfl, trivial⟩⟩
    | mk c nn m sp ns ql qr =>
      refine VM 4 ?_
      show JK _ _ _ _
      refine JK.subBlk 1 [gi 12, gi 0, .sl 3 [], gi 0, .sl 1 [], .r [gi c, gi nn, .sl 3 (m.map mt), gi sp, .sl 1 (ns.map fun s => [gs s]), qG ql, qG qr], .v (.pointer none)] rfl (sv7 Sub.rfl (Sub.nil 3) (Sub.nil 1)) ?_
      refine JK.freezeB 1 rfl rfl ?_
      refine V ?_
      exact ⟨_, _, fin, rfl, rfl, ⟨rfl, trivial⟩⟩
  rw [if_neg (by rw [← hto, hs]; exact Bool.false_ne_true)] at hoe
  refine GOH (take_no hr hs) id rfl rfl ⟨rfl, trivial⟩ rfl (id_lt rfl) ?_
  rintro g σ' n' ⟨rfl, rfl, rfl⟩
  -- in ( and )
  rcases tf (rsee (bS [40]) r) with hs | hs
  · have ht := hto (bS [40])
    rw [hs] at ht
    rw [if_pos ht.symm] at hoe
    have hRt := hr.tl (see_k hs)
    refine GOH (take_yes hr hs) id rfl rfl ⟨rfl, trivial⟩ rfl (id_lt rfl) ?_
    rintro g σ' n' ⟨rfl, rfl, rfl⟩
    refine GOJ (sum_of (f := f) (n := n + 1) (fun f' hf' => ih f' (by omega) (n + 1) (by omega)) (rtail r) hRt (by omega) (by omega)) id rfl (congrArg (fun x : Int => [GV.p 0 0, gi x]) hw) ⟨rfl, trivial⟩ rfl (id_lt rfl) ?_
    rintro g σ' n' ⟨q, r3, ⟨hq, hne⟩, rfl, rfl, rfl⟩
    have hq1 := hq.good (show (rtail r).ok = true from ho)
    have hq2 := hq.less (show (rtail r).ok = true from ho)
    have hq3 := hq.len
    have hm1 := rmust_len (bS [41]) r3
    have fin : RelQ (oneP (f + 1) n) r q (rmust (bS [41]) r3) := by
      refine relq ho (hq.ok.must _) (by omega) (fun h => ?_) ?_ (fun h => ?_)
      · have h3 : r3.ok = true := by
          rcases tf r3.ok with h' | h'
          · exact h'
          · rw [rmust_bad h', h'] at h; cases h
        have := hq2 h3
        omega
      · rw [hoe]
        refine hq1.bind (fun h => rmust_bad h _) (fun l h1 h2 => ?_)
        have hE : ToksOk l := by have := hq.ok.toks; rw [h2] at this; exact this
        have h4 := rmust_good hE (bS [41])
        rw [h2]
        exact h4.bind (fun _ => rfl) (fun l' h5 h6 => ⟨rfl, h6⟩)
      · refine hne ?_
        rcases tf r3.ok with h' | h'
        · exact h'
        · rw [rmust_bad h', h'] at h; cases h
    cases q with
    | nil =>
      refine V ?_
      refine GOH (rmust_hf hq.ok (bS [41])) id rfl rfl ⟨rfl, trivial⟩ rfl (id_lt rfl) ?_
      rintro g σ' n' ⟨rfl, rfl, rfl⟩
      exact ⟨_, _, fin, rfl, rfl, ⟨rfl, trivial⟩⟩
    | mk c nn m sp ns ql qr =>
      refine V ?_
      refine GOH (rmust_hf hq.ok (bS [41])) id rfl rfl ⟨rfl, trivial⟩ rfl (id_lt rfl) ?_
      rintro g σ' n' ⟨rfl, rfl, rfl⟩
      exact ⟨_, _, fin, rfl, rfl, ⟨rfl, trivial⟩⟩
  rw [if_neg (by rw [← hto, hs]; exact Bool.false_ne_true)] at hoe
  refine GOJ (take_no hr hs) id rfl rfl ⟨rfl, trivial⟩ rfl (id_lt rfl) ?_
  rintro g σ' n' ⟨rfl, rfl, rfl⟩
  -- a number
  obtain ⟨rl, re, rp⟩ := r
  simp only at hl0 hoe hlen
  subst hl0
  have hl' : l0.length + 1 ≤ 300 := hl
  have hf' : 3 * (l0.length + 1) + 1 ≤ f + 1 := hf
  refine V ?_
  refine ⟨tokR t0, by decide, rfl, ?_⟩
  by_cases hk : t0.kind = 2
  · rw [if_pos (show (hdT (t0 :: l0)).kind = 2 from hk)] at hoe
    refine p1 ?_ (by simp [hk])
    refine GOJ (rnumber_hf hr 9223372036854775807) id rfl rfl ⟨rfl, trivial⟩ rfl (id_lt rfl) ?_
    rintro g σ' n' ⟨rfl, rfl, rfl⟩
    have h1 := rnumber_good (t0 :: l0) 9223372036854775807
    rw [show goodR (t0 :: l0) = (⟨t0 :: l0, re, rp⟩ : Rd) from hg.symm] at h1
    have fin : RelQ (oneP (f + 1) n) ⟨t0 :: l0, re, rp⟩ (.mk 1 (rnum ⟨t0 :: l0, re, rp⟩) [] 0 [] .nil .nil) (rnumber 9223372036854775807 ⟨t0 :: l0, re, rp⟩) := by
      refine relq ho (hr.number _) (rnumber_len _ _) (fun h => rnumber_less hr h) ?_ (fun _ => by simp)
      · rw [hoe]
        exact h1.bind (fun _ => rfl) (fun l h2 h3 => ⟨rfl, h3⟩)
    generalize rnum ⟨t0 :: l0, re, rp⟩ = kk at fin
    refine VM 4 ?_
    show JK _ _ _ _
    refine JK.subBlk 1 [gi 1, gi kk, .sl 3 [], gi 0, .sl 1 [], .v (.pointer none), .v (.pointer none)] rfl (sv7 Sub.rfl (Sub.nil 3) (Sub.nil 1)) ?_
    refine JK.freezeB 1 rfl rfl ?_
    refine V ?_
    exact ⟨_, _, fin, rfl, rfl, ⟨rfl, trivial⟩⟩
  rw [if_neg (show ¬ (hdT (t0 :: l0)).kind = 2 from hk)] at hoe
  refine p2 ?_ (by simp [hk])
  -- series
  rcases tf (rsee (bS [123]) ⟨t0 :: l0, re, rp⟩) with hs | hs
  · have ht := hto (bS [123])
    rw [hs] at ht
    have hti : isP (bS [123]) (t0 :: l0) = true := by rw [isP_takes hr.toks (by decide)]; exact ht.symm
    rw [if_pos hti] at hoe
    refine GOH (see_b hr hs) id rfl rfl ⟨rfl, trivial⟩ rfl (id_lt rfl) ?_
    rintro g σ' n' ⟨rfl, rfl, rfl⟩
    refine GOJ (some_hf hr (by omega)) id rfl rfl ⟨rfl, trivial⟩ rfl (id_lt rfl) ?_
    rintro g σ' n' ⟨m, r3, hq, rfl, rfl, rfl⟩
    have fin : RelQ (oneP (f + 1) n) ⟨t0 :: l0, re, rp⟩ (.mk 2 0 m 300 [] .nil .nil) r3 := by
      refine relq ho hq.ok hq.len (hq.less ho) ?_ (fun _ => by simp)
      rw [hoe]
      exact (hq.good ho).bind (fun _ => rfl) (fun l h2 h3 => ⟨rfl, h3⟩)
    refine VM 4 ?_
    show JK _ _ _ _
    refine JK.subBlk 1 [gi 2, gi 0, .sl 3 (m.map mt), gi 300, .sl 1 [], .v (.pointer none), .v (.pointer none)] rfl (sv7 Sub.rfl Sub.rfl (Sub.nil 1)) ?_
    refine JK.freezeB 1 rfl rfl ?_
    refine V ?_
    exact ⟨_, _, fin, rfl, rfl, ⟨rfl, trivial⟩⟩
  have hni : isP (bS [123]) (t0 :: l0) = false := by rw [isP_takes hr.toks (by decide)]; exact (hto _).symm.trans hs
  rw [if_neg (by rw [hni]; exact Bool.false_ne_true)] at hoe
  refine GOJ (see_b hr hs) id rfl rfl ⟨rfl, trivial⟩ rfl (id_lt rfl) ?_
  rintro g σ' n' ⟨rfl, rfl, rfl⟩
  -- over a span
  have hme : (∀ s, s ≠ ⟨#[]⟩ → rsee s ⟨t0 :: l0, re, rp⟩ = isP s (t0 :: l0)) := fun s hs => by rw [isP_takes hr.toks hs]; exact hto s
  refine VM 11 ?_
  refine FRZ 1 rfl ?_
  show JK _ _ _ _
  refine JK.loopE (α := Nat) (β := Unit) (fun j => ⟨[(0, .p 0 0), (1, gi n), (59, .sl 1 (oversL.map fun s => [gs s])), (60, gi 5), (61, gi j)], rs ⟨t0 :: l0, re, rp⟩, 2⟩) (fun j => j ≤ 5 ∧ ∀ i (hi : i < oversL.length), i < j → isP oversL[i] (t0 :: l0) = false) (fun j => 5 - j)
    (fun _ => ⟨[(0, .p 0 0), (1, gi n)], rs ⟨t0 :: l0, re, rp⟩, 2⟩) (fun _ => (oversL.findIdx? fun s => isP s (t0 :: l0)) = none) 0 id ?_ ⟨Nat.zero_le _, fun i _ h => absurd h (by omega)⟩ ?_ ?_
  · exact ⟨⟨rfl, rfl, rfl, rfl, rfl, trivial⟩, ⟨rfl, trivial⟩, rfl⟩
  · rintro j ⟨hj, hno⟩
    refine V ?_
    by_cases hjl : j < 5
    · have hjL : j < oversL.length := hjl
      refine p1 ?_ (decide_eq_true (by omega))
      refine ix (hk := hjL) (h := ?_)
      have hne : oversL[j] ≠ ⟨#[]⟩ := overs_some _ (List.getElem_mem hjL)
      rcases tf (rsee oversL[j] ⟨t0 :: l0, re, rp⟩) with hs | hs
      · have hfi := find_first_some hjL hno (by rw [← hme _ hne]; exact hs)
        simp only [hfi] at hoe
        have hgd : oversL.getD j ⟨#[]⟩ = oversL[j] := by rw [List.getD_eq_getElem?_getD, List.getElem?_eq_getElem hjL]; rfl
        have hmu : mustP (oversL.getD j ⟨#[]⟩) (t0 :: l0) = .ok ((), l0) := by rw [mustP, hgd, if_pos ((hto _).symm.trans hs)]; rfl
        rw [hmu] at hoe
        have hRt := hr.tl (see_k hs)
        rw [htl] at hRt
        replace hRt : RdOk (goodR l0) := hRt
        have hE0 : ToksOk l0 := hRt.toks
        generalize hr2 : rmust (bS [40]) (goodR l0) = r2
        have o2 : RdOk r2 := by rw [← hr2]; exact hRt.must _
        have a2 := rmust_len (bS [40]) (goodR l0)
        rw [hr2] at a2
        replace a2 : r2.l.length ≤ l0.length := a2
        refine GOH (take_yes hr hs) id rfl rfl ⟨rfl, trivial⟩ rfl (id_lt rfl) ?_
        rintro g σ' n' ⟨rfl, rfl, rfl⟩
        rw [htl]
        refine GOH (rmust_hf hRt (bS [40])) id rfl rfl ⟨rfl, trivial⟩ rfl (id_lt rfl) ?_
        rintro g σ' n' ⟨rfl, rfl, rfl⟩
        rw [hr2]
        refine GOH (some_hf o2 (by omega)) id rfl rfl ⟨rfl, trivial⟩ rfl (id_lt rfl) ?_
        rintro g σ' n' ⟨m, r3, hq, rfl, rfl, rfl⟩
        generalize hr4 : rmust (bS [91]) r3 = r4
        have o4 : RdOk r4 := by rw [← hr4]; exact hq.ok.must _
        refine GOH (rmust_hf hq.ok (bS [91])) id rfl rfl ⟨rfl, trivial⟩ rfl (id_lt rfl) ?_
        rintro g σ' n' ⟨rfl, rfl, rfl⟩
        rw [hr4]
        refine GOJ (rnumber_hf o4 1099511627776) id rfl rfl ⟨rfl, trivial⟩ rfl (id_lt rfl) ?_
        rintro g σ' n' ⟨rfl, rfl, rfl⟩
        generalize hr5 : rnumber 1099511627776 r4 = r5
        have o5 : RdOk r5 := by rw [← hr5]; exact o4.number _
        refine VM 12 ?_
        have hwj : gi (3 + (j : Int)) = gi (IntKind.i64.wrap (3 + (j : Int))) := by rw [wrap_id (by omega) (by omega)]
        have hfin := over_fin hE0 hr2.symm hq.ok hq.good hq.bad hq.len hr4.symm hr5.symm rfl rfl j
        generalize rnum r4 = sp at hfin
        refine JK.cut (α := Unit) (fun _ => ⟨[(0, .p 0 0), (8, .p 2 0)], [(0, .blk 49 [tks r5.l, gi r5.e, gi r5.p]), (2, .blk 68 [gi (IntKind.i64.wrap (3 + (j : Int))), gi 0, .sl 3 (m.map mt), gi (if sp = 0 then 1 else sp), .v (.slice none 0 0), .v (.pointer none), .v (.pointer none)])], 3⟩) (fun _ => True) ?_ ?_
        · refine V ?_
          by_cases h1 : sp = 0
          · refine p1 ?_ (by simp [h1])
            exact ⟨(), id, ⟨⟨rfl, rfl, trivial⟩, ⟨rfl, by rw [if_pos h1]; rfl, trivial⟩, rfl⟩, trivial⟩
          · refine p2 ?_ (by simp [h1])
            exact ⟨(), id, ⟨⟨rfl, rfl, trivial⟩, ⟨rfl, by rw [if_neg h1]; rfl, trivial⟩, rfl⟩, trivial⟩
        rintro _ _
        refine JK.subBlk 2 [gi (3 + (j : Int)), gi 0, .sl 3 (m.map mt), gi (if sp = 0 then 1 else sp), .sl 1 [], .v (.pointer none), .v (.pointer none)] rfl (sv7 (Sub.eq hwj) Sub.rfl (Sub.nil 1)) ?_
        refine JK.freezeB 2 rfl rfl ?_
        refine V ?_
        refine GOH (rmust_hf o5 (bS [93])) id rfl rfl ⟨rfl, trivial⟩ rfl (id_lt rfl) ?_
        rintro g σ' n' ⟨rfl, rfl, rfl⟩
        refine GOH (rmust_hf (o5.must (bS [93])) (bS [41])) id rfl rfl ⟨rfl, trivial⟩ rfl (id_lt rfl) ?_
        rintro g σ' n' ⟨rfl, rfl, rfl⟩
        obtain ⟨f1, f2, f3⟩ := hfin
        refine ⟨.mk (3 + j) 0 m (if sp = 0 then 1 else sp) [] .nil .nil, _, relq ho f2 (by show _ ≤ l0.length + 1; omega) (fun _ => by show _ < l0.length + 1; omega) ?_ (fun _ => by simp), rfl, rfl, ⟨rfl, trivial⟩⟩
        rw [hoe]
        exact f1
      · refine GOH (take_no hr hs) id rfl rfl ⟨rfl, trivial⟩ rfl (id_lt rfl) ?_
        rintro g σ' n' ⟨rfl, rfl, rfl⟩
        refine ⟨j + 1, id, ⟨⟨rfl, rfl, rfl, rfl, succ_gi (by omega), trivial⟩, ⟨rfl, trivial⟩, rfl⟩, ⟨hjl, fun i hi h => ?_⟩, by show 5 - (j + 1) < 5 - j; omega⟩
        rcases Nat.lt_succ_iff_lt_or_eq.1 h with h' | h'
        · exact hno i hi h'
        · subst h'
          rw [← hme _ hne]
          exact hs
    · refine p2 ?_ (decide_eq_false (by omega))
      refine ⟨(), id, ⟨⟨rfl, rfl, trivial⟩, ⟨rfl, trivial⟩, rfl⟩, ?_⟩
      show (oversL.findIdx? fun s => isP s (t0 :: l0)) = none
      rw [List.findIdx?_eq_none_iff]
      intro s hs
      obtain ⟨i, hi, rfl⟩ := List.getElem_of_mem hs
      exact hno i hi (by have : i < 5 := hi; omega)
  rintro _ hfo
  replace hfo : (oversL.findIdx? fun s => isP s (t0 :: l0)) = none := hfo
  simp only [hfo] at hoe
  -- of all
  refine VM 6 ?_
  refine FRZ 2 rfl ?_
  show JK _ _ _ _
  refine JK.loopE (α := Nat) (β := Unit) (fun j => ⟨[(0, .p 0 0), (1, gi n), (98, .sl 1 (allsL.map fun s => [gs s])), (99, gi 4), (100, gi j)], rs ⟨t0 :: l0, re, rp⟩, 3⟩) (fun j => j ≤ 4 ∧ ∀ i (hi : i < allsL.length), i < j → isP allsL[i] (t0 :: l0) = false) (fun j => 4 - j)
    (fun _ => ⟨[(0, .p 0 0), (1, gi n)], rs ⟨t0 :: l0, re, rp⟩, 3⟩) (fun _ => (allsL.findIdx? fun s => isP s (t0 :: l0)) = none) 0 id ?_ ⟨Nat.zero_le _, fun i _ h => absurd h (by omega)⟩ ?_ ?_
  · exact ⟨⟨rfl, rfl, rfl, rfl, rfl, trivial⟩, ⟨rfl, trivial⟩, rfl⟩
  · rintro j ⟨hj, hno⟩
    refine V ?_
    by_cases hjl : j < 4
    · have hjL : j < allsL.length := hjl
      refine p1 ?_ (decide_eq_true (by omega))
      refine ix (hk := hjL) (h := ?_)
      have hne : allsL[j] ≠ ⟨#[]⟩ := alls_some _ (List.getElem_mem hjL)
      rcases tf (rsee allsL[j] ⟨t0 :: l0, re, rp⟩) with hs | hs
      · have hfi := find_first_some hjL hno (by rw [← hme _ hne]; exact hs)
        simp only [hfi] at hoe
        have hgd : allsL.getD j ⟨#[]⟩ = allsL[j] := by rw [List.getD_eq_getElem?_getD, List.getElem?_eq_getElem hjL]; rfl
        have hmu : mustP (allsL.getD j ⟨#[]⟩) (t0 :: l0) = .ok ((), l0) := by rw [mustP, hgd, if_pos ((hto _).symm.trans hs)]; rfl
        rw [hmu] at hoe
        have hRt := hr.tl (see_k hs)
        rw [htl] at hRt
        replace hRt : RdOk (goodR l0) := hRt
        have hE0 : ToksOk l0 := hRt.toks
        generalize hr2 : rmust (bS [40]) (goodR l0) = r2
        have o2 : RdOk r2 := by rw [← hr2]; exact hRt.must _
        have a2 := rmust_len (bS [40]) (goodR l0)
        rw [hr2] at a2
        replace a2 : r2.l.length ≤ l0.length := a2
        refine GOH (take_yes hr hs) id rfl rfl ⟨rfl, trivial⟩ rfl (id_lt rfl) ?_
        rintro g σ' n' ⟨rfl, rfl, rfl⟩
        rw [htl]
        refine GOH (rmust_hf hRt (bS [40])) id rfl rfl ⟨rfl, trivial⟩ rfl (id_lt rfl) ?_
        rintro g σ' n' ⟨rfl, rfl, rfl⟩
        rw [hr2]
        refine GOJ (sum_of (f := f) (n := n + 1) (fun f' hf' => ih f' (by omega) (n + 1) (by omega)) r2 o2 (by omega) (by omega)) id rfl (congrArg (fun x : Int => [GV.p 0 0, gi x]) hw) ⟨rfl, trivial⟩ rfl (id_lt rfl) ?_
        rintro g σ' n' ⟨q, r3, ⟨hq, hneq⟩, rfl, rfl, rfl⟩
        generalize hr4 : rmust (bS [41]) r3 = r4
        have o4 : RdOk r4 := by rw [← hr4]; exact hq.ok.must _
        have a3 := hq.len
        have a4 := rmust_len (bS [41]) r3
        rw [hr4] at a4
        have hfin := fun (Q : Qn) (r7 : Rd) => all_fin (X := fun l => sumP f (n + 1) l) (Q := Q) (r7 := r7) hE0 hr2.symm hq.ok hq.good hq.bad hr4.symm j
        have hwj : gi (8 + (j : Int)) = gi (IntKind.i64.wrap (8 + (j : Int))) := by rw [wrap_id (by omega) (by omega)]
        have end_ : ∀ (Q : Qn) (r7 : Rd), RdOk r7 → r7.l.length ≤ l0.length → Agr (bindP (mustP (bS [40]) l0) fun _ l => bindP (sumP f (n + 1) l) fun q l => bindP (mustP (bS [41]) l) fun _ l => byP j q l) Q r7 → Q ≠ .nil → RelQ (oneP (f + 1) n) ⟨t0 :: l0, re, rp⟩ Q r7 := fun Q r7 z1 z2 z3 z4 => by
          refine relq ho z1 (by show _ ≤ l0.length + 1; omega) (fun _ => by show _ < l0.length + 1; omega) ?_ (fun _ => z4)
          rw [hoe]
          exact z3
        have key : True := trivial
        cases q with
        | nil =>
          refine VM 4 ?_
          show JK _ _ _ _
          refine JK.subBlk 3 [gi (8 + (j : Int)), gi 0, .sl 3 [], gi 0, .v (.slice none 0 0), .v (.pointer none), .v (.pointer none)] rfl (sv7 (Sub.eq hwj) (Sub.nil 3) Sub.rfl) ?_
          refine V ?_
          refine GOH (rmust_hf hq.ok (bS [41])) id rfl rfl ⟨rfl, trivial⟩ rfl (id_lt rfl) ?_
          rintro g σ' n' ⟨rfl, rfl, rfl⟩
          rw [hr4]
          rcases tf (rsee (bS [98, 121]) r4) with hby | hby
          · refine GOJ (take_yes o4 hby) id rfl rfl ⟨rfl, trivial⟩ rfl (id_lt rfl) ?_
            rintro g σ' n' ⟨rfl, rfl, rfl⟩
            have o4t := o4.tl (see_k hby)
            have ho4 : r4.ok = true := by
              rcases tf r4.ok with h | h
              · exact h
              · rw [rsee_bad h] at hby; cases hby
            have h4t : rtail r4 = goodR r4.l.tail := by
              rw [rtail]
              have := o4.good ho4
              rw [this]
              rfl
            have ht4 : takesP (bS [98, 121]) r4.l = true := by rw [← rsee_good o4.toks, ← o4.good ho4]; exact hby
            rw [h4t] at o4t ⊢
            generalize hr5 : rmust (bS [40]) (goodR r4.l.tail) = r5
            have o5 : RdOk r5 := by rw [← hr5]; exact o4t.must _
            have a5 := rmust_len (bS [40]) (goodR r4.l.tail)
            rw [hr5] at a5
            replace a5 : r5.l.length ≤ r4.l.tail.length := a5
            rw [List.length_tail] at a5
            refine V ?_
            refine GOH (rmust_hf o4t (bS [40])) id rfl rfl ⟨rfl, trivial⟩ rfl (id_lt rfl) ?_
            rintro g σ' n' ⟨rfl, rfl, rfl⟩
            rw [hr5]
            show JK _ _ _ _
            generalize hN : namesL (r5.l.length + 1) [] r5.l = N
            refine JK.ownNilB 3 4 9 1 rfl rfl ?_
            refine JK.loopE (α := List ByteArray × Rd × Nat) (β := List ByteArray × Rd) (fun x => ⟨[(0, .p 0 0), (11, .p 3 0)], [(0, .blk 49 [tks (x.2.1).l, gi (x.2.1).e, gi (x.2.1).p]), (3, .blk 68 [gi (8 + (j : Int)), gi 0, .sl 3 [], gi 0, .o 4, .v (.pointer none), .v (.pointer none)]), (4, .row 9 1 ((x.1).map fun s => [gs s]))], 5⟩)
              (fun x => RdOk x.2.1 ∧ x.2.1.l.length ≤ r5.l.length ∧ x.1.length ≤ 8 ∧ (r5.ok = true → x.2.1.ok = true ∧ x.2.1.l.length < x.2.2 ∧ namesL x.2.2 x.1 x.2.1.l = N) ∧ (r5.ok = false → x.2.1 = r5)) (fun x => x.2.1.l.length)
              (fun y => ⟨[(0, .p 0 0), (11, .p 3 0)], [(0, .blk 49 [tks (y.2).l, gi (y.2).e, gi (y.2).p]), (3, .blk 68 [gi (8 + (j : Int)), gi 0, .sl 3 [], gi 0, .o 4, .v (.pointer none), .v (.pointer none)]), (4, .row 9 1 ((y.1).map fun s => [gs s]))], 5⟩) (fun y => RdOk y.2 ∧ y.2.l.length ≤ r5.l.length ∧ (r5.ok = true → Agr N y.1 y.2) ∧ (r5.ok = false → y.2 = r5)) ([], r5, r5.l.length + 1) id ?_ ?_ ?_ ?_
            · exact ⟨⟨rfl, rfl, trivial⟩, ⟨rfl, rfl, rfl, trivial⟩, rfl⟩
            · exact ⟨o5, Nat.le_refl _, Nat.zero_le _, fun h => ⟨h, Nat.lt_succ_self _, hN⟩, fun _ => rfl⟩
            · rintro ⟨acc, r', f'⟩ ⟨oR, hlR, hac, hgR, hbR⟩
              replace oR : RdOk r' := oR
              replace hlR : r'.l.length ≤ r5.l.length := hlR
              replace hac : acc.length ≤ 8 := hac
              replace hgR : r5.ok = true → r'.ok = true ∧ r'.l.length < f' ∧ namesL f' acc r'.l = N := hgR
              replace hbR : r5.ok = false → r' = r5 := hbR
              refine V ?_
              rcases tf r'.ok with ho' | ho'
              · have h5o : r5.ok = true := by
                  rcases tf r5.ok with h | h
                  · exact h
                  · rw [hbR h] at ho'; rw [ho'] at h; cases h
                obtain ⟨_, g2, g3⟩ := hgR h5o
                obtain ⟨f', rfl⟩ : ∃ z, f' = z + 1 := ⟨f' - 1, by omega⟩
                have hrd := names_round oR.toks hac f'
                rw [← oR.good ho', g3] at hrd
                refine GOJ (rok_b ho') id rfl rfl ⟨rfl, trivial⟩ rfl (id_lt rfl) ?_
                rintro g σ' n' ⟨rfl, rfl, rfl⟩
                have o1 : RdOk (rlim acc.length r') := oR.lim _
                have hl1 := rlim_len acc.length r'
                refine VM 14 ?_
                refine JK.cut (α := Unit) (fun _ => ⟨[(0, .p 0 0), (11, .p 3 0)], [(0, .blk 49 [tks (rlim acc.length r').l, gi (rlim acc.length r').e, gi (rlim acc.length r').p]), (3, .blk 68 [gi (8 + (j : Int)), gi 0, .sl 3 [], gi 0, .o 4, .v (.pointer none), .v (.pointer none)]), (4, .row 9 1 ((acc).map fun s => [gs s]))], 5⟩) (fun _ => True) ?_ ?_
                · refine V ?_
                  by_cases ha : acc.length = 8
                  · have c8 : (((acc.map fun s => [gs s]).length : Int) == 8) = true := by simp; omega
                    refine p1 ?_ c8
                    refine GOH (rfails_hf _ oR 4) id rfl rfl ⟨rfl, trivial⟩ rfl (id_lt rfl) ?_
                    rintro g σ' n' ⟨rfl, rfl, rfl⟩
                    exact ⟨(), id, ⟨⟨rfl, rfl, trivial⟩, ⟨by rw [rlim, if_pos ha]; rfl, rfl, rfl, trivial⟩, rfl⟩, trivial⟩
                  · have c8 : (((acc.map fun s => [gs s]).length : Int) == 8) = false := by simp; omega
                    refine p2 ?_ c8
                    exact ⟨(), id, ⟨⟨rfl, rfl, trivial⟩, ⟨by rw [rlim, if_neg ha]; rfl, rfl, rfl, trivial⟩, rfl⟩, trivial⟩
                rintro _ _
                have hN1 : rnm acc r' = rname (rlim acc.length r') := rfl
                rw [hN1] at hrd
                have hnh := rname_hf o1
                have o2' := o1.name
                have hl2 := rname_len (rlim acc.length r')
                generalize (rname (rlim acc.length r')).1 = nm at hrd hnh
                generalize (rname (rlim acc.length r')).2 = r2' at hrd hnh o2' hl2
                refine V ?_
                show JK _ _ _ _
                refine JK.drawJ [0, 3, 4] ⟨[(0, .p 0 0), (11, .p 3 0)], [(0, .blk 49 [tks (r2').l, gi (r2').e, gi (r2').p]), (3, .blk 68 [gi (8 + (j : Int)), gi 0, .sl 3 [], gi 0, .o 4, .v (.pointer none), .v (.pointer none)]), (4, .row 9 1 ((acc ++ [nm]).map fun s => [gs s]))], 5⟩ pg_ok ?_ (fun hk => ?_)
                · refine V ?_
                  rcases tf (rsee (bS [44]) r2') with hcm | hcm
                  · have h2o : r2'.ok = true := by
                      rcases tf r2'.ok with h | h
                      · exact h
                      · rw [rsee_bad h] at hcm; cases hcm
                    rw [if_pos h2o] at hrd
                    obtain ⟨l', z1, z2, z3, z4, z5⟩ := hrd
                    have hct : takesP (bS [44]) l' = true := by rw [← rsee_good z2, ← z1]; exact hcm
                    rw [if_pos hct] at z5
                    have hz : l'.tail.length = l'.length - 1 := by simp
                    have hlz : r2'.l.length = l'.length := by rw [z1]; rfl
                    refine GOH (take_yes o2' hcm) id rfl rfl ⟨rfl, trivial⟩ rfl (id_lt rfl) ?_
                    rintro g σ' n' ⟨rfl, rfl, rfl⟩
                    refine ⟨(acc ++ [nm], rtail r2', f'), id, ⟨⟨rfl, rfl, trivial⟩, ⟨rfl, rfl, rfl, trivial⟩, rfl⟩, ⟨o2'.tl (see_k hcm), by show (rtail r2').l.length ≤ _; rw [rtail_len]; omega, by simp; omega, fun _ => ⟨h2o, by show (rtail r2').l.length < f'; rw [rtail_len]; omega, ?_⟩, fun h => absurd h5o (by rw [h]; exact Bool.false_ne_true)⟩, by show (rtail r2').l.length < r'.l.length; rw [rtail_len]; omega⟩
                    rw [z5, z1]
                    rfl
                  · refine GOH (take_no o2' hcm) id rfl rfl ⟨rfl, trivial⟩ rfl (id_lt rfl) ?_
                    rintro g σ' n' ⟨rfl, rfl, rfl⟩
                    refine ⟨(acc ++ [nm], r2'), id, ⟨⟨rfl, rfl, trivial⟩, ⟨rfl, rfl, rfl, trivial⟩, rfl⟩, ⟨o2', by show r2'.l.length ≤ _; omega, fun _ => ?_, fun h => absurd h5o (by rw [h]; exact Bool.false_ne_true)⟩⟩
                    show Agr N (acc ++ [nm]) r2'
                    by_cases h2o : r2'.ok = true
                    · rw [if_pos h2o] at hrd
                      obtain ⟨l', z1, z2, z3, z4, z5⟩ := hrd
                      have hct : takesP (bS [44]) l' = false := by rw [← rsee_good z2, ← z1]; exact hcm
                      rw [if_neg (by rw [hct]; exact Bool.false_ne_true)] at z5
                      rw [z5]
                      exact ⟨rfl, z1⟩
                    · rw [if_neg h2o] at hrd
                      rw [hrd]
                      exact ⟨rfl, rfl, by simpa using h2o⟩
                · refine RA.run (cx := ⟨pg, _, _, _, _, _, _, _⟩) pg_ok (by kernel_rfl) (by intro _ _ h; exact h) (tk [0, 1, 2, 3, 5]) (e := false) (by kernel_rfl) ?_
                  refine RA.both 4 6 (eqB_eq (by kernel_rfl)) (Stp.read 4 pg_ok rfl rfl ?_) (Stp.hf 6 hnh id rfl rfl rfl ⟨rfl, trivial⟩ rfl (id_lt rfl) ?_)
                  · refine RGOH 6 false (al [7, 8] ++ tk [9, 10] ++ al [11]) hnh id rfl rfl rfl ⟨rfl, trivial⟩ rfl (id_lt rfl) (by kernel_rfl) ?_
                    rintro g σ' n' ⟨rfl, rfl, rfl⟩
                    refine ⟨by simp; omega, ?_⟩
                    exact RA.endJ (fun i => bif Nat.beq i 4 then 6 else i) (by kernel_rfl) hk ⟨⟨rfl, rfl, trivial⟩, ⟨rfl, rfl, congrArg (fun x => some (Res.row 9 1 x)) (List.map_append (l₁ := acc) (l₂ := [nm])).symm, trivial⟩, rfl⟩
                  · rintro g σ' n' ⟨rfl, rfl, rfl⟩
                    refine RA.both 4 7 (eqB_eq (by kernel_rfl)) (Stp.read 4 pg_ok rfl rfl ?_) (Stp.mem 7 pg_ok rfl rfl rfl ?_)
                    · refine RA.run (cx := ⟨pg, _, _, _, _, _, _, _⟩) pg_ok (by kernel_rfl) (by intro _ _ h; exact h) (al [7, 8] ++ tk [9, 10] ++ al [11]) (e := false) (by kernel_rfl) ?_
                      refine ⟨by simp; omega, ?_⟩
                      exact RA.endJ (fun i => bif Nat.beq i 4 then 6 else i) (by kernel_rfl) hk ⟨⟨rfl, rfl, trivial⟩, ⟨rfl, rfl, congrArg (fun x => some (Res.row 9 1 x)) (List.map_append (l₁ := acc) (l₂ := [nm])).symm, trivial⟩, rfl⟩
                    · refine RA.run (cx := ⟨pg, _, _, _, _, _, _, _⟩) pg_ok (by kernel_rfl) (by intro _ _ h; exact h) (al [4, 8] ++ tk [9, 10] ++ al [11]) (e := false) (by kernel_rfl) ?_
                      refine ⟨by simp; omega, ?_⟩
                      exact RA.endJ (fun i => bif Nat.beq i 4 then 6 else i) (by kernel_rfl) hk ⟨⟨rfl, rfl, trivial⟩, ⟨rfl, rfl, congrArg (fun x => some (Res.row 9 1 x)) (List.map_append (l₁ := acc) (l₂ := [nm])).symm, trivial⟩, rfl⟩
              · refine GOH (rok_b ho') id rfl rfl ⟨rfl, trivial⟩ rfl (id_lt rfl) ?_
                rintro g σ' n' ⟨rfl, rfl, rfl⟩
                exact ⟨(acc, r'), id, ⟨⟨rfl, rfl, trivial⟩, ⟨rfl, rfl, rfl, trivial⟩, rfl⟩, ⟨oR, hlR, fun h => (by rw [(hgR h).1] at ho'; cases ho'), hbR⟩⟩
            · rintro ⟨ns2, r6⟩ ⟨o6, hl6, hg6, hb6⟩
              replace o6 : RdOk r6 := o6
              replace hl6 : r6.l.length ≤ r5.l.length := hl6
              replace hg6 : r5.ok = true → Agr N ns2 r6 := hg6
              replace hb6 : r5.ok = false → r6 = r5 := hb6
              rw [← hN] at hg6
              have fb := by_fin (k := j) (q := .nil) ht4 o4t.toks hr5.symm o6 hg6 hb6 rfl
              have f1 := hfin (.mk (8 + j) 0 [] 0 ns2 .nil .nil) (rmust (bS [41]) r6) (fun h => by rw [ho4] at h; cases h) (fun _ => fb)
              have a7 := rmust_len (bS [41]) r6
              refine FRZ 4 rfl ?_
              show JK _ _ _ _
              refine JK.freezeB 3 rfl rfl ?_
              refine V ?_
              refine GOH (rmust_hf o6 (bS [41])) id rfl rfl ⟨rfl, trivial⟩ rfl (id_lt rfl) ?_
              rintro g σ' n' ⟨rfl, rfl, rfl⟩
              exact ⟨_, _, end_ _ _ (o6.must _) (by omega) f1 (by simp), rfl, rfl, ⟨rfl, trivial⟩⟩
          · refine GOJ (take_no o4 hby) id rfl rfl ⟨rfl, trivial⟩ rfl (id_lt rfl) ?_
            rintro g σ' n' ⟨rfl, rfl, rfl⟩
            refine JK.subBlk 3 [gi (8 + (j : Int)), gi 0, .sl 3 [], gi 0, .sl 1 [], .v (.pointer none), .v (.pointer none)] rfl (sv7 Sub.rfl Sub.rfl (Sub.nil 1)) ?_
            refine JK.freezeB 3 rfl rfl ?_
            refine V ?_
            have f1 := hfin (.mk (8 + j) 0 [] 0 [] .nil .nil) r4 (fun _ => rfl) (fun h4 => by
              have h5 : takesP (bS [98, 121]) r4.l = false := by rw [← rsee_good o4.toks, ← o4.good h4]; exact hby
              rw [byP, if_neg (by rw [h5]; exact Bool.false_ne_true)]
              exact ⟨rfl, o4.good h4⟩)
            exact ⟨_, _, end_ _ _ o4 (by omega) f1 (by simp), rfl, rfl, ⟨rfl, trivial⟩⟩
        | mk c nn mm sp ns ql qr =>
          refine VM 4 ?_
          show JK _ _ _ _
          refine JK.subBlk 3 [gi (8 + (j : Int)), gi 0, .sl 3 [], gi 0, .v (.slice none 0 0), .r [gi c, gi nn, .sl 3 (mm.map mt), gi sp, .sl 1 (ns.map fun s => [gs s]), qG ql, qG qr], .v (.pointer none)] rfl (sv7 (Sub.eq hwj) (Sub.nil 3) Sub.rfl) ?_
          refine V ?_
          refine GOH (rmust_hf hq.ok (bS [41])) id rfl rfl ⟨rfl, trivial⟩ rfl (id_lt rfl) ?_
          rintro g σ' n' ⟨rfl, rfl, rfl⟩
          rw [hr4]
          rcases tf (rsee (bS [98, 121]) r4) with hby | hby
          · refine GOJ (take_yes o4 hby) id rfl rfl ⟨rfl, trivial⟩ rfl (id_lt rfl) ?_
            rintro g σ' n' ⟨rfl, rfl, rfl⟩
            have o4t := o4.tl (see_k hby)
            have ho4 : r4.ok = true := by
              rcases tf r4.ok with h | h
              · exact h
              · rw [rsee_bad h] at hby; cases hby
            have h4t : rtail r4 = goodR r4.l.tail := by
              rw [rtail]
              have := o4.good ho4
              rw [this]
              rfl
            have ht4 : takesP (bS [98, 121]) r4.l = true := by rw [← rsee_good o4.toks, ← o4.good ho4]; exact hby
            rw [h4t] at o4t ⊢
            generalize hr5 : rmust (bS [40]) (goodR r4.l.tail) = r5
            have o5 : RdOk r5 := by rw [← hr5]; exact o4t.must _
            have a5 := rmust_len (bS [40]) (goodR r4.l.tail)
            rw [hr5] at a5
            replace a5 : r5.l.length ≤ r4.l.tail.length := a5
            rw [List.length_tail] at a5
            refine V ?_
            refine GOH (rmust_hf o4t (bS [40])) id rfl rfl ⟨rfl, trivial⟩ rfl (id_lt rfl) ?_
            rintro g σ' n' ⟨rfl, rfl, rfl⟩
            rw [hr5]
            show JK _ _ _ _
            generalize hN : namesL (r5.l.length + 1) [] r5.l = N
            refine JK.ownNilB 3 4 9 1 rfl rfl ?_
            refine JK.loopE (α := List ByteArray × Rd × Nat) (β := List ByteArray × Rd) (fun x => ⟨[(0, .p 0 0), (11, .p 3 0)], [(0, .blk 49 [tks (x.2.1).l, gi (x.2.1).e, gi (x.2.1).p]), (3, .blk 68 [gi (8 + (j : Int)), gi 0, .sl 3 [], gi 0, .o 4, .r [gi c, gi nn, .sl 3 (mm.map mt), gi sp, .sl 1 (ns.map fun s => [gs s]), qG ql, qG qr], .v (.pointer none)]), (4, .row 9 1 ((x.1).map fun s => [gs s]))], 5⟩)
              (fun x => RdOk x.2.1 ∧ x.2.1.l.length ≤ r5.l.length ∧ x.1.length ≤ 8 ∧ (r5.ok = true → x.2.1.ok = true ∧ x.2.1.l.length < x.2.2 ∧ namesL x.2.2 x.1 x.2.1.l = N) ∧ (r5.ok = false → x.2.1 = r5)) (fun x => x.2.1.l.length)
              (fun y => ⟨[(0, .p 0 0), (11, .p 3 0)], [(0, .blk 49 [tks (y.2).l, gi (y.2).e, gi (y.2).p]), (3, .blk 68 [gi (8 + (j : Int)), gi 0, .sl 3 [], gi 0, .o 4, .r [gi c, gi nn, .sl 3 (mm.map mt), gi sp, .sl 1 (ns.map fun s => [gs s]), qG ql, qG qr], .v (.pointer none)]), (4, .row 9 1 ((y.1).map fun s => [gs s]))], 5⟩) (fun y => RdOk y.2 ∧ y.2.l.length ≤ r5.l.length ∧ (r5.ok = true → Agr N y.1 y.2) ∧ (r5.ok = false → y.2 = r5)) ([], r5, r5.l.length + 1) id ?_ ?_ ?_ ?_
            · exact ⟨⟨rfl, rfl, trivial⟩, ⟨rfl, rfl, rfl, trivial⟩, rfl⟩
            · exact ⟨o5, Nat.le_refl _, Nat.zero_le _, fun h => ⟨h, Nat.lt_succ_self _, hN⟩, fun _ => rfl⟩
            · rintro ⟨acc, r', f'⟩ ⟨oR, hlR, hac, hgR, hbR⟩
              replace oR : RdOk r' := oR
              replace hlR : r'.l.length ≤ r5.l.length := hlR
              replace hac : acc.length ≤ 8 := hac
              replace hgR : r5.ok = true → r'.ok = true ∧ r'.l.length < f' ∧ namesL f' acc r'.l = N := hgR
              replace hbR : r5.ok = false → r' = r5 := hbR
              refine V ?_
              rcases tf r'.ok with ho' | ho'
              · have h5o : r5.ok = true := by
                  rcases tf r5.ok with h | h
                  · exact h
                  · rw [hbR h] at ho'; rw [ho'] at h; cases h
                obtain ⟨_, g2, g3⟩ := hgR h5o
                obtain ⟨f', rfl⟩ : ∃ z, f' = z + 1 := ⟨f' - 1, by omega⟩
                have hrd := names_round oR.toks hac f'
                rw [← oR.good ho', g3] at hrd
                refine GOJ (rok_b ho') id rfl rfl ⟨rfl, trivial⟩ rfl (id_lt rfl) ?_
                rintro g σ' n' ⟨rfl, rfl, rfl⟩
                have o1 : RdOk (rlim acc.length r') := oR.lim _
                have hl1 := rlim_len acc.length r'
                refine VM 14 ?_
                refine JK.cut (α := Unit) (fun _ => ⟨[(0, .p 0 0), (11, .p 3 0)], [(0, .blk 49 [tks (rlim acc.length r').l, gi (rlim acc.length r').e, gi (rlim acc.length r').p]), (3, .blk 68 [gi (8 + (j : Int)), gi 0, .sl 3 [], gi 0, .o 4, .r [gi c, gi nn, .sl 3 (mm.map mt), gi sp, .sl 1 (ns.map fun s => [gs s]), qG ql, qG qr], .v (.pointer none)]), (4, .row 9 1 ((acc).map fun s => [gs s]))], 5⟩) (fun _ => True) ?_ ?_
                · refine V ?_
                  by_cases ha : acc.length = 8
                  · have c8 : (((acc.map fun s => [gs s]).length : Int) == 8) = true := by simp; omega
                    refine p1 ?_ c8
                    refine GOH (rfails_hf _ oR 4) id rfl rfl ⟨rfl, trivial⟩ rfl (id_lt rfl) ?_
                    rintro g σ' n' ⟨rfl, rfl, rfl⟩
                    exact ⟨(), id, ⟨⟨rfl, rfl, trivial⟩, ⟨by rw [rlim, if_pos ha]; rfl, rfl, rfl, trivial⟩, rfl⟩, trivial⟩
                  · have c8 : (((acc.map fun s => [gs s]).length : Int) == 8) = false := by simp; omega
                    refine p2 ?_ c8
                    exact ⟨(), id, ⟨⟨rfl, rfl, trivial⟩, ⟨by rw [rlim, if_neg ha]; rfl, rfl, rfl, trivial⟩, rfl⟩, trivial⟩
                rintro _ _
                have hN1 : rnm acc r' = rname (rlim acc.length r') := rfl
                rw [hN1] at hrd
                have hnh := rname_hf o1
                have o2' := o1.name
                have hl2 := rname_len (rlim acc.length r')
                generalize (rname (rlim acc.length r')).1 = nm at hrd hnh
                generalize (rname (rlim acc.length r')).2 = r2' at hrd hnh o2' hl2
                refine V ?_
                show JK _ _ _ _
                refine JK.drawJ [0, 3, 4] ⟨[(0, .p 0 0), (11, .p 3 0)], [(0, .blk 49 [tks (r2').l, gi (r2').e, gi (r2').p]), (3, .blk 68 [gi (8 + (j : Int)), gi 0, .sl 3 [], gi 0, .o 4, .r [gi c, gi nn, .sl 3 (mm.map mt), gi sp, .sl 1 (ns.map fun s => [gs s]), qG ql, qG qr], .v (.pointer none)]), (4, .row 9 1 ((acc ++ [nm]).map fun s => [gs s]))], 5⟩ pg_ok ?_ (fun hk => ?_)
                · refine V ?_
                  rcases tf (rsee (bS [44]) r2') with hcm | hcm
                  · have h2o : r2'.ok = true := by
                      rcases tf r2'.ok with h | h
                      · exact h
                      · rw [rsee_bad h] at hcm; cases hcm
                    rw [if_pos h2o] at hrd
                    obtain ⟨l', z1, z2, z3, z4, z5⟩ := hrd
                    have hct : takesP (bS [44]) l' = true := by rw [← rsee_good z2, ← z1]; exact hcm
                    rw [if_pos hct] at z5
                    have hz : l'.tail.length = l'.length - 1 := by simp
                    have hlz : r2'.l.length = l'.length := by rw [z1]; rfl
                    refine GOH (take_yes o2' hcm) id rfl rfl ⟨rfl, trivial⟩ rfl (id_lt rfl) ?_
                    rintro g σ' n' ⟨rfl, rfl, rfl⟩
                    refine ⟨(acc ++ [nm], rtail r2', f'), id, ⟨⟨rfl, rfl, trivial⟩, ⟨rfl, rfl, rfl, trivial⟩, rfl⟩, ⟨o2'.tl (see_k hcm), by show (rtail r2').l.length ≤ _; rw [rtail_len]; omega, by simp; omega, fun _ => ⟨h2o, by show (rtail r2').l.length < f'; rw [rtail_len]; omega, ?_⟩, fun h => absurd h5o (by rw [h]; exact Bool.false_ne_true)⟩, by show (rtail r2').l.length < r'.l.length; rw [rtail_len]; omega⟩
                    rw [z5, z1]
                    rfl
                  · refine GOH (take_no o2' hcm) id rfl rfl ⟨rfl, trivial⟩ rfl (id_lt rfl) ?_
                    rintro g σ' n' ⟨rfl, rfl, rfl⟩
                    refine ⟨(acc ++ [nm], r2'), id, ⟨⟨rfl, rfl, trivial⟩, ⟨rfl, rfl, rfl, trivial⟩, rfl⟩, ⟨o2', by show r2'.l.length ≤ _; omega, fun _ => ?_, fun h => absurd h5o (by rw [h]; exact Bool.false_ne_true)⟩⟩
                    show Agr N (acc ++ [nm]) r2'
                    by_cases h2o : r2'.ok = true
                    · rw [if_pos h2o] at hrd
                      obtain ⟨l', z1, z2, z3, z4, z5⟩ := hrd
                      have hct : takesP (bS [44]) l' = false := by rw [← rsee_good z2, ← z1]; exact hcm
                      rw [if_neg (by rw [hct]; exact Bool.false_ne_true)] at z5
                      rw [z5]
                      exact ⟨rfl, z1⟩
                    · rw [if_neg h2o] at hrd
                      rw [hrd]
                      exact ⟨rfl, rfl, by simpa using h2o⟩
                · refine RA.run (cx := ⟨pg, _, _, _, _, _, _, _⟩) pg_ok (by kernel_rfl) (by intro _ _ h; exact h) (tk [0, 1, 2, 3, 5]) (e := false) (by kernel_rfl) ?_
                  refine RA.both 4 6 (eqB_eq (by kernel_rfl)) (Stp.read 4 pg_ok rfl rfl ?_) (Stp.hf 6 hnh id rfl rfl rfl ⟨rfl, trivial⟩ rfl (id_lt rfl) ?_)
                  · refine RGOH 6 false (al [7, 8] ++ tk [9, 10] ++ al [11]) hnh id rfl rfl rfl ⟨rfl, trivial⟩ rfl (id_lt rfl) (by kernel_rfl) ?_
                    rintro g σ' n' ⟨rfl, rfl, rfl⟩
                    refine ⟨by simp; omega, ?_⟩
                    exact RA.endJ (fun i => bif Nat.beq i 4 then 6 else i) (by kernel_rfl) hk ⟨⟨rfl, rfl, trivial⟩, ⟨rfl, rfl, congrArg (fun x => some (Res.row 9 1 x)) (List.map_append (l₁ := acc) (l₂ := [nm])).symm, trivial⟩, rfl⟩
                  · rintro g σ' n' ⟨rfl, rfl, rfl⟩
                    refine RA.both 4 7 (eqB_eq (by kernel_rfl)) (Stp.read 4 pg_ok rfl rfl ?_) (Stp.mem 7 pg_ok rfl rfl rfl ?_)
                    · refine RA.run (cx := ⟨pg, _, _, _, _, _, _, _⟩) pg_ok (by kernel_rfl) (by intro _ _ h; exact h) (al [7, 8] ++ tk [9, 10] ++ al [11]) (e := false) (by kernel_rfl) ?_
                      refine ⟨by simp; omega, ?_⟩
                      exact RA.endJ (fun i => bif Nat.beq i 4 then 6 else i) (by kernel_rfl) hk ⟨⟨rfl, rfl, trivial⟩, ⟨rfl, rfl, congrArg (fun x => some (Res.row 9 1 x)) (List.map_append (l₁ := acc) (l₂ := [nm])).symm, trivial⟩, rfl⟩
                    · refine RA.run (cx := ⟨pg, _, _, _, _, _, _, _⟩) pg_ok (by kernel_rfl) (by intro _ _ h; exact h) (al [4, 8] ++ tk [9, 10] ++ al [11]) (e := false) (by kernel_rfl) ?_
                      refine ⟨by simp; omega, ?_⟩
                      exact RA.endJ (fun i => bif Nat.beq i 4 then 6 else i) (by kernel_rfl) hk ⟨⟨rfl, rfl, trivial⟩, ⟨rfl, rfl, congrArg (fun x => some (Res.row 9 1 x)) (List.map_append (l₁ := acc) (l₂ := [nm])).symm, trivial⟩, rfl⟩
              · refine GOH (rok_b ho') id rfl rfl ⟨rfl, trivial⟩ rfl (id_lt rfl) ?_
                rintro g σ' n' ⟨rfl, rfl, rfl⟩
                exact ⟨(acc, r'), id, ⟨⟨rfl, rfl, trivial⟩, ⟨rfl, rfl, rfl, trivial⟩, rfl⟩, ⟨oR, hlR, fun h => (by rw [(hgR h).1] at ho'; cases ho'), hbR⟩⟩
            · rintro ⟨ns2, r6⟩ ⟨o6, hl6, hg6, hb6⟩
              replace o6 : RdOk r6 := o6
              replace hl6 : r6.l.length ≤ r5.l.length := hl6
              replace hg6 : r5.ok = true → Agr N ns2 r6 := hg6
              replace hb6 : r5.ok = false → r6 = r5 := hb6
              rw [← hN] at hg6
              have fb := by_fin (k := j) (q := (.mk c nn mm sp ns ql qr)) ht4 o4t.toks hr5.symm o6 hg6 hb6 rfl
              have f1 := hfin (.mk (8 + j) 0 [] 0 ns2 (.mk c nn mm sp ns ql qr) .nil) (rmust (bS [41]) r6) (fun h => by rw [ho4] at h; cases h) (fun _ => fb)
              have a7 := rmust_len (bS [41]) r6
              refine FRZ 4 rfl ?_
              show JK _ _ _ _
              refine JK.freezeB 3 rfl rfl ?_
              refine V ?_
              refine GOH (rmust_hf o6 (bS [41])) id rfl rfl ⟨rfl, trivial⟩ rfl (id_lt rfl) ?_
              rintro g σ' n' ⟨rfl, rfl, rfl⟩
              exact ⟨_, _, end_ _ _ (o6.must _) (by omega) f1 (by simp), rfl, rfl, ⟨rfl, trivial⟩⟩
          · refine GOJ (take_no o4 hby) id rfl rfl ⟨rfl, trivial⟩ rfl (id_lt rfl) ?_
            rintro g σ' n' ⟨rfl, rfl, rfl⟩
            refine JK.subBlk 3 [gi (8 + (j : Int)), gi 0, .sl 3 [], gi 0, .sl 1 [], .r [gi c, gi nn, .sl 3 (mm.map mt), gi sp, .sl 1 (ns.map fun s => [gs s]), qG ql, qG qr], .v (.pointer none)] rfl (sv7 Sub.rfl Sub.rfl (Sub.nil 1)) ?_
            refine JK.freezeB 3 rfl rfl ?_
            refine V ?_
            have f1 := hfin (.mk (8 + j) 0 [] 0 [] (.mk c nn mm sp ns ql qr) .nil) r4 (fun _ => rfl) (fun h4 => by
              have h5 : takesP (bS [98, 121]) r4.l = false := by rw [← rsee_good o4.toks, ← o4.good h4]; exact hby
              rw [byP, if_neg (by rw [h5]; exact Bool.false_ne_true)]
              exact ⟨rfl, o4.good h4⟩)
            exact ⟨_, _, end_ _ _ o4 (by omega) f1 (by simp), rfl, rfl, ⟨rfl, trivial⟩⟩
      · refine GOH (take_no hr hs) id rfl rfl ⟨rfl, trivial⟩ rfl (id_lt rfl) ?_
        rintro g σ' n' ⟨rfl, rfl, rfl⟩
        refine ⟨j + 1, id, ⟨⟨rfl, rfl, rfl, rfl, succ_gi (by omega), trivial⟩, ⟨rfl, trivial⟩, rfl⟩, ⟨hjl, fun i hi h => ?_⟩, by show 4 - (j + 1) < 4 - j; omega⟩
        rcases Nat.lt_succ_iff_lt_or_eq.1 h with h' | h'
        · exact hno i hi h'
        · subst h'
          rw [← hme _ hne]
          exact hs
    · refine p2 ?_ (decide_eq_false (by omega))
      refine ⟨(), id, ⟨⟨rfl, rfl, trivial⟩, ⟨rfl, trivial⟩, rfl⟩, ?_⟩
      show (allsL.findIdx? fun s => isP s (t0 :: l0)) = none
      rw [List.findIdx?_eq_none_iff]
      intro s hs
      obtain ⟨i, hi, rfl⟩ := List.getElem_of_mem hs
      exact hno i hi (by have : i < 4 := hi; omega)
  rintro _ hfo
  replace hfo : (allsL.findIdx? fun s => isP s (t0 :: l0)) = none := hfo
  simp only [hfo] at hoe
  refine V ?_
  refine GOH (rfails_hf _ hr 3) id rfl rfl ⟨rfl, trivial⟩ rfl (id_lt rfl) ?_
  rintro g σ' n' ⟨rfl, rfl, rfl⟩
  have hno : (rfail 3 ⟨t0 :: l0, re, rp⟩).ok = false := by rw [rfail, if_pos ho]; rfl
  refine ⟨.nil, _, relq ho (hr.fails (by decide)) (by rw [rfail_l]; exact Nat.le_refl _) (fun h => by rw [hno] at h; cases h) ?_ (fun h => by rw [hno] at h; cases h), rfl, rfl, ⟨rfl, trivial⟩⟩
  rw [hoe]
  have := Agr.fail (α := Qn) (e := 3) (by decide) (t0 :: l0) .nil
  rwa [show goodR (t0 :: l0) = (⟨t0 :: l0, re, rp⟩ : Rd) from hg.symm] at this
theorem one_all : ∀ f n, n ≤ 9 → OneOk f n := by
  intro f
  induction f using Nat.strongRecOn with
  | _ f ih =>
    intro n hn
    cases f with
    | zero =>
      intro r hr hl hf
      obtain ⟨t, l, e⟩ := tks_cons hr
      rw [e] at hf
      simp at hf
    | succ f => exact one_step f n (by omega) fun f' hf' n' hn' => ih f' hf' n' hn'
theorem rsum_hf (r : Rd) (hr : RdOk r) (hl : r.l.length ≤ 300) : Hf pg 16 1 [.p 0 0, gi 0] (rs r) (fun g σ m => ∃ q r', RelQ (fun l => sumP (3 * r.l.length + 3) 0 l) r q r' ∧ g = qG q ∧ σ = rs r' ∧ m = 1) :=
  sum_of (n := 0) (fun f' _ => one_all f' 0 (Nat.zero_le _)) r hr hl (Nat.le_refl _)
end Go.Proofs.YtihakhdinkkdmaaGreatDoor
/-
  Plain laws: questions: what is printed is read as just that question. No program is in sight.
-/
namespace Go.PL
open Go Go.GK

theorem bS_size (l : List UInt8) : (bS l).size = l.length := by show l.toArray.size = _; simp
theorem isP_yes {t : Tok} {s : ByteArray} (r : List Tok) (h : t.text = s) (hk : t.kind ≠ 3) : isP s (t :: r) = true := by
  rw [isP, Bool.and_eq_true, decide_eq_true_iff, sEq_iff]
  exact ⟨h, hk⟩
theorem isP_no {t : Tok} {s : ByteArray} (r : List Tok) (h : t.text ≠ s) : isP s (t :: r) = false := by
  rw [isP, Bool.and_eq_false_iff]
  left
  rw [← Bool.not_eq_true, sEq_iff]
  exact h
theorem takesP_yes {t : Tok} {s : ByteArray} (r : List Tok) (h : t.text = s) (hk : t.kind ≠ 3) (hk5 : t.kind ≠ 5) : takesP s (t :: r) = true := by
  rw [takesP, isP_yes r h hk, Bool.true_and, decide_eq_true_iff]
  exact hk5
theorem takesP_no {t : Tok} {s : ByteArray} (r : List Tok) (h : t.text ≠ s) : takesP s (t :: r) = false := by
  rw [takesP, isP_no r h, Bool.false_and]
theorem mustP_yes {t : Tok} {s : ByteArray} (r : List Tok) (h : t.text = s) (hk : t.kind ≠ 3) (hk5 : t.kind ≠ 5) : mustP s (t :: r) = .ok ((), r) := by
  rw [mustP, if_pos (takesP_yes r h hk hk5)]
  rfl
theorem st_mk {t : Tok} {x : Lx} (h : t.st = x.st) : t.kind = x.kind ∧ t.text = bS x.text := ⟨congrArg Prod.fst h, congrArg Prod.snd h⟩
def isT (t : Tok) (s : List UInt8) : Prop := t.text = bS s ∧ t.kind ≠ 3 ∧ t.kind ≠ 5
theorem isT_mL {t : Tok} {s : List UInt8} (h : t.st = (mL s).st) : isT t s := ⟨(st_mk h).2, by rw [(st_mk h).1]; exact (by decide : (4 : Int) ≠ 3), by rw [(st_mk h).1]; exact (by decide : (4 : Int) ≠ 5)⟩
theorem isT_wL {t : Tok} {s : List UInt8} (h : t.st = (wL s).st) : isT t s := ⟨(st_mk h).2, by rw [(st_mk h).1]; exact (by decide : (1 : Int) ≠ 3), by rw [(st_mk h).1]; exact (by decide : (1 : Int) ≠ 5)⟩
theorem isT.must {t : Tok} {s : List UInt8} (h : isT t s) (r : List Tok) : mustP (bS s) (t :: r) = .ok ((), r) := mustP_yes r h.1 h.2.1 h.2.2
theorem isT.takes {t : Tok} {s : List UInt8} (h : isT t s) (r : List Tok) : takesP (bS s) (t :: r) = true := takesP_yes r h.1 h.2.1 h.2.2
theorem isT.not {t : Tok} {s w : List UInt8} (h : isT t s) (r : List Tok) (hne : s ≠ w) : takesP (bS w) (t :: r) = false := takesP_no r (by rw [h.1]; exact fun e => hne (bS_inj e))
theorem isT.noti {t : Tok} {s w : List UInt8} (h : isT t s) (r : List Tok) (hne : s ≠ w) : isP (bS w) (t :: r) = false := isP_no r (by rw [h.1]; exact fun e => hne (bS_inj e))
theorem find_yes {L : List ByteArray} (hL : ∀ i j, i < j → j < L.length → L.getD i ⟨#[]⟩ ≠ L.getD j ⟨#[]⟩) {t : Tok} (r : List Tok) {k : Nat} (hk : k < L.length) (h : t.text = L.getD k ⟨#[]⟩) (h3 : t.kind ≠ 3) :
    (L.findIdx? fun s => isP s (t :: r)) = some k := by
  rw [List.findIdx?_eq_some_iff_getElem]
  have e : ∀ i (hi : i < L.length), L.getD i ⟨#[]⟩ = L[i] := fun i hi => by rw [List.getD_eq_getElem?_getD, List.getElem?_eq_getElem hi]; rfl
  refine ⟨hk, isP_yes r (by rw [h, e k hk]) h3, fun j hj => ?_⟩
  rw [isP_no r (by rw [h, ← e j (by omega)]; exact (hL j k hj hk).symm)]
  exact Bool.false_ne_true
theorem find_no {L : List ByteArray} {t : Tok} (r : List Tok) (h : ∀ s ∈ L, t.text ≠ s) : (L.findIdx? fun s => isP s (t :: r)) = none := by
  rw [List.findIdx?_eq_none_iff]
  exact fun s hs => isP_no r (h s hs)
theorem ops_ne : ∀ i j, i < j → j < opsL.length → opsL.getD i ⟨#[]⟩ ≠ opsL.getD j ⟨#[]⟩ := by
  intro i j h1 h2
  have : j < 4 := h2
  have hh : ∀ j : Fin 4, ∀ i : Fin 4, i.val < j.val → opsL.getD i.val ⟨#[]⟩ ≠ opsL.getD j.val ⟨#[]⟩ := by decide
  exact hh ⟨j, by omega⟩ ⟨i, by omega⟩ h1
theorem overs_ne : ∀ i j, i < j → j < oversL.length → oversL.getD i ⟨#[]⟩ ≠ oversL.getD j ⟨#[]⟩ := by
  intro i j h1 h2
  have : j < 5 := h2
  have hh : ∀ j : Fin 5, ∀ i : Fin 5, i.val < j.val → oversL.getD i.val ⟨#[]⟩ ≠ oversL.getD j.val ⟨#[]⟩ := by decide
  exact hh ⟨j, by omega⟩ ⟨i, by omega⟩ h1
theorem alls_ne : ∀ i j, i < j → j < allsL.length → allsL.getD i ⟨#[]⟩ ≠ allsL.getD j ⟨#[]⟩ := by
  intro i j h1 h2
  have : j < 4 := h2
  have hh : ∀ j : Fin 4, ∀ i : Fin 4, i.val < j.val → allsL.getD i.val ⟨#[]⟩ ≠ allsL.getD j.val ⟨#[]⟩ := by decide
  exact hh ⟨j, by omega⟩ ⟨i, by omega⟩ h1
theorem alls_overs {k : Nat} (hk : k < 4) : ∀ s ∈ oversL, allsL.getD k ⟨#[]⟩ ≠ s := by
  have hh : ∀ k : Fin 4, ∀ s ∈ oversL, allsL.getD k.val ⟨#[]⟩ ≠ s := by decide
  exact hh ⟨k, hk⟩
theorem overs_mark {k : Nat} (hk : k < 5) : ∀ b : UInt8, bL (oversL.getD k ⟨#[]⟩) ≠ [b] := by
  intro b
  have hh : ∀ k : Fin 5, (bL (oversL.getD k.val ⟨#[]⟩)).length ≠ 1 := by decide
  exact fun e => hh ⟨k, hk⟩ (by rw [e]; rfl)
theorem alls_mark {k : Nat} (hk : k < 4) : ∀ b : UInt8, bL (allsL.getD k ⟨#[]⟩) ≠ [b] := by
  intro b
  have hh : ∀ k : Fin 4, (bL (allsL.getD k.val ⟨#[]⟩)).length ≠ 1 := by decide
  exact fun e => hh ⟨k, hk⟩ (by rw [e]; rfl)

theorem itoa_dig {n : Int} (h : 0 ≤ n) : (∀ b ∈ Lib.itoa n, digB b = true) ∧ Lib.itoa n ≠ [] := by
  rw [Lib.itoa, if_neg (by omega)]
  generalize n.toNat = u
  induction u using Nat.strongRecOn with
  | _ u ih =>
    have hd : ∀ d, d < 10 → digB (UInt8.ofNat (48 + d)) = true := by
      intro d hd
      have hh : ∀ d : Fin 10, digB (UInt8.ofNat (48 + d.val)) = true := by decide
      exact hh ⟨d, hd⟩
    rw [Lib.decDigits]
    by_cases h : u < 10
    · rw [dif_pos h]
      exact ⟨fun b hb => by rw [List.mem_singleton.1 hb]; exact hd u h, by simp⟩
    · rw [dif_neg h]
      refine ⟨fun b hb => ?_, by simp⟩
      rcases List.mem_append.1 hb with hb | hb
      · exact (ih (u / 10) (by omega)).1 b hb
      · rw [List.mem_singleton.1 hb]
        exact hd _ (Nat.mod_lt _ (by decide))
theorem numT_itoa {n : Int} (h : 0 ≤ n) : numT (bS (Lib.itoa n)) = n := by
  unfold numT
  rw [show (bS (Lib.itoa n)).data.toList = Lib.itoa n from bL_bS _, Lib.itoa, if_neg (by omega)]
  have : ∀ u : Nat, (Lib.decDigits u).foldl (fun (n : Int) c => n * 10 + ((c.toNat : Int) - 48)) 0 = u := by
    intro u
    induction u using Nat.strongRecOn with
    | _ u ih =>
      have hd : ∀ d, d < 10 → ((UInt8.ofNat (48 + d)).toNat : Int) - 48 = d := by
        intro d hd
        have hh : ∀ d : Fin 10, ((UInt8.ofNat (48 + d.val)).toNat : Int) - 48 = d.val := by decide
        exact hh ⟨d, hd⟩
      rw [Lib.decDigits]
      by_cases h : u < 10
      · rw [dif_pos h, List.foldl_cons, List.foldl_nil, hd u h]
        omega
      · rw [dif_neg h, List.foldl_append, ih (u / 10) (by omega), List.foldl_cons, List.foldl_nil, hd _ (Nat.mod_lt _ (by decide))]
        omega
  rw [this]
  omega
theorem numberP_yes {t : Tok} (r : List Tok) {n most : Int} (h0 : 0 ≤ n) (h1 : n ≤ most) (h : t.st = (dL (Lib.itoa n)).st) : numberP most (t :: r) = .ok (n, r) := by
  obtain ⟨hk, ht⟩ := st_mk h
  have hk : t.kind = 2 := hk
  have ht : t.text = bS (Lib.itoa n) := ht
  have hn : numT (hdT (t :: r)).text = n := by
    show numT t.text = n
    rw [ht, numT_itoa h0]
  rw [numberP, hn, if_neg (by rintro ⟨_, h⟩; omega)]
  have : anyP 2 (t :: r) = .ok (t.text, r) := if_pos hk
  rw [this]
  show Except.ok (numT t.text, r) = _
  rw [show numT t.text = n from hn]
theorem nameP_yes {t : Tok} (r : List Tok) {s : ByteArray} (hs : nameF s = true) (h : t.st = (wL (bL s)).st) : nameP (t :: r) = .ok (s, r) := by
  obtain ⟨hk, ht⟩ := st_mk h
  have hk : t.kind = 1 := hk
  have ht : t.text = s := by rw [ht]; exact bS_bL s
  have h1 : nameP (t :: r) = anyP 1 (t :: r) := if_neg (by rintro ⟨_, h⟩; rw [show (hdT (t :: r)).text = s from ht, hs] at h; cases h)
  have h2 : anyP 1 (t :: r) = .ok (t.text, r) := if_pos hk
  rw [h1, h2, ht]

theorem matcherP_yes {m : Mt} (hm : MOk m) (T rest : List Tok) (hT : T.map Tok.st = (mtX m).map Lx.st) : matcherP (T ++ rest) = .ok (m, rest) := by
  obtain ⟨t1, T, rfl, h1, hT⟩ := List.map_eq_cons_iff.1 hT
  obtain ⟨t2, T, rfl, h2, hT⟩ := List.map_eq_cons_iff.1 hT
  obtain ⟨t3, T, rfl, h3, hT⟩ := List.map_eq_cons_iff.1 hT
  rw [List.map_nil, List.map_eq_nil_iff] at hT
  subst hT
  obtain ⟨g1, g2, g3, g4⟩ := hm
  have hk : m.op.toNat < opsL.length := by rw [opsL_four]; omega
  have i2 := isT_mL h2
  have e2 : t2.text = opsL.getD m.op.toNat ⟨#[]⟩ := by rw [i2.1, bS_bL]
  rw [show [t1, t2, t3] ++ rest = t1 :: t2 :: t3 :: rest from rfl, matcherP, nameP_yes _ g1 h1]
  simp only
  rw [find_yes ops_ne _ hk e2 i2.2.1]
  simp only
  rw [mustP_yes _ e2 i2.2.1 i2.2.2]
  simp only
  obtain ⟨k3, x3⟩ := st_mk h3
  have k3 : t3.kind = 3 := k3
  have x3 : t3.text = bS (34 :: bL m.value ++ [34]) := x3
  have h4 : anyP 3 (t3 :: rest) = .ok (t3.text, rest) := if_pos k3
  rw [h4]
  simp only
  have h5 : t3.text.extract 1 (t3.text.size - 1) = m.value := by
    rw [x3, bS_size]
    apply ByteArray.ext
    apply Array.ext'
    rw [ByteArray.data_extract, Array.toList_extract]
    show List.extract (34 :: bL m.value ++ [34]) _ _ = _
    simp [bL]
  rw [h5, if_pos g2]
  obtain ⟨n, o, v⟩ := m
  have : ((o.toNat : Nat) : Int) = o := by simp only at g3; omega
  simp only [this]
theorem sepX_flat (y : Lx) (x : List Lx) (r : List (List Lx)) : sepX y (x :: r) = x ++ r.flatMap (y :: ·) := by
  induction r generalizing x with
  | nil => simp [sepX]
  | cons b r ih =>
    have : sepX y (x :: b :: r) = x ++ y :: sepX y (b :: r) := rfl
    rw [this, ih]
    simp
theorem app_map {T : List Tok} {a b : List Lx} (h : T.map Tok.st = (a ++ b).map Lx.st) : ∃ T1 T2, T = T1 ++ T2 ∧ T1.map Tok.st = a.map Lx.st ∧ T2.map Tok.st = b.map Lx.st := by
  rw [List.map_append] at h
  obtain ⟨T1, T2, h1, h2, h3⟩ := List.map_eq_append_iff.1 h
  exact ⟨T1, T2, h1, h2, h3⟩
theorem cons_map {T : List Tok} {a : Lx} {b : List Lx} (h : T.map Tok.st = (a :: b).map Lx.st) : ∃ t T2, T = t :: T2 ∧ t.st = a.st ∧ T2.map Tok.st = b.map Lx.st := by
  obtain ⟨t, T2, h1, h2, h3⟩ := List.map_eq_cons_iff.1 h
  exact ⟨t, T2, h1, h2, h3⟩
theorem nil_map {T : List Tok} (h : T.map Tok.st = ([] : List Lx).map Lx.st) : T = [] := List.map_eq_nil_iff.1 h
theorem len_map {T : List Tok} {X : List Lx} (h : T.map Tok.st = X.map Lx.st) : T.length = X.length := by
  have := congrArg List.length h
  simpa using this
theorem matchersL_more : ∀ (ms acc : List Mt) (f : Nat) (T rest : List Tok), (∀ m ∈ ms, MOk m) → acc ≠ [] → acc.length + ms.length ≤ 8 → ms.length < f → T.map Tok.st = ((ms.map mtX).flatMap (mL [44] :: ·) ++ [mL [125]]).map Lx.st →
    matchersL f acc (T ++ rest) = .ok (acc ++ ms, rest)
  | ms, acc, 0, _, _, _, _, _, hf, _ => by omega
  | [], acc, f + 1, T, rest, _, _, _, _, hT => by
    obtain ⟨t, T, rfl, h1, hT⟩ := cons_map hT
    cases nil_map hT
    rw [show [t] ++ rest = t :: rest from rfl, matchersL, if_pos ((isT_mL h1).takes rest), List.append_nil]
    rfl
  | m :: ms, acc, f + 1, T, rest, hm, ha, hl, hf, hT => by
    have ha0 : acc.length ≠ 0 := by cases acc with | nil => exact absurd rfl ha | cons a b => simp
    rw [List.map_cons, List.flatMap_cons, List.append_assoc] at hT
    obtain ⟨t, T, rfl, h1, hT⟩ := cons_map hT
    obtain ⟨T1, T2, rfl, hT1, hT2⟩ := app_map hT
    rw [show t :: (T1 ++ T2) ++ rest = t :: (T1 ++ T2 ++ rest) from rfl, matchersL, if_neg (by rw [(isT_mL h1).not _ (by decide)]; exact Bool.false_ne_true), if_neg ha0, (isT_mL h1).must]
    simp only [List.length_cons] at hl hf ⊢
    rw [if_neg (by omega), List.append_assoc, matcherP_yes (hm m List.mem_cons_self) T1 _ hT1]
    simp only
    rw [matchersL_more ms (acc ++ [m]) f T2 rest (fun x hx => hm x (List.mem_cons_of_mem _ hx)) (by simp) (by simp; omega) (by omega) hT2]
    simp
theorem flat_len : ∀ ms : List Mt, ms.length ≤ ((ms.map mtX).flatMap (mL [44] :: ·)).length
  | [] => Nat.le_refl _
  | a :: b => by
    have := flat_len b
    rw [List.map_cons, List.flatMap_cons, List.length_append, List.length_cons, List.length_cons]
    omega
theorem matchersP_yes {ms : List Mt} (hm : MsOk ms) (T rest : List Tok) (hT : T.map Tok.st = (msX ms).map Lx.st) : matchersP (T ++ rest) = .ok (ms, rest) := by
  obtain ⟨t, T, rfl, h1, hT⟩ := cons_map hT
  have hlen := len_map hT
  rw [show t :: T ++ rest = t :: (T ++ rest) from rfl, matchersP, (isT_mL h1).must]
  simp only
  cases ms with
  | nil =>
    obtain ⟨t2, T, rfl, h2, hT⟩ := cons_map hT
    cases nil_map hT
    rw [show [t2] ++ rest = t2 :: rest from rfl, matchersL, if_pos ((isT_mL h2).takes rest)]
    rfl
  | cons m ms =>
    rw [List.map_cons, sepX_flat, List.append_assoc] at hT hlen
    obtain ⟨T1, T2, rfl, hT1, hT2⟩ := app_map hT
    have hT1' := hT1
    obtain ⟨t1, T1', e, h2, _⟩ := cons_map hT1
    rw [matchersL]
    have hnt : takesP (bS [125]) (T1 ++ T2 ++ rest) = false := by
      subst e
      show takesP (bS [125]) (t1 :: _) = false
      refine takesP_no _ ?_
      obtain ⟨_, hx⟩ := st_mk h2
      rw [hx]
      intro e
      have hn := (hm.1 m List.mem_cons_self).1
      have e := bS_inj e
      have e : bL m.name = [125] := e
      have : m.name = bS [125] := by rw [← e, bS_bL]
      rw [this] at hn
      revert hn
      decide
    rw [if_neg (by rw [hnt]; exact Bool.false_ne_true)]
    rw [List.append_assoc]
    simp only [List.length_nil, if_true]
    rw [if_neg (by omega), matcherP_yes (hm.1 m List.mem_cons_self) T1 _ hT1']
    simp only
    have hf := flat_len ms
    have hh := hm.2
    simp only [List.length_cons] at hh
    show matchersL _ [m] (T2 ++ rest) = _
    rw [matchersL_more ms [m] _ T2 rest (fun x hx => hm.1 x (List.mem_cons_of_mem _ hx)) (by simp) (by simp; omega) (by
      have := len_map hT2
      simp only [List.length_append, List.length_cons] at this ⊢
      omega) hT2]
    rfl
theorem namesL_yes : ∀ (b acc : List ByteArray) (f : Nat) (T rest : List Tok), b ≠ [] → (∀ s ∈ b, nameF s = true) → acc.length + b.length ≤ 8 → b.length ≤ f → T.map Tok.st = (byX b).map Lx.st → takesP (bS [44]) rest = false →
    namesL f acc (T ++ rest) = .ok (acc ++ b, rest)
  | [], _, _, _, _, hb, _, _, _, _, _ => absurd rfl hb
  | s :: b, acc, 0, _, _, _, _, _, hf, _, _ => by simp at hf
  | [s], acc, f + 1, T, rest, _, hs, hl, _, hT, hr => by
    obtain ⟨t, T, rfl, h1, hT⟩ := cons_map hT
    cases nil_map hT
    simp only [List.length_cons, List.length_nil] at hl
    rw [show [t] ++ rest = t :: rest from rfl, namesL, if_neg (by omega), nameP_yes rest (hs s List.mem_cons_self) h1]
    simp only
    rw [if_neg (by rw [hr]; exact Bool.false_ne_true)]
  | s :: s2 :: b, acc, f + 1, T, rest, _, hs, hl, hf, hT, hr => by
    have : byX (s :: s2 :: b) = wL (bL s) :: ⟨0, [44], 4, 1⟩ :: byX (s2 :: b) := rfl
    rw [this] at hT
    obtain ⟨t, T, rfl, h1, hT⟩ := cons_map hT
    obtain ⟨t2, T, rfl, h2, hT⟩ := cons_map hT
    simp only [List.length_cons] at hl hf
    rw [show t :: t2 :: T ++ rest = t :: t2 :: (T ++ rest) from rfl, namesL, if_neg (by omega), nameP_yes _ (hs s List.mem_cons_self) h1]
    simp only
    have i2 : isT t2 [44] := isT_mL h2
    rw [if_pos (i2.takes _)]
    show namesL f (acc ++ [s]) (T ++ rest) = _
    rw [namesL_yes (s2 :: b) (acc ++ [s]) f T rest (by simp) (fun x hx => hs x (List.mem_cons_of_mem _ hx)) (by simp only [List.length_append, List.length_cons, List.length_nil]; omega) (by simp only [List.length_cons]; omega) hT hr]
    simp

def R2 (l : List Tok) : Prop := takesP (bS [98, 121]) l = false
def R1 (l : List Tok) : Prop := R2 l ∧ takesP (bS [42]) l = false ∧ takesP (bS [47]) l = false
def R0 (l : List Tok) : Prop := R1 l ∧ takesP (bS [43]) l = false ∧ takesP (bS [45]) l = false
theorem isT.r2 {t : Tok} {b : UInt8} (h : isT t [b]) (r : List Tok) : R2 (t :: r) := h.not r (by simp)
theorem isT.r1 {t : Tok} {b : UInt8} (h : isT t [b]) (r : List Tok) (h1 : b ≠ 42) (h2 : b ≠ 47) : R1 (t :: r) := ⟨h.r2 r, h.not r (by simpa using h1), h.not r (by simpa using h2)⟩
theorem isT.r0 {t : Tok} {b : UInt8} (h : isT t [b]) (r : List Tok) (h1 : b ≠ 42) (h2 : b ≠ 47) (h3 : b ≠ 43) (h4 : b ≠ 45) : R0 (t :: r) := ⟨h.r1 r h1 h2, h.not r (by simpa using h3), h.not r (by simpa using h4)⟩
def k1 : Qn → Nat
  | .nil => 0
  | .mk c _ _ _ _ l _ => if lvl c = 1 then k1 l + 1 else 0
def k0 : Qn → Nat
  | .nil => 0
  | .mk c _ _ _ _ l _ => if lvl c = 0 then k0 l + 1 else 0
def C1 (q : Qn) : Prop := ∀ f n T rest, 3 * (atX q 2).length ≤ f → n + dep q 2 ≤ 8 → T.map Tok.st = (atX q 2).map Lx.st → R2 rest → oneP f n (T ++ rest) = .ok (q, rest)
def C2 (q : Qn) : Prop := ∀ f n T rest, 3 * (atX q 1).length + 1 ≤ f → n + dep q 1 ≤ 8 → T.map Tok.st = (atX q 1).map Lx.st → R2 rest → productP f n (T ++ rest) = productL (f - 1 - k1 q) n q rest
def C3 (q : Qn) : Prop := ∀ f n T rest, 3 * (atX q 0).length + 2 ≤ f → n + dep q 0 ≤ 8 → T.map Tok.st = (atX q 0).map Lx.st → R1 rest → sumP f n (T ++ rest) = sumL (f - 1 - k0 q) n q rest
theorem productL_end {f n : Nat} {q : Qn} {l : List Tok} (hf : 1 ≤ f) (h : R1 l) : productL f n q l = .ok (q, l) := by
  cases f with
  | zero => omega
  | succ f => rw [productL, if_neg (by rw [h.2.1]; exact Bool.false_ne_true), if_neg (by rw [h.2.2]; exact Bool.false_ne_true)]
theorem sumL_end {f n : Nat} {q : Qn} {l : List Tok} (hf : 1 ≤ f) (h : R0 l) : sumL f n q l = .ok (q, l) := by
  cases f with
  | zero => omega
  | succ f => rw [sumL, if_neg (by rw [h.2.1]; exact Bool.false_ne_true), if_neg (by rw [h.2.2]; exact Bool.false_ne_true)]
theorem k_le {q : Qn} (hq : Wf q) : k1 q ≤ (atX q 1).length ∧ k0 q ≤ (atX q 0).length ∧ 1 ≤ (atX q 0).length := by
  induction hq with
  | num n h0 h1 => simp [k1, k0, lvl, atX_num]
  | pick m h => simp [k1, k0, lvl, atX_pick, msX]
  | over k hk m h sp h1 h2 =>
    have : lvl (3 + k) = 2 := by rw [lvl, if_neg (by omega), if_neg (by omega)]
    rw [atX_over k hk _ _ _ (by decide), atX_over k hk _ _ _ (by decide), k1, k0, this]
    simp
  | all k hk b hb hl q hq ih =>
    have : lvl (8 + k) = 2 := by rw [lvl, if_neg (by omega), if_neg (by omega)]
    rw [atX_all k hk _ _ _ (by decide), atX_all k hk _ _ _ (by decide), k1, k0, this]
    simp
  | neg q hq ih =>
    rw [atX_neg _ _ (by decide), atX_neg _ _ (by decide), k1, k0, show lvl 12 = 2 from rfl]
    simp
  | add k hk l r hl hr ih1 ih2 =>
    rw [atX_add k hk, atX_add k hk, k1, k0, lvl_add k hk]
    simp [ifP]
    omega
  | mul k hk l r hl hr ih1 ih2 =>
    rw [atX_mul k hk, atX_mul k hk, k1, k0, lvl_mul k hk]
    simp [ifP]
    omega
theorem par_map {T : List Tok} {x : List Lx} (h : T.map Tok.st = (parX x).map Lx.st) : ∃ a T1 b, T = a :: (T1 ++ [b]) ∧ isT a [40] ∧ isT b [41] ∧ T1.map Tok.st = x.map Lx.st := by
  obtain ⟨a, T, rfl, h1, hT⟩ := cons_map h
  obtain ⟨T1, T2, rfl, hT1, hT2⟩ := app_map hT
  obtain ⟨b, T3, rfl, h2, hT3⟩ := cons_map hT2
  cases nil_map hT3
  exact ⟨a, T1, b, rfl, isT_mL h1, isT_mL h2, hT1⟩
theorem C3.sum {q : Qn} (h : C3 q) (hq : Wf q) {f n : Nat} {T rest : List Tok} (hf : 3 * (atX q 0).length + 2 ≤ f) (hd : n + dep q 0 ≤ 8) (hT : T.map Tok.st = (atX q 0).map Lx.st) (hr : R0 rest) : sumP f n (T ++ rest) = .ok (q, rest) := by
  obtain ⟨_, g2, g3⟩ := k_le hq
  rw [h f n T rest hf hd hT hr.1]
  exact sumL_end (by omega) hr
theorem C2.prod {q : Qn} (h : C2 q) (hq : Wf q) {f n : Nat} {T rest : List Tok} (hf : 3 * (atX q 1).length + 1 ≤ f) (hd : n + dep q 1 ≤ 8) (hT : T.map Tok.st = (atX q 1).map Lx.st) (hr : R1 rest) : productP f n (T ++ rest) = .ok (q, rest) := by
  obtain ⟨g1, g2, g3⟩ := k_le hq
  have : 1 ≤ (atX q 1).length := by
    have := (at_le q 0 1 (by decide)).2 1000
    rcases h0 : atX q 1 with _ | ⟨a, b⟩
    · rw [h0] at this
      rcases h1 : atX q 0 with _ | ⟨c, d⟩
      · rw [h1] at g3; simp at g3
      · rw [h1, wx_cons, wx_nil] at this; omega
    · simp
  rw [h f n T rest hf hd hT hr.1]
  exact productL_end (by omega) hr
theorem C1_par {q : Qn} (hq : Wf q) (h3 : C3 q) (hx : atX q 2 = parX (atX q 0)) (hd2 : dep q 2 = 1 + dep q 0) : C1 q := by
  intro f n T rest hf hd hT hr
  rw [hx] at hT hf
  obtain ⟨a, T1, b, rfl, ha, hb, hT1⟩ := par_map hT
  rw [hd2] at hd
  simp only [parX, List.length_cons, List.length_append, List.length_nil] at hf
  cases f with
  | zero => omega
  | succ f =>
    have e0 : a :: (T1 ++ [b]) ++ rest = a :: (T1 ++ (b :: rest)) := by simp
    rw [e0, oneP, if_neg (by omega)]
    rw [if_neg (by rw [ha.not _ (by decide)]; exact Bool.false_ne_true)]
    rw [if_pos (ha.takes _), List.tail_cons]
    rw [h3.sum hq (by omega) (by omega) hT1 (hb.r0 _ (by decide) (by decide) (by decide) (by decide))]
    simp only
    rw [hb.must]
theorem C2_of {q : Qn} (h1 : C1 q) (hx : atX q 1 = atX q 2) (hd1 : dep q 1 = dep q 2) (hk : k1 q = 0) : C2 q := by
  intro f n T rest hf hd hT hr
  rw [hx] at hf hT
  rw [hd1] at hd
  cases f with
  | zero => omega
  | succ f =>
    rw [productP, h1 f n T rest (by omega) hd hT hr, hk]
    rfl
theorem C3_of {q : Qn} (hq : Wf q) (h2 : C2 q) (hx : atX q 0 = atX q 1) (hd1 : dep q 0 = dep q 1) (hk : k0 q = 0) : C3 q := by
  intro f n T rest hf hd hT hr
  rw [hx] at hf hT
  rw [hd1] at hd
  cases f with
  | zero => omega
  | succ f =>
    rw [sumP, h2.prod hq (by omega) hd hT hr, hk]
    rfl
theorem C3_bin {c : Int} {b : UInt8} (hc : BinC c [b] 0) {l r : Qn} (hl : Wf l) (hr : Wf r) (h3 : C3 l) (h2 : C2 r) (hk : k0 (.mk c 0 [] 0 [] l r) = k0 l + 1)
    (hs : ∀ f n q t rest, isT t [b] → sumL (f + 1) n q (t :: rest) = match productP f n rest with | .error e => (.error e : PRes Qn) | .ok (r, l) => sumL f n (.mk c 0 [] 0 [] q r) l) (hb1 : b ≠ 42) (hb2 : b ≠ 47) : C3 (.mk c 0 [] 0 [] l r) := by
  intro f n T rest hf hd hT hR
  rw [hc.at_] at hT hf
  rw [hc.dep] at hd
  simp only [Nat.reduceAdd] at hT hf hd
  obtain ⟨T1, T2, rfl, hT1, hT2⟩ := app_map hT
  obtain ⟨t, T2, rfl, ht, hT2⟩ := cons_map hT2
  have it : isT t [b] := by
    obtain ⟨e1, e2⟩ := st_mk ht
    exact ⟨by rw [e2]; show bS (symX c) = _; rw [hc.sy], by rw [e1]; show (4 : Int) ≠ 3; decide, by rw [e1]; show (4 : Int) ≠ 5; decide⟩
  simp only [List.length_append, List.length_cons] at hf
  obtain ⟨_, g2, _⟩ := k_le hl
  rw [List.append_assoc, List.cons_append, h3 f n T1 _ (by omega) (by omega) hT1 (it.r1 _ hb1 hb2)]
  obtain ⟨g, hg⟩ : ∃ g, f - 1 - k0 l = g + 1 := ⟨f - 2 - k0 l, by omega⟩
  rw [hg]
  show sumL (g + 1) n l (t :: (T2 ++ rest)) = _
  rw [hs g n l t _ it, h2.prod hr (by omega) (by omega) hT2 hR, hk]
  have : f - 1 - (k0 l + 1) = g := by omega
  rw [this]
theorem C2_bin {c : Int} {b : UInt8} (hc : BinC c [b] 1) {l r : Qn} (hl : Wf l) (h2 : C2 l) (h1 : C1 r) (hk : k1 (.mk c 0 [] 0 [] l r) = k1 l + 1)
    (hs : ∀ f n q t rest, isT t [b] → productL (f + 1) n q (t :: rest) = match oneP f n rest with | .error e => (.error e : PRes Qn) | .ok (r, l) => productL f n (.mk c 0 [] 0 [] q r) l) : C2 (.mk c 0 [] 0 [] l r) := by
  intro f n T rest hf hd hT hR
  rw [hc.at_] at hT hf
  rw [hc.dep] at hd
  simp only [Nat.reduceAdd] at hT hf hd
  obtain ⟨T1, T2, rfl, hT1, hT2⟩ := app_map hT
  obtain ⟨t, T2, rfl, ht, hT2⟩ := cons_map hT2
  have it : isT t [b] := by
    obtain ⟨e1, e2⟩ := st_mk ht
    exact ⟨by rw [e2]; show bS (symX c) = _; rw [hc.sy], by rw [e1]; show (4 : Int) ≠ 3; decide, by rw [e1]; show (4 : Int) ≠ 5; decide⟩
  simp only [List.length_append, List.length_cons] at hf
  obtain ⟨g1, _, _⟩ := k_le hl
  rw [List.append_assoc, List.cons_append, h2 f n T1 _ (by omega) (by omega) hT1 (it.r2 _)]
  obtain ⟨g, hg⟩ : ∃ g, f - 1 - k1 l = g + 1 := ⟨f - 2 - k1 l, by omega⟩
  rw [hg]
  show productL (g + 1) n l (t :: (T2 ++ rest)) = _
  rw [hs g n l t _ it, h1 g n T2 rest (by omega) (by omega) hT2 hR, hk]
  have : f - 1 - (k1 l + 1) = g := by omega
  rw [this]
theorem sumL_13 : ∀ f n q t rest, isT t [43] → sumL (f + 1) n q (t :: rest) = match productP f n rest with | .error e => (.error e : PRes Qn) | .ok (r, l) => sumL f n (.mk 13 0 [] 0 [] q r) l := fun f n q t rest h => by
  rw [sumL, if_pos (h.takes _)]; rfl
theorem sumL_14 : ∀ f n q t rest, isT t [45] → sumL (f + 1) n q (t :: rest) = match productP f n rest with | .error e => (.error e : PRes Qn) | .ok (r, l) => sumL f n (.mk 14 0 [] 0 [] q r) l := fun f n q t rest h => by
  rw [sumL, if_neg (by rw [h.not _ (by decide)]; exact Bool.false_ne_true), if_pos (h.takes _)]; rfl
theorem prodL_15 : ∀ f n q t rest, isT t [42] → productL (f + 1) n q (t :: rest) = match oneP f n rest with | .error e => (.error e : PRes Qn) | .ok (r, l) => productL f n (.mk 15 0 [] 0 [] q r) l := fun f n q t rest h => by
  rw [productL, if_pos (h.takes _)]; rfl
theorem prodL_16 : ∀ f n q t rest, isT t [47] → productL (f + 1) n q (t :: rest) = match oneP f n rest with | .error e => (.error e : PRes Qn) | .ok (r, l) => productL f n (.mk 16 0 [] 0 [] q r) l := fun f n q t rest h => by
  rw [productL, if_neg (by rw [h.not _ (by decide)]; exact Bool.false_ne_true), if_pos (h.takes _)]; rfl
theorem C1_num (n : Int) (h0 : 0 ≤ n) (h1 : n < 1000000000000000000) : C1 (.mk 1 n [] 0 [] .nil .nil) := by
  intro f k T rest hf hd hT hr
  rw [atX_num _ _ (Nat.le_refl _)] at hT hf
  obtain ⟨t, T, rfl, ht, hT⟩ := cons_map hT
  cases nil_map hT
  obtain ⟨hk, hx⟩ := st_mk ht
  have hk : t.kind = 2 := hk
  have hx : t.text = bS (Lib.itoa n) := hx
  have hne : ∀ b : UInt8, digB b = false → t.text ≠ bS [b] := by
    intro b hb e
    rw [hx] at e
    have := (itoa_dig h0).1 b (by rw [bS_inj e]; exact List.mem_cons_self)
    rw [hb] at this
    cases this
  simp only [List.length_cons, List.length_nil] at hf
  cases f with
  | zero => omega
  | succ f =>
    rw [dep_num _ _ (Nat.le_refl _)] at hd
    rw [show [t] ++ rest = t :: rest from rfl, oneP, if_neg (by omega)]
    rw [if_neg (by rw [takesP_no rest (hne 45 (by decide))]; exact Bool.false_ne_true)]
    rw [if_neg (by rw [takesP_no rest (hne 40 (by decide))]; exact Bool.false_ne_true)]
    rw [if_pos (show (hdT (t :: rest)).kind = 2 from hk)]
    rw [numberP_yes rest h0 (by omega) ht]
theorem C1_pick (m : List Mt) (hm : MsOk m) : C1 (.mk 2 0 m 300 [] .nil .nil) := by
  intro f k T rest hf hd hT hr
  rw [atX_pick _ _ (Nat.le_refl _)] at hT hf
  obtain ⟨t, T', e, ht, _⟩ := cons_map hT
  have it := isT_mL ht
  rw [dep_pick _ _ (Nat.le_refl _)] at hd
  simp only [msX, List.length_cons] at hf
  cases f with
  | zero => omega
  | succ f =>
    rw [oneP, if_neg (by omega), matchersP_yes hm T rest hT]
    subst e
    rw [List.cons_append]
    rw [if_neg (by rw [it.not _ (by decide)]; exact Bool.false_ne_true)]
    rw [if_neg (by rw [it.not _ (by decide)]; exact Bool.false_ne_true)]
    rw [if_neg (by show ¬ t.kind = 2; rw [(st_mk ht).1]; exact (by decide : (4 : Int) ≠ 2))]
    rw [if_pos (isP_yes _ it.1 it.2.1)]
theorem C1_over (k : Nat) (hk : k < 5) (m : List Mt) (hm : MsOk m) (sp : Int) (h1 : 1 ≤ sp) (h2 : sp ≤ 1099511627776) : C1 (.mk (3 + k) 0 m sp [] .nil .nil) := by
  intro f n T rest hf hd hT hr
  rw [atX_over k hk _ _ _ (Nat.le_refl _)] at hT hf
  obtain ⟨t, T, rfl, ht, hT⟩ := cons_map hT
  have it := isT_wL ht
  obtain ⟨a, T1, b, rfl, ha, hb, hT1⟩ := par_map hT
  obtain ⟨T1, T2, rfl, hT1, hT2⟩ := app_map (a := msX m) hT1
  obtain ⟨t3, T2, rfl, ht3, hT2⟩ := cons_map hT2
  obtain ⟨t4, T2, rfl, ht4, hT2⟩ := cons_map hT2
  obtain ⟨t5, T2, rfl, ht5, hT2⟩ := cons_map hT2
  cases nil_map hT2
  rw [dep_over k hk _ _ _ (Nat.le_refl _)] at hd
  simp only [List.length_cons] at hf
  cases f with
  | zero => omega
  | succ f =>
    have hm1 := overs_mark hk
    have et : t.text = oversL.getD k ⟨#[]⟩ := by rw [it.1, bS_bL]
    have e0 : t :: a :: (T1 ++ [t3, t4, t5] ++ [b]) ++ rest = t :: a :: (T1 ++ (t3 :: t4 :: t5 :: b :: rest)) := by simp
    rw [e0, oneP, if_neg (by omega)]
    rw [if_neg (by rw [it.not _ (hm1 _)]; exact Bool.false_ne_true)]
    rw [if_neg (by rw [it.not _ (hm1 _)]; exact Bool.false_ne_true)]
    rw [if_neg (by show ¬ t.kind = 2; rw [(st_mk ht).1]; exact (by decide : (1 : Int) ≠ 2))]
    rw [if_neg (by rw [it.noti _ (hm1 _)]; exact Bool.false_ne_true)]
    rw [find_yes overs_ne _ (by rw [overs_len]; exact hk) et it.2.1]
    simp only
    rw [mustP_yes _ et it.2.1 it.2.2]
    simp only
    rw [ha.must]
    simp only
    rw [matchersP_yes hm T1 _ ‹_›]
    simp only
    rw [(isT_mL ht3).must]
    simp only
    rw [numberP_yes _ (by omega) h2 ht4]
    simp only
    rw [(isT_mL ht5).must]
    simp only
    rw [hb.must]
    simp only
    rw [if_neg (by omega)]
theorem C1_neg (q : Qn) (h : C1 q) : C1 (.mk 12 0 [] 0 [] q .nil) := by
  intro f n T rest hf hd hT hr
  rw [atX_neg _ _ (Nat.le_refl _)] at hT hf
  obtain ⟨t, T, rfl, ht, hT⟩ := cons_map hT
  have it := isT_mL ht
  rw [dep_neg _ _ (Nat.le_refl _)] at hd
  simp only [List.length_cons] at hf
  cases f with
  | zero => omega
  | succ f =>
    rw [show t :: T ++ rest = t :: (T ++ rest) from rfl, oneP, if_neg (by omega)]
    rw [if_pos (it.takes _), List.tail_cons, h f (n + 1) T rest (by omega) (by omega) hT hr]
theorem C1_all (k : Nat) (hk : k < 4) (b : List ByteArray) (hb : ∀ s ∈ b, nameF s = true) (hl : b.length ≤ 8) (q : Qn) (hq : Wf q) (h : C3 q) : C1 (.mk (8 + k) 0 [] 0 b q .nil) := by
  intro f n T rest hf hd hT hr
  rw [atX_all k hk _ _ _ (Nat.le_refl _)] at hT hf
  obtain ⟨t, T, rfl, ht, hT⟩ := cons_map hT
  have it := isT_wL ht
  obtain ⟨T1, T2, rfl, hT1, hT2⟩ := app_map hT
  obtain ⟨a, T1, z, rfl, ha, hz, hT1⟩ := par_map hT1
  rw [dep_all k hk _ _ _ (Nat.le_refl _)] at hd
  simp only [List.length_cons, List.length_append, parX, List.length_nil] at hf
  cases f with
  | zero => omega
  | succ f =>
    have hm1 := alls_mark hk
    have et : t.text = allsL.getD k ⟨#[]⟩ := by rw [it.1, bS_bL]
    have e0 : t :: (a :: (T1 ++ [z]) ++ T2) ++ rest = t :: a :: (T1 ++ (z :: (T2 ++ rest))) := by simp
    rw [e0, oneP, if_neg (by omega)]
    rw [if_neg (by rw [it.not _ (hm1 _)]; exact Bool.false_ne_true)]
    rw [if_neg (by rw [it.not _ (hm1 _)]; exact Bool.false_ne_true)]
    rw [if_neg (by show ¬ t.kind = 2; rw [(st_mk ht).1]; exact (by decide : (1 : Int) ≠ 2))]
    rw [if_neg (by rw [it.noti _ (hm1 _)]; exact Bool.false_ne_true)]
    rw [find_no _ (fun s hs => by rw [et]; exact alls_overs hk s hs)]
    simp only
    rw [find_yes alls_ne _ (by rw [alls_len]; exact hk) et it.2.1]
    simp only
    rw [mustP_yes _ et it.2.1 it.2.2]
    simp only
    rw [ha.must]
    simp only
    rw [h.sum hq (by omega) (by omega) hT1 (hz.r0 _ (by decide) (by decide) (by decide) (by decide))]
    simp only
    rw [hz.must]
    simp only
    cases b with
    | nil =>
      cases nil_map hT2
      rw [List.nil_append, if_neg (by rw [hr]; exact Bool.false_ne_true)]
    | cons s b =>
      have : bysX (s :: b) = ⟨1, [98, 121], 1, 1⟩ :: parX (byX (s :: b)) := rfl
      rw [this] at hT2
      obtain ⟨y, T2, rfl, hy, hT2⟩ := cons_map hT2
      have iy : isT y [98, 121] := isT_wL hy
      obtain ⟨a2, T3, z2, rfl, ha2, hz2, hT3⟩ := par_map hT2
      have e1 : y :: a2 :: (T3 ++ [z2]) ++ rest = y :: a2 :: (T3 ++ (z2 :: rest)) := by simp
      rw [e1, if_pos (iy.takes _), List.tail_cons, ha2.must]
      simp only
      rw [namesL_yes (s :: b) [] _ T3 (z2 :: rest) (by simp) hb (by simpa using hl) (by
        have : T3.length = (byX (s :: b)).length := len_map hT3
        have h8 : ∀ (b : List ByteArray) s, (s :: b).length ≤ (byX (s :: b)).length := by
          intro b
          induction b with
          | nil => intro s; exact Nat.le_refl _
          | cons x b ih =>
            intro s
            have e : byX (s :: x :: b) = wL (bL s) :: ⟨0, [44], 4, 1⟩ :: byX (x :: b) := rfl
            have := ih x
            rw [e]
            simp only [List.length_cons] at this ⊢
            omega
        have := h8 b s
        simp only [List.length_append]
        omega) hT3 (hz2.not _ (by decide))]
      simp only [List.nil_append]
      rw [hz2.must]
theorem complete {q : Qn} (hq : Wf q) : C1 q ∧ C2 q ∧ C3 q := by
  have up : ∀ {q : Qn}, Wf q → lvl q.code = 2 → C1 q → C1 q ∧ C2 q ∧ C3 q := by
    intro q hq hl h1
    cases q with
    | nil => cases hq
    | mk c n m s b l r =>
      have hl : lvl c = 2 := hl
      have hk1 : k1 (.mk c n m s b l r) = 0 := by rw [k1, hl]; rfl
      have hk0 : k0 (.mk c n m s b l r) = 0 := by rw [k0, hl]; rfl
      have hx : ∀ a d, a ≤ 2 → d ≤ 2 → atX (.mk c n m s b l r) a = atX (.mk c n m s b l r) d := fun a d ha hd => by
        rw [atX, atX, hl, decide_eq_false (by omega), decide_eq_false (by omega)]
      have hd : ∀ a d, a ≤ 2 → d ≤ 2 → dep (.mk c n m s b l r) a = dep (.mk c n m s b l r) d := fun a d ha hd => by
        rw [dep, dep, hl, if_neg (show ¬ 2 < a by omega), if_neg (show ¬ 2 < d by omega)]
      have h2 := C2_of h1 (hx _ _ (by decide) (by decide)) (hd _ _ (by decide) (by decide)) hk1
      exact ⟨h1, h2, C3_of hq h2 (hx _ _ (by decide) (by decide)) (hd _ _ (by decide) (by decide)) hk0⟩
  induction hq with
  | num n h0 h1 => exact up (.num n h0 h1) rfl (C1_num n h0 h1)
  | pick m h => exact up (.pick m h) rfl (C1_pick m h)
  | over k hk m h sp h1 h2 => exact up (.over k hk m h sp h1 h2) (by show lvl (3 + k) = 2; rw [lvl, if_neg (by omega), if_neg (by omega)]) (C1_over k hk m h sp h1 h2)
  | all k hk b hb hl q hq ih => exact up (.all k hk b hb hl q hq) (by show lvl (8 + k) = 2; rw [lvl, if_neg (by omega), if_neg (by omega)]) (C1_all k hk b hb hl q hq ih.2.2)
  | neg q hq ih => exact up (.neg q hq) rfl (C1_neg q ih.1)
  | add k hk l r hl hr ih1 ih2 =>
    have hw := Wf.add k hk l r hl hr
    have hk0 : k0 (.mk (13 + k) 0 [] 0 [] l r) = k0 l + 1 := by rw [k0, lvl_add k hk]; rfl
    have hk1 : k1 (.mk (13 + k) 0 [] 0 [] l r) = 0 := by rw [k1, lvl_add k hk]; rfl
    have h3 : C3 (.mk (13 + k) 0 [] 0 [] l r) := by
      rcases (show k = 0 ∨ k = 1 by omega) with rfl | rfl
      · exact C3_bin binC13 hl hr ih1.2.2 ih2.2.1 hk0 sumL_13 (by decide) (by decide)
      · exact C3_bin binC14 hl hr ih1.2.2 ih2.2.1 hk0 sumL_14 (by decide) (by decide)
    have h1 := C1_par hw h3 (by rw [atX_add k hk, atX_add k hk]; rfl) (by rw [dep_add k hk, dep_add k hk, if_pos (by decide), if_neg (by decide), Nat.zero_add])
    exact ⟨h1, C2_of h1 (by rw [atX_add k hk, atX_add k hk]; rfl) (by rw [dep_add k hk, dep_add k hk]; rfl) hk1, h3⟩
  | mul k hk l r hl hr ih1 ih2 =>
    have hw := Wf.mul k hk l r hl hr
    have hk0 : k0 (.mk (15 + k) 0 [] 0 [] l r) = 0 := by rw [k0, lvl_mul k hk]; rfl
    have hk1 : k1 (.mk (15 + k) 0 [] 0 [] l r) = k1 l + 1 := by rw [k1, lvl_mul k hk]; rfl
    have h2 : C2 (.mk (15 + k) 0 [] 0 [] l r) := by
      rcases (show k = 0 ∨ k = 1 by omega) with rfl | rfl
      · exact C2_bin binC15 hl ih1.2.1 ih2.1 hk1 prodL_15
      · exact C2_bin binC16 hl ih1.2.1 ih2.1 hk1 prodL_16
    have h3 := C3_of hw h2 (by rw [atX_mul k hk, atX_mul k hk]; rfl) (by rw [dep_mul k hk, dep_mul k hk]; rfl) hk0
    exact ⟨C1_par hw h3 (by rw [atX_mul k hk, atX_mul k hk]; rfl) (by rw [dep_mul k hk, dep_mul k hk, if_pos (by decide), if_neg (by decide), Nat.zero_add]), h2, h3⟩
end Go.PL
/-
  Plain laws: questions: what is read of a text is read just so of what is printed. No program is in sight.
-/
namespace Go.PL
open Go Go.GK

theorem bget (s : ByteArray) (i : Nat) : s[i]? = (bL s)[i]? := by
  by_cases h : i < s.size
  · rw [getElem?_pos s i h, List.getElem?_eq_getElem (by rw [bL_len]; exact h)]
    obtain ⟨d⟩ := s
    simp [bL]
    rfl
  · rw [getElem?_neg s i h, List.getElem?_eq_none (by rw [bL_len]; omega)]
theorem anyB_no {n : Nat} {p : Nat → Bool} (h : anyB n p = false) {i : Nat} (hi : i < n) : p i = false := by
  cases hp : p i with
  | false => rfl
  | true => rw [anyB_true hi hp] at h; cases h
theorem name_tx {s : ByteArray} (h : nameF s = true) : TxOk 1 (bL s) := by
  rw [nameF, Bool.and_eq_true, decide_eq_true_iff, Bool.not_eq_true'] at h
  obtain ⟨h1, h2, _⟩ := h
  have hb : ∀ (i : Nat) (c : UInt8), (bL s)[i]? = some c → letB c = true ∨ (i ≠ 0 ∧ digB c = true) := by
    intro i c hc
    have hi : i < s.size := by
      rw [← bL_len]
      exact (List.getElem?_eq_some_iff.1 hc).1
    have := anyB_no h1 hi
    rw [nbad, bget, hc] at this
    simp only [Bool.and_eq_false_iff, Bool.or_eq_false_iff, Bool.not_eq_false', beq_eq_false_iff_ne] at this
    exact this
  refine .inl ⟨rfl, ?_⟩
  cases hl : bL s with
  | nil =>
    have := bL_len s
    rw [hl] at this
    simp at this
    omega
  | cons c r =>
    refine ⟨c, r, rfl, ?_, fun b hb' => ?_⟩
    · rcases hb 0 c (by rw [hl]; rfl) with h | h
      · exact h
      · exact absurd rfl h.1
    · obtain ⟨i, hi, e⟩ := List.getElem_of_mem hb'
      rcases hb (i + 1) b (by rw [hl, List.getElem?_cons_succ, List.getElem?_eq_getElem hi, e]) with h | h
      · rw [h]; rfl
      · rw [h.2, Bool.or_true]
theorem value_tx {s : ByteArray} (h : valueF s = true) : TxOk 3 (34 :: bL s ++ [34]) := by
  rw [valueF, Bool.and_eq_true, decide_eq_true_iff, Bool.not_eq_true'] at h
  refine .inr (.inr (.inl ⟨rfl, bL s, rfl, fun b hb => ?_⟩))
  obtain ⟨i, hi, e⟩ := List.getElem_of_mem hb
  have := anyB_no h.1 (i := i) (by rw [← bL_len]; exact hi)
  rw [vbad, bget, List.getElem?_eq_getElem hi, e] at this
  simp only [Bool.or_eq_false_iff, decide_eq_false_iff_not] at this
  exact this.2.2.1
theorem itoa_tx {n : Int} (h0 : 0 ≤ n) (h1 : n < 1000000000000000000) : TxOk 2 (Lib.itoa n) :=
  .inr (.inl ⟨rfl, (itoa_dig h0).2, itoa_len h0 (by decide) (by simpa using h1), (itoa_dig h0).1⟩)
theorem ops_tx {k : Nat} (hk : k < 4) : bL (opsL.getD k ⟨#[]⟩) ∈ marksL := by
  have hh : ∀ k : Fin 4, bL (opsL.getD k.val ⟨#[]⟩) ∈ marksL := by decide
  exact hh ⟨k, hk⟩
theorem overs_tx {k : Nat} (hk : k < 5) : TxOk 1 (bL (oversL.getD k ⟨#[]⟩)) := by
  have hh : ∀ k : Fin 5, nameF (oversL.getD k.val ⟨#[]⟩) = true := by decide
  exact name_tx (hh ⟨k, hk⟩)
theorem alls_tx {k : Nat} (hk : k < 4) : TxOk 1 (bL (allsL.getD k ⟨#[]⟩)) := by
  have hh : ∀ k : Fin 4, nameF (allsL.getD k.val ⟨#[]⟩) = true := by decide
  exact name_tx (hh ⟨k, hk⟩)
def XOk (l : List Lx) : Prop := (∀ x ∈ l, x.Ok) ∧ chn l
theorem XOk.nil : XOk [] := ⟨fun _ h => (by cases h), trivial⟩
theorem XOk.cons {x : Lx} {l : List Lx} (h : x.Ok) (hx : x.kind = 4 ∨ x.kind = 3 ∨ x.post ≠ 0) (hl : XOk l) : XOk (x :: l) :=
  ⟨fun y hy => by
    rcases List.mem_cons.1 hy with rfl | hy
    · exact h
    · exact hl.1 y hy, chn_cons hx hl.2⟩
theorem XOk.one {x : Lx} (h : x.Ok) : XOk [x] := ⟨fun y hy => by rw [List.mem_singleton.1 hy]; exact h, trivial⟩
theorem XOk.app {a : List Lx} {y : Lx} {b : List Lx} (ha : XOk a) (h : y.kind = 4 ∨ y.pre ≠ 0) (hb : XOk (y :: b)) : XOk (a ++ y :: b) :=
  ⟨fun z hz => by
    rcases List.mem_append.1 hz with hz | hz
    · exact ha.1 z hz
    · exact hb.1 z hz, chn_app ha.2 h hb.2⟩
theorem XOk.word {x y : Lx} {l : List Lx} (h : x.Ok) (hy : y.kind = 4 ∨ y.pre ≠ 0) (hl : XOk (y :: l)) : XOk (x :: y :: l) := XOk.app (a := [x]) (.one h) hy hl
theorem mark_ok {l : List UInt8} (h : l ∈ marksL) : (mL l).Ok := .inr (.inr (.inr ⟨rfl, h⟩))
theorem XOk.par {x : List Lx} (h : XOk x) : XOk (parX x) := .cons (mark_ok (by decide)) (.inl rfl) (.app h (.inl rfl) (.one (mark_ok (by decide))))
theorem mtX_ok {m : Mt} (h : MOk m) : XOk (mtX m) := by
  obtain ⟨h1, h2, h3, h4⟩ := h
  exact .word (name_tx h1) (.inl rfl) (.cons (mark_ok (ops_tx (by omega))) (.inl rfl) (.one (value_tx h2)))
theorem sepX_ok {y : Lx} (hy : y.Ok) (hk : y.kind = 4) : ∀ {l : List (List Lx)}, (∀ x ∈ l, XOk x) → XOk (sepX y l)
  | [], _ => .nil
  | [x], h => h x List.mem_cons_self
  | x :: z :: r, h => .app (h x List.mem_cons_self) (.inl hk) (.cons hy (.inl hk) (sepX_ok hy hk fun a ha => h a (List.mem_cons_of_mem _ ha)))
theorem msX_ok {l : List Mt} (h : MsOk l) : XOk (msX l) := by
  refine .cons (mark_ok (by decide)) (.inl rfl) (.app (sepX_ok (mark_ok (by decide)) rfl fun x hx => ?_) (.inl rfl) (.one (mark_ok (by decide))))
  obtain ⟨m, hm, rfl⟩ := List.mem_map.1 hx
  exact mtX_ok (h.1 m hm)
theorem byX_ok {b : List ByteArray} (h : ∀ s ∈ b, nameF s = true) : XOk (byX b) := by
  refine sepX_ok (y := ⟨0, [44], 4, 1⟩) (.inr (.inr (.inr ⟨rfl, by decide⟩))) rfl fun x hx => ?_
  obtain ⟨s, hs, rfl⟩ := List.mem_map.1 hx
  exact .one (name_tx (h s hs))
theorem by_tx : TxOk 1 [98, 121] := name_tx (s := bS [98, 121]) (by decide)
theorem ifP_ok {b : Bool} {x : List Lx} (h : XOk x) : XOk (ifP b x) := by
  cases b with
  | false => exact h
  | true => exact h.par
theorem bin_ok (c : Int) : (binX c).Ok := by
  refine .inr (.inr (.inr ⟨rfl, ?_⟩))
  show symX c ∈ marksL
  unfold symX
  split
  · decide
  · split
    · decide
    · split <;> decide
theorem atX_ok {q : Qn} (hq : Wf q) : ∀ least, least ≤ 2 → XOk (atX q least) := by
  induction hq with
  | num n h0 h1 => exact fun a ha => by rw [atX_num n a ha]; exact .one (itoa_tx h0 h1)
  | pick m h => exact fun a ha => by rw [atX_pick m a ha]; exact msX_ok h
  | over k hk m h sp h1 h2 =>
    intro a ha
    rw [atX_over k hk m sp a ha]
    exact .word (overs_tx hk) (.inl rfl) (.par (.app (msX_ok h) (.inl rfl) (.cons (mark_ok (by decide)) (.inl rfl) (.word (itoa_tx (by omega) (by omega)) (.inl rfl) (.one (mark_ok (by decide)))))))
  | all k hk b hb hl q hq ih =>
    intro a ha
    rw [atX_all k hk b q a ha]
    refine .word (l := atX q 0 ++ [mL [41]] ++ bysX b) (alls_tx hk) (.inl rfl) ?_
    have hp := (ih 0 (by decide)).par
    cases b with
    | nil => simpa [bysX, parX] using hp
    | cons s b =>
      have := XOk.app hp (.inr (show (⟨1, [98, 121], 1, 1⟩ : Lx).pre ≠ 0 by decide)) (.cons (x := ⟨1, [98, 121], 1, 1⟩) by_tx (.inr (.inr (by decide))) (byX_ok hb).par)
      simpa [bysX, parX] using this
  | neg q hq ih => exact fun a ha => by rw [atX_neg q a ha]; exact .cons (mark_ok (by decide)) (.inl rfl) (ih 2 (by decide))
  | add k hk l r hl hr ih1 ih2 => exact fun a ha => by rw [atX_add k hk]; exact ifP_ok (.app (ih1 0 (by decide)) (.inl rfl) (.cons (bin_ok _) (.inl rfl) (ih2 1 (by decide))))
  | mul k hk l r hl hr ih1 ih2 => exact fun a ha => by rw [atX_mul k hk]; exact ifP_ok (.app (ih1 1 (by decide)) (.inl rfl) (.cons (bin_ok _) (.inl rfl) (ih2 2 (by decide))))

def slim (l : List Lx) : Prop := ∀ x ∈ l, x.pre + x.post ≤ 2
theorem slim_bytes : ∀ {l : List Lx}, slim l → (bytesL l).length ≤ wx 2 l
  | [], _ => Nat.le_refl _
  | x :: l, h => by
    have h1 := h x List.mem_cons_self
    have h2 := slim_bytes fun y hy => h y (List.mem_cons_of_mem _ hy)
    rw [bytesL_cons, wx_cons, List.length_append, Lx.bytes]
    simp only [List.length_append, spc, List.length_replicate]
    omega
theorem slim_app {a b : List Lx} (ha : slim a) (hb : slim b) : slim (a ++ b) := fun x hx => by
  rcases List.mem_append.1 hx with hx | hx
  · exact ha x hx
  · exact hb x hx
theorem slim_cons {a : Lx} {b : List Lx} (ha : a.pre + a.post ≤ 2) (hb : slim b) : slim (a :: b) := fun x hx => by
  rcases List.mem_cons.1 hx with rfl | hx
  · exact ha
  · exact hb x hx
theorem slim_nil : slim [] := fun _ h => by cases h
theorem slim_par {x : List Lx} (h : slim x) : slim (parX x) := slim_cons (by decide) (slim_app h (slim_cons (by decide) slim_nil))
theorem slim_sep {y : Lx} (hy : y.pre + y.post ≤ 2) : ∀ {l : List (List Lx)}, (∀ x ∈ l, slim x) → slim (sepX y l)
  | [], _ => slim_nil
  | [x], h => h x List.mem_cons_self
  | x :: z :: r, h => slim_app (h x List.mem_cons_self) (slim_cons hy (slim_sep hy fun a ha => h a (List.mem_cons_of_mem _ ha)))
theorem slim_ms (l : List Mt) : slim (msX l) := by
  refine slim_cons (by decide) (slim_app (slim_sep (by decide) fun x hx => ?_) (slim_cons (by decide) slim_nil))
  obtain ⟨m, _, rfl⟩ := List.mem_map.1 hx
  exact slim_cons (Nat.zero_le _) (slim_cons (Nat.zero_le _) (slim_cons (Nat.zero_le _) slim_nil))
theorem slim_bys (b : List ByteArray) : slim (bysX b) := by
  cases b with
  | nil => exact slim_nil
  | cons s b =>
    refine slim_cons (by decide) (slim_par (slim_sep (by decide) fun x hx => ?_))
    obtain ⟨m, _, rfl⟩ := List.mem_map.1 hx
    exact slim_cons (Nat.zero_le _) slim_nil
theorem slim_if {b : Bool} {x : List Lx} (h : slim x) : slim (ifP b x) := by
  cases b with
  | false => exact h
  | true => exact slim_par h
theorem slim_at (q : Qn) : ∀ a, slim (atX q a) := by
  induction q with
  | nil => exact fun a => slim_nil
  | mk c n m s b l r ih1 ih2 =>
    intro a
    unfold atX
    refine slim_if ?_
    split
    · exact slim_cons (Nat.zero_le _) slim_nil
    split
    · exact slim_ms m
    split
    · exact slim_cons (Nat.zero_le _) (slim_par (slim_app (slim_ms m) (slim_cons (Nat.zero_le _) (slim_cons (Nat.zero_le _) (slim_cons (Nat.zero_le _) slim_nil)))))
    split
    · exact slim_cons (Nat.zero_le _) (slim_app (slim_par (ih1 0)) (slim_bys b))
    split
    · exact slim_cons (Nat.zero_le _) (ih1 2)
    split
    · exact slim_app (ih1 _) (slim_cons (Nat.le_refl _) (ih2 _))
    · exact slim_nil

theorem lex_all {X : List Lx} (h : XOk X) (hn : X.length ≤ 120) : ∃ l e, tokF (bytesL X) ((bytesL X).length + 1) 0 0 = .ok (l ++ [e]) ∧ l.map Tok.st = X.map Lx.st ∧ e.kind = 5 ∧ e.text = bS [] := by
  have hlen : X.length ≤ (bytesL X).length := by
    have : ∀ X : List Lx, (∀ x ∈ X, x.Ok) → X.length ≤ (bytesL X).length := by
      intro X
      induction X with
      | nil => intro _; exact Nat.le_refl _
      | cons x X ih =>
        intro hx
        have h1 := ih fun y hy => hx y (List.mem_cons_of_mem _ hy)
        have h2 := (lex_ok (hx x List.mem_cons_self) [] (fun _ _ h => (by cases h)) (fun _ _ h => (by cases h))).2.1
        have h3 : 0 < x.text.length := by cases ht : x.text with | nil => exact absurd ht h2 | cons c t => simp
        rw [bytesL_cons, List.length_append, Lx.bytes]
        simp only [List.length_append, List.length_cons]
        omega
    exact this X h.1
  obtain ⟨l, h1, h2⟩ := tok_ok (bytesL X) X ((bytesL X).length + 1) 0 0 0 h.1 h.2 (by simp [spc]) (Nat.zero_le _) (by omega) (by omega)
  obtain ⟨l1, l2, rfl, h3, h4⟩ := List.map_eq_append_iff.1 h2
  obtain ⟨e, l2, rfl, h5, h6⟩ := List.map_eq_cons_iff.1 h4
  rw [List.map_eq_nil_iff] at h6
  subst h6
  exact ⟨l1, e, h1, h3, congrArg Prod.fst h5, congrArg Prod.snd h5⟩
theorem end_r0 {e : Tok} (h : e.text = bS []) : R0 [e] := by
  have : ∀ b l, takesP (bS (b :: l)) [e] = false := fun b l => takesP_no _ (by rw [h]; exact fun h => by cases bS_inj h)
  exact ⟨⟨this _ _, this _ _, this _ _⟩, this _ _, this _ _⟩
theorem print_parse {s : List UInt8} (hs : s.length ≤ 600) {q : Qn} (h : parseF s = .ok q) : Wf q ∧ parseF (bytesL (atX q 0)) = .ok q ∧ (bytesL (atX q 0)).length ≤ 1000 := by
  rw [parseF] at h
  cases hT : tokF s (s.length + 1) 0 0 with
  | error e => rw [hT] at h; cases h
  | ok l =>
    rw [hT] at h
    simp only at h
    obtain ⟨hE, hl⟩ := tok_toks s (by omega) _ _ _ _ hT (by omega)
    have hw := tok_wt s _ _ _ _ hT
    cases hP : sumP (3 * l.length + 3) 0 l with
    | error e => rw [hP] at h; cases h
    | ok r =>
      obtain ⟨q1, l'⟩ := r
      rw [hP] at h
      simp only at h
      by_cases hk : (hdT l').kind ≠ 5
      · rw [if_pos hk] at h; cases h
      rw [if_neg hk] at h
      cases h
      obtain ⟨g1, g2, g3, g4⟩ := (sound _).2.2.2.2 0 l q l' hP hE
      obtain ⟨e, l', rfl⟩ := g4.cons
      have w1 : (atX q 0).length ≤ 120 := by
        have a1 := g3 1000
        have a2 := hw 1000
        rw [wt_cons] at a1
        have a3 : 1000 * (atX q 0).length ≤ wx 1000 (atX q 0) := by
          have : ∀ X : List Lx, 1000 * X.length ≤ wx 1000 X := by
            intro X
            induction X with
            | nil => exact Nat.le_refl _
            | cons x X ih => rw [wx_cons, List.length_cons]; omega
          exact this _
        omega
      have w2 : (bytesL (atX q 0)).length ≤ 1000 := by
        have a1 := g3 2
        have a2 := hw 2
        have a3 := slim_bytes (slim_at q 0)
        omega
      refine ⟨g1, ?_, w2⟩
      obtain ⟨T, e, h1, h2, h3, h4⟩ := lex_all (atX_ok g1 0 (by decide)) w1
      rw [parseF, h1]
      simp only
      rw [(complete g1).2.2.sum g1 (by
        have := len_map h2
        rw [List.length_append, this]
        omega) g2 h2 (end_r0 h4)]
      simp only
      rw [if_neg (by
        show ¬ e.kind ≠ 5
        rw [h3]
        decide)]
theorem print_match {s : List UInt8} (hs : s.length ≤ 600) {m : List Mt} (h : matchF s = .ok m) : MsOk m ∧ matchF (bytesL (msX m)) = .ok m ∧ (bytesL (msX m)).length ≤ 1000 := by
  rw [matchF] at h
  cases hT : tokF s (s.length + 1) 0 0 with
  | error e => rw [hT] at h; cases h
  | ok l =>
    rw [hT] at h
    simp only at h
    obtain ⟨hE, hl⟩ := tok_toks s (by omega) _ _ _ _ hT (by omega)
    have hw := tok_wt s _ _ _ _ hT
    cases hP : matchersP l with
    | error e => rw [hP] at h; cases h
    | ok r =>
      obtain ⟨q1, l'⟩ := r
      rw [hP] at h
      simp only at h
      by_cases hk : (hdT l').kind ≠ 5
      · rw [if_pos hk] at h; cases h
      rw [if_neg hk] at h
      cases h
      obtain ⟨g1, g3, g4⟩ := matchersP_ok hP hE
      obtain ⟨e, l', rfl⟩ := g4.cons
      have w1 : (msX m).length ≤ 120 := by
        have a1 := g3 1000
        have a2 := hw 1000
        rw [wt_cons] at a1
        have a3 : 1000 * (msX m).length ≤ wx 1000 (msX m) := by
          have : ∀ X : List Lx, 1000 * X.length ≤ wx 1000 X := by
            intro X
            induction X with
            | nil => exact Nat.le_refl _
            | cons x X ih => rw [wx_cons, List.length_cons]; omega
          exact this _
        omega
      have w2 : (bytesL (msX m)).length ≤ 1000 := by
        have a1 := g3 2
        have a2 := hw 2
        have a3 := slim_bytes (slim_ms m)
        omega
      refine ⟨g1, ?_, w2⟩
      obtain ⟨T, e, h1, h2, h3, h4⟩ := lex_all (msX_ok g1) w1
      rw [matchF, h1]
      simp only
      rw [matchersP_yes g1 T [e] h2]
      simp only
      rw [if_neg (by
        show ¬ e.kind ≠ 5
        rw [h3]
        decide)]
theorem ms_asked {m : List Mt} (h : MsOk m) : askedF m = true := by
  rw [askedF, Bool.and_eq_true, decide_eq_true_iff, Bool.not_eq_true']
  refine ⟨anyB_false fun i hi => ?_, h.2⟩
  rw [List.getD_eq_getElem?_getD, List.getElem?_eq_getElem hi]
  obtain ⟨h1, h2, h3, h4⟩ := h.1 _ (List.getElem_mem hi)
  show mbad m[i] = false
  rw [mbad, h1, h2, decide_eq_true ⟨h3, h4⟩]
  rfl
end Go.PL
/-
  Plain laws: tokens, letter by letter. No program is in sight.
-/
namespace Go.PL
open Go Go.GK

def twN (p : UInt8 → Bool) (s : ByteArray) (i : Nat) : Nat := (((bL s).drop i).takeWhile p).length
theorem twN_le (p : UInt8 → Bool) (s : ByteArray) (i : Nat) : twN p s i ≤ s.size - i := by
  have := (List.takeWhile_sublist (l := (bL s).drop i) p).length_le
  rw [List.length_drop, bL_len] at this
  exact this
theorem tw_get {p : UInt8 → Bool} : ∀ {l : List UInt8} {j : Nat}, j < (l.takeWhile p).length → ∃ c, l[j]? = some c ∧ p c = true
  | [], j, h => by simp at h
  | c :: l, j, h => by
    rw [List.takeWhile_cons] at h
    cases hp : p c with
    | false => rw [hp] at h; simp at h
    | true =>
      rw [hp] at h
      cases j with
      | zero => exact ⟨c, rfl, hp⟩
      | succ j =>
        obtain ⟨d, h1, h2⟩ := tw_get (l := l) (j := j) (by simpa using h)
        exact ⟨d, by simpa using h1, h2⟩
theorem tw_stop {p : UInt8 → Bool} : ∀ {l : List UInt8} {c : UInt8}, l[(l.takeWhile p).length]? = some c → p c = false
  | [], c, h => by simp at h
  | a :: l, c, h => by
    rw [List.takeWhile_cons] at h
    cases hp : p a with
    | false =>
      rw [hp] at h
      simp at h
      rw [← h]
      exact hp
    | true =>
      rw [hp] at h
      exact tw_stop (l := l) (by simpa using h)
theorem twN_lt {p : UInt8 → Bool} {s : ByteArray} {i k : Nat} (hk : i ≤ k) (h : k < i + twN p s i) : ∃ hs : k < s.size, p s[k] = true := by
  have h1 := twN_le p s i
  have hs : k < s.size := by omega
  obtain ⟨c, h2, h3⟩ := tw_get (p := p) (l := (bL s).drop i) (j := k - i) (show k - i < twN p s i by omega)
  rw [List.getElem?_drop, show i + (k - i) = k by omega, ← bget, getElem?_pos s k hs] at h2
  exact ⟨hs, by rw [Option.some.inj h2]; exact h3⟩
theorem twN_stop {p : UInt8 → Bool} {s : ByteArray} {i : Nat} (hs : i + twN p s i < s.size) : p s[i + twN p s i] = false := by
  refine tw_stop (l := (bL s).drop i) ?_
  show ((bL s).drop i)[twN p s i]? = _
  rw [List.getElem?_drop, ← bget, getElem?_pos s _ hs]
theorem drop_at {s : ByteArray} {i : Nat} (h : i < s.size) : (bL s).drop i = s[i] :: (bL s).drop (i + 1) := by
  have h' : i < (bL s).length := by rw [bL_len]; exact h
  rw [List.drop_eq_getElem_cons h']
  congr 1
theorem find_tw (l : List UInt8) : (l.findIdx? (· == 34)) = if (l.takeWhile fun b => decide (b.toNat ≠ 34)).length < l.length then some (l.takeWhile fun b => decide (b.toNat ≠ 34)).length else none := by
  induction l with
  | nil => simp
  | cons c l ih =>
    rw [List.findIdx?_cons, List.takeWhile_cons]
    by_cases hc : c.toNat = 34
    · have h1 : (c == 34) = true := by
        have : c = 34 := UInt8.toNat_inj.1 hc
        rw [this]; rfl
      rw [h1, if_pos rfl, decide_eq_false (by simpa using hc)]
      simp
    · have h1 : (c == 34) = false := by
        cases hh : c == 34 with
        | false => rfl
        | true => exact absurd (by rw [eq_of_beq hh]; rfl) hc
      rw [h1, if_neg Bool.false_ne_true, ih, decide_eq_true hc]
      simp only [if_true, List.length_cons, Nat.add_lt_add_iff_right]
      split <;> rfl
theorem tok_sp {s : ByteArray} {i f cnt : Nat} (h : i < s.size) (h32 : s[i] = 32) : tokF (bL s) (f + 1) i cnt = tokF (bL s) (f + 1) (i + 1) cnt := by
  rw [tokF, tokF, drop_at h]
  have e : ((s[i] :: (bL s).drop (i + 1)).takeWhile (· == 32)).length = (((bL s).drop (i + 1)).takeWhile (· == 32)).length + 1 := by
    rw [List.takeWhile_cons, h32]
    simp
  rw [e, show i + ((((bL s).drop (i + 1)).takeWhile (· == 32)).length + 1) = i + 1 + (((bL s).drop (i + 1)).takeWhile (· == 32)).length by omega]
theorem tok_end {s : ByteArray} {f cnt : Nat} : tokF (bL s) (f + 1) s.size cnt = .ok [⟨5, ⟨#[]⟩, s.size⟩] := by
  rw [tokF]
  have : (bL s).drop s.size = [] := List.drop_of_length_le (by rw [bL_len]; exact Nat.le_refl _)
  rw [this]
  simp [bL_len]
theorem tok_at {s : ByteArray} {i f cnt : Nat} (h : i < s.size) (h32 : s[i] ≠ 32) : tokF (bL s) (f + 1) i cnt =
    if (lexF ((bL s).drop i)).1 = 0 then .error (3, i)
    else if ((lexF ((bL s).drop i)).2 = 2 ∧ 18 < (lexF ((bL s).drop i)).1) ∨ 120 ≤ cnt then .error (4, i)
    else match tokF (bL s) f (i + (lexF ((bL s).drop i)).1) (cnt + 1) with
      | .ok l => .ok (⟨(lexF ((bL s).drop i)).2, ⟨(((bL s).drop i).take (lexF ((bL s).drop i)).1).toArray⟩, i⟩ :: l)
      | .error e => .error e := by
  rw [tokF]
  have e : (((bL s).drop i).takeWhile (· == 32)).length = 0 := by
    rw [drop_at h, List.takeWhile_cons]
    have : (s[i] == 32) = false := by simpa using h32
    rw [this]
    rfl
  rw [e, Nat.add_zero]
  simp only
  rw [if_neg (by rw [bL_len]; omega)]
  rfl
def markN (n : Nat) (l : List UInt8) (j : Nat) : Bool := (marksL.take j).any fun m => decide (m.length = n) && m.isPrefixOf l
theorem markN_step {n : Nat} {l : List UInt8} {j : Nat} (h : j < marksL.length) : markN n l (j + 1) = (markN n l j || (decide (marksL[j].length = n) && marksL[j].isPrefixOf l)) := by
  rw [markN, List.take_succ_eq_append_getElem h, List.any_append]
  simp [markN]
theorem mark_len (l : List UInt8) : (match marksL.find? (fun m => m.isPrefixOf l) with | some m => m.length | none => 0) = if markN 2 l 15 = true then 2 else if markN 1 l 15 = true then 1 else 0 := by
  have e : ∀ n, markN n l 15 = marksL.any fun m => decide (m.length = n) && m.isPrefixOf l := fun n => by rw [markN, List.take_of_length_le (by decide)]
  rw [e, e]
  simp only [marksL, List.find?_cons, List.any_cons, List.any_nil, List.length_cons, List.length_nil]
  simp only [Nat.reduceAdd, Nat.reduceEqDiff, decide_true, decide_false, Bool.true_and, Bool.false_and, Bool.or_false, Bool.false_or, List.find?_nil]
  cases [33, 61].isPrefixOf l with
  | true => rfl
  | false =>
  cases [94, 61].isPrefixOf l with
  | true => rfl
  | false =>
  cases [33, 94].isPrefixOf l with
  | true => rfl
  | false =>
  cases [61].isPrefixOf l with
  | true => rfl
  | false =>
  cases [123].isPrefixOf l with
  | true => rfl
  | false =>
  cases [125].isPrefixOf l with
  | true => rfl
  | false =>
  cases [91].isPrefixOf l with
  | true => rfl
  | false =>
  cases [93].isPrefixOf l with
  | true => rfl
  | false =>
  cases [40].isPrefixOf l with
  | true => rfl
  | false =>
  cases [41].isPrefixOf l with
  | true => rfl
  | false =>
  cases [44].isPrefixOf l with
  | true => rfl
  | false =>
  cases [43].isPrefixOf l with
  | true => rfl
  | false =>
  cases [45].isPrefixOf l with
  | true => rfl
  | false =>
  cases [42].isPrefixOf l with
  | true => rfl
  | false =>
  cases [47].isPrefixOf l with
  | true => rfl
  | false => rfl
theorem lex_let {s : ByteArray} {i : Nat} (h : i < s.size) (hc : letB s[i] = true) : lexF ((bL s).drop i) = (twN (fun b => letB b || digB b) s i, 1) := by
  rw [twN, drop_at h]
  simp only [lexF, hc, if_true]
theorem lex_dig {s : ByteArray} {i : Nat} (h : i < s.size) (hl : letB s[i] = false) (hc : digB s[i] = true) : lexF ((bL s).drop i) = (twN digB s i, 2) := by
  rw [twN, drop_at h]
  simp only [lexF, hl, hc, if_true, Bool.false_eq_true, if_false]
theorem lex_quo {s : ByteArray} {i : Nat} (h : i < s.size) (hl : letB s[i] = false) (hd : digB s[i] = false) (hc : s[i].toNat = 34) :
    lexF ((bL s).drop i) = (if i + 1 + twN (fun b => decide (b.toNat ≠ 34)) s (i + 1) < s.size then twN (fun b => decide (b.toNat ≠ 34)) s (i + 1) + 2 else 0, 3) := by
  rw [drop_at h]
  have hlen : ((bL s).drop (i + 1)).length = s.size - (i + 1) := by rw [List.length_drop, bL_len]
  have hf := find_tw ((bL s).drop (i + 1))
  have hw : (((bL s).drop (i + 1)).takeWhile fun b => decide (b.toNat ≠ 34)).length = twN (fun b => decide (b.toNat ≠ 34)) s (i + 1) := rfl
  rw [hw, hlen] at hf
  unfold lexF
  simp only [hl, hd, Bool.false_eq_true, if_false]
  rw [if_pos hc, hf]
  by_cases h2 : i + 1 + twN (fun b => decide (b.toNat ≠ 34)) s (i + 1) < s.size
  · rw [if_pos h2, if_pos (by omega)]
  · rw [if_neg h2, if_neg (by omega)]
theorem lex_mark {s : ByteArray} {i : Nat} (h : i < s.size) (hl : letB s[i] = false) (hd : digB s[i] = false) (hc : s[i].toNat ≠ 34) :
    lexF ((bL s).drop i) = (if markN 2 ((bL s).drop i) 15 = true then 2 else if markN 1 ((bL s).drop i) 15 = true then 1 else 0, 4) := by
  rw [← mark_len, drop_at h]
  unfold lexF
  simp only [hl, hd, Bool.false_eq_true, if_false]
  rw [if_neg hc]
  rfl
theorem mark_fit {n : Nat} {l : List UInt8} {j : Nat} (h : markN n l j = true) : n ≤ l.length := by
  rw [markN, List.any_eq_true] at h
  obtain ⟨m, _, h⟩ := h
  rw [Bool.and_eq_true, decide_eq_true_iff, List.isPrefixOf_iff_prefix] at h
  have := h.2.length_le
  omega
end Go.PL
