/-
  Contracts: HeadWhole.
-/
import Derived.Test.YtaaoljhfepmkjaaDoorCHdA
import Derived.Test.YtaaoljhfepmkjaaDoorCJoin
import Derived.Test.YtaaoljhfepmkjaaDoorCShK
namespace Go.Proofs.YtaaoljhfepmkjaaDoor
open Go.GK Go.PL Go.RowKit
set_option maxRecDepth 100000
theorem _root_.Go.PL.HOk.bd {S : List Ser} (h : HOk S) : S.length ≤ 60 ∧ ∀ x ∈ S, x.samples.length ≤ 2000 ∧ x.labels.length ≤ 8 := ⟨h.len, fun x hx => by
  obtain ⟨a, b, _⟩ := h.each x hx
  exact ⟨((okS_iff _).1 b).2, (right_small a).1⟩⟩
theorem tot_bd (K : Nat) : ∀ {S : List Ser}, (∀ x ∈ S, x.samples.length ≤ K) → tot S ≤ K * S.length
  | [], _ => by simp [tot]
  | x :: r, h => by
    have h1 := h x (by simp)
    have ih := tot_bd K (S := r) fun y hy => h y (by simp [hy])
    simp only [tot, List.map_cons, List.sum_cons, List.length_cons, Nat.mul_add, Nat.mul_one] at ih ⊢
    omega
theorem gone_le {t : Int} {S : List Ser} {x : Ser} (hx : x ∈ withoutF (notH (cutH t)) S) {s : Sm} (hs : s ∈ x.samples) : s.time ≤ t := by
  obtain ⟨y, _, _, e, _⟩ := withoutF_each hx
  rw [e] at hs
  have := (List.mem_filter.1 hs).2
  simpa [notH, cutH] using this
theorem kept_gt {t : Int} {S : List Ser} {x : Ser} (hx : x ∈ withoutF (cutH t) S) : x.samples ≠ [] ∧ ∀ s ∈ x.samples, ¬ s.time ≤ t := by
  obtain ⟨y, _, _, e, hne⟩ := withoutF_each hx
  refine ⟨hne, fun s hs => ?_⟩
  rw [e] at hs
  have := (List.mem_filter.1 hs).2
  simpa [cutH] using this
theorem apG_nil {e : Int × Int} (h : e.1 = 0) : apG e = .v .nilIface := by unfold apG; rw [if_pos h]
theorem apG_err {e : Int × Int} (h : ¬ e.1 = 0) : (apG e = .ifc 47 (gi e.1)) ∨ apG e = atG e.1 e.2 := by
  unfold apG
  rw [if_neg h]
  by_cases h2 : e.2 < 0
  · exact .inl (if_pos h2)
  · exact .inr (if_neg h2)
theorem headF_err {mk : Int} {S l : List Ser} (h : ¬ (headF mk S l).1.1 = 0) : (headF mk S l).2 = S := by
  unfold headF at h ⊢
  split
  · rfl
  · rename_i h40
    rw [if_neg h40] at h
    split
    · rename_i ht
      rw [ht] at h
      exact absurd rfl h
    · rfl
theorem tryH_ne {mk : Int} : ∀ {l S : List Ser} {i : Nat} {e : Int × Nat}, tryH mk S l i = some e → e.1 ≠ 0
  | [], _, _, _, h => by cases h
  | x :: r, S, i, e, h => by
    unfold tryH at h
    split at h
    · exact tryH_ne (l := r) h
    · rename_i hne
      cases h
      exact hne
theorem headF_fine {mk : Int} {S l : List Ser} (h : (headF mk S l).1.1 = 0) : tot (headF mk S l).2 = tot S + tot l := by
  unfold headF at h ⊢
  split
  · rename_i h40
    rw [if_pos h40] at h
    cases h
  · rename_i h40
    rw [if_neg h40] at h
    split
    · exact tot_foldl l S
    · rename_i e i ht
      rw [ht] at h
      exact absurd h (tryH_ne ht)
theorem headWhole_rt (mk t : Int) (L : List (List Ser)) : Rt pg 3 [gi mk, .sl 1 (L.map fun l => [ses l]), gi t] (.b true) := by
  refine Rt.of pg_ok Tryd.func3 rfl Tryd.ntmps3 rfl Tryd.results3 Tryd.call3 fun H0 S0 w0 h0 g0 => ?_
  have hLL : (L.map fun l => [ses l]).length = L.length := by simp
  by_cases h15 : 15 < L.length
  · refine p1 ?_ (decide_eq_true (by omega))
    exact ⟨rfl, rfl⟩
  refine p2 ?_ (decide_eq_false (by omega))
  refine GO (headed_rt.bt (d := true) rfl) rfl ?_
  repeat (first | refine p1 ?_ | refine p2 ?_ | refine p3 ?_ | refine p4 ?_)
  refine GOH (hnew_hf mk) id rfl rfl trivial rfl (fun _ h => absurd h (Nat.not_lt_zero _)) ?_
  rintro _ _ _ ⟨rfl, rfl, rfl⟩
  refine JK.loopE (α := Nat × List Ser) (β := List Ser) (fun z => ⟨[(0, gi mk), (1, .sl 1 (L.map fun l => [ses l])), (2, gi t), (7, .p 0 0), (8, gi z.1)], HD mk z.2, 2⟩) (fun z => z.1 ≤ L.length ∧ HOk z.2) (fun z => L.length - z.1)
    (fun S => ⟨[(0, gi mk), (2, gi t), (7, .p 0 0)], HD mk S, 2⟩) HOk (0, []) id ?_ ⟨Nat.zero_le _, HOk.nil⟩ ?_ ?_
  · exact ⟨⟨rfl, rfl, rfl, rfl, rfl, trivial⟩, ⟨rfl, rfl, trivial⟩, rfl⟩
  · rintro ⟨i, S⟩ ⟨hi, hS⟩
    simp only at hi hS
    obtain ⟨hb1, hb2⟩ := hS.bd
    refine V ?_
    by_cases hlt : i < L.length
    · refine p1 ?_ (decide_eq_true (by dsimp only; omega))
      refine ix (h := ?_)
      rcases tf (shS L[i]) with hsh | hsh
      · refine GO ((shortS_rt L[i]).bt hsh) rfl ?_
        repeat (first | refine p1 ?_ | refine p2 ?_ | refine p3 ?_ | refine p4 ?_)
        obtain ⟨hs1, hs2⟩ := shS_small hsh
        have hs3 : ∀ x ∈ L[i], x.samples.length ≤ 60 ∧ x.labels.length ≤ 20 ∧ Sh x.labels := fun x hx => by
          obtain ⟨h1, h2⟩ := shL_small (hs2 x hx).1
          exact ⟨(hs2 x hx).2, h1, fun y hy => by have := (h2 y hy).2; omega⟩
        have hser := hseries_hf mk S (by omega) (fun x hx => by have := hb2 x hx; omega)
        have happ := happend_hf mk S L[i] hS (by omega) (fun x hx => by obtain ⟨h1, h2, h3⟩ := hs3 x hx; exact ⟨h3, by omega, by omega⟩)
        have hS' := headF_ok L[i] hS (mk := mk)
        obtain ⟨hc1, hc2⟩ := hS'.bd
        have hser2 := hseries_hf mk (headF mk S L[i]).2 (by omega) (fun x hx => by have := hc2 x hx; omega)
        refine GOH hser id rfl rfl ⟨rfl, rfl, trivial⟩ rfl (id_lt rfl) ?_
        rintro _ _ _ ⟨rfl, rfl, rfl⟩
        refine ix (h := ?_)
        by_cases he : (headF mk S L[i]).1.1 = 0
        · have hfi := headF_fine he
          have ht1 := tot_bd 2000 (fun x hx => (hb2 x hx).1)
          have ht2 := tot_bd 2000 (fun x hx => (hc2 x hx).1)
          have ht3 := tot_bd 60 (fun x hx => (hs3 x hx).1)
          rw [apG_nil he] at happ
          refine GOH happ id rfl rfl ⟨rfl, rfl, trivial⟩ rfl (id_lt rfl) ?_
          rintro _ _ _ ⟨rfl, rfl, rfl⟩
          refine GOH hser2 (rr 0 2) rfl rfl ⟨rfl, rfl, trivial⟩ rfl (rr_lt rfl rfl) ?_
          rintro _ _ _ ⟨rfl, rfl, rfl⟩
          refine DRAW [] false (tk [0, 1, 2, 3, 4]) (by kernel_rfl) ?_
          repeat (first | refine p1 ?_ | refine p2 ?_ | refine p3 ?_ | refine p4 ?_)
          refine RSKIP 5 false (tk [6, 7, 8, 9, 10, 11, 12, 14, 16, 17, 18, 19]) rfl rfl (by kernel_rfl) ?_
          repeat (first | refine p1 ?_ | refine p2 ?_ | refine p3 ?_ | refine p4 ?_)
          refine ix (h := ?_)
          refine RGO 13 false (tk []) (count_rt (headF mk S L[i]).2 (by omega) (by omega)) rfl rfl (by kernel_rfl) ?_
          refine RGO 15 false (tk []) (count_rt S (by omega) (by omega)) rfl rfl (by kernel_rfl) ?_
          refine RGO 20 true (tk [21, 22, 23, 24]) (count_rt L[i] (by omega) (by omega)) rfl rfl (by kernel_rfl) ?_
          refine V ?_
          refine p2 ?_ (by rw [wrap_id (by omega) (by omega), hfi]; simp)
          exact ⟨(i + 1, (headF mk S L[i]).2), r1 1 2, ⟨⟨rfl, rfl, rfl, rfl, succ_gi (by omega), trivial⟩, ⟨rfl, rfl, trivial⟩, rfl⟩, ⟨hlt, hS'⟩, by dsimp only; omega⟩
        · have hSe := headF_err he
          rcases apG_err he with hg | hg
          all_goals (
            rw [hg, hSe] at happ
            refine GOH happ id rfl rfl ⟨rfl, rfl, trivial⟩ rfl (id_lt rfl) ?_
            rintro _ _ _ ⟨rfl, rfl, rfl⟩
            refine GOH hser (rr 0 2) rfl rfl ⟨rfl, rfl, trivial⟩ rfl (rr_lt rfl rfl) ?_
            rintro _ _ _ ⟨rfl, rfl, rfl⟩
            refine DRAW [] false (tk [0, 1, 2, 3, 4]) (by kernel_rfl) ?_
            repeat (first | refine p1 ?_ | refine p2 ?_ | refine p3 ?_ | refine p4 ?_)
            refine RGO 5 false (tk [6, 7, 8, 9, 10, 11, 12, 14, 16, 17, 18, 19]) ((sameSeriesK_rt S).bt (d := true) rfl) rfl rfl (by kernel_rfl) ?_
            repeat (first | refine p1 ?_ | refine p2 ?_ | refine p3 ?_ | refine p4 ?_)
            refine RSKIP 13 false (tk []) rfl rfl (by kernel_rfl) ?_
            refine RSKIP 15 false (tk []) rfl rfl (by kernel_rfl) ?_
            refine RSKIP 20 true (tk [21, 22, 23, 24]) rfl rfl (by kernel_rfl) ?_
            refine V ?_
            exact ⟨(i + 1, S), r1 1 2, ⟨⟨rfl, rfl, rfl, rfl, succ_gi (by omega), trivial⟩, ⟨rfl, rfl, trivial⟩, rfl⟩, ⟨hlt, hS⟩, by dsimp only; omega⟩)
      · refine GO ((shortS_rt L[i]).bt hsh) rfl ?_
        repeat (first | refine p1 ?_ | refine p2 ?_ | refine p3 ?_ | refine p4 ?_)
        exact ⟨rfl, rfl⟩
    · refine p2 ?_ (decide_eq_false (by dsimp only; omega))
      exact ⟨S, id, ⟨⟨rfl, rfl, rfl, trivial⟩, ⟨rfl, rfl, trivial⟩, rfl⟩, hS⟩
  · rintro S hS
    obtain ⟨hb1, hb2⟩ := hS.bd
    have hSl : (S.map se).length = S.length := by simp
    have hser := hseries_hf mk S (by omega) (fun x hx => by have := hb2 x hx; omega)
    refine V ?_
    refine GOH hser id rfl rfl ⟨rfl, rfl, trivial⟩ rfl (id_lt rfl) ?_
    rintro _ _ _ ⟨rfl, rfl, rfl⟩
    refine JK.loopE (α := Nat) (β := Unit) (fun i => ⟨[(0, gi mk), (2, gi t), (7, .p 0 0), (12, ses S), (13, gi i)], HD mk S, 2⟩) (fun i => i ≤ S.length) (fun i => S.length - i)
      (fun _ => ⟨[(0, gi mk), (2, gi t), (7, .p 0 0), (12, ses S)], HD mk S, 2⟩) (fun _ => True) 0 id ?_ (Nat.zero_le _) ?_ ?_
    · exact ⟨⟨rfl, rfl, rfl, rfl, rfl, trivial⟩, ⟨rfl, rfl, trivial⟩, rfl⟩
    · rintro i hi
      replace hi : i ≤ S.length := hi
      refine V ?_
      by_cases hlt : i < S.length
      · obtain ⟨o1, o2, o3⟩ := hS.each S[i] (List.getElem_mem hlt)
        have hsl : (S[i].samples.map sm).length = S[i].samples.length := by simp
        have hs0 : 0 < S[i].samples.length := List.length_pos_iff.2 o3
        refine p1 ?_ (decide_eq_true (by omega))
        refine DRAW [] false (tk [0, 1, 2, 3, 4]) (by kernel_rfl) ?_
        refine ix (h := ?_)
        refine RGO 5 false (tk [6, 7, 8, 9, 10, 11, 12, 13, 14, 15, 16, 17, 18, 19, 20, 21, 22, 23, 24, 25, 26, 27, 28, 29, 30]) ((Rq.old Tryd.call11 (right_ct S[i].samples)).bt o2) rfl rfl (by kernel_rfl) ?_
        refine ix (h := ?_)
        refine p4 ?_ (beq_false_of_ne (by omega))
        by_cases h0 : i = 0
        · subst h0
          refine p2 ?_ (decide_eq_false (by omega))
          refine RSKIP 31 true (tk [32, 33, 34]) rfl rfl (by kernel_rfl) ?_
          refine V ?_
          exact ⟨1, id, ⟨⟨rfl, rfl, rfl, rfl, rfl, trivial⟩, ⟨rfl, rfl, trivial⟩, rfl⟩, hlt, by show S.length - 1 < S.length - 0; omega⟩
        · have hpw : cmpF S[i - 1].labels S[i].labels < 0 := List.pairwise_iff_getElem.1 hS.ris _ _ (by omega) hlt (by omega)
          refine p1 ?_ (decide_eq_true (by omega))
          refine idx (i - 1) (by rw [wrap_id (by omega) (by omega)]; omega) (by omega) ?_
          refine ix (h := ?_)
          refine RGO 31 true (tk [32, 33, 34]) (lcompare_rt S[i - 1].labels S[i].labels) rfl (congrArg (fun c => bif (c == true) then some (12, [lbs S[i - 1].labels, lbs S[i].labels]) else none) (decide_eq_true (show (i : Int) > 0 by omega))) (by kernel_rfl) ?_
          refine V ?_
          refine p2 ?_ (decide_eq_false (by omega))
          exact ⟨i + 1, id, ⟨⟨rfl, rfl, rfl, rfl, succ_gi (by omega), trivial⟩, ⟨rfl, rfl, trivial⟩, rfl⟩, hlt, by show S.length - (i + 1) < S.length - i; omega⟩
      · refine p2 ?_ (decide_eq_false (by omega))
        exact ⟨(), id, ⟨⟨rfl, rfl, rfl, rfl, trivial⟩, ⟨rfl, rfl, trivial⟩, rfl⟩, trivial⟩
    · rintro _ _
      have hcut := hcut_hf mk t S (by omega) (fun x hx => by have := hb2 x hx; omega)
      have hG := hS.without (notH (cutH t))
      have hK := hS.without (cutH t)
      have hj := joined_cut t hS.ris (fun x hx => ⟨((okS_iff _).1 (hS.each x hx).2.1).1.up, (hS.each x hx).2.2⟩)
      have hg1 : ∀ x ∈ withoutF (notH (cutH t)) S, ∀ s ∈ x.samples, s.time ≤ t := fun x hx s hs => gone_le hx hs
      have hk1 : ∀ x ∈ withoutF (cutH t) S, x.samples ≠ [] ∧ ∀ s ∈ x.samples, ¬ s.time ≤ t := fun x hx => kept_gt hx
      generalize withoutF (notH (cutH t)) S = G at hcut hG hj hg1
      generalize withoutF (cutH t) S = K at hcut hK hj hk1
      obtain ⟨gb1, gb2⟩ := hG.bd
      obtain ⟨kb1, kb2⟩ := hK.bd
      have hGl : (G.map se).length = G.length := by simp
      have hKl : (K.map se).length = K.length := by simp
      have hser2 := hseries_hf (max mk t) K (by omega) (fun x hx => by have := kb2 x hx; omega)
      refine V ?_
      refine GOH hcut id rfl rfl ⟨rfl, rfl, trivial⟩ rfl (id_lt rfl) ?_
      rintro _ _ _ ⟨rfl, rfl, rfl⟩
      refine GOH hser2 (rr 0 2) rfl rfl ⟨rfl, rfl, trivial⟩ rfl (rr_lt rfl rfl) ?_
      rintro _ _ _ ⟨rfl, rfl, rfl⟩
      refine JK.loopE (α := Nat) (β := Unit) (fun i => ⟨[(0, gi mk), (2, gi t), (7, .p 0 0), (12, ses S), (14, ses G), (15, ses K), (16, gi i)], HD2 (max mk t) K, 3⟩) (fun i => i ≤ G.length) (fun i => G.length - i)
        (fun _ => ⟨[(0, gi mk), (2, gi t), (7, .p 0 0), (12, ses S), (14, ses G), (15, ses K)], HD2 (max mk t) K, 3⟩) (fun _ => True) 0 id ?_ (Nat.zero_le _) ?_ ?_
      · exact ⟨⟨rfl, rfl, rfl, rfl, rfl, rfl, rfl, trivial⟩, ⟨rfl, rfl, trivial⟩, rfl⟩
      · rintro i hi
        replace hi : i ≤ G.length := hi
        refine V ?_
        by_cases hlt : i < G.length
        · have hsl : (G[i].samples.map sm).length = G[i].samples.length := by simp
          have hgs := (gb2 G[i] (List.getElem_mem hlt)).1
          refine p1 ?_ (decide_eq_true (by omega))
          refine JK.loopE (α := Nat) (β := Unit) (fun k => ⟨[(0, gi mk), (2, gi t), (7, .p 0 0), (12, ses S), (14, ses G), (15, ses K), (16, gi i), (17, gi k)], HD2 (max mk t) K, 3⟩) (fun k => k ≤ G[i].samples.length) (fun k => G[i].samples.length - k)
            (fun _ => ⟨[(0, gi mk), (2, gi t), (7, .p 0 0), (12, ses S), (14, ses G), (15, ses K), (16, gi i)], HD2 (max mk t) K, 3⟩) (fun _ => True) 0 id ?_ (Nat.zero_le _) ?_ ?_
          · exact ⟨⟨rfl, rfl, rfl, rfl, rfl, rfl, rfl, rfl, trivial⟩, ⟨rfl, rfl, trivial⟩, rfl⟩
          · rintro k hk
            replace hk : k ≤ G[i].samples.length := hk
            refine V ?_
            refine ix (h := ?_)
            by_cases hkl : k < G[i].samples.length
            · refine p1 ?_ (decide_eq_true (by omega))
              refine ix (h := ?_)
              refine ix (h := ?_)
              have hle := hg1 G[i] (List.getElem_mem hlt) G[i].samples[k] (List.getElem_mem hkl)
              refine p2 ?_ (decide_eq_false (by omega))
              exact ⟨k + 1, id, ⟨⟨rfl, rfl, rfl, rfl, rfl, rfl, rfl, succ_gi (by omega), trivial⟩, ⟨rfl, rfl, trivial⟩, rfl⟩, hkl, by show G[i].samples.length - (k + 1) < G[i].samples.length - k; omega⟩
            · refine p2 ?_ (decide_eq_false (by omega))
              exact ⟨(), id, ⟨⟨rfl, rfl, rfl, rfl, rfl, rfl, rfl, trivial⟩, ⟨rfl, rfl, trivial⟩, rfl⟩, trivial⟩
          · rintro _ _
            refine V ?_
            exact ⟨i + 1, id, ⟨⟨rfl, rfl, rfl, rfl, rfl, rfl, succ_gi (by omega), trivial⟩, ⟨rfl, rfl, trivial⟩, rfl⟩, hlt, by show G.length - (i + 1) < G.length - i; omega⟩
        · refine p2 ?_ (decide_eq_false (by omega))
          exact ⟨(), id, ⟨⟨rfl, rfl, rfl, rfl, rfl, rfl, trivial⟩, ⟨rfl, rfl, trivial⟩, rfl⟩, trivial⟩
      · rintro _ _
        refine V ?_
        refine JK.loopE (α := Nat) (β := Unit) (fun i => ⟨[(0, gi mk), (2, gi t), (7, .p 0 0), (12, ses S), (14, ses G), (15, ses K), (18, gi i)], HD2 (max mk t) K, 3⟩) (fun i => i ≤ K.length) (fun i => K.length - i)
          (fun _ => ⟨[(0, gi mk), (2, gi t), (7, .p 0 0), (12, ses S), (14, ses G), (15, ses K)], HD2 (max mk t) K, 3⟩) (fun _ => True) 0 id ?_ (Nat.zero_le _) ?_ ?_
        · exact ⟨⟨rfl, rfl, rfl, rfl, rfl, rfl, rfl, trivial⟩, ⟨rfl, rfl, trivial⟩, rfl⟩
        · rintro i hi
          replace hi : i ≤ K.length := hi
          refine V ?_
          by_cases hlt : i < K.length
          · obtain ⟨o1, o2⟩ := hk1 K[i] (List.getElem_mem hlt)
            have hsl : (K[i].samples.map sm).length = K[i].samples.length := by simp
            have hs0 : 0 < K[i].samples.length := List.length_pos_iff.2 o1
            have ho := o2 K[i].samples[0] (List.getElem_mem hs0)
            refine p1 ?_ (decide_eq_true (by omega))
            refine ix (h := ?_)
            refine p4 ?_ (beq_false_of_ne (by omega))
            refine ix (h := ?_)
            refine idx 0 rfl (by omega) ?_
            refine p2 ?_ (decide_eq_false ho)
            exact ⟨i + 1, id, ⟨⟨rfl, rfl, rfl, rfl, rfl, rfl, succ_gi (by omega), trivial⟩, ⟨rfl, rfl, trivial⟩, rfl⟩, hlt, by show K.length - (i + 1) < K.length - i; omega⟩
          · refine p2 ?_ (decide_eq_false (by omega))
            exact ⟨(), id, ⟨⟨rfl, rfl, rfl, rfl, rfl, rfl, trivial⟩, ⟨rfl, rfl, trivial⟩, rfl⟩, trivial⟩
        · rintro _ _
          refine V ?_
          have hjr := joined_rt G K (by omega) (by omega) (fun x hx => by have := gb2 x hx; omega) (fun x hx => by have := kb2 x hx; omega)
          rw [hj] at hjr
          refine GO hjr rfl ?_
          refine GO ((sameSeriesK_rt S).bt (d := true) rfl) rfl ?_
          repeat (first | refine p1 ?_ | refine p2 ?_ | refine p3 ?_ | refine p4 ?_)
          refine GOH (hmark_hf (max mk t) K) (rr 0 2) rfl rfl ⟨rfl, rfl, trivial⟩ rfl (rr_lt rfl rfl) ?_
          rintro _ _ _ ⟨rfl, rfl, rfl⟩
          refine ⟨?_, rfl⟩
          show (max mk t == (if mk < t then t else mk)) = true
          rw [if_max]
          exact beq_self_eq_true _
end Go.Proofs.YtaaoljhfepmkjaaDoor
