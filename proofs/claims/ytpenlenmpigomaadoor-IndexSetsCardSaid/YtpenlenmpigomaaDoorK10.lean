/-
  Contracts: IndexSets.
-/
import Derived.Test.YtpenlenmpigomaaDoorK09
import Derived.Test.YtpenlenmpigomaaDoorK06
import Derived.Test.YtpenlenmpigomaaDoorRows
import Derived.ProofKit
import Derived.LaidMore
import Derived.Lay
import Derived.OpenShut
import Derived.Stop.Joined
namespace Go.Proofs.YtpenlenmpigomaaDoor
open Go.GK Go.PL Go.RowKit Go.Lib
set_option maxRecDepth 100000
theorem Hf_nl {f : FuncId} {n0 : Nat} {pre suf : List GV} {z : Nat} {σ : Heap} {Q : GV → Heap → Nat → Prop} (h : Hf pg f n0 (pre ++ .sl z [] :: suf) σ Q) : Hf pg f n0 (pre ++ .v (.slice none 0 0) :: suf) σ Q :=
  ⟨h.call, fun H us w hn hg hcs hs => h.ct H us w hn hg ⟨by rw [← hcs.1]; simp, fun j g hj => by
    by_cases hjp : j = pre.length
    · subst hjp
      rw [List.getElem?_append_right (Nat.le_refl _), Nat.sub_self] at hj
      cases hj
      have := (hcs.2 pre.length (.v (.slice none 0 0)) (by rw [List.getElem?_append_right (Nat.le_refl _), Nat.sub_self]; rfl)).inv_v
      rw [this]
      exact .ro .slnil
    · refine hcs.2 j g ?_
      by_cases hlt : j < pre.length
      · rw [List.getElem?_append_left hlt] at hj ⊢; exact hj
      · rw [List.getElem?_append_right (by omega)] at hj ⊢
        obtain ⟨k, hk⟩ : ∃ k, j - pre.length = k + 1 := ⟨j - pre.length - 1, by omega⟩
        rw [hk] at hj ⊢; exact hj⟩ hs⟩
theorem sameInts_rt (l : List Int) (hl : l.length ≤ 1000000) : Rt pg 9 [ils l, ils l] (.v (.bool true)) := by
  refine Rt.of pg_ok Tryd.func9 rfl Tryd.ntmps9 rfl Tryd.results9 Tryd.call9 fun H0 S0 w0 h0 g0 => ?_
  have hll := iRow_len l
  refine p2 ?_ (by simp)
  refine JK.loopE (α := Nat) (β := Unit) (fun i => ⟨[(0, ils l), (1, ils l), (5, gi i)], [], 0⟩) (fun i => i ≤ l.length) (fun i => l.length - i)
    (fun _ => ⟨[], [], 0⟩) (fun _ => True) 0 id ?_ (Nat.zero_le _) ?_ ?_
  · exact ⟨⟨rfl, rfl, rfl, trivial⟩, trivial, rfl⟩
  · rintro i hi
    replace hi : i ≤ l.length := hi
    refine V ?_
    by_cases hlt : i < l.length
    · refine p1 ?_ (decide_eq_true (by omega))
      refine ⟨by kernel_rfl, ?_⟩
      refine ix (h := ?_)
      refine ix (h := ?_)
      refine p2 ?_ (by simp)
      exact ⟨i + 1, id, ⟨⟨rfl, rfl, succ_gi (by omega), trivial⟩, trivial, rfl⟩, hlt, by show l.length - (i + 1) < l.length - i; omega⟩
    · refine p2 ?_ (decide_eq_false (by omega))
      exact ⟨(), id, ⟨trivial, trivial, rfl⟩, trivial⟩
  · rintro _ _
    refine V ?_
    exact ⟨rfl, rfl⟩
abbrev iS : List (List Lb) := [[⟨bA, bX⟩], [⟨bB, bY⟩]]
abbrev iM : List Mt := [⟨bA, 1, bX⟩]
theorem iS_r : ∀ s ∈ iS, rightF s = true := by decide +kernel
theorem iM_a : askedF iM = true := by decide +kernel
theorem iM_f : matF iS iM = [1] := by decide +kernel
theorem or_123 : orF [1, 3] [2, 3] = [1, 2, 3] := by
  refine ris_ext (orF_is _ _).1 (by decide) fun z => ?_
  rw [(orF_is _ _).2]
  simp
  omega
theorem indexed_rt : Rt pg 6 [] (.v (.bool true)) := by
  refine Rt.ofJ pg_ok Tryd.func6 rfl Tryd.ntmps6 rfl Tryd.results6 Tryd.call6 fun H0 S0 w0 h0 g0 => ?_
  have hnew := new_hf iS (fun s hs => by
    simp at hs
    rcases hs with rfl | rfl
    · exact ⟨fun y hy => by simp at hy; subst hy; decide, by simp⟩
    · exact ⟨fun y hy => by simp at hy; subst hy; decide, by simp⟩) (by simp)
  refine VM 10 ?_
  refine JK.freeze 0 rfl ?_
  refine JK.freeze 1 rfl ?_
  refine VM 1 ?_
  refine JK.freeze 2 rfl ?_
  refine GOH hnew id rfl rfl trivial rfl (fun _ h => absurd h (Nat.not_lt_zero _)) ?_
  rintro _ _ _ (⟨_, f, rfl, rfl, rfl⟩ | ⟨i, hi, _, h, _⟩)
  · repeat (first | refine p1 ?_ | refine p2 ?_ | refine p3 ?_ | refine p4 ?_)
    have hmat := match_hf iS f iM (by simp) iS_r (fun x hx => by simp at hx; subst hx; decide) (by simp)
    rw [if_pos iM_a, iM_f] at hmat
    refine JK.freeze 5 rfl ?_
    refine GOH hmat (rr 3 4) rfl rfl ⟨rfl, rfl, trivial⟩ rfl (rr_lt rfl rfl) ?_
    rintro _ _ _ ⟨f2, rfl, rfl, rfl⟩
    repeat (first | refine p1 ?_ | refine p2 ?_ | refine p3 ?_ | refine p4 ?_)
    refine JK.freeze 6 rfl ?_
    refine GOJ (Rq.hf (sameInts_rt [1] (by simp))) id rfl rfl trivial rfl (fun _ h => absurd h (Nat.not_lt_zero _)) ?_
    rintro _ _ _ ⟨rfl, rfl, rfl⟩
    refine VM 4 ?_
    refine JK.freeze 7 rfl ?_
    refine JK.freeze 8 rfl ?_
    have hor := ior_rt [1, 3] [2, 3] (by simp) (by simp)
    rw [or_123] at hor
    refine GOJ (Rq.hf hor) id rfl rfl trivial rfl (fun _ h => absurd h (Nat.not_lt_zero _)) ?_
    rintro _ _ _ ⟨rfl, rfl, rfl⟩
    refine VM 1 ?_
    refine JK.freeze 9 rfl ?_
    refine GO (sameInts_rt [1, 2, 3] (by simp)) rfl ?_
    exact ⟨rfl, rfl⟩
  · have := iS_r _ (List.getElem_mem hi)
    rw [h] at this
    cases this
theorem asked_app {a b : List Mt} (h : a.length + b.length ≤ 8) : askedF (a ++ b) = (askedF a && askedF b) := by
  have hall : ∀ l : List Mt, l.length ≤ 8 → askedF l = l.all fun x => !mbad x := fun l hl => by
    unfold askedF
    rw [decide_eq_true (by omega : l.length ≤ 8), Bool.and_true, Bool.eq_iff_iff, Bool.not_eq_true', List.all_eq_true]
    constructor
    · intro h x hx
      obtain ⟨i, hi, rfl⟩ := List.getElem_of_mem hx
      have := anyB_get h i hi
      rw [show l.getD i default = l[i] by simp [hi]] at this
      rw [this]
      rfl
    · intro h
      refine anyB_false fun i hi => ?_
      rw [show l.getD i default = l[i] by simp [hi]]
      have := h l[i] (List.getElem_mem hi)
      simpa using this
  rw [hall _ (by simp; omega), hall a (by omega), hall b (by omega), List.all_append]
theorem matF_app (S : List (List Lb)) (a b : List Mt) : matF S (a ++ b) = upL S.length fun i => allF (S.getD i []) a && allF (S.getD i []) b := by
  unfold matF
  refine upL_congr fun i _ => ?_
  simp [allF, List.all_append]
theorem Hf_if {f : FuncId} {n0 : Nat} {args : List GV} {σ : Heap} {S : List (List Lb)} {c : Bool} {A B : GV} (h : Hf pg f n0 args σ (IxQ S (if c = true then A else B))) {d : Bool} (e : c = d) : Hf pg f n0 args σ (IxQ S (bif d then A else B)) := by
  subst e
  cases c
  · exact h
  · exact h
theorem shL_len {l : List Lb} (h : shL l = true) : l.length ≤ 1000000 ∧ Sh l := by
  unfold shL at h
  rw [Bool.and_eq_true, decide_eq_true_iff, Bool.not_eq_true'] at h
  refine ⟨by omega, fun x hx => ?_⟩
  obtain ⟨i, hi, rfl⟩ := List.getElem_of_mem hx
  have := anyB_get h.2 i hi
  simp only [Bool.or_eq_false_iff, decide_eq_false_iff_not] at this
  have h2 := this.2
  rw [show l.getD i default = l[i] by simp [hi]] at h2
  omega
theorem ne_true_of_eq_false {c : Bool} (h : c = false) : ¬ c = true := by rw [h]; decide
theorem matF_nil (S : List (List Lb)) : matF S [] = upL S.length fun _ => true := upL_congr fun _ _ => rfl
theorem set_and1 {S : List (List Lb)} {m more : List Mt} : keepF (matF S m) (matF S more) true = matF S (m ++ more) := by
  rw [matF_app]
  unfold matF
  rw [keep_up]
  refine upL_congr fun i _ => ?_
  cases allF (S.getD i []) more <;> rfl
theorem set_and2 {S : List (List Lb)} {m more : List Mt} : keepF (matF S more) (matF S m) true = matF S (m ++ more) := by
  rw [matF_app]
  unfold matF
  rw [keep_up]
  refine upL_congr fun i _ => ?_
  cases allF (S.getD i []) more <;> cases allF (S.getD i []) m <;> rfl
theorem set_or1 {S : List (List Lb)} {m more : List Mt} : orF (matF S (m ++ more)) (keepF (matF S m) (matF S more) false) = matF S m := by
  rw [matF_app]
  unfold matF
  rw [keep_up, orF_up]
  refine upL_congr fun i _ => ?_
  cases allF (S.getD i []) more <;> cases allF (S.getD i []) m <;> rfl
theorem set_or2 {S : List (List Lb)} {m : List Mt} : orF (matF S m) (matF S []) = matF S [] := by
  rw [matF_nil]
  unfold matF
  rw [orF_up]
  refine upL_congr fun i _ => ?_
  simp
theorem set_not2 {S : List (List Lb)} : keepF (matF S []) (matF S []) false = [] := by
  rw [matF_nil, keep_up, ← upL_false S.length]
  exact upL_congr fun i _ => rfl
theorem indexSets_rt (S : List (List Lb)) (m more : List Mt) : Rt pg 3 [lss S, .sl 3 (m.map mt), .sl 3 (more.map mt)] (.b true) := by
  refine Rt.of pg_ok Tryd.func3 rfl Tryd.ntmps3 rfl Tryd.results3 Tryd.call3 fun H0 S0 w0 h0 g0 => ?_
  have hSl : (S.map fun s => [GV.sl 2 (s.map lb)]).length = S.length := by simp
  have hml : (m.map mt).length = m.length := by simp
  have hol : (more.map mt).length = more.length := by simp
  by_cases h30 : 30 < S.length
  · have e0 : decide ((S.map fun s => [GV.sl 2 (s.map lb)]).length > (30 : Int)) = true := decide_eq_true (by omega)
    repeat (first | refine p1 ?_ | refine p2 ?_ | refine p3 ?_ | refine p4 ?_)
    exact ⟨rfl, rfl⟩
  have e0 : decide ((S.map fun s => [GV.sl 2 (s.map lb)]).length > (30 : Int)) = false := decide_eq_false (by omega)
  repeat (first | refine p1 ?_ | refine p2 ?_ | refine p3 ?_ | refine p4 ?_)
  rcases tf (shM m) with hm | hm
  · refine GO ((kshortM_rt m).bt hm) rfl ?_
    repeat (first | refine p1 ?_ | refine p2 ?_ | refine p3 ?_ | refine p4 ?_)
    rcases tf (shM more) with ho | ho
    · refine GO ((kshortM_rt more).bt ho) rfl ?_
      repeat (first | refine p1 ?_ | refine p2 ?_ | refine p3 ?_ | refine p4 ?_)
      obtain ⟨hm1, hm2⟩ := shM_le hm
      obtain ⟨ho1, ho2⟩ := shM_le ho
      by_cases h8 : 8 < m.length + more.length
      · refine p1 ?_ (decide_eq_true (by rw [wrap_id (by omega) (by omega)]; omega))
        exact ⟨rfl, rfl⟩
      refine p2 ?_ (decide_eq_false (by rw [wrap_id (by omega) (by omega)]; omega))
      refine JK.loopE (α := Nat) (β := Unit) (fun i => ⟨[(0, lss S), (1, .sl 3 (m.map mt)), (2, .sl 3 (more.map mt)), (7, gi i)], [], 0⟩) (fun i => i ≤ S.length ∧ ∀ j (h : j < S.length), j < i → shL S[j] = true) (fun i => S.length - i)
        (fun _ => ⟨[(0, lss S), (1, .sl 3 (m.map mt)), (2, .sl 3 (more.map mt))], [], 0⟩) (fun _ => ∀ s ∈ S, shL s = true) 0 id ?_ ⟨Nat.zero_le _, fun j _ h => absurd h (Nat.not_lt_zero _)⟩ ?_ ?_
      · exact ⟨⟨rfl, rfl, rfl, rfl, trivial⟩, trivial, rfl⟩
      · rintro i ⟨hi, hok⟩
        refine V ?_
        by_cases hlt : i < S.length
        · refine p1 ?_ (decide_eq_true (by omega))
          refine ix (h := ?_)
          rcases tf (shL S[i]) with hs | hs
          · refine GO ((kshortL_rt S[i]).bt hs) rfl ?_
            refine ⟨i + 1, id, ⟨⟨rfl, rfl, rfl, succ_gi (by omega), trivial⟩, trivial, rfl⟩, ⟨hlt, fun j h h2 => ?_⟩, by show S.length - (i + 1) < S.length - i; omega⟩
            rcases Nat.lt_succ_iff_lt_or_eq.1 h2 with h3 | rfl
            · exact hok j h h3
            · exact hs
          · refine GO ((kshortL_rt S[i]).bt hs) rfl ?_
            exact ⟨rfl, rfl⟩
        · refine p2 ?_ (decide_eq_false (by omega))
          obtain rfl : i = S.length := by omega
          exact ⟨(), id, ⟨⟨rfl, rfl, rfl, trivial⟩, trivial, rfl⟩, fun s hs => by
            obtain ⟨j, hj, rfl⟩ := List.getElem_of_mem hs
            exact hok j hj hj⟩
      · rintro _ hsh
        have hsh' : ∀ s ∈ S, Sh s ∧ s.length ≤ 1000000 := fun s hs => by
          have h2 := shL_len (hsh s hs)
          exact ⟨h2.2, h2.1⟩
        have hA : Sm2 m := fun x hx => by have := hm2 x hx; omega
        have hB : Sm2 more := fun x hx => by have := ho2 x hx; omega
        have hAB : Sm2 (m ++ more) := fun x hx => by
          rcases List.mem_append.1 hx with h | h
          · exact hA x h
          · exact hB x h
        refine V ?_
        refine GO indexed_rt rfl ?_
        refine GOH (new_hf S hsh' (by omega)) id rfl rfl trivial rfl (fun _ h => absurd h (Nat.not_lt_zero _)) ?_
        rintro _ _ _ (⟨hr, f, rfl, rfl, rfl⟩ | ⟨i, hi, _, _, rfl, rfl, rfl⟩)
        · have hmA := fun f => match_hf S f m (by omega) hr hA (by omega)
          have hmB := fun f => match_hf S f more (by omega) hr hB (by omega)
          have hmC := fun f => match_hf S f (m ++ more) (by omega) hr hAB (by simp; omega)
          have hmN := fun f => match_hf S f [] (by omega) hr (fun x hx => by cases hx) (by simp)
          have eC : ([] ++ m.map mt) ++ more.map mt = (m ++ more).map mt := by simp
          rw [← eC] at hmC
          have hap := asked_app (a := m) (b := more) (by omega)
          have hN0 : askedF [] = true := by decide
          simp only [if_pos hN0] at hmN
          replace hmN := fun f => Hf_nl (pre := [.p 0 0]) (suf := []) (hmN f)
          repeat (first | refine p1 ?_ | refine p2 ?_ | refine p3 ?_ | refine p4 ?_)
          rcases tf (askedF m) with ha | ha
          · rcases tf (askedF more) with hb | hb
            · have hc : askedF (m ++ more) = true := by rw [hap, ha, hb]; rfl
              simp only [if_pos ha] at hmA
              simp only [if_pos hb] at hmB
              simp only [if_pos hc] at hmC
              refine GOH (hmA f) id rfl rfl ⟨rfl, rfl, trivial⟩ rfl (id_lt rfl) ?_
              rintro _ _ _ ⟨f1, rfl, rfl, rfl⟩
              refine GOH (hmB f1) id rfl rfl ⟨rfl, rfl, trivial⟩ rfl (id_lt rfl) ?_
              rintro _ _ _ ⟨f2, rfl, rfl, rfl⟩
              refine ⟨by simp only [List.map_nil, List.length_nil]; omega, ?_⟩
              refine ⟨by simp only [List.length_append, List.map_nil, List.length_nil]; omega, ?_⟩
              refine JK.freeze 4 rfl ?_
              refine GOH (hmC f2) id rfl rfl ⟨rfl, rfl, trivial⟩ rfl (id_lt rfl) ?_
              rintro _ _ _ ⟨f3, rfl, rfl, rfl⟩
              refine GOH (hmN f3) id rfl rfl ⟨rfl, rfl, trivial⟩ rfl (id_lt rfl) ?_
              rintro _ _ _ ⟨f4, rfl, rfl, rfl⟩
              repeat (first | refine p1 ?_ | refine p2 ?_ | refine p3 ?_ | refine p4 ?_)
              have hq := fun p => upL_len S.length p
              have hle := fun ms => hq fun i => allF (S.getD i []) ms
              have hN : ((iRow (matF S [])).length : Int) = ((S.map fun s => [GV.sl 2 (s.map lb)]).length : Int) := by
                rw [iRow_len, matF_nil, all_up, hSl]
                simp
              have hN2 : (((iRow (matF S [])).length : Int) != ((S.map fun s => [GV.sl 2 (s.map lb)]).length : Int)) = false := by rw [hN]; simp
              have hand1 := and_rt (matF S m) (matF S more) (by have := hle m; unfold matF; omega) (by have := hle more; unfold matF; omega) (upL_ris _ _)
              have hand2 := and_rt (matF S more) (matF S m) (by have := hle more; unfold matF; omega) (by have := hle m; unfold matF; omega) (upL_ris _ _)
              rw [set_and1] at hand1
              rw [set_and2] at hand2
              have hnot1 := not_rt (matF S m) (matF S more) (by have := hle m; unfold matF; omega) (by have := hle more; unfold matF; omega) (upL_ris _ _)
              have hkl := keep_len (matF S m) (matF S more) false
              have hor1 := ior_rt (matF S (m ++ more)) (keepF (matF S m) (matF S more) false) (by have := hle (m ++ more); unfold matF; omega) (by have := hle m; unfold matF at hkl ⊢; omega)
              rw [set_or1] at hor1
              have hor2 := ior_rt (matF S m) (matF S []) (by have := hle m; unfold matF; omega) (by have := hle []; unfold matF; omega)
              rw [set_or2] at hor2
              have hnot2 := not_rt (matF S []) (matF S []) (by have := hle []; unfold matF; omega) (by have := hle []; unfold matF; omega) (upL_ris _ _)
              rw [set_not2] at hnot2
              have same := fun ms => sameInts_rt (matF S ms) (by have := hle ms; unfold matF; omega)
              repeat (first | refine p1 ?_ | refine p2 ?_ | refine p3 ?_ | refine p4 ?_)
              refine GO hand1 rfl ?_
              repeat (first | refine p1 ?_ | refine p2 ?_ | refine p3 ?_ | refine p4 ?_)
              refine GO (same (m ++ more)) rfl ?_
              repeat (first | refine p1 ?_ | refine p2 ?_ | refine p3 ?_ | refine p4 ?_)
              refine GO hand2 rfl ?_
              repeat (first | refine p1 ?_ | refine p2 ?_ | refine p3 ?_ | refine p4 ?_)
              refine GO (same (m ++ more)) rfl ?_
              repeat (first | refine p1 ?_ | refine p2 ?_ | refine p3 ?_ | refine p4 ?_)
              refine GO hnot1 rfl ?_
              repeat (first | refine p1 ?_ | refine p2 ?_ | refine p3 ?_ | refine p4 ?_)
              refine GO hor1 rfl ?_
              repeat (first | refine p1 ?_ | refine p2 ?_ | refine p3 ?_ | refine p4 ?_)
              refine GO (same m) rfl ?_
              repeat (first | refine p1 ?_ | refine p2 ?_ | refine p3 ?_ | refine p4 ?_)
              refine GO hor2 rfl ?_
              repeat (first | refine p1 ?_ | refine p2 ?_ | refine p3 ?_ | refine p4 ?_)
              refine GO (same []) rfl ?_
              repeat (first | refine p1 ?_ | refine p2 ?_ | refine p3 ?_ | refine p4 ?_)
              refine GO hnot2 rfl ?_
              repeat (first | refine p1 ?_ | refine p2 ?_ | refine p3 ?_ | refine p4 ?_)
              have hcon : ∀ i (h : i < S.length), (matF S m).contains ((i : Nat) : Int) = allF S[i] m := fun i h => by
                rw [List.contains_eq_mem, Bool.eq_iff_iff, decide_eq_true_iff]
                unfold matF
                rw [mem_upL' h, show S.getD i [] = S[i] by simp [h]]
              refine JK.loopE (α := Nat) (β := Unit) (fun i => ⟨[(0, lss S), (1, .sl 3 (m.map mt)), (10, ils (matF S m)), (18, gi i)], [], 0⟩) (fun i => i ≤ S.length) (fun i => S.length - i)
                (fun _ => ⟨[], [], 0⟩) (fun _ => True) 0 id ?_ (Nat.zero_le _) ?_ ?_
              · exact ⟨⟨rfl, rfl, rfl, rfl, trivial⟩, trivial, rfl⟩
              · rintro i hi
                replace hi : i ≤ S.length := hi
                refine V ?_
                by_cases hlt : i < S.length
                · refine p1 ?_ (decide_eq_true (by omega))
                  have hco := containsI_rt (matF S m) (i : Int) (by have := hle m; unfold matF; omega)
                  rw [hcon i hlt] at hco
                  refine DRAW [] false (tk [0, 1, 3, 4, 5, 6, 7]) (by kernel_rfl) ?_
                  refine ix (h := ?_)
                  refine RGO 2 false (tk []) hco rfl rfl (by kernel_rfl) ?_
                  refine RGO 8 true (tk [9]) (lall_rt S[i] m (by omega)) rfl rfl (by kernel_rfl) ?_
                  refine V ?_
                  refine p2 ?_ (by simp)
                  exact ⟨i + 1, id, ⟨⟨rfl, rfl, rfl, succ_gi (by omega), trivial⟩, trivial, rfl⟩, hlt, by show S.length - (i + 1) < S.length - i; omega⟩
                · refine p2 ?_ (decide_eq_false (by omega))
                  exact ⟨(), id, ⟨trivial, trivial, rfl⟩, trivial⟩
              · rintro _ _
                refine V ?_
                exact ⟨rfl, rfl⟩
            · have hc : askedF (m ++ more) = false := by rw [hap, ha, hb]; rfl
              simp only [if_pos ha] at hmA
              simp only [if_neg (ne_true_of_eq_false hb)] at hmB
              simp only [if_neg (ne_true_of_eq_false hc)] at hmC
              refine GOH (hmA f) id rfl rfl ⟨rfl, rfl, trivial⟩ rfl (id_lt rfl) ?_
              rintro _ _ _ ⟨f1, rfl, rfl, rfl⟩
              refine GOH (hmB f1) id rfl rfl ⟨rfl, rfl, trivial⟩ rfl (id_lt rfl) ?_
              rintro _ _ _ ⟨f2, rfl, rfl, rfl⟩
              refine ⟨by simp only [List.map_nil, List.length_nil]; omega, ?_⟩
              refine ⟨by simp only [List.length_append, List.map_nil, List.length_nil]; omega, ?_⟩
              refine JK.freeze 4 rfl ?_
              refine GOH (hmC f2) id rfl rfl ⟨rfl, rfl, trivial⟩ rfl (id_lt rfl) ?_
              rintro _ _ _ ⟨f3, rfl, rfl, rfl⟩
              refine GOH (hmN f3) id rfl rfl ⟨rfl, rfl, trivial⟩ rfl (id_lt rfl) ?_
              rintro _ _ _ ⟨f4, rfl, rfl, rfl⟩
              repeat (first | refine p1 ?_ | refine p2 ?_ | refine p3 ?_ | refine p4 ?_)
              exact ⟨rfl, rfl⟩
          · rcases tf (askedF more) with hb | hb
            · have hc : askedF (m ++ more) = false := by rw [hap, ha, hb]; rfl
              simp only [if_neg (ne_true_of_eq_false ha)] at hmA
              simp only [if_pos hb] at hmB
              simp only [if_neg (ne_true_of_eq_false hc)] at hmC
              refine GOH (hmA f) id rfl rfl ⟨rfl, rfl, trivial⟩ rfl (id_lt rfl) ?_
              rintro _ _ _ ⟨f1, rfl, rfl, rfl⟩
              refine GOH (hmB f1) id rfl rfl ⟨rfl, rfl, trivial⟩ rfl (id_lt rfl) ?_
              rintro _ _ _ ⟨f2, rfl, rfl, rfl⟩
              refine ⟨by simp only [List.map_nil, List.length_nil]; omega, ?_⟩
              refine ⟨by simp only [List.length_append, List.map_nil, List.length_nil]; omega, ?_⟩
              refine JK.freeze 4 rfl ?_
              refine GOH (hmC f2) id rfl rfl ⟨rfl, rfl, trivial⟩ rfl (id_lt rfl) ?_
              rintro _ _ _ ⟨f3, rfl, rfl, rfl⟩
              refine GOH (hmN f3) id rfl rfl ⟨rfl, rfl, trivial⟩ rfl (id_lt rfl) ?_
              rintro _ _ _ ⟨f4, rfl, rfl, rfl⟩
              repeat (first | refine p1 ?_ | refine p2 ?_ | refine p3 ?_ | refine p4 ?_)
              exact ⟨rfl, rfl⟩
            · have hc : askedF (m ++ more) = false := by rw [hap, ha, hb]; rfl
              simp only [if_neg (ne_true_of_eq_false ha)] at hmA
              simp only [if_neg (ne_true_of_eq_false hb)] at hmB
              simp only [if_neg (ne_true_of_eq_false hc)] at hmC
              refine GOH (hmA f) id rfl rfl ⟨rfl, rfl, trivial⟩ rfl (id_lt rfl) ?_
              rintro _ _ _ ⟨f1, rfl, rfl, rfl⟩
              refine GOH (hmB f1) id rfl rfl ⟨rfl, rfl, trivial⟩ rfl (id_lt rfl) ?_
              rintro _ _ _ ⟨f2, rfl, rfl, rfl⟩
              refine ⟨by simp only [List.map_nil, List.length_nil]; omega, ?_⟩
              refine ⟨by simp only [List.length_append, List.map_nil, List.length_nil]; omega, ?_⟩
              refine JK.freeze 4 rfl ?_
              refine GOH (hmC f2) id rfl rfl ⟨rfl, rfl, trivial⟩ rfl (id_lt rfl) ?_
              rintro _ _ _ ⟨f3, rfl, rfl, rfl⟩
              refine GOH (hmN f3) id rfl rfl ⟨rfl, rfl, trivial⟩ rfl (id_lt rfl) ?_
              rintro _ _ _ ⟨f4, rfl, rfl, rfl⟩
              repeat (first | refine p1 ?_ | refine p2 ?_ | refine p3 ?_ | refine p4 ?_)
              exact ⟨rfl, rfl⟩
        · repeat (first | refine p1 ?_ | refine p2 ?_ | refine p3 ?_ | refine p4 ?_)
          exact ⟨rfl, rfl⟩
    · refine GO ((kshortM_rt more).bt ho) rfl ?_
      repeat (first | refine p1 ?_ | refine p2 ?_ | refine p3 ?_ | refine p4 ?_)
      exact ⟨rfl, rfl⟩
  · refine GO ((kshortM_rt m).bt hm) rfl ?_
    repeat (first | refine p1 ?_ | refine p2 ?_ | refine p3 ?_ | refine p4 ?_)
    exact ⟨rfl, rfl⟩
end Go.Proofs.YtpenlenmpigomaaDoor
/-
  A law's contract, as the row asks for it.
-/
namespace Go.Proofs.YtpenlenmpigomaaDoor
open Go.GK
theorem of_rt {f : FuncId} {gs : List GV} (h : Rt pg f gs (.b true)) : Ct pg f 0 gs [] (Val fun g => g = .b true) := by
  exact h.ct.weak fun g σ' n' hq => ⟨id, g, [], 0, ⟨hq.1.1, rfl, rfl⟩, (ren_id g).symm, trivial, by simp [hq.1.2, idbH, hids, distB, fixB]⟩
end Go.Proofs.YtpenlenmpigomaaDoor
/-
  Arguments by their shapes: labels and matchers.
-/
namespace Go.Proofs.YtpenlenmpigomaaDoor
open Go.GK Go.PL
theorem lb_list : ∀ (rows : List (List GV)), (∀ row ∈ rows, fitsL [.str, .str] row) → ∃ l : List Lb, rows = l.map lb
  | [], _ => ⟨[], rfl⟩
  | row :: rows, h => by
    obtain ⟨l, rfl⟩ := lb_list rows (fun r hr => h r (by simp [hr]))
    have h0 := h row (by simp)
    simp only [fitsL, fits] at h0
    obtain ⟨_, _, rfl, ⟨a, rfl, ha⟩, _, _, rfl, ⟨b, rfl, hb⟩, rfl⟩ := h0
    exact ⟨⟨a, b⟩ :: l, rfl⟩
theorem mt_list : ∀ (rows : List (List GV)), (∀ row ∈ rows, fitsL [.str, .int .i64, .str] row) → ∃ l : List Mt, rows = l.map mt
  | [], _ => ⟨[], rfl⟩
  | row :: rows, h => by
    obtain ⟨l, rfl⟩ := mt_list rows (fun r hr => h r (by simp [hr]))
    have h0 := h row (by simp)
    simp only [fitsL, fits] at h0
    obtain ⟨_, _, rfl, ⟨a, rfl, ha⟩, _, _, rfl, ⟨o, rfl, ho⟩, _, _, rfl, ⟨b, rfl, hb⟩, rfl⟩ := h0
    exact ⟨⟨a, o, b⟩ :: l, rfl⟩
end Go.Proofs.YtpenlenmpigomaaDoor
/-
  Arguments by their shapes: lists of labels of series.
-/
namespace Go.Proofs.YtpenlenmpigomaaDoor
open Go.GK Go.PL
theorem lbss_list : ∀ (rows : List (List GV)), (∀ row ∈ rows, fitsL [.slice [.str, .str]] row) → ∃ l : List (List Lb), rows = l.map fun s => [.sl 2 (s.map lb)]
  | [], _ => ⟨[], rfl⟩
  | row :: rows, h => by
    obtain ⟨l, rfl⟩ := lbss_list rows (fun r hr => h r (by simp [hr]))
    have h0 := h row (by simp)
    simp only [fitsL, fits] at h0
    obtain ⟨_, _, rfl, ⟨b, rfl, hb⟩, rfl⟩ := h0
    obtain ⟨x, rfl⟩ := lb_list b hb
    exact ⟨x :: l, rfl⟩
end Go.Proofs.YtpenlenmpigomaaDoor
/-
  What the rows of this seat have in common: nothing of what is laid is read; the world that holds what is laid.
-/
namespace Go.Proofs.YtpenlenmpigomaaDoor
open Go.GK Go.ChangeShapes Go.WideShapes Go.RowKit

abbrev rowLaid : List (String × DataW Unit) := [("unicode/utf8.acceptRanges", Rows.laid_unicode_utf8_acceptRanges), ("unicode/utf8.first", Rows.laid_unicode_utf8_first)]
theorem own : ownKnob Tryd.prog.godebug = none := by kernel_rfl
theorem laidOut : laidOutB Tryd.prog = true := by kernel_rfl
theorem gl_ok : ∀ H : Hid, GlOk pg H := by
  intro H g gv hg
  have hg' : GK.look gl g = some gv := hg
  unfold gl GK.look at hg'
  cases hg'
theorem laid_met (os : Os) (args : Array Value) : laidMetH Tryd.prog rowLaid ((World.laidAll Tryd.prog os rowLaid).forCall (fun _ _ => 0) ⟨#[], args, []⟩).memory := by
  rw [MakeChecks.laidMetH_plain _ _ _ (by kernel_rfl)]
  exact laidMet_laidAll _ (by kernel_rfl) (by kernel_rfl)
end Go.Proofs.YtpenlenmpigomaaDoor
