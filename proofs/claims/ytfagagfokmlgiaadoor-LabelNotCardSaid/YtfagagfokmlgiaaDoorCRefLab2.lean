/-
  Contracts: the document's answer on labels: order, text, Only, Fits; short labels, the same labels.
-/
import Derived.Test.YtfagagfokmlgiaaDoorCRefLab
namespace Go.Proofs.YtfagagfokmlgiaaDoor
open Go.GK Go.PL Go.RowKit
set_option maxRecDepth 100000
theorem eqLb (a b : Lb) : (sEq a.name b.name && (sEq a.value b.value && true)) = decide (cmpL1 a b = 0) := by
  rw [Bool.eq_iff_iff, decide_eq_true_iff, cmpL1_is.eq0, Bool.and_true, Bool.and_eq_true, sEq_iff, sEq_iff]
  obtain ⟨a1, a2⟩ := a
  obtain ⟨b1, b2⟩ := b
  simp
theorem refCompare_rt (a b : List Lb) (hla : a.length ≤ 1000000) (_ : b.length ≤ 1000000) : Rt pg 19 [.sl 2 (a.map lb), .sl 2 (b.map lb)] (gi (cmpF a b)) := by
  refine Rt.of pg_ok Tryd.func19 rfl Tryd.ntmps19 rfl Tryd.results19 Tryd.call19 fun H0 S0 w0 h0 g0 => ?_
  have ha0 : (a.map lb).length = a.length := by simp
  have hb0 : (b.map lb).length = b.length := by simp
  refine JK.loop (α := Nat) (fun i => ⟨[(0, .sl 2 (a.map lb)), (1, .sl 2 (b.map lb)), (5, gi i)], [], 0⟩) (fun i => i ≤ a.length ∧ i ≤ b.length ∧ ∀ j, j < i → a[j]? = b[j]?) (fun i => a.length - i) 0 id ?_ ⟨Nat.zero_le _, Nat.zero_le _, fun j hj => absurd hj (by omega)⟩ ?_
  · exact ⟨⟨rfl, rfl, rfl, trivial⟩, trivial, rfl⟩
  · rintro i ⟨hi, hj, hgood⟩
    refine V ?_
    have hlen : (¬ i < a.length ∨ ¬ i < b.length) → cmpF a b = sgnF a.length b.length := fun h => by
      rw [cmpF, lexC_len cmpL1 cmpL1_is.eq0 a b (fun k hk => hgood k (by omega))]
    by_cases ha : i < a.length
    · by_cases hb : i < b.length
      · repeat (first | refine p1 ?_ | refine p2 ?_ | refine p3 ?_ | refine p4 ?_)
        refine ⟨by kernel_rfl, ?_⟩
        repeat refine ix (h := ?_)
        have he := eqLb a[i] b[i]
        by_cases h : cmpL1 a[i] b[i] = 0
        · rw [decide_eq_true h] at he
          refine p1 ?_ he
          exact ⟨i + 1, id, ⟨⟨rfl, rfl, succ_gi (by omega), trivial⟩, trivial, rfl⟩, ⟨ha, hb, fun j hj => by
            rcases Nat.lt_succ_iff_lt_or_eq.1 hj with h1 | h1
            · exact hgood j h1
            · subst h1
              rw [List.getElem?_eq_getElem ha, List.getElem?_eq_getElem hb, (cmpL1_is.eq0 _ _).1 h]⟩, by show a.length - (i + 1) < a.length - i; omega⟩
        · rw [decide_eq_false h] at he
          refine p2 ?_ he
          refine ⟨by kernel_rfl, ?_⟩
          repeat refine ix (h := ?_)
          have hat : cmpF a b = cmpL1 a[i] b[i] := by rw [cmpF, lexC_at cmpL1 cmpL1_is.eq0 a b i a[i] b[i] hgood (List.getElem?_eq_getElem ha) (List.getElem?_eq_getElem hb) h]
          have hor := cmpL1_or a[i] b[i]
          have hr := cmpL1_is.rng a[i] b[i]
          have h1 := sLt_cmp a[i].name b[i].name
          have h2 := sLt_cmp a[i].value b[i].value
          have h3 : sEq a[i].name b[i].name = decide (cmpS a[i].name b[i].name = 0) := by rw [Bool.eq_iff_iff, sEq_iff, decide_eq_true_iff, cmpS_is.eq0]
          by_cases hc1 : cmpS a[i].name b[i].name = 0
          · rw [if_pos hc1] at hor
            rw [decide_eq_false (by omega : ¬ cmpS a[i].name b[i].name = -1)] at h1
            rw [decide_eq_true hc1] at h3
            rw [← hor] at h2
            by_cases hc2 : cmpL1 a[i] b[i] = -1
            · rw [decide_eq_true hc2] at h2
              repeat (first | refine p1 ?_ | refine p2 ?_ | refine p3 ?_ | refine p4 ?_ | refine ix (h := ?_))
              exact ⟨by rw [hat, hc2]; rfl, rfl⟩
            · rw [decide_eq_false hc2] at h2
              repeat (first | refine p1 ?_ | refine p2 ?_ | refine p3 ?_ | refine p4 ?_ | refine ix (h := ?_))
              exact ⟨by rw [hat, (by omega : cmpL1 a[i] b[i] = 1)]; rfl, rfl⟩
          · rw [if_neg hc1] at hor
            rw [decide_eq_false hc1] at h3
            rw [← hor] at h1
            by_cases hc2 : cmpL1 a[i] b[i] = -1
            · rw [decide_eq_true hc2] at h1
              repeat (first | refine p1 ?_ | refine p2 ?_ | refine p3 ?_ | refine p4 ?_ | refine ix (h := ?_))
              exact ⟨by rw [hat, hc2]; rfl, rfl⟩
            · rw [decide_eq_false hc2] at h1
              repeat (first | refine p1 ?_ | refine p2 ?_ | refine p3 ?_ | refine p4 ?_ | refine ix (h := ?_))
              exact ⟨by rw [hat, (by omega : cmpL1 a[i] b[i] = 1)]; rfl, rfl⟩
      · have := hlen (.inr hb)
        repeat (first | refine p1 ?_ | refine p2 ?_ | refine p3 ?_ | refine p4 ?_)
        exact ⟨by rw [this, sgnF, if_neg (by omega), if_pos (by omega)]; rfl, rfl⟩
    · have := hlen (.inl ha)
      by_cases hb : i < b.length
      · repeat (first | refine p1 ?_ | refine p2 ?_ | refine p3 ?_ | refine p4 ?_)
        exact ⟨by rw [this, sgnF, if_pos (by omega)]; rfl, rfl⟩
      · repeat (first | refine p1 ?_ | refine p2 ?_ | refine p3 ?_ | refine p4 ?_)
        exact ⟨by rw [this, sgnF, if_neg (by omega), if_neg (by omega)]; rfl, rfl⟩
theorem refText_rt (l : List Lb) (hl : Hl l) : Rt pg 21 [.sl 2 (l.map lb)] (gs (textF l)) := by
  refine Rt.of pg_ok Tryd.func21 rfl Tryd.ntmps21 rfl Tryd.results21 Tryd.call21 fun H0 S0 w0 h0 g0 => ?_
  have hl1 := hl.len
  have hll : (l.map lb).length = l.length := by simp
  have e1 : ByteArray.size ⟨#[61]⟩ = 1 := rfl
  have e2 : ByteArray.size ⟨#[34]⟩ = 1 := rfl
  have e3 : ByteArray.size ⟨#[44]⟩ = 1 := rfl
  have e4 : ByteArray.size ⟨#[125]⟩ = 1 := rfl
  have hj : ∀ i, i ≤ l.length → ((([44] : List UInt8).intercalate ((l.take i).map itemF))).length ≤ 2004000 := fun i hi => by
    have := inter_len (l := (l.take i).map itemF) (m := 2003) (fun x hx => by obtain ⟨y, hy, rfl⟩ := List.mem_map.1 hx; exact item_len hl y (List.mem_of_mem_take hy))
    rw [List.length_map, List.length_take] at this
    omega
  refine JK.loopE (α := Nat) (β := Unit) (fun i => ⟨[(3, gs (bs ([123] ++ ([44] : List UInt8).intercalate ((l.take i).map itemF)))), (6, .sl 2 (l.map lb)), (7, gi (l.map lb).length), (8, gi i)], [], 0⟩) (fun i => i ≤ l.length) (fun i => l.length - i)
    (fun _ => ⟨[(3, gs (bs ([123] ++ ([44] : List UInt8).intercalate (l.map itemF))))], [], 0⟩) (fun _ => True) 0 id ?_ (Nat.zero_le _) ?_ ?_
  · exact ⟨⟨rfl, rfl, rfl, rfl, trivial⟩, trivial, rfl⟩
  · rintro i hi
    refine V ?_
    by_cases hlt : i < l.length
    · have hn := hl.name l[i] (List.getElem_mem hlt)
      have hv := hl.value l[i] (List.getElem_mem hlt)
      have hji := hj i hi
      have hsn : ([44] : List UInt8).intercalate ((l.take (i + 1)).map itemF) = if (l.take i).map itemF = [] then itemF l[i] else ([44] : List UInt8).intercalate ((l.take i).map itemF) ++ ([44] ++ itemF l[i]) := by
        rw [List.take_succ_eq_append_getElem hlt, List.map_append]
        exact inter_snoc _ _
      refine p1 ?_
      refine ix (h := ?_)
      by_cases h0 : 0 < i
      · have hne : ¬ (l.take i).map itemF = [] := fun e => by have := congrArg List.length e; rw [List.length_map, List.length_take, List.length_nil] at this; omega
        rw [if_neg hne] at hsn
        refine p1 ?_
        refine ⟨by rw [e3, bs_size, List.length_append]; exact Nat.le_trans (Nat.add_le_add_right (Nat.add_le_add_left hji _) _) (by decide), ?_⟩
        refine ⟨by rw [e1]; omega, ?_⟩
        refine ⟨by simp only [app_size, e1, e2]; omega, ?_⟩
        refine ⟨by simp only [app_size, e1, e2]; omega, ?_⟩
        refine ⟨by simp only [app_size, e1, e2]; omega, ?_⟩
        refine ⟨by simp only [app_size, e1, e2, e3, bs_size, List.length_append, List.length_cons, List.length_nil]; omega, ?_⟩
        refine ⟨i + 1, id, ⟨⟨?_, rfl, rfl, succ_gi (by omega), trivial⟩, trivial, rfl⟩, hlt, by show l.length - (i + 1) < l.length - i; omega⟩
        refine congrArg (fun x => some (gs x)) (ba_inj ?_)
        rw [hsn]
        simp only [ba_app, data_bs, itemF, List.append_assoc]
        rfl
      · have hi0 : i = 0 := by omega
        rw [if_pos (by rw [hi0]; rfl)] at hsn
        refine p2 ?_
        refine ⟨by rw [e1]; omega, ?_⟩
        refine ⟨by simp only [app_size, e1, e2]; omega, ?_⟩
        refine ⟨by simp only [app_size, e1, e2]; omega, ?_⟩
        refine ⟨by simp only [app_size, e1, e2]; omega, ?_⟩
        refine ⟨by simp only [app_size, e1, e2, bs_size, List.length_append, List.length_cons, List.length_nil]; omega, ?_⟩
        refine ⟨i + 1, id, ⟨⟨?_, rfl, rfl, succ_gi (by omega), trivial⟩, trivial, rfl⟩, hlt, by show l.length - (i + 1) < l.length - i; omega⟩
        refine congrArg (fun x => some (gs x)) (ba_inj ?_)
        rw [hsn]
        have : (l.take i).map itemF = [] := by rw [hi0]; rfl
        rw [this]
        simp only [ba_app, data_bs, itemF, List.append_assoc]
        rfl
    · refine p2 ?_
      obtain rfl : i = l.length := by omega
      exact ⟨(), id, ⟨⟨by rw [List.take_length]; rfl, trivial⟩, trivial, rfl⟩, trivial⟩
  · rintro _ _
    refine V ?_
    have hjl := hj l.length (Nat.le_refl _)
    rw [List.take_length] at hjl
    refine ⟨by rw [e4, bs_size, List.length_append]; exact Nat.le_trans (Nat.add_le_add_right (Nat.add_le_add_left hjl _) _) (by decide), ?_⟩
    refine ⟨?_, rfl⟩
    show gs _ = gs _
    refine congrArg gs (ba_inj ?_)
    simp only [ba_app, data_bs, textF, List.append_assoc]

theorem refOnly_rt (l : List Lb) (ns : List ByteArray) (hl : l.length ≤ 1000000) (hn : ns.length ≤ 1000000) : Rt pg 28 [.sl 2 (l.map lb), .sl 1 (ns.map fun x => [gs x])] (.sl 2 ((onlyF l ns).map lb)) := by
  refine Rt.of pg_ok Tryd.func28 rfl Tryd.ntmps28 rfl Tryd.results28 Tryd.call28 fun H0 S0 w0 h0 g0 => ?_
  have hll : (l.map lb).length = l.length := by simp
  have hnl : (ns.map fun x => [gs x]).length = ns.length := by simp
  refine JK.ownNil 5 74 2 rfl ?_
  refine JK.loopE (α := Nat) (β := Unit) (fun i => ⟨[(1, .sl 1 (ns.map fun x => [gs x])), (5, .o 0), (10, .sl 2 (l.map lb)), (11, gi (l.map lb).length), (12, gi i)], [(0, .row 74 2 ((onlyF (l.take i) ns).map lb))], 1⟩) (fun i => i ≤ l.length) (fun i => l.length - i)
    (fun _ => ⟨[(5, .o 0)], [(0, .row 74 2 ((onlyF l ns).map lb))], 1⟩) (fun _ => True) 0 id ?_ (Nat.zero_le _) ?_ ?_
  · exact ⟨⟨rfl, rfl, rfl, rfl, rfl, trivial⟩, ⟨rfl, trivial⟩, rfl⟩
  · rintro i hi
    refine V ?_
    by_cases hlt : i < l.length
    · have hon := only_snoc l ns i hlt
      have hlen := only_len (l.take i) ns
      rw [List.length_take] at hlen
      refine p1 ?_
      refine ix (h := ?_)
      refine JK.loopE (α := Nat) (β := Unit) (fun j => ⟨[(1, .sl 1 (ns.map fun x => [gs x])), (5, .o 0), (7, .p 1 0), (10, .sl 2 (l.map lb)), (11, gi (l.map lb).length), (12, gi i), (16, .sl 1 (ns.map fun x => [gs x])), (17, gi (ns.map fun x => [gs x]).length), (18, gi j)], [(0, .row 74 2 ((onlyF (l.take i) ns).map lb)), (1, .blk 74 (lb l[i]))], 2⟩)
        (fun j => j ≤ ns.length ∧ ∀ k (h : k < ns.length), k < j → sEq l[i].name ns[k] = false) (fun j => ns.length - j)
        (fun _ => ⟨[(1, .sl 1 (ns.map fun x => [gs x])), (5, .o 0), (10, .sl 2 (l.map lb)), (11, gi (l.map lb).length), (12, gi i)], [(0, .row 74 2 ((onlyF (l.take (i + 1)) ns).map lb))], 1⟩) (fun _ => True) 0 (fun i => i) ?_ ⟨Nat.zero_le _, fun k h hk => absurd hk (by omega)⟩ ?_ ?_
      · exact ⟨⟨rfl, rfl, rfl, rfl, rfl, rfl, rfl, rfl, rfl, trivial⟩, ⟨rfl, rfl, trivial⟩, rfl⟩
      · rintro j ⟨hj, hg⟩
        refine V ?_
        by_cases hjl : j < ns.length
        · refine p1 ?_
          refine ix (h := ?_)
          cases h : sEq l[i].name ns[j] with
          | true =>
            have h' : sEq ns[j] l[i].name = true := sEq_iff.2 (sEq_iff.1 h).symm
            refine p1 ?_ h'
            refine ⟨by simp; omega, ?_⟩
            refine ⟨(), fun _ => 3, ⟨⟨rfl, rfl, rfl, rfl, rfl, trivial⟩, ⟨?_, trivial⟩, rfl⟩, trivial⟩
            have hc : conS ns l[i].name = true := by unfold conS; rw [List.any_eq_true]; exact ⟨ns[j], List.getElem_mem hjl, h⟩
            rw [hon, hc, List.map_append]
            rfl
          | false =>
            have h' : sEq ns[j] l[i].name = false := sEq_false.2 (fun e => sEq_false.1 h e.symm)
            refine p2 ?_ h'
            exact ⟨j + 1, id, ⟨⟨rfl, rfl, rfl, rfl, rfl, rfl, rfl, rfl, succ_gi (by omega), trivial⟩, ⟨rfl, rfl, trivial⟩, rfl⟩, ⟨hjl, fun k hk hkj => by
              rcases Nat.lt_succ_iff_lt_or_eq.1 hkj with h1 | h1
              · exact hg k hk h1
              · subst h1; exact h⟩, by show ns.length - (j + 1) < ns.length - j; omega⟩
        · refine p2 ?_
          refine ⟨(), id, ⟨⟨rfl, rfl, rfl, rfl, rfl, trivial⟩, ⟨?_, trivial⟩, rfl⟩, trivial⟩
          have hc : conS ns l[i].name = false := by
            unfold conS; rw [List.any_eq_false]
            intro y hy he
            obtain ⟨k, hk, rfl⟩ := List.getElem_of_mem hy
            rw [hg k hk (by omega)] at he
            cases he
          rw [hon, hc]
          simp
          rfl
      · rintro _ _
        refine V ?_
        exact ⟨i + 1, id, ⟨⟨rfl, rfl, rfl, rfl, succ_gi (by omega), trivial⟩, ⟨rfl, trivial⟩, rfl⟩, hlt, by show l.length - (i + 1) < l.length - i; omega⟩
    · refine p2 ?_
      obtain rfl : i = l.length := by omega
      exact ⟨(), id, ⟨⟨rfl, trivial⟩, ⟨by rw [List.take_length]; rfl, trivial⟩, rfl⟩, trivial⟩
  · rintro _ _
    refine FRZ 0 rfl ?_
    exact ⟨rfl, rfl⟩
theorem fits_rt (l : List Lb) (m : List Mt) (hm : ∀ x ∈ m, 0 ≤ x.op ∧ x.op ≤ 3) (hml : m.length ≤ 1000000) : Rt pg 14 [.sl 2 (l.map lb), .sl 3 (m.map mt)] (.b (allF l m)) := by
  refine Rt.of pg_ok Tryd.func14 rfl Tryd.ntmps14 rfl Tryd.results14 Tryd.call14 fun H0 S0 w0 h0 g0 => ?_
  have hll : (m.map mt).length = m.length := by simp
  refine JK.loop (α := Nat) (fun i => ⟨[(0, .sl 2 (l.map lb)), (10, .sl 3 (m.map mt)), (11, gi (m.map mt).length), (12, gi i)], [], 0⟩) (fun i => i ≤ m.length ∧ allF l (m.take i) = true) (fun i => m.length - i) 0 id ?_ ⟨Nat.zero_le _, rfl⟩ ?_
  · exact ⟨⟨rfl, rfl, rfl, rfl, trivial⟩, trivial, rfl⟩
  · rintro i ⟨hi, hgood⟩
    refine V ?_
    by_cases hlt : i < m.length
    · have hop := hm m[i] (List.getElem_mem hlt)
      have hsn : allF l (m.take (i + 1)) = oneF l m[i] := by
        unfold allF at hgood ⊢
        rw [List.take_succ_eq_append_getElem hlt, List.all_append, hgood]
        simp
      have hno : oneF l m[i] = false → allF l m = false := fun h => by
        unfold allF
        rw [List.all_eq_false]
        exact ⟨m[i], List.getElem_mem hlt, by rw [h]; decide⟩
      have fin : ∀ (c : Bool), c = oneF l m[i] → (c = true → allF l (m.take (i + 1)) = true) ∧ (c = false → allF l m = false) := fun c e => ⟨fun h => by rw [hsn, ← e, h], fun h => hno (by rw [← e, h])⟩
      refine p1 ?_
      refine ix (h := ?_)
      refine GO (tell_rt l m[i].name) rfl ?_
      refine ⟨by kernel_rfl, ?_⟩
      have hpref : ∀ s p : ByteArray, p.size ≤ s.size → prefF s p = sEq (s.extract 0 p.size) p := fun s p h => by unfold prefF; rw [decide_eq_true h]; rfl
      have hpref0 : ∀ s p : ByteArray, ¬ p.size ≤ s.size → prefF s p = false := fun s p h => by unfold prefF; rw [decide_eq_false h]; rfl
      have h4 : m[i].op = 0 ∨ m[i].op = 1 ∨ m[i].op = 2 ∨ m[i].op = 3 := by omega
      by_cases hp : m[i].value.size ≤ (getF l m[i].name).size
      · have hpr := hpref _ _ hp
        refine p1 ?_
        refine ⟨by omega, by omega, by omega, ?_⟩
        rcases h4 with h4 | h4 | h4 | h4
        · cases hc : sEq (getF l m[i].name) m[i].value with
          | true =>
            have hone : oneF l m[i] = true := by unfold oneF; rw [if_pos h4]; exact hc
            refine ⟨_, by omega, by omega, (by rw [h4]; rfl), ?_⟩
            have hc2 : (!(sEq (getF l m[i].name) m[i].value)) = false := by rw [hc]; rfl
            have hc3 : (!(!(sEq (getF l m[i].name) m[i].value))) = true := by rw [hc]; rfl
            repeat (first | refine p1 ?_ | refine p2 ?_ | refine p3 ?_ | refine p4 ?_ | refine p1 ?_ hc2 | refine p2 ?_ hc2 | refine p1 ?_ hc3 | refine p2 ?_ hc3)
            exact ⟨i + 1, id, ⟨⟨rfl, rfl, rfl, succ_gi (by omega), trivial⟩, trivial, rfl⟩, ⟨hlt, hsn.trans hone⟩, by show m.length - (i + 1) < m.length - i; omega⟩
          | false =>
            have hone : oneF l m[i] = false := by unfold oneF; rw [if_pos h4]; exact hc
            refine ⟨_, by omega, by omega, (by rw [h4]; rfl), ?_⟩
            have hc2 : (!(sEq (getF l m[i].name) m[i].value)) = true := by rw [hc]; rfl
            have hc3 : (!(!(sEq (getF l m[i].name) m[i].value))) = false := by rw [hc]; rfl
            repeat (first | refine p1 ?_ | refine p2 ?_ | refine p3 ?_ | refine p4 ?_ | refine p1 ?_ hc2 | refine p2 ?_ hc2 | refine p1 ?_ hc3 | refine p2 ?_ hc3)
            exact ⟨(hno hone).symm, rfl⟩
        · cases hc : sEq (getF l m[i].name) m[i].value with
          | true =>
            have hone : oneF l m[i] = false := by unfold oneF; rw [if_neg (by omega), if_pos h4, hc]; rfl
            refine ⟨_, by omega, by omega, (by rw [h4]; rfl), ?_⟩
            have hc2 : (!(sEq (getF l m[i].name) m[i].value)) = false := by rw [hc]; rfl
            have hc3 : (!(!(sEq (getF l m[i].name) m[i].value))) = true := by rw [hc]; rfl
            repeat (first | refine p1 ?_ | refine p2 ?_ | refine p3 ?_ | refine p4 ?_ | refine p1 ?_ hc2 | refine p2 ?_ hc2 | refine p1 ?_ hc3 | refine p2 ?_ hc3)
            exact ⟨(hno hone).symm, rfl⟩
          | false =>
            have hone : oneF l m[i] = true := by unfold oneF; rw [if_neg (by omega), if_pos h4, hc]; rfl
            refine ⟨_, by omega, by omega, (by rw [h4]; rfl), ?_⟩
            have hc2 : (!(sEq (getF l m[i].name) m[i].value)) = true := by rw [hc]; rfl
            have hc3 : (!(!(sEq (getF l m[i].name) m[i].value))) = false := by rw [hc]; rfl
            repeat (first | refine p1 ?_ | refine p2 ?_ | refine p3 ?_ | refine p4 ?_ | refine p1 ?_ hc2 | refine p2 ?_ hc2 | refine p1 ?_ hc3 | refine p2 ?_ hc3)
            exact ⟨i + 1, id, ⟨⟨rfl, rfl, rfl, succ_gi (by omega), trivial⟩, trivial, rfl⟩, ⟨hlt, hsn.trans hone⟩, by show m.length - (i + 1) < m.length - i; omega⟩
        · cases hc : sEq ((getF l m[i].name).extract 0 m[i].value.size) m[i].value with
          | true =>
            have hone : oneF l m[i] = true := by unfold oneF; rw [if_neg (by omega), if_neg (by omega), if_pos h4, hpr, hc]
            refine ⟨_, by omega, by omega, (by rw [h4]; rfl), ?_⟩
            have hc2 : (!(sEq ((getF l m[i].name).extract 0 m[i].value.size) m[i].value)) = false := by rw [hc]; rfl
            have hc3 : (!(!(sEq ((getF l m[i].name).extract 0 m[i].value.size) m[i].value))) = true := by rw [hc]; rfl
            repeat (first | refine p1 ?_ | refine p2 ?_ | refine p3 ?_ | refine p4 ?_ | refine p1 ?_ hc2 | refine p2 ?_ hc2 | refine p1 ?_ hc3 | refine p2 ?_ hc3)
            exact ⟨i + 1, id, ⟨⟨rfl, rfl, rfl, succ_gi (by omega), trivial⟩, trivial, rfl⟩, ⟨hlt, hsn.trans hone⟩, by show m.length - (i + 1) < m.length - i; omega⟩
          | false =>
            have hone : oneF l m[i] = false := by unfold oneF; rw [if_neg (by omega), if_neg (by omega), if_pos h4, hpr, hc]
            refine ⟨_, by omega, by omega, (by rw [h4]; rfl), ?_⟩
            have hc2 : (!(sEq ((getF l m[i].name).extract 0 m[i].value.size) m[i].value)) = true := by rw [hc]; rfl
            have hc3 : (!(!(sEq ((getF l m[i].name).extract 0 m[i].value.size) m[i].value))) = false := by rw [hc]; rfl
            repeat (first | refine p1 ?_ | refine p2 ?_ | refine p3 ?_ | refine p4 ?_ | refine p1 ?_ hc2 | refine p2 ?_ hc2 | refine p1 ?_ hc3 | refine p2 ?_ hc3)
            exact ⟨(hno hone).symm, rfl⟩
        · cases hc : sEq ((getF l m[i].name).extract 0 m[i].value.size) m[i].value with
          | true =>
            have hone : oneF l m[i] = false := by unfold oneF; rw [if_neg (by omega), if_neg (by omega), if_neg (by omega), hpr, hc]; rfl
            refine ⟨_, by omega, by omega, (by rw [h4]; rfl), ?_⟩
            have hc2 : (!(sEq ((getF l m[i].name).extract 0 m[i].value.size) m[i].value)) = false := by rw [hc]; rfl
            have hc3 : (!(!(sEq ((getF l m[i].name).extract 0 m[i].value.size) m[i].value))) = true := by rw [hc]; rfl
            repeat (first | refine p1 ?_ | refine p2 ?_ | refine p3 ?_ | refine p4 ?_ | refine p1 ?_ hc2 | refine p2 ?_ hc2 | refine p1 ?_ hc3 | refine p2 ?_ hc3)
            exact ⟨(hno hone).symm, rfl⟩
          | false =>
            have hone : oneF l m[i] = true := by unfold oneF; rw [if_neg (by omega), if_neg (by omega), if_neg (by omega), hpr, hc]; rfl
            refine ⟨_, by omega, by omega, (by rw [h4]; rfl), ?_⟩
            have hc2 : (!(sEq ((getF l m[i].name).extract 0 m[i].value.size) m[i].value)) = true := by rw [hc]; rfl
            have hc3 : (!(!(sEq ((getF l m[i].name).extract 0 m[i].value.size) m[i].value))) = false := by rw [hc]; rfl
            repeat (first | refine p1 ?_ | refine p2 ?_ | refine p3 ?_ | refine p4 ?_ | refine p1 ?_ hc2 | refine p2 ?_ hc2 | refine p1 ?_ hc3 | refine p2 ?_ hc3)
            exact ⟨i + 1, id, ⟨⟨rfl, rfl, rfl, succ_gi (by omega), trivial⟩, trivial, rfl⟩, ⟨hlt, hsn.trans hone⟩, by show m.length - (i + 1) < m.length - i; omega⟩
      · have hpr := hpref0 _ _ hp
        refine p2 ?_
        rcases h4 with h4 | h4 | h4 | h4
        · cases hc : sEq (getF l m[i].name) m[i].value with
          | true =>
            have hone : oneF l m[i] = true := by unfold oneF; rw [if_pos h4]; exact hc
            refine ⟨_, by omega, by omega, (by rw [h4]; rfl), ?_⟩
            have hc2 : (!(sEq (getF l m[i].name) m[i].value)) = false := by rw [hc]; rfl
            have hc3 : (!(!(sEq (getF l m[i].name) m[i].value))) = true := by rw [hc]; rfl
            repeat (first | refine p1 ?_ | refine p2 ?_ | refine p3 ?_ | refine p4 ?_)
            exact ⟨i + 1, id, ⟨⟨rfl, rfl, rfl, succ_gi (by omega), trivial⟩, trivial, rfl⟩, ⟨hlt, hsn.trans hone⟩, by show m.length - (i + 1) < m.length - i; omega⟩
          | false =>
            have hone : oneF l m[i] = false := by unfold oneF; rw [if_pos h4]; exact hc
            refine ⟨_, by omega, by omega, (by rw [h4]; rfl), ?_⟩
            have hc2 : (!(sEq (getF l m[i].name) m[i].value)) = true := by rw [hc]; rfl
            have hc3 : (!(!(sEq (getF l m[i].name) m[i].value))) = false := by rw [hc]; rfl
            repeat (first | refine p1 ?_ | refine p2 ?_ | refine p3 ?_ | refine p4 ?_)
            exact ⟨(hno hone).symm, rfl⟩
        · cases hc : sEq (getF l m[i].name) m[i].value with
          | true =>
            have hone : oneF l m[i] = false := by unfold oneF; rw [if_neg (by omega), if_pos h4, hc]; rfl
            refine ⟨_, by omega, by omega, (by rw [h4]; rfl), ?_⟩
            have hc2 : (!(sEq (getF l m[i].name) m[i].value)) = false := by rw [hc]; rfl
            have hc3 : (!(!(sEq (getF l m[i].name) m[i].value))) = true := by rw [hc]; rfl
            repeat (first | refine p1 ?_ | refine p2 ?_ | refine p3 ?_ | refine p4 ?_)
            exact ⟨(hno hone).symm, rfl⟩
          | false =>
            have hone : oneF l m[i] = true := by unfold oneF; rw [if_neg (by omega), if_pos h4, hc]; rfl
            refine ⟨_, by omega, by omega, (by rw [h4]; rfl), ?_⟩
            have hc2 : (!(sEq (getF l m[i].name) m[i].value)) = true := by rw [hc]; rfl
            have hc3 : (!(!(sEq (getF l m[i].name) m[i].value))) = false := by rw [hc]; rfl
            repeat (first | refine p1 ?_ | refine p2 ?_ | refine p3 ?_ | refine p4 ?_)
            exact ⟨i + 1, id, ⟨⟨rfl, rfl, rfl, succ_gi (by omega), trivial⟩, trivial, rfl⟩, ⟨hlt, hsn.trans hone⟩, by show m.length - (i + 1) < m.length - i; omega⟩
        · have hone : oneF l m[i] = false := by unfold oneF; rw [if_neg (by omega), if_neg (by omega), if_pos h4, hpr]
          refine ⟨_, by omega, by omega, (by rw [h4]; rfl), ?_⟩
          repeat (first | refine p1 ?_ | refine p2 ?_ | refine p3 ?_ | refine p4 ?_)
          exact ⟨(hno hone).symm, rfl⟩
        · have hone : oneF l m[i] = true := by unfold oneF; rw [if_neg (by omega), if_neg (by omega), if_neg (by omega), hpr]; rfl
          refine ⟨_, by omega, by omega, (by rw [h4]; rfl), ?_⟩
          repeat (first | refine p1 ?_ | refine p2 ?_ | refine p3 ?_ | refine p4 ?_)
          exact ⟨i + 1, id, ⟨⟨rfl, rfl, rfl, succ_gi (by omega), trivial⟩, trivial, rfl⟩, ⟨hlt, hsn.trans hone⟩, by show m.length - (i + 1) < m.length - i; omega⟩
    · refine p2 ?_
      refine V ?_
      obtain rfl : i = m.length := by omega
      rw [List.take_length] at hgood
      exact ⟨hgood.symm, rfl⟩

/-- Labels, matchers that are short enough to be held, as the laws say. -/
def shL (l : List Lb) : Bool := decide (l.length ≤ 20) && !anyB l.length (fun i => decide (60 < (l.getD i default).name.size) || decide (60 < (l.getD i default).value.size))
def shM (l : List Mt) : Bool := decide (l.length ≤ 20) && !anyB l.length (fun i => decide (60 < (l.getD i default).name.size) || decide (60 < (l.getD i default).value.size))
theorem shL_Hl {l : List Lb} (h : shL l = true) : Hl l := by
  unfold shL at h
  rw [Bool.and_eq_true, decide_eq_true_iff, Bool.not_eq_true'] at h
  have key : ∀ x ∈ l, x.name.size ≤ 60 ∧ x.value.size ≤ 60 := fun x hx => by
    obtain ⟨i, hi, rfl⟩ := List.getElem_of_mem hx
    have := anyB_get h.2 i hi
    rw [show l.getD i default = l[i] by simp [hi], Bool.or_eq_false_iff, decide_eq_false_iff_not, decide_eq_false_iff_not] at this
    omega
  exact ⟨by omega, fun x hx => by have := key x hx; omega, fun x hx => by have := key x hx; omega⟩
theorem shM_le {l : List Mt} (h : shM l = true) : l.length ≤ 20 ∧ ∀ x ∈ l, x.name.size ≤ 60 ∧ x.value.size ≤ 60 := by
  unfold shM at h
  rw [Bool.and_eq_true, decide_eq_true_iff, Bool.not_eq_true'] at h
  refine ⟨h.1, fun x hx => ?_⟩
  obtain ⟨i, hi, rfl⟩ := List.getElem_of_mem hx
  have := anyB_get h.2 i hi
  rw [show l.getD i default = l[i] by simp [hi], Bool.or_eq_false_iff, decide_eq_false_iff_not, decide_eq_false_iff_not] at this
  omega
theorem Hl.sh {l : List Lb} (h : Hl l) : Sh l := fun x hx => by have := h.value x hx; omega
theorem shortL_rt (l : List Lb) : Rt pg 9 [.sl 2 (l.map lb)] (.b (shL l)) := by
  refine Rt.of pg_ok Tryd.func9 rfl Tryd.ntmps9 rfl Tryd.results9 Tryd.call9 fun H0 S0 w0 h0 g0 => ?_
  have hll : (l.map lb).length = l.length := by simp
  unfold shL
  by_cases hl : l.length ≤ 20
  · refine p2 ?_
    refine JK.loop (α := Nat) (fun i => ⟨[(0, .sl 2 (l.map lb)), (3, gi i)], [], 0⟩) (fun i => i ≤ l.length ∧ ∀ j, j < i → (decide (60 < (l.getD j default).name.size) || decide (60 < (l.getD j default).value.size)) = false) (fun i => l.length - i) 0 id ?_ ⟨Nat.zero_le _, fun j hj => absurd hj (by omega)⟩ ?_
    · exact ⟨⟨rfl, rfl, trivial⟩, trivial, rfl⟩
    · rintro i ⟨hi, hgood⟩
      refine V ?_
      by_cases hlt : i < l.length
      · have hg : l.getD i default = l[i] := by simp [hlt]
        have hbad : (decide (60 < l[i].name.size) || decide (60 < l[i].value.size)) = true → (decide (l.length ≤ 20) && !anyB l.length (fun i => decide (60 < (l.getD i default).name.size) || decide (60 < (l.getD i default).value.size))) = false := fun h => by rw [anyB_true hlt (by rw [hg]; exact h)]; simp
        have hnext : (decide (60 < l[i].name.size) || decide (60 < l[i].value.size)) = false → ∀ j, j < i + 1 → (decide (60 < (l.getD j default).name.size) || decide (60 < (l.getD j default).value.size)) = false := fun h j hj => by
          rcases Nat.lt_succ_iff_lt_or_eq.1 hj with h1 | h1
          · exact hgood j h1
          · subst h1; rw [hg]; exact h
        by_cases h1 : 60 < l[i].name.size
        · repeat (first | refine p1 ?_ | refine p2 ?_ | refine p3 ?_ | refine p4 ?_ | refine ix (h := ?_))
          exact ⟨(hbad (by rw [decide_eq_true h1]; rfl)).symm, rfl⟩
        · by_cases h2 : 60 < l[i].value.size
          · repeat (first | refine p1 ?_ | refine p2 ?_ | refine p3 ?_ | refine p4 ?_ | refine ix (h := ?_))
            exact ⟨(hbad (by rw [decide_eq_true h2, Bool.or_true])).symm, rfl⟩
          · repeat (first | refine p1 ?_ | refine p2 ?_ | refine p3 ?_ | refine p4 ?_ | refine ix (h := ?_))
            exact ⟨i + 1, id, ⟨⟨rfl, succ_gi (by omega), trivial⟩, trivial, rfl⟩, ⟨hlt, hnext (by rw [decide_eq_false h1, decide_eq_false h2]; rfl)⟩, by show l.length - (i + 1) < l.length - i; omega⟩
      · refine p2 ?_
        refine V ?_
        obtain rfl : i = l.length := by omega
        exact ⟨by rw [anyB_false hgood, decide_eq_true hl]; rfl, rfl⟩
  · refine p1 ?_
    exact ⟨by rw [decide_eq_false hl]; rfl, rfl⟩
theorem shortM_rt (l : List Mt) : Rt pg 10 [.sl 3 (l.map mt)] (.b (shM l)) := by
  refine Rt.of pg_ok Tryd.func10 rfl Tryd.ntmps10 rfl Tryd.results10 Tryd.call10 fun H0 S0 w0 h0 g0 => ?_
  have hll : (l.map mt).length = l.length := by simp
  unfold shM
  by_cases hl : l.length ≤ 20
  · refine p2 ?_
    refine JK.loop (α := Nat) (fun i => ⟨[(0, .sl 3 (l.map mt)), (3, gi i)], [], 0⟩) (fun i => i ≤ l.length ∧ ∀ j, j < i → (decide (60 < (l.getD j default).name.size) || decide (60 < (l.getD j default).value.size)) = false) (fun i => l.length - i) 0 id ?_ ⟨Nat.zero_le _, fun j hj => absurd hj (by omega)⟩ ?_
    · exact ⟨⟨rfl, rfl, trivial⟩, trivial, rfl⟩
    · rintro i ⟨hi, hgood⟩
      refine V ?_
      by_cases hlt : i < l.length
      · have hg : l.getD i default = l[i] := by simp [hlt]
        have hbad : (decide (60 < l[i].name.size) || decide (60 < l[i].value.size)) = true → (decide (l.length ≤ 20) && !anyB l.length (fun i => decide (60 < (l.getD i default).name.size) || decide (60 < (l.getD i default).value.size))) = false := fun h => by rw [anyB_true hlt (by rw [hg]; exact h)]; simp
        have hnext : (decide (60 < l[i].name.size) || decide (60 < l[i].value.size)) = false → ∀ j, j < i + 1 → (decide (60 < (l.getD j default).name.size) || decide (60 < (l.getD j default).value.size)) = false := fun h j hj => by
          rcases Nat.lt_succ_iff_lt_or_eq.1 hj with h1 | h1
          · exact hgood j h1
          · subst h1; rw [hg]; exact h
        by_cases h1 : 60 < l[i].name.size
        · repeat (first | refine p1 ?_ | refine p2 ?_ | refine p3 ?_ | refine p4 ?_ | refine ix (h := ?_))
          exact ⟨(hbad (by rw [decide_eq_true h1]; rfl)).symm, rfl⟩
        · by_cases h2 : 60 < l[i].value.size
          · repeat (first | refine p1 ?_ | refine p2 ?_ | refine p3 ?_ | refine p4 ?_ | refine ix (h := ?_))
            exact ⟨(hbad (by rw [decide_eq_true h2, Bool.or_true])).symm, rfl⟩
          · repeat (first | refine p1 ?_ | refine p2 ?_ | refine p3 ?_ | refine p4 ?_ | refine ix (h := ?_))
            exact ⟨i + 1, id, ⟨⟨rfl, succ_gi (by omega), trivial⟩, trivial, rfl⟩, ⟨hlt, hnext (by rw [decide_eq_false h1, decide_eq_false h2]; rfl)⟩, by show l.length - (i + 1) < l.length - i; omega⟩
      · refine p2 ?_
        refine V ?_
        obtain rfl : i = l.length := by omega
        exact ⟨by rw [anyB_false hgood, decide_eq_true hl]; rfl, rfl⟩
  · refine p1 ?_
    exact ⟨by rw [decide_eq_false hl]; rfl, rfl⟩
theorem sameL_rt (a b : List Lb) : Rt pg 26 [.sl 2 (a.map lb), .sl 2 (b.map lb)] (.b (decide (cmpF a b = 0))) := by
  refine Rt.of pg_ok Tryd.func26 rfl Tryd.ntmps26 rfl Tryd.results26 Tryd.call26 fun H0 S0 w0 h0 g0 => ?_
  have hla : (a.map lb).length = a.length := by simp
  have hlb : (b.map lb).length = b.length := by simp
  by_cases hl : a.length = b.length
  · refine p2 ?_
    refine JK.len 0 rfl fun hlen _ => ?_
    have hlen' : a.length ≤ 9223372036854775807 := by simpa [maxLen] using hlen
    refine JK.loop (α := Nat) (fun i => ⟨[(0, .sl 2 (a.map lb)), (1, .sl 2 (b.map lb)), (5, gi i)], [], 0⟩) (fun i => i ≤ a.length ∧ ∀ j, j < i → a[j]? = b[j]?) (fun i => a.length - i) 0 id ?_ ⟨Nat.zero_le _, fun j hj => absurd hj (by omega)⟩ ?_
    · exact ⟨⟨rfl, rfl, rfl, trivial⟩, trivial, rfl⟩
    · rintro i ⟨hi, hgood⟩
      refine V ?_
      by_cases ha : i < a.length
      · have hb : i < b.length := by omega
        refine p1 ?_
        refine ⟨by kernel_rfl, ?_⟩
        repeat refine ix (h := ?_)
        have he := eqLb a[i] b[i]
        by_cases h : cmpL1 a[i] b[i] = 0
        · rw [decide_eq_true h] at he
          refine p2 ?_ (show (!(sEq a[i].name b[i].name && (sEq a[i].value b[i].value && true))) = false by rw [he]; rfl)
          exact ⟨i + 1, id, ⟨⟨rfl, rfl, succ_gi (by omega), trivial⟩, trivial, rfl⟩, ⟨ha, fun j hj => by
            rcases Nat.lt_succ_iff_lt_or_eq.1 hj with h1 | h1
            · exact hgood j h1
            · subst h1
              rw [List.getElem?_eq_getElem ha, List.getElem?_eq_getElem hb, (cmpL1_is.eq0 _ _).1 h]⟩, by show a.length - (i + 1) < a.length - i; omega⟩
        · rw [decide_eq_false h] at he
          refine p1 ?_ (show (!(sEq a[i].name b[i].name && (sEq a[i].value b[i].value && true))) = true by rw [he]; rfl)
          have hat : cmpF a b = cmpL1 a[i] b[i] := by rw [cmpF, lexC_at cmpL1 cmpL1_is.eq0 a b i a[i] b[i] hgood (List.getElem?_eq_getElem ha) (List.getElem?_eq_getElem hb) h]
          exact ⟨by rw [decide_eq_false (by rw [hat]; exact h)]; rfl, rfl⟩
      · refine p2 ?_
        refine V ?_
        have : cmpF a b = 0 := by rw [cmpF, lexC_len cmpL1 cmpL1_is.eq0 a b (fun k hk => hgood k (by omega)), sgnF, if_neg (by omega), if_neg (by omega)]
        exact ⟨by rw [decide_eq_true this]; rfl, rfl⟩
  · refine p1 ?_
    have hne : cmpF a b ≠ 0 := fun h => hl (by rw [(cmpF_is.eq0 _ _).1 h])
    exact ⟨by rw [decide_eq_false hne]; rfl, rfl⟩
end Go.Proofs.YtfagagfokmlgiaaDoor
