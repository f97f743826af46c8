/-
  Contracts: package roll.
-/
import Derived.Test.YtfagagfokmlgiaaDoorCPg
import Derived.Test.YtfagagfokmlgiaaDoorPRoll
namespace Go.Proofs.YtfagagfokmlgiaaDoor
open Go.GK Go.PL
set_option maxRecDepth 100000
abbrev bk (b : Bk) : List GV := [gi b.start, gi b.count, gi b.sum, gi b.min, gi b.max]
abbrev sm (x : Sm) : List GV := [gi x.time, gi x.value]

theorem floor_ct (t s : Int) (h : s ≠ 0) : Ct pg 40 0 [gi t, gi s] [] (Val fun g => g = gi (floorF t s)) := by
  refine Ct.val (Ct.of_JK pg_ok Tryd.func40 rfl Tryd.ntmps40 rfl Tryd.results40 fun H0 S0 w0 h0 g0 => ?_)
  refine vc_sound pg_ok 200 _ _ ?_
  refine ⟨h, ?_⟩
  unfold floorF
  refine ⟨fun hb => ?_, fun hb => ?_⟩
  · rw [if_pos (of_decide_eq_true hb)]
    exact ⟨rfl, rfl⟩
  · rw [if_neg (of_decide_eq_false hb)]
    exact ⟨rfl, rfl⟩
theorem one_ct (x : Sm) (s : Int) (h : s ≠ 0) : Ct pg 68 0 [.agg (sm x), gi s] [] (Val fun g => g = .agg (bk (oneF s x))) := by
  refine Ct.val (Ct.of_JK pg_ok Tryd.func68 rfl Tryd.ntmps68 rfl Tryd.results68 fun H0 S0 w0 h0 g0 => ?_)
  refine vc_sound pg_ok 200 _ _ ?_
  refine JK.draw [1] pg_ok ?_
  refine RA.run (e := false) pg_ok (by kernel_rfl) (fun _ _ h => h) (tk [0, 1, 2, 4,5,6,7,8,9]) (by kernel_rfl) ?_
  refine RA.call (n0 := 0) (r := id) 3 (floor_ct x.time s h) Tryd.call40 rfl (by kernel_rfl) rfl rfl rfl rfl rfl trivial rfl (by simp) ?_
  rintro g σ' n' ⟨rfl, rfl, rfl⟩
  refine RA.run (e := true) pg_ok (by kernel_rfl) (fun _ _ h => h) (tk [10,11]) (by kernel_rfl) ?_
  refine vc_sound pg_ok 200 _ _ ?_
  exact ⟨rfl, rfl⟩
theorem both_ct (a b : Bk) : Ct pg 91 0 [.agg (bk a), .agg (bk b)] [] (Val fun g => g = .agg (bk (bothF a b))) := by
  refine Ct.val (Ct.of_JK pg_ok Tryd.func91 rfl Tryd.ntmps91 rfl Tryd.results91 fun H0 S0 w0 h0 g0 => ?_)
  refine vc_sound pg_ok 200 _ _ ?_
  exact ⟨rfl, rfl⟩
theorem add_ct (l : List Bk) (b : Bk) (hl : l.length ≤ 1000000) : Ct pg 67 1 [.o 0, .agg (bk b)] [(0, .row 89 5 (l.map bk))] fun g σ n => g = .o 1 ∧ σ = [(1, .row 89 5 ((addF l b).map bk))] ∧ n = 2 := by
  refine Ct.weak (Q := fun g σ n => ∃ i, g = .o i ∧ hlook σ i = some (.row 89 5 ((addF l b).map bk)) ∧ n = n) (Ct.of_JK pg_ok Tryd.func67 rfl Tryd.ntmps67 rfl Tryd.results67 fun H0 S0 w0 h0 g0 => ?_) ?_
  · refine vc_sound pg_ok 200 _ _ ?_
    refine ⟨by kernel_rfl, ?_⟩
    rcases List.eq_nil_or_concat l with rfl | ⟨l', x, e⟩
    · refine ⟨fun hb => absurd hb (by decide), fun hb => ?_⟩
      refine ⟨by simp, ?_⟩
      exact ⟨(3 : Nat), rfl, rfl, rfl⟩
    · rw [List.concat_eq_append] at e
      subst e
      have e1 : IntKind.i64.wrap (((l' ++ [x]).map bk).length - 1 : Int) = l'.length := by
        rw [wrap_id] <;> simp at hl ⊢ <;> omega
      have e2 : ((l' ++ [x]).map bk)[(IntKind.i64.wrap (((l' ++ [x]).map bk).length - 1 : Int)).toNat]? = some (bk x) := by
        rw [e1]; simp
      refine ⟨fun hb => ?_, fun hb => absurd hb (by rw [e1]; simp)⟩
      have e3 : 0 ≤ IntKind.i64.wrap (((l' ++ [x]).map bk).length - 1 : Int) := by rw [e1]; omega
      have e4 : IntKind.i64.wrap (((l' ++ [x]).map bk).length - 1 : Int) < ((l' ++ [x]).map bk).length := by rw [e1]; simp; omega
      refine ⟨e3, e4, ?_⟩
      refine ⟨bk x, e2, ?_⟩
      refine ⟨fun hc => ?_, fun hc => ?_⟩
      · refine JK.draw [0] pg_ok ?_
        refine RA.run (e := false) pg_ok (by kernel_rfl) (fun _ _ h => h) (tk [0, 1, 2, 3, 6] ++ al [4, 5]) (by kernel_rfl) ?_
        refine ⟨e3, e4, ?_⟩
        refine ⟨bk x, e2, ?_⟩
        refine RA.call (n0 := 0) (r := id) 7 (both_ct x b) Tryd.call91 rfl (by kernel_rfl) rfl rfl rfl rfl rfl trivial rfl (by simp) ?_
        rintro g σ' n' ⟨rfl, rfl, rfl⟩
        refine RA.run (e := true) pg_ok (by kernel_rfl) (fun _ _ h => h) (al [8, 9]) (by kernel_rfl) ?_
        refine ⟨e3, e4, ?_⟩
        refine ⟨bk x, e2, ?_⟩
        refine vc_sound pg_ok 200 _ _ ?_
        refine ⟨(0 : Nat), rfl, ?_, rfl⟩
        show some (Res.row 89 5 (((l' ++ [x]).map bk).set (IntKind.i64.wrap (((l' ++ [x]).map bk).length - 1 : Int)).toNat (bk (bothF x b)))) = _
        have hc' : x.start = b.start := by simpa using hc
        rw [e1]
        simp [addF, hc']
      · refine ⟨by simp at hl ⊢; omega, ?_⟩
        refine ⟨(3 : Nat), rfl, ?_, rfl⟩
        show some (Res.row 89 5 ((l' ++ [x]).map bk ++ [bk b])) = _
        have hc' : ¬ x.start = b.start := by simpa using hc
        simp [addF, hc']
  · rintro g σ' n' ⟨i, rfl, hlk, _⟩
    exact ⟨fun j => if j = 1 then i else j, .o 1, [(1, .row 89 5 ((addF l b).map bk))], 2, ⟨rfl, rfl, rfl⟩, rfl, ⟨hlk, trivial⟩, rfl⟩

theorem upF_snoc (l : List Sm) (s : Int) (i : Nat) (h : i < l.length) : upF (l.take (i + 1)) s = addF (upF (l.take i) s) (oneF s l[i]) := by
  rw [List.take_succ_eq_append_getElem h, upF_snoc']
theorem addF_len (l : List Bk) (b : Bk) : (addF l b).length ≤ l.length + 1 := by
  unfold addF
  split
  · split <;> simp
  · simp
theorem addsF_len (l : List Bk) : (addsF [] l).length ≤ l.length := by
  refine snoc_ind (P := fun l => (addsF [] l).length ≤ l.length) (by simp [addsF]) (fun l x ih => ?_) l
  rw [addsF_snoc]
  have := addF_len (addsF [] l) x
  simp
  omega
theorem upF_len (l : List Sm) (s : Int) : (upF l s).length ≤ l.length := by
  have := addsF_len (l.map (oneF s))
  simpa [upF] using this
theorem up_ct (l : List Sm) (s : Int) (h1 : 1 ≤ s) (h2 : s ≤ 1099511627776) (hl : l.length ≤ 100000) : Ct pg 35 0 [.sl 2 (l.map sm), gi s] [] (Val fun g => g = .tup [.sl 5 ((upF l s).map bk), .v .nilIface]) := by
  refine Ct.val (Ct.of_JK pg_ok Tryd.func35 rfl Tryd.ntmps35 rfl Tryd.results35 fun H0 S0 w0 h0 g0 => ?_)
  refine vc_sound pg_ok 200 _ _ ?_
  refine ⟨fun hb => ?_, fun hb => absurd hb (by simp; omega)⟩
  refine ⟨fun hb => absurd hb (by simp; omega), fun hb => ?_⟩
  refine JK.ownNil 6 89 5 rfl ?_
  refine JK.loop (α := Nat) (fun i => ⟨[(0, .sl 2 (l.map sm)), (1, gi s), (16, .sl 2 (l.map sm)), (17, gi (l.map sm).length), (18, gi i), (6, .o 0)], [(0, .row 89 5 ((upF (l.take i) s).map bk))], 1⟩) (fun i => i ≤ l.length) (fun i => l.length - i) 0 id ?_ (Nat.zero_le _) ?_
  · exact ⟨⟨rfl, rfl, rfl, rfl, rfl, rfl, trivial⟩, ⟨rfl, trivial⟩, rfl⟩
  · intro i hi
    refine vc_sound pg_ok 200 _ _ ?_
    refine ⟨fun hb => ?_, fun hb => ?_⟩
    · have hlt : i < l.length := by simpa using hb
      have hg : (l.map sm)[(i : Int).toNat]? = some (sm l[i]) := by simp [hlt]
      refine ⟨sm l[i], by omega, hg, ?_⟩
      refine JK.call (n0 := 0) (r := id) (one_ct l[i] s (by omega)) Tryd.call68 rfl rfl rfl rfl rfl trivial rfl (by simp) ?_
      rintro g σ' n' ⟨rfl, rfl, rfl⟩
      refine JK.call (n0 := 1) (r := id) (add_ct (upF (l.take i) s) (oneF s l[i]) (by have := upF_len (l.take i) s; simp at this; omega)) Tryd.call67 rfl rfl rfl rfl rfl ⟨rfl, trivial⟩ rfl (by simp) ?_
      rintro g σ' n' ⟨rfl, rfl, rfl⟩
      refine vc_sound pg_ok 200 _ _ ?_
      refine ⟨i + 1, fun _ => 2, ⟨⟨rfl, rfl, rfl, rfl, succ_gi (by omega), rfl, trivial⟩, ⟨?_, trivial⟩, rfl⟩, hlt, by show l.length - (i + 1) < l.length - i; omega⟩
      rw [upF_snoc l s i hlt]
      rfl
    · have hge : i = l.length := by simp at hb; omega
      refine JK.freeze 0 (ty := 89) (sz := 5) (rows := (upF (l.take i) s).map bk) rfl ?_
      refine vc_sound pg_ok 200 _ _ ?_
      rw [hge, List.take_length]
      exact ⟨rfl, rfl⟩
theorem wider1_ct (n : Int) : Ct pg 73 0 [gi n] [] (Val fun g => g = .b (decide (1 ≤ n ∧ n ≤ 1099511627776))) := by
  refine Ct.bool (Ct.of_JK pg_ok Tryd.func73 rfl Tryd.ntmps73 rfl Tryd.results73 fun H0 S0 w0 h0 g0 => ?_)
  refine vc_sound pg_ok 200 _ _ ?_
  refine ⟨fun hb => ?_, fun hb => ?_⟩
  · refine .inr (congrArg GV.b ?_)
    have hb' : n ≥ 1 := of_decide_eq_true hb
    exact decide_eq_decide.2 ⟨fun h => ⟨hb', h⟩, fun h => h.2⟩
  · refine .inl (congrArg (fun c => GV.v (.bool c)) ?_)
    have hb' : ¬ n ≥ 1 := of_decide_eq_false hb
    exact (decide_eq_false (fun h => hb' h.1)).symm
theorem widerF_snoc (l : List Bk) (s : Int) (i : Nat) (h : i < l.length) : widerF (l.take (i + 1)) s = addF (widerF (l.take i) s) (widen s l[i]) := by
  unfold widerF
  rw [List.take_succ_eq_append_getElem h, List.map_append]
  exact addsF_snoc _ _ _
theorem widerF_len (l : List Bk) (s : Int) : (widerF l s).length ≤ l.length := by
  have := addsF_len (l.map (widen s))
  simpa [widerF] using this
theorem wider_ct (l : List Bk) (s k : Int) (h1 : 1 ≤ s) (h2 : s ≤ 1099511627776) (h3 : 1 ≤ k) (h4 : k ≤ 1099511627776) (h5 : k.tmod s = 0) (hl : l.length ≤ 100000) : Ct pg 42 0 [.sl 5 (l.map bk), gi s, gi k] [] (Val fun g => g = .tup [.sl 5 ((widerF l k).map bk), .v .nilIface]) := by
  refine Ct.val (Ct.of_JK pg_ok Tryd.func42 rfl Tryd.ntmps42 rfl Tryd.results42 fun H0 S0 w0 h0 g0 => ?_)
  refine vc_sound pg_ok 200 _ _ ?_
  refine JK.call (n0 := 0) (r := id) (wider1_ct s) Tryd.call73 rfl rfl rfl rfl rfl trivial rfl (by simp) ?_
  rintro g σ' n' ⟨rfl, rfl, rfl⟩
  refine vc_sound pg_ok 200 _ _ ?_
  refine neg' (by simp <;> omega) ?_
  refine JK.call (n0 := 0) (r := id) (wider1_ct k) Tryd.call73 rfl rfl rfl rfl rfl trivial rfl (by simp) ?_
  rintro g σ' n' ⟨rfl, rfl, rfl⟩
  refine vc_sound pg_ok 200 _ _ ?_
  refine neg' (by simp <;> omega) ?_
  refine ⟨by omega, ?_⟩
  refine neg (by rw [h5]; rfl) ?_
  refine JK.ownNil 9 89 5 rfl ?_
  refine JK.loop (α := Nat) (fun i => ⟨[(2, gi k), (29, .sl 5 (l.map bk)), (30, gi (l.map bk).length), (31, gi i), (9, .o 0)], [(0, .row 89 5 ((widerF (l.take i) k).map bk))], 1⟩) (fun i => i ≤ l.length) (fun i => l.length - i) 0 id ?_ (Nat.zero_le _) ?_
  · exact ⟨⟨rfl, rfl, rfl, rfl, rfl, trivial⟩, ⟨rfl, trivial⟩, rfl⟩
  · intro i hi
    refine vc_sound pg_ok 200 _ _ ?_
    refine ⟨fun hb => ?_, fun hb => ?_⟩
    · have hlt : i < l.length := by simpa using hb
      have hg : (l.map bk)[(i : Int).toNat]? = some (bk l[i]) := by simp [hlt]
      refine ⟨bk l[i], by omega, hg, ?_⟩
      refine JK.call (n0 := 0) (r := id) (floor_ct l[i].start k (by omega)) Tryd.call40 rfl rfl rfl rfl rfl trivial rfl (by simp) ?_
      rintro g σ' n' ⟨rfl, rfl, rfl⟩
      refine vc_sound pg_ok 200 _ _ ?_
      refine JK.call (n0 := 1) (r := id) (add_ct (widerF (l.take i) k) (widen k l[i]) (by have := widerF_len (l.take i) k; simp at this; omega)) Tryd.call67 rfl rfl rfl rfl rfl ⟨rfl, trivial⟩ rfl (by simp) ?_
      rintro g σ' n' ⟨rfl, rfl, rfl⟩
      refine vc_sound pg_ok 200 _ _ ?_
      refine ⟨i + 1, fun _ => 2, ⟨⟨rfl, rfl, rfl, succ_gi (by omega), rfl, trivial⟩, ⟨?_, trivial⟩, rfl⟩, hlt, by show l.length - (i + 1) < l.length - i; omega⟩
      rw [widerF_snoc l k i hlt]
      rfl
    · have hge : i = l.length := by simp at hb; omega
      refine JK.freeze 0 (ty := 89) (sz := 5) (rows := (widerF (l.take i) k).map bk) rfl ?_
      refine vc_sound pg_ok 200 _ _ ?_
      rw [hge, List.take_length]
      exact ⟨rfl, rfl⟩
theorem merge_ct (a b R : List Bk) (ha : a.length ≤ 100000) (hb : b.length ≤ 100000) (hR : ∀ n, a.length + b.length ≤ n → mergeF n [] a b = R) : Ct pg 38 0 [.sl 5 (a.map bk), .sl 5 (b.map bk)] [] (Val fun g => g = .sl 5 (R.map bk)) := by
  refine Ct.val (Ct.of_JK pg_ok Tryd.func38 rfl Tryd.ntmps38 rfl Tryd.results38 fun H0 S0 w0 h0 g0 => ?_)
  refine vc_sound pg_ok 200 _ _ ?_
  refine JK.ownNil 5 89 5 rfl ?_
  refine JK.loop (α := List Bk × List Bk × List Bk) (fun x => ⟨[(0, .sl 5 (x.2.1.map bk)), (1, .sl 5 (x.2.2.map bk)), (5, .o 0)], [(0, .row 89 5 (x.1.map bk))], 1⟩)
    (fun x => (∀ n, x.2.1.length + x.2.2.length ≤ n → mergeF n x.1 x.2.1 x.2.2 = R) ∧ x.1.length + x.2.1.length + x.2.2.length ≤ 200000) (fun x => x.2.1.length + x.2.2.length) ([], a, b) id ?_ ⟨hR, by simp; omega⟩ ?_
  · exact ⟨⟨rfl, rfl, rfl, trivial⟩, ⟨rfl, trivial⟩, rfl⟩
  · rintro ⟨out, a, b⟩ ⟨hR, hlen⟩
    refine vc_sound pg_ok 200 _ _ ?_
    have la : (a.map bk).length = a.length := List.length_map ..
    have lb : (b.map bk).length = b.length := List.length_map ..
    have call1 : out.length ≤ 1000000 := by simp at hlen; omega
    have none : a = [] → b = [] → out = R := fun ea eb => by
      subst ea eb
      exact hR 0 (Nat.le_refl _)
    have nextA : ∀ x a', a = x :: a' → (∀ y b', b = y :: b' → x.start ≤ y.start) → (∀ n, a'.length + b.length ≤ n → mergeF n (addF out x) a' b = R) ∧ (addF out x).length + a'.length + b.length ≤ 200000 := fun x a' e h => by
      subst e
      refine ⟨fun n hn => ?_, ?_⟩
      · rw [← hR (n + 1) (by simp only [List.length_cons] at *; omega)]
        cases b with
        | nil => rfl
        | cons y b' => show _ = if x.start ≤ y.start then _ else _; rw [if_pos (h y b' rfl)]
      · have := addF_len out x
        simp at hlen ⊢
        omega
    have nextB : ∀ y b', b = y :: b' → (∀ x a', a = x :: a' → ¬ x.start ≤ y.start) → (∀ n, a.length + b'.length ≤ n → mergeF n (addF out y) a b' = R) ∧ (addF out y).length + a.length + b'.length ≤ 200000 := fun y b' e h => by
      subst e
      refine ⟨fun n hn => ?_, ?_⟩
      · rw [← hR (n + 1) (by simp only [List.length_cons] at *; omega)]
        cases a with
        | nil => rfl
        | cons x a' => show _ = if x.start ≤ y.start then _ else _; rw [if_neg (h x a' rfl)]
      · have := addF_len out y
        simp at hlen ⊢
        omega
    cases a with
    | nil => cases b with
      | nil =>
        refine neg' (by simp) ?_
        refine neg (by simp) ?_
        refine JK.freeze 0 (ty := 89) (sz := 5) (rows := out.map bk) rfl ?_
        refine vc_sound pg_ok 200 _ _ ?_
        rw [none rfl rfl]
        exact ⟨rfl, rfl⟩
      | cons y b' =>
        refine neg' (by simp) ?_
        refine pos (by simp <;> omega) ?_
        refine ⟨by kernel_rfl, ?_⟩
        refine neg' (by simp <;> omega) ?_
        refine neg (by simp) ?_
        refine JK.draw [0] pg_ok ?_
        refine RA.run (e := false) pg_ok (by kernel_rfl) (fun _ _ h => h) (tk [0, 1, 2, 3, 5, 6]) (by kernel_rfl) ?_
        refine ⟨bk y, by omega, rfl, ?_⟩
        refine ⟨by omega, by simp <;> omega, by omega, ?_⟩
        refine RA.call (n0 := 1) (r := id) 4 (add_ct out y call1) Tryd.call67 rfl (by kernel_rfl) rfl rfl rfl rfl rfl ⟨rfl, trivial⟩ rfl (by simp) ?_
        rintro g σ' n' ⟨rfl, rfl, rfl⟩
        refine RA.run (e := true) pg_ok (by kernel_rfl) (fun _ _ h => h) (tk [7, 8]) (by kernel_rfl) ?_
        refine vc_sound pg_ok 200 _ _ ?_
        refine ⟨(addF out y, [], b'), fun _ => 1, ⟨⟨rfl, tail_map 5 bk y b', rfl, trivial⟩, ⟨rfl, trivial⟩, rfl⟩, nextB y b' rfl (fun _ _ e => by cases e), by simp <;> omega⟩
    | cons x a' => cases b with
      | nil =>
        refine pos' (by simp <;> omega) ?_
        refine ⟨by kernel_rfl, ?_⟩
        refine pos' (by simp) ?_
        refine JK.draw [0] pg_ok ?_
        refine RA.run (e := false) pg_ok (by kernel_rfl) (fun _ _ h => h) (tk [0, 1, 2, 3, 5, 6]) (by kernel_rfl) ?_
        refine ⟨bk x, by omega, rfl, ?_⟩
        refine ⟨by omega, by simp <;> omega, by omega, ?_⟩
        refine RA.call (n0 := 1) (r := id) 4 (add_ct out x call1) Tryd.call67 rfl (by kernel_rfl) rfl rfl rfl rfl rfl ⟨rfl, trivial⟩ rfl (by simp) ?_
        rintro g σ' n' ⟨rfl, rfl, rfl⟩
        refine RA.run (e := true) pg_ok (by kernel_rfl) (fun _ _ h => h) (tk [7, 8]) (by kernel_rfl) ?_
        refine vc_sound pg_ok 200 _ _ ?_
        refine ⟨(addF out x, a', []), fun _ => 1, ⟨⟨tail_map 5 bk x a', rfl, rfl, trivial⟩, ⟨rfl, trivial⟩, rfl⟩, nextA x a' rfl (fun _ _ e => by cases e), by simp <;> omega⟩
      | cons y b' =>
        refine pos' (by simp <;> omega) ?_
        refine ⟨by kernel_rfl, ?_⟩
        refine neg' (by simp <;> omega) ?_
        refine pos (by simp <;> omega) ?_
        refine ⟨bk x, by omega, rfl, ?_⟩
        refine ⟨bk y, by omega, rfl, ?_⟩
        by_cases hc : x.start ≤ y.start
        · refine pos (by simpa using hc) ?_
          refine JK.draw [0] pg_ok ?_
          refine RA.run (e := false) pg_ok (by kernel_rfl) (fun _ _ h => h) (tk [0, 1, 2, 3, 5, 6]) (by kernel_rfl) ?_
          refine ⟨bk x, by omega, rfl, ?_⟩
          refine ⟨by omega, by simp <;> omega, by omega, ?_⟩
          refine RA.call (n0 := 1) (r := id) 4 (add_ct out x call1) Tryd.call67 rfl (by kernel_rfl) rfl rfl rfl rfl rfl ⟨rfl, trivial⟩ rfl (by simp) ?_
          rintro g σ' n' ⟨rfl, rfl, rfl⟩
          refine RA.run (e := true) pg_ok (by kernel_rfl) (fun _ _ h => h) (tk [7, 8]) (by kernel_rfl) ?_
          refine vc_sound pg_ok 200 _ _ ?_
          refine ⟨(addF out x, a', y :: b'), fun _ => 1, ⟨⟨tail_map 5 bk x a', rfl, rfl, trivial⟩, ⟨rfl, trivial⟩, rfl⟩, nextA x a' rfl (fun _ _ e => by cases e; exact hc), by simp <;> omega⟩
        · refine neg (by simpa using hc) ?_
          refine JK.draw [0] pg_ok ?_
          refine RA.run (e := false) pg_ok (by kernel_rfl) (fun _ _ h => h) (tk [0, 1, 2, 3, 5, 6]) (by kernel_rfl) ?_
          refine ⟨bk y, by omega, rfl, ?_⟩
          refine ⟨by omega, by simp <;> omega, by omega, ?_⟩
          refine RA.call (n0 := 1) (r := id) 4 (add_ct out y call1) Tryd.call67 rfl (by kernel_rfl) rfl rfl rfl rfl rfl ⟨rfl, trivial⟩ rfl (by simp) ?_
          rintro g σ' n' ⟨rfl, rfl, rfl⟩
          refine RA.run (e := true) pg_ok (by kernel_rfl) (fun _ _ h => h) (tk [7, 8]) (by kernel_rfl) ?_
          refine vc_sound pg_ok 200 _ _ ?_
          refine ⟨(addF out y, x :: a', b'), fun _ => 1, ⟨⟨rfl, tail_map 5 bk y b', rfl, trivial⟩, ⟨rfl, trivial⟩, rfl⟩, nextB y b' rfl (fun _ _ e => by cases e; exact hc), by simp <;> omega⟩
end Go.Proofs.YtfagagfokmlgiaaDoor
