/-
  Contracts of what RollSame comes to, and RollSame itself.
-/
import Derived.Test.YtakkdpfbgjccpaaCRight
namespace Go.Proofs.Ytakkdpfbgjccpaa
open Go.GK Go.PL
set_option maxRecDepth 100000
def eqBk (a b : Bk) : Bool := a.start == b.start && (a.count == b.count && (a.sum == b.sum && (a.min == b.min && (a.max == b.max && true))))
theorem eqBk_iff (a b : Bk) : eqBk a b = true ↔ a = b := by
  obtain ⟨a1, a2, a3, a4, a5⟩ := a
  obtain ⟨b1, b2, b3, b4, b5⟩ := b
  simp [eqBk]
theorem same_ct (a b : List Bk) : Ct pg 9 0 [.sl 5 (a.map bk), .sl 5 (b.map bk)] [] (Val fun g => g = .b (decide (a = b))) := by
  refine Ct.len 0 rfl fun hlen _ => ?_
  have hlen' : a.length ≤ 9223372036854775807 := by simpa [maxLen] using hlen
  refine Ct.bool (Ct.of_JK pg_ok Try.func9 rfl Try.ntmps9 rfl Try.results9 fun H0 S0 w0 h0 g0 => ?_)
  refine vc_sound pg_ok 200 _ _ ?_
  refine ⟨fun hb => ?_, fun hb => ?_⟩
  · refine .inl (congrArg (fun c => GV.v (.bool c)) ?_)
    have : a ≠ b := fun e => by subst e; simp at hb
    exact (decide_eq_false this).symm
  · have hl : a.length = b.length := by simp at hb; omega
    refine JK.loop (α := Nat) (fun i => ⟨[(0, .sl 5 (a.map bk)), (1, .sl 5 (b.map bk)), (5, gi i)], [], 0⟩) (fun i => i ≤ a.length ∧ ∀ j, j < i → a[j]? = b[j]?) (fun i => a.length - i) 0 id ?_ ⟨Nat.zero_le _, fun j hj => absurd hj (by omega)⟩ ?_
    · exact ⟨⟨rfl, rfl, rfl, trivial⟩, trivial, rfl⟩
    · rintro i ⟨hi, hgood⟩
      refine vc_sound pg_ok 200 _ _ ?_
      refine ⟨fun hb => ?_, fun hb => ?_⟩
      · have hlt : i < a.length := by simpa using hb
        have hlt' : i < b.length := by omega
        refine ⟨by kernel_rfl, ?_⟩
        refine idx i rfl hlt ?_
        refine idx i rfl hlt' ?_
        refine ⟨fun hc => ?_, fun hc => ?_⟩
        · refine .inl (congrArg (fun c => GV.v (.bool c)) ?_)
          have hne : a ≠ b := fun e => by
            subst e
            have : eqBk a[i] a[i] = true := (eqBk_iff _ _).2 rfl
            have hc' : (!eqBk a[i] a[i]) = true := hc
            rw [this] at hc'
            cases hc'
          exact (decide_eq_false hne).symm
        · refine ⟨i + 1, id, ⟨⟨rfl, rfl, (by rw [wrap_id (by omega) (by omega)]; rfl), trivial⟩, trivial, rfl⟩, ⟨hlt, fun j hj => ?_⟩, by show a.length - (i + 1) < a.length - i; omega⟩
          rcases Nat.lt_succ_iff_lt_or_eq.1 hj with h1 | h1
          · exact hgood j h1
          · subst h1
            have hc' : (!eqBk a[j] b[j]) = false := hc
            have : a[j] = b[j] := (eqBk_iff _ _).1 (by simpa using hc')
            rw [List.getElem?_eq_getElem hlt, List.getElem?_eq_getElem hlt', this]
      · have hge : i = a.length := by simp at hb; omega
        refine vc_sound pg_ok 200 _ _ ?_
        refine .inl (congrArg (fun c => GV.v (.bool c)) ?_)
        have : a = b := List.ext_getElem? fun j => by
          by_cases hj : j < a.length
          · exact hgood j (by omega)
          · rw [List.getElem?_eq_none (by omega), List.getElem?_eq_none (by omega)]
        exact (decide_eq_true this).symm
theorem pick_ct (x y : Int) (h : 0 < y) (h' : y < 1000000) : Ct pg 10 0 [gi x, gi y] [] (Val fun g => ∃ k : Nat, (k : Int) < y ∧ g = gi k) := by
  refine Ct.val (Ct.of_JK pg_ok Try.func10 rfl Try.ntmps10 rfl Try.results10 fun H0 S0 w0 h0 g0 => ?_)
  refine vc_sound pg_ok 200 _ _ ?_
  have e : IntKind.u64.wrap y = y := by rw [IntKind.wrap_u64]; omega
  have e0 : 0 ≤ IntKind.u64.wrap x := by rw [IntKind.wrap_u64]; omega
  refine ⟨by rw [e]; omega, ?_⟩
  have e1 : (IntKind.u64.wrap x).tmod (IntKind.u64.wrap y) = IntKind.u64.wrap x % y := by rw [e, Int.tmod_eq_emod_of_nonneg e0]
  have e2 : 0 ≤ IntKind.u64.wrap x % y := Int.emod_nonneg _ (by omega)
  have e3 : IntKind.u64.wrap x % y < y := Int.emod_lt_of_pos _ (by omega)
  refine ⟨⟨(IntKind.u64.wrap x % y).toNat, by omega, ?_⟩, rfl⟩
  show gi (IntKind.i64.wrap ((IntKind.u64.wrap x).tmod (IntKind.u64.wrap y))) = _
  rw [e1, wrap_id (by omega) (by omega), Int.toNat_of_nonneg e2]
theorem rolled_ct : Ct pg 5 0 [] [] (Val fun g => g = .b true) := by
  refine Ct.bool (Ct.of_JK pg_ok Try.func5 rfl Try.ntmps5 rfl Try.results5 fun H0 S0 w0 h0 g0 => ?_)
  refine vc_sound pg_ok 200 _ _ ?_
  refine JK.freeze 0 (ty := 37) (sz := 2) (rows := [⟨-1, 5⟩, ⟨1, 2⟩, ⟨9, 4⟩].map sm) rfl ?_
  refine JK.call (n0 := 0) (r := id) (up_ct [⟨-1, 5⟩, ⟨1, 2⟩, ⟨9, 4⟩] 10 (by omega) (by omega) (by simp)) Try.call7 rfl rfl rfl rfl rfl trivial rfl (by simp) ?_
  rintro g σ' n' ⟨rfl, rfl, rfl⟩
  have e : upF [⟨-1, 5⟩, ⟨1, 2⟩, ⟨9, 4⟩] 10 = [⟨-10, 1, 5, 5, 5⟩, ⟨0, 2, 6, 2, 4⟩] := by decide +kernel
  rw [e]
  refine vc_sound pg_ok 200 _ _ ?_
  refine pos rfl ?_
  refine pos rfl ?_
  refine idx (l := [⟨-10, 1, 5, 5, 5⟩, ⟨0, 2, 6, 2, 4⟩]) (f := bk) 0 rfl (by decide) ?_
  refine pos rfl ?_
  refine idx (l := [⟨-10, 1, 5, 5, 5⟩, ⟨0, 2, 6, 2, 4⟩]) (f := bk) 1 rfl (by decide) ?_
  exact .inr rfl
theorem rollSame_ct (l : List Sm) (span times at_ : Int) : Ct pg 3 0 [.sl 2 (l.map sm), gi span, gi times, gi at_] [] (Val fun g => g = .b true) := by
  refine Ct.bool (Ct.of_JK pg_ok Try.func3 rfl Try.ntmps3 rfl Try.results3 fun H0 S0 w0 h0 g0 => ?_)
  refine vc_sound pg_ok 200 _ _ ?_
  refine ⟨fun h1 => ?_, fun _ => .inl rfl⟩
  refine ⟨fun h2 => ?_, fun _ => .inl rfl⟩
  refine ⟨fun h3 => ?_, fun _ => .inl rfl⟩
  refine ⟨fun h4 => ?_, fun _ => .inl rfl⟩
  refine ⟨fun _ => .inl rfl, fun h5 => ?_⟩
  simp only [List.length_map, decide_eq_false_iff_not] at h1 h2 h3 h4 h5
  have hk1 : span * times ≤ 1048576 * 1048576 := Int.mul_le_mul (by omega) (by omega) (by omega) (by omega)
  have hk2 : 1 * 1 ≤ span * times := Int.mul_le_mul (by omega) (by omega) (by omega) (by omega)
  have hw : IntKind.i64.wrap (span * times) = span * times := wrap_id (by omega) (by omega)
  refine JK.call (n0 := 0) (r := id) rolled_ct Try.call5 rfl rfl rfl rfl rfl trivial rfl (by simp) ?_
  rintro g σ' n' ⟨rfl, rfl, rfl⟩
  refine vc_sound pg_ok 200 _ _ ?_
  refine neg rfl ?_
  refine JK.call (n0 := 0) (r := id) (right_ct l) Try.call6 rfl rfl rfl rfl rfl trivial rfl (by simp) ?_
  rintro g σ' n' ⟨rfl, rfl, rfl⟩
  refine vc_sound pg_ok 200 _ _ ?_
  refine ⟨fun _ => .inl rfl, fun h6 => ?_⟩
  have hris : Ris l := ((okS_iff l).1 (by simpa using h6)).1
  have hheld := held span l (by omega)
  have hup := (upF_up (show 1 ≤ span by omega) (show span ≤ 4398046511104 by omega) l hris)
  have hflo : ∀ x ∈ l, floorF (floorF x.time span) (span * times) = floorF x.time (span * times) := fun x hx => floor_floor (by omega) (by omega) (by omega) (by omega) (hris.lo x hx) (hris.hi x hx)
  have hwid := widen_up l span (span * times) hflo
  refine JK.call (n0 := 0) (r := id) (up_ct l span (by omega) (by omega) (by omega)) Try.call7 rfl rfl rfl rfl rfl trivial rfl (by simp) ?_
  rintro g σ' n' ⟨rfl, rfl, rfl⟩
  refine vc_sound pg_ok 200 _ _ ?_
  refine JK.call (n0 := 0) (r := id) (up_ct l (IntKind.i64.wrap (span * times)) (by rw [hw]; omega) (by rw [hw]; omega) (by omega)) Try.call7 rfl rfl rfl rfl rfl trivial rfl (by simp) ?_
  rintro g σ' n' ⟨rfl, rfl, rfl⟩
  refine vc_sound pg_ok 200 _ _ ?_
  refine JK.call (n0 := 0) (r := id) (wider_ct (upF l span) span (IntKind.i64.wrap (span * times)) (by omega) (by omega) (by rw [hw]; omega) (by rw [hw]; omega) (by rw [hw]; exact Int.mul_tmod_right _ _) (by have := upF_len l span; omega)) Try.call8 rfl rfl rfl rfl rfl trivial rfl (by simp) ?_
  rintro g σ' n' ⟨rfl, rfl, rfl⟩
  refine vc_sound pg_ok 200 _ _ ?_
  refine neg' rfl ?_
  refine neg' rfl ?_
  refine neg' rfl ?_
  refine JK.call (n0 := 0) (r := id) (same_ct (upF l (IntKind.i64.wrap (span * times))) (widerF (upF l span) (IntKind.i64.wrap (span * times)))) Try.call9 rfl rfl rfl rfl rfl trivial rfl (by simp) ?_
  rintro g σ' n' ⟨rfl, rfl, rfl⟩
  refine vc_sound pg_ok 200 _ _ ?_
  refine neg (by rw [hw, hwid]; simp) ?_
  refine JK.call (n0 := 0) (r := id) (pick_ct at_ (IntKind.i64.wrap ((l.map sm).length + 1)) (by rw [wrap_id] <;> simp <;> omega) (by rw [wrap_id] <;> simp <;> omega)) Try.call10 rfl rfl rfl rfl rfl trivial rfl (by simp) ?_
  rintro g σ' n' ⟨⟨k, hk, rfl⟩, rfl, rfl⟩
  rw [wrap_id (by simp <;> omega) (by simp <;> omega), List.length_map] at hk
  refine vc_sound pg_ok 200 _ _ ?_
  refine ⟨by omega, by omega, by simp <;> omega, ?_⟩
  refine JK.call (n0 := 0) (r := id) (up_ct (l.take k) span (by omega) (by omega) (by simp <;> omega)) Try.call7 rfl rfl rfl rfl (congrArg (fun x => [GV.sl 2 x, gi span]) (cut_lo sm l k)) trivial rfl (by simp) ?_
  rintro g σ' n' ⟨rfl, rfl, rfl⟩
  refine vc_sound pg_ok 200 _ _ ?_
  refine ⟨by omega, by simp <;> omega, by omega, ?_⟩
  refine JK.call (n0 := 0) (r := id) (up_ct (l.drop k) span (by omega) (by omega) (by simp <;> omega)) Try.call7 rfl rfl rfl rfl (congrArg (fun x => [GV.sl 2 x, gi span]) (cut_hi sm l k)) trivial rfl (by simp) ?_
  rintro g σ' n' ⟨rfl, rfl, rfl⟩
  have hpart : Ris (l.take k ++ l.drop k) := by rw [List.take_append_drop]; exact hris
  have la : (upF (l.take k) span).length ≤ 60 := by have := upF_len (l.take k) span; simp at this; omega
  have lb : (upF (l.drop k) span).length ≤ 60 := by have := upF_len (l.drop k) span; simp at this; omega
  have hm1 : ∀ n, (upF (l.take k) span).length + (upF (l.drop k) span).length ≤ n → mergeF n [] (upF (l.take k) span) (upF (l.drop k) span) = upF l span := fun n hn => by
    have := (merge_up (show 1 ≤ span by omega) (show span ≤ 4398046511104 by omega) (l.take k) (l.drop k) hpart n hn).1
    rwa [List.take_append_drop] at this
  have hm2 : ∀ n, (upF (l.drop k) span).length + (upF (l.take k) span).length ≤ n → mergeF n [] (upF (l.drop k) span) (upF (l.take k) span) = upF l span := fun n hn => by
    have := (merge_up (show 1 ≤ span by omega) (show span ≤ 4398046511104 by omega) (l.take k) (l.drop k) hpart n (by omega)).2
    rwa [List.take_append_drop] at this
  refine vc_sound pg_ok 200 _ _ ?_
  refine neg' rfl ?_
  refine neg' rfl ?_
  refine JK.call (n0 := 0) (r := id) (merge_ct _ _ _ (by omega) (by omega) hm1) Try.call11 rfl rfl rfl rfl rfl trivial rfl (by simp) ?_
  rintro g σ' n' ⟨rfl, rfl, rfl⟩
  refine vc_sound pg_ok 200 _ _ ?_
  refine JK.call (n0 := 0) (r := id) (same_ct _ _) Try.call9 rfl rfl rfl rfl rfl trivial rfl (by simp) ?_
  rintro g σ' n' ⟨rfl, rfl, rfl⟩
  refine vc_sound pg_ok 200 _ _ ?_
  refine neg' (by simp) ?_
  refine JK.call (n0 := 0) (r := id) (merge_ct _ _ _ (by omega) (by omega) hm2) Try.call11 rfl rfl rfl rfl rfl trivial rfl (by simp) ?_
  rintro g σ' n' ⟨rfl, rfl, rfl⟩
  refine vc_sound pg_ok 200 _ _ ?_
  refine JK.call (n0 := 0) (r := id) (same_ct _ _) Try.call9 rfl rfl rfl rfl rfl trivial rfl (by simp) ?_
  rintro g σ' n' ⟨rfl, rfl, rfl⟩
  refine vc_sound pg_ok 200 _ _ ?_
  refine neg (by simp) ?_
  have hul := upF_len l span
  refine JK.loop (α := Nat) (fun i => ⟨[(0, .sl 2 (l.map sm)), (1, gi span), (9, .sl 5 ((upF l span).map bk)), (18, gi (w64 (cnt ((upF l span).take i)))), (19, gi (w64 (sums ((upF l span).take i)))), (20, gi 0), (21, gi i)], [], 0⟩) (fun i => i ≤ (upF l span).length) (fun i => (upF l span).length - i) 0 id ?_ (Nat.zero_le _) ?_
  · exact ⟨⟨rfl, rfl, rfl, rfl, rfl, rfl, rfl, trivial⟩, trivial, rfl⟩
  · intro i hi
    refine vc_sound pg_ok 200 _ _ ?_
    refine ⟨fun hb => ?_, fun hb => ?_⟩
    · have hlt : i < (upF l span).length := by simpa using hb
      obtain ⟨hc1, hc2, x, hx, hst⟩ := hheld.each _ (List.getElem_mem hlt)
      have hfm := floorF_mod (t := x.time) (s := span) (by omega) (by omega) (by have := hris.lo x hx; omega) (by have := hris.hi x hx; omega)
      refine ⟨by kernel_rfl, ?_⟩
      refine idx i rfl hlt ?_
      refine ⟨by omega, ?_⟩
      refine neg' (by rw [hst, hfm.1]; rfl) ?_
      refine idx i rfl hlt ?_
      refine idx i rfl hlt ?_
      refine neg' (by simp <;> omega) ?_
      refine idx i rfl hlt ?_
      refine neg' (by simp <;> omega) ?_
      have goOn : ∀ (J : Prop), J → J := fun _ h => h
      have hend : (i + 1 ≤ (upF l span).length) ∧ (upF l span).length - (i + 1) < (upF l span).length - i := ⟨hlt, by omega⟩
      have ec : some (gi (IntKind.i64.wrap (w64 (cnt ((upF l span).take i)) + (upF l span)[i].count))) = some (gi (w64 (cnt ((upF l span).take (i + 1))))) := by
        rw [cnt_take _ _ hlt]
        exact congrArg (fun x => some (gi x)) (w64_add_l _ _)
      have es : some (gi (IntKind.i64.wrap (w64 (sums ((upF l span).take i)) + (upF l span)[i].sum))) = some (gi (w64 (sums ((upF l span).take (i + 1))))) := by
        rw [sums_take _ _ hlt]
        exact congrArg (fun x => some (gi x)) (w64_add_l _ _)
      refine ⟨fun h0 => ?_, fun h0 => ?_⟩
      · have h0' : 0 < i := by simpa using h0
        have ew : IntKind.i64.wrap ((i : Int) - 1) = ((i - 1 : Nat) : Int) := by rw [wrap_id (by omega) (by omega)]; omega
        have hrise := List.pairwise_iff_getElem.1 hup.1 (i - 1) i (by omega) hlt (by omega)
        refine idx (i - 1) ew (by omega) ?_
        refine idx i rfl hlt ?_
        refine neg (by simp <;> omega) ?_
        refine idx i rfl hlt ?_
        refine idx i rfl hlt ?_
        exact ⟨i + 1, id, ⟨⟨rfl, rfl, rfl, ec, es, rfl, succ_gi (by omega), trivial⟩, trivial, rfl⟩, hend⟩
      · refine idx i rfl hlt ?_
        refine idx i rfl hlt ?_
        exact ⟨i + 1, id, ⟨⟨rfl, rfl, rfl, ec, es, rfl, succ_gi (by omega), trivial⟩, trivial, rfl⟩, hend⟩
    · have hge : i = (upF l span).length := by simp at hb; omega
      have ec : w64 (cnt ((upF l span).take i)) = l.length := by rw [hge, List.take_length, hheld.cnt, w64_id (by omega) (by omega)]
      have es : w64 (sums ((upF l span).take i)) = w64 (vals l) := by rw [hge, List.take_length, hheld.sum]
      refine vc_sound pg_ok 200 _ _ ?_
      refine JK.loop (α := Nat) (fun i => ⟨[(0, .sl 2 (l.map sm)), (1, gi span), (18, gi l.length), (19, gi (w64 (vals l))), (20, gi (w64 (vals (l.take i)))), (22, gi i)], [], 0⟩) (fun i => i ≤ l.length) (fun i => l.length - i) 0 id ?_ (Nat.zero_le _) ?_
      · exact ⟨⟨rfl, rfl, (by rw [← ec]; rfl), (by rw [← es]; rfl), rfl, rfl, trivial⟩, trivial, rfl⟩
      · intro k hk
        refine vc_sound pg_ok 200 _ _ ?_
        refine ⟨fun hb => ?_, fun hb => ?_⟩
        · have hlt : k < l.length := by simpa using hb
          refine idx k rfl hlt ?_
          refine idx k rfl hlt ?_
          refine JK.call (n0 := 0) (r := id) (floor_ct l[k].time span (by omega)) Try.call12 rfl rfl rfl rfl rfl trivial rfl (by simp) ?_
          rintro g σ' n' ⟨rfl, rfl, rfl⟩
          have h7 := hris.lo _ (List.getElem_mem hlt)
          have h8 := hris.hi _ (List.getElem_mem hlt)
          have hfm := floorF_mod (t := l[k].time) (s := span) (by omega) (by omega) (by omega) (by omega)
          have hfe := floorF_eq (t := l[k].time) (s := span) (by omega) (by omega) (by omega) (by omega)
          refine vc_sound pg_ok 200 _ _ ?_
          refine idx k rfl hlt ?_
          refine neg' (by simp <;> omega) ?_
          refine idx k rfl hlt ?_
          refine neg (by
            have : IntKind.i64.wrap (l[k].time - floorF l[k].time span) = l[k].time - floorF l[k].time span := wrap_id (by omega) (by omega)
            rw [this]
            simp <;> omega) ?_
          have ev : some (gi (IntKind.i64.wrap (w64 (vals (l.take k)) + l[k].value))) = some (gi (w64 (vals (l.take (k + 1))))) := by
            rw [vals_take _ _ hlt]
            exact congrArg (fun x => some (gi x)) (w64_add_l _ _)
          exact ⟨k + 1, id, ⟨⟨rfl, rfl, rfl, rfl, ev, succ_gi (by omega), trivial⟩, trivial, rfl⟩, hlt, by show l.length - (k + 1) < l.length - k; omega⟩
        · have hge : k = l.length := by simp at hb; omega
          refine vc_sound pg_ok 200 _ _ ?_
          refine pos (by simp) ?_
          refine .inr (congrArg GV.b ?_)
          rw [hge, List.take_length]
          simp
end Go.Proofs.Ytakkdpfbgjccpaa
