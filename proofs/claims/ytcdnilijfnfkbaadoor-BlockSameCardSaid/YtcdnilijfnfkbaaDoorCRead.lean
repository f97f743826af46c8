/-
  Contracts: package chunk, reading.
-/
import Derived.Test.YtcdnilijfnfkbaaDoorCChunk
namespace Go.Proofs.YtcdnilijfnfkbaaDoor
open Go.GK Go.PL
set_option maxRecDepth 100000
theorem strEq (a b : ByteArray) : (a.toList == b.toList) = decide (a = b) := by
  rw [Bool.eq_iff_iff]
  simp only [beq_iff_eq, decide_eq_true_eq]
  constructor
  · intro h
    rw [ByteArray.toList_eq, ByteArray.toList_eq] at h
    exact WideShapes.bytes_inj h
  · intro h; rw [h]
/-- What reading comes to. -/
def ReadQ (s : ByteArray) (g : GV) : Prop :=
  (∃ l, okS l = true ∧ V64 l ∧ s = enc l ∧ g = .tup [.sl 2 (l.map sm), .v .nilIface]) ∨
  ((∀ l, okS l = true → V64 l → s ≠ enc l) ∧ g = .tup [.v (.slice none 0 0), .ifc 72 (gi 3)])
theorem ReadQ.no {s : ByteArray} (h : ∀ l, okS l = true → V64 l → s ≠ enc l) : ReadQ s (.tup [.v (.slice none 0 0), .ifc 72 (gi 3)]) ∧ idb 0 (.tup [.v (.slice none 0 0), .ifc 72 (gi 3)]) = true := ⟨.inr ⟨h, rfl⟩, rfl⟩
/-- What is known in a round: where the text is samples' bytes, what of it was read. -/
def Part (s : ByteArray) (n i : Nat) (li : List Sm) (last : Sm) (step : Int) (p : Nat) : Prop :=
  ∀ L, okS L = true → V64 L → s = enc L → n = L.length ∧ li = L.take i ∧ ∃ z, (sb s).drop p = chunkR (L.drop i) last step (i == 0) ++ z
theorem read_ct (s : ByteArray) (hs : s.size ≤ 1000000) : Ct pg 56 0 [.v (.string s)] [] (Val (ReadQ s)) := by
  have hsb := sb_len s
  have lwrap : ∀ x, IntKind.i64.wrap x = w64 x := fun _ => rfl
  refine Ct.val (Ct.of_JK pg_ok Tryd.func56 rfl Tryd.ntmps56 rfl Tryd.results56 fun H0 S0 w0 h0 g0 => ?_)
  refine vc_sound pg_ok 200 _ _ ?_
  refine JK.call (n0 := 0) (r := id) (from_ct s) Tryd.call72 rfl rfl rfl rfl rfl trivial rfl (by simp) ?_
  rintro g σ' n' ⟨rfl, rfl, rfl⟩
  refine vc_sound pg_ok 200 _ _ ?_
  refine JK.call (n0 := 1) (r := id) (get_ct s 0 (by omega) (by omega)) Tryd.call73 rfl rfl rfl rfl rfl ⟨rfl, trivial⟩ rfl (fun i h => by show i < 1; omega) ?_
  rintro g σ' n' ⟨rfl, p, hp1, hp2, rfl, hor⟩
  rw [List.drop_zero] at hor
  have hfirst : ∀ L, okS L = true → s = enc L → getF (sb s) = some ((L.length : Int), chunkR L ⟨0, 0⟩ 0 true ++ List.replicate (8 * (((chunkF L).length + 7) / 8) - (chunkF L).length) false) := fun L hL e => by
    rw [e, enc_bits]
    unfold chunkF
    rw [List.append_assoc]
    have := ((okS_iff L).1 hL).2
    exact get_put _ (by omega) (by omega) _
  rcases hor with ⟨v, hv, rfl⟩ | ⟨hv, rfl⟩
  · refine vc_sound pg_ok 200 _ _ ?_
    refine neg' rfl ?_
    refine ⟨fun hv0 => ?_, fun hv0 => ?_⟩
    · refine ⟨fun hv1 => ?_, fun hv1 => ?_⟩
      · refine ReadQ.no fun L hL hV e => ?_
        rw [hfirst L hL e] at hv
        simp only [Option.some.injEq, Prod.mk.injEq] at hv
        have := ((okS_iff L).1 hL).2
        have hv1' : v > 2000 := of_decide_eq_true hv1
        omega
      · have hv0' : ¬ v < 0 := of_decide_eq_false hv0
        have hv1' : ¬ v > 2000 := of_decide_eq_false hv1
        obtain ⟨n, rfl⟩ := Int.eq_ofNat_of_zero_le (show 0 ≤ v by omega)
        have hn : n ≤ 2000 := by omega
        refine JK.ownNil 7 53 2 rfl ?_
        refine JK.loopE (α := Nat × List Sm × Sm × Int × Nat) (β := List Sm)
          (fun y => ⟨[(0, .v (.string s)), (4, .p 0 0), (35, gi n), (36, gi y.1), (7, .o 1), (8, .p 2 0), (9, gi y.2.2.2.1)], rHeap 0 s y.2.2.2.2 ++ [(1, .row 53 2 (y.2.1.map sm)), (2, .blk 53 (sm y.2.2.1))], 3⟩)
          (fun y => y.1 ≤ n ∧ y.2.1.length = y.1 ∧ y.2.2.2.2 ≤ 8 * s.size ∧ Fit y.2.2.1 y.2.2.2.1 ∧ V64 y.2.1 ∧ Part s n y.1 y.2.1 y.2.2.1 y.2.2.2.1 y.2.2.2.2) (fun y => n - y.1)
          (fun li => ⟨[(0, .v (.string s)), (7, .o 0)], [(0, .row 53 2 (li.map sm))], 1⟩) (fun li => li.length ≤ 2000 ∧ V64 li ∧ ∀ L, okS L = true → V64 L → s = enc L → li = L)
          (0, [], ⟨0, 0⟩, 0, p) (fun i => [0, 2, 1].getD i 0) ?_ ⟨Nat.zero_le _, rfl, hp2, .zero, fun x hx => by simp at hx, fun L hL hV e => ?_⟩ ?_ ?_
        · exact ⟨⟨rfl, rfl, rfl, rfl, rfl, rfl, rfl, trivial⟩, ⟨rfl, rfl, rfl, trivial⟩, rfl⟩
        · rw [hfirst L hL e] at hv
          simp only [Option.some.injEq, Prod.mk.injEq] at hv
          exact ⟨by omega, rfl, _, hv.2.symm⟩
        · rintro ⟨i, li, last, step, p⟩ ⟨hi, hll, hp, hfit, hVl, hpart⟩
          simp only at hi hll hp hfit hVl hpart
          have hL : ∀ L, okS L = true → V64 L → s = enc L → ∃ (_ : i < n → i < L.length) (z : List Bool), n = L.length ∧ li = L.take i ∧ ∀ h : i < L.length, (sb s).drop p = putF (L[i].time - last.time - step) ++ (putF (w64 (L[i].value - last.value)) ++ (chunkR (L.drop (i + 1)) L[i] (if (i == 0) = true then step else L[i].time - last.time) false ++ z)) := fun L h1 h2 h3 => by
            obtain ⟨e1, e2, z, e3⟩ := hpart L h1 h2 h3
            refine ⟨fun h => by omega, z, e1, e2, fun h => ?_⟩
            rw [e3, List.drop_eq_getElem_cons h, chunkR]
            simp only [List.append_assoc]
          have ht1 := hfit.t1
          have ht2 := hfit.t2
          have hs1 := hfit.s1
          have hs2 := hfit.s2
          refine vc_sound pg_ok 200 _ _ ?_
          by_cases hlt : i < n
          · refine pos (by simp <;> omega) ?_
            refine JK.call (n0 := 1) (r := id) (get_ct s p (by omega) hp) Tryd.call73 rfl rfl rfl rfl rfl ⟨rfl, trivial⟩ rfl (fun i h => by show i < 3; omega) ?_
            rintro g σ' n' ⟨rfl, p1, hp1, hp1', rfl, hor1⟩
            have hg1 : ∀ L (h : i < L.length), okS L = true → V64 L → s = enc L → ∃ z, getF ((sb s).drop p) = some (L[i].time - last.time - step, putF (w64 (L[i].value - last.value)) ++ (chunkR (L.drop (i + 1)) L[i] (if (i == 0) = true then step else L[i].time - last.time) false ++ z)) ∧ -4398046511104 ≤ L[i].time - last.time - step ∧ L[i].time - last.time - step ≤ 4398046511104 := fun L h h1 h2 h3 => by
              obtain ⟨_, z, e1, e2, e3⟩ := hL L h1 h2 h3
              obtain ⟨hr, _⟩ := (okS_iff L).1 h1
              have hd := hfit.diff (hr.lo _ (List.getElem_mem h)) (hr.hi _ (List.getElem_mem h))
              exact ⟨z, by rw [e3 h]; exact get_put _ (by omega) (by omega) _, hd⟩
            have hlen : ∀ L, okS L = true → V64 L → s = enc L → i < L.length := fun L h1 h2 h3 => (hL L h1 h2 h3).1 hlt
            rcases hor1 with ⟨d, hd, rfl⟩ | ⟨hd, rfl⟩
            · have hg2 : ∀ L (h : i < L.length), okS L = true → V64 L → s = enc L → d = L[i].time - last.time - step ∧ ∃ z, getF ((sb s).drop p1) = some (w64 (L[i].value - last.value), chunkR (L.drop (i + 1)) L[i] (if (i == 0) = true then step else L[i].time - last.time) false ++ z) := fun L h h1 h2 h3 => by
                obtain ⟨z, e1, e2⟩ := hg1 L h h1 h2 h3
                rw [e1] at hd
                simp only [Option.some.injEq, Prod.mk.injEq] at hd
                have hv := w64_in (L[i].value - last.value)
                exact ⟨hd.1.symm, z, by rw [← hd.2]; exact get_put _ hv.1 hv.2 _⟩
              refine vc_sound pg_ok 200 _ _ ?_
              refine JK.call (n0 := 1) (r := id) (get_ct s p1 (by omega) hp1') Tryd.call73 rfl rfl rfl rfl rfl ⟨rfl, trivial⟩ rfl (fun i h => by show i < 3; omega) ?_
              rintro g2 σ' n' ⟨rfl, p2, hp2, hp2', rfl, hor2⟩
              rcases hor2 with ⟨v, hv, rfl⟩ | ⟨hv, rfl⟩
              · refine vc_sound pg_ok 200 _ _ ?_
                refine neg' rfl ?_
                refine neg' rfl ?_
                by_cases hd1 : d < -4398046511104
                · refine pos' (decide_eq_true hd1) ?_
                  refine ReadQ.no fun L h1 h2 h3 => ?_
                  obtain ⟨_, _, e2⟩ := hg1 L (hlen L h1 h2 h3) h1 h2 h3
                  have := (hg2 L (hlen L h1 h2 h3) h1 h2 h3).1
                  omega
                · refine neg' (decide_eq_false hd1) ?_
                  by_cases hd2 : d > 4398046511104
                  · refine pos (decide_eq_true hd2) ?_
                    refine ReadQ.no fun L h1 h2 h3 => ?_
                    obtain ⟨_, _, e2⟩ := hg1 L (hlen L h1 h2 h3) h1 h2 h3
                    have := (hg2 L (hlen L h1 h2 h3) h1 h2 h3).1
                    omega
                  · refine neg (decide_eq_false hd2) ?_
                    have ed : IntKind.i64.wrap (d + step) = d + step := wrap_id (by omega) (by omega)
                    have et : IntKind.i64.wrap (last.time + IntKind.i64.wrap (d + step)) = last.time + (d + step) := by rw [ed]; exact wrap_id (by omega) (by omega)
                    have elo : (if IntKind.i64.wrap ((i : Int) - 1) > 0 then IntKind.i64.wrap ((i : Int) - 1) else 0) = ((i - 1 : Nat) : Int) := by
                      rw [wrap_id (by omega) (by omega)]
                      split <;> omega
                    have hxL' : ∀ L (h : i < L.length), okS L = true → V64 L → s = enc L → (⟨IntKind.i64.wrap (last.time + IntKind.i64.wrap (d + step)), IntKind.i64.wrap (last.value + v)⟩ : Sm) = L[i] := fun L h h1 h2 h3 => by
                      obtain ⟨ea, z2, eb⟩ := hg2 L h h1 h2 h3
                      rw [eb] at hv
                      simp only [Option.some.injEq, Prod.mk.injEq] at hv
                      have hval := h2 _ (List.getElem_mem h)
                      have e1 : IntKind.i64.wrap (last.time + IntKind.i64.wrap (d + step)) = L[i].time := by rw [et, ea]; omega
                      have e2 : IntKind.i64.wrap (last.value + v) = L[i].value := by
                        rw [← hv.1]
                        show w64 (last.value + w64 (L[i].value - last.value)) = _
                        rw [w64_add_r, show last.value + (L[i].value - last.value) = L[i].value by omega]
                        exact w64_id hval.1 hval.2
                      rw [e1, e2]
                    have hxt : (⟨IntKind.i64.wrap (last.time + IntKind.i64.wrap (d + step)), IntKind.i64.wrap (last.value + v)⟩ : Sm).time = last.time + (d + step) := et
                    obtain ⟨x, hxe⟩ : ∃ x : Sm, x = ⟨IntKind.i64.wrap (last.time + IntKind.i64.wrap (d + step)), IntKind.i64.wrap (last.value + v)⟩ := ⟨_, rfl⟩
                    have hxL : ∀ L (h : i < L.length), okS L = true → V64 L → s = enc L → x = L[i] := fun L h h1 h2 h3 => by rw [hxe]; exact hxL' L h h1 h2 h3
                    have hx : ∀ L, okS L = true → V64 L → s = enc L → li ++ [x] = L.take (i + 1) := fun L h1 h2 h3 => by
                      have hiL := hlen L h1 h2 h3
                      obtain ⟨_, _, _, e2, _⟩ := hL L h1 h2 h3
                      rw [List.take_succ_eq_append_getElem hiL, ← e2, hxL L hiL h1 h2 h3]
                    rw [← hxe] at hxt
                    have hxv : In64 x.value := by rw [hxe]; exact w64_in _
                    have hxs : sm x = sm ⟨IntKind.i64.wrap (last.time + IntKind.i64.wrap (d + step)), IntKind.i64.wrap (last.value + v)⟩ := by rw [hxe]
                    by_cases h0 : i = 0
                    · refine neg (by simp <;> omega) ?_
                      refine ⟨by simp <;> omega, ?_⟩
                      refine JK.sliceO (ty := 53) (rows := li.map sm ++ [sm ⟨IntKind.i64.wrap (last.time + IntKind.i64.wrap (d + step)), IntKind.i64.wrap (last.value + v)⟩]) (sz := 2) pg_ok rfl rfl rfl rfl rfl rfl rfl rfl rfl rfl (by rw [elo]; omega) (by rw [elo]; simp <;> omega) (Int.le_refl _) ?_
                      refine JK.callB (right_ct ((li ++ [x]).drop (i - 1))) Tryd.call19 rfl rfl rfl rfl ⟨⟨rfl, rfl, by rw [elo]; simp <;> omega, ?_⟩, trivial⟩ (by rintro g σ' n' ⟨rfl, rfl, rfl⟩; rfl) ?_
                      · rw [elo, Int.toNat_natCast, Int.toNat_natCast]
                        show _ = List.take ((li.map sm ++ [sm ⟨IntKind.i64.wrap (last.time + IntKind.i64.wrap (d + step)), IntKind.i64.wrap (last.value + v)⟩]).length - (i - 1)) (List.drop (i - 1) (li.map sm ++ [sm ⟨IntKind.i64.wrap (last.time + IntKind.i64.wrap (d + step)), IntKind.i64.wrap (last.value + v)⟩]))
                        rw [← hxs, ← List.length_drop, List.take_length, List.map_drop, List.map_append]
                        rfl
                      rintro g σ' n' ⟨rfl, rfl, rfl⟩
                      refine vc_sound pg_ok 200 _ _ ?_
                      cases hok : okS ((li ++ [x]).drop (i - 1)) with
                      | false =>
                        refine pos rfl ?_
                        refine ReadQ.no fun L h1 h2 h3 => ?_
                        have := hx L h1 h2 h3
                        rw [this] at hok
                        have hr := (okS_iff L).1 h1
                        have : okS ((L.take (i + 1)).drop (i - 1)) = true := (okS_iff _).2 ⟨(hr.1.takeN _).dropN _, by simp; omega⟩
                        rw [this] at hok
                        cases hok
                      | true =>
                        refine neg rfl ?_
                        obtain ⟨hr, _⟩ := (okS_iff _).1 hok
                        have hmem : x ∈ (li ++ [x]).drop (i - 1) := by
                          rw [List.drop_append_of_le_length (by omega)]; simp
                        have hb1 := hr.lo x hmem
                        have hb2 := hr.hi x hmem
                        refine ⟨(i + 1, li ++ [x], x, step, p2), (fun i => [0, 4, 2].getD i 0), ⟨⟨rfl, rfl, rfl, succ_gi (by omega), rfl, rfl, rfl, trivial⟩, ⟨rfl, ?_, ?_, trivial⟩, rfl⟩, ⟨hlt, by simp [hll], hp2', ?_, ?_, ?_⟩, by show n - (i + 1) < n - i; omega⟩
                        · rw [List.map_append, show [x].map sm = [sm x] from rfl, hxs]; rfl
                        · exact congrArg (fun c => some (Res.blk 53 c)) hxs.symm
                        · exact ⟨hb1, hb2, hs1, hs2⟩
                        · intro y hy
                          rcases List.mem_append.1 hy with hy | hy
                          · exact hVl y hy
                          · have : y = x := by simpa using hy
                            subst this
                            exact hxv
                        · intro L h1 h2 h3
                          obtain ⟨q, z, e1, e2, _⟩ := hL L h1 h2 h3
                          have hiL := hlen L h1 h2 h3
                          obtain ⟨ea, z2, eb⟩ := hg2 L hiL h1 h2 h3
                          refine ⟨e1, hx L h1 h2 h3, z2, ?_⟩
                          rw [eb] at hv
                          simp only [Option.some.injEq, Prod.mk.injEq] at hv
                          rw [← hv.2, hxL L hiL h1 h2 h3, if_pos (by simp [h0])]
                          rfl
                    · refine pos (by simp <;> omega) ?_
                      refine ⟨by simp <;> omega, ?_⟩
                      refine JK.sliceO (ty := 53) (rows := li.map sm ++ [sm ⟨IntKind.i64.wrap (last.time + IntKind.i64.wrap (d + step)), IntKind.i64.wrap (last.value + v)⟩]) (sz := 2) pg_ok rfl rfl rfl rfl rfl rfl rfl rfl rfl rfl (by rw [elo]; omega) (by rw [elo]; simp <;> omega) (Int.le_refl _) ?_
                      refine JK.callB (right_ct ((li ++ [x]).drop (i - 1))) Tryd.call19 rfl rfl rfl rfl ⟨⟨rfl, rfl, by rw [elo]; simp <;> omega, ?_⟩, trivial⟩ (by rintro g σ' n' ⟨rfl, rfl, rfl⟩; rfl) ?_
                      · rw [elo, Int.toNat_natCast, Int.toNat_natCast]
                        show _ = List.take ((li.map sm ++ [sm ⟨IntKind.i64.wrap (last.time + IntKind.i64.wrap (d + step)), IntKind.i64.wrap (last.value + v)⟩]).length - (i - 1)) (List.drop (i - 1) (li.map sm ++ [sm ⟨IntKind.i64.wrap (last.time + IntKind.i64.wrap (d + step)), IntKind.i64.wrap (last.value + v)⟩]))
                        rw [← hxs, ← List.length_drop, List.take_length, List.map_drop, List.map_append]
                        rfl
                      rintro g σ' n' ⟨rfl, rfl, rfl⟩
                      refine vc_sound pg_ok 200 _ _ ?_
                      cases hok : okS ((li ++ [x]).drop (i - 1)) with
                      | false =>
                        refine pos rfl ?_
                        refine ReadQ.no fun L h1 h2 h3 => ?_
                        have := hx L h1 h2 h3
                        rw [this] at hok
                        have hr := (okS_iff L).1 h1
                        have : okS ((L.take (i + 1)).drop (i - 1)) = true := (okS_iff _).2 ⟨(hr.1.takeN _).dropN _, by simp; omega⟩
                        rw [this] at hok
                        cases hok
                      | true =>
                        refine neg rfl ?_
                        obtain ⟨hr, _⟩ := (okS_iff _).1 hok
                        have hmem : x ∈ (li ++ [x]).drop (i - 1) := by
                          rw [List.drop_append_of_le_length (by omega)]; simp
                        have hb1 := hr.lo x hmem
                        have hb2 := hr.hi x hmem
                        refine ⟨(i + 1, li ++ [x], x, d + step, p2), (fun i => [0, 4, 2].getD i 0), ⟨⟨rfl, rfl, rfl, succ_gi (by omega), rfl, rfl, (by show some (gi (IntKind.i64.wrap (d + step))) = _; rw [ed]; rfl), trivial⟩, ⟨rfl, ?_, ?_, trivial⟩, rfl⟩, ⟨hlt, by simp [hll], hp2', ?_, ?_, ?_⟩, by show n - (i + 1) < n - i; omega⟩
                        · rw [List.map_append, show [x].map sm = [sm x] from rfl, hxs]; rfl
                        · exact congrArg (fun c => some (Res.blk 53 c)) hxs.symm
                        · exact ⟨hb1, hb2, by show -2199023255552 ≤ d + step; omega, by show d + step ≤ 2199023255552; omega⟩
                        · intro y hy
                          rcases List.mem_append.1 hy with hy | hy
                          · exact hVl y hy
                          · have : y = x := by simpa using hy
                            subst this
                            exact hxv
                        · intro L h1 h2 h3
                          obtain ⟨q, z, e1, e2, _⟩ := hL L h1 h2 h3
                          have hiL := hlen L h1 h2 h3
                          obtain ⟨ea, z2, eb⟩ := hg2 L hiL h1 h2 h3
                          refine ⟨e1, hx L h1 h2 h3, z2, ?_⟩
                          rw [eb] at hv
                          simp only [Option.some.injEq, Prod.mk.injEq] at hv
                          rw [← hv.2, hxL L hiL h1 h2 h3, if_neg (by simp [h0]), show L[i].time - last.time = d + step by omega]
                          rfl
              · refine vc_sound pg_ok 200 _ _ ?_
                refine neg' rfl ?_
                refine pos' rfl ?_
                refine ReadQ.no fun L h1 h2 h3 => ?_
                obtain ⟨_, z, e⟩ := hg2 L (hlen L h1 h2 h3) h1 h2 h3
                rw [e] at hv
                cases hv
            · have hno : ∀ L, okS L = true → V64 L → s ≠ enc L := fun L h1 h2 h3 => by
                obtain ⟨z, e, _⟩ := hg1 L (hlen L h1 h2 h3) h1 h2 h3
                rw [e] at hd
                cases hd
              refine vc_sound pg_ok 200 _ _ ?_
              refine JK.call (n0 := 1) (r := id) (get_ct s p1 (by omega) hp1') Tryd.call73 rfl rfl rfl rfl rfl ⟨rfl, trivial⟩ rfl (fun i h => by show i < 3; omega) ?_
              rintro g2 σ' n' ⟨rfl, p2, hp2, hp2', rfl, hor2⟩
              rcases hor2 with ⟨v, hv, rfl⟩ | ⟨hv, rfl⟩
              · refine vc_sound pg_ok 200 _ _ ?_
                refine pos' rfl ?_
                exact ReadQ.no hno
              · refine vc_sound pg_ok 200 _ _ ?_
                refine pos' rfl ?_
                exact ReadQ.no hno
          · have e : i = n := by omega
            refine neg (by simp <;> omega) ?_
            refine ⟨li, (fun i => [1].getD i 0), ⟨⟨rfl, rfl, trivial⟩, ⟨rfl, trivial⟩, rfl⟩, by omega, hVl, fun L h1 h2 h3 => ?_⟩
            obtain ⟨_, _, e1, e2, _⟩ := hL L h1 h2 h3
            rw [e2]
            exact List.take_of_length_le (by omega)
        · rintro li ⟨hn2, hVl, hLl⟩
          refine vc_sound pg_ok 200 _ _ ?_
          cases hok : okS li with
          | true =>
            refine JK.callB (write_ct li hok) Tryd.call51 rfl rfl rfl rfl ⟨⟨rfl, rfl⟩, trivial⟩ (by rintro g σ' n' ⟨rfl, rfl, rfl⟩; rfl) ?_
            rintro g σ' n' ⟨rfl, rfl, rfl⟩
            refine JK.freeze 0 (ty := 53) (sz := 2) (rows := li.map sm) rfl ?_
            refine vc_sound pg_ok 200 _ _ ?_
            refine neg' rfl ?_
            by_cases he : enc li = s
            · refine neg (by rw [strEq, he]; simp) ?_
              exact ⟨.inl ⟨li, hok, hVl, he.symm, rfl⟩, rfl⟩
            · refine pos (by rw [strEq]; simp [he]) ?_
              refine ReadQ.no fun L h1 h2 h3 => ?_
              have := hLl L h1 h2 h3
              subst this
              exact he h3.symm
          | false =>
            refine JK.callB (writeNo_ct li hok) Tryd.call51 rfl rfl rfl rfl ⟨⟨rfl, rfl⟩, trivial⟩ (by rintro g σ' n' ⟨rfl, rfl, rfl⟩; rfl) ?_
            rintro g σ' n' ⟨rfl, rfl, rfl⟩
            refine vc_sound pg_ok 200 _ _ ?_
            refine pos' rfl ?_
            refine ReadQ.no fun L h1 h2 h3 => ?_
            have := hLl L h1 h2 h3
            subst this
            rw [h1] at hok
            cases hok
    · refine ReadQ.no fun L hL hV e => ?_
      rw [hfirst L hL e] at hv
      simp only [Option.some.injEq, Prod.mk.injEq] at hv
      have hv0' : v < 0 := of_decide_eq_true hv0
      omega
  · refine vc_sound pg_ok 200 _ _ ?_
    refine pos' rfl ?_
    exact ReadQ.no fun L hL hV e => by rw [hfirst L hL e] at hv; cases hv
end Go.Proofs.YtcdnilijfnfkbaaDoor
