/-
  Contracts: the document's answer on samples (raingaugeref: in, Samples, WriteChunk).
-/
import Derived.Test.YtakkdpfbgjccpaaDoorCRefBits
import Derived.Test.YtakkdpfbgjccpaaDoorCErr
import Derived.Test.YtakkdpfbgjccpaaDoorCRight
import Derived.Test.YtakkdpfbgjccpaaDoorPChunk
namespace Go.Proofs.YtakkdpfbgjccpaaDoor
open Go.GK Go.PL
set_option maxRecDepth 100000
theorem in_ct (n lo hi : Int) : Ct pg 56 0 [gi n, gi lo, gi hi] [] (Val fun g => g = .b (decide (lo ≤ n ∧ n ≤ hi))) := by
  refine Ct.bool (Ct.of_JK pg_ok Tryd.func56 rfl Tryd.ntmps56 rfl Tryd.results56 fun H0 S0 w0 h0 g0 => ?_)
  refine vc_sound pg_ok 200 _ _ ?_
  refine ⟨fun h => ?_, fun h => ?_⟩
  · refine .inr (congrArg GV.b ?_)
    have h' : lo ≤ n := of_decide_eq_true h
    exact decide_eq_decide.2 ⟨fun h => ⟨h', h⟩, fun h => h.2⟩
  · refine .inl (congrArg (fun c => GV.v (.bool c)) ?_)
    have h' : ¬ lo ≤ n := of_decide_eq_false h
    exact (decide_eq_false (fun h => h' h.1)).symm
theorem samples_ct (l : List Sm) (hlen' : l.length ≤ 1000000) : Ct pg 39 0 [.sl 2 (l.map sm)] [] (Val fun g => g = .b (okS l)) := by
  refine Ct.bool (Ct.of_JK pg_ok Tryd.func39 rfl Tryd.ntmps39 rfl Tryd.results39 fun H0 S0 w0 h0 g0 => ?_)
  refine vc_sound pg_ok 200 _ _ ?_
  refine JK.loop (α := Nat) (fun i => ⟨[(0, .sl 2 (l.map sm)), (5, .sl 2 (l.map sm)), (6, gi (l.map sm).length), (7, gi i)], [], 0⟩) (fun i => i ≤ l.length ∧ ∀ j x, j < i → l[j]? = some x → ¬ badAt l j x) (fun i => l.length - i) 0 id ?_ ⟨Nat.zero_le _, fun j x hj => absurd hj (by omega)⟩ ?_
  · exact ⟨⟨rfl, rfl, rfl, rfl, trivial⟩, trivial, rfl⟩
  · rintro i ⟨hi, hgood⟩
    refine vc_sound pg_ok 200 _ _ ?_
    refine ⟨fun hb => ?_, fun hb => ?_⟩
    · have hlt : i < l.length := by simpa using hb
      refine idx i rfl hlt ?_
      have hfalse : badAt l i l[i] → false = okS l := fun hb => by
        cases h : okS l with
        | false => rfl
        | true => exact ((okS_bad l).1 h |>.1 i l[i] (List.getElem?_eq_getElem hlt) hb).elim
      have hnext : ¬ badAt l i l[i] → i + 1 ≤ l.length ∧ ∀ j x, j < i + 1 → l[j]? = some x → ¬ badAt l j x := fun hn => ⟨hlt, fun j x hj hx => by
        rcases Nat.lt_succ_iff_lt_or_eq.1 hj with h1 | h1
        · exact hgood j x h1 hx
        · subst h1
          rw [List.getElem?_eq_getElem hlt] at hx
          cases hx
          exact hn⟩
      have e18 : some (gi (IntKind.i64.wrap (i + 1 : Int))) = some (gi ((i + 1 : Nat) : Int)) := by rw [wrap_id (by omega) (by omega)]; rfl
      refine JK.draw [] pg_ok ?_
      refine RA.run (e := false) pg_ok (by kernel_rfl) (fun _ _ h => h) (tk [0, 1]) (by kernel_rfl) ?_
      refine RA.call (n0 := 0) (r := id) 2 (in_ct l[i].time (-1099511627776) 1099511627776) Tryd.call56 rfl (by kernel_rfl) rfl rfl rfl rfl rfl trivial rfl (by simp) ?_
      rintro g σ' n' ⟨rfl, rfl, rfl⟩
      refine RA.run (e := true) pg_ok (by kernel_rfl) (fun _ _ h => h) (tk [3, 4, 5, 6, 7, 8, 9, 10, 11, 12, 13, 14, 15, 16, 17, 18]) (by kernel_rfl) ?_
      refine ⟨fun ha => ?_, fun ha => ?_⟩
      · have ha' : -1099511627776 ≤ l[i].time ∧ l[i].time ≤ 1099511627776 := by simpa using ha
        refine ⟨fun hd => ?_, fun hd => ?_⟩
        · have hd' : 0 < i := by simpa using hd
          have ew : IntKind.i64.wrap ((i : Int) - 1) = ((i - 1 : Nat) : Int) := by rw [wrap_id (by omega) (by omega)]; omega
          refine idx (i - 1) ew (by omega) ?_
          refine vc_sound pg_ok 200 _ _ ?_
          refine ⟨fun he => ?_, fun he => ?_⟩
          · exact .inl (congrArg (fun c => GV.v (.bool c)) (hfalse (.inr (.inr ⟨hd', _, List.getElem?_eq_getElem (by omega), by simpa using he⟩))))
          · refine ⟨i + 1, id, ⟨⟨rfl, rfl, rfl, e18, trivial⟩, trivial, rfl⟩, hnext ?_, by show l.length - (i + 1) < l.length - i; omega⟩
            rintro (h | h | ⟨_, y, hy, h⟩)
            · omega
            · omega
            · rw [List.getElem?_eq_getElem (by omega)] at hy
              rw [Option.some.injEq] at hy
              rw [← hy] at h
              simp at he
              omega
        · have hd' : ¬ 0 < i := by simpa using hd
          refine vc_sound pg_ok 200 _ _ ?_
          refine ⟨i + 1, id, ⟨⟨rfl, rfl, rfl, e18, trivial⟩, trivial, rfl⟩, hnext ?_, by show l.length - (i + 1) < l.length - i; omega⟩
          rintro (h | h | ⟨h, _⟩)
          · omega
          · omega
          · exact hd' h
      · have ha' : ¬ (-1099511627776 ≤ l[i].time ∧ l[i].time ≤ 1099511627776) := fun h => by
          rw [decide_eq_true h] at ha; cases ha
        refine vc_sound pg_ok 200 _ _ ?_
        refine .inl (congrArg (fun c => GV.v (.bool c)) (hfalse ?_))
        rcases Int.lt_or_le l[i].time (-1099511627776) with h | h
        · exact .inl h
        · exact .inr (.inl (by omega))
    · have hge : i = l.length := by simp at hb; omega
      refine vc_sound pg_ok 200 _ _ ?_
      refine .inr (congrArg GV.b ?_)
      rw [Bool.eq_iff_iff, okS_bad, decide_eq_true_iff, List.length_map]
      exact ⟨fun h => ⟨fun j x hj => hgood j x (by rw [hge]; exact (List.getElem?_eq_some_iff.1 hj).1) hj, by omega⟩, fun h => by omega⟩
/-- What stands ahead of a sample: the one before, and the step before. -/
def Ahead (l : List Sm) (i : Nat) (last : Sm) (step : Int) : Prop :=
  (i = 0 ∧ last = ⟨0, 0⟩ ∧ step = 0) ∨ (i = 1 ∧ l[0]? = some last ∧ step = 0) ∨ ∃ j q, i = j + 2 ∧ l[j + 1]? = some last ∧ l[j]? = some q ∧ step = last.time - q.time
theorem refWriteNo_ct (l : List Sm) (hlen : l.length ≤ 1000000) (hok : okS l = false) : Ct pg 38 0 [.sl 2 (l.map sm)] [] (Val fun g => g = .tup [gs ⟨#[]⟩, gi 1]) := by
  refine Ct.val (Ct.of_JK pg_ok Tryd.func38 rfl Tryd.ntmps38 rfl Tryd.results38 fun H0 S0 w0 h0 g0 => ?_)
  refine vc_sound pg_ok 200 _ _ ?_
  refine JK.call (n0 := 0) (r := id) (samples_ct l hlen) Tryd.call39 rfl rfl rfl rfl rfl trivial rfl (by simp) ?_
  rintro g σ' n' ⟨rfl, rfl, rfl⟩
  refine vc_sound pg_ok 200 _ _ ?_
  refine pos (by rw [hok]; rfl) ?_
  exact ⟨rfl, rfl⟩
theorem refWrite_ct (l : List Sm) (hV : V64 l) (hok : okS l = true) : Ct pg 38 0 [.sl 2 (l.map sm)] [] (Val fun g => g = .tup [gs (enc l), gi 0]) := by
  obtain ⟨hris, hlen⟩ := (okS_iff l).1 hok
  have hll : (l.map sm).length = l.length := List.length_map ..
  have hcl : (chunkF l).length ≤ 300000 := by have := chunkF_len l; omega
  refine Ct.val (Ct.of_JK pg_ok Tryd.func38 rfl Tryd.ntmps38 rfl Tryd.results38 fun H0 S0 w0 h0 g0 => ?_)
  refine vc_sound pg_ok 200 _ _ ?_
  refine JK.call (n0 := 0) (r := id) (samples_ct l (by omega)) Tryd.call39 rfl rfl rfl rfl rfl trivial rfl (by simp) ?_
  rintro g σ' n' ⟨rfl, rfl, rfl⟩
  refine vc_sound pg_ok 200 _ _ ?_
  refine neg (by rw [hok]; rfl) ?_
  refine JK.call (n0 := 0) (r := id) (refPut_ct [] (l.map sm).length (by omega) (by omega) (by simp)) Tryd.call27 rfl rfl rfl rfl rfl trivial rfl (by simp) ?_
  rintro g σ' n' ⟨rfl, rfl, rfl⟩
  refine vc_sound pg_ok 200 _ _ ?_
  refine JK.loop (α := Nat × List Bool × Sm × Int) (fun x => ⟨[(0, .sl 2 (l.map sm)), (4, gs (lett x.2.1)), (16, .sl 2 (l.map sm)), (17, gi (l.map sm).length), (18, gi x.1)], [], 0⟩)
    (fun x => x.1 ≤ l.length ∧ Ahead l x.1 x.2.2.1 x.2.2.2 ∧ chunkF l = x.2.1 ++ chunkR (l.drop x.1) x.2.2.1 x.2.2.2 (x.1 == 0)) (fun x => l.length - x.1) (0, putF l.length, ⟨0, 0⟩, 0) id ?_ ⟨Nat.zero_le _, .inl ⟨rfl, rfl, rfl⟩, rfl⟩ ?_
  · refine ⟨⟨rfl, ?_, rfl, rfl, rfl, trivial⟩, trivial, rfl⟩
    rw [hll, List.nil_append]
    rfl
  · rintro ⟨i, bs, last, step⟩ ⟨hi, hah, hc⟩
    simp only at hi hah hc
    refine (show JK _ _ _ (⟨[(0, .sl 2 (l.map sm)), (4, gs (lett bs)), (16, .sl 2 (l.map sm)), (17, gi (l.map sm).length), (18, gi i)], [], 0⟩ : St) from ?_)
    have hbl : bs.length ≤ 300000 := by
      have := congrArg List.length hc
      rw [List.length_append] at this
      omega
    refine vc_sound pg_ok 200 _ _ ?_
    by_cases hlt : i < l.length
    · refine pos (by simp <;> omega) ?_
      refine idx i rfl hlt ?_
      have hx1 := hris.lo _ (List.getElem_mem hlt)
      have hx2 := hris.hi _ (List.getElem_mem hlt)
      have hxv := hV _ (List.getElem_mem hlt)
      refine ⟨by kernel_rfl, ?_⟩
      have fin : ∀ (a b : Int), a = l[i].time - last.time - step → b = w64 (l[i].value - last.value) → In64 a →
          chunkF l = (bs ++ putF a ++ putF b) ++ chunkR (l.drop (i + 1)) l[i] (if (i == 0) then step else l[i].time - last.time) (i + 1 == 0) := by
        rintro a b rfl rfl _
        rw [hc, List.drop_eq_getElem_cons hlt, show (i + 1 == 0) = false from rfl, chunkR]
        simp only [List.append_assoc]
      rcases hah with ⟨rfl, rfl, rfl⟩ | ⟨rfl, hl0, rfl⟩ | ⟨j, q, rfl, hl1, hl0, rfl⟩
      · refine neg (by simp) ?_
        refine neg (by simp) ?_
        have e2 : IntKind.i64.wrap (l[0].time - 0) = l[0].time - 0 := wrap_id (by omega) (by omega)
        refine JK.call (n0 := 0) (r := id) (refPut_ct bs (IntKind.i64.wrap (l[0].time - 0)) (by rw [e2]; omega) (by rw [e2]; omega) (by omega)) Tryd.call27 rfl rfl rfl rfl rfl trivial rfl (by simp) ?_
        rintro g σ' n' ⟨rfl, rfl, rfl⟩
        refine vc_sound pg_ok 200 _ _ ?_
        have hpa := (putF_len (IntKind.i64.wrap (l[0].time - 0))).2
        refine JK.call (n0 := 0) (r := id) (refPut_ct (bs ++ putF (IntKind.i64.wrap (l[0].time - 0))) (l[0].value) hxv.1 hxv.2 (by rw [List.length_append]; omega)) Tryd.call27 rfl rfl rfl rfl rfl trivial rfl (by simp) ?_
        rintro g σ' n' ⟨rfl, rfl, rfl⟩
        refine vc_sound pg_ok 200 _ _ ?_
        rw [e2]
        have hf := fin (l[0].time - 0) l[0].value (by simp) (by rw [show l[0].value - (⟨0, 0⟩ : Sm).value = l[0].value by simp]; exact (w64_id hxv.1 hxv.2).symm) ⟨by omega, by omega⟩
        exact ⟨(1, bs ++ putF (l[0].time - 0) ++ putF l[0].value, l[0], 0), id, ⟨⟨rfl, rfl, rfl, rfl, succ_gi (by omega), trivial⟩, trivial, rfl⟩, ⟨hlt, .inr (.inl ⟨rfl, List.getElem?_eq_getElem hlt, rfl⟩), hf⟩, by show l.length - (0 + 1) < l.length - 0; omega⟩
      · refine pos (by simp) ?_
        obtain ⟨h00, hl0⟩ := List.getElem?_eq_some_iff.1 hl0
        have hy1 := hris.lo _ (List.getElem_mem h00)
        have hy2 := hris.hi _ (List.getElem_mem h00)
        rw [hl0] at hy1 hy2
        have ew : IntKind.i64.wrap (((1 : Nat) : Int) - 1) = ((0 : Nat) : Int) := rfl
        refine idx 0 ew (by omega) ?_
        refine idx 0 ew (by omega) ?_
        rw [hl0]
        refine neg (by simp) ?_
        have e1 : IntKind.i64.wrap (l[1].time - last.time) = l[1].time - last.time := wrap_id (by omega) (by omega)
        have e2 : IntKind.i64.wrap (IntKind.i64.wrap (l[1].time - last.time) - 0) = l[1].time - last.time - 0 := by rw [e1, wrap_id (by omega) (by omega)]
        have hv := w64_in (l[1].value - last.value)
        refine JK.call (n0 := 0) (r := id) (refPut_ct bs (IntKind.i64.wrap (IntKind.i64.wrap (l[1].time - last.time) - 0)) (by rw [e2]; omega) (by rw [e2]; omega) (by omega)) Tryd.call27 rfl rfl rfl rfl rfl trivial rfl (by simp) ?_
        rintro g σ' n' ⟨rfl, rfl, rfl⟩
        refine vc_sound pg_ok 200 _ _ ?_
        have hpa := (putF_len (IntKind.i64.wrap (IntKind.i64.wrap (l[1].time - last.time) - 0))).2
        refine JK.call (n0 := 0) (r := id) (refPut_ct (bs ++ putF (IntKind.i64.wrap (IntKind.i64.wrap (l[1].time - last.time) - 0))) (IntKind.i64.wrap (l[1].value - last.value)) hv.1 hv.2 (by rw [List.length_append]; omega)) Tryd.call27 rfl rfl rfl rfl rfl trivial rfl (by simp) ?_
        rintro g σ' n' ⟨rfl, rfl, rfl⟩
        refine vc_sound pg_ok 200 _ _ ?_
        rw [e2]
        have hf := fin (l[1].time - last.time - 0) (IntKind.i64.wrap (l[1].value - last.value)) rfl rfl ⟨by omega, by omega⟩
        exact ⟨(2, bs ++ putF (l[1].time - last.time - 0) ++ putF (IntKind.i64.wrap (l[1].value - last.value)), l[1], l[1].time - last.time), id, ⟨⟨rfl, rfl, rfl, rfl, succ_gi (by omega), trivial⟩, trivial, rfl⟩, ⟨hlt, .inr (.inr ⟨0, last, rfl, List.getElem?_eq_getElem hlt, by rw [← hl0]; exact List.getElem?_eq_getElem h00, rfl⟩), hf⟩, by show l.length - (1 + 1) < l.length - 1; omega⟩
      · refine pos (by simp <;> omega) ?_
        obtain ⟨h11, hl1⟩ := List.getElem?_eq_some_iff.1 hl1
        obtain ⟨h00, hl0⟩ := List.getElem?_eq_some_iff.1 hl0
        have hy1 := hris.lo _ (List.getElem_mem h11)
        have hy2 := hris.hi _ (List.getElem_mem h11)
        have hz1 := hris.lo _ (List.getElem_mem h00)
        have hz2 := hris.hi _ (List.getElem_mem h00)
        rw [hl1] at hy1 hy2
        rw [hl0] at hz1 hz2
        have ew : IntKind.i64.wrap (((j + 2 : Nat) : Int) - 1) = ((j + 1 : Nat) : Int) := by rw [wrap_id (by omega) (by omega)]; omega
        have ew2 : IntKind.i64.wrap (((j + 2 : Nat) : Int) - 2) = ((j : Nat) : Int) := by rw [wrap_id (by omega) (by omega)]; omega
        refine idx (j + 1) ew (by omega) ?_
        refine idx (j + 1) ew (by omega) ?_
        refine pos (by simp <;> omega) ?_
        refine ⟨by kernel_rfl, ?_⟩
        refine idx (j + 1) ew (by omega) ?_
        refine idx j ew2 (by omega) ?_
        rw [hl1, hl0]
        have e1 : IntKind.i64.wrap (l[j + 2].time - last.time) = l[j + 2].time - last.time := wrap_id (by omega) (by omega)
        have e3 : IntKind.i64.wrap (last.time - q.time) = last.time - q.time := wrap_id (by omega) (by omega)
        have e2 : IntKind.i64.wrap (IntKind.i64.wrap (l[j + 2].time - last.time) - IntKind.i64.wrap (last.time - q.time)) = l[j + 2].time - last.time - (last.time - q.time) := by rw [e1, e3, wrap_id (by omega) (by omega)]
        have hv := w64_in (l[j + 2].value - last.value)
        refine JK.call (n0 := 0) (r := id) (refPut_ct bs (IntKind.i64.wrap (IntKind.i64.wrap (l[j + 2].time - last.time) - IntKind.i64.wrap (last.time - q.time))) (by rw [e2]; omega) (by rw [e2]; omega) (by omega)) Tryd.call27 rfl rfl rfl rfl rfl trivial rfl (by simp) ?_
        rintro g σ' n' ⟨rfl, rfl, rfl⟩
        refine vc_sound pg_ok 200 _ _ ?_
        have hpa := (putF_len (IntKind.i64.wrap (IntKind.i64.wrap (l[j + 2].time - last.time) - IntKind.i64.wrap (last.time - q.time)))).2
        refine JK.call (n0 := 0) (r := id) (refPut_ct (bs ++ putF (IntKind.i64.wrap (IntKind.i64.wrap (l[j + 2].time - last.time) - IntKind.i64.wrap (last.time - q.time)))) (IntKind.i64.wrap (l[j + 2].value - last.value)) hv.1 hv.2 (by rw [List.length_append]; omega)) Tryd.call27 rfl rfl rfl rfl rfl trivial rfl (by simp) ?_
        rintro g σ' n' ⟨rfl, rfl, rfl⟩
        refine vc_sound pg_ok 200 _ _ ?_
        rw [e2]
        have hf := fin (l[j + 2].time - last.time - (last.time - q.time)) (IntKind.i64.wrap (l[j + 2].value - last.value)) rfl rfl ⟨by omega, by omega⟩
        exact ⟨(j + 3, bs ++ putF (l[j + 2].time - last.time - (last.time - q.time)) ++ putF (IntKind.i64.wrap (l[j + 2].value - last.value)), l[j + 2], l[j + 2].time - last.time), id, ⟨⟨rfl, rfl, rfl, rfl, succ_gi (by omega), trivial⟩, trivial, rfl⟩, ⟨hlt, .inr (.inr ⟨j + 1, last, rfl, List.getElem?_eq_getElem hlt, by rw [← hl1]; exact List.getElem?_eq_getElem h11, rfl⟩), hf⟩, by show l.length - (j + 2 + 1) < l.length - (j + 2); omega⟩
    · refine neg (by simp <;> omega) ?_
      have e : i = l.length := by omega
      subst e
      rw [List.drop_length, show ∀ a b c, chunkR [] a b c = [] from fun _ _ _ => rfl, List.append_nil] at hc
      subst hc
      refine vc_sound pg_ok 200 _ _ ?_
      refine JK.call (n0 := 0) (r := id) (refBytes_ct (chunkF l) (by omega)) Tryd.call31 rfl rfl rfl rfl rfl trivial rfl (by simp) ?_
      rintro g σ' n' ⟨rfl, rfl, rfl⟩
      refine vc_sound pg_ok 200 _ _ ?_
      exact ⟨rfl, rfl⟩
end Go.Proofs.YtakkdpfbgjccpaaDoor
