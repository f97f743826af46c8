/-
  Contracts: the document's answer on samples (raingaugeref: in, Samples, WriteChunk).
-/
import Derived.Test.YtfnomonhfndbiaaGreatDoorCRefBits
import Derived.Test.YtfnomonhfndbiaaGreatDoorCErr
import Derived.Test.YtfnomonhfndbiaaGreatDoorCRight
import Derived.Test.YtfnomonhfndbiaaGreatDoorPBa
import Derived.Test.YtfnomonhfndbiaaGreatDoorCSamples
namespace Go.Proofs.YtfnomonhfndbiaaGreatDoor
open Go.GK Go.PL
set_option maxRecDepth 100000
theorem refWriteNo_ct (l : List Sm) (hlen : l.length ≤ 1000000) (hok : okS l = false) : Ct pg 37 0 [.sl 2 (l.map sm)] [] (Val fun g => g = .tup [gs ⟨#[]⟩, gi 1]) := by
  refine Ct.val (Ct.of_JK pg_ok Tryz.func37 rfl Tryz.ntmps37 rfl Tryz.results37 fun H0 S0 w0 h0 g0 => ?_)
  refine vc_sound pg_ok 200 _ _ ?_
  refine JK.call (n0 := 0) (r := id) (samples_ct l hlen) Tryz.call25 rfl rfl rfl rfl rfl trivial rfl (by simp) ?_
  rintro g σ' n' ⟨rfl, rfl, rfl⟩
  refine vc_sound pg_ok 200 _ _ ?_
  refine pos (by rw [hok]; rfl) ?_
  exact ⟨rfl, rfl⟩
theorem refWrite_ct (l : List Sm) (hV : V64 l) (hok : okS l = true) : Ct pg 37 0 [.sl 2 (l.map sm)] [] (Val fun g => g = .tup [gs (enc l), gi 0]) := by
  obtain ⟨hris, hlen⟩ := (okS_iff l).1 hok
  have hll : (l.map sm).length = l.length := List.length_map ..
  have hcl : (chunkF l).length ≤ 300000 := by have := chunkF_len l; omega
  refine Ct.val (Ct.of_JK pg_ok Tryz.func37 rfl Tryz.ntmps37 rfl Tryz.results37 fun H0 S0 w0 h0 g0 => ?_)
  refine vc_sound pg_ok 200 _ _ ?_
  refine JK.call (n0 := 0) (r := id) (samples_ct l (by omega)) Tryz.call25 rfl rfl rfl rfl rfl trivial rfl (by simp) ?_
  rintro g σ' n' ⟨rfl, rfl, rfl⟩
  refine vc_sound pg_ok 200 _ _ ?_
  refine neg (by rw [hok]; rfl) ?_
  refine JK.call (n0 := 0) (r := id) (refPut_ct [] (l.map sm).length (by omega) (by omega) (by simp)) Tryz.call58 rfl rfl rfl rfl rfl trivial rfl (by simp) ?_
  rintro g σ' n' ⟨rfl, rfl, rfl⟩
  refine vc_sound pg_ok 200 _ _ ?_
  refine JK.loop (α := Nat × List Bool × Sm × Int) (fun x => ⟨[(0, .sl 2 (l.map sm)), (4, gs (lett x.2.1)), (16, .sl 2 (l.map sm)), (17, gi (l.map sm).length), (18, gi x.1)], [], 0⟩)
    (fun x => x.1 ≤ l.length ∧ Ahead l x.1 x.2.2.1 x.2.2.2 ∧ chunkF l = x.2.1 ++ chunkR (l.drop x.1) x.2.2.1 x.2.2.2 (x.1 == 0)) (fun x => l.length - x.1) (0, putF l.length, ⟨0, 0⟩, 0) id ?_ ⟨Nat.zero_le _, .inl ⟨rfl, rfl, rfl⟩, rfl⟩ ?_
  · refine ⟨⟨rfl, ?_, rfl, rfl, rfl, trivial⟩, trivial, rfl⟩
    rw [hll, List.nil_append]
    rfl
  · rintro ⟨i, bs, last, step⟩ ⟨hi, hah, hc⟩
    simp only at hi hah hc
    refine (show JK _ _ _ (⟨[(0, .sl 2 (l.map sm)), (4, gs (lett bs)), (16, .sl 2 (l.map sm)), (17, gi (l.map sm).length), (18, gi i)], [], 0⟩ : St) from ?_)
    have hbl : bs.length ≤ 300000 := by
      have := congrArg List.length hc
      rw [List.length_append] at this
      omega
    refine vc_sound pg_ok 200 _ _ ?_
    by_cases hlt : i < l.length
    · refine pos (by simp <;> omega) ?_
      refine idx i rfl hlt ?_
      have hx1 := hris.lo _ (List.getElem_mem hlt)
      have hx2 := hris.hi _ (List.getElem_mem hlt)
      have hxv := hV _ (List.getElem_mem hlt)
      refine ⟨by kernel_rfl, ?_⟩
      have fin : ∀ (a b : Int), a = l[i].time - last.time - step → b = w64 (l[i].value - last.value) → In64 a →
          chunkF l = (bs ++ putF a ++ putF b) ++ chunkR (l.drop (i + 1)) l[i] (if (i == 0) then step else l[i].time - last.time) (i + 1 == 0) := by
        rintro a b rfl rfl _
        rw [hc, List.drop_eq_getElem_cons hlt, show (i + 1 == 0) = false from rfl, chunkR]
        simp only [List.append_assoc]
      rcases hah with ⟨rfl, rfl, rfl⟩ | ⟨rfl, hl0, rfl⟩ | ⟨j, q, rfl, hl1, hl0, rfl⟩
      · refine neg (by simp) ?_
        refine neg (by simp) ?_
        have e2 : IntKind.i64.wrap (l[0].time - 0) = l[0].time - 0 := wrap_id (by omega) (by omega)
        refine JK.call (n0 := 0) (r := id) (refPut_ct bs (IntKind.i64.wrap (l[0].time - 0)) (by rw [e2]; omega) (by rw [e2]; omega) (by omega)) Tryz.call58 rfl rfl rfl rfl rfl trivial rfl (by simp) ?_
        rintro g σ' n' ⟨rfl, rfl, rfl⟩
        refine vc_sound pg_ok 200 _ _ ?_
        have hpa := (putF_len (IntKind.i64.wrap (l[0].time - 0))).2
        refine JK.call (n0 := 0) (r := id) (refPut_ct (bs ++ putF (IntKind.i64.wrap (l[0].time - 0))) (l[0].value) hxv.1 hxv.2 (by rw [List.length_append]; omega)) Tryz.call58 rfl rfl rfl rfl rfl trivial rfl (by simp) ?_
        rintro g σ' n' ⟨rfl, rfl, rfl⟩
        refine vc_sound pg_ok 200 _ _ ?_
        rw [e2]
        have hf := fin (l[0].time - 0) l[0].value (by simp) (by rw [show l[0].value - (⟨0, 0⟩ : Sm).value = l[0].value by simp]; exact (w64_id hxv.1 hxv.2).symm) ⟨by omega, by omega⟩
        exact ⟨(1, bs ++ putF (l[0].time - 0) ++ putF l[0].value, l[0], 0), id, ⟨⟨rfl, rfl, rfl, rfl, succ_gi (by omega), trivial⟩, trivial, rfl⟩, ⟨hlt, .inr (.inl ⟨rfl, List.getElem?_eq_getElem hlt, rfl⟩), hf⟩, by show l.length - (0 + 1) < l.length - 0; omega⟩
      · refine pos (by simp) ?_
        obtain ⟨h00, hl0⟩ := List.getElem?_eq_some_iff.1 hl0
        have hy1 := hris.lo _ (List.getElem_mem h00)
        have hy2 := hris.hi _ (List.getElem_mem h00)
        rw [hl0] at hy1 hy2
        have ew : IntKind.i64.wrap (((1 : Nat) : Int) - 1) = ((0 : Nat) : Int) := rfl
        refine idx 0 ew (by omega) ?_
        refine idx 0 ew (by omega) ?_
        rw [hl0]
        refine neg (by simp) ?_
        have e1 : IntKind.i64.wrap (l[1].time - last.time) = l[1].time - last.time := wrap_id (by omega) (by omega)
        have e2 : IntKind.i64.wrap (IntKind.i64.wrap (l[1].time - last.time) - 0) = l[1].time - last.time - 0 := by rw [e1, wrap_id (by omega) (by omega)]
        have hv := w64_in (l[1].value - last.value)
        refine JK.call (n0 := 0) (r := id) (refPut_ct bs (IntKind.i64.wrap (IntKind.i64.wrap (l[1].time - last.time) - 0)) (by rw [e2]; omega) (by rw [e2]; omega) (by omega)) Tryz.call58 rfl rfl rfl rfl rfl trivial rfl (by simp) ?_
        rintro g σ' n' ⟨rfl, rfl, rfl⟩
        refine vc_sound pg_ok 200 _ _ ?_
        have hpa := (putF_len (IntKind.i64.wrap (IntKind.i64.wrap (l[1].time - last.time) - 0))).2
        refine JK.call (n0 := 0) (r := id) (refPut_ct (bs ++ putF (IntKind.i64.wrap (IntKind.i64.wrap (l[1].time - last.time) - 0))) (IntKind.i64.wrap (l[1].value - last.value)) hv.1 hv.2 (by rw [List.length_append]; omega)) Tryz.call58 rfl rfl rfl rfl rfl trivial rfl (by simp) ?_
        rintro g σ' n' ⟨rfl, rfl, rfl⟩
        refine vc_sound pg_ok 200 _ _ ?_
        rw [e2]
        have hf := fin (l[1].time - last.time - 0) (IntKind.i64.wrap (l[1].value - last.value)) rfl rfl ⟨by omega, by omega⟩
        exact ⟨(2, bs ++ putF (l[1].time - last.time - 0) ++ putF (IntKind.i64.wrap (l[1].value - last.value)), l[1], l[1].time - last.time), id, ⟨⟨rfl, rfl, rfl, rfl, succ_gi (by omega), trivial⟩, trivial, rfl⟩, ⟨hlt, .inr (.inr ⟨0, last, rfl, List.getElem?_eq_getElem hlt, by rw [← hl0]; exact List.getElem?_eq_getElem h00, rfl⟩), hf⟩, by show l.length - (1 + 1) < l.length - 1; omega⟩
      · refine pos (by simp <;> omega) ?_
        obtain ⟨h11, hl1⟩ := List.getElem?_eq_some_iff.1 hl1
        obtain ⟨h00, hl0⟩ := List.getElem?_eq_some_iff.1 hl0
        have hy1 := hris.lo _ (List.getElem_mem h11)
        have hy2 := hris.hi _ (List.getElem_mem h11)
        have hz1 := hris.lo _ (List.getElem_mem h00)
        have hz2 := hris.hi _ (List.getElem_mem h00)
        rw [hl1] at hy1 hy2
        rw [hl0] at hz1 hz2
        have ew : IntKind.i64.wrap (((j + 2 : Nat) : Int) - 1) = ((j + 1 : Nat) : Int) := by rw [wrap_id (by omega) (by omega)]; omega
        have ew2 : IntKind.i64.wrap (((j + 2 : Nat) : Int) - 2) = ((j : Nat) : Int) := by rw [wrap_id (by omega) (by omega)]; omega
        refine idx (j + 1) ew (by omega) ?_
        refine idx (j + 1) ew (by omega) ?_
        refine pos (by simp <;> omega) ?_
        refine ⟨by kernel_rfl, ?_⟩
        refine idx (j + 1) ew (by omega) ?_
        refine idx j ew2 (by omega) ?_
        rw [hl1, hl0]
        have e1 : IntKind.i64.wrap (l[j + 2].time - last.time) = l[j + 2].time - last.time := wrap_id (by omega) (by omega)
        have e3 : IntKind.i64.wrap (last.time - q.time) = last.time - q.time := wrap_id (by omega) (by omega)
        have e2 : IntKind.i64.wrap (IntKind.i64.wrap (l[j + 2].time - last.time) - IntKind.i64.wrap (last.time - q.time)) = l[j + 2].time - last.time - (last.time - q.time) := by rw [e1, e3, wrap_id (by omega) (by omega)]
        have hv := w64_in (l[j + 2].value - last.value)
        refine JK.call (n0 := 0) (r := id) (refPut_ct bs (IntKind.i64.wrap (IntKind.i64.wrap (l[j + 2].time - last.time) - IntKind.i64.wrap (last.time - q.time))) (by rw [e2]; omega) (by rw [e2]; omega) (by omega)) Tryz.call58 rfl rfl rfl rfl rfl trivial rfl (by simp) ?_
        rintro g σ' n' ⟨rfl, rfl, rfl⟩
        refine vc_sound pg_ok 200 _ _ ?_
        have hpa := (putF_len (IntKind.i64.wrap (IntKind.i64.wrap (l[j + 2].time - last.time) - IntKind.i64.wrap (last.time - q.time)))).2
        refine JK.call (n0 := 0) (r := id) (refPut_ct (bs ++ putF (IntKind.i64.wrap (IntKind.i64.wrap (l[j + 2].time - last.time) - IntKind.i64.wrap (last.time - q.time)))) (IntKind.i64.wrap (l[j + 2].value - last.value)) hv.1 hv.2 (by rw [List.length_append]; omega)) Tryz.call58 rfl rfl rfl rfl rfl trivial rfl (by simp) ?_
        rintro g σ' n' ⟨rfl, rfl, rfl⟩
        refine vc_sound pg_ok 200 _ _ ?_
        rw [e2]
        have hf := fin (l[j + 2].time - last.time - (last.time - q.time)) (IntKind.i64.wrap (l[j + 2].value - last.value)) rfl rfl ⟨by omega, by omega⟩
        exact ⟨(j + 3, bs ++ putF (l[j + 2].time - last.time - (last.time - q.time)) ++ putF (IntKind.i64.wrap (l[j + 2].value - last.value)), l[j + 2], l[j + 2].time - last.time), id, ⟨⟨rfl, rfl, rfl, rfl, succ_gi (by omega), trivial⟩, trivial, rfl⟩, ⟨hlt, .inr (.inr ⟨j + 1, last, rfl, List.getElem?_eq_getElem hlt, by rw [← hl1]; exact List.getElem?_eq_getElem h11, rfl⟩), hf⟩, by show l.length - (j + 2 + 1) < l.length - (j + 2); omega⟩
    · refine neg (by simp <;> omega) ?_
      have e : i = l.length := by omega
      subst e
      rw [List.drop_length, show ∀ a b c, chunkR [] a b c = [] from fun _ _ _ => rfl, List.append_nil] at hc
      subst hc
      refine vc_sound pg_ok 200 _ _ ?_
      refine JK.call (n0 := 0) (r := id) (refBytes_ct (chunkF l) (by omega)) Tryz.call59 rfl rfl rfl rfl rfl trivial rfl (by simp) ?_
      rintro g σ' n' ⟨rfl, rfl, rfl⟩
      refine vc_sound pg_ok 200 _ _ ?_
      exact ⟨rfl, rfl⟩
end Go.Proofs.YtfnomonhfndbiaaGreatDoor
