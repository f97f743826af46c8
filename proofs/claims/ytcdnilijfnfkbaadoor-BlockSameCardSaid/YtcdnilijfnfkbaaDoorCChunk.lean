/-
  Contracts: package chunk, writing.
-/
import Derived.Test.YtcdnilijfnfkbaaDoorCBits
import Derived.Test.YtcdnilijfnfkbaaDoorCRight
import Derived.Test.YtcdnilijfnfkbaaDoorPBa
namespace Go.Proofs.YtcdnilijfnfkbaaDoor
open Go.GK Go.PL
set_option maxRecDepth 100000
theorem write_ct (l : List Sm) (hok : okS l = true) : Ct pg 51 0 [.sl 2 (l.map sm)] [] (Val fun g => g = .tup [.v (.string (enc l)), .v .nilIface]) := by
  obtain ⟨hris, hlen⟩ := (okS_iff l).1 hok
  have hll : (l.map sm).length = l.length := List.length_map ..
  refine Ct.val (Ct.of_JK pg_ok Tryd.func51 rfl Tryd.ntmps51 rfl Tryd.results51 fun H0 S0 w0 h0 g0 => ?_)
  refine vc_sound pg_ok 200 _ _ ?_
  refine JK.call (n0 := 0) (r := id) (right_ct l) Tryd.call19 rfl rfl rfl rfl rfl trivial rfl (by simp) ?_
  rintro g σ' n' ⟨rfl, rfl, rfl⟩
  refine vc_sound pg_ok 200 _ _ ?_
  refine neg (by rw [hok]; rfl) ?_
  refine JK.ownNilB 0 0 5 1 rfl rfl ?_
  refine JK.call (n0 := 2) (r := rr 0 1) (put_ct [] ((l.map sm).length : Int) (by omega) (by omega) (by simp)) Tryd.call70 rfl rfl rfl rfl rfl ⟨rfl, rfl, trivial⟩ rfl (rr_lt rfl rfl) ?_
  rintro g σ' n' ⟨rfl, rfl, rfl⟩
  rw [hll, List.nil_append]
  refine vc_sound pg_ok 200 _ _ ?_
  refine JK.loopE (α := Nat × List Bool × Sm × Int) (β := Unit)
    (fun y => ⟨[(20, .sl 2 (l.map sm)), (21, gi (l.map sm).length), (22, gi y.1), (4, .p 0 0), (5, .p 2 0), (6, gi y.2.2.2)], wHeap 0 1 y.2.1 ++ [(2, .blk 53 (sm y.2.2.1))], 3⟩)
    (fun y => y.1 ≤ l.length ∧ chunkF l = y.2.1 ++ chunkR (l.drop y.1) y.2.2.1 y.2.2.2 (y.1 == 0) ∧ Fit y.2.2.1 y.2.2.2) (fun y => l.length - y.1)
    (fun _ => ⟨[(4, .p 0 0)], wHeap 0 1 (chunkF l), 2⟩) (fun _ => True) (0, putF l.length, ⟨0, 0⟩, 0) (fun i => [0, 2, 3].getD i 0) ?_ ⟨Nat.zero_le _, rfl, .zero⟩ ?_ ?_
  · exact ⟨⟨rfl, rfl, rfl, rfl, rfl, rfl, trivial⟩, ⟨rfl, rfl, rfl, trivial⟩, rfl⟩
  · rintro ⟨i, bs, last, step⟩ ⟨hi, hc, hfit⟩
    simp only at hi hc hfit
    have hcl := chunkF_len l
    have hbl : bs.length ≤ 300000 := by
      have := congrArg List.length hc
      rw [List.length_append] at this
      omega
    refine vc_sound pg_ok 200 _ _ ?_
    by_cases hlt : i < l.length
    · refine pos (by simp <;> omega) ?_
      refine idx i rfl hlt ?_
      have hx1 := hris.lo _ (List.getElem_mem hlt)
      have hx2 := hris.hi _ (List.getElem_mem hlt)
      have hd := hfit.diff hx1 hx2
      have ht1 := hfit.t1
      have ht2 := hfit.t2
      have e1 : IntKind.i64.wrap (l[i].time - last.time) = l[i].time - last.time := wrap_id (by omega) (by omega)
      have e2 : IntKind.i64.wrap (IntKind.i64.wrap (l[i].time - last.time) - step) = l[i].time - last.time - step := by rw [e1, wrap_id (by omega) (by omega)]
      refine JK.call (n0 := 2) (r := rr 0 1) (put_ct bs (IntKind.i64.wrap (IntKind.i64.wrap (l[i].time - last.time) - step)) (by rw [e2]; omega) (by rw [e2]; omega) (by omega)) Tryd.call70 rfl rfl rfl rfl rfl ⟨rfl, rfl, trivial⟩ rfl (rr_lt rfl rfl) ?_
      rintro g σ' n' ⟨rfl, rfl, rfl⟩
      rw [e2]
      have hp1 := (putF_len (l[i].time - last.time - step)).2
      have hv := w64_in (l[i].value - last.value)
      refine vc_sound pg_ok 200 _ _ ?_
      refine JK.call (n0 := 2) (r := rr 0 4) (put_ct (bs ++ putF (l[i].time - last.time - step)) (IntKind.i64.wrap (l[i].value - last.value)) hv.1 hv.2 (by rw [List.length_append]; omega)) Tryd.call70 rfl rfl rfl rfl rfl ⟨rfl, rfl, trivial⟩ rfl (rr_lt rfl rfl) ?_
      rintro g σ' n' ⟨rfl, rfl, rfl⟩
      refine vc_sound pg_ok 200 _ _ ?_
      have hc' : ∀ f, (i == 0) = f → chunkF l = (bs ++ putF (l[i].time - last.time - step) ++ putF (w64 (l[i].value - last.value))) ++ chunkR (l.drop (i + 1)) l[i] (if f then step else l[i].time - last.time) (i + 1 == 0) := fun f hf => by
        rw [hc, List.drop_eq_getElem_cons hlt, hf, show (i + 1 == 0) = false from rfl, chunkR]
        simp only [List.append_assoc]
      have hfn := hfit.next hx1 hx2
      by_cases h0 : i = 0
      · refine neg (by simp <;> omega) ?_
        have hf : (i == 0) = true := by simp [h0]
        refine ⟨(i + 1, bs ++ putF (l[i].time - last.time - step) ++ putF (w64 (l[i].value - last.value)), l[i], step), (fun i => [0, 5, 2].getD i 0), ⟨⟨rfl, rfl, succ_gi (by omega), rfl, rfl, rfl, trivial⟩, ⟨rfl, rfl, rfl, trivial⟩, rfl⟩, ⟨hlt, hc' true hf, ?_⟩, by show l.length - (i + 1) < l.length - i; omega⟩
        exact hfn true
      · refine pos (by simp <;> omega) ?_
        have hf : (i == 0) = false := by simp [h0]
        refine ⟨(i + 1, bs ++ putF (l[i].time - last.time - step) ++ putF (w64 (l[i].value - last.value)), l[i], l[i].time - last.time), (fun i => [0, 5, 2].getD i 0), ⟨⟨rfl, rfl, succ_gi (by omega), rfl, rfl, ?_, trivial⟩, ⟨rfl, rfl, rfl, trivial⟩, rfl⟩, ⟨hlt, hc' false hf, ?_⟩, by show l.length - (i + 1) < l.length - i; omega⟩
        · show some (gi (IntKind.i64.wrap (l[i].time - last.time))) = _
          rw [e1]
          rfl
        · exact hfn false
    · have e : i = l.length := by omega
      subst e
      refine neg (by simp) ?_
      rw [List.drop_length, show ∀ a b c, chunkR [] a b c = [] from fun _ _ _ => rfl, List.append_nil] at hc
      exact ⟨(), id, ⟨⟨rfl, trivial⟩, ⟨by rw [hc]; rfl, by rw [hc]; rfl, trivial⟩, rfl⟩, trivial⟩
  · intro _ _
    refine vc_sound pg_ok 200 _ _ ?_
    refine JK.call (n0 := 2) (r := rr 0 1) (wbytes_ct (chunkF l)) Tryd.call71 rfl rfl rfl rfl rfl ⟨rfl, rfl, trivial⟩ rfl (rr_lt rfl rfl) ?_
    rintro g σ' n' ⟨rfl, rfl, rfl⟩
    refine vc_sound pg_ok 200 _ _ ?_
    exact ⟨rfl, rfl⟩
theorem writeNo_ct (l : List Sm) (hok : okS l = false) : Ct pg 51 0 [.sl 2 (l.map sm)] [] (Val fun g => g = .tup [.v (.string ⟨#[]⟩), .ifc 72 (gi 1)]) := by
  refine Ct.val (Ct.of_JK pg_ok Tryd.func51 rfl Tryd.ntmps51 rfl Tryd.results51 fun H0 S0 w0 h0 g0 => ?_)
  refine vc_sound pg_ok 200 _ _ ?_
  refine JK.call (n0 := 0) (r := id) (right_ct l) Tryd.call19 rfl rfl rfl rfl rfl trivial rfl (by simp) ?_
  rintro g σ' n' ⟨rfl, rfl, rfl⟩
  refine vc_sound pg_ok 200 _ _ ?_
  refine pos (by rw [hok]; rfl) ?_
  exact ⟨rfl, rfl⟩
end Go.Proofs.YtcdnilijfnfkbaaDoor
