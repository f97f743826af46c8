/-
  Contracts: ChunkWrites.
-/
import Derived.Test.YtakkdpfbgjccpaaDoorCRefChunk
import Derived.Test.YtakkdpfbgjccpaaDoorCChunk
namespace Go.Proofs.YtakkdpfbgjccpaaDoor
open Go.GK Go.PL
set_option maxRecDepth 100000
theorem chunkWrites_ct (l : List Sm) (hV : V64 l) : Ct pg 8 0 [.sl 2 (l.map sm)] [] (Val fun g => g = .b true) := by
  refine Ct.bool (Ct.of_JK pg_ok Tryd.func8 rfl Tryd.ntmps8 rfl Tryd.results8 fun H0 S0 w0 h0 g0 => ?_)
  have hll : (l.map sm).length = l.length := List.length_map ..
  refine vc_sound pg_ok 200 _ _ ?_
  refine ⟨fun _ => .inl rfl, fun h60 => ?_⟩
  have h60' : ¬ ((l.map sm).length : Int) > 60 := of_decide_eq_false h60
  have hlen : l.length ≤ 1000000 := by omega
  cases hok : okS l with
  | true =>
    refine JK.call (n0 := 0) (r := id) (refWrite_ct l hV hok) Tryd.call38 rfl rfl rfl rfl rfl trivial rfl (by simp) ?_
    rintro g σ' n' ⟨rfl, rfl, rfl⟩
    refine vc_sound pg_ok 200 _ _ ?_
    refine JK.call (n0 := 0) (r := id) (write_ct l hok) Tryd.call23 rfl rfl rfl rfl rfl trivial rfl (by simp) ?_
    rintro g σ' n' ⟨rfl, rfl, rfl⟩
    refine vc_sound pg_ok 200 _ _ ?_
    refine JK.call (n0 := 0) (r := id) (bare_ct none 0) Tryd.call36 rfl rfl rfl rfl rfl trivial rfl (by simp) ?_
    rintro g σ' n' ⟨rfl, rfl, rfl⟩
    refine vc_sound pg_ok 200 _ _ ?_
    refine pos rfl ?_
    refine pos (by simp) ?_
    refine JK.call (n0 := 0) (r := id) (right_ct l) Tryd.call24 rfl rfl rfl rfl rfl trivial rfl (by simp) ?_
    rintro g σ' n' ⟨rfl, rfl, rfl⟩
    refine vc_sound pg_ok 200 _ _ ?_
    refine JK.call (n0 := 0) (r := id) (samples_ct l hlen) Tryd.call39 rfl rfl rfl rfl rfl trivial rfl (by simp) ?_
    rintro g σ' n' ⟨rfl, rfl, rfl⟩
    refine vc_sound pg_ok 200 _ _ ?_
    refine .inr (congrArg GV.b ?_)
    simp
  | false =>
    refine JK.call (n0 := 0) (r := id) (refWriteNo_ct l hlen hok) Tryd.call38 rfl rfl rfl rfl rfl trivial rfl (by simp) ?_
    rintro g σ' n' ⟨rfl, rfl, rfl⟩
    refine vc_sound pg_ok 200 _ _ ?_
    refine JK.call (n0 := 0) (r := id) (writeNo_ct l hok) Tryd.call23 rfl rfl rfl rfl rfl trivial rfl (by simp) ?_
    rintro g σ' n' ⟨rfl, rfl, rfl⟩
    refine vc_sound pg_ok 200 _ _ ?_
    refine JK.call (n0 := 0) (r := id) (bare_ct (some 1) 1) Tryd.call36 rfl rfl rfl rfl rfl trivial rfl (by simp) ?_
    rintro g σ' n' ⟨rfl, rfl, rfl⟩
    refine vc_sound pg_ok 200 _ _ ?_
    refine pos rfl ?_
    refine pos (by simp) ?_
    refine JK.call (n0 := 0) (r := id) (right_ct l) Tryd.call24 rfl rfl rfl rfl rfl trivial rfl (by simp) ?_
    rintro g σ' n' ⟨rfl, rfl, rfl⟩
    refine vc_sound pg_ok 200 _ _ ?_
    refine JK.call (n0 := 0) (r := id) (samples_ct l hlen) Tryd.call39 rfl rfl rfl rfl rfl trivial rfl (by simp) ?_
    rintro g σ' n' ⟨rfl, rfl, rfl⟩
    refine vc_sound pg_ok 200 _ _ ?_
    refine .inr (congrArg GV.b ?_)
    simp
end Go.Proofs.YtakkdpfbgjccpaaDoor
