/-
  Contracts: ChunkReads.
-/
import Derived.Test.YtakkdpfbgjccpaaDoorCRefRead
import Derived.Test.YtakkdpfbgjccpaaDoorCSameL
namespace Go.Proofs.YtakkdpfbgjccpaaDoor
open Go.GK Go.PL
set_option maxRecDepth 100000
theorem chunkReads_ct (s : ByteArray) : Ct pg 9 0 [gs s] [] (Val fun g => g = .b true) := by
  refine Ct.bool (Ct.of_JK pg_ok Tryd.func9 rfl Tryd.ntmps9 rfl Tryd.results9 fun H0 S0 w0 h0 g0 => ?_)
  refine vc_sound pg_ok 200 _ _ ?_
  refine ⟨fun _ => .inl rfl, fun h => ?_⟩
  have hs : ¬ (s.size : Int) > 300 := of_decide_eq_false h
  refine JK.call (n0 := 0) (r := id) (refRead_ct s (by omega)) Tryd.call40 rfl rfl rfl rfl rfl trivial rfl (by simp) ?_
  rintro g σ' n' ⟨hq, rfl, rfl⟩
  rcases hq with ⟨l, hok, hV, he, rfl⟩ | ⟨hno, rfl⟩
  · refine vc_sound pg_ok 200 _ _ ?_
    refine JK.call (n0 := 0) (r := id) (read_ct s (by omega)) Tryd.call22 rfl rfl rfl rfl rfl trivial rfl (by simp) ?_
    rintro g σ' n' ⟨hq, rfl, rfl⟩
    rcases hq with ⟨m, hok2, hV2, he2, rfl⟩ | ⟨hno, rfl⟩
    · obtain ⟨h1, h2⟩ := (okS_iff l).1 hok
      obtain ⟨h3, h4⟩ := (okS_iff m).1 hok2
      have hlm : l = m := enc_inj h1 h3 h2 h4 hV hV2 (he.symm.trans he2)
      subst hlm
      refine vc_sound pg_ok 200 _ _ ?_
      refine JK.call (n0 := 0) (r := id) (bare_ct none 0) Tryd.call36 rfl rfl rfl rfl rfl trivial rfl (by simp) ?_
      rintro g σ' n' ⟨rfl, rfl, rfl⟩
      refine vc_sound pg_ok 200 _ _ ?_
      refine pos rfl ?_
      refine JK.call (n0 := 0) (r := id) (sameSL_ct l l) Tryd.call41 rfl rfl rfl rfl rfl trivial rfl (by simp) ?_
      rintro g σ' n' ⟨rfl, rfl, rfl⟩
      refine vc_sound pg_ok 200 _ _ ?_
      refine .inr (congrArg GV.b ?_)
      simp
    · exact absurd he (hno l hok hV)
  · refine vc_sound pg_ok 200 _ _ ?_
    refine JK.call (n0 := 0) (r := id) (read_ct s (by omega)) Tryd.call22 rfl rfl rfl rfl rfl trivial rfl (by simp) ?_
    rintro g σ' n' ⟨hq, rfl, rfl⟩
    rcases hq with ⟨m, hok2, hV2, he2, rfl⟩ | ⟨_, rfl⟩
    · exact absurd he2 (hno m hok2 hV2)
    · refine vc_sound pg_ok 200 _ _ ?_
      refine JK.roNil 5 2 rfl ?_
      refine JK.roNil 3 2 rfl ?_
      refine JK.call (n0 := 0) (r := id) (bare_ct (some 3) 3) Tryd.call36 rfl rfl rfl rfl rfl trivial rfl (by simp) ?_
      rintro g σ' n' ⟨rfl, rfl, rfl⟩
      refine vc_sound pg_ok 200 _ _ ?_
      refine pos rfl ?_
      refine JK.call (n0 := 0) (r := id) (sameSL_ct [] []) Tryd.call41 rfl rfl rfl rfl rfl trivial rfl (by simp) ?_
      rintro g σ' n' ⟨rfl, rfl, rfl⟩
      refine vc_sound pg_ok 200 _ _ ?_
      exact .inr rfl
end Go.Proofs.YtakkdpfbgjccpaaDoor
