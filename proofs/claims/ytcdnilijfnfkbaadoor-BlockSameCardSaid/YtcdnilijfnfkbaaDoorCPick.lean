/-
  Contracts: a number within bounds.
-/
import Derived.Test.YtcdnilijfnfkbaaDoorCPg
namespace Go.Proofs.YtcdnilijfnfkbaaDoor
open Go.GK
set_option maxRecDepth 100000
theorem pick_ct (x y : Int) (h : 0 < y) (h' : y < 1000000) : Ct pg 9 0 [gi x, gi y] [] (Val fun g => ∃ k : Nat, (k : Int) < y ∧ g = gi k) := by
  refine Ct.val (Ct.of_JK pg_ok Tryd.func9 rfl Tryd.ntmps9 rfl Tryd.results9 fun H0 S0 w0 h0 g0 => ?_)
  refine vc_sound pg_ok 200 _ _ ?_
  have e : IntKind.u64.wrap y = y := by rw [IntKind.wrap_u64]; omega
  have e0 : 0 ≤ IntKind.u64.wrap x := by rw [IntKind.wrap_u64]; omega
  refine ⟨by rw [e]; omega, ?_⟩
  have e1 : (IntKind.u64.wrap x).tmod (IntKind.u64.wrap y) = IntKind.u64.wrap x % y := by rw [e, Int.tmod_eq_emod_of_nonneg e0]
  have e2 : 0 ≤ IntKind.u64.wrap x % y := Int.emod_nonneg _ (by omega)
  have e3 : IntKind.u64.wrap x % y < y := Int.emod_lt_of_pos _ (by omega)
  refine ⟨⟨(IntKind.u64.wrap x % y).toNat, by omega, ?_⟩, rfl⟩
  show gi (IntKind.i64.wrap ((IntKind.u64.wrap x).tmod (IntKind.u64.wrap y))) = _
  rw [e1, wrap_id (by omega) (by omega), Int.toNat_of_nonneg e2]
end Go.Proofs.YtcdnilijfnfkbaaDoor
