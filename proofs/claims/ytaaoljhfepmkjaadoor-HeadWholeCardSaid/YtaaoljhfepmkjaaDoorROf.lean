/-
  A law's contract, as the row asks for it.
-/
import Derived.Test.YtaaoljhfepmkjaaDoorCPg
namespace Go.Proofs.YtaaoljhfepmkjaaDoor
open Go.GK
theorem of_rt {f : FuncId} {gs : List GV} (h : Rt pg f gs (.b true)) : Ct pg f 0 gs [] (Val fun g => g = .b true) := by
  exact h.ct.weak fun g σ' n' hq => ⟨id, g, [], 0, ⟨hq.1.1, rfl, rfl⟩, (ren_id g).symm, trivial, by simp [hq.1.2, idbH, hids, distB, fixB]⟩
end Go.Proofs.YtaaoljhfepmkjaaDoor
