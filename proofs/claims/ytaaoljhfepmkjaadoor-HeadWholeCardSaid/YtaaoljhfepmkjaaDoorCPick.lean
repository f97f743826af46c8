/-
  Contracts: a number within bounds.
-/
import Derived.Test.YtaaoljhfepmkjaaDoorCPg
namespace Go.Proofs.YtaaoljhfepmkjaaDoor
open Go.GK
set_option maxRecDepth 100000
end Go.Proofs.YtaaoljhfepmkjaaDoor
