/-
  Contracts: package chunk, writing.
-/
import Derived.Test.YtaaoljhfepmkjaaDoorCBits
import Derived.Test.YtaaoljhfepmkjaaDoorCRight
import Derived.Test.YtaaoljhfepmkjaaDoorPBa
namespace Go.Proofs.YtaaoljhfepmkjaaDoor
open Go.GK Go.PL
set_option maxRecDepth 100000
end Go.Proofs.YtaaoljhfepmkjaaDoor
