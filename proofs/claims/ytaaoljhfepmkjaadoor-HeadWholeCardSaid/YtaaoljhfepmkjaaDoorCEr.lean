/-
  Errors as the ghost machine has them.
-/
import Derived.Test.YtaaoljhfepmkjaaDoorCPg
namespace Go.Proofs.YtaaoljhfepmkjaaDoor
open Go.GK
/-- No error, or an Errno; its number. -/
def erG : Option Int → GV
  | none => .v .nilIface
  | some m => .ifc 47 (gi m)
def erN : Option Int → Int
  | none => 0
  | some m => m

end Go.Proofs.YtaaoljhfepmkjaaDoor
