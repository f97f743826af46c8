/-
  Errors as the ghost machine has them.
-/
import Derived.Test.YtogpkeoahlkokaaDoorCPg
namespace Go.Proofs.YtogpkeoahlkokaaDoor
open Go.GK
/-- No error, or an Errno; its number. -/
def erG : Option Int → GV
  | none => .v .nilIface
  | some m => .ifc 61 (gi m)
def erN : Option Int → Int
  | none => 0
  | some m => m

end Go.Proofs.YtogpkeoahlkokaaDoor
