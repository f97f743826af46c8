/-
  Series, as the ghost machine holds them.
-/
import Derived.Test.YtaaoljhfepmkjaaDoorCLab
import Derived.Test.YtaaoljhfepmkjaaDoorCSm
import Derived.Test.YtaaoljhfepmkjaaDoorPCa
namespace Go.Proofs.YtaaoljhfepmkjaaDoor
open Go.GK Go.PL Go.RowKit
abbrev lbs (l : List Lb) : GV := .sl 2 (l.map lb)
abbrev sms (l : List Sm) : GV := .sl 2 (l.map sm)
abbrev se (x : Ser) : List GV := [lbs x.labels, sms x.samples]
abbrev ses (l : List Ser) : GV := .sl 2 (l.map se)
theorem se_snoc (l : List Ser) (x : Ser) : some (Res.row 38 2 (l.map se ++ [se x])) = some (Res.row 38 2 ((l ++ [x]).map se)) := by rw [List.map_append]; rfl
end Go.Proofs.YtaaoljhfepmkjaaDoor
