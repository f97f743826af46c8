/-
  Series, as the ghost machine holds them.
-/
import Derived.Test.YtcdnilijfnfkbaaCLab
import Derived.Test.YtcdnilijfnfkbaaCSm
import Derived.Test.YtcdnilijfnfkbaaPCa
namespace Go.Proofs.Ytcdnilijfnfkbaa
open Go.GK Go.PL Go.RowKit
abbrev lbs (l : List Lb) : GV := .sl 2 (l.map lb)
abbrev sms (l : List Sm) : GV := .sl 2 (l.map sm)
abbrev se (x : Ser) : List GV := [lbs x.labels, sms x.samples]
abbrev ses (l : List Ser) : GV := .sl 2 (l.map se)
theorem se_snoc (l : List Ser) (x : Ser) : some (Res.row 44 2 (l.map se ++ [se x])) = some (Res.row 44 2 ((l ++ [x]).map se)) := by rw [List.map_append]; rfl
end Go.Proofs.Ytcdnilijfnfkbaa
