/-
  Samples and buckets, as the ghost machine holds them.
-/
import Derived.Test.YtaaoljhfepmkjaaDoorCPg
import Derived.Test.YtaaoljhfepmkjaaDoorPBa
namespace Go.Proofs.YtaaoljhfepmkjaaDoor
open Go.GK Go.PL
abbrev bk (b : Bk) : List GV := [gi b.start, gi b.count, gi b.sum, gi b.min, gi b.max]
abbrev sm (x : Sm) : List GV := [gi x.time, gi x.value]
end Go.Proofs.YtaaoljhfepmkjaaDoor
