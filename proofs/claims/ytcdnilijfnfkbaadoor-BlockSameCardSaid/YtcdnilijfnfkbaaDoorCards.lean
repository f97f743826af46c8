/-
  DERIVED. GIVEN WITH THE SEED: THE CARDS: each row of YtcdnilijfnfkbaaDoorRows.lean that lists a variable, with what it lists TIED to the program's text (the seventh form; the later family's looks); each row that meets fmt, with fmt's text TOLD by the authors' own Lean function (tested against real Go, not proved from fmt's source: count such statements apart). THE CARD IS WHAT COUNTS. Prove the row's statement (the work); the ties are given (YtcdnilijfnfkbaaDoorTie.lean); close each card by the builder's one call (the guide's Derived/Test/ToyasCard.lean, 'card_holds'). Laid BY PROGRAM, IN A SANDBOX (cutbox-door.mjs). By AI agents, Wed Nov 11 2026. No macro, syntax, notation, axiom, sorry.
-/
import Derived.Test.YtcdnilijfnfkbaaDoorRows
import GoSem.ClaimSeven
namespace Go.Proofs.YtcdnilijfnfkbaaDoor
namespace Rows

/-- THE TIED CARD OF 'raingaugekeep.BlockSame'. -/
def blockSameCard : Claim7 := { stood := { row := blockSameRow, standIns := [], harness := (true, "926865dfae53a138e6a0b63ab28d030d9f345f62c9caec1770d5de325c8a2129"), looks := false }, kinds := [], alts := [], laidByText := true, laidKinds := [.data, .data, .pinned], laidTests := true, laidLooks := .later }
def BlockSameCardSaid : Prop := Claim7.holds Tryd.pinned (.plain (OpenSpec.ofChange blockSameSpec)) blockSameCard

/-- THE SECOND FORM's CARD OF 'raingaugekeep.BlockSame'. -/
def blockSameUptoCard : Claim7 := { stood := { row := blockSameUptoRow, standIns := [], harness := (true, "926865dfae53a138e6a0b63ab28d030d9f345f62c9caec1770d5de325c8a2129"), looks := false }, kinds := [], alts := [], laidByText := true, laidKinds := [.data, .data, .pinned], laidTests := true, laidLooks := .later }
def BlockSameUptoCardSaid : Prop := Claim7.holds Tryd.pinned (.plain (OpenSpec.upto blockSameSpec)) blockSameUptoCard
end Rows
end Go.Proofs.YtcdnilijfnfkbaaDoor
