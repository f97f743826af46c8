/-
  DERIVED. GIVEN WITH THE SEED: THE CARDS: each row of YtaaoljhfepmkjaaDoorRows.lean that lists a variable, with what it lists TIED to the program's text (the seventh form; the later family's looks); each row that meets fmt, with fmt's text TOLD by the authors' own Lean function (tested against real Go, not proved from fmt's source: count such statements apart). THE CARD IS WHAT COUNTS. Prove the row's statement (the work); the ties are given (YtaaoljhfepmkjaaDoorTie.lean); close each card by the builder's one call (the guide's Derived/Test/ToyasCard.lean, 'card_holds'). Laid BY PROGRAM, IN A SANDBOX (cutbox-door.mjs). By AI agents, Wed Nov 11 2026. No macro, syntax, notation, axiom, sorry.
-/
import Derived.Test.YtaaoljhfepmkjaaDoorRows
import GoSem.ClaimSeven
namespace Go.Proofs.YtaaoljhfepmkjaaDoor
namespace Rows

/-- THE TIED CARD OF 'raingaugekeep.HeadWhole'. -/
def headWholeCard : Claim7 := { stood := { row := headWholeRow, standIns := [], harness := (true, "12e6f132d727824d2365ef7d531153999d0e87f306b3d75de946fcae566cf9c2"), looks := true }, kinds := [], alts := [], laidByText := true, laidKinds := [.data, .handle, .pinned], laidTests := true, laidLooks := .later }
def HeadWholeCardSaid : Prop := Claim7.holds Tryd.pinned (.plain (OpenSpec.ofChange headWholeSpec)) headWholeCard

/-- THE SECOND FORM's CARD OF 'raingaugekeep.HeadWhole'. -/
def headWholeUptoCard : Claim7 := { stood := { row := headWholeUptoRow, standIns := [], harness := (true, "12e6f132d727824d2365ef7d531153999d0e87f306b3d75de946fcae566cf9c2"), looks := true }, kinds := [], alts := [], laidByText := true, laidKinds := [.data, .handle, .pinned], laidTests := true, laidLooks := .later }
def HeadWholeUptoCardSaid : Prop := Claim7.holds Tryd.pinned (.plain (OpenSpec.upto headWholeSpec)) headWholeUptoCard
end Rows
end Go.Proofs.YtaaoljhfepmkjaaDoor
