/-
  DERIVED. GIVEN WITH THE SEED: THE CARDS: each row of YtkoalgjlkcaonaaGreatDoorRows.lean that lists a variable, with what it lists TIED to the program's text (the seventh form; the later family's looks); each row that meets fmt, with fmt's text TOLD by the authors' own Lean function (tested against real Go, not proved from fmt's source: count such statements apart). THE CARD IS WHAT COUNTS. Prove the row's statement (the work); the ties are given (YtkoalgjlkcaonaaGreatDoorTie.lean); close each card by the builder's one call (the guide's Derived/Test/ToyasCard.lean, 'card_holds'). Laid BY PROGRAM, IN A SANDBOX (cutbox-door.mjs). By AI agents, Wed Nov 11 2026. No macro, syntax, notation, axiom, sorry.
-/
import Derived.Test.YtkoalgjlkcaonaaGreatDoorRows
import GoSem.ClaimSeven
namespace Go.Proofs.YtkoalgjlkcaonaaGreatDoor
namespace Rows

/-- THE TIED CARD OF 'raingaugekeep.EvalMoves'. -/
def evalMovesCard : Claim7 := { stood := { row := evalMovesRow, standIns := [], harness := (true, "9ef9aa65ddd45551c61e8844fbb73ee15f646bdced3afc728e6bdd4ba35fbb89"), looks := true }, kinds := [], alts := [], laidByText := true, laidKinds := [.data, .data, .data, .data, .sentinel, .sentinel, .data, .widerDeep, .widerDeep, .widerDeep, .pinned], laidTests := true, laidLooks := .later }
def EvalMovesCardSaid : Prop := Claim7.holds Tryz.pinned (.plain (OpenSpec.ofChange evalMovesSpec)) evalMovesCard

/-- THE TIED CARD OF 'raingaugekeep.EvalParts'. -/
def evalPartsCard : Claim7 := { stood := { row := evalPartsRow, standIns := [], harness := (true, "9ef9aa65ddd45551c61e8844fbb73ee15f646bdced3afc728e6bdd4ba35fbb89"), looks := true }, kinds := [], alts := [], laidByText := true, laidKinds := [.data, .data, .data, .data, .sentinel, .sentinel, .data, .widerDeep, .widerDeep, .widerDeep, .pinned], laidTests := true, laidLooks := .later }
def EvalPartsCardSaid : Prop := Claim7.holds Tryz.pinned (.plain (OpenSpec.ofChange evalPartsSpec)) evalPartsCard

/-- THE TIED CARD OF 'raingaugelaw.EvalComes'. -/
def evalComesCard : Claim7 := { stood := { row := evalComesRow, standIns := [], harness := (true, "9ef9aa65ddd45551c61e8844fbb73ee15f646bdced3afc728e6bdd4ba35fbb89"), looks := true }, kinds := [], alts := [], laidByText := true, laidKinds := [.data, .data, .data, .data, .handle, .sentinel, .sentinel, .data, .widerDeep, .widerDeep, .widerDeep, .data, .pinned], laidTests := true, laidLooks := .later }
def EvalComesCardSaid : Prop := Claim7.holds Tryz.pinned (.plain (OpenSpec.ofChange evalComesSpec)) evalComesCard

/-- THE SECOND FORM's CARD OF 'raingaugekeep.EvalMoves'. -/
def evalMovesUptoCard : Claim7 := { stood := { row := evalMovesUptoRow, standIns := [], harness := (true, "9ef9aa65ddd45551c61e8844fbb73ee15f646bdced3afc728e6bdd4ba35fbb89"), looks := true }, kinds := [], alts := [], laidByText := true, laidKinds := [.data, .data, .data, .data, .sentinel, .sentinel, .data, .widerDeep, .widerDeep, .widerDeep, .pinned], laidTests := true, laidLooks := .later }
def EvalMovesUptoCardSaid : Prop := Claim7.holds Tryz.pinned (.plain (OpenSpec.upto evalMovesSpec)) evalMovesUptoCard

/-- THE SECOND FORM's CARD OF 'raingaugekeep.EvalParts'. -/
def evalPartsUptoCard : Claim7 := { stood := { row := evalPartsUptoRow, standIns := [], harness := (true, "9ef9aa65ddd45551c61e8844fbb73ee15f646bdced3afc728e6bdd4ba35fbb89"), looks := true }, kinds := [], alts := [], laidByText := true, laidKinds := [.data, .data, .data, .data, .sentinel, .sentinel, .data, .widerDeep, .widerDeep, .widerDeep, .pinned], laidTests := true, laidLooks := .later }
def EvalPartsUptoCardSaid : Prop := Claim7.holds Tryz.pinned (.plain (OpenSpec.upto evalPartsSpec)) evalPartsUptoCard

/-- THE SECOND FORM's CARD OF 'raingaugelaw.EvalComes'. -/
def evalComesUptoCard : Claim7 := { stood := { row := evalComesUptoRow, standIns := [], harness := (true, "9ef9aa65ddd45551c61e8844fbb73ee15f646bdced3afc728e6bdd4ba35fbb89"), looks := true }, kinds := [], alts := [], laidByText := true, laidKinds := [.data, .data, .data, .data, .handle, .sentinel, .sentinel, .data, .widerDeep, .widerDeep, .widerDeep, .data, .pinned], laidTests := true, laidLooks := .later }
def EvalComesUptoCardSaid : Prop := Claim7.holds Tryz.pinned (.plain (OpenSpec.upto evalComesSpec)) evalComesUptoCard
end Rows
end Go.Proofs.YtkoalgjlkcaonaaGreatDoor
