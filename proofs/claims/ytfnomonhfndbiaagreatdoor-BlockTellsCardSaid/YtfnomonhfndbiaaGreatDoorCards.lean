/-
  DERIVED. GIVEN WITH THE SEED: THE CARDS: each row of YtfnomonhfndbiaaGreatDoorRows.lean that lists a variable, with what it lists TIED to the program's text (the seventh form; the later family's looks); each row that meets fmt, with fmt's text TOLD by the authors' own Lean function (tested against real Go, not proved from fmt's source: count such statements apart). THE CARD IS WHAT COUNTS. Prove the row's statement (the work); the ties are given (YtfnomonhfndbiaaGreatDoorTie.lean); close each card by the builder's one call (the guide's Derived/Test/ToyasCard.lean, 'card_holds'). Laid BY PROGRAM, IN A SANDBOX (cutbox-door.mjs). By AI agents, Wed Nov 11 2026. No macro, syntax, notation, axiom, sorry.
-/
import Derived.Test.YtfnomonhfndbiaaGreatDoorRows
import GoSem.ClaimSeven
namespace Go.Proofs.YtfnomonhfndbiaaGreatDoor
namespace Rows

/-- THE TIED CARD OF 'raingaugelaw.BlockTells'. -/
def blockTellsCard : Claim7 := { stood := { row := blockTellsRow, standIns := [], harness := (true, "55766c9cc4c50e22ac4d2ea89dcb8c09fac709d5ef4a6094c8d04c60b6068292"), looks := true }, kinds := [], alts := [], laidByText := true, laidKinds := [.data, .handle, .data, .data, .pinned], laidTests := true, laidLooks := .later }
def BlockTellsCardSaid : Prop := Claim7.holds Tryz.pinned (.plain (OpenSpec.ofChange blockTellsSpec)) blockTellsCard

/-- THE SECOND FORM's CARD OF 'raingaugelaw.BlockTells'. -/
def blockTellsUptoCard : Claim7 := { stood := { row := blockTellsUptoRow, standIns := [], harness := (true, "55766c9cc4c50e22ac4d2ea89dcb8c09fac709d5ef4a6094c8d04c60b6068292"), looks := true }, kinds := [], alts := [], laidByText := true, laidKinds := [.data, .handle, .data, .data, .pinned], laidTests := true, laidLooks := .later }
def BlockTellsUptoCardSaid : Prop := Claim7.holds Tryz.pinned (.plain (OpenSpec.upto blockTellsSpec)) blockTellsUptoCard
end Rows
end Go.Proofs.YtfnomonhfndbiaaGreatDoor
