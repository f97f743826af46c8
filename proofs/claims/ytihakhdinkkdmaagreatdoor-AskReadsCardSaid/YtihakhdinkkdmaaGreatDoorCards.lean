/-
  DERIVED. GIVEN WITH THE SEED: THE CARDS: each row of YtihakhdinkkdmaaGreatDoorRows.lean that lists a variable, with what it lists TIED to the program's text (the seventh form; the later family's looks); each row that meets fmt, with fmt's text TOLD by the authors' own Lean function (tested against real Go, not proved from fmt's source: count such statements apart). THE CARD IS WHAT COUNTS. Prove the row's statement (the work); the ties are given (YtihakhdinkkdmaaGreatDoorTie.lean); close each card by the builder's one call (the guide's Derived/Test/ToyasCard.lean, 'card_holds'). Laid BY PROGRAM, IN A SANDBOX (cutbox-door.mjs). By AI agents, Wed Nov 11 2026. No macro, syntax, notation, axiom, sorry.
-/
import Derived.Test.YtihakhdinkkdmaaGreatDoorRows
import GoSem.ClaimSeven
namespace Go.Proofs.YtihakhdinkkdmaaGreatDoor
namespace Rows

/-- THE TIED CARD OF 'raingaugelaw.AskReads'. -/
def askReadsCard : Claim7 := { stood := { row := askReadsRow, standIns := [], harness := (true, "6683d559c0cbca2974f05c333f0ab5770f632eebc5039c4c2b21dc2d53c2f070"), looks := true }, kinds := [], alts := [], laidByText := true, laidKinds := [.data, .data, .data, .data, .handle, .sentinel, .sentinel, .data, .widerDeep, .widerDeep, .widerDeep, .data, .pinned], laidTests := true, laidLooks := .later }
def AskReadsCardSaid : Prop := Claim7.holds Tryz.pinned (.plain (OpenSpec.ofChange askReadsSpec)) askReadsCard

/-- THE SECOND FORM's CARD OF 'raingaugelaw.AskReads'. -/
def askReadsUptoCard : Claim7 := { stood := { row := askReadsUptoRow, standIns := [], harness := (true, "6683d559c0cbca2974f05c333f0ab5770f632eebc5039c4c2b21dc2d53c2f070"), looks := true }, kinds := [], alts := [], laidByText := true, laidKinds := [.data, .data, .data, .data, .handle, .sentinel, .sentinel, .data, .widerDeep, .widerDeep, .widerDeep, .data, .pinned], laidTests := true, laidLooks := .later }
def AskReadsUptoCardSaid : Prop := Claim7.holds Tryz.pinned (.plain (OpenSpec.upto askReadsSpec)) askReadsUptoCard
end Rows
end Go.Proofs.YtihakhdinkkdmaaGreatDoor
