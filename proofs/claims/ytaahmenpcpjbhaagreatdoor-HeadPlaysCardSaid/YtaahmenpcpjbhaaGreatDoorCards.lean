/-
  DERIVED. GIVEN WITH THE SEED: THE CARDS: each row of YtaahmenpcpjbhaaGreatDoorRows.lean that lists a variable, with what it lists TIED to the program's text (the seventh form; the later family's looks); each row that meets fmt, with fmt's text TOLD by the authors' own Lean function (tested against real Go, not proved from fmt's source: count such statements apart). THE CARD IS WHAT COUNTS. Prove the row's statement (the work); the ties are given (YtaahmenpcpjbhaaGreatDoorTie.lean); close each card by the builder's one call (the guide's Derived/Test/ToyasCard.lean, 'card_holds'). Laid BY PROGRAM, IN A SANDBOX (cutbox-door.mjs). By AI agents, Wed Nov 11 2026. No macro, syntax, notation, axiom, sorry.
-/
import Derived.Test.YtaahmenpcpjbhaaGreatDoorRows
import GoSem.ClaimSeven
namespace Go.Proofs.YtaahmenpcpjbhaaGreatDoor
namespace Rows

/-- THE TIED CARD OF 'raingaugelaw.HeadPlays'. -/
def headPlaysCard : Claim7 := { stood := { row := headPlaysRow, standIns := [], harness := (true, "c951ef3b63afcb707de3d1c0024ded75d597475799ffdac1aae221a6b6373d80"), looks := true }, kinds := [], alts := [], laidByText := true, laidKinds := [.data, .handle, .data, .pinned], laidTests := true, laidLooks := .later }
def HeadPlaysCardSaid : Prop := Claim7.holds Tryz.pinned (.plain (OpenSpec.ofChange headPlaysSpec)) headPlaysCard

/-- THE SECOND FORM's CARD OF 'raingaugelaw.HeadPlays'. -/
def headPlaysUptoCard : Claim7 := { stood := { row := headPlaysUptoRow, standIns := [], harness := (true, "c951ef3b63afcb707de3d1c0024ded75d597475799ffdac1aae221a6b6373d80"), looks := true }, kinds := [], alts := [], laidByText := true, laidKinds := [.data, .handle, .data, .pinned], laidTests := true, laidLooks := .later }
def HeadPlaysUptoCardSaid : Prop := Claim7.holds Tryz.pinned (.plain (OpenSpec.upto headPlaysSpec)) headPlaysUptoCard
end Rows
end Go.Proofs.YtaahmenpcpjbhaaGreatDoor
