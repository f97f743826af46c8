/-
  DERIVED. GIVEN WITH THE SEED: THE CARDS: each row of YtogpkeoahlkokaaGreatDoorRows.lean that lists a variable, with what it lists TIED to the program's text (the seventh form; the later family's looks); each row that meets fmt, with fmt's text TOLD by the authors' own Lean function (tested against real Go, not proved from fmt's source: count such statements apart). THE CARD IS WHAT COUNTS. Prove the row's statement (the work); the ties are given (YtogpkeoahlkokaaGreatDoorTie.lean); close each card by the builder's one call (the guide's Derived/Test/ToyasCard.lean, 'card_holds'). Laid BY PROGRAM, IN A SANDBOX (cutbox-door.mjs). By AI agents, Wed Nov 11 2026. No macro, syntax, notation, axiom, sorry.
-/
import Derived.Test.YtogpkeoahlkokaaGreatDoorRows
import GoSem.ClaimSeven
namespace Go.Proofs.YtogpkeoahlkokaaGreatDoor
namespace Rows

/-- THE TIED CARD OF 'raingaugelaw.CodeSeries'. -/
def codeSeriesCard : Claim7 := { stood := { row := codeSeriesRow, standIns := [], harness := (true, "57c7d723441a29ebd2cac753f0b8a432a3cf35300270da45a76fb5124fcbd5cc"), looks := true }, kinds := [], alts := [], laidByText := true, laidKinds := [.data, .handle, .data, .data, .pinned], laidTests := true, laidLooks := .later }
def CodeSeriesCardSaid : Prop := Claim7.holds Tryz.pinned (.plain (OpenSpec.ofChange codeSeriesSpec)) codeSeriesCard

/-- THE SECOND FORM's CARD OF 'raingaugelaw.CodeSeries'. -/
def codeSeriesUptoCard : Claim7 := { stood := { row := codeSeriesUptoRow, standIns := [], harness := (true, "57c7d723441a29ebd2cac753f0b8a432a3cf35300270da45a76fb5124fcbd5cc"), looks := true }, kinds := [], alts := [], laidByText := true, laidKinds := [.data, .handle, .data, .data, .pinned], laidTests := true, laidLooks := .later }
def CodeSeriesUptoCardSaid : Prop := Claim7.holds Tryz.pinned (.plain (OpenSpec.upto codeSeriesSpec)) codeSeriesUptoCard
end Rows
end Go.Proofs.YtogpkeoahlkokaaGreatDoor
