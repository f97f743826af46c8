/-
  DERIVED. GIVEN WITH THE SEED: THE CARDS: each row of YtadildidlcbbkaaGreatDoorRows.lean that lists a variable, with what it lists TIED to the program's text (the seventh form; the later family's looks); each row that meets fmt, with fmt's text TOLD by the authors' own Lean function (tested against real Go, not proved from fmt's source: count such statements apart). THE CARD IS WHAT COUNTS. Prove the row's statement (the work); the ties are given (YtadildidlcbbkaaGreatDoorTie.lean); close each card by the builder's one call (the guide's Derived/Test/ToyasCard.lean, 'card_holds'). Laid BY PROGRAM, IN A SANDBOX (cutbox-door.mjs). By AI agents, Wed Nov 11 2026. No macro, syntax, notation, axiom, sorry.
-/
import Derived.Test.YtadildidlcbbkaaGreatDoorRows
import GoSem.ClaimSeven
namespace Go.Proofs.YtadildidlcbbkaaGreatDoor
namespace Rows

/-- THE TIED CARD OF 'raingaugekeep.StoreGoes'. -/
def storeGoesCard : Claim7 := { stood := { row := storeGoesRow, standIns := [], harness := (true, "b90c210fab57e8bc6219467068ae1319ff451dcd08caf0d9d7cc32fa49c6a9f6"), looks := true }, kinds := [], alts := [], laidByText := true, laidKinds := [.data, .data, .data, .data, .data, .sentinel, .sentinel, .data, .widerDeep, .pinned], laidTests := true, laidLooks := .later }
def StoreGoesCardSaid : Prop := Claim7.holds Tryz.pinned (.plain (OpenSpec.ofChange storeGoesSpec)) storeGoesCard

/-- THE TIED CARD OF 'raingaugelaw.StorePlays'. -/
def storePlaysCard : Claim7 := { stood := { row := storePlaysRow, standIns := [], harness := (true, "b90c210fab57e8bc6219467068ae1319ff451dcd08caf0d9d7cc32fa49c6a9f6"), looks := true }, kinds := [], alts := [], laidByText := true, laidKinds := [.data, .data, .data, .data, .handle, .data, .sentinel, .sentinel, .data, .widerDeep, .data, .pinned], laidTests := true, laidLooks := .later }
def StorePlaysCardSaid : Prop := Claim7.holds Tryz.pinned (.plain (OpenSpec.ofChange storePlaysSpec)) storePlaysCard

/-- THE SECOND FORM's CARD OF 'raingaugekeep.StoreGoes'. -/
def storeGoesUptoCard : Claim7 := { stood := { row := storeGoesUptoRow, standIns := [], harness := (true, "b90c210fab57e8bc6219467068ae1319ff451dcd08caf0d9d7cc32fa49c6a9f6"), looks := true }, kinds := [], alts := [], laidByText := true, laidKinds := [.data, .data, .data, .data, .data, .sentinel, .sentinel, .data, .widerDeep, .pinned], laidTests := true, laidLooks := .later }
def StoreGoesUptoCardSaid : Prop := Claim7.holds Tryz.pinned (.plain (OpenSpec.upto storeGoesSpec)) storeGoesUptoCard

/-- THE SECOND FORM's CARD OF 'raingaugelaw.StorePlays'. -/
def storePlaysUptoCard : Claim7 := { stood := { row := storePlaysUptoRow, standIns := [], harness := (true, "b90c210fab57e8bc6219467068ae1319ff451dcd08caf0d9d7cc32fa49c6a9f6"), looks := true }, kinds := [], alts := [], laidByText := true, laidKinds := [.data, .data, .data, .data, .handle, .data, .sentinel, .sentinel, .data, .widerDeep, .data, .pinned], laidTests := true, laidLooks := .later }
def StorePlaysUptoCardSaid : Prop := Claim7.holds Tryz.pinned (.plain (OpenSpec.upto storePlaysSpec)) storePlaysUptoCard
end Rows
end Go.Proofs.YtadildidlcbbkaaGreatDoor
