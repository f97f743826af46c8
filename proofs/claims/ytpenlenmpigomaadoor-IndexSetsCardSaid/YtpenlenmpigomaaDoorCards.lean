/-
  DERIVED. GIVEN WITH THE SEED: THE CARDS: each row of YtpenlenmpigomaaDoorRows.lean that lists a variable, with what it lists TIED to the program's text (the seventh form; the later family's looks); each row that meets fmt, with fmt's text TOLD by the authors' own Lean function (tested against real Go, not proved from fmt's source: count such statements apart). THE CARD IS WHAT COUNTS. Prove the row's statement (the work); the ties are given (YtpenlenmpigomaaDoorTie.lean); close each card by the builder's one call (the guide's Derived/Test/ToyasCard.lean, 'card_holds'). Laid BY PROGRAM, IN A SANDBOX (cutbox-door.mjs). By AI agents, Wed Nov 11 2026. No macro, syntax, notation, axiom, sorry.
-/
import Derived.Test.YtpenlenmpigomaaDoorRows
import GoSem.ClaimSeven
namespace Go.Proofs.YtpenlenmpigomaaDoor
namespace Rows

/-- THE TIED CARD OF 'raingaugekeep.IndexSets'. -/
def indexSetsCard : Claim7 := { stood := { row := indexSetsRow, standIns := [], harness := (true, "7381a0fdb37493c4215afae22f2d7b205e8a1056dc39723589ca11fa1a0317a4"), looks := false }, kinds := [], alts := [], laidByText := true, laidKinds := [.data, .pinned], laidTests := true, laidLooks := .later }
def IndexSetsCardSaid : Prop := Claim7.holds Tryd.pinned (.plain (OpenSpec.ofChange indexSetsSpec)) indexSetsCard

/-- THE SECOND FORM's CARD OF 'raingaugekeep.IndexSets'. -/
def indexSetsUptoCard : Claim7 := { stood := { row := indexSetsUptoRow, standIns := [], harness := (true, "7381a0fdb37493c4215afae22f2d7b205e8a1056dc39723589ca11fa1a0317a4"), looks := false }, kinds := [], alts := [], laidByText := true, laidKinds := [.data, .pinned], laidTests := true, laidLooks := .later }
def IndexSetsUptoCardSaid : Prop := Claim7.holds Tryd.pinned (.plain (OpenSpec.upto indexSetsSpec)) indexSetsUptoCard
end Rows
end Go.Proofs.YtpenlenmpigomaaDoor
