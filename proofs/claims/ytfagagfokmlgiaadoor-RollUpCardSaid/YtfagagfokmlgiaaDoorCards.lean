/-
  DERIVED. GIVEN WITH THE SEED: THE CARDS: each row of YtfagagfokmlgiaaDoorRows.lean that lists a variable, with what it lists TIED to the program's text (the seventh form; the later family's looks); each row that meets fmt, with fmt's text TOLD by the authors' own Lean function (tested against real Go, not proved from fmt's source: count such statements apart). THE CARD IS WHAT COUNTS. Prove the row's statement (the work); the ties are given (YtfagagfokmlgiaaDoorTie.lean); close each card by the builder's one call (the guide's Derived/Test/ToyasCard.lean, 'card_holds'). Laid BY PROGRAM, IN A SANDBOX (cutbox-door.mjs). By AI agents, Wed Nov 11 2026. No macro, syntax, notation, axiom, sorry.
-/
import Derived.Test.YtfagagfokmlgiaaDoorRows
import GoSem.ClaimSeven
namespace Go.Proofs.YtfagagfokmlgiaaDoor
namespace Rows

/-- THE TIED CARD OF 'raingaugelaw.LabelMatches'. -/
def labelMatchesCard : Claim7 := { stood := { row := labelMatchesRow, standIns := [], harness := (true, "a56590e04c9b509335103e6ed856b6132b8e0966eb3561699b491d722dc9be60"), looks := true }, kinds := [], alts := [], laidByText := true, laidKinds := [.data, .pinned], laidTests := true, laidLooks := .later }
def LabelMatchesCardSaid : Prop := Claim7.holds Tryd.pinned (.plain (OpenSpec.ofChange labelMatchesSpec)) labelMatchesCard

/-- THE TIED CARD OF 'raingaugelaw.LabelTells'. -/
def labelTellsCard : Claim7 := { stood := { row := labelTellsRow, standIns := [], harness := (true, "a56590e04c9b509335103e6ed856b6132b8e0966eb3561699b491d722dc9be60"), looks := true }, kinds := [], alts := [], laidByText := true, laidKinds := [.data, .pinned], laidTests := true, laidLooks := .later }
def LabelTellsCardSaid : Prop := Claim7.holds Tryd.pinned (.plain (OpenSpec.ofChange labelTellsSpec)) labelTellsCard

/-- THE TIED CARD OF 'raingaugekeep.LabelOrder'. -/
def labelOrderCard : Claim7 := { stood := { row := labelOrderRow, standIns := [], harness := (true, "a56590e04c9b509335103e6ed856b6132b8e0966eb3561699b491d722dc9be60"), looks := true }, kinds := [], alts := [], laidByText := true, laidKinds := [.data, .pinned], laidTests := true, laidLooks := .later }
def LabelOrderCardSaid : Prop := Claim7.holds Tryd.pinned (.plain (OpenSpec.ofChange labelOrderSpec)) labelOrderCard

/-- THE TIED CARD OF 'raingaugekeep.LabelNot'. -/
def labelNotCard : Claim7 := { stood := { row := labelNotRow, standIns := [], harness := (true, "a56590e04c9b509335103e6ed856b6132b8e0966eb3561699b491d722dc9be60"), looks := true }, kinds := [], alts := [], laidByText := true, laidKinds := [.data, .pinned], laidTests := true, laidLooks := .later }
def LabelNotCardSaid : Prop := Claim7.holds Tryd.pinned (.plain (OpenSpec.ofChange labelNotSpec)) labelNotCard

/-- THE TIED CARD OF 'raingaugelaw.RollUp'. -/
def rollUpCard : Claim7 := { stood := { row := rollUpRow, standIns := [], harness := (true, "a56590e04c9b509335103e6ed856b6132b8e0966eb3561699b491d722dc9be60"), looks := true }, kinds := [], alts := [], laidByText := true, laidKinds := [.handle], laidTests := true, laidLooks := .later }
def RollUpCardSaid : Prop := Claim7.holds Tryd.pinned (.plain (OpenSpec.ofChange rollUpSpec)) rollUpCard

/-- THE TIED CARD OF 'raingaugekeep.IndexSets'. -/
def indexSetsCard : Claim7 := { stood := { row := indexSetsRow, standIns := [], harness := (true, "a56590e04c9b509335103e6ed856b6132b8e0966eb3561699b491d722dc9be60"), looks := true }, kinds := [], alts := [], laidByText := true, laidKinds := [.data, .pinned], laidTests := true, laidLooks := .later }
def IndexSetsCardSaid : Prop := Claim7.holds Tryd.pinned (.plain (OpenSpec.ofChange indexSetsSpec)) indexSetsCard

/-- THE SECOND FORM's CARD OF 'raingaugelaw.LabelMatches'. -/
def labelMatchesUptoCard : Claim7 := { stood := { row := labelMatchesUptoRow, standIns := [], harness := (true, "a56590e04c9b509335103e6ed856b6132b8e0966eb3561699b491d722dc9be60"), looks := true }, kinds := [], alts := [], laidByText := true, laidKinds := [.data, .pinned], laidTests := true, laidLooks := .later }
def LabelMatchesUptoCardSaid : Prop := Claim7.holds Tryd.pinned (.plain (OpenSpec.upto labelMatchesSpec)) labelMatchesUptoCard

/-- THE SECOND FORM's CARD OF 'raingaugelaw.LabelTells'. -/
def labelTellsUptoCard : Claim7 := { stood := { row := labelTellsUptoRow, standIns := [], harness := (true, "a56590e04c9b509335103e6ed856b6132b8e0966eb3561699b491d722dc9be60"), looks := true }, kinds := [], alts := [], laidByText := true, laidKinds := [.data, .pinned], laidTests := true, laidLooks := .later }
def LabelTellsUptoCardSaid : Prop := Claim7.holds Tryd.pinned (.plain (OpenSpec.upto labelTellsSpec)) labelTellsUptoCard

/-- THE SECOND FORM's CARD OF 'raingaugekeep.LabelOrder'. -/
def labelOrderUptoCard : Claim7 := { stood := { row := labelOrderUptoRow, standIns := [], harness := (true, "a56590e04c9b509335103e6ed856b6132b8e0966eb3561699b491d722dc9be60"), looks := true }, kinds := [], alts := [], laidByText := true, laidKinds := [.data, .pinned], laidTests := true, laidLooks := .later }
def LabelOrderUptoCardSaid : Prop := Claim7.holds Tryd.pinned (.plain (OpenSpec.upto labelOrderSpec)) labelOrderUptoCard

/-- THE SECOND FORM's CARD OF 'raingaugekeep.LabelNot'. -/
def labelNotUptoCard : Claim7 := { stood := { row := labelNotUptoRow, standIns := [], harness := (true, "a56590e04c9b509335103e6ed856b6132b8e0966eb3561699b491d722dc9be60"), looks := true }, kinds := [], alts := [], laidByText := true, laidKinds := [.data, .pinned], laidTests := true, laidLooks := .later }
def LabelNotUptoCardSaid : Prop := Claim7.holds Tryd.pinned (.plain (OpenSpec.upto labelNotSpec)) labelNotUptoCard

/-- THE SECOND FORM's CARD OF 'raingaugelaw.RollUp'. -/
def rollUpUptoCard : Claim7 := { stood := { row := rollUpUptoRow, standIns := [], harness := (true, "a56590e04c9b509335103e6ed856b6132b8e0966eb3561699b491d722dc9be60"), looks := true }, kinds := [], alts := [], laidByText := true, laidKinds := [.handle], laidTests := true, laidLooks := .later }
def RollUpUptoCardSaid : Prop := Claim7.holds Tryd.pinned (.plain (OpenSpec.upto rollUpSpec)) rollUpUptoCard

/-- THE SECOND FORM's CARD OF 'raingaugekeep.IndexSets'. -/
def indexSetsUptoCard : Claim7 := { stood := { row := indexSetsUptoRow, standIns := [], harness := (true, "a56590e04c9b509335103e6ed856b6132b8e0966eb3561699b491d722dc9be60"), looks := true }, kinds := [], alts := [], laidByText := true, laidKinds := [.data, .pinned], laidTests := true, laidLooks := .later }
def IndexSetsUptoCardSaid : Prop := Claim7.holds Tryd.pinned (.plain (OpenSpec.upto indexSetsSpec)) indexSetsUptoCard
end Rows
end Go.Proofs.YtfagagfokmlgiaaDoor
