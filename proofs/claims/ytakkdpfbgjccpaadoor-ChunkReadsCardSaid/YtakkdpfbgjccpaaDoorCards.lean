/-
  DERIVED. GIVEN WITH THE SEED: THE CARDS: each row of YtakkdpfbgjccpaaDoorRows.lean that lists a variable, with what it lists TIED to the program's text (the seventh form; the later family's looks); each row that meets fmt, with fmt's text TOLD by the authors' own Lean function (tested against real Go, not proved from fmt's source: count such statements apart). THE CARD IS WHAT COUNTS. Prove the row's statement (the work); the ties are given (YtakkdpfbgjccpaaDoorTie.lean); close each card by the builder's one call (the guide's Derived/Test/ToyasCard.lean, 'card_holds'). Laid BY PROGRAM, IN A SANDBOX (cutbox-door.mjs). By AI agents, Wed Nov 11 2026. No macro, syntax, notation, axiom, sorry.
-/
import Derived.Test.YtakkdpfbgjccpaaDoorRows
import GoSem.ClaimSeven
namespace Go.Proofs.YtakkdpfbgjccpaaDoor
namespace Rows

/-- THE TIED CARD OF 'raingaugekeep.BitsBack'. -/
def bitsBackCard : Claim7 := { stood := { row := bitsBackRow, standIns := [], harness := (true, "bd5232d32ef20881d9977453a61039e03eb9331dbc42a2ee5f8ff5214346de9f"), looks := true }, kinds := [], alts := [], laidByText := true, laidKinds := [.data], laidTests := true, laidLooks := .later }
def BitsBackCardSaid : Prop := Claim7.holds Tryd.pinned (.plain (OpenSpec.ofChange bitsBackSpec)) bitsBackCard

/-- THE TIED CARD OF 'raingaugekeep.ChunkBack'. -/
def chunkBackCard : Claim7 := { stood := { row := chunkBackRow, standIns := [], harness := (true, "bd5232d32ef20881d9977453a61039e03eb9331dbc42a2ee5f8ff5214346de9f"), looks := true }, kinds := [], alts := [], laidByText := true, laidKinds := [.data], laidTests := true, laidLooks := .later }
def ChunkBackCardSaid : Prop := Claim7.holds Tryd.pinned (.plain (OpenSpec.ofChange chunkBackSpec)) chunkBackCard

/-- THE TIED CARD OF 'raingaugekeep.ChunkSmall'. -/
def chunkSmallCard : Claim7 := { stood := { row := chunkSmallRow, standIns := [], harness := (true, "bd5232d32ef20881d9977453a61039e03eb9331dbc42a2ee5f8ff5214346de9f"), looks := true }, kinds := [], alts := [], laidByText := true, laidKinds := [.data], laidTests := true, laidLooks := .later }
def ChunkSmallCardSaid : Prop := Claim7.holds Tryd.pinned (.plain (OpenSpec.ofChange chunkSmallSpec)) chunkSmallCard

/-- THE TIED CARD OF 'raingaugelaw.BitsWrite'. -/
def bitsWriteCard : Claim7 := { stood := { row := bitsWriteRow, standIns := [], harness := (true, "bd5232d32ef20881d9977453a61039e03eb9331dbc42a2ee5f8ff5214346de9f"), looks := true }, kinds := [], alts := [], laidByText := true, laidKinds := [.data], laidTests := true, laidLooks := .later }
def BitsWriteCardSaid : Prop := Claim7.holds Tryd.pinned (.plain (OpenSpec.ofChange bitsWriteSpec)) bitsWriteCard

/-- THE TIED CARD OF 'raingaugelaw.BitsRead'. -/
def bitsReadCard : Claim7 := { stood := { row := bitsReadRow, standIns := [], harness := (true, "bd5232d32ef20881d9977453a61039e03eb9331dbc42a2ee5f8ff5214346de9f"), looks := true }, kinds := [], alts := [], laidByText := true, laidKinds := [.handle, .data], laidTests := true, laidLooks := .later }
def BitsReadCardSaid : Prop := Claim7.holds Tryd.pinned (.plain (OpenSpec.ofChange bitsReadSpec)) bitsReadCard

/-- THE TIED CARD OF 'raingaugelaw.ChunkWrites'. -/
def chunkWritesCard : Claim7 := { stood := { row := chunkWritesRow, standIns := [], harness := (true, "bd5232d32ef20881d9977453a61039e03eb9331dbc42a2ee5f8ff5214346de9f"), looks := true }, kinds := [], alts := [], laidByText := true, laidKinds := [.handle, .data], laidTests := true, laidLooks := .later }
def ChunkWritesCardSaid : Prop := Claim7.holds Tryd.pinned (.plain (OpenSpec.ofChange chunkWritesSpec)) chunkWritesCard

/-- THE TIED CARD OF 'raingaugelaw.ChunkReads'. -/
def chunkReadsCard : Claim7 := { stood := { row := chunkReadsRow, standIns := [], harness := (true, "bd5232d32ef20881d9977453a61039e03eb9331dbc42a2ee5f8ff5214346de9f"), looks := true }, kinds := [], alts := [], laidByText := true, laidKinds := [.handle, .data], laidTests := true, laidLooks := .later }
def ChunkReadsCardSaid : Prop := Claim7.holds Tryd.pinned (.plain (OpenSpec.ofChange chunkReadsSpec)) chunkReadsCard

/-- THE TIED CARD OF 'raingaugelaw.RollUp'. -/
def rollUpCard : Claim7 := { stood := { row := rollUpRow, standIns := [], harness := (true, "bd5232d32ef20881d9977453a61039e03eb9331dbc42a2ee5f8ff5214346de9f"), looks := true }, kinds := [], alts := [], laidByText := true, laidKinds := [.handle], laidTests := true, laidLooks := .later }
def RollUpCardSaid : Prop := Claim7.holds Tryd.pinned (.plain (OpenSpec.ofChange rollUpSpec)) rollUpCard

/-- THE SECOND FORM's CARD OF 'raingaugekeep.BitsBack'. -/
def bitsBackUptoCard : Claim7 := { stood := { row := bitsBackUptoRow, standIns := [], harness := (true, "bd5232d32ef20881d9977453a61039e03eb9331dbc42a2ee5f8ff5214346de9f"), looks := true }, kinds := [], alts := [], laidByText := true, laidKinds := [.data], laidTests := true, laidLooks := .later }
def BitsBackUptoCardSaid : Prop := Claim7.holds Tryd.pinned (.plain (OpenSpec.upto bitsBackSpec)) bitsBackUptoCard

/-- THE SECOND FORM's CARD OF 'raingaugekeep.ChunkBack'. -/
def chunkBackUptoCard : Claim7 := { stood := { row := chunkBackUptoRow, standIns := [], harness := (true, "bd5232d32ef20881d9977453a61039e03eb9331dbc42a2ee5f8ff5214346de9f"), looks := true }, kinds := [], alts := [], laidByText := true, laidKinds := [.data], laidTests := true, laidLooks := .later }
def ChunkBackUptoCardSaid : Prop := Claim7.holds Tryd.pinned (.plain (OpenSpec.upto chunkBackSpec)) chunkBackUptoCard

/-- THE SECOND FORM's CARD OF 'raingaugekeep.ChunkSmall'. -/
def chunkSmallUptoCard : Claim7 := { stood := { row := chunkSmallUptoRow, standIns := [], harness := (true, "bd5232d32ef20881d9977453a61039e03eb9331dbc42a2ee5f8ff5214346de9f"), looks := true }, kinds := [], alts := [], laidByText := true, laidKinds := [.data], laidTests := true, laidLooks := .later }
def ChunkSmallUptoCardSaid : Prop := Claim7.holds Tryd.pinned (.plain (OpenSpec.upto chunkSmallSpec)) chunkSmallUptoCard

/-- THE SECOND FORM's CARD OF 'raingaugelaw.BitsWrite'. -/
def bitsWriteUptoCard : Claim7 := { stood := { row := bitsWriteUptoRow, standIns := [], harness := (true, "bd5232d32ef20881d9977453a61039e03eb9331dbc42a2ee5f8ff5214346de9f"), looks := true }, kinds := [], alts := [], laidByText := true, laidKinds := [.data], laidTests := true, laidLooks := .later }
def BitsWriteUptoCardSaid : Prop := Claim7.holds Tryd.pinned (.plain (OpenSpec.upto bitsWriteSpec)) bitsWriteUptoCard

/-- THE SECOND FORM's CARD OF 'raingaugelaw.BitsRead'. -/
def bitsReadUptoCard : Claim7 := { stood := { row := bitsReadUptoRow, standIns := [], harness := (true, "bd5232d32ef20881d9977453a61039e03eb9331dbc42a2ee5f8ff5214346de9f"), looks := true }, kinds := [], alts := [], laidByText := true, laidKinds := [.handle, .data], laidTests := true, laidLooks := .later }
def BitsReadUptoCardSaid : Prop := Claim7.holds Tryd.pinned (.plain (OpenSpec.upto bitsReadSpec)) bitsReadUptoCard

/-- THE SECOND FORM's CARD OF 'raingaugelaw.ChunkWrites'. -/
def chunkWritesUptoCard : Claim7 := { stood := { row := chunkWritesUptoRow, standIns := [], harness := (true, "bd5232d32ef20881d9977453a61039e03eb9331dbc42a2ee5f8ff5214346de9f"), looks := true }, kinds := [], alts := [], laidByText := true, laidKinds := [.handle, .data], laidTests := true, laidLooks := .later }
def ChunkWritesUptoCardSaid : Prop := Claim7.holds Tryd.pinned (.plain (OpenSpec.upto chunkWritesSpec)) chunkWritesUptoCard

/-- THE SECOND FORM's CARD OF 'raingaugelaw.ChunkReads'. -/
def chunkReadsUptoCard : Claim7 := { stood := { row := chunkReadsUptoRow, standIns := [], harness := (true, "bd5232d32ef20881d9977453a61039e03eb9331dbc42a2ee5f8ff5214346de9f"), looks := true }, kinds := [], alts := [], laidByText := true, laidKinds := [.handle, .data], laidTests := true, laidLooks := .later }
def ChunkReadsUptoCardSaid : Prop := Claim7.holds Tryd.pinned (.plain (OpenSpec.upto chunkReadsSpec)) chunkReadsUptoCard

/-- THE SECOND FORM's CARD OF 'raingaugelaw.RollUp'. -/
def rollUpUptoCard : Claim7 := { stood := { row := rollUpUptoRow, standIns := [], harness := (true, "bd5232d32ef20881d9977453a61039e03eb9331dbc42a2ee5f8ff5214346de9f"), looks := true }, kinds := [], alts := [], laidByText := true, laidKinds := [.handle], laidTests := true, laidLooks := .later }
def RollUpUptoCardSaid : Prop := Claim7.holds Tryd.pinned (.plain (OpenSpec.upto rollUpSpec)) rollUpUptoCard
end Rows
end Go.Proofs.YtakkdpfbgjccpaaDoor
