/-
  NARROWER THAN 'FOR EVERY INPUT', by the rows' own cells (each row's printed sentence says how): BitsBack: laid · ChunkBack: laid · ChunkSmall: laid · BitsWrite: laid · BitsRead: laid · ChunkWrites: laid · ChunkReads: laid · RollUp: laid.
  DERIVED. THE GIVEN ROWS OF THIS SEAT. 8 by the template 'for every input the law returns true; each argument reads behind the call as it read before'; 0 by the template 'total and deterministic' (their statements: YtakkdpfbgjccpaaDoorTotals.lean).
  GIVEN WITH THE SEED: the statements are not yours to turn. If you find one false, say at which input.
  Laid BY PROGRAM, IN A SANDBOX (cutbox-rows.mjs): the forced cells as the released guide's own fill.sh prints them over the translation 6456f839cb34b77c… (all of the seat's roots in one cut). By AI agents, Wed Nov 11 2026. No macro, syntax, notation, axiom, sorry.
-/
import Derived.Test.YtakkdpfbgjccpaaDoorChecked
import GoSem.Claim
import GoSem.ClaimJoined
import GoSem.ClaimMapViews
import Derived.JoinedTies
import Derived.KernelRfl
namespace Go.Proofs.YtakkdpfbgjccpaaDoor
/- THE CELL 'sum', in the pinned program and in every row, IS THE sha256 OF THE DUMP (.gsa) THAT YtakkdpfbgjccpaaDoorProg.lean LOADS. Nothing in Lean hashes anything: it is a label: what it is worth is what the hold of that sum in a sandbox is worth. -/
noncomputable def Tryd.pinned : Pinned := { name := "ytakkdpfbgjccpaadoor", sum := "6456f839cb34b77c11fa1296a7d8322fe4e1fcd6f4e88648abdc101055232b55", checked := Tryd.checked }
namespace Rows
def none {H : Type} : Left H := { results := [], args := [] }

/- WHAT THE LISTED PACKAGE-LEVEL VARIABLES READ AS WHEN THE CALL BEGINS. Each datum BY PROGRAM (the guide's laid-datum.mjs) off the statement by which the dump's own 'gosem.cut.vars' lays the variable. In a bare row this is a premise. The card (YtakkdpfbgjccpaaDoorCards.lean) ties it to the program's text. -/
def laid_raingauge_bits_sizes {H : Type} : DataW H := .agg [.lit (.int .i64 0), .lit (.int .i64 4), .lit (.int .i64 7), .lit (.int .i64 12), .lit (.int .i64 20), .lit (.int .i64 32), .lit (.int .i64 64)]
def laid_errors_errorType {H : Type} : DataW H := .iface "internal/reflectlite.rtype" (.agg [.ptr (.lit (.string [101, 114, 114, 111, 114]))])

/-- 'raingaugekeep.BitsBack': WHATEVER THE INPUT: true; the input reads as it did. -/
def bitsBackSpec : ChangeSpec := { name := "bitsBack", fn := fun _ => fun
  | [d] => { results := [.lit (.bool true)], args := [d] }
  | _ => none }
def bitsBackRow : OpenClaim := { program := "ytakkdpfbgjccpaadoor", sum := "6456f839cb34b77c11fa1296a7d8322fe4e1fcd6f4e88648abdc101055232b55", func := "raingauge/raingaugekeep.BitsBack", spec := "bitsBack", named := ["raingauge/bits.sizes"], apart := false, laid := [("raingauge/bits.sizes", laid_raingauge_bits_sizes)] }
def BitsBackSaid : Prop := bitsBackRow.holds Tryd.pinned (OpenSpec.ofChange bitsBackSpec)

/-- ITS FALSE NEIGHBOUR: 'it returns false'. Refute it at one input. -/
def bitsBackWrong : ChangeSpec := { name := "bitsBack", fn := fun _ => fun
  | [d] => { results := [.lit (.bool false)], args := [d] }
  | _ => none }
def BitsBackWrongFalsely : Prop := bitsBackRow.holds Tryd.pinned (OpenSpec.ofChange bitsBackWrong)

/-- 'raingaugekeep.ChunkBack': WHATEVER THE INPUT: true; the input reads as it did. -/
def chunkBackSpec : ChangeSpec := { name := "chunkBack", fn := fun _ => fun
  | [d1, d2, d3] => { results := [.lit (.bool true)], args := [d1, d2, d3] }
  | _ => none }
def chunkBackRow : OpenClaim := { program := "ytakkdpfbgjccpaadoor", sum := "6456f839cb34b77c11fa1296a7d8322fe4e1fcd6f4e88648abdc101055232b55", func := "raingauge/raingaugekeep.ChunkBack", spec := "chunkBack", named := ["raingauge/bits.sizes"], apart := false, laid := [("raingauge/bits.sizes", laid_raingauge_bits_sizes)] }
def ChunkBackSaid : Prop := chunkBackRow.holds Tryd.pinned (OpenSpec.ofChange chunkBackSpec)

/-- ITS FALSE NEIGHBOUR: 'it returns false'. Refute it at one input. -/
def chunkBackWrong : ChangeSpec := { name := "chunkBack", fn := fun _ => fun
  | [d1, d2, d3] => { results := [.lit (.bool false)], args := [d1, d2, d3] }
  | _ => none }
def ChunkBackWrongFalsely : Prop := chunkBackRow.holds Tryd.pinned (OpenSpec.ofChange chunkBackWrong)

/-- 'raingaugekeep.ChunkSmall': WHATEVER THE INPUT: true; the input reads as it did. -/
def chunkSmallSpec : ChangeSpec := { name := "chunkSmall", fn := fun _ => fun
  | [d1, d2, d3, d4] => { results := [.lit (.bool true)], args := [d1, d2, d3, d4] }
  | _ => none }
def chunkSmallRow : OpenClaim := { program := "ytakkdpfbgjccpaadoor", sum := "6456f839cb34b77c11fa1296a7d8322fe4e1fcd6f4e88648abdc101055232b55", func := "raingauge/raingaugekeep.ChunkSmall", spec := "chunkSmall", named := ["raingauge/bits.sizes"], apart := false, laid := [("raingauge/bits.sizes", laid_raingauge_bits_sizes)] }
def ChunkSmallSaid : Prop := chunkSmallRow.holds Tryd.pinned (OpenSpec.ofChange chunkSmallSpec)

/-- ITS FALSE NEIGHBOUR: 'it returns false'. Refute it at one input. -/
def chunkSmallWrong : ChangeSpec := { name := "chunkSmall", fn := fun _ => fun
  | [d1, d2, d3, d4] => { results := [.lit (.bool false)], args := [d1, d2, d3, d4] }
  | _ => none }
def ChunkSmallWrongFalsely : Prop := chunkSmallRow.holds Tryd.pinned (OpenSpec.ofChange chunkSmallWrong)

/-- 'raingaugelaw.BitsWrite': WHATEVER THE INPUT: true; the input reads as it did. -/
def bitsWriteSpec : ChangeSpec := { name := "bitsWrite", fn := fun _ => fun
  | [d1, d2, d3] => { results := [.lit (.bool true)], args := [d1, d2, d3] }
  | _ => none }
def bitsWriteRow : OpenClaim := { program := "ytakkdpfbgjccpaadoor", sum := "6456f839cb34b77c11fa1296a7d8322fe4e1fcd6f4e88648abdc101055232b55", func := "raingauge/raingaugelaw.BitsWrite", spec := "bitsWrite", inPlace := ["internal/abi.NoEscape", "internal/bytealg.MakeNoZero"], named := ["raingauge/bits.sizes"], apart := false, laid := [("raingauge/bits.sizes", laid_raingauge_bits_sizes)] }
def BitsWriteSaid : Prop := bitsWriteRow.holds Tryd.pinned (OpenSpec.ofChange bitsWriteSpec)

/-- ITS FALSE NEIGHBOUR: 'it returns false'. Refute it at one input. -/
def bitsWriteWrong : ChangeSpec := { name := "bitsWrite", fn := fun _ => fun
  | [d1, d2, d3] => { results := [.lit (.bool false)], args := [d1, d2, d3] }
  | _ => none }
def BitsWriteWrongFalsely : Prop := bitsWriteRow.holds Tryd.pinned (OpenSpec.ofChange bitsWriteWrong)

/-- 'raingaugelaw.BitsRead': WHATEVER THE INPUT: true; the input reads as it did. -/
def bitsReadSpec : ChangeSpec := { name := "bitsRead", fn := fun _ => fun
  | [d1, d2] => { results := [.lit (.bool true)], args := [d1, d2] }
  | _ => none }
def bitsReadRow : OpenClaim := { program := "ytakkdpfbgjccpaadoor", sum := "6456f839cb34b77c11fa1296a7d8322fe4e1fcd6f4e88648abdc101055232b55", func := "raingauge/raingaugelaw.BitsRead", spec := "bitsRead", inPlace := ["internal/abi.NoEscape", "internal/bytealg.MakeNoZero", "internal/reflectlite.ValueOf", "(internal/reflectlite.Value).Type", "(internal/reflectlite.Value).IsNil", "internal/reflectlite.TypeOf", "(internal/reflectlite.Value).Elem", "(internal/reflectlite.Value).Set"], unfollowed := true, recurses := true, named := ["raingauge/bits.sizes", "errors.errorType"], apart := false, laid := [("errors.errorType", laid_errors_errorType), ("raingauge/bits.sizes", laid_raingauge_bits_sizes)] }
def BitsReadSaid : Prop := bitsReadRow.holds Tryd.pinned (OpenSpec.ofChange bitsReadSpec)

/-- ITS FALSE NEIGHBOUR: 'it returns false'. Refute it at one input. -/
def bitsReadWrong : ChangeSpec := { name := "bitsRead", fn := fun _ => fun
  | [d1, d2] => { results := [.lit (.bool false)], args := [d1, d2] }
  | _ => none }
def BitsReadWrongFalsely : Prop := bitsReadRow.holds Tryd.pinned (OpenSpec.ofChange bitsReadWrong)

/-- 'raingaugelaw.ChunkWrites': WHATEVER THE INPUT: true; the input reads as it did. -/
def chunkWritesSpec : ChangeSpec := { name := "chunkWrites", fn := fun _ => fun
  | [d] => { results := [.lit (.bool true)], args := [d] }
  | _ => none }
def chunkWritesRow : OpenClaim := { program := "ytakkdpfbgjccpaadoor", sum := "6456f839cb34b77c11fa1296a7d8322fe4e1fcd6f4e88648abdc101055232b55", func := "raingauge/raingaugelaw.ChunkWrites", spec := "chunkWrites", inPlace := ["internal/abi.NoEscape", "internal/bytealg.MakeNoZero", "internal/reflectlite.ValueOf", "(internal/reflectlite.Value).Type", "(internal/reflectlite.Value).IsNil", "internal/reflectlite.TypeOf", "(internal/reflectlite.Value).Elem", "(internal/reflectlite.Value).Set"], unfollowed := true, recurses := true, named := ["raingauge/bits.sizes", "errors.errorType"], apart := false, laid := [("errors.errorType", laid_errors_errorType), ("raingauge/bits.sizes", laid_raingauge_bits_sizes)] }
def ChunkWritesSaid : Prop := chunkWritesRow.holds Tryd.pinned (OpenSpec.ofChange chunkWritesSpec)

/-- ITS FALSE NEIGHBOUR: 'it returns false'. Refute it at one input. -/
def chunkWritesWrong : ChangeSpec := { name := "chunkWrites", fn := fun _ => fun
  | [d] => { results := [.lit (.bool false)], args := [d] }
  | _ => none }
def ChunkWritesWrongFalsely : Prop := chunkWritesRow.holds Tryd.pinned (OpenSpec.ofChange chunkWritesWrong)

/-- 'raingaugelaw.ChunkReads': WHATEVER THE INPUT: true; the input reads as it did. -/
def chunkReadsSpec : ChangeSpec := { name := "chunkReads", fn := fun _ => fun
  | [d] => { results := [.lit (.bool true)], args := [d] }
  | _ => none }
def chunkReadsRow : OpenClaim := { program := "ytakkdpfbgjccpaadoor", sum := "6456f839cb34b77c11fa1296a7d8322fe4e1fcd6f4e88648abdc101055232b55", func := "raingauge/raingaugelaw.ChunkReads", spec := "chunkReads", inPlace := ["internal/abi.NoEscape", "internal/bytealg.MakeNoZero", "internal/reflectlite.ValueOf", "(internal/reflectlite.Value).Type", "(internal/reflectlite.Value).IsNil", "internal/reflectlite.TypeOf", "(internal/reflectlite.Value).Elem", "(internal/reflectlite.Value).Set"], unfollowed := true, recurses := true, named := ["raingauge/bits.sizes", "errors.errorType"], apart := false, laid := [("errors.errorType", laid_errors_errorType), ("raingauge/bits.sizes", laid_raingauge_bits_sizes)] }
def ChunkReadsSaid : Prop := chunkReadsRow.holds Tryd.pinned (OpenSpec.ofChange chunkReadsSpec)

/-- ITS FALSE NEIGHBOUR: 'it returns false'. Refute it at one input. -/
def chunkReadsWrong : ChangeSpec := { name := "chunkReads", fn := fun _ => fun
  | [d] => { results := [.lit (.bool false)], args := [d] }
  | _ => none }
def ChunkReadsWrongFalsely : Prop := chunkReadsRow.holds Tryd.pinned (OpenSpec.ofChange chunkReadsWrong)

/-- 'raingaugelaw.RollUp': WHATEVER THE INPUT: true; the input reads as it did. -/
def rollUpSpec : ChangeSpec := { name := "rollUp", fn := fun _ => fun
  | [d1, d2, d3, d4] => { results := [.lit (.bool true)], args := [d1, d2, d3, d4] }
  | _ => none }
def rollUpRow : OpenClaim := { program := "ytakkdpfbgjccpaadoor", sum := "6456f839cb34b77c11fa1296a7d8322fe4e1fcd6f4e88648abdc101055232b55", func := "raingauge/raingaugelaw.RollUp", spec := "rollUp", inPlace := ["internal/reflectlite.ValueOf", "internal/reflectlite.Swapper", "(internal/reflectlite.Value).Len", "(internal/reflectlite.Value).Type", "(internal/reflectlite.Value).IsNil", "internal/reflectlite.TypeOf", "(internal/reflectlite.Value).Elem", "(internal/reflectlite.Value).Set"], unfollowed := true, recurses := true, named := ["errors.errorType"], apart := false, laid := [("errors.errorType", laid_errors_errorType)] }
def RollUpSaid : Prop := rollUpRow.holds Tryd.pinned (OpenSpec.ofChange rollUpSpec)

/-- ITS FALSE NEIGHBOUR: 'it returns false'. Refute it at one input. -/
def rollUpWrong : ChangeSpec := { name := "rollUp", fn := fun _ => fun
  | [d1, d2, d3, d4] => { results := [.lit (.bool false)], args := [d1, d2, d3, d4] }
  | _ => none }
def RollUpWrongFalsely : Prop := rollUpRow.holds Tryd.pinned (OpenSpec.ofChange rollUpWrong)

/- THE SECOND FORM. 'bulk': how many values and letters a reading holds, each counted each time it is reached (what is shared counts as often as it is met; a slice's spare places count too). A statement '..UptoSaid' is the law's where the arguments, and the package variables that the reading takes, are together of bulk at most 1048576: NARROWER than '..Said'. Prove '..Said' where nothing that the law and all that it calls make is longer than what came in: it says more and counts as full. Else prove '..UptoSaid'. A law counts once. -/
mutual
def uptoBulk {H : Type} : DataW H → Nat
  | .lit (.string bytes) => bytes.length + 1
  | .lit _ => 1
  | .nil => 1
  | .ptr d => uptoBulk d + 1
  | .slice elems spare => uptoBulkAll elems + uptoBulkAll spare + 1
  | .agg parts => uptoBulkAll parts + 1
  | .iface _ d => uptoBulk d + 1
  | .map entries => uptoBulkEntries entries + 1
  | .held _ => 1
def uptoBulkAll {H : Type} : List (DataW H) → Nat
  | [] => 0
  | d :: r => uptoBulk d + uptoBulkAll r
def uptoBulkEntries {H : Type} : List (Lit × DataW H) → Nat
  | [] => 0
  | x :: r => uptoBulkEntry x + uptoBulkEntries r
def uptoBulkEntry {H : Type} : Lit × DataW H → Nat
  | (.string bytes, d) => bytes.length + uptoBulk d + 1
  | (_, d) => uptoBulk d + 1
 end
def uptoSmall : (H : Type) → List (DataW H) → Bool := fun _ ds => decide (uptoBulkAll ds ≤ 1048576)
def OpenSpec.upto (s : _root_.Go.ChangeSpec) : _root_.Go.OpenSpec := { _root_.Go.OpenSpec.ofChange s with cond := some uptoSmall }

/-- 'raingaugekeep.BitsBack', WHERE WHAT IT READS IS OF BULK AT MOST 1048576: true; the input reads as it did. -/
def bitsBackUptoRow : OpenClaim := { program := "ytakkdpfbgjccpaadoor", sum := "6456f839cb34b77c11fa1296a7d8322fe4e1fcd6f4e88648abdc101055232b55", func := "raingauge/raingaugekeep.BitsBack", spec := "bitsBack", named := ["raingauge/bits.sizes"], apart := false, laid := [("raingauge/bits.sizes", laid_raingauge_bits_sizes)], narrowed := true }
def BitsBackUptoSaid : Prop := bitsBackUptoRow.holds Tryd.pinned (OpenSpec.upto bitsBackSpec)

/-- 'raingaugekeep.ChunkBack', WHERE WHAT IT READS IS OF BULK AT MOST 1048576: true; the input reads as it did. -/
def chunkBackUptoRow : OpenClaim := { program := "ytakkdpfbgjccpaadoor", sum := "6456f839cb34b77c11fa1296a7d8322fe4e1fcd6f4e88648abdc101055232b55", func := "raingauge/raingaugekeep.ChunkBack", spec := "chunkBack", named := ["raingauge/bits.sizes"], apart := false, laid := [("raingauge/bits.sizes", laid_raingauge_bits_sizes)], narrowed := true }
def ChunkBackUptoSaid : Prop := chunkBackUptoRow.holds Tryd.pinned (OpenSpec.upto chunkBackSpec)

/-- 'raingaugekeep.ChunkSmall', WHERE WHAT IT READS IS OF BULK AT MOST 1048576: true; the input reads as it did. -/
def chunkSmallUptoRow : OpenClaim := { program := "ytakkdpfbgjccpaadoor", sum := "6456f839cb34b77c11fa1296a7d8322fe4e1fcd6f4e88648abdc101055232b55", func := "raingauge/raingaugekeep.ChunkSmall", spec := "chunkSmall", named := ["raingauge/bits.sizes"], apart := false, laid := [("raingauge/bits.sizes", laid_raingauge_bits_sizes)], narrowed := true }
def ChunkSmallUptoSaid : Prop := chunkSmallUptoRow.holds Tryd.pinned (OpenSpec.upto chunkSmallSpec)

/-- 'raingaugelaw.BitsWrite', WHERE WHAT IT READS IS OF BULK AT MOST 1048576: true; the input reads as it did. -/
def bitsWriteUptoRow : OpenClaim := { program := "ytakkdpfbgjccpaadoor", sum := "6456f839cb34b77c11fa1296a7d8322fe4e1fcd6f4e88648abdc101055232b55", func := "raingauge/raingaugelaw.BitsWrite", spec := "bitsWrite", inPlace := ["internal/abi.NoEscape", "internal/bytealg.MakeNoZero"], named := ["raingauge/bits.sizes"], apart := false, laid := [("raingauge/bits.sizes", laid_raingauge_bits_sizes)], narrowed := true }
def BitsWriteUptoSaid : Prop := bitsWriteUptoRow.holds Tryd.pinned (OpenSpec.upto bitsWriteSpec)

/-- 'raingaugelaw.BitsRead', WHERE WHAT IT READS IS OF BULK AT MOST 1048576: true; the input reads as it did. -/
def bitsReadUptoRow : OpenClaim := { program := "ytakkdpfbgjccpaadoor", sum := "6456f839cb34b77c11fa1296a7d8322fe4e1fcd6f4e88648abdc101055232b55", func := "raingauge/raingaugelaw.BitsRead", spec := "bitsRead", inPlace := ["internal/abi.NoEscape", "internal/bytealg.MakeNoZero", "internal/reflectlite.ValueOf", "(internal/reflectlite.Value).Type", "(internal/reflectlite.Value).IsNil", "internal/reflectlite.TypeOf", "(internal/reflectlite.Value).Elem", "(internal/reflectlite.Value).Set"], unfollowed := true, recurses := true, named := ["raingauge/bits.sizes", "errors.errorType"], apart := false, laid := [("errors.errorType", laid_errors_errorType), ("raingauge/bits.sizes", laid_raingauge_bits_sizes)], narrowed := true }
def BitsReadUptoSaid : Prop := bitsReadUptoRow.holds Tryd.pinned (OpenSpec.upto bitsReadSpec)

/-- 'raingaugelaw.ChunkWrites', WHERE WHAT IT READS IS OF BULK AT MOST 1048576: true; the input reads as it did. -/
def chunkWritesUptoRow : OpenClaim := { program := "ytakkdpfbgjccpaadoor", sum := "6456f839cb34b77c11fa1296a7d8322fe4e1fcd6f4e88648abdc101055232b55", func := "raingauge/raingaugelaw.ChunkWrites", spec := "chunkWrites", inPlace := ["internal/abi.NoEscape", "internal/bytealg.MakeNoZero", "internal/reflectlite.ValueOf", "(internal/reflectlite.Value).Type", "(internal/reflectlite.Value).IsNil", "internal/reflectlite.TypeOf", "(internal/reflectlite.Value).Elem", "(internal/reflectlite.Value).Set"], unfollowed := true, recurses := true, named := ["raingauge/bits.sizes", "errors.errorType"], apart := false, laid := [("errors.errorType", laid_errors_errorType), ("raingauge/bits.sizes", laid_raingauge_bits_sizes)], narrowed := true }
def ChunkWritesUptoSaid : Prop := chunkWritesUptoRow.holds Tryd.pinned (OpenSpec.upto chunkWritesSpec)

/-- 'raingaugelaw.ChunkReads', WHERE WHAT IT READS IS OF BULK AT MOST 1048576: true; the input reads as it did. -/
def chunkReadsUptoRow : OpenClaim := { program := "ytakkdpfbgjccpaadoor", sum := "6456f839cb34b77c11fa1296a7d8322fe4e1fcd6f4e88648abdc101055232b55", func := "raingauge/raingaugelaw.ChunkReads", spec := "chunkReads", inPlace := ["internal/abi.NoEscape", "internal/bytealg.MakeNoZero", "internal/reflectlite.ValueOf", "(internal/reflectlite.Value).Type", "(internal/reflectlite.Value).IsNil", "internal/reflectlite.TypeOf", "(internal/reflectlite.Value).Elem", "(internal/reflectlite.Value).Set"], unfollowed := true, recurses := true, named := ["raingauge/bits.sizes", "errors.errorType"], apart := false, laid := [("errors.errorType", laid_errors_errorType), ("raingauge/bits.sizes", laid_raingauge_bits_sizes)], narrowed := true }
def ChunkReadsUptoSaid : Prop := chunkReadsUptoRow.holds Tryd.pinned (OpenSpec.upto chunkReadsSpec)

/-- 'raingaugelaw.RollUp', WHERE WHAT IT READS IS OF BULK AT MOST 1048576: true; the input reads as it did. -/
def rollUpUptoRow : OpenClaim := { program := "ytakkdpfbgjccpaadoor", sum := "6456f839cb34b77c11fa1296a7d8322fe4e1fcd6f4e88648abdc101055232b55", func := "raingauge/raingaugelaw.RollUp", spec := "rollUp", inPlace := ["internal/reflectlite.ValueOf", "internal/reflectlite.Swapper", "(internal/reflectlite.Value).Len", "(internal/reflectlite.Value).Type", "(internal/reflectlite.Value).IsNil", "internal/reflectlite.TypeOf", "(internal/reflectlite.Value).Elem", "(internal/reflectlite.Value).Set"], unfollowed := true, recurses := true, named := ["errors.errorType"], apart := false, laid := [("errors.errorType", laid_errors_errorType)], narrowed := true }
def RollUpUptoSaid : Prop := rollUpUptoRow.holds Tryd.pinned (OpenSpec.upto rollUpSpec)

end Rows
end Go.Proofs.YtakkdpfbgjccpaaDoor
