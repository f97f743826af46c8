/-
  What the row of this seat lists, as the walk reads it; the world that holds it.
-/
import Derived.Test.YtkoalgjlkcaonaaGreatDoorK06
import Derived.Test.YtkoalgjlkcaonaaGreatDoorK11
import Derived.Test.YtkoalgjlkcaonaaGreatDoorRows
import Derived.ProofKit
import Derived.LaidMore
import Derived.LaidLaws
import Derived.LaidHandle
import Derived.LaidSub
import Derived.Lay
import Derived.ChangeSame
import Derived.OpenShut
import Derived.Stop.Joined
set_option linter.unusedSimpArgs false
namespace Go.Proofs.YtkoalgjlkcaonaaGreatDoor
open Go.GK Go.ChangeShapes Go.WideShapes Go.RowKit

abbrev rowLaid : List (String × DataW Unit) := [("math/bits.deBruijn32tab", Rows.laid_math_bits_deBruijn32tab), ("math/bits.deBruijn64tab", Rows.laid_math_bits_deBruijn64tab), ("internal/strconv.uint64pow10", Rows.laid_internal_strconv_uint64pow10), ("unicode/utf8.acceptRanges", Rows.laid_unicode_utf8_acceptRanges), ("strconv.ErrRange", Rows.laid_strconv_ErrRange), ("strconv.ErrSyntax", Rows.laid_strconv_ErrSyntax), ("raingauge/ask.marks", Rows.laid_raingauge_ask_marks), ("raingauge/ask.ops", Rows.laid_raingauge_ask_ops), ("raingauge/ask.overs", Rows.laid_raingauge_ask_overs), ("raingauge/ask.alls", Rows.laid_raingauge_ask_alls), ("unicode/utf8.first", Rows.laid_unicode_utf8_first)]
abbrev plainLaid : List (String × DataW Unit) := [("math/bits.deBruijn32tab", Rows.laid_math_bits_deBruijn32tab), ("math/bits.deBruijn64tab", Rows.laid_math_bits_deBruijn64tab), ("internal/strconv.uint64pow10", Rows.laid_internal_strconv_uint64pow10), ("unicode/utf8.acceptRanges", Rows.laid_unicode_utf8_acceptRanges), ("strconv.ErrRange", Rows.laid_strconv_ErrRange), ("strconv.ErrSyntax", Rows.laid_strconv_ErrSyntax), ("raingauge/ask.marks", Rows.laid_raingauge_ask_marks), ("raingauge/ask.ops", Rows.laid_raingauge_ask_ops), ("raingauge/ask.overs", Rows.laid_raingauge_ask_overs), ("raingauge/ask.alls", Rows.laid_raingauge_ask_alls), ("unicode/utf8.first", Rows.laid_unicode_utf8_first)]
theorem own : ownKnob Tryz.prog.godebug = none := by kernel_rfl
theorem laidOut : laidOutB Tryz.prog = true := by kernel_rfl
theorem star_err : "*" ++ "errors.errorString" = "*errors.errorString" := by decide
theorem row_err (u : TypeId) (h : Tryz.prog.typeName? 3 u = some "*errors.errorString") : u = 242 :=
  typeName_ptr_named (nm := "errors.errorString") (by rw [star_err]; kernel_rfl) (by kernel_rfl) (by decide) u (by rw [star_err]; exact h)
theorem v_raingauge_ask_marks {W : World} (h : laidMet Tryz.prog [("raingauge/ask.marks", Rows.laid_raingauge_ask_marks)] W) : VarOk W 1 (.r [.v (.string ⟨#[33, 61]⟩), .v (.string ⟨#[94, 61]⟩), .v (.string ⟨#[33, 94]⟩), .v (.string ⟨#[61]⟩), .v (.string ⟨#[123]⟩), .v (.string ⟨#[125]⟩), .v (.string ⟨#[91]⟩), .v (.string ⟨#[93]⟩), .v (.string ⟨#[40]⟩), .v (.string ⟨#[41]⟩), .v (.string ⟨#[44]⟩), .v (.string ⟨#[43]⟩), .v (.string ⟨#[45]⟩), .v (.string ⟨#[42]⟩), .v (.string ⟨#[47]⟩)]) :=
  VarOk.strs (t := 127) (e := 9) (n := "raingauge/ask.marks") (zs := [[33, 61], [94, 61], [33, 94], [61], [123], [125], [91], [93], [40], [41], [44], [43], [45], [42], [47]]) h (by kernel_rfl) (by kernel_rfl) (by kernel_rfl) (by kernel_rfl) (by kernel_rfl) (by kernel_rfl)
theorem v_raingauge_ask_ops {W : World} (h : laidMet Tryz.prog [("raingauge/ask.ops", Rows.laid_raingauge_ask_ops)] W) : VarOk W 2 (.r [.v (.string ⟨#[61]⟩), .v (.string ⟨#[33, 61]⟩), .v (.string ⟨#[94, 61]⟩), .v (.string ⟨#[33, 94]⟩)]) :=
  VarOk.strs (t := 137) (e := 9) (n := "raingauge/ask.ops") (zs := [[61], [33, 61], [94, 61], [33, 94]]) h (by kernel_rfl) (by kernel_rfl) (by kernel_rfl) (by kernel_rfl) (by kernel_rfl) (by kernel_rfl)
theorem v_raingauge_ask_overs {W : World} (h : laidMet Tryz.prog [("raingauge/ask.overs", Rows.laid_raingauge_ask_overs)] W) : VarOk W 4 (.r [.v (.string ⟨#[99, 111, 117, 110, 116]⟩), .v (.string ⟨#[115, 117, 109]⟩), .v (.string ⟨#[109, 105, 110]⟩), .v (.string ⟨#[109, 97, 120]⟩), .v (.string ⟨#[100, 101, 108, 116, 97]⟩)]) :=
  VarOk.strs (t := 192) (e := 9) (n := "raingauge/ask.overs") (zs := [[99, 111, 117, 110, 116], [115, 117, 109], [109, 105, 110], [109, 97, 120], [100, 101, 108, 116, 97]]) h (by kernel_rfl) (by kernel_rfl) (by kernel_rfl) (by kernel_rfl) (by kernel_rfl) (by kernel_rfl)
theorem v_raingauge_ask_alls {W : World} (h : laidMet Tryz.prog [("raingauge/ask.alls", Rows.laid_raingauge_ask_alls)] W) : VarOk W 5 (.r [.v (.string ⟨#[116, 111, 116, 97, 108]⟩), .v (.string ⟨#[108, 101, 97, 115, 116]⟩), .v (.string ⟨#[109, 111, 115, 116]⟩), .v (.string ⟨#[109, 97, 110, 121]⟩)]) :=
  VarOk.strs (t := 137) (e := 9) (n := "raingauge/ask.alls") (zs := [[116, 111, 116, 97, 108], [108, 101, 97, 115, 116], [109, 111, 115, 116], [109, 97, 110, 121]]) h (by kernel_rfl) (by kernel_rfl) (by kernel_rfl) (by kernel_rfl) (by kernel_rfl) (by kernel_rfl)
theorem v_strconv_ErrRange {W : World} (h : laidMet Tryz.prog [("strconv.ErrRange", Rows.laid_strconv_ErrRange)] W) : VarOk W 10 (.r [.ifc 242 (.r [.v (.string ⟨#[118, 97, 108, 117, 101, 32, 111, 117, 116, 32, 111, 102, 32, 114, 97, 110, 103, 101]⟩)])]) :=
  VarOk.err (t := 42) (n := "strconv.ErrRange") (text := [118, 97, 108, 117, 101, 32, 111, 117, 116, 32, 111, 102, 32, 114, 97, 110, 103, 101]) h (by kernel_rfl) (by kernel_rfl) Tryz.underlying42 row_err Tryz.underlying242 Tryz.underlying244 rfl rfl Tryz.underlying9 (by kernel_rfl) (by kernel_rfl)
theorem v_strconv_ErrSyntax {W : World} (h : laidMet Tryz.prog [("strconv.ErrSyntax", Rows.laid_strconv_ErrSyntax)] W) : VarOk W 9 (.r [.ifc 242 (.r [.v (.string ⟨#[105, 110, 118, 97, 108, 105, 100, 32, 115, 121, 110, 116, 97, 120]⟩)])]) :=
  VarOk.err (t := 42) (n := "strconv.ErrSyntax") (text := [105, 110, 118, 97, 108, 105, 100, 32, 115, 121, 110, 116, 97, 120]) h (by kernel_rfl) (by kernel_rfl) Tryz.underlying42 row_err Tryz.underlying242 Tryz.underlying244 rfl rfl Tryz.underlying9 (by kernel_rfl) (by kernel_rfl)
theorem v_internal_strconv_uint64pow10 {W : World} (h : laidMet Tryz.prog [("internal/strconv.uint64pow10", Rows.laid_internal_strconv_uint64pow10)] W) : VarOk W 11 (.r [.v (.int .u64 1), .v (.int .u64 10), .v (.int .u64 100), .v (.int .u64 1000), .v (.int .u64 10000), .v (.int .u64 100000), .v (.int .u64 1000000), .v (.int .u64 10000000), .v (.int .u64 100000000), .v (.int .u64 1000000000), .v (.int .u64 10000000000), .v (.int .u64 100000000000), .v (.int .u64 1000000000000), .v (.int .u64 10000000000000), .v (.int .u64 100000000000000), .v (.int .u64 1000000000000000), .v (.int .u64 10000000000000000), .v (.int .u64 100000000000000000), .v (.int .u64 1000000000000000000), .v (.int .u64 10000000000000000000)]) :=
  VarOk.ints (t := 252) (e := 153) (n := "internal/strconv.uint64pow10") (k := .u64) (zs := [1, 10, 100, 1000, 10000, 100000, 1000000, 10000000, 100000000, 1000000000, 10000000000, 100000000000, 1000000000000, 10000000000000, 100000000000000, 1000000000000000, 10000000000000000, 100000000000000000, 1000000000000000000, 10000000000000000000]) h (by kernel_rfl) (by kernel_rfl) (by kernel_rfl) (by kernel_rfl) (by kernel_rfl) (by kernel_rfl)
theorem gl_okH {W : World} (hL : laidMetH Tryz.prog rowLaid W) : ∀ H : Hid, H.ro = roOf W → GlOk pg H := by
  rw [MakeChecks.laidMetH_plain _ _ _ (by kernel_rfl)] at hL
  have h := hL
  refine GlOk.of_vars ?_
  show ∀ x ∈ gl, VarOk W x.1 x.2
  unfold gl
  refine List.forall_mem_cons.2 ⟨v_raingauge_ask_marks (h.filter fun x => x.1 == "raingauge/ask.marks"), ?_⟩
  refine List.forall_mem_cons.2 ⟨v_raingauge_ask_ops (h.filter fun x => x.1 == "raingauge/ask.ops"), ?_⟩
  refine List.forall_mem_cons.2 ⟨v_raingauge_ask_overs (h.filter fun x => x.1 == "raingauge/ask.overs"), ?_⟩
  refine List.forall_mem_cons.2 ⟨v_raingauge_ask_alls (h.filter fun x => x.1 == "raingauge/ask.alls"), ?_⟩
  refine List.forall_mem_cons.2 ⟨v_strconv_ErrRange (h.filter fun x => x.1 == "strconv.ErrRange"), ?_⟩
  refine List.forall_mem_cons.2 ⟨v_strconv_ErrSyntax (h.filter fun x => x.1 == "strconv.ErrSyntax"), ?_⟩
  refine List.forall_mem_cons.2 ⟨v_internal_strconv_uint64pow10 (h.filter fun x => x.1 == "internal/strconv.uint64pow10"), ?_⟩
  exact fun x hx => by cases hx
noncomputable def wit (os : Os) : World := (World.doorLaid Tryz.prog 400 os).layVars Tryz.prog plainLaid
theorem wit_os (os : Os) : (wit os).os = os := World.layVars_os _ _ _
theorem wit_fits (os : Os) : (World.doorLaid Tryz.prog 400 os).layFits Tryz.prog plainLaid [] = true := by kernel_rfl
theorem wit_ifaces (os : Os) : (World.doorLaid Tryz.prog 400 os).layIfaces Tryz.prog plainLaid (wit os) = true := by kernel_rfl
theorem wit_handle (os : Os) (args : Array Value) : (rowLaid.filter fun x => x.2.handleName?.isSome).all (handleAtB Tryz.prog ((wit os).forCall (fun _ _ => 0) ⟨#[], args, []⟩).memory) = true := by kernel_rfl
theorem wit_shaped (os : Os) (args : Array Value) : ((wit os).forCall (fun _ _ => 0) ⟨#[], args, []⟩).Shaped Tryz.prog := World.shaped_of_ZipB (by kernel_rfl) (by kernel_rfl)
theorem wit_met (os : Os) (args : Array Value) : laidMetH Tryz.prog rowLaid ((wit os).forCall (fun _ _ => 0) ⟨#[], args, []⟩).memory := by
  have e1 : (plainLaid.filter fun x => (plainLaid.map (·.1)).contains x.1) = plainLaid := List.filter_eq_self.2 fun x hx => List.contains_iff_mem.2 (List.mem_map.2 ⟨x, hx, rfl⟩)
  have e2 : (plainLaid.filter fun x => !(plainLaid.map (·.1)).contains x.1) = [] := List.filter_eq_nil_iff.2 fun x hx => by rw [List.contains_iff_mem.2 (List.mem_map.2 ⟨x, hx, rfl⟩)]; simp
  have h : laidMet Tryz.prog plainLaid (wit os) := laidMet_layVars (w0 := World.doorLaid Tryz.prog 400 os) (plainLaid.map (·.1)) [] (by rw [e1]; rfl) (by rw [e1]; exact wit_fits os) (by rw [e1]; exact wit_ifaces os) (by rw [e2]; exact LaidIn.none)
  have h' : laidMet Tryz.prog plainLaid ((wit os).forCall (fun _ _ => 0) ⟨#[], args, []⟩).memory := h.of_heap (by simp [World.memory, World.forCall, Input.heap])
  exact laidMetH_of_parts h' (wit_handle os args)
end Go.Proofs.YtkoalgjlkcaonaaGreatDoor
