/-
  strings.Builder's WriteString and String at this program.
-/
import Derived.Test.YtbapgglhpbbonaaDoorCPg
import Derived.Test.YtbapgglhpbbonaaDoorGKi
namespace Go.Proofs.YtbapgglhpbbonaaDoor
open Go.Shelf Go.GK
def wsRen : Go.Shelf.Ren := ⟨fun | 166 => 43 | 169 => 44 | 240 => 54 | 276 => 61 | n => n, fun | 0 => 0 | 3 => 3 | 4 => 4 | 5 => 5 | 9 => 9 | 20 => 20 | 37 => 77 | 70 => 92 | 72 => 94 | 75 => 31 | 127 => 113 | 164 => 101 | 80 => 97 | n => n, fun | n => n⟩
theorem wsLays : Go.Proofs.Lays.n166 Tryd.prog wsRen := {
  mixed := by kernel_rfl
  f166 := Tryd.func43.trans (congrArg some (by kernel_rfl))
  f240 := Tryd.func54.trans (congrArg some (by kernel_rfl))
  f276 := Tryd.func61.trans (congrArg some (by kernel_rfl))
  t0 := Tryd.underlying0
  a0 := Tryd.isAgg0
  z0 := Tryd.sizeOf0
  v0 := Tryd.zeroValue0
  t3 := Tryd.underlying3
  a3 := Tryd.isAgg3
  z3 := Tryd.sizeOf3
  v3 := Tryd.zeroValue3
  t4 := Tryd.underlying4
  a4 := Tryd.isAgg4
  z4 := Tryd.sizeOf4
  v4 := Tryd.zeroValue4
  t9 := Tryd.underlying9
  a9 := Tryd.isAgg9
  z9 := Tryd.sizeOf9
  v9 := Tryd.zeroValue9
  t20 := Tryd.underlying20
  a20 := Tryd.isAgg20
  z20 := Tryd.sizeOf20
  v20 := Tryd.zeroValue20
  t37 := Tryd.underlying77
  a37 := Tryd.isAgg77
  z37 := Tryd.sizeOf77
  v37 := Tryd.zeroValue77
  t70 := Tryd.underlying92
  a70 := Tryd.isAgg92
  z70 := Tryd.sizeOf92
  v70 := Tryd.zeroValue92
  t72 := Tryd.underlying94
  a72 := Tryd.isAgg94
  z72 := Tryd.sizeOf94
  v72 := Tryd.zeroValue94
  t75 := Tryd.underlying31
  a75 := Tryd.isAgg31
  z75 := Tryd.sizeOf31
  v75 := Tryd.zeroValue31
  t164 := Tryd.underlying101
  a164 := Tryd.isAgg101
  z164 := Tryd.sizeOf101
  v164 := Tryd.zeroValue101 }
theorem stLays : Go.Proofs.Lays.n169 Tryd.prog wsRen := {
  mixed := by kernel_rfl
  f169 := Tryd.func44.trans (congrArg some (by kernel_rfl))
  t0 := Tryd.underlying0
  a0 := Tryd.isAgg0
  z0 := Tryd.sizeOf0
  v0 := Tryd.zeroValue0
  t3 := Tryd.underlying3
  a3 := Tryd.isAgg3
  z3 := Tryd.sizeOf3
  v3 := Tryd.zeroValue3
  t9 := Tryd.underlying9
  a9 := Tryd.isAgg9
  z9 := Tryd.sizeOf9
  v9 := Tryd.zeroValue9
  t37 := Tryd.underlying77
  a37 := Tryd.isAgg77
  z37 := Tryd.sizeOf77
  v37 := Tryd.zeroValue77
  t70 := Tryd.underlying92
  a70 := Tryd.isAgg92
  z70 := Tryd.sizeOf92
  v70 := Tryd.zeroValue92
  t72 := Tryd.underlying94
  a72 := Tryd.isAgg94
  z72 := Tryd.sizeOf94
  v72 := Tryd.zeroValue94
  t127 := Tryd.underlying113
  a127 := Tryd.isAgg113
  z127 := Tryd.sizeOf113
  v127 := Tryd.zeroValue113 }
theorem wsExtra : Builder.Extra Tryd.prog wsRen := {
  sizeBuilder := by kernel_rfl
  liesBuilder := by kernel_rfl
  t5 := Tryd.underlying5
  a5 := Tryd.isAgg5
  z5 := Tryd.sizeOf5
  v5 := Tryd.zeroValue5
  infoByte := by kernel_rfl
  cellsByte := by kernel_rfl
  sizeByte := by kernel_rfl
  neB5 := by decide }
/-- A builder that holds these bytes. -/
abbrev bd (s : ByteArray) (fp : List Nat) : Abs := bld 94 5 (Lib.strCells s) fp
theorem strCells_app (a b : ByteArray) : Lib.strCells (a ++ b) = Lib.strCells a ++ Lib.strCells b := by
  unfold Lib.strCells
  rw [← List.map_append]
  congr 1
theorem writeString_hf (b s : ByteArray) (fp : List Nat) (hlen : b.size + s.size ≤ 140737488355328) : Hf pg 43 1 [.p 0 0, .v (.string s)] [(0, .ab (bd b fp))] fun g σ n => g = .v (.tuple #[.int .i64 s.size, .nilIface]) ∧ (∃ fp', σ = [(0, .ab (bd (b ++ s) fp'))]) ∧ n = 1 := by
  have := bld_writeString (p := pg) wsLays wsExtra Tryd.call43 (Lib.strCells b) fp s (by rw [Lib.strCells_length]; exact hlen)
  rw [← strCells_app] at this
  exact this
theorem string_hf (b : ByteArray) (fp : List Nat) : Hf pg 44 1 [.p 0 0] [(0, .ab (bd b fp))] fun g σ n => g = .v (.string b) ∧ σ = [] ∧ n = 1 := by
  have := bld_string (p := pg) stLays wsExtra Tryd.call44 b.data.toList fp
  exact this
end Go.Proofs.YtbapgglhpbbonaaDoor
