/-
  strings.Builder's WriteString and String at this program.
-/
import Derived.Test.YtfnomonhfndbiaaGreatDoorCPg
import Derived.Test.YtfnomonhfndbiaaGreatDoorGKh
namespace Go.Proofs.YtfnomonhfndbiaaGreatDoor
open Go.Shelf Go.GK
def wsRen : Go.Shelf.Ren := ⟨fun | 166 => 36 | 169 => 39 | 240 => 57 | 276 => 73 | n => n, fun | 0 => 0 | 3 => 3 | 4 => 4 | 5 => 5 | 9 => 9 | 20 => 20 | 37 => 55 | 70 => 79 | 72 => 81 | 75 => 30 | 127 => 110 | 164 => 132 | 80 => 60 | n => n, fun | n => n⟩
theorem wsLays : Go.Proofs.Lays.n166 Tryz.prog wsRen := {
  mixed := by kernel_rfl
  f166 := Tryz.func36.trans (congrArg some (by kernel_rfl))
  f240 := Tryz.func57.trans (congrArg some (by kernel_rfl))
  f276 := Tryz.func73.trans (congrArg some (by kernel_rfl))
  t0 := Tryz.underlying0
  a0 := Tryz.isAgg0
  z0 := Tryz.sizeOf0
  v0 := Tryz.zeroValue0
  t3 := Tryz.underlying3
  a3 := Tryz.isAgg3
  z3 := Tryz.sizeOf3
  v3 := Tryz.zeroValue3
  t4 := Tryz.underlying4
  a4 := Tryz.isAgg4
  z4 := Tryz.sizeOf4
  v4 := Tryz.zeroValue4
  t9 := Tryz.underlying9
  a9 := Tryz.isAgg9
  z9 := Tryz.sizeOf9
  v9 := Tryz.zeroValue9
  t20 := Tryz.underlying20
  a20 := Tryz.isAgg20
  z20 := Tryz.sizeOf20
  v20 := Tryz.zeroValue20
  t37 := Tryz.underlying55
  a37 := Tryz.isAgg55
  z37 := Tryz.sizeOf55
  v37 := Tryz.zeroValue55
  t70 := Tryz.underlying79
  a70 := Tryz.isAgg79
  z70 := Tryz.sizeOf79
  v70 := Tryz.zeroValue79
  t72 := Tryz.underlying81
  a72 := Tryz.isAgg81
  z72 := Tryz.sizeOf81
  v72 := Tryz.zeroValue81
  t75 := Tryz.underlying30
  a75 := Tryz.isAgg30
  z75 := Tryz.sizeOf30
  v75 := Tryz.zeroValue30
  t164 := Tryz.underlying132
  a164 := Tryz.isAgg132
  z164 := Tryz.sizeOf132
  v164 := Tryz.zeroValue132 }
theorem stLays : Go.Proofs.Lays.n169 Tryz.prog wsRen := {
  mixed := by kernel_rfl
  f169 := Tryz.func39.trans (congrArg some (by kernel_rfl))
  t0 := Tryz.underlying0
  a0 := Tryz.isAgg0
  z0 := Tryz.sizeOf0
  v0 := Tryz.zeroValue0
  t3 := Tryz.underlying3
  a3 := Tryz.isAgg3
  z3 := Tryz.sizeOf3
  v3 := Tryz.zeroValue3
  t9 := Tryz.underlying9
  a9 := Tryz.isAgg9
  z9 := Tryz.sizeOf9
  v9 := Tryz.zeroValue9
  t37 := Tryz.underlying55
  a37 := Tryz.isAgg55
  z37 := Tryz.sizeOf55
  v37 := Tryz.zeroValue55
  t70 := Tryz.underlying79
  a70 := Tryz.isAgg79
  z70 := Tryz.sizeOf79
  v70 := Tryz.zeroValue79
  t72 := Tryz.underlying81
  a72 := Tryz.isAgg81
  z72 := Tryz.sizeOf81
  v72 := Tryz.zeroValue81
  t127 := Tryz.underlying110
  a127 := Tryz.isAgg110
  z127 := Tryz.sizeOf110
  v127 := Tryz.zeroValue110 }
theorem wsExtra : Builder.Extra Tryz.prog wsRen := {
  sizeBuilder := by kernel_rfl
  liesBuilder := by kernel_rfl
  t5 := Tryz.underlying5
  a5 := Tryz.isAgg5
  z5 := Tryz.sizeOf5
  v5 := Tryz.zeroValue5
  infoByte := by kernel_rfl
  cellsByte := by kernel_rfl
  sizeByte := by kernel_rfl
  neB5 := by decide }
/-- A builder that holds these bytes. -/
abbrev bd (s : ByteArray) (fp : List Nat) : Abs := bld 81 5 (Lib.strCells s) fp
theorem strCells_app (a b : ByteArray) : Lib.strCells (a ++ b) = Lib.strCells a ++ Lib.strCells b := by
  unfold Lib.strCells
  rw [← List.map_append]
  congr 1
theorem writeString_hf (b s : ByteArray) (fp : List Nat) (hlen : b.size + s.size ≤ 140737488355328) : Hf pg 36 1 [.p 0 0, .v (.string s)] [(0, .ab (bd b fp))] fun g σ n => g = .v (.tuple #[.int .i64 s.size, .nilIface]) ∧ (∃ fp', σ = [(0, .ab (bd (b ++ s) fp'))]) ∧ n = 1 := by
  have := bld_writeString (p := pg) wsLays wsExtra Tryz.call36 (Lib.strCells b) fp s (by rw [Lib.strCells_length]; exact hlen)
  rw [← strCells_app] at this
  exact this
theorem string_hf (b : ByteArray) (fp : List Nat) : Hf pg 39 1 [.p 0 0] [(0, .ab (bd b fp))] fun g σ n => g = .v (.string b) ∧ σ = [] ∧ n = 1 := by
  have := bld_string (p := pg) stLays wsExtra Tryz.call39 b.data.toList fp
  exact this
end Go.Proofs.YtfnomonhfndbiaaGreatDoor
