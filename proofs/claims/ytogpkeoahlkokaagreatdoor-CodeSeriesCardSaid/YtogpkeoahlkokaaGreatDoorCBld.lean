/-
  strings.Builder's WriteString and String at this program.
-/
import Derived.Test.YtogpkeoahlkokaaGreatDoorCPg
import Derived.Test.YtogpkeoahlkokaaGreatDoorGKi
namespace Go.Proofs.YtogpkeoahlkokaaGreatDoor
open Go.Shelf Go.GK
def wsRen : Go.Shelf.Ren := ⟨fun | 166 => 13 | 169 => 18 | 240 => 33 | 276 => 53 | n => n, fun | 0 => 0 | 3 => 3 | 4 => 4 | 5 => 5 | 9 => 9 | 20 => 20 | 37 => 47 | 70 => 46 | 72 => 49 | 75 => 30 | 127 => 89 | 164 => 108 | 80 => 58 | n => n, fun | n => n⟩
theorem wsLays : Go.Proofs.Lays.n166 Tryz.prog wsRen := {
  mixed := by kernel_rfl
  f166 := Tryz.func13.trans (congrArg some (by kernel_rfl))
  f240 := Tryz.func33.trans (congrArg some (by kernel_rfl))
  f276 := Tryz.func53.trans (congrArg some (by kernel_rfl))
  t0 := Tryz.underlying0
  a0 := Tryz.isAgg0
  z0 := Tryz.sizeOf0
  v0 := Tryz.zeroValue0
  t3 := Tryz.underlying3
  a3 := Tryz.isAgg3
  z3 := Tryz.sizeOf3
  v3 := Tryz.zeroValue3
  t4 := Tryz.underlying4
  a4 := Tryz.isAgg4
  z4 := Tryz.sizeOf4
  v4 := Tryz.zeroValue4
  t9 := Tryz.underlying9
  a9 := Tryz.isAgg9
  z9 := Tryz.sizeOf9
  v9 := Tryz.zeroValue9
  t20 := Tryz.underlying20
  a20 := Tryz.isAgg20
  z20 := Tryz.sizeOf20
  v20 := Tryz.zeroValue20
  t37 := Tryz.underlying47
  a37 := Tryz.isAgg47
  z37 := Tryz.sizeOf47
  v37 := Tryz.zeroValue47
  t70 := Tryz.underlying46
  a70 := Tryz.isAgg46
  z70 := Tryz.sizeOf46
  v70 := Tryz.zeroValue46
  t72 := Tryz.underlying49
  a72 := Tryz.isAgg49
  z72 := Tryz.sizeOf49
  v72 := Tryz.zeroValue49
  t75 := Tryz.underlying30
  a75 := Tryz.isAgg30
  z75 := Tryz.sizeOf30
  v75 := Tryz.zeroValue30
  t164 := Tryz.underlying108
  a164 := Tryz.isAgg108
  z164 := Tryz.sizeOf108
  v164 := Tryz.zeroValue108 }
theorem stLays : Go.Proofs.Lays.n169 Tryz.prog wsRen := {
  mixed := by kernel_rfl
  f169 := Tryz.func18.trans (congrArg some (by kernel_rfl))
  t0 := Tryz.underlying0
  a0 := Tryz.isAgg0
  z0 := Tryz.sizeOf0
  v0 := Tryz.zeroValue0
  t3 := Tryz.underlying3
  a3 := Tryz.isAgg3
  z3 := Tryz.sizeOf3
  v3 := Tryz.zeroValue3
  t9 := Tryz.underlying9
  a9 := Tryz.isAgg9
  z9 := Tryz.sizeOf9
  v9 := Tryz.zeroValue9
  t37 := Tryz.underlying47
  a37 := Tryz.isAgg47
  z37 := Tryz.sizeOf47
  v37 := Tryz.zeroValue47
  t70 := Tryz.underlying46
  a70 := Tryz.isAgg46
  z70 := Tryz.sizeOf46
  v70 := Tryz.zeroValue46
  t72 := Tryz.underlying49
  a72 := Tryz.isAgg49
  z72 := Tryz.sizeOf49
  v72 := Tryz.zeroValue49
  t127 := Tryz.underlying89
  a127 := Tryz.isAgg89
  z127 := Tryz.sizeOf89
  v127 := Tryz.zeroValue89 }
theorem wsExtra : Builder.Extra Tryz.prog wsRen := {
  sizeBuilder := by kernel_rfl
  liesBuilder := by kernel_rfl
  t5 := Tryz.underlying5
  a5 := Tryz.isAgg5
  z5 := Tryz.sizeOf5
  v5 := Tryz.zeroValue5
  infoByte := by kernel_rfl
  cellsByte := by kernel_rfl
  sizeByte := by kernel_rfl
  neB5 := by decide }
/-- A builder that holds these bytes. -/
abbrev bd (s : ByteArray) (fp : List Nat) : Abs := bld 49 5 (Lib.strCells s) fp
theorem strCells_app (a b : ByteArray) : Lib.strCells (a ++ b) = Lib.strCells a ++ Lib.strCells b := by
  unfold Lib.strCells
  rw [← List.map_append]
  congr 1
theorem writeString_hf (b s : ByteArray) (fp : List Nat) (hlen : b.size + s.size ≤ 140737488355328) : Hf pg 13 1 [.p 0 0, .v (.string s)] [(0, .ab (bd b fp))] fun g σ n => g = .v (.tuple #[.int .i64 s.size, .nilIface]) ∧ (∃ fp', σ = [(0, .ab (bd (b ++ s) fp'))]) ∧ n = 1 := by
  have := bld_writeString (p := pg) wsLays wsExtra Tryz.call13 (Lib.strCells b) fp s (by rw [Lib.strCells_length]; exact hlen)
  rw [← strCells_app] at this
  exact this
theorem string_hf (b : ByteArray) (fp : List Nat) : Hf pg 18 1 [.p 0 0] [(0, .ab (bd b fp))] fun g σ n => g = .v (.string b) ∧ σ = [] ∧ n = 1 := by
  have := bld_string (p := pg) stLays wsExtra Tryz.call18 b.data.toList fp
  exact this
end Go.Proofs.YtogpkeoahlkokaaGreatDoor
