/-
  The program of this seat, and its types, as the ghost machine takes them.
-/
import Derived.Test.YtakkdpfbgjccpaaGK12
import Derived.Test.YtakkdpfbgjccpaaGK13
import Derived.Test.YtakkdpfbgjccpaaGK9
import Derived.Test.YtakkdpfbgjccpaaProg
import Derived.KernelRfl
namespace Go.Proofs.Ytakkdpfbgjccpaa
open Go.GK
def tyTab : TT := [
  (2, ⟨1, 8, false, [.int .i64 0], .int .i64, none⟩),
  (3, ⟨1, 8, false, [.int .i64 0], .int .i64, none⟩),
  (4, ⟨1, 1, false, [.bool false], .bool, none⟩),
  (5, ⟨1, 1, false, [.int .u8 0], .int .u8, none⟩),
  (6, ⟨1, 1, false, [.int .u8 0], .int .u8, none⟩),
  (9, ⟨1, 16, false, [.string .empty], .str, none⟩),
  (12, ⟨1, 8, false, [.int .u64 0], .int .u64, none⟩),
  (13, ⟨2, 24, true, [.string .empty, .int .u64 0], .struct [(0, 1, false), (1, 1, false)], none⟩),
  (20, ⟨1, 16, false, [.nilIface], .iface false, none⟩),
  (21, ⟨1, 4, false, [.int .i32 0], .int .i32, none⟩),
  (22, ⟨1, 24, false, [.slice none 0 0], .slice 37, none⟩),
  (25, ⟨1, 24, false, [.slice none 0 0], .slice 35, none⟩),
  (26, ⟨1, 16, false, [.nilIface], .iface true, none⟩),
  (27, ⟨1, 16, false, [.nilIface], .iface true, none⟩),
  (34, ⟨5, 40, true, [.int .i64 0, .int .i64 0, .int .i64 0, .int .i64 0, .int .i64 0], .struct [(0, 1, false), (1, 1, false), (2, 1, false), (3, 1, false), (4, 1, false)], none⟩),
  (35, ⟨5, 40, true, [.int .i64 0, .int .i64 0, .int .i64 0, .int .i64 0, .int .i64 0], .struct [(0, 1, false), (1, 1, false), (2, 1, false), (3, 1, false), (4, 1, false)], some [.int, .int, .int, .int, .int]⟩),
  (36, ⟨2, 16, true, [.int .i64 0, .int .i64 0], .struct [(0, 1, false), (1, 1, false)], none⟩),
  (37, ⟨2, 16, true, [.int .i64 0, .int .i64 0], .struct [(0, 1, false), (1, 1, false)], some [.int, .int]⟩),
  (44, ⟨1, 8, false, [.int .i64 0], .int .i64, none⟩),
  (48, ⟨1, 8, false, [.int .u64 0], .int .u64, none⟩),
  (50, ⟨1, 8, false, [.map none], .other, none⟩),
  (55, ⟨1, 8, false, [.int .u64 0], .int .u64, none⟩),
  (64, ⟨2, 16, true, [.nilFunc, .nilFunc], .struct [(0, 1, false), (1, 1, false)], none⟩),
  (65, ⟨2, 16, true, [.nilFunc, .nilFunc], .struct [(0, 1, false), (1, 1, false)], none⟩),
  (70, ⟨1, 4, false, [.int .u32 0], .int .u32, none⟩),
  (72, ⟨1, 8, false, [.int .u64 0], .int .u64, none⟩),
  (74, ⟨1, 8, false, [.int .i64 0], .int .i64, none⟩),
  (81, ⟨1, 8, false, [.int .u64 0], .int .u64, none⟩),
  (85, ⟨1, 8, false, [.pointer none], .ptr, none⟩),
  (87, ⟨1, 8, false, [.pointer none], .ptr, none⟩),
  (96, ⟨1, 1, false, [.int .u8 0], .int .u8, none⟩),
  (97, ⟨1, 1, false, [.int .u8 0], .int .u8, none⟩),
  (99, ⟨1, 8, false, [.pointer none], .ptr, none⟩),
  (100, ⟨1, 4, false, [.int .i32 0], .int .i32, none⟩),
  (101, ⟨1, 4, false, [.int .i32 0], .int .i32, none⟩)]


noncomputable def pg : Pg := ⟨Try.prog, tyTab, []⟩
theorem pg_ok : pg.Ok := Pg.ok_of (by kernel_rfl) (by kernel_rfl)
abbrev gi (x : Int) : GV := .v (.int .i64 x)
theorem wrap_id {x : Int} (h : -9223372036854775808 ≤ x) (h' : x ≤ 9223372036854775807) : IntKind.i64.wrap x = x := by rw [IntKind.wrap_i64]; omega
theorem succ_gi {i : Nat} (h : i < 4611686018427387904) : some (gi (IntKind.i64.wrap (i + 1 : Int))) = some (gi ((i + 1 : Nat) : Int)) := by
  rw [wrap_id (by omega) (by omega)]
  rfl
theorem tail_map {α : Type} (z : Nat) (f : α → List GV) (y : α) (l : List α) : some (GV.sl z ((((y :: l).map f).take (((y :: l).map f).length : Int).toNat).drop (1 : Int).toNat)) = some (GV.sl z (l.map f)) := by
  simp only [Int.toNat_natCast, List.take_length]
  rfl
theorem idx {α : Type} {f : α → List GV} {l : List α} {i : Int} {K : List GV → Prop} (k : Nat) (hi : i = k) (hk : k < l.length) (h : K (f l[k])) : ∃ row, 0 ≤ i ∧ (l.map f)[i.toNat]? = some row ∧ K row := by
  subst hi
  exact ⟨f l[k], by omega, by simp [hk], h⟩
theorem cut_lo {α : Type} (f : α → List GV) (l : List α) (k : Nat) : ((l.map f).take (k : Int).toNat).drop (0 : Int).toNat = (l.take k).map f := by simp
theorem cut_hi {α : Type} (f : α → List GV) (l : List α) (k : Nat) : ((l.map f).take ((l.map f).length : Int).toNat).drop (k : Int).toNat = (l.drop k).map f := by
  simp only [Int.toNat_natCast, List.take_length]
  simp
theorem pos {c : Bool} {A B : Prop} (h : c = true) (k : A) : (c = true → A) ∧ (c = false → B) := ⟨fun _ => k, fun e => absurd (h.symm.trans e) (by decide)⟩
theorem neg {c : Bool} {A B : Prop} (h : c = false) (k : B) : (c = true → A) ∧ (c = false → B) := ⟨fun e => absurd (h.symm.trans e) (by decide), fun _ => k⟩
theorem pos' {c : Bool} {A B : Prop} (h : c = true) (k : B) : (c = false → A) ∧ (c = true → B) := ⟨fun e => absurd (h.symm.trans e) (by decide), fun _ => k⟩
theorem neg' {c : Bool} {A B : Prop} (h : c = false) (k : A) : (c = false → A) ∧ (c = true → B) := ⟨fun _ => k, fun e => absurd (h.symm.trans e) (by decide)⟩
end Go.Proofs.Ytakkdpfbgjccpaa
