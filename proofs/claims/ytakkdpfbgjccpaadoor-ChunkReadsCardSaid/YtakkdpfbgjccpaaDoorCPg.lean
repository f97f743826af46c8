/-
  The program of this seat, and its types, as the ghost machine takes them.
-/
import Derived.Test.YtakkdpfbgjccpaaDoorGK12
import Derived.Test.YtakkdpfbgjccpaaDoorGK13
import Derived.Test.YtakkdpfbgjccpaaDoorGK9
import Derived.Test.YtakkdpfbgjccpaaDoorGK16
import Derived.Test.YtakkdpfbgjccpaaDoorProg
import Derived.KernelRfl
namespace Go.Proofs.YtakkdpfbgjccpaaDoor
open Go.GK
def tyTab : TT := [
  (2, ⟨1, 8, false, [.int .i64 0], .int .i64, none⟩),
  (3, ⟨1, 8, false, [.int .i64 0], .int .i64, none⟩),
  (4, ⟨1, 1, false, [.bool false], .bool, none⟩),
  (5, ⟨1, 1, false, [.int .u8 0], .int .u8, none⟩),
  (6, ⟨1, 1, false, [.int .u8 0], .int .u8, none⟩),
  (9, ⟨1, 16, false, [.string .empty], .str, none⟩),
  (12, ⟨1, 8, false, [.int .u64 0], .int .u64, none⟩),
  (13, ⟨2, 24, true, [.string .empty, .int .u64 0], .struct [(0, 1, false), (1, 1, false)], none⟩),
  (20, ⟨1, 16, false, [.nilIface], .iface false, none⟩),
  (21, ⟨1, 4, false, [.int .i32 0], .int .i32, none⟩),
  (22, ⟨1, 24, false, [.slice none 0 0], .slice 2, none⟩),
  (24, ⟨1, 8, false, [.pointer none], .ptr, none⟩),
  (25, ⟨1, 24, false, [.slice none 0 0], .slice 5, none⟩),
  (26, ⟨2, 32, true, [.slice none 0 0, .int .i64 0], .struct [(0, 1, false), (1, 1, false)], none⟩),
  (27, ⟨2, 32, true, [.slice none 0 0, .int .i64 0], .struct [(0, 1, false), (1, 1, false)], none⟩),
  (31, ⟨1, 8, false, [.int .u64 0], .int .u64, none⟩),
  (33, ⟨1, 8, false, [.pointer none], .ptr, none⟩),
  (36, ⟨1, 16, false, [.nilIface], .iface true, none⟩),
  (37, ⟨1, 16, false, [.nilIface], .iface true, none⟩),
  (43, ⟨1, 24, false, [.slice none 0 0], .slice 53, none⟩),
  (52, ⟨2, 16, true, [.int .i64 0, .int .i64 0], .struct [(0, 1, false), (1, 1, false)], none⟩),
  (53, ⟨2, 16, true, [.int .i64 0, .int .i64 0], .struct [(0, 1, false), (1, 1, false)], some [.int, .int]⟩),
  (55, ⟨1, 24, false, [.slice none 0 0], .slice 58, none⟩),
  (56, ⟨1, 16, false, [.string .empty], .str, none⟩),
  (57, ⟨2, 16, true, [.int .i64 0, .int .i64 0], .struct [(0, 1, false), (1, 1, false)], none⟩),
  (58, ⟨2, 16, true, [.int .i64 0, .int .i64 0], .struct [(0, 1, false), (1, 1, false)], some [.int, .int]⟩),
  (65, ⟨1, 24, false, [.slice none 0 0], .slice 3, none⟩),
  (70, ⟨1, 8, false, [.int .i64 0], .int .i64, none⟩),
  (78, ⟨1, 24, false, [.slice none 0 0], .slice 107, none⟩),
  (89, ⟨7, 56, true, [.int .i64 0, .int .i64 0, .int .i64 0, .int .i64 0, .int .i64 0, .int .i64 0, .int .i64 0], .array 7 3, none⟩),
  (90, ⟨1, 8, false, [.int .u64 0], .int .u64, none⟩),
  (91, ⟨2, 24, true, [.string .empty, .int .i64 0], .struct [(0, 1, false), (1, 1, false)], none⟩),
  (92, ⟨2, 24, true, [.string .empty, .int .i64 0], .struct [(0, 1, false), (1, 1, false)], some [.str, .int]⟩),
  (95, ⟨1, 8, false, [.pointer none], .ptr, none⟩),
  (96, ⟨2, 32, true, [.pointer none, .slice none 0 0], .struct [(0, 1, false), (1, 1, false)], none⟩),
  (97, ⟨2, 32, true, [.pointer none, .slice none 0 0], .struct [(0, 1, false), (1, 1, false)], none⟩),
  (100, ⟨2, 16, true, [.int .i64 0, .int .i64 0], .struct [(0, 1, false), (1, 1, false)], none⟩),
  (101, ⟨2, 16, true, [.int .i64 0, .int .i64 0], .struct [(0, 1, false), (1, 1, false)], some [.int, .int]⟩),
  (106, ⟨5, 40, true, [.int .i64 0, .int .i64 0, .int .i64 0, .int .i64 0, .int .i64 0], .struct [(0, 1, false), (1, 1, false), (2, 1, false), (3, 1, false), (4, 1, false)], none⟩),
  (107, ⟨5, 40, true, [.int .i64 0, .int .i64 0, .int .i64 0, .int .i64 0, .int .i64 0], .struct [(0, 1, false), (1, 1, false), (2, 1, false), (3, 1, false), (4, 1, false)], some [.int, .int, .int, .int, .int]⟩),
  (109, ⟨1, 8, false, [.map none], .other, none⟩),
  (120, ⟨1, 8, false, [.pointer none], .ptr, none⟩),
  (125, ⟨1, 8, false, [.int .u64 0], .int .u64, none⟩),
  (133, ⟨2, 16, true, [.nilFunc, .nilFunc], .struct [(0, 1, false), (1, 1, false)], none⟩),
  (134, ⟨2, 16, true, [.nilFunc, .nilFunc], .struct [(0, 1, false), (1, 1, false)], none⟩),
  (135, ⟨1, 4, false, [.int .u32 0], .int .u32, none⟩),
  (142, ⟨1, 8, false, [.pointer none], .ptr, none⟩),
  (144, ⟨2, 16, true, [.int .i64 0, .int .i64 0], .struct [(0, 1, false), (1, 1, false)], some [.int, .int]⟩),
  (145, ⟨1, 16, false, [.nilIface], .iface true, none⟩),
  (154, ⟨1, 8, false, [.int .i64 0], .int .i64, none⟩),
  (163, ⟨1, 8, false, [.pointer none], .ptr, none⟩),
  (164, ⟨1, 8, false, [.int .u64 0], .int .u64, none⟩),
  (168, ⟨1, 8, false, [.pointer none], .ptr, none⟩),
  (173, ⟨1, 1, false, [.int .u8 0], .int .u8, none⟩),
  (177, ⟨1, 8, false, [.pointer none], .ptr, none⟩),
  (183, ⟨1, 16, false, [.nilIface], .iface true, none⟩),
  (186, ⟨1, 16, false, [.nilIface], .iface true, none⟩),
  (187, ⟨1, 24, false, [.slice none 0 0], .slice 37, none⟩),
  (195, ⟨1, 1, false, [.int .u8 0], .int .u8, none⟩),
  (197, ⟨1, 4, false, [.int .i32 0], .int .i32, none⟩),
  (198, ⟨1, 4, false, [.int .i32 0], .int .i32, none⟩),
  (207, ⟨1, 2, false, [.int .u16 0], .int .u16, none⟩),
  (211, ⟨1, 4, false, [.int .i32 0], .int .i32, none⟩),
  (214, ⟨1, 8, false, [.pointer none], .ptr, none⟩)]


def gl : Env := [(0, .r ([0, 4, 7, 12, 20, 32, 64].map fun x => .v (.int .i64 x))), (2, .r [.v (.iface 149 (.agg #[.pointer (some ⟨3, 37, none⟩)]))])]
noncomputable def pg : Pg := ⟨Tryd.prog, tyTab, gl⟩
theorem pg_ok : pg.Ok := Pg.ok_of (by kernel_rfl) (by kernel_rfl)
abbrev gi (x : Int) : GV := .v (.int .i64 x)
theorem wrap_id {x : Int} (h : -9223372036854775808 ≤ x) (h' : x ≤ 9223372036854775807) : IntKind.i64.wrap x = x := by rw [IntKind.wrap_i64]; omega
theorem succ_gi {i : Nat} (h : i < 4611686018427387904) : some (gi (IntKind.i64.wrap (i + 1 : Int))) = some (gi ((i + 1 : Nat) : Int)) := by
  rw [wrap_id (by omega) (by omega)]
  rfl
theorem tail_map {α : Type} (z : Nat) (f : α → List GV) (y : α) (l : List α) : some (GV.sl z ((((y :: l).map f).take (((y :: l).map f).length : Int).toNat).drop (1 : Int).toNat)) = some (GV.sl z (l.map f)) := by
  simp only [Int.toNat_natCast, List.take_length]
  rfl
theorem idx {α : Type} {f : α → List GV} {l : List α} {i : Int} {K : List GV → Prop} (k : Nat) (hi : i = k) (hk : k < l.length) (h : K (f l[k])) : ∃ row, 0 ≤ i ∧ (l.map f)[i.toNat]? = some row ∧ K row := by
  subst hi
  exact ⟨f l[k], by omega, by simp [hk], h⟩
theorem cut_lo {α : Type} (f : α → List GV) (l : List α) (k : Nat) : ((l.map f).take (k : Int).toNat).drop (0 : Int).toNat = (l.take k).map f := by simp
theorem cut_hi {α : Type} (f : α → List GV) (l : List α) (k : Nat) : ((l.map f).take ((l.map f).length : Int).toNat).drop (k : Int).toNat = (l.drop k).map f := by
  simp only [Int.toNat_natCast, List.take_length]
  simp
theorem ons_mk {x : Option GV} {g : GV} {K : GV → Prop} (h : x = some g) (k : K g) : ons x K := by subst h; exact k
/-- Two own things of a callee, in the caller. -/
def rr (a b : Nat) : Nat → Nat := fun i => bif Nat.beq i 0 then a else b
theorem rr_lt {a b n : Nat} (ha : Nat.blt a n = true) (hb : Nat.blt b n = true) : ∀ i, i < 2 → rr a b i < n := fun i _ => by
  rw [Nat.blt_eq] at ha hb
  unfold rr
  cases Nat.beq i 0 <;> assumption
/-- One own thing that changes its number. -/
def r1 (a b : Nat) : Nat → Nat := fun i => bif Nat.beq i a then b else i
theorem pos {c : Bool} {A B : Prop} (h : c = true) (k : A) : (c = true → A) ∧ (c = false → B) := ⟨fun _ => k, fun e => absurd (h.symm.trans e) (by decide)⟩
theorem neg {c : Bool} {A B : Prop} (h : c = false) (k : B) : (c = true → A) ∧ (c = false → B) := ⟨fun e => absurd (h.symm.trans e) (by decide), fun _ => k⟩
theorem pos' {c : Bool} {A B : Prop} (h : c = true) (k : B) : (c = false → A) ∧ (c = true → B) := ⟨fun e => absurd (h.symm.trans e) (by decide), fun _ => k⟩
theorem neg' {c : Bool} {A B : Prop} (h : c = false) (k : A) : (c = false → A) ∧ (c = true → B) := ⟨fun _ => k, fun e => absurd (h.symm.trans e) (by decide)⟩
end Go.Proofs.YtakkdpfbgjccpaaDoor
