/-
  Contracts: errors told apart (errors.As, api.Tell, plain.Place, raingaugelaw.is, bare): no error, or an Errno.
-/
import Derived.Test.YtogpkeoahlkokaaDoorCEr
import Derived.Test.YtogpkeoahlkokaaDoorGKg
import Derived.Test.YtogpkeoahlkokaaDoorCPg
import Derived.Stop.Asserts
namespace Go.Proofs.YtogpkeoahlkokaaDoor
open Go.GK Go.RowKit
set_option maxRecDepth 100000
theorem below4 (w : World) (a b c d : Obj) : Below w.heap.size w ((((w.alloc a).alloc b).alloc c).alloc d) := by
  have h : ∀ (w : World) (o : Obj), w.heap.size ≤ (w.alloc o).heap.size := fun w o => by show _ ≤ (w.heap.push o).size; simp
  have h1 := h w a
  have h2 := h (w.alloc a) b
  have h3 := h ((w.alloc a).alloc b) c
  exact ((((Below.refl _ _).alloc (Nat.le_refl _) a).alloc h1 b).alloc (Nat.le_trans h1 h2) c).alloc (Nat.le_trans h1 (Nat.le_trans h2 h3)) d
theorem noAt (u : Value) (w : World) : (Instr.typeAssert (.iface 61 u) 39 74 true).run Tryd.prog w = .ok (.tuple #[.pointer none, .bool false]) w := by kernel_rfl
theorem tup2 {H : Hid} {a b : Value} : Is H (.tup [.v a, .v b]) (.tuple #[a, b]) := .tup rfl fun j g hj => by
  match j with
  | 0 => simp at hj; subst hj; exact .ro (.v a)
  | 1 => simp at hj; subst hj; exact .ro (.v b)
  | j + 2 => simp at hj
end Go.Proofs.YtogpkeoahlkokaaDoor
