/-
  Contracts: package chunk, reading.
-/
import Derived.Test.YtaaoljhfepmkjaaDoorCChunk
namespace Go.Proofs.YtaaoljhfepmkjaaDoor
open Go.GK Go.PL
set_option maxRecDepth 100000
theorem strEq (a b : ByteArray) : (a.toList == b.toList) = decide (a = b) := by
  rw [Bool.eq_iff_iff]
  simp only [beq_iff_eq, decide_eq_true_eq]
  constructor
  · intro h
    rw [ByteArray.toList_eq, ByteArray.toList_eq] at h
    exact WideShapes.bytes_inj h
  · intro h; rw [h]
/-- What reading comes to. -/
def ReadQ (s : ByteArray) (g : GV) : Prop :=
  (∃ l, okS l = true ∧ V64 l ∧ s = enc l ∧ g = .tup [.sl 2 (l.map sm), .v .nilIface]) ∨
  ((∀ l, okS l = true → V64 l → s ≠ enc l) ∧ g = .tup [.v (.slice none 0 0), .ifc 47 (gi 3)])
theorem ReadQ.no {s : ByteArray} (h : ∀ l, okS l = true → V64 l → s ≠ enc l) : ReadQ s (.tup [.v (.slice none 0 0), .ifc 47 (gi 3)]) ∧ idb 0 (.tup [.v (.slice none 0 0), .ifc 47 (gi 3)]) = true := ⟨.inr ⟨h, rfl⟩, rfl⟩
/-- What is known in a round: where the text is samples' bytes, what of it was read. -/
def Part (s : ByteArray) (n i : Nat) (li : List Sm) (last : Sm) (step : Int) (p : Nat) : Prop :=
  ∀ L, okS L = true → V64 L → s = enc L → n = L.length ∧ li = L.take i ∧ ∃ z, (sb s).drop p = chunkR (L.drop i) last step (i == 0) ++ z
end Go.Proofs.YtaaoljhfepmkjaaDoor
