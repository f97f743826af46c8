/-
  Contracts: the document's reader (ref.Taker): a number, a text.
-/
import Derived.Test.YtcdnilijfnfkbaaCRdA
import Derived.Test.YtcdnilijfnfkbaaCRefLab
namespace Go.Proofs.Ytcdnilijfnfkbaa
open Go.GK Go.PL Go.RowKit
set_option maxRecDepth 100000
theorem num_step2 {s : ByteArray} {i : Nat} (h : i < s.size) (hi : i < 8) : IntKind.u64.wrap (IntKind.u64.wrap ((beN (s.data.toList.take i) : Int) * 256) + IntKind.u64.wrap (s[i].toNat : Int)) = ((beN (s.data.toList.take (i + 1)) : Nat) : Int) := by
  have hb := s[i].toNat_lt
  have hu := be_lt s i hi
  rw [take_step h]
  generalize beN (s.data.toList.take i) = u at *
  generalize s[i].toNat = b at *
  simp only [IntKind.wrap_u64]
  omega
end Go.Proofs.Ytcdnilijfnfkbaa


namespace Go.Proofs.Ytcdnilijfnfkbaa
open Go.GK Go.PL Go.RowKit
set_option maxRecDepth 100000
end Go.Proofs.Ytcdnilijfnfkbaa
