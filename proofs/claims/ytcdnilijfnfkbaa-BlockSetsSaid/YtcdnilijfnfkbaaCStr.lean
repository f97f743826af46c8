/-
  Contracts of Go's library on strings: IndexByte, Trim, Compare, Join, HasPrefix; cmp.Compare, cmp.Or of ints; slices.Index, Contains of strings.
-/
import Derived.Test.YtcdnilijfnfkbaaCPg
import Derived.Test.YtcdnilijfnfkbaaGKg
import Derived.Test.YtcdnilijfnfkbaaPLb
import Derived.Test.YtcdnilijfnfkbaaSLab
import Derived.Shelf.Strings.SlTrimAscii
import Derived.Shelf.Strings.Prefix
namespace Go.Proofs.Ytcdnilijfnfkbaa
open Go.GK Go.PL Go.RowKit
set_option maxRecDepth 100000
abbrev gb (c : UInt8) : GV := .v (.int .u8 (c.toNat : Int))

theorem compare_rt (a b : ByteArray) : Rt pg 46 [gs a, gs b] (gi (cmpS a b)) :=
  Rt.calls Try.call46 [.string a, .string b] _ fun w => (Try.strings_Compare a b w).mono fun e w' ⟨he, hw⟩ => ⟨by rw [he, cmpBytes]; rfl, by rw [hw]; exact Below.refl _ _⟩
theorem slitePrefix_rt (s p : ByteArray) : Rt pg 63 [gs s, gs p] (.b (prefF s p)) := by
  refine Rt.of pg_ok Try.func63 rfl Try.ntmps63 rfl Try.results63 Try.call63 fun H0 S0 w0 h0 g0 => ?_
  unfold prefF
  by_cases h : p.size ≤ s.size
  · refine p1 ?_
    refine ⟨by omega, by omega, by omega, ?_⟩
    exact ⟨by simp [h]; rfl, rfl⟩
  · refine p2 ?_
    exact ⟨by simp [h]; rfl, rfl⟩
theorem hasPrefix_rt (s p : ByteArray) : Rt pg 54 [gs s, gs p] (.b (prefF s p)) := by
  refine Rt.of pg_ok Try.func54 rfl Try.ntmps54 rfl Try.results54 Try.call54 fun H0 S0 w0 h0 g0 => ?_
  refine GO (slitePrefix_rt s p) rfl ?_
  exact ⟨rfl, rfl⟩
theorem isNaN_rt (x : Int) : Rt pg 56 [gi x] (.v (.bool false)) := by
  refine Rt.of pg_ok Try.func56 rfl Try.ntmps56 rfl Try.results56 Try.call56 fun H0 S0 w0 h0 g0 => ?_
  exact ⟨by simp; rfl, rfl⟩
def sgnF (x y : Int) : Int := if x < y then -1 else if y < x then 1 else 0
theorem cmpInt_rt (x y : Int) : Rt pg 47 [gi x, gi y] (gi (sgnF x y)) := by
  refine Rt.of pg_ok Try.func47 rfl Try.ntmps47 rfl Try.results47 Try.call47 fun H0 S0 w0 h0 g0 => ?_
  refine GO (isNaN_rt x) rfl ?_
  refine GO (isNaN_rt y) rfl ?_
  unfold sgnF
  by_cases h1 : x < y
  · refine p1 ?_
    exact ⟨by simp [h1]; rfl, rfl⟩
  · refine p2 ?_
    by_cases h2 : y < x
    · refine p1 ?_
      exact ⟨by simp [h1, h2]; rfl, rfl⟩
    · refine p2 ?_
      exact ⟨by simp [h1, h2]; rfl, rfl⟩
def conS (l : List ByteArray) (x : ByteArray) : Bool := l.any fun y => sEq x y
end Go.Proofs.Ytcdnilijfnfkbaa
