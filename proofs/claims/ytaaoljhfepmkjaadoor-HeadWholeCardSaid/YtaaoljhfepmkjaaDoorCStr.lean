/-
  Contracts of Go's library on strings: IndexByte, Trim, Compare, Join, HasPrefix; cmp.Compare, cmp.Or of ints; slices.Index, Contains of strings.
-/
import Derived.Test.YtaaoljhfepmkjaaDoorCPg
import Derived.Test.YtaaoljhfepmkjaaDoorGKg
import Derived.Test.YtaaoljhfepmkjaaDoorPLb
import Derived.Test.YtaaoljhfepmkjaaDoorSLab
import Derived.Shelf.Strings.SlTrimAscii
import Derived.Shelf.Strings.Prefix
namespace Go.Proofs.YtaaoljhfepmkjaaDoor
open Go.GK Go.PL Go.RowKit
set_option maxRecDepth 100000
abbrev gb (c : UInt8) : GV := .v (.int .u8 (c.toNat : Int))

theorem indexByte_rt (s : ByteArray) (c : UInt8) : Rt pg 53 [gs s, gb c] (gi (Lib.indexByte s.data.toList c)) :=
  Rt.calls Tryd.call53 [.string s, .int .u8 c.toNat] _ fun w => (Tryd.strings_IndexByte s c.toNat w).mono fun e w' ⟨he, hw⟩ => ⟨by rw [he]; simp, by rw [hw]; exact Below.refl _ _⟩
theorem compare_rt (a b : ByteArray) : Rt pg 28 [gs a, gs b] (gi (cmpS a b)) :=
  Rt.calls Tryd.call28 [.string a, .string b] _ fun w => (Tryd.strings_Compare a b w).mono fun e w' ⟨he, hw⟩ => ⟨by rw [he, cmpBytes]; rfl, by rw [hw]; exact Below.refl _ _⟩
theorem trim_rt (s t : ByteArray) (hs : s.size ≤ 1000000) (ht : t.size ≤ 1000) (ha : t.data.toList.all (fun b => decide (b.toNat < 128)) = true) : Rt pg 54 [gs s, gs t] (gs (bs (Lib.trimS s.data.toList t.data.toList))) :=
  Rt.calls Tryd.call54 [.string s, .string t] _ fun w => (Any.strings_Trim_laid Tryd.lays160 (by kernel_rfl) s t w (by omega) (by omega) (fun _ b hb => of_decide_eq_true (List.all_eq_true.1 ha b (List.mem_of_getElem? hb)))).mono fun e w' ⟨he, hw⟩ => ⟨he, hw⟩
theorem isNaN_rt (x : Int) : Rt pg 41 [gi x] (.v (.bool false)) := by
  refine Rt.of pg_ok Tryd.func41 rfl Tryd.ntmps41 rfl Tryd.results41 Tryd.call41 fun H0 S0 w0 h0 g0 => ?_
  exact ⟨by simp; rfl, rfl⟩
def sgnF (x y : Int) : Int := if x < y then -1 else if y < x then 1 else 0
theorem cmpInt_rt (x y : Int) : Rt pg 29 [gi x, gi y] (gi (sgnF x y)) := by
  refine Rt.of pg_ok Tryd.func29 rfl Tryd.ntmps29 rfl Tryd.results29 Tryd.call29 fun H0 S0 w0 h0 g0 => ?_
  refine GO (isNaN_rt x) rfl ?_
  refine GO (isNaN_rt y) rfl ?_
  unfold sgnF
  by_cases h1 : x < y
  · refine p1 ?_
    exact ⟨by simp [h1]; rfl, rfl⟩
  · refine p2 ?_
    by_cases h2 : y < x
    · refine p1 ?_
      exact ⟨by simp [h1, h2]; rfl, rfl⟩
    · refine p2 ?_
      exact ⟨by simp [h1, h2]; rfl, rfl⟩
def conS (l : List ByteArray) (x : ByteArray) : Bool := l.any fun y => sEq x y
end Go.Proofs.YtaaoljhfepmkjaaDoor
