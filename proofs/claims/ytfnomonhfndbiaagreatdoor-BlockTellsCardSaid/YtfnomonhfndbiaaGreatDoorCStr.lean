/-
  Contracts of Go's library on strings: IndexByte, Trim, Compare, Join, HasPrefix; cmp.Compare, cmp.Or of ints; slices.Index, Contains of strings.
-/
import Derived.Test.YtfnomonhfndbiaaGreatDoorCPg
import Derived.Test.YtfnomonhfndbiaaGreatDoorGKg
import Derived.Test.YtfnomonhfndbiaaGreatDoorPLb
import Derived.Test.YtfnomonhfndbiaaGreatDoorSLab
import Derived.Shelf.Strings.SlTrimAscii
import Derived.Shelf.Strings.Prefix
namespace Go.Proofs.YtfnomonhfndbiaaGreatDoor
open Go.GK Go.PL Go.RowKit
set_option maxRecDepth 100000
abbrev gb (c : UInt8) : GV := .v (.int .u8 (c.toNat : Int))

theorem indexByte_rt (s : ByteArray) (c : UInt8) : Rt pg 63 [gs s, gb c] (gi (Lib.indexByte s.data.toList c)) :=
  Rt.calls Tryz.call63 [.string s, .int .u8 c.toNat] _ fun w => (Tryz.strings_IndexByte s c.toNat w).mono fun e w' ⟨he, hw⟩ => ⟨by rw [he]; simp, by rw [hw]; exact Below.refl _ _⟩
theorem compare_rt (a b : ByteArray) : Rt pg 47 [gs a, gs b] (gi (cmpS a b)) :=
  Rt.calls Tryz.call47 [.string a, .string b] _ fun w => (Tryz.strings_Compare a b w).mono fun e w' ⟨he, hw⟩ => ⟨by rw [he, cmpBytes]; rfl, by rw [hw]; exact Below.refl _ _⟩
theorem trim_rt (s t : ByteArray) (hs : s.size ≤ 1000000) (ht : t.size ≤ 1000) (ha : t.data.toList.all (fun b => decide (b.toNat < 128)) = true) : Rt pg 64 [gs s, gs t] (gs (bs (Lib.trimS s.data.toList t.data.toList))) :=
  Rt.calls Tryz.call64 [.string s, .string t] _ fun w => (Any.strings_Trim_laid Tryz.lays160 (by kernel_rfl) s t w (by omega) (by omega) (fun _ b hb => of_decide_eq_true (List.all_eq_true.1 ha b (List.mem_of_getElem? hb)))).mono fun e w' ⟨he, hw⟩ => ⟨he, hw⟩
theorem slitePrefix_rt (s p : ByteArray) : Rt pg 112 [gs s, gs p] (.b (prefF s p)) := by
  refine Rt.of pg_ok Tryz.func112 rfl Tryz.ntmps112 rfl Tryz.results112 Tryz.call112 fun H0 S0 w0 h0 g0 => ?_
  unfold prefF
  by_cases h : p.size ≤ s.size
  · refine p1 ?_
    refine ⟨by omega, by omega, by omega, ?_⟩
    exact ⟨by simp [h]; rfl, rfl⟩
  · refine p2 ?_
    exact ⟨by simp [h]; rfl, rfl⟩
theorem hasPrefix_rt (s p : ByteArray) : Rt pg 97 [gs s, gs p] (.b (prefF s p)) := by
  refine Rt.of pg_ok Tryz.func97 rfl Tryz.ntmps97 rfl Tryz.results97 Tryz.call97 fun H0 S0 w0 h0 g0 => ?_
  refine GO (slitePrefix_rt s p) rfl ?_
  exact ⟨rfl, rfl⟩
theorem isNaN_rt (x : Int) : Rt pg 66 [gi x] (.v (.bool false)) := by
  refine Rt.of pg_ok Tryz.func66 rfl Tryz.ntmps66 rfl Tryz.results66 Tryz.call66 fun H0 S0 w0 h0 g0 => ?_
  exact ⟨by simp; rfl, rfl⟩
def sgnF (x y : Int) : Int := if x < y then -1 else if y < x then 1 else 0
theorem cmpInt_rt (x y : Int) : Rt pg 48 [gi x, gi y] (gi (sgnF x y)) := by
  refine Rt.of pg_ok Tryz.func48 rfl Tryz.ntmps48 rfl Tryz.results48 Tryz.call48 fun H0 S0 w0 h0 g0 => ?_
  refine GO (isNaN_rt x) rfl ?_
  refine GO (isNaN_rt y) rfl ?_
  unfold sgnF
  by_cases h1 : x < y
  · refine p1 ?_
    exact ⟨by simp [h1]; rfl, rfl⟩
  · refine p2 ?_
    by_cases h2 : y < x
    · refine p1 ?_
      exact ⟨by simp [h1, h2]; rfl, rfl⟩
    · refine p2 ?_
      exact ⟨by simp [h1, h2]; rfl, rfl⟩
def conS (l : List ByteArray) (x : ByteArray) : Bool := l.any fun y => sEq x y
end Go.Proofs.YtfnomonhfndbiaaGreatDoor
