/-
  Contracts of Go's library on strings: IndexByte, Trim, Compare, Join, HasPrefix; cmp.Compare, cmp.Or of ints; slices.Index, Contains of strings.
-/
import Derived.Test.YtcdnilijfnfkbaaDoorCPg
import Derived.Test.YtcdnilijfnfkbaaDoorGKg
import Derived.Test.YtcdnilijfnfkbaaDoorPLb
import Derived.Test.YtcdnilijfnfkbaaDoorSLab
import Derived.Shelf.Strings.SlTrimAscii
import Derived.Shelf.Strings.Prefix
namespace Go.Proofs.YtcdnilijfnfkbaaDoor
open Go.GK Go.PL Go.RowKit
set_option maxRecDepth 100000
abbrev gb (c : UInt8) : GV := .v (.int .u8 (c.toNat : Int))

theorem indexByte_rt (s : ByteArray) (c : UInt8) : Rt pg 45 [gs s, gb c] (gi (Lib.indexByte s.data.toList c)) :=
  Rt.calls Tryd.call45 [.string s, .int .u8 c.toNat] _ fun w => (Tryd.strings_IndexByte s c.toNat w).mono fun e w' ⟨he, hw⟩ => ⟨by rw [he]; simp, by rw [hw]; exact Below.refl _ _⟩
theorem compare_rt (a b : ByteArray) : Rt pg 42 [gs a, gs b] (gi (cmpS a b)) :=
  Rt.calls Tryd.call42 [.string a, .string b] _ fun w => (Tryd.strings_Compare a b w).mono fun e w' ⟨he, hw⟩ => ⟨by rw [he, cmpBytes]; rfl, by rw [hw]; exact Below.refl _ _⟩
theorem trim_rt (s t : ByteArray) (hs : s.size ≤ 1000000) (ht : t.size ≤ 1000) (ha : t.data.toList.all (fun b => decide (b.toNat < 128)) = true) : Rt pg 46 [gs s, gs t] (gs (bs (Lib.trimS s.data.toList t.data.toList))) :=
  Rt.calls Tryd.call46 [.string s, .string t] _ fun w => (Any.strings_Trim_laid Tryd.lays160 (by kernel_rfl) s t w (by omega) (by omega) (fun _ b hb => of_decide_eq_true (List.all_eq_true.1 ha b (List.mem_of_getElem? hb)))).mono fun e w' ⟨he, hw⟩ => ⟨he, hw⟩
theorem slitePrefix_rt (s p : ByteArray) : Rt pg 80 [gs s, gs p] (.b (prefF s p)) := by
  refine Rt.of pg_ok Tryd.func80 rfl Tryd.ntmps80 rfl Tryd.results80 Tryd.call80 fun H0 S0 w0 h0 g0 => ?_
  unfold prefF
  by_cases h : p.size ≤ s.size
  · refine p1 ?_
    refine ⟨by omega, by omega, by omega, ?_⟩
    exact ⟨by simp [h]; rfl, rfl⟩
  · refine p2 ?_
    exact ⟨by simp [h]; rfl, rfl⟩
theorem hasPrefix_rt (s p : ByteArray) : Rt pg 69 [gs s, gs p] (.b (prefF s p)) := by
  refine Rt.of pg_ok Tryd.func69 rfl Tryd.ntmps69 rfl Tryd.results69 Tryd.call69 fun H0 S0 w0 h0 g0 => ?_
  refine GO (slitePrefix_rt s p) rfl ?_
  exact ⟨rfl, rfl⟩
theorem isNaN_rt (x : Int) : Rt pg 59 [gi x] (.v (.bool false)) := by
  refine Rt.of pg_ok Tryd.func59 rfl Tryd.ntmps59 rfl Tryd.results59 Tryd.call59 fun H0 S0 w0 h0 g0 => ?_
  exact ⟨by simp; rfl, rfl⟩
def sgnF (x y : Int) : Int := if x < y then -1 else if y < x then 1 else 0
theorem cmpInt_rt (x y : Int) : Rt pg 43 [gi x, gi y] (gi (sgnF x y)) := by
  refine Rt.of pg_ok Tryd.func43 rfl Tryd.ntmps43 rfl Tryd.results43 Tryd.call43 fun H0 S0 w0 h0 g0 => ?_
  refine GO (isNaN_rt x) rfl ?_
  refine GO (isNaN_rt y) rfl ?_
  unfold sgnF
  by_cases h1 : x < y
  · refine p1 ?_
    exact ⟨by simp [h1]; rfl, rfl⟩
  · refine p2 ?_
    by_cases h2 : y < x
    · refine p1 ?_
      exact ⟨by simp [h1, h2]; rfl, rfl⟩
    · refine p2 ?_
      exact ⟨by simp [h1, h2]; rfl, rfl⟩
def conS (l : List ByteArray) (x : ByteArray) : Bool := l.any fun y => sEq x y
end Go.Proofs.YtcdnilijfnfkbaaDoor
