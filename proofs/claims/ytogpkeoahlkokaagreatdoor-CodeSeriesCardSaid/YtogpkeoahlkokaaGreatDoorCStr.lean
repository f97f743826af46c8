/-
  Contracts of Go's library on strings: IndexByte, Trim, Compare, Join, HasPrefix; cmp.Compare, cmp.Or of ints; slices.Index, Contains of strings.
-/
import Derived.Test.YtogpkeoahlkokaaGreatDoorCPg
import Derived.Test.YtogpkeoahlkokaaGreatDoorGKg
import Derived.Test.YtogpkeoahlkokaaGreatDoorPLb
import Derived.Test.YtogpkeoahlkokaaGreatDoorSLab
import Derived.Shelf.Strings.SlTrimAscii
import Derived.Shelf.Strings.Prefix
namespace Go.Proofs.YtogpkeoahlkokaaGreatDoor
open Go.GK Go.PL Go.RowKit
set_option maxRecDepth 100000
abbrev gb (c : UInt8) : GV := .v (.int .u8 (c.toNat : Int))

theorem indexByte_rt (s : ByteArray) (c : UInt8) : Rt pg 63 [gs s, gb c] (gi (Lib.indexByte s.data.toList c)) :=
  Rt.calls Tryz.call63 [.string s, .int .u8 c.toNat] _ fun w => (Tryz.strings_IndexByte s c.toNat w).mono fun e w' ⟨he, hw⟩ => ⟨by rw [he]; simp, by rw [hw]; exact Below.refl _ _⟩
theorem trim_rt (s t : ByteArray) (hs : s.size ≤ 1000000) (ht : t.size ≤ 1000) (ha : t.data.toList.all (fun b => decide (b.toNat < 128)) = true) : Rt pg 64 [gs s, gs t] (gs (bs (Lib.trimS s.data.toList t.data.toList))) :=
  Rt.calls Tryz.call64 [.string s, .string t] _ fun w => (Any.strings_Trim_laid Tryz.lays160 (by kernel_rfl) s t w (by omega) (by omega) (fun _ b hb => of_decide_eq_true (List.all_eq_true.1 ha b (List.mem_of_getElem? hb)))).mono fun e w' ⟨he, hw⟩ => ⟨he, hw⟩
theorem slitePrefix_rt (s p : ByteArray) : Rt pg 94 [gs s, gs p] (.b (prefF s p)) := by
  refine Rt.of pg_ok Tryz.func94 rfl Tryz.ntmps94 rfl Tryz.results94 Tryz.call94 fun H0 S0 w0 h0 g0 => ?_
  unfold prefF
  by_cases h : p.size ≤ s.size
  · refine p1 ?_
    refine ⟨by omega, by omega, by omega, ?_⟩
    exact ⟨by simp [h]; rfl, rfl⟩
  · refine p2 ?_
    exact ⟨by simp [h]; rfl, rfl⟩
theorem hasPrefix_rt (s p : ByteArray) : Rt pg 72 [gs s, gs p] (.b (prefF s p)) := by
  refine Rt.of pg_ok Tryz.func72 rfl Tryz.ntmps72 rfl Tryz.results72 Tryz.call72 fun H0 S0 w0 h0 g0 => ?_
  refine GO (slitePrefix_rt s p) rfl ?_
  exact ⟨rfl, rfl⟩
def sgnF (x y : Int) : Int := if x < y then -1 else if y < x then 1 else 0
def conS (l : List ByteArray) (x : ByteArray) : Bool := l.any fun y => sEq x y
end Go.Proofs.YtogpkeoahlkokaaGreatDoor
