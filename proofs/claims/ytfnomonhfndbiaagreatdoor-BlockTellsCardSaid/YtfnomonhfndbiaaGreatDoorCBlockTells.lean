/-
  BlockTells: the law's walk.
-/
import Derived.Test.YtfnomonhfndbiaaGreatDoorCBlkA
import Derived.Test.YtfnomonhfndbiaaGreatDoorCShL
import Derived.Test.YtfnomonhfndbiaaGreatDoorCSameS
import Derived.Test.YtfnomonhfndbiaaGreatDoorCPlace
import Derived.Test.YtfnomonhfndbiaaGreatDoorGKh
namespace Go.Proofs.YtfnomonhfndbiaaGreatDoor
open Go.GK Go.PL Go.RowKit
set_option maxRecDepth 100000
theorem blockTells_rt (l : List Ser) (hV : ∀ x ∈ l, V64 x.samples) (to_ old : Int) (s : ByteArray) : Rt pg 3 [ses l, gi to_, gi old, gs s] (.b true) := by
  refine Rt.of pg_ok Tryz.func3 rfl Tryz.ntmps3 rfl Tryz.results3 Tryz.call3 fun H0 S0 w0 h0 g0 => ?_
  rcases tf (shS l) with hsh | hsh
  · refine GO ((lshortS_rt l).bt hsh) rfl ?_
    repeat (first | refine p1 ?_ | refine p2 ?_ | refine p3 ?_ | refine p4 ?_)
    have hz := size_short hsh
    have hlab : ∀ x ∈ l, Short1 x := fun x hx => by
      obtain ⟨h1, h2⟩ := (shS_small hsh).2 x hx
      obtain ⟨h3, h4⟩ := shL_small h1
      exact ⟨by omega, by omega, fun y hy => by have := h4 y hy; omega⟩
    by_cases hs : s.size > 1500
    · repeat (first | refine p1 ?_ | refine p2 ?_ | refine p3 ?_ | refine p4 ?_)
      exact ⟨rfl, rfl⟩
    refine p2 ?_ (decide_eq_false (by omega))
    rcases tf (blkR to_ old l) with hR | hR
    · refine GO (rbwrite_yes to_ old l hlab hV hz hR) rfl ?_
      refine GO (bwrite_yes to_ old l hlab (by omega) hR) rfl ?_
      have hc : (!((wrB to_ old l : ByteArray).toList == (wrB to_ old l : ByteArray).toList)) = false := by simp
      refine DRAW [] false (tk [0, 1]) (by kernel_rfl) ?_
      refine RGO 2 false (tk [3, 4, 5, 6, 7, 8, 9, 10, 11, 12, 15]) ((bareE_rt none 0).bt (d := true) rfl) rfl rfl (by kernel_rfl) ?_
      repeat (first | refine p1 ?_ | refine p2 ?_ | refine p3 ?_ | refine p4 ?_)
      refine RA.one 13 (eqB_eq (by kernel_rfl)) (Stp.mem 13 pg_ok rfl (congrArg (fun c => c == false) hc) rfl ?_)
      refine RGO 14 false [] ((bright_rt to_ old l hlab).bt hR) rfl (congrArg (fun c => bif (c == false) then some (8, [bkG to_ old l]) else none) hc) (by kernel_rfl) ?_
      refine RGO 16 true (tk [17, 18]) ((rbright_rt to_ old l hlab).bt hR) rfl (congrArg (fun c => bif (c == false) then some (9, [bkG to_ old l]) else none) hc) (by kernel_rfl) ?_
      repeat (first | refine p1 ?_ | refine p2 ?_ | refine p3 ?_ | refine p4 ?_)
      refine V ?_
      repeat (first | refine p1 ?_ | refine p2 ?_ | refine p3 ?_ | refine p4 ?_)
      have hrr := rbread_rt s (by omega)
      have hbr := bread_rt s (by omega)
      cases hbW : bW s with
      | none =>
        rw [hbW] at hrr hbr
        refine GO hrr rfl ?_
        refine GO hbr rfl ?_
        refine GO ((bareE_rt (some 3) 3).bt (d := true) rfl) rfl ?_
        repeat (first | refine p1 ?_ | refine p2 ?_ | refine p3 ?_ | refine p4 ?_)
        refine GO sameNil_rt rfl ?_
        exact ⟨rfl, rfl⟩
      | some x =>
        obtain ⟨a, b, m⟩ := x
        rw [hbW] at hrr hbr
        refine GO hrr rfl ?_
        refine GO hbr rfl ?_
        refine GO ((bareE_rt none 0).bt (d := true) rfl) rfl ?_
        repeat (first | refine p1 ?_ | refine p2 ?_ | refine p3 ?_ | refine p4 ?_)
        refine GO (sameSeriesL_rt m) rfl ?_
        exact ⟨rfl, rfl⟩
    · refine GO (rbwrite_no to_ old l hlab hR) rfl ?_
      refine GO (bwrite_no to_ old l hlab hR) rfl ?_
      have hc : (!((⟨#[]⟩ : ByteArray).toList == (⟨#[]⟩ : ByteArray).toList)) = false := by simp
      refine DRAW [] false (tk [0, 1]) (by kernel_rfl) ?_
      refine RGO 2 false (tk [3, 4, 5, 6, 7, 8, 9, 10, 11, 12, 15]) ((bareE_rt (some 1) 1).bt (d := true) rfl) rfl rfl (by kernel_rfl) ?_
      repeat (first | refine p1 ?_ | refine p2 ?_ | refine p3 ?_ | refine p4 ?_)
      refine RA.one 13 (eqB_eq (by kernel_rfl)) (Stp.mem 13 pg_ok rfl (congrArg (fun c => c == false) hc) rfl ?_)
      refine RGO 14 false [] ((bright_rt to_ old l hlab).bt hR) rfl (congrArg (fun c => bif (c == false) then some (8, [bkG to_ old l]) else none) hc) (by kernel_rfl) ?_
      refine RGO 16 true (tk [17, 18]) ((rbright_rt to_ old l hlab).bt hR) rfl (congrArg (fun c => bif (c == false) then some (9, [bkG to_ old l]) else none) hc) (by kernel_rfl) ?_
      repeat (first | refine p1 ?_ | refine p2 ?_ | refine p3 ?_ | refine p4 ?_)
      refine V ?_
      repeat (first | refine p1 ?_ | refine p2 ?_ | refine p3 ?_ | refine p4 ?_)
      have hrr := rbread_rt s (by omega)
      have hbr := bread_rt s (by omega)
      cases hbW : bW s with
      | none =>
        rw [hbW] at hrr hbr
        refine GO hrr rfl ?_
        refine GO hbr rfl ?_
        refine GO ((bareE_rt (some 3) 3).bt (d := true) rfl) rfl ?_
        repeat (first | refine p1 ?_ | refine p2 ?_ | refine p3 ?_ | refine p4 ?_)
        refine GO sameNil_rt rfl ?_
        exact ⟨rfl, rfl⟩
      | some x =>
        obtain ⟨a, b, m⟩ := x
        rw [hbW] at hrr hbr
        refine GO hrr rfl ?_
        refine GO hbr rfl ?_
        refine GO ((bareE_rt none 0).bt (d := true) rfl) rfl ?_
        repeat (first | refine p1 ?_ | refine p2 ?_ | refine p3 ?_ | refine p4 ?_)
        refine GO (sameSeriesL_rt m) rfl ?_
        exact ⟨rfl, rfl⟩
  · refine GO ((lshortS_rt l).bt hsh) rfl ?_
    repeat (first | refine p1 ?_ | refine p2 ?_ | refine p3 ?_ | refine p4 ?_)
    exact ⟨rfl, rfl⟩
end Go.Proofs.YtfnomonhfndbiaaGreatDoor
