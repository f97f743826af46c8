/-
  sort.Slice of starts: the library's contract at this program; the order that the closure gives.
-/
import Derived.Test.YtfagagfokmlgiaaDoorCPg
import Derived.Test.YtfagagfokmlgiaaDoorGK24
import Derived.Test.YtfagagfokmlgiaaDoorSSort
import Derived.Shelf.GgSortFunc.Tiny
import Derived.Deep.QuietTactic
namespace Go.Proofs.YtfagagfokmlgiaaDoor
open Go.GK Go.RowKit Go.Sort Go.Lib Go.Shelf Go.Proofs
set_option maxRecDepth 100000
noncomputable def iT : TypeInfo := (Tryd.prog.info? 96).get (by kernel_rfl)
noncomputable def iE : TypeInfo := (Tryd.prog.info? 2).get (by kernel_rfl)
theorem swK (n : Nat) (h2 : 2 ≤ n) : Lib.swapperK n iE 6 = 5 := by
  have a : iE.hasPointers = false := by kernel_rfl
  have b : iE.bytes = 8 := by kernel_rfl
  have c : (n == 0) = false := by simp; omega
  have d : (n == 1) = false := by simp; omega
  simp [Lib.swapperK, a, b, c, d]
theorem swK0 : Lib.swapperK 0 iE 6 = 1 := by kernel_rfl
theorem swK1 : Lib.swapperK 1 iE 6 = 2 := by kernel_rfl
theorem kind6 (w : World) : (Extern.Rtype.kind 2).run Tryd.prog w = .ok 6 w := by kernel_rfl
theorem starts_sorts : SortLib pg 71 72 96 1 where
  call := Tryd.call71
  tiny := fun a n c h1 lb w => by
    match n, h1 with
    | 0, _ => exact Any.sort_Slice_tiny Tryd.laysGg6 96 2 iT iE (by kernel_rfl) (by kernel_rfl) (by kernel_rfl) (by kernel_rfl) 6 kind6 a 0 c (by omega) 113 (by rw [swK0]; kernel_rfl) _ _ _ w
    | 1, _ => exact Any.sort_Slice_tiny Tryd.laysGg6 96 2 iT iE (by kernel_rfl) (by kernel_rfl) (by kernel_rfl) (by kernel_rfl) 6 kind6 a 1 c (by omega) 114 (by rw [swK1]; kernel_rfl) _ _ _ w
  sorts := sorts_one fun β _ enc h1 lt hO lb blk off c d h2 hsz w hless hH hblk =>
    Any.sort_Slice_sorted Tryd.laysGg6 96 2 iT iE (by kernel_rfl) (by kernel_rfl) (by kernel_rfl) (by kernel_rfl) 6 kind6 (by kernel_rfl) (fun _ => by kernel_rfl) enc h1 lt hO 72 lb
      Tryd.call72 blk off c d h2 hsz 117 (by rw [swK _ h2]; kernel_rfl) true
      (fun args W => run_callFunc_extern Tryd.func117 (by kernel_rfl) (by kernel_rfl) (by kernel_rfl) (e := Extern.ReflectliteSwapper.swap true) (by kernel_rfl) args W) w hless hH hblk
set_option maxHeartbeats 2000000 in
theorem starts_walk (blk c Bs size : Nat) (W : World) (G : Nat → Int) (hs : W.cell? ⟨Bs, 0, none⟩ = some (.slice (some ⟨blk, 0, none⟩) size c))
    (hc : ∀ t, t < size → W.cell? ⟨blk, t, none⟩ = some (.int .i64 (G t))) (i j : Nat) (hi : i < size) (hj : j < size) (_hsz : size < 4611686018427387904) :
    Calls Tryd.prog 72 #[.int .i64 i, .int .i64 j, .pointer (some ⟨Bs, 0, none⟩)] W fun e w' => e = .returned (.bool (decide (G i < G j))) ∧ ∃ q, w' = W.drewN q := by
  have ci := hc i hi
  have cj := hc j hj
  go_enter Tryd.func72, Tryd.ntmps72
  go_wp2
  go_quiet (fail)
  go_wp2
  go_ret
  exact ⟨rfl, nq, rfl⟩
theorem starts_less : Less pg 72 1 (fun x : Int => [gi x]) ltInt := by
  intro ro blk c Bs n W d hn hs hc i j hi hj
  refine starts_walk blk c Bs n W d hs (fun t ht => ?_) i j hi hj hn
  obtain ⟨u, h1, h2⟩ := hc t ht 0 _ rfl
  cases h2
  rw [← h1, Nat.mul_one, Nat.add_zero]
theorem starts_hf (l : List Int) (hl : l.length < 4611686018427387904) : Hf pg 71 2 [.ifc 96 (.o 0), .fn (.func 72) [] [.p 1 0]] [(0, .row 2 1 (l.map fun x => [gi x])), (1, .blk 96 [.o 0])]
    fun G σ n => ∃ l' : List Int, (l'.Perm l ∧ l'.Pairwise (· ≤ ·)) ∧ G = .tup [] ∧ σ = [(0, .row 2 1 (l'.map fun x => [gi x])), (1, .blk 96 [.o 0])] ∧ n = 2 :=
  (sort_hf starts_sorts (fun x : Int => [gi x]) (fun _ => rfl) ltInt swo_ltInt starts_less 2 96 l hl).mono fun _ _ _ ⟨hG, l', hp, hs, hσ, hn⟩ =>
    ⟨l', ⟨hp, hs.imp fun {x y} h => by simp only [ltInt, decide_eq_false_iff_not] at h; omega⟩, hG, hσ, hn⟩
end Go.Proofs.YtfagagfokmlgiaaDoor
