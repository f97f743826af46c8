/-
  sort.Slice of samples by their times: the library's contract at this program; the order that the closure gives.
-/
import Derived.Test.YtcdnilijfnfkbaaCPg
import Derived.Test.YtcdnilijfnfkbaaGK24
import Derived.Test.YtcdnilijfnfkbaaSSort
import Derived.Test.YtcdnilijfnfkbaaPSets
import Derived.Shelf.GgSortFunc.Tiny
import Derived.Deep.QuietTactic
namespace Go.Proofs.Ytcdnilijfnfkbaa
open Go.GK Go.PL Go.RowKit Go.Sort Go.Lib Go.Shelf Go.Proofs
set_option maxRecDepth 100000
noncomputable def sT : TypeInfo := (Try.prog.info? 42).get (by kernel_rfl)
noncomputable def sE : TypeInfo := (Try.prog.info? 47).get (by kernel_rfl)
theorem swS (n : Nat) (h2 : 2 ≤ n) : Lib.swapperK n sE 25 = 9 := by
  have a : sE.hasPointers = false := by kernel_rfl
  have b : sE.bytes = 16 := by kernel_rfl
  have c : (n == 0) = false := by simp; omega
  have d : (n == 1) = false := by simp; omega
  simp [Lib.swapperK, a, b, c, d]
theorem swS0 : Lib.swapperK 0 sE 25 = 1 := by kernel_rfl
theorem swS1 : Lib.swapperK 1 sE 25 = 2 := by kernel_rfl
theorem kindS (w : World) : (Extern.Rtype.kind 47).run Try.prog w = .ok 25 w := by kernel_rfl
theorem samples_sorts : SortLib pg 48 49 42 2 where
  call := Try.call48
  tiny := fun a n c h1 lb w => by
    match n, h1 with
    | 0, _ => exact Any.sort_Slice_tiny Try.laysGg6 42 47 sT sE (by kernel_rfl) (by kernel_rfl) (by kernel_rfl) (by kernel_rfl) 25 kindS a 0 c (by omega) 65 (by rw [swS0]; kernel_rfl) _ _ _ w
    | 1, _ => exact Any.sort_Slice_tiny Try.laysGg6 42 47 sT sE (by kernel_rfl) (by kernel_rfl) (by kernel_rfl) (by kernel_rfl) 25 kindS a 1 c (by omega) 66 (by rw [swS1]; kernel_rfl) _ _ _ w
  sorts := fun β _ enc hk h1 lt hO lb blk off c d h2 hsz w hless hH hblk =>
    Any.sort_Slice_cells_sorted Try.laysGg6 42 47 sT sE (by kernel_rfl) (by kernel_rfl) (by kernel_rfl) (by kernel_rfl) 25 kindS enc 2 hk (by kernel_rfl) (fun _ => by kernel_rfl) h1 lt hO 49 lb
      Try.call49 blk off c d h2 hsz 73 (by rw [swS _ h2]; kernel_rfl) false
      (fun args W => run_callFunc_extern Try.func73 (by kernel_rfl) (by kernel_rfl) (by kernel_rfl) (e := Extern.ReflectliteSwapper.swap false) (by kernel_rfl) args W) w hless hH hblk
set_option maxHeartbeats 2000000 in
theorem samples_walk (blk c Bs size : Nat) (W : World) (G : Nat → Int) (hs : W.cell? ⟨Bs, 0, none⟩ = some (.slice (some ⟨blk, 0, none⟩) size c))
    (hc : ∀ t, t < size → W.cell? ⟨blk, t * 2, none⟩ = some (.int .i64 (G t))) (i j : Nat) (hi : i < size) (hj : j < size) (_hsz : size < 4611686018427387904) :
    Calls Try.prog 49 #[.int .i64 i, .int .i64 j, .pointer (some ⟨Bs, 0, none⟩)] W fun e w' => e = .returned (.bool (decide (G i < G j))) ∧ ∃ q, w' = W.drewN q := by
  have ci := hc i hi
  have cj := hc j hj
  go_enter Try.func49, Try.ntmps49
  go_wp2
  go_quiet (fail)
  go_wp2
  go_ret
  exact ⟨rfl, nq, rfl⟩
def ltS (a b : Sm) : Bool := decide (a.time < b.time)
theorem swo_ltS : SWO ltS where
  irrefl x := by simp [ltS]
  trans x y z h1 h2 := by simp only [ltS, decide_eq_true_eq] at *; omega
  ntrans x y z h1 h2 := by simp only [ltS, decide_eq_false_iff_not] at *; omega
theorem samples_less : Less pg 49 2 (fun x : Sm => [gi x.time, gi x.value]) ltS := by
  intro ro blk c Bs n W d hn hs hc i j hi hj
  refine samples_walk blk c Bs n W (fun t => (d t).time) hs (fun t ht => ?_) i j hi hj hn
  obtain ⟨u, h1, h2⟩ := hc t ht 0 _ rfl
  cases h2
  rw [← h1, Nat.add_zero]
theorem samples_hf (l : List Sm) (hl : l.length < 4611686018427387904) : Hf pg 48 2 [.ifc 42 (.o 0), .fn (.func 49) [] [.p 1 0]] [(0, .row 47 2 (l.map fun x => [gi x.time, gi x.value])), (1, .blk 42 [.o 0])]
    fun G σ n => ∃ l' : List Sm, (l'.Perm l ∧ l'.Pairwise (·.time ≤ ·.time)) ∧ G = .tup [] ∧ σ = [(0, .row 47 2 (l'.map fun x => [gi x.time, gi x.value])), (1, .blk 42 [.o 0])] ∧ n = 2 :=
  (sort_hf samples_sorts (fun x : Sm => [gi x.time, gi x.value]) (fun _ => rfl) ltS swo_ltS samples_less 47 42 l hl).mono fun _ _ _ ⟨hG, l', hp, hs, hσ, hn⟩ =>
    ⟨l', ⟨hp, hs.imp fun {x y} h => by simp only [ltS, decide_eq_false_iff_not] at h; omega⟩, hG, hσ, hn⟩
end Go.Proofs.Ytcdnilijfnfkbaa
