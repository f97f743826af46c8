/-
  Contracts for DiskKeeps: which file, so many signs, strings.HasPrefix; a fact: a disk that grew.
-/
import Derived.Test.YtdongnbkfgipdaaCDisk2
import Derived.Test.YtdongnbkfgipdaaCDisk3
import Derived.Test.YtdongnbkfgipdaaCList
import Derived.Test.YtdongnbkfgipdaaSRepeat
import Derived.Test.YtdongnbkfgipdaaPKeep
namespace Go.Proofs.Ytdongnbkfgipdaa
open Go.GK Go.PL Go.RowKit
set_option maxRecDepth 100000
section
variable {N n0 : Nat} {H0 : Hid} {S0 : List Nat} {w0 : World} {h0 : H0.n = n0} {g0 : GlOk pg H0} {T : Post} {k : List It} {s : St}
theorem VM (n : Nat) (h : vc ⟨pg, N, n0, H0, S0, w0, h0, g0⟩ T n k s) : JK ⟨pg, N, n0, H0, S0, w0, h0, g0⟩ T k s := vc_sound pg_ok n k s h
/-- A fresh disk is packed. -/
theorem PCK0 (id : Nat) (h1 : hlook s.σ id = some (.blk 27 [.v (.map none), .v (.map none), gi 0, .v (.bool false)])) (chk : Nat.blt id s.n = true)
    (h : ∀ fp, nfH ((id, .ab (dk dk0 fp)) :: hrest [id] (hset s.σ id (.blk 27 [.v (.map none), .v (.map none), gi 0, .b false]))) fun σ => vc ⟨pg, N, n0, H0, S0, w0, h0, g0⟩ T 400 k ⟨s.ρ, σ, s.n⟩) : JK ⟨pg, N, n0, H0, S0, w0, h0, g0⟩ T k s := by
  refine JK.recell id [.v (.map none), .v (.map none), gi 0, .b false] h1 ⟨rfl, rfl, rfl, rfl, trivial⟩ ?_
  rw [nfH_eq]
  refine JK.pack (fun _ => id) 3 id (dheap dk0) ⟨hset_look h1 _, trivial⟩ ?_ (fun fp => ?_)
  · simp only [Bool.and_eq_true]
    exact ⟨⟨⟨rfl, rfl⟩, Nat.beq_refl id⟩, chk⟩
  · have := h fp
    rw [nfH_eq] at this ⊢
    exact V this
end
theorem id_lt {a n : Nat} (h : Nat.ble a n = true) : ∀ i, i < a → id i < n := fun _ hi => Nat.lt_of_lt_of_le hi (Nat.le_of_ble_eq_true h)
abbrev ts (l : List ByteArray) : GV := .sl 1 (l.map fun x => [gs x])
/-- A number's place among so many. -/
def pkF (x y : Int) : Int := IntKind.u64.wrap x % y
theorem pkF_in (x : Int) {y : Int} (h : 0 < y) : 0 ≤ pkF x y ∧ pkF x y < y := ⟨Int.emod_nonneg _ (by omega), Int.emod_lt_of_pos _ h⟩
theorem pick_rt (x y : Int) (h : 0 < y) (h' : y < 1000000) : Rt pg 6 [gi x, gi y] (gi (pkF x y)) := by
  refine Rt.of pg_ok Try.func6 rfl Try.ntmps6 rfl Try.results6 Try.call6 fun H0 S0 w0 h0 g0 => ?_
  have e : IntKind.u64.wrap y = y := by rw [IntKind.wrap_u64]; omega
  have e0 : 0 ≤ IntKind.u64.wrap x := by rw [IntKind.wrap_u64]; omega
  refine ⟨by rw [e]; omega, ?_⟩
  have e1 : (IntKind.u64.wrap x).tmod (IntKind.u64.wrap y) = pkF x y := by rw [e, Int.tmod_eq_emod_of_nonneg e0]; rfl
  have e2 := pkF_in x h
  have e3 : gi (pkF x y) = gi (IntKind.i64.wrap ((IntKind.u64.wrap x).tmod (IntKind.u64.wrap y))) := by rw [e1, wrap_id (by omega) (by omega)]
  exact ⟨e3.symm, rfl⟩
def repF (s : ByteArray) (c : Nat) : ByteArray := ⟨(Lib.repeatL s.data.toList c).toArray⟩
theorem repF_size (s : ByteArray) (c : Nat) : (repF s c).size = c * s.size := by
  show (Lib.repeatL s.data.toList c).toArray.size = _
  rw [List.size_toArray, Lib.repeatL_length]
  rfl
theorem repeat_rt (s : ByteArray) (c : Nat) (hc : c ≤ 1000) (hs : s.size ≤ 1000) : Rt pg 9 [gs s, gi c] (gs (repF s c)) :=
  Rt.calls Try.call9 [.string s, .int .i64 c] _ fun w => Try.strings_Repeat s c w (by omega) (by have : s.size * c ≤ 1000 * 1000 := Nat.mul_le_mul hs hc; omega)
def prefF (s p : ByteArray) : Bool := decide (p.size ≤ s.size) && ((s.extract 0 p.size).toList == p.toList)
theorem slitePrefix_rt (s p : ByteArray) : Rt pg 25 [gs s, gs p] (.b (prefF s p)) := by
  refine Rt.of pg_ok Try.func25 rfl Try.ntmps25 rfl Try.results25 Try.call25 fun H0 S0 w0 h0 g0 => ?_
  unfold prefF
  by_cases h : p.size ≤ s.size
  · refine p1 ?_
    refine ⟨by omega, by omega, by omega, ?_⟩
    exact ⟨by simp [h]; rfl, rfl⟩
  · refine p2 ?_
    exact ⟨by simp [h]; rfl, rfl⟩
theorem hasPrefix_rt (s p : ByteArray) : Rt pg 16 [gs s, gs p] (.b (prefF s p)) := by
  refine Rt.of pg_ok Try.func16 rfl Try.ntmps16 rfl Try.results16 Try.call16 fun H0 S0 w0 h0 g0 => ?_
  refine GO (slitePrefix_rt s p) rfl ?_
  exact ⟨rfl, rfl⟩
def sA : ByteArray := ⟨#[97]⟩
def sB : ByteArray := ⟨#[98]⟩
def sQ : ByteArray := ⟨#[113]⟩
def sXY : ByteArray := ⟨#[120, 121]⟩
def sZU : ByteArray := ⟨#[122, 117]⟩
def sXYZ : ByteArray := ⟨#[120, 121, 122]⟩
def g1 : Dk := ⟨false, [(ks sA, (sXY, -1))], 0, false⟩
def g2 : Dk := ⟨false, [(ks sA, (sXY, 2))], 0, false⟩
def g3 : Dk := ⟨false, [(ks sA, (sXY ++ sZU, 2))], 0, false⟩
def g4 : Dk := ⟨false, [(ks sA, (sXY ++ sZU, 2)), (ks sB, (sQ, -1))], 0, false⟩
theorem badA : badN sA = false := by unfold badN; rw [size0]; rfl
theorem badB : badN sB = false := by unfold badN; rw [size0]; rfl
theorem e1 : appendF sA sXY dk0 = (none, g1) := by
  unfold appendF
  rw [if_neg (by rw [badA]; decide)]
  kernel_rfl
theorem e2 : syncF sA g1 = (none, g2) := by kernel_rfl
theorem e3 : appendF sA sZU g2 = (none, g3) := by
  unfold appendF
  rw [if_neg (by rw [badA]; decide)]
  kernel_rfl
theorem e4 : appendF sB sQ g3 = (none, g4) := by
  unfold appendF
  rw [if_neg (by rw [badB]; decide)]
  kernel_rfl
theorem e5 : fnd sA (startF 1 g4) = some (sXYZ, 3) := by kernel_rfl
theorem e6 : (startF 1 g4).L.length = 2 := by kernel_rfl
theorem e7 : ∀ y ∈ (startF 1 g4).L, (nmOf y.1).size ≤ 1000 := by
  have : (startF 1 g4).L.all (fun y => decide ((nmOf y.1).size ≤ 1000)) = true := by kernel_rfl
  intro y hy
  exact of_decide_eq_true (List.all_eq_true.1 this y hy)
theorem srt_len (L : List ByteArray) : (sortB L).length = L.length := by
  unfold sortB
  rw [List.length_map, List.length_mergeSort, List.length_map]
theorem okAll {d : Dk} (h : (d.L.all (fun y => Go.GK.sortB none y.1 && (decide (y.2.1.size ≤ 1000) && (decide (-1 ≤ y.2.2) && decide (y.2.2 ≤ y.2.1.size)))) && decide (d.nil = false ∧ d.left = 0)) = true) (hn : pnodup d.L) : d.ok 1000 := by
  simp only [Bool.and_eq_true, List.all_eq_true, decide_eq_true_eq] at h
  obtain ⟨h1, h2, h3⟩ := h
  exact ⟨fun y hy => (h1 y hy).1, hn, fun y hy => ⟨(h1 y hy).2.1, (h1 y hy).2.2.1, (h1 y hy).2.2.2⟩, fun e => (by rw [h2] at e; cases e), (by rw [h3]; decide), (by rw [h3]; decide)⟩
theorem ok1 : g1.ok 1000 := okAll (by kernel_rfl) (by simp [pnodup, g1])
theorem ok2 : g2.ok 1000 := okAll (by kernel_rfl) (by simp [pnodup, g2])
theorem ok3 : g3.ok 1000 := okAll (by kernel_rfl) (by simp [pnodup, g3])
theorem ok4 : g4.ok 1000 := okAll (by kernel_rfl) (by simp [pnodup, g4]; decide)
theorem grown_rt : Rt pg 4 [] (.v (.bool true)) := by
  refine Rt.of pg_ok Try.func4 rfl Try.ntmps4 rfl Try.results4 Try.call4 fun H0 S0 w0 h0 g0 => ?_
  refine PCK0 0 rfl rfl fun fp0 => ?_
  have h1 := append_hf dk0 fp0 1000 (dk0_ok _) sA sXY (by decide)
  rw [e1] at h1
  refine GOH h1 id rfl rfl ⟨rfl, trivial⟩ rfl (id_lt rfl) ?_
  rintro _ _ _ ⟨rfl, ⟨fp1, rfl⟩, rfl⟩
  repeat (first | refine p1 ?_ | refine p2 ?_ | refine p3 ?_ | refine p4 ?_)
  have h2 := sync_hf g1 fp1 1000 ok1 sA
  rw [e2] at h2
  refine GOH h2 id rfl rfl ⟨rfl, trivial⟩ rfl (id_lt rfl) ?_
  rintro _ _ _ ⟨rfl, ⟨fp2, rfl⟩, rfl⟩
  repeat (first | refine p1 ?_ | refine p2 ?_ | refine p3 ?_ | refine p4 ?_)
  have h3 := append_hf g2 fp2 1000 ok2 sA sZU (by decide)
  rw [e3] at h3
  refine GOH h3 id rfl rfl ⟨rfl, trivial⟩ rfl (id_lt rfl) ?_
  rintro _ _ _ ⟨rfl, ⟨fp3, rfl⟩, rfl⟩
  repeat (first | refine p1 ?_ | refine p2 ?_ | refine p3 ?_ | refine p4 ?_)
  have h4 := append_hf g3 fp3 1000 ok3 sB sQ (by decide)
  rw [e4] at h4
  refine GOH h4 id rfl rfl ⟨rfl, trivial⟩ rfl (id_lt rfl) ?_
  rintro _ _ _ ⟨rfl, ⟨fp4, rfl⟩, rfl⟩
  repeat (first | refine p1 ?_ | refine p2 ?_ | refine p3 ?_ | refine p4 ?_)
  refine GOH (start_hf g4 fp4 1000 ok4 (by decide) 1) id rfl rfl ⟨rfl, trivial⟩ rfl (id_lt rfl) ?_
  rintro _ _ _ ⟨rfl, ⟨fp5, rfl⟩, rfl⟩
  have h5 := read_hf (startF 1 g4) fp5 1000 (startF_ok ok4) sA
  rw [e5] at h5
  refine GOH h5 id rfl rfl ⟨rfl, trivial⟩ rfl (id_lt rfl) ?_
  rintro _ _ _ ⟨rfl, ⟨fp6, rfl⟩, rfl⟩
  repeat (first | refine p1 ?_ | refine p2 ?_ | refine p3 ?_ | refine p4 ?_)
  refine p1 ?_ (show (sXYZ.toList == sXYZ.toList) = true by simp)
  have h6 := list_hf (startF 1 g4) fp6 1000 (startF_ok ok4) e7 (by rw [e6]; omega)
  have hn : (names (startF 1 g4)).length = 2 := by unfold names; rw [srt_len, List.length_map, e6]
  generalize names (startF 1 g4) = nms at h6 hn
  refine GOH h6 id rfl rfl ⟨rfl, trivial⟩ rfl (id_lt rfl) ?_
  rintro _ _ _ ⟨rfl, ⟨fp7, rfl⟩, rfl⟩
  refine ⟨?_, rfl⟩
  have e : (((nms.map fun x => [gs x]).length : Int) == 2) = true := by rw [List.length_map, hn]; rfl
  exact e
end Go.Proofs.Ytdongnbkfgipdaa
