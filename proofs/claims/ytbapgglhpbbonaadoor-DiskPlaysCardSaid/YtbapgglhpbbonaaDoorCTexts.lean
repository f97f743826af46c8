/-
  Contracts: texts that are the same; a text of so many bytes.
-/
import Derived.Test.YtbapgglhpbbonaaDoorCWal4
import Derived.Test.YtbapgglhpbbonaaDoorGKh
namespace Go.Proofs.YtbapgglhpbbonaaDoor
open Go.GK Go.PL Go.RowKit
set_option maxRecDepth 100000
abbrev ts (l : List ByteArray) : GV := .sl 1 (l.map fun x => [gs x])
theorem ba_eq (a b : ByteArray) : (a.toList == b.toList) = decide (a = b) := by
  rw [Bool.eq_iff_iff]
  simp only [beq_iff_eq, decide_eq_true_eq]
  constructor
  · intro h
    rw [ByteArray.toList_eq, ByteArray.toList_eq] at h
    exact WideShapes.bytes_inj h
  · intro h; rw [h]
theorem sameTexts_rt (a b : List ByteArray) (ha : a.length ≤ 4611686018427387904) : Rt pg 11 [ts a, ts b] (.b (decide (a = b))) := by
  refine Rt.of pg_ok Tryd.func11 rfl Tryd.ntmps11 rfl Tryd.results11 Tryd.call11 fun H0 S0 w0 h0 g0 => ?_
  by_cases hlen : a.length = b.length
  · refine p2 ?_ (by simp [hlen])
    refine JK.loopE (α := Nat) (β := Unit) (fun i => ⟨[(0, ts a), (1, ts b), (5, gi i)], [], 0⟩) (fun i => i ≤ a.length ∧ a.take i = b.take i) (fun i => a.length - i) (fun _ => ⟨[], [], 0⟩) (fun _ => a = b) 0 id ?_ ?_ ?_ ?_
    · exact ⟨⟨rfl, rfl, rfl, trivial⟩, trivial, rfl⟩
    · exact ⟨Nat.zero_le _, by simp⟩
    · rintro i ⟨hi, hs⟩
      refine V ?_
      by_cases hlt : i < a.length
      · have hlt' : i < b.length := by omega
        refine p1 ?_ (decide_eq_true (by simp only [List.length_map]; omega))
        refine ⟨by kernel_rfl, ?_⟩
        refine ix (h := ?_)
        refine ix (h := ?_)
        by_cases he : a[i] = b[i]
        · refine p2 ?_ (by rw [ba_eq, decide_eq_true he]; rfl)
          refine ⟨i + 1, id, ⟨⟨rfl, rfl, succ_gi (by omega), trivial⟩, trivial, rfl⟩, ⟨hlt, ?_⟩, by show a.length - (i + 1) < a.length - i; omega⟩
          rw [List.take_add_one, List.take_add_one, hs, List.getElem?_eq_getElem hlt, List.getElem?_eq_getElem hlt', he]
        · refine p1 ?_ (by rw [ba_eq, decide_eq_false he]; rfl)
          refine ⟨?_, rfl⟩
          exact (decide_eq_false fun e => he (by subst e; rfl)).symm
      · refine p2 ?_ (decide_eq_false (by simp only [List.length_map]; omega))
        refine ⟨(), id, ⟨trivial, trivial, rfl⟩, ?_⟩
        rw [List.take_of_length_le (by omega), List.take_of_length_le (by omega)] at hs
        exact hs
    · rintro _ he
      refine V ?_
      exact ⟨(decide_eq_true he).symm, rfl⟩
  · refine p1 ?_ (by simp; exact fun h => hlen (by omega))
    exact ⟨(decide_eq_false fun e => hlen (by rw [e])).symm, rfl⟩
def longF (n : Nat) : ByteArray := ⟨((List.range n).map fun i => UInt8.ofNat i).toArray⟩
theorem longF_size (n : Nat) : (longF n).size = n := by simp [longF, ByteArray.size]
def longR (n i : Nat) : List (List GV) := (List.range n).map fun j => [GV.v (.int .u8 (if j < i then ((UInt8.ofNat j).toNat : Int) else 0))]
theorem long_rt (n : Nat) (hn : n ≤ 100000) : Rt pg 8 [gi n] (gs (longF n)) := by
  refine Rt.of pg_ok Tryd.func8 rfl Tryd.ntmps8 rfl Tryd.results8 Tryd.call8 fun H0 S0 w0 h0 g0 => ?_
  refine JK.mkSlice (n := n) (zv := .int .u8 0) pg_ok rfl rfl rfl rfl rfl rfl rfl rfl rfl rfl (by omega) (by show 1 * n ≤ _; omega) ?_
  refine V ?_
  refine JK.loopE (α := Nat) (β := Unit) (fun i => ⟨[(0, gi n), (3, .o 0), (4, gi i)], [(0, .row 5 1 (longR n i))], 1⟩) (fun i => i ≤ n) (fun i => n - i) (fun _ => ⟨[(3, .o 0)], [(0, .row 5 1 (longR n n))], 1⟩) (fun _ => True) 0 id ?_ (Nat.zero_le _) ?_ ?_
  · refine ⟨⟨rfl, rfl, rfl, trivial⟩, ⟨?_, trivial⟩, rfl⟩
    refine congrArg (fun x => some (Res.row 5 1 x)) ?_
    unfold longR
    refine List.ext_getElem? fun j => ?_
    rw [List.getElem?_replicate, List.getElem?_map]
    by_cases hj : j < n
    · rw [if_pos hj]; simp [hj]
    · rw [if_neg hj]; simp [hj]
  · intro i hi
    refine V ?_
    by_cases hlt : i < n
    · refine p1 ?_
      refine ⟨Int.natCast_nonneg _, by simp [longR]; omega, ?_⟩
      refine ⟨[GV.v (.int .u8 0)], by simp [longR, hlt], ?_⟩
      refine ⟨i + 1, id, ⟨⟨rfl, rfl, succ_gi (by omega), trivial⟩, ⟨?_, trivial⟩, rfl⟩, hlt, by show n - (i + 1) < n - i; omega⟩
      refine congrArg (fun x => some (Res.row 5 1 x)) ?_
      refine List.ext_getElem? fun j => ?_
      show ((longR n i).set i [GV.v (.int .u8 (IntKind.u8.wrap (i : Int)))])[j]? = (longR n (i + 1))[j]?
      rw [List.getElem?_set]
      by_cases hj : i = j
      · subst hj
        rw [if_pos rfl, u8lo]
        simp [longR, hlt]
      · rw [if_neg hj]
        unfold longR
        rw [List.getElem?_map, List.getElem?_map]
        by_cases hjn : j < n
        · simp only [List.getElem?_range hjn, Option.map_some]
          congr 4
          by_cases h : j < i
          · rw [if_pos h, if_pos (by omega)]
          · rw [if_neg h, if_neg (by omega)]
        · simp [hjn]
    · refine p2 ?_
      obtain rfl : i = n := by omega
      exact ⟨(), id, ⟨⟨rfl, trivial⟩, ⟨rfl, trivial⟩, rfl⟩, trivial⟩
  · rintro _ _
    refine V ?_
    refine ⟨(List.range n).map fun i => UInt8.ofNat i, ?_, ?_⟩
    · unfold longR
      rw [List.map_map]
      refine List.map_congr_left fun j hj => ?_
      rw [if_pos (List.mem_range.1 hj)]
      rfl
    · exact ⟨rfl, rfl⟩
end Go.Proofs.YtbapgglhpbbonaaDoor
