/-
  Contracts: the document's disk: its names, sorted.
-/
import Derived.Test.YtbapgglhpbbonaaDoorCList
import Derived.Test.YtbapgglhpbbonaaDoorCRefDisk
import Derived.Test.YtbapgglhpbbonaaDoorPPlay
import Derived.Sort.OwnSorted
namespace Go.Proofs.YtbapgglhpbbonaaDoor
open Go.GK Go.PL Go.RowKit Go.Maps Go.Sort
set_option maxRecDepth 100000
abbrev rws (l : List ByteArray) : List (List GV) := l.map fun x => [gs x]
theorem row_texts {ro : Nat → Option Obj} {L : List ByteArray} {xs : List Value} (h : RowOk ro 1 (rws L) xs) : xs = (L.map fun s => s.data.toList).map encStr := by
  have hl := h.len
  simp only [rws, List.length_map, Nat.mul_one] at hl
  refine List.ext_getElem? fun i => ?_
  by_cases hi : i < L.length
  · obtain ⟨u, h1, h2⟩ := h.is i [gs L[i]] (by simp [rws, hi]) 0 (gs L[i]) rfl
    rw [Nat.mul_one, Nat.add_zero] at h1
    cases h2
    rw [h1]
    simp [hi, encStr]
  · rw [List.getElem?_eq_none (by omega), List.getElem?_eq_none (by simp; omega)]
theorem rowOk_texts (ro : Nat → Option Obj) (L : List ByteArray) : RowOk ro 1 (rws L) (L.map Value.string) := by
  refine ⟨by simp [rws], fun row hr => ?_, fun i row hr j g hj => ?_, fun u hu => ?_⟩
  · obtain ⟨x, _, rfl⟩ := List.mem_map.1 hr
    rfl
  · rw [List.getElem?_map] at hr
    cases hx : L[i]? with
    | none => rw [hx] at hr; cases hr
    | some x =>
      rw [hx] at hr
      cases hr
      cases j with
      | zero => simp at hj; subst hj; exact ⟨.string x, by simp [hx], .v _⟩
      | succ j => simp at hj
  · obtain ⟨x, _, rfl⟩ := List.mem_map.1 hu
    rfl
theorem sortB_enc (L : List ByteArray) : ((L.map fun s => s.data.toList).mergeSort fun x y => decide (x ≤ y)).map encStr = (sortB L).map Value.string := by
  unfold sortB
  rw [List.map_map]
  rfl
theorem sortB_len (L : List ByteArray) : (sortB L).length = L.length := by
  unfold sortB
  rw [List.length_map, List.length_mergeSort, List.length_map]
theorem strings_hf (L : List ByteArray) (hL : L.length < 4611686018427387904) : Hf pg 40 1 [.o 0] [(0, .row 9 1 (rws L))] fun g σ' n' => g = .tup [] ∧ σ' = [(0, .row 9 1 (rws (sortB L)))] ∧ n' = 1 := by
  refine ⟨Tryd.call40, fun H us w hn hg hcs hs => ?_⟩
  obtain ⟨hul, hi⟩ := hcs
  have hi0 := (hi 0 (.o 0) rfl).inv_o
  have hus : us = #[H.sv 0] := by
    refine Array.ext (by simpa using hul.symm) (fun i h3 h4 => ?_)
    have h5 : i = 0 := by have : i < 1 := by simpa using h4
                          omega
    subst h5
    have := hi0.1
    rw [Array.getD, dif_pos h3] at this
    simpa using this
  subst hus
  obtain ⟨xs, hown, hrow⟩ := hs.holds (0, .row 9 1 (rws L)) (by simp)
  have hxs := row_texts hrow
  obtain ⟨hxl, hcase⟩ := hown
  rcases hcase with ⟨hv, hn0⟩ | ⟨gb, cap, cur, hv, _, hgb, hnc, hcm, hcz, htk⟩
  · have hL0 : L = [] := by
      have : (rws L).length = 0 := hn0
      simpa [rws] using this
    subst hL0
    rw [hv]
    refine (Tryd.sort_Strings_none none 0 w).mono ?_
    rintro _ w' ⟨rfl, hw⟩
    have hw2 : w' = w := hw
    rw [hw2, show sortB [] = [] by simp [sortB]]
    exact ⟨_, .tup [], H, _, rfl, .tup rfl (fun j g h => by simp at h), hs, Fr.refl _ _ _, rfl, rfl, hn⟩
  · simp only [rws, List.length_map, Nat.mul_one] at hxl hnc hcz htk hv
    have hglt : gb < w.heap.size := (Array.getElem?_eq_some_iff.1 hgb).1
    have hH : Holds encStr w gb 0 (L.map fun s => s.data.toList).toArray := holds_of_block hgb (by rw [List.length_map, htk, hxs])
    rw [hv]
    have hC := Tryd.sort_Strings gb 0 cap (L.map fun s => s.data.toList) w hH hglt (by simpa using hL)
    rw [List.length_map] at hC
    refine hC.mono ?_
    rintro _ w' ⟨rfl, n, os, rfl⟩
    refine ⟨_, .tup [], H, _, rfl, .tup rfl (fun j g h => by simp at h), ?_, ?_, rfl, rfl, hn⟩
    · have hown' := ownsRow_sorted (n := n) (os := os) (ss := L.map fun s => s.data.toList) (ts := (L.map fun s => s.data.toList).mergeSort fun x y => decide (x ≤ y)) (by rw [List.length_mergeSort]) (Nat.zero_le gb) hgb (cap := cap) (by simpa using hnc) hcm (by simpa using hcz)
      refine ⟨fun b o hr => ?_, fun x hx => ?_, hs.nodup, hs.free, fun x hx => ?_⟩
      · have hbo := hs.ro b o hr
        have hne : b ≠ gb := fun e => by
          have := hs.free gb (by simp [blks, blocks, hv, Value.ownBlock])
          rw [← e, hr] at this
          cases this
        rw [← hbo]
        exact (grownBy_sorted (w := w) (g := gb) (n := n) (os := os) _).block b (Array.getElem?_eq_some_iff.1 hbo).1 (fun e => hne (Option.some.inj e))
      · simp only [List.mem_cons, List.not_mem_nil, or_false] at hx
        subst hx
        refine ⟨(sortB L).map Value.string, ?_, rowOk_texts _ _⟩
        rw [sortB_enc, List.length_map, ← hv] at hown'
        simpa [rws, sortB_len] using hown'
      · simp only [List.mem_cons, List.not_mem_nil, or_false] at hx
        subst hx
        exact hs.ids (0, .row 9 1 (rws L)) (by simp)
    · refine ⟨rfl, rfl, rfl, ?_, fun b hb hnb => ?_, fun b hb => .inl hb, fun b h1 h2 => absurd h1 h2, Hid.le.refl H⟩
      · rw [size_grow, show (putRow encStr (Sort.ahead w n) gb 0 _).heap.size = w.heap.size from Go.Sort.size_putRow _ _ _ _ _]
        omega
      · refine (grownBy_sorted (w := w) (g := gb) (n := n) (os := os) _).block b hb fun e => hnb ?_
        rw [Option.some.inj e]
        simp [blks, blocks, hv, Value.ownBlock]
/-- What the document's names leave. -/
def NmQ (F : List (Value × Fl)) (left : Int) : GV → Heap → Nat → Prop := fun g σ n => g = .o 2 ∧ σ = [(0, .blk 61 [.o 1, gi left]), (1, .mp none (pes ee F)), (2, .row 9 1 (rws (sortB (F.map fun y => nmOf y.1))))] ∧ n = 3
theorem NmQ.of {f : FuncId} {args : List GV} {σ : Heap} {F : List (Value × Fl)} {left : Int} (h : Hf pg f 2 args σ fun g' σ' n' => ∃ k, g' = .o k ∧ hlook σ' 0 = some (.blk 61 [.o 1, gi left]) ∧ hlook σ' 1 = some (.mp none (pes ee F)) ∧ hlook σ' k = some (.row 9 1 (rws (sortB (F.map fun y => nmOf y.1)))) ∧ (Nat.blt 1 k && Nat.blt k n') = true) : Hf pg f 2 args σ (NmQ F left) := by
  refine h.weak fun g' σ' n' ⟨k, hgg, h1, h2, h3, h4⟩ => ⟨fun i => bif Nat.beq i 2 then k else i, .o 2, _, 3, ⟨rfl, rfl, rfl⟩, by rw [hgg]; rfl, ⟨h1, ?_, ?_, trivial⟩, ?_⟩
  · show hlook σ' 1 = some (.mp none (renM _ (pes ee F)))
    rw [ee_ren]; exact h2
  · show hlook σ' k = some (.row 9 1 (rws _))
    exact h3
  · simp only [Bool.and_eq_true, Nat.blt_eq] at h4
    obtain ⟨m, rfl⟩ : ∃ m, k = m + 2 := ⟨k - 2, by omega⟩
    simp only [idb, idbL, idbH, idbR, ee_id]
    rfl
theorem names_hf (F : List (Value × Fl)) (left : Int) (hk : ∀ y ∈ F, Go.GK.sortB none y.1 = true) (hn : pnodup F) (hsz : F.length ≤ 1000000) : Hf pg 26 2 [.p 0 0] (rheap F left) (NmQ F left) := by
  refine NmQ.of (Hf.of pg_ok Tryd.func26 rfl Tryd.ntmps26 rfl Tryd.results26 Tryd.call26 fun H0 S0 w0 h0 g0 => ?_)
  refine JK.ownNil 3 9 1 rfl ?_
  refine JK.loopE (α := List Value × Option Value × List ByteArray) (β := Option Value × List ByteArray) (fun a => ⟨[(0, .p 0 0), (3, .o 3), (9, .p 2 0)], [(0, .blk 61 [.o 1, gi left]), (1, .itr 2), (2, .mr none (pes ee F) a.1 a.2.1), (3, .row 9 1 (rws a.2.2))], 4⟩)
    (fun a => (a.1 ++ a.2.2.map ks).Perm (F.map (·.1))) (fun a => a.1.length)
    (fun c => ⟨[(3, .o 3)], [(0, .blk 61 [.o 1, gi left]), (1, .itr 2), (2, .mr none (pes ee F) [] c.1), (3, .row 9 1 (rws c.2))], 4⟩) (fun c => (c.2.map ks).Perm (F.map (·.1))) (F.map (·.1), none, []) id ?_ ?_ ?_ ?_
  · refine ⟨⟨rfl, rfl, rfl, trivial⟩, ⟨rfl, rfl, ?_, rfl, trivial⟩, ?_⟩
    · show _ = some (Res.mr none (renM id (pes ee F)) (F.map (·.1)) none)
      rw [ee_ren]
      refine congrArg (fun l => some (Res.mr none (pes ee F) l none)) ?_
      show (pes ee F).map (·.1) = _
      rw [List.map_map]; rfl
    · simp [idbE, idb, idbL, idbH, idbR, ee_id, hids, distB, fixB, memB]; try decide
  · show ((F.map Prod.fst : List Value) ++ List.map ks []).Perm _
    rw [List.map_nil, List.append_nil]
  · rintro ⟨lf, cur, acc⟩ hp
    refine V ?_
    refine ⟨fun e => ?_, fun l1 k l2 g hlk hg => ?_⟩
    · obtain rfl : lf = [] := e
      refine ⟨(cur, acc), id, ⟨⟨rfl, trivial⟩, ⟨rfl, rfl, ?_, rfl, trivial⟩, ?_⟩, hp⟩
      · show _ = some (Res.mr none (renM id _) _ _)
        rw [ee_ren]; rfl
      · simp [idbE, idb, idbL, idbH, idbR, ee_id, hids, distB, fixB, memB]; try decide
    · obtain rfl : lf = l1 ++ k :: l2 := hlk
      replace hp : ((l1 ++ k :: l2) ++ acc.map ks).Perm (F.map (·.1)) := hp
      have hlen := hp.length_eq
      simp only [List.length_append, List.length_cons, List.length_map] at hlen
      obtain ⟨f, x, rfl, hx⟩ : ∃ f x, k = ks f ∧ (ks f, x) ∈ F := by
        have hm : k ∈ F.map (·.1) := hp.mem_iff.1 (by simp)
        obtain ⟨⟨q, x⟩, hx, rfl⟩ := List.mem_map.1 hm
        have hq := hk _ hx
        cases q with
        | string f => exact ⟨f, x, rfl, hx⟩
        | _ => cases hq
      have hef := ee_some ((pfind_mem rfl hk hn).2 hx)
      obtain rfl : ee x = g := Option.some.inj (hef.symm.trans hg)
      refine ⟨_, hef, ?_⟩
      refine ⟨by simp only [List.length_map, List.length_cons, List.length_nil]; omega, ?_⟩
      refine ⟨(l1 ++ l2, some (ks f), acc ++ [f]), fun q => bif Nat.beq q 3 then 5 else q, ⟨⟨rfl, rfl, rfl, trivial⟩, ⟨rfl, rfl, ?_, ?_, trivial⟩, ?_⟩, ?_, by show (l1 ++ l2).length < (l1 ++ ks f :: l2).length; simp⟩
      · exact congrArg (fun l => some (Res.mr none l (l1 ++ l2) (some (ks f)))) (ee_ren _ _).symm
      · refine congrArg (fun x => some (Res.row 9 1 x)) ?_
        show _ = (acc ++ [f]).map fun x => [gs x]
        rw [List.map_append]
        rfl
      · simp [idbE, idb, idbL, idbH, idbR, ee_id, hids, distB, fixB, memB]; try decide
      · show ((l1 ++ l2) ++ (acc ++ [f]).map ks).Perm _
        refine List.Perm.trans ?_ hp
        rw [List.map_append, ← List.append_assoc]
        refine (List.perm_append_comm (l₂ := [f].map ks)).trans ?_
        show (ks f :: ((l1 ++ l2) ++ acc.map ks)).Perm _
        exact (List.perm_middle (l₁ := l1)).symm.append_right _ |>.trans (by exact List.Perm.refl _)
  · rintro ⟨c, acc⟩ hp
    have hlen := List.Perm.length_eq hp
    simp only [List.length_map] at hlen
    have hsb : sortB acc = sortB (F.map fun y => nmOf y.1) := by
      have h2 := List.Perm.map nmOf (show (acc.map ks).Perm (F.map (·.1)) from hp)
      rw [List.map_map, List.map_map, show (acc.map (nmOf ∘ ks)) = acc from by
        rw [show (nmOf ∘ ks) = id from rfl, List.map_id]] at h2
      exact sortB_of (h2.map fun s => s.data.toList)
    refine JK.unrange 1 2 rfl rfl rfl ?_
    refine V ?_
    refine GOH (strings_hf acc (by omega)) (fun _ => 3) rfl rfl ⟨rfl, trivial⟩ rfl (by simp) ?_
    rintro _ _ _ ⟨rfl, rfl, rfl⟩
    rw [hsb]
    exact ⟨3, rfl, rfl, rfl, rfl, rfl⟩
end Go.Proofs.YtbapgglhpbbonaaDoor
