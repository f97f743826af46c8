/-
  Contracts: package index: a new one.
-/
import Derived.Test.YtpenlenmpigomaaDoorK06
import Derived.Test.YtpenlenmpigomaaDoorK07
import Derived.Test.YtpenlenmpigomaaDoorK08
import Derived.Lib.SlicesCompact
import Derived.Shelf.Sort.Plain
import Derived.Shelf.Slices.Turned
import Derived.Shelf.Slices.CompactI
import Derived.Shelf.Slices.SearchI
import Derived.Shelf.Slices.In.SortNone
import Derived.Shelf.Slices.Empties
import Derived.Test.YtpenlenmpigomaaDoorProg
import Derived.Sort.OwnSortedInts
namespace Go.Proofs.YtpenlenmpigomaaDoor
open Go.GK Go.PL Go.RowKit
set_option maxRecDepth 100000
abbrev ks' (s : ByteArray) : Value := .string s
abbrev enc1 (M : In1) : List (Value × List Int) := M.map fun y => (Value.string y.1, y.2)
abbrev encI (L : Ix) : List (Value × List (Value × List Int)) := L.map fun x => (Value.string x.1, enc1 x.2)
abbrev ownI : Fam (List (Value × List Int)) := ownF 3
abbrev lss (S : List (List Lb)) : GV := .sl 1 (S.map fun s => [.sl 2 (s.map lb)])
/-- An index that is no more written. -/
abbrev IX (S : List (List Lb)) (f : List Nat) : Heap := [(0, .blk 47 [gi S.length, .o 1]), (1, .ab (mapA roF none (encI (ixF S)) f))]
theorem noKey1 {s : ByteArray} {M : In1} {m : List (Value × List Int × Value)} (hm : m.map er = enc1 M) (h : s ∉ keysA M) : NoKey s m := fun x hx => by
  have : er x ∈ enc1 M := by rw [← hm]; exact List.mem_map_of_mem hx
  obtain ⟨y, hy, e⟩ := List.mem_map.1 this
  refine ⟨y.1, (congrArg Prod.fst e).symm, fun e' => h ?_⟩
  rw [e']
  exact List.mem_map_of_mem hy
theorem noKeyI {s : ByteArray} {L : Ix} {m : List (Value × List (Value × List Int) × Value)} (hm : m.map er = encI L) (h : s ∉ keysA L) : NoKey s m := fun x hx => by
  have : er x ∈ encI L := by rw [← hm]; exact List.mem_map_of_mem hx
  obtain ⟨y, hy, e⟩ := List.mem_map.1 this
  refine ⟨y.1, (congrArg Prod.fst e).symm, fun e' => h ?_⟩
  rw [e']
  exact List.mem_map_of_mem hy
theorem encI_mid (l1 l2 : Ix) (n : ByteArray) (M : In1) : encI (l1 ++ (n, M) :: l2) = encI l1 ++ (Value.string n, enc1 M) :: encI l2 := by simp [encI]
theorem enc1_mid (l1 l2 : In1) (n : ByteArray) (r : List Int) : enc1 (l1 ++ (n, r) :: l2) = enc1 l1 ++ (Value.string n, r) :: enc1 l2 := by simp [enc1]
theorem iRow_snoc (r : List Int) (i : Nat) : iRow r ++ [[GV.v (.int .i64 (i : Int))]] = iRow (r ++ [(i : Int)]) := by simp [iRow]
/-- What a new index is. -/
def NewQ (S : List (List Lb)) (g : GV) (σ : Heap) (n : Nat) : Prop :=
  ((∀ s ∈ S, rightF s = true) ∧ ∃ f, g = .tup [.p 0 0, .v .nilIface] ∧ σ = IX S f ∧ n = 2) ∨
  (∃ i, ∃ _ : i < S.length, (∀ j (h : j < S.length), j < i → rightF S[j] = true) ∧ rightF S[i] = false ∧ g = .tup [.v (.pointer none), .ifc 48 (.r [gi 1, gi i])] ∧ σ = [] ∧ n = 0)
theorem new_hf (S : List (List Lb)) (hS : ∀ s ∈ S, Sh s ∧ s.length ≤ 1000000) (hl : S.length ≤ 1000000) : Hf pg 7 0 [lss S] [] (NewQ S) := by
  refine Hf.weak (Q := fun g σ _ => ((∀ s ∈ S, rightF s = true) ∧ ∃ f, g = .tup [.p 1 0, .v .nilIface] ∧ hlook σ 1 = some (.blk 47 [gi S.length, .o 0]) ∧ hlook σ 0 = some (.ab (mapA roF none (encI (ixF S)) f))) ∨
    (∃ i, ∃ _ : i < S.length, (∀ j (h : j < S.length), j < i → rightF S[j] = true) ∧ rightF S[i] = false ∧ g = .tup [.v (.pointer none), .ifc 48 (.r [gi 1, gi i])])) (Hf.ofJ pg_ok Tryd.func7 rfl Tryd.ntmps7 rfl Tryd.results7 Tryd.call7 fun H0 S0 w0 h0 g0 => ?_) ?_
  · have hll : (S.map fun s => [GV.sl 2 (s.map lb)]).length = S.length := by simp
    refine VM 14 ?_
    refine JK.mnew ownI 0 rfl fun f0 => ?_
    refine V ?_
    refine JK.loopE (α := Nat × List Nat) (β := List Nat) (fun z => ⟨[(4, .p 1 0), (14, lss S), (15, gi S.length), (16, gi z.1)], [(1, .blk 47 [gi S.length, .o 0]), (0, .ab (mapA ownI none (encI (ixF (S.take z.1))) z.2))], 2⟩) (fun z => z.1 ≤ S.length ∧ ∀ j (h : j < S.length), j < z.1 → rightF S[j] = true) (fun z => S.length - z.1)
      (fun f => ⟨[(4, .p 1 0)], [(1, .blk 47 [gi S.length, .o 0]), (0, .ab (mapA ownI none (encI (ixF S)) f))], 2⟩) (fun _ => ∀ s ∈ S, rightF s = true) (0, f0) id ?_ ⟨Nat.zero_le _, fun j _ h => absurd h (Nat.not_lt_zero _)⟩ ?_ ?_
    · exact ⟨⟨rfl, rfl, congrArg (fun n : Nat => some (gi n)) hll, rfl, trivial⟩, ⟨by rw [← hll]; rfl, rfl, trivial⟩, rfl⟩
    · rintro ⟨i, f⟩ ⟨hi, hok⟩
      simp only at hi hok
      refine V ?_
      by_cases hlt : i < S.length
      · obtain ⟨hsh, hsl⟩ := hS S[i] (List.getElem_mem hlt)
        refine p1 ?_ (decide_eq_true (by dsimp only; omega))
        refine ix (h := ?_)
        rcases tf (rightF S[i]) with hr | hr
        · refine GO ((right_rt S[i] hsh).bt hr) rfl ?_
          have hlj : (S[i].map lb).length = S[i].length := by simp
          refine JK.loopE (α := Nat × List Nat) (β := List Nat) (fun z => ⟨[(4, .p 1 0), (14, lss S), (15, gi S.length), (16, gi i), (5, gi i), (28, .sl 2 (S[i].map lb)), (29, gi S[i].length), (30, gi z.1)], [(1, .blk 47 [gi S.length, .o 0]), (0, .ab (mapA ownI none (encI ((S[i].take z.1).foldl (addI i) (ixF (S.take i)))) z.2))], 2⟩) (fun z => z.1 ≤ S[i].length) (fun z => S[i].length - z.1)
            (fun f => ⟨[(4, .p 1 0), (14, lss S), (15, gi S.length), (16, gi i)], [(1, .blk 47 [gi S.length, .o 0]), (0, .ab (mapA ownI none (encI (ixF (S.take (i + 1)))) f))], 2⟩) (fun _ => True) (0, f) id ?_ (Nat.zero_le _) ?_ ?_
          · exact ⟨⟨rfl, rfl, rfl, rfl, rfl, rfl, congrArg (fun n : Nat => some (gi n)) hlj, rfl, trivial⟩, ⟨rfl, rfl, trivial⟩, rfl⟩
          · rintro ⟨j, f⟩ hj
            replace hj : j ≤ S[i].length := hj
            refine VM 16 ?_
            by_cases hjl : j < S[i].length
            · refine p1 ?_ (decide_eq_true (by dsimp only; omega))
              refine ix (h := ?_)
              refine JK.freezeB 2 rfl rfl ?_
              have hstep : (S[i].take (j + 1)).foldl (addI i) (ixF (S.take i)) = addI i ((S[i].take j).foldl (addI i) (ixF (S.take i))) S[i][j] := by
                rw [List.take_succ_eq_append_getElem hjl, List.foldl_append]
                rfl
              have hrows : RowsLe 1000001000000 ((S[i].take j).foldl (addI i) (ixF (S.take i))) := fun x hx y hy => by
                have h1 := ixF_rows 1000000 (S.take i) fun s hs => (hS s (List.mem_of_mem_take hs)).2
                have h2 := RowsLe.fold (i := i) (l := S[i].take j) h1 x hx y hy
                simp only [List.length_take] at h2
                have h3 : min i S.length * 1000000 ≤ 1000000 * 1000000 := Nat.mul_le_mul_right _ (by omega)
                omega
              generalize (S[i].take j).foldl (addI i) (ixF (S.take i)) = L at hstep hrows
              by_cases hn : S[i][j].name ∈ keysA L
              · obtain ⟨l1, M, l2, hL, hn1⟩ := splitA hn
                have hX : some (Res.ab (mapA ownI none (encI L) f)) = some (Res.ab (mapA ownI none (encI l1 ++ (Value.string S[i][j].name, enc1 M) :: encI l2) f)) := by rw [hL, encI_mid]
                by_cases hv : S[i][j].value ∈ keysA M
                · obtain ⟨k1, r, k2, hM, hv1⟩ := splitA hv
                  refine JK.focus (F := ownI) (kd := none) (l1 := encI l1) (l2 := encI l2) (key := .string S[i][j].name) (x := enc1 M) 0 hX fun m1 m2 f1 f2 hm1 hm2 => ?_
                  refine JK.focus (F := rowF 3) (kd := none) (l1 := enc1 k1) (l2 := enc1 k2) (key := .string S[i][j].value) (x := r) (f := f1) 3 (congrArg (fun q => some (Res.ab (mapA (rowF 3) none q f1))) (by rw [hM, enc1_mid])) fun q1 q2 g1 g2 hq1 hq2 => ?_
                  refine JK.unpack 5 (n := 1) (τ := [(0, .row 3 1 (iRow r))]) (fp := g1) rfl ?_
                  refine V ?_
                  refine ⟨by kernel_rfl, ?_⟩
                  refine lkS (find_mid (noKeyI hm1 hn1)) ?_
                  refine p2 ?_
                  refine JK.drawJ [3, 5] ⟨[(4, .p 1 0), (14, lss S), (15, gi S.length), (16, gi i), (5, gi i), (28, .sl 2 (S[i].map lb)), (29, gi S[i].length), (30, gi j)], [(1, .blk 47 [gi S.length, .o 0]), (0, .mp none (mE m1 ++ (Value.string S[i][j].name, .o 3) :: mE m2)), (3, .mp none (mE q1 ++ (Value.string S[i][j].value, .o 5) :: mE q2)), (5, .row 3 1 (iRow (r ++ [(i : Int)]))), (4, .ab (bag ownI ((m1 ++ m2).map (·.2)) f2)), (6, .ab (bag (rowF 3) ((q1 ++ q2).map (·.2)) g2))], 7⟩ pg_ok ?_ (fun hk => ?_)
                  · refine JK.pack (fun _ => 5) 1 5 [(0, .row 3 1 (iRow (r ++ [(i : Int)])))] ⟨rfl, trivial⟩ rfl fun g1 => ?_
                    refine JK.unfocus (F := rowF 3) (kd := none) (m1 := q1) (m2 := q2) (x := r ++ [(i : Int)]) (f1 := g1) (f2 := g2) 3 5 6 rfl rfl rfl fun f1 => ?_
                    refine JK.unfocus (F := ownI) (kd := none) (m1 := m1) (m2 := m2) (x := q1.map er ++ (Value.string S[i][j].value, r ++ [(i : Int)]) :: q2.map er) (f1 := f1) (f2 := f2) 0 3 4 rfl rfl rfl fun f' => ?_
                    refine V ?_
                    refine ⟨(j + 1, f'), id, ⟨⟨rfl, rfl, rfl, rfl, rfl, rfl, rfl, succ_gi (by omega), trivial⟩, ⟨rfl, ?_, trivial⟩, rfl⟩, hjl, by show S[i].length - (j + 1) < S[i].length - j; omega⟩
                    refine congrArg (fun q => some (Res.ab (mapA ownI none q f'))) ?_
                    rw [hstep, hm1, hm2, hq1, hq2, ← enc1_mid, ← encI_mid, hL, hM]
                    unfold addI
                    rw [modA_old hn1, modA_old hv1]
                  · refine RA.run (cx := ⟨pg, _, _, _, _, _, _, _⟩) pg_ok (by kernel_rfl) (by intro _ _ h; exact h) (tk [0, 1, 2, 3, 4, 5, 6, 7, 8, 9, 10, 11, 12, 13, 14, 15, 16, 17, 19]) (e := false) (by kernel_rfl) ?_
                    refine lkS (find_mid (noKeyI hm1 hn1)) ?_
                    refine lkS (find_mid (noKeyI hm1 hn1)) ?_
                    have hrl : ((iRow r).length + 1) * 8 ≤ 140737488355328 := by
                      have := hrows (S[i][j].name, M) (by rw [hL]; simp) (S[i][j].value, r) (by rw [hM]; simp)
                      simp only [iRow, List.length_map] at this ⊢
                      omega
                    refine RA.both 18 20 (eqB_eq (by kernel_rfl)) (Stp.read 18 pg_ok rfl rfl ?_) (Stp.mem 20 pg_ok rfl rfl rfl ?_)
                    · refine lkS (find_mid (noKey1 hq1 hv1)) ?_
                      refine RA.run (cx := ⟨pg, _, _, _, _, _, _, _⟩) pg_ok (by kernel_rfl) (by intro _ _ h; exact h) (al [20, 21, 22]) (e := false) (by kernel_rfl) ?_
                      refine ⟨hrl, ?_⟩
                      refine RA.endJ (r1 5 9) (by kernel_rfl) hk ⟨⟨rfl, rfl, rfl, rfl, rfl, rfl, rfl, rfl, trivial⟩, ⟨rfl, congrArg (fun q => some (Res.mp none q)) (mid_ren (f := r1 5 9) (Y := 3)).symm, congrArg (fun q => some (Res.mp none q)) ((put_mid (noKey1 hq1 hv1)).trans (mid_ren (f := r1 5 9) (Y := 5)).symm), congrArg (fun q => some (Res.row 3 1 q)) (iRow_snoc r i), rfl, rfl, trivial⟩, ?_⟩
                      simp [idbE, idb, idbL, idbH, idbR, hids, distB, fixB, memB, mid_idb, end_idb]; try decide
                    · refine RA.run (cx := ⟨pg, _, _, _, _, _, _, _⟩) pg_ok (by kernel_rfl) (by intro _ _ h; exact h) (al [18, 21, 22]) (e := false) (by kernel_rfl) ?_
                      refine lkS (find_mid (noKey1 hq1 hv1)) ?_
                      refine ⟨hrl, ?_⟩
                      refine RA.endJ (r1 5 9) (by kernel_rfl) hk ⟨⟨rfl, rfl, rfl, rfl, rfl, rfl, rfl, rfl, trivial⟩, ⟨rfl, congrArg (fun q => some (Res.mp none q)) (mid_ren (f := r1 5 9) (Y := 3)).symm, congrArg (fun q => some (Res.mp none q)) ((put_mid (noKey1 hq1 hv1)).trans (mid_ren (f := r1 5 9) (Y := 5)).symm), congrArg (fun q => some (Res.row 3 1 q)) (iRow_snoc r i), rfl, rfl, trivial⟩, ?_⟩
                      simp [idbE, idb, idbL, idbH, idbR, hids, distB, fixB, memB, mid_idb, end_idb]; try decide
                · refine JK.focus (F := ownI) (kd := none) (l1 := encI l1) (l2 := encI l2) (key := .string S[i][j].name) (x := enc1 M) 0 hX fun m1 m2 f1 f2 hm1 hm2 => ?_
                  refine JK.mopen (F := rowF 3) (kd := none) (l := enc1 M) (f := f1) 3 rfl fun q g2 hq => ?_
                  refine V ?_
                  refine ⟨by kernel_rfl, ?_⟩
                  refine lkS (find_mid (noKeyI hm1 hn1)) ?_
                  refine p2 ?_
                  refine JK.drawJ [3] ⟨[(4, .p 1 0), (14, lss S), (15, gi S.length), (16, gi i), (5, gi i), (28, .sl 2 (S[i].map lb)), (29, gi S[i].length), (30, gi j)], [(1, .blk 47 [gi S.length, .o 0]), (0, .mp none (mE m1 ++ (Value.string S[i][j].name, .o 3) :: mE m2)), (3, .mp none (mE q ++ (Value.string S[i][j].value, .o 2) :: mE ([] : List (Value × List Int × Value)))), (2, .row 3 1 (iRow [(i : Int)])), (4, .ab (bag ownI ((m1 ++ m2).map (·.2)) f2)), (5, .ab (bag (rowF 3) (q.map (·.2)) g2))], 6⟩ pg_ok ?_ (fun hk => ?_)
                  · refine JK.pack (fun _ => 2) 1 2 [(0, .row 3 1 (iRow [(i : Int)]))] ⟨rfl, trivial⟩ rfl fun g1 => ?_
                    refine JK.unfocus (F := rowF 3) (kd := none) (m1 := q) (m2 := []) (x := [(i : Int)]) (f1 := g1) (f2 := g2) 3 2 5 rfl rfl (congrArg (fun q' : List (Value × List Int × Value) => some (Res.ab (bag (rowF 3) (q'.map Prod.snd) g2))) (List.append_nil q).symm) fun f1 => ?_
                    refine JK.unfocus (F := ownI) (kd := none) (m1 := m1) (m2 := m2) (x := q.map er ++ (Value.string S[i][j].value, [(i : Int)]) :: List.map er ([] : List (Value × List Int × Value))) (f1 := f1) (f2 := f2) 0 3 4 rfl rfl rfl fun f' => ?_
                    refine V ?_
                    refine ⟨(j + 1, f'), id, ⟨⟨rfl, rfl, rfl, rfl, rfl, rfl, rfl, succ_gi (by omega), trivial⟩, ⟨rfl, ?_, trivial⟩, rfl⟩, hjl, by show S[i].length - (j + 1) < S[i].length - j; omega⟩
                    refine congrArg (fun q => some (Res.ab (mapA ownI none q f'))) ?_
                    have e : enc1 (M ++ [(S[i][j].value, [(i : Int)])]) = enc1 M ++ (Value.string S[i][j].value, [(i : Int)]) :: List.map er ([] : List (Value × List Int × Value)) := by simp [enc1]
                    rw [hstep, hm1, hm2, hq, ← e, ← encI_mid, hL]
                    unfold addI
                    rw [modA_old hn1, modA_new hv]
                    rfl
                  · refine RA.run (cx := ⟨pg, _, _, _, _, _, _, _⟩) pg_ok (by kernel_rfl) (by intro _ _ h; exact h) (tk [0, 1, 2, 3, 4, 5, 6, 7, 8, 9, 10, 11, 12, 13, 14, 15, 16, 17, 19]) (e := false) (by kernel_rfl) ?_
                    refine lkS (find_mid (noKeyI hm1 hn1)) ?_
                    refine lkS (find_mid (noKeyI hm1 hn1)) ?_
                    refine RA.both 18 20 (eqB_eq (by kernel_rfl)) (Stp.read 18 pg_ok rfl rfl ?_) (Stp.mem 20 pg_ok rfl rfl rfl ?_)
                    · refine lkN (find_no (noKey1 hq hv)) ?_
                      refine RA.run (cx := ⟨pg, _, _, _, _, _, _, _⟩) pg_ok (by kernel_rfl) (by intro _ _ h; exact h) (al [20, 21, 22]) (e := false) (by kernel_rfl) ?_
                      refine ⟨by simp, ?_⟩
                      refine RA.endJ (r1 2 7) (by kernel_rfl) hk ⟨⟨rfl, rfl, rfl, rfl, rfl, rfl, rfl, rfl, trivial⟩, ⟨rfl, congrArg (fun q => some (Res.mp none q)) (mid_ren (f := r1 2 7) (Y := 3)).symm, congrArg (fun q => some (Res.mp none q)) ((put_no (noKey1 hq hv)).trans (mid_ren (f := r1 2 7) (Y := 2) (m2 := ([] : List (Value × List Int × Value)))).symm), rfl, rfl, rfl, trivial⟩, ?_⟩
                      simp [idbE, idb, idbL, idbH, idbR, hids, distB, fixB, memB, mid_idb, end_idb]; try decide
                    · refine RA.run (cx := ⟨pg, _, _, _, _, _, _, _⟩) pg_ok (by kernel_rfl) (by intro _ _ h; exact h) (al [18, 21, 22]) (e := false) (by kernel_rfl) ?_
                      refine lkN (find_no (noKey1 hq hv)) ?_
                      refine ⟨by simp, ?_⟩
                      refine RA.endJ (r1 2 7) (by kernel_rfl) hk ⟨⟨rfl, rfl, rfl, rfl, rfl, rfl, rfl, rfl, trivial⟩, ⟨rfl, congrArg (fun q => some (Res.mp none q)) (mid_ren (f := r1 2 7) (Y := 3)).symm, congrArg (fun q => some (Res.mp none q)) ((put_no (noKey1 hq hv)).trans (mid_ren (f := r1 2 7) (Y := 2) (m2 := ([] : List (Value × List Int × Value)))).symm), rfl, rfl, rfl, trivial⟩, ?_⟩
                      simp [idbE, idb, idbL, idbH, idbR, hids, distB, fixB, memB, mid_idb, end_idb]; try decide
              · refine JK.mopen (F := ownI) (kd := none) (l := encI L) (f := f) 0 rfl fun m f2 hm => ?_
                refine V ?_
                refine ⟨by kernel_rfl, ?_⟩
                refine lkN (find_no (noKeyI hm hn)) ?_
                refine p1 ?_
                refine DRAW [0] true (tk [0, 1, 2, 3, 4, 5] ++ al [6, 7]) (by kernel_rfl) ?_
                have hfind := (congrArg (mfind (Value.string S[i][j].name)) (put_no (noKeyI hm hn))).trans (find_mid (g := .o 4) (m2 := ([] : List (Value × List (Value × List Int) × Value))) (noKeyI hm hn))
                refine JK.drawJ [4] ⟨[(4, .p 1 0), (14, lss S), (15, gi S.length), (16, gi i), (5, gi i), (28, .sl 2 (S[i].map lb)), (29, gi S[i].length), (30, gi j)], [(1, .blk 47 [gi S.length, .o 0]), (0, .mp none (mE m ++ (Value.string S[i][j].name, .o 4) :: mE ([] : List (Value × List (Value × List Int) × Value)))), (4, .mp none [(Value.string S[i][j].value, .o 2)]), (2, .row 3 1 (iRow [(i : Int)])), (3, .ab (bag ownI (m.map (·.2)) f2))], 5⟩ pg_ok ?_ (fun hk => ?_)
                · refine JK.pack (fun _ => 2) 1 2 [(0, .row 3 1 (iRow [(i : Int)]))] ⟨rfl, trivial⟩ rfl fun g1 => ?_
                  refine JK.bag0 (rowF 3) ?_
                  refine JK.unfocus (F := rowF 3) (kd := none) (m1 := []) (m2 := []) (x := [(i : Int)]) (f1 := g1) (f2 := []) 4 2 5 rfl rfl rfl fun f1 => ?_
                  refine JK.unfocus (F := ownI) (kd := none) (m1 := m) (m2 := []) (x := [(Value.string S[i][j].value, [(i : Int)])]) (f1 := f1) (f2 := f2) 0 4 3 rfl rfl (congrArg (fun q' : List (Value × List (Value × List Int) × Value) => some (Res.ab (bag ownI (q'.map Prod.snd) f2))) (List.append_nil m).symm) fun f' => ?_
                  refine V ?_
                  refine ⟨(j + 1, f'), id, ⟨⟨rfl, rfl, rfl, rfl, rfl, rfl, rfl, succ_gi (by omega), trivial⟩, ⟨rfl, ?_, trivial⟩, rfl⟩, hjl, by show S[i].length - (j + 1) < S[i].length - j; omega⟩
                  refine congrArg (fun q => some (Res.ab (mapA ownI none q f'))) ?_
                  have e : encI (L ++ [(S[i][j].name, [(S[i][j].value, [(i : Int)])])]) = encI L ++ (Value.string S[i][j].name, [(Value.string S[i][j].value, [(i : Int)])]) :: List.map er ([] : List (Value × List (Value × List Int) × Value)) := by simp [encI, enc1]
                  rw [hstep, hm, ← e]
                  unfold addI
                  rw [modA_new hn]
                  rfl
                · refine RA.run (cx := ⟨pg, _, _, _, _, _, _, _⟩) pg_ok (by kernel_rfl) (by intro _ _ h; exact h) (tk [0, 1, 2, 3, 4, 5, 6, 7, 8, 9, 10, 11, 12, 13, 14, 15, 16, 17, 19]) (e := false) (by kernel_rfl) ?_
                  refine lkS hfind ?_
                  refine lkS hfind ?_
                  refine RA.both 18 20 (eqB_eq (by kernel_rfl)) (Stp.read 18 pg_ok rfl rfl ?_) (Stp.mem 20 pg_ok rfl rfl rfl ?_)
                  · refine lkN rfl ?_
                    refine RA.run (cx := ⟨pg, _, _, _, _, _, _, _⟩) pg_ok (by kernel_rfl) (by intro _ _ h; exact h) (al [20, 21, 22]) (e := false) (by kernel_rfl) ?_
                    refine ⟨by simp, ?_⟩
                    refine RA.endJ (r1 2 6) (by kernel_rfl) hk ⟨⟨rfl, rfl, rfl, rfl, rfl, rfl, rfl, rfl, trivial⟩, ⟨rfl, congrArg (fun q => some (Res.mp none q)) ((put_no (noKeyI hm hn)).trans (mid_ren (f := r1 2 6) (Y := 4) (m2 := ([] : List (Value × List (Value × List Int) × Value)))).symm), rfl, rfl, rfl, trivial⟩, ?_⟩
                    simp [idbE, idb, idbL, idbH, idbR, idbM, hids, distB, fixB, memB, mid_idb, end_idb]; try decide
                  · refine RA.run (cx := ⟨pg, _, _, _, _, _, _, _⟩) pg_ok (by kernel_rfl) (by intro _ _ h; exact h) (al [18, 21, 22]) (e := false) (by kernel_rfl) ?_
                    refine lkN rfl ?_
                    refine ⟨by simp, ?_⟩
                    refine RA.endJ (r1 2 6) (by kernel_rfl) hk ⟨⟨rfl, rfl, rfl, rfl, rfl, rfl, rfl, rfl, trivial⟩, ⟨rfl, congrArg (fun q => some (Res.mp none q)) ((put_no (noKeyI hm hn)).trans (mid_ren (f := r1 2 6) (Y := 4) (m2 := ([] : List (Value × List (Value × List Int) × Value)))).symm), rfl, rfl, rfl, trivial⟩, ?_⟩
                    simp [idbE, idb, idbL, idbH, idbR, idbM, hids, distB, fixB, memB, mid_idb, end_idb]; try decide
            · refine p2 ?_ (decide_eq_false (by dsimp only; omega))
              obtain rfl : j = S[i].length := by omega
              refine ⟨f, id, ⟨⟨rfl, rfl, rfl, rfl, trivial⟩, ⟨rfl, ?_, trivial⟩, rfl⟩, trivial⟩
              rw [ixF_take S i hlt]
              simp only [List.take_length]
              rfl
          · rintro f _
            refine V ?_
            refine ⟨(i + 1, f), id, ⟨⟨rfl, rfl, rfl, succ_gi (by omega), trivial⟩, ⟨rfl, rfl, trivial⟩, rfl⟩, ⟨hlt, fun j h h2 => ?_⟩, by simp only; omega⟩
            rcases Nat.lt_succ_iff_lt_or_eq.1 h2 with h3 | rfl
            · exact hok j h h3
            · exact hr
        · refine GOJ (Rq.hf ((right_rt S[i] hsh).bt hr)) id rfl rfl trivial rfl (fun _ h => absurd h (Nat.not_lt_zero _)) ?_
          rintro _ _ _ ⟨rfl, rfl, rfl⟩
          refine VM 8 ?_
          refine FZB 2 rfl rfl ?_
          exact .inr ⟨i, hlt, hok, hr, rfl⟩
      · refine p2 ?_ (decide_eq_false (by dsimp only; omega))
        obtain rfl : i = S.length := by omega
        refine ⟨f, id, ⟨⟨rfl, trivial⟩, ⟨rfl, ?_, trivial⟩, rfl⟩, fun s hs => ?_⟩
        · simp only [List.take_length]; rfl
        · obtain ⟨j, hj, rfl⟩ := List.getElem_of_mem hs
          exact hok j hj hj
    · rintro f hall
      refine JK.frzIx 0 rfl fun f' => ?_
      refine V ?_
      exact .inl ⟨hall, f', rfl, rfl, rfl⟩
  · rintro g σ n (⟨hall, f, rfl, h1, h2⟩ | ⟨i, hi, h1, h2, rfl⟩)
    · exact ⟨fun i => bif Nat.beq i 0 then 1 else 0, .tup [.p 0 0, .v .nilIface], IX S f, 2, .inl ⟨hall, f, rfl, rfl, rfl⟩, rfl, ⟨h1, h2, trivial⟩, rfl⟩
    · exact ⟨id, _, [], 0, .inr ⟨i, hi, h1, h2, rfl, rfl, rfl⟩, rfl, trivial, rfl⟩
end Go.Proofs.YtpenlenmpigomaaDoor
/-
  Plain laws: numbers that stand in order, each left once. No program is in sight.
-/
namespace Go.PL
open Go Go.GK Go.Lib
theorem compact_sorted (l : List Int) (h : l.Pairwise (· ≤ ·)) : Ris (compact l) ∧ ∀ z, z ∈ compact l ↔ z ∈ l := by
  suffices hm : ∀ m, m ≤ l.length → Ris (compactUpTo l.toArray m) ∧ ∀ z, z ∈ compactUpTo l.toArray m ↔ z ∈ l.take m by
    have := hm l.length (Nat.le_refl _)
    rw [List.take_length] at this
    exact this
  intro m
  induction m with
  | zero => intro _; exact ⟨by simp [compactUpTo], by simp [compactUpTo]⟩
  | succ m ih =>
    intro hm
    have hlt : m < l.length := hm
    obtain ⟨h1, h2⟩ := ih (by omega)
    have hg : ∀ j (hj : j < l.length), l.toArray[j]! = l[j] := fun j hj => by simp [hj]
    rw [compactUpTo_succ, List.take_succ_eq_append_getElem hlt]
    by_cases hk : keeps l.toArray m = true
    · rw [if_pos hk, hg m hlt]
      refine ⟨List.pairwise_append.2 ⟨h1, List.pairwise_singleton _ _, fun a ha b hb => ?_⟩, fun z => by rw [List.mem_append, List.mem_append, h2]⟩
      rw [List.mem_singleton.1 hb]
      obtain ⟨j, hj, rfl⟩ := List.getElem_of_mem ((h2 a).1 ha)
      rw [List.length_take] at hj
      rw [List.getElem_take]
      have hle := List.pairwise_iff_getElem.1 h
      cases m with
      | zero => omega
      | succ q =>
        have h3 : l[q] ≠ l[q + 1] := by
          unfold keeps at hk
          rw [decide_eq_true_iff] at hk
          rcases hk with hk | hk
          · omega
          · rw [Nat.add_sub_cancel, hg q (by omega), hg (q + 1) hlt] at hk
            exact fun e => hk e.symm
        have h4 : l[q] ≤ l[q + 1] := hle q (q + 1) (by omega) hlt (by omega)
        have h5 : l[j] ≤ l[q] := by
          by_cases e : j = q
          · subst e; exact Int.le_refl _
          · exact hle j q (by omega) (by omega) (by omega)
        omega
    · rw [if_neg hk, List.append_nil]
      refine ⟨h1, fun z => ?_⟩
      rw [h2, List.mem_append, List.mem_singleton]
      refine ⟨.inl, fun hz => hz.elim id fun e => ?_⟩
      cases m with
      | zero => exact absurd (by simp [keeps]) hk
      | succ q =>
        have h3 : l[q] = l[q + 1] := by
          unfold keeps at hk
          rw [decide_eq_true_iff, not_or, Decidable.not_not] at hk
          have := hk.2
          rw [Nat.add_sub_cancel, hg q (by omega), hg (q + 1) hlt] at this
          exact this.symm
        rw [e, ← h3, List.mem_iff_getElem]
        exact ⟨q, by rw [List.length_take]; omega, by simp⟩
theorem compact_le (l : List Int) : (compact l).length ≤ l.length := by
  unfold compact compactUpTo
  rw [List.length_map]
  exact Nat.le_trans (List.length_filter_le _ _) (by simp)
/-- Those of either. -/
def orF (a b : List Int) : List Int := compact ((a ++ b).mergeSort fun x y => decide (x ≤ y))
theorem orF_is (a b : List Int) : IsOr a b (orF a b) := by
  have hs : ((a ++ b).mergeSort fun x y => decide (x ≤ y)).Pairwise (· ≤ ·) := by
    have := List.pairwise_mergeSort (le := fun x y : Int => decide (x ≤ y)) (fun a b c h1 h2 => by simp at h1 h2 ⊢; omega) (fun a b => by simp; omega) (a ++ b)
    exact this.imp fun h => by simpa using h
  obtain ⟨h1, h2⟩ := compact_sorted _ hs
  exact ⟨h1, fun z => by unfold orF; rw [h2, List.mem_mergeSort, List.mem_append]⟩
theorem orF_up (N : Nat) (p q : Nat → Bool) : orF (upL N p) (upL N q) = upL N fun i => p i || q i := or_up (orF_is _ _)
theorem orF_len (a b : List Int) : (orF a b).length ≤ a.length + b.length := by
  unfold orF compact compactUpTo
  rw [List.length_map]
  refine Nat.le_trans (List.length_filter_le _ _) ?_
  simp
end Go.PL
/-
  DERIVED: THE SHELF's CONTRACTS AT THIS DUMP, IN PLAIN WORDS (tools/lay-plain.mjs out of 'TrydShelf.lean', which tools/lay-shelf.mjs wrote): THE SAME DECLARATIONS UNDER THE SAME NAMES: 'import', 'namespace', 'open', 'def', 'theorem' AND NOTHING ELSE: no command of the shelf's: FOR A HAND-IN. Each laying: the table of numbers ('.._ren') and one theorem, a field a fact of the dump's own or the kernel's comparison; each contract: ONE APPLICATION.
-/
namespace Go.Proofs
open Go.Shelf
def Tryd.lays189_ren : Go.Shelf.Ren := ⟨fun | 189 => 21 | 125 => 34 | 257 => 33 | 128 => 50 | 129 => 51 | 294 => 42 | 295 => 43 | 296 => 44 | 297 => 45 | 298 => 46 | 299 => 47 | 216 => 40 | 300 => 48 | 301 => 49 | 328 => 61 | 329 => 62 | 330 => 63 | 331 => 64 | 332 => 65 | 215 => 60 | 343 => 71 | n => n, fun | 28 => 33 | 3 => 3 | 46 => 71 | 0 => 0 | 51 => 86 | 53 => 88 | 4 => 4 | 183 => 80 | 182 => 79 | 131 => 65 | 5 => 5 | 9 => 9 | 218 => 96 | 222 => 100 | 228 => 106 | 229 => 107 | n => n, fun | n => n⟩
theorem Tryd.lays189 : Go.Proofs.Lays.n189 Tryd.prog Tryd.lays189_ren := {
  mixed := by kernel_rfl
  f125 := Tryd.func34.trans (congrArg some (by kernel_rfl))
  f128 := Tryd.func50.trans (congrArg some (by kernel_rfl))
  f129 := Tryd.func51.trans (congrArg some (by kernel_rfl))
  f189 := Tryd.func21.trans (congrArg some (by kernel_rfl))
  f215 := Tryd.func60.trans (congrArg some (by kernel_rfl))
  f216 := Tryd.func40.trans (congrArg some (by kernel_rfl))
  f257 := Tryd.func33.trans (congrArg some (by kernel_rfl))
  f294 := Tryd.func42.trans (congrArg some (by kernel_rfl))
  f295 := Tryd.func43.trans (congrArg some (by kernel_rfl))
  f296 := Tryd.func44.trans (congrArg some (by kernel_rfl))
  f297 := Tryd.func45.trans (congrArg some (by kernel_rfl))
  f298 := Tryd.func46.trans (congrArg some (by kernel_rfl))
  f299 := Tryd.func47.trans (congrArg some (by kernel_rfl))
  f300 := Tryd.func48.trans (congrArg some (by kernel_rfl))
  f301 := Tryd.func49.trans (congrArg some (by kernel_rfl))
  f328 := Tryd.func61.trans (congrArg some (by kernel_rfl))
  f329 := Tryd.func62.trans (congrArg some (by kernel_rfl))
  f330 := Tryd.func63.trans (congrArg some (by kernel_rfl))
  f331 := Tryd.func64.trans (congrArg some (by kernel_rfl))
  f332 := Tryd.func65.trans (congrArg some (by kernel_rfl))
  f343 := Tryd.func71.trans (congrArg some (by kernel_rfl))
  t0 := Tryd.underlying0
  a0 := Tryd.isAgg0
  z0 := Tryd.sizeOf0
  v0 := Tryd.zeroValue0
  t3 := Tryd.underlying3
  a3 := Tryd.isAgg3
  z3 := Tryd.sizeOf3
  v3 := Tryd.zeroValue3
  t4 := Tryd.underlying4
  a4 := Tryd.isAgg4
  z4 := Tryd.sizeOf4
  v4 := Tryd.zeroValue4
  t5 := Tryd.underlying5
  a5 := Tryd.isAgg5
  z5 := Tryd.sizeOf5
  v5 := Tryd.zeroValue5
  t9 := Tryd.underlying9
  a9 := Tryd.isAgg9
  z9 := Tryd.sizeOf9
  v9 := Tryd.zeroValue9
  t28 := Tryd.underlying33
  a28 := Tryd.isAgg33
  z28 := Tryd.sizeOf33
  v28 := Tryd.zeroValue33
  t46 := Tryd.underlying71
  a46 := Tryd.isAgg71
  z46 := Tryd.sizeOf71
  v46 := Tryd.zeroValue71
  t51 := Tryd.underlying86
  a51 := Tryd.isAgg86
  z51 := Tryd.sizeOf86
  v51 := Tryd.zeroValue86
  t53 := Tryd.underlying88
  a53 := Tryd.isAgg88
  z53 := Tryd.sizeOf88
  v53 := Tryd.zeroValue88
  t131 := Tryd.underlying65
  a131 := Tryd.isAgg65
  z131 := Tryd.sizeOf65
  v131 := Tryd.zeroValue65
  t182 := Tryd.underlying79
  a182 := Tryd.isAgg79
  z182 := Tryd.sizeOf79
  v182 := Tryd.zeroValue79
  t183 := Tryd.underlying80
  a183 := Tryd.isAgg80
  z183 := Tryd.sizeOf80
  v183 := Tryd.zeroValue80
  t218 := Tryd.underlying96
  a218 := Tryd.isAgg96
  z218 := Tryd.sizeOf96
  v218 := Tryd.zeroValue96
  t222 := Tryd.underlying100
  a222 := Tryd.isAgg100
  z222 := Tryd.sizeOf100
  v222 := Tryd.zeroValue100
  t228 := Tryd.underlying106
  a228 := Tryd.isAgg106
  z228 := Tryd.sizeOf106
  v228 := Tryd.zeroValue106
  t229 := Tryd.underlying107
  a229 := Tryd.isAgg107
  z229 := Tryd.sizeOf107
  v229 := Tryd.zeroValue107 }
open Go.Sort Go.RowKit in
theorem Tryd.slices_Sort_int (blk off cap : Nat) (zs : List Int) (w : World) (hH : Holds (Value.int .i64) w blk off zs.toArray) (hblk : blk < w.heap.size) (hsz : zs.length < 4611686018427387904) :
    Calls Tryd.prog 21 #[.slice (some ⟨blk, off, none⟩) zs.length cap] w fun e w' =>
      e = .returned (.tuple #[]) ∧ ∃ n os, w' = grow (putRow (Value.int .i64) (Sort.ahead w n) blk off (zs.mergeSort fun x y => decide (x ≤ y)).toArray) os := Any.slices_Sort_int Tryd.lays189 blk off cap zs w hH hblk hsz
def Tryd.lays107_ren : Go.Shelf.Ren := ⟨fun | 107 => 13 | 108 => 23 | n => n, fun | 28 => 33 | 3 => 3 | 4 => 4 | 0 => 0 | n => n, fun | n => n⟩
theorem Tryd.lays107 : Go.Proofs.Lays.n107 Tryd.prog Tryd.lays107_ren := {
  mixed := by kernel_rfl
  f107 := Tryd.func13.trans (congrArg some (by kernel_rfl))
  f108 := Tryd.func23.trans (congrArg some (by kernel_rfl))
  t0 := Tryd.underlying0
  a0 := Tryd.isAgg0
  z0 := Tryd.sizeOf0
  v0 := Tryd.zeroValue0
  t3 := Tryd.underlying3
  a3 := Tryd.isAgg3
  z3 := Tryd.sizeOf3
  v3 := Tryd.zeroValue3
  t4 := Tryd.underlying4
  a4 := Tryd.isAgg4
  z4 := Tryd.sizeOf4
  v4 := Tryd.zeroValue4
  t28 := Tryd.underlying33
  a28 := Tryd.isAgg33
  z28 := Tryd.sizeOf33
  v28 := Tryd.zeroValue33 }
open Go.Lib in
/-- slices.Contains at []int: "Contains reports whether v is present in s.": IT RETURNS 'elements.contains v'; the world is as it was. ITS CALLEE slices.Index IS MET BY ITS OWN CONTRACT OFF THE SHELF (lay that first): no loop is walked here. (LAID: no walk: one application.) -/
theorem Tryd.slices_Contains_int (b off n c : Nat) (zs : List Int) (x : Int) (w : World) (hz : n ≤ zs.length) (hbig : n ≤ 9223372036854775807) (hc : ∀ j, j < zs.length → w.cell? ⟨b, off + j, none⟩ = some (.int .i64 (zs.getD j 0))) :
    Calls Tryd.prog 13 #[.slice (some ⟨b, off, none⟩) n c, .int .i64 x] w fun e w' => e = .returned (.bool ((zs.take n).contains x)) ∧ w' = w := Any.slices_Contains_int Tryd.lays107 b off n c zs x w hz hbig hc
open Go.Lib in
/-- The same at a slice of length 0, a nil one too. (LAID: no walk: one application.) -/
theorem Tryd.slices_Contains_int_empty (a : Option Addr) (c : Nat) (x : Int) (w : World) :
    Calls Tryd.prog 13 #[.slice a 0 c, .int .i64 x] w fun e w' => e = .returned (.bool false) ∧ w' = w := Any.slices_Contains_int_empty Tryd.lays107 a c x w
def Tryd.laysNm220_ren : Go.Shelf.Ren := ⟨fun | 20 => 22 | n => n, fun | 22 => 33 | 3 => 3 | 4 => 4 | 0 => 0 | n => n, fun | n => n⟩
theorem Tryd.laysNm220 : Go.Proofs.Lays2.n20 Tryd.prog Tryd.laysNm220_ren := {
  mixed := by kernel_rfl
  f20 := Tryd.func22.trans (congrArg some (by kernel_rfl))
  t0 := Tryd.underlying0
  a0 := Tryd.isAgg0
  z0 := Tryd.sizeOf0
  v0 := Tryd.zeroValue0
  t3 := Tryd.underlying3
  a3 := Tryd.isAgg3
  z3 := Tryd.sizeOf3
  v3 := Tryd.zeroValue3
  t4 := Tryd.underlying4
  a4 := Tryd.isAgg4
  z4 := Tryd.sizeOf4
  v4 := Tryd.zeroValue4
  t22 := Tryd.underlying33
  a22 := Tryd.isAgg33
  z22 := Tryd.sizeOf33
  v22 := Tryd.zeroValue33
  i3 := by kernel_rfl }
open Go.RowKit Go.Lib Go.Sort in
/-- slices.Compact at []int: "Compact replaces consecutive runs of equal elements with a single copy. This is like the uniq command found on Unix. Compact modifies the contents of the slice s and returns the modified slice, which may have a smaller length. Compact zeroes the elements between the new length and the original length. The result preserves the nilness of s.": IT RETURNS THE SLICE CUT TO 'Lib.compact zs'; ITS CELLS HOLD 'Lib.compact zs', THEN ZERO VALUES up to the old length; all else is as it was, but for the count of draws. IN THE WORDS OF slices.Sort's CONTRACT ('Holds', 'putRow'): so the everyday 'slices.Sort(xs); xs = slices.Compact(xs)' goes from the one contract to the other. It asks 'zs.length ≤ cap' (every slice's: the reslicing 's[:k]' looks at it). Length 0, nil: '.._empty'. (LAID: no walk: one application.) -/
theorem Tryd.slices_Compact_int (blk off cap : Nat) (zs : List Int) (w : World) (hH : Holds (Value.int .i64) w blk off zs.toArray) (hsz : zs.length ≤ 9223372036854775807) (hcap : zs.length ≤ cap) :
    Calls Tryd.prog 22 #[.slice (some ⟨blk, off, none⟩) zs.length cap] w fun e w' => e = .returned (.slice (some ⟨blk, off, none⟩) (Lib.compact zs).length cap) ∧ ∃ q, w' = putRow (Value.int .i64) (Sort.ahead w q) blk off (Lib.compact zs ++ List.replicate (zs.length - (Lib.compact zs).length) 0).toArray := Any.slices_Compact_int Tryd.laysNm220 blk off cap zs w hH hsz hcap
open Go.RowKit Go.Lib Go.Sort in
/-- The same at a slice of length 0, a nil one too: it comes back as it is. (LAID: no walk: one application.) -/
theorem Tryd.slices_Compact_int_empty (a : Option Addr) (cap : Nat) (w : World) :
    Calls Tryd.prog 22 #[.slice a 0 cap] w fun e w' => e = .returned (.slice a 0 cap) ∧ w' = w := Any.slices_Compact_int_empty Tryd.laysNm220 a cap w
def Tryd.laysNm225_ren : Go.Shelf.Ren := ⟨fun | 25 => 31 | 31 => 40 | 32 => 41 | 37 => 60 | n => n, fun | 22 => 33 | 3 => 3 | 4 => 4 | 40 => 71 | 0 => 0 | n => n, fun | n => n⟩
theorem Tryd.laysNm225 : Go.Proofs.Lays2.n25 Tryd.prog Tryd.laysNm225_ren := {
  mixed := by kernel_rfl
  f25 := Tryd.func31.trans (congrArg some (by kernel_rfl))
  f31 := Tryd.func40.trans (congrArg some (by kernel_rfl))
  f32 := Tryd.func41.trans (congrArg some (by kernel_rfl))
  f37 := Tryd.func60.trans (congrArg some (by kernel_rfl))
  t0 := Tryd.underlying0
  a0 := Tryd.isAgg0
  z0 := Tryd.sizeOf0
  v0 := Tryd.zeroValue0
  t3 := Tryd.underlying3
  a3 := Tryd.isAgg3
  z3 := Tryd.sizeOf3
  v3 := Tryd.zeroValue3
  t4 := Tryd.underlying4
  a4 := Tryd.isAgg4
  z4 := Tryd.sizeOf4
  v4 := Tryd.zeroValue4
  t22 := Tryd.underlying33
  a22 := Tryd.isAgg33
  z22 := Tryd.sizeOf33
  v22 := Tryd.zeroValue33
  t40 := Tryd.underlying71
  a40 := Tryd.isAgg71
  z40 := Tryd.sizeOf71
  v40 := Tryd.zeroValue71 }
open Go.RowKit Go.Lib in
/-- slices.BinarySearch at []int: "BinarySearch searches for target in a sorted slice and returns the earliest position where target is found, or the position where target would appear in the sort order; it also returns a bool saying whether the target is really found in the slice. The slice must be sorted in increasing order.": OF A SORTED SLICE IT RETURNS how many elements are less than the target, and whether the target is among the elements; the world is as it was but for the count of draws. 'zs': what the cells behind the slice's address hold; 'zs.take n': its elements. (Of a slice that is not sorted: no contract here.) (LAID: no walk: one application.) -/
theorem Tryd.slices_BinarySearch_int (b off n c : Nat) (zs : List Int) (x : Int) (w : World) (hz : n ≤ zs.length) (hbig : n < 4611686018427387904) (hc : ∀ j, j < zs.length → w.cell? ⟨b, off + j, none⟩ = some (.int .i64 (zs.getD j 0))) (hs : (zs.take n).Pairwise (· ≤ ·)) :
    Calls Tryd.prog 31 #[.slice (some ⟨b, off, none⟩) n c, .int .i64 x] w fun e w' => e = .returned (.tuple #[.int .i64 ((zs.take n).countP (· < x) : Nat), .bool ((zs.take n).contains x)]) ∧ ∃ q, w' = w.drewN q := Any.slices_BinarySearch_int Tryd.laysNm225 b off n c zs x w hz hbig hc hs
open Go.RowKit Go.Sort in
/-- .. and plain. (LAID: no walk: one application.) -/
theorem Tryd.slices_Sort_int_none (p : Option Addr) (cap : Nat) (w : World) :
    Calls Tryd.prog 21 #[.slice p 0 cap] w fun e w' => e = .returned (.tuple #[]) ∧ w' = w := Any.slices_Sort_int_none Tryd.lays189 p cap w
open Go.RowKit Go.Lib in
/-- slices.BinarySearch at []int of no element: position 0, not found; the world is as it was. (LAID: no walk: one application.) -/
theorem Tryd.slices_BinarySearch_int_empty (a : Option Addr) (c : Nat) (x : Int) (w : World) :
    Calls Tryd.prog 31 #[.slice a 0 c, .int .i64 x] w fun e w' => e = .returned (.tuple #[.int .i64 0, .bool false]) ∧ w' = w := Any.slices_BinarySearch_int_empty Tryd.laysNm225 a c x w
end Go.Proofs
/-
  Contracts: slices of numbers: Grow, Concat, Sort, Compact, BinarySearch, Contains.
-/
namespace Go.Proofs.YtpenlenmpigomaaDoor
open Go.GK Go.PL Go.RowKit Go.Sort Go.Lib
set_option maxRecDepth 100000
abbrev ils (l : List Int) : GV := .sl 1 (iRow l)
theorem iRow_len (l : List Int) : (iRow l).length = l.length := by simp [iRow]
theorem growI_hf (n : Nat) (hn : n ≤ 1000000) : Hf pg 32 0 [.v (.slice none 0 0), gi n] [] (fun g σ m => g = .o 0 ∧ σ = [(0, .row 3 1 [])] ∧ m = 1) := by
  refine Hf.weak (Q := fun g σ _ => ∃ id : Nat, g = .o id ∧ hlook σ id = some (.row 3 1 [])) (Hf.ofJ pg_ok Tryd.func32 rfl Tryd.ntmps32 rfl Tryd.results32 Tryd.call32 fun H0 S0 w0 h0 g0 => ?_) ?_
  · refine VM 17 ?_
    refine p2 ?_ (decide_eq_false (by omega))
    refine JK.capNil pg_ok rfl rfl rfl rfl rfl ?_
    have hw : IntKind.i64.wrap ((n : Int) - IntKind.i64.wrap (0 - ((0 : Nat) : Int))) = (n : Int) := by
      rw [wrap_id (x := 0 - ((0 : Nat) : Int)) (by omega) (by omega), wrap_id (by omega) (by omega)]; omega
    by_cases h0 : n = 0
    · refine VM 14 ?_
      refine p2 ?_ (decide_eq_false (by rw [hw]; omega))
      refine JK.ownNil 0 3 1 rfl ?_
      refine V ?_
      exact ⟨_, rfl, rfl⟩
    · refine VM 15 ?_
      refine p1 ?_ (decide_eq_true (by rw [hw]; omega))
      refine JK.capNil pg_ok rfl rfl rfl rfl rfl ?_
      refine VM 2 ?_
      refine ⟨rfl, rfl, ?_⟩
      refine JK.appendZ (n := n) (sz := 1) (kn := .i64) pg_ok rfl rfl rfl rfl (by kernel_rfl) rfl rfl (by omega) rfl rfl (by exact congrArg (fun i => some (gi i)) hw) (by omega) (by dsimp only; omega) (by omega) (fun zs hz => ?_)
      refine VM 2 ?_
      refine JK.cutO pg_ok rfl rfl rfl rfl rfl rfl rfl rfl rfl rfl (by omega) (by omega) ?_
      refine V ?_
      exact ⟨_, rfl, rfl⟩
  · rintro G σ n ⟨id, rfl, h⟩
    exact ⟨r1 0 id, .o 0, [(0, .row 3 1 [])], 1, ⟨rfl, rfl, rfl⟩, rfl, ⟨h, trivial⟩, rfl⟩
theorem flatI_step {α : Type} (L : List (List α)) (i : Nat) (h : i < L.length) : (L.take (i + 1)).flatten = (L.take i).flatten ++ L[i] := by
  rw [List.take_succ_eq_append_getElem h, List.flatten_append]
  simp
theorem flatI_len {α : Type} (L : List (List α)) (i : Nat) : (L.take i).flatten.length ≤ L.flatten.length := by
  conv => rhs; rw [← List.take_append_drop i L, List.flatten_append, List.length_append]
  omega
theorem concatI_hf (L : List (List Int)) (hl : L.length ≤ 1000) (hs : L.flatten.length ≤ 1000000) :
    Hf pg 20 1 [.o 0] [(0, .row 33 1 (L.map fun s => [ils s]))] (fun g σ n => g = .o 1 ∧ σ = [(1, .row 3 1 (iRow L.flatten)), (0, .row 33 1 (L.map fun s => [ils s]))] ∧ n = 2) := by
  refine Hf.weak (Q := fun g σ _ => g = .o 1 ∧ hlook σ 1 = some (.row 3 1 (iRow L.flatten)) ∧ hlook σ 0 = some (.row 33 1 (L.map fun s => [ils s]))) (Hf.of pg_ok Tryd.func20 rfl Tryd.ntmps20 rfl Tryd.results20 Tryd.call20 fun H0 S0 w0 h0 g0 => ?_) ?_
  · have hll : (L.map fun s => [ils s]).length = L.length := by simp
    refine JK.loopE (α := Nat) (β := Unit) (fun i => ⟨[(0, .o 0), (3, gi (L.take i).flatten.length), (9, .o 0), (10, gi (L.map fun s => [ils s]).length), (11, gi i)], [(0, .row 33 1 (L.map fun s => [ils s]))], 1⟩) (fun i => i ≤ L.length) (fun i => L.length - i)
      (fun _ => ⟨[(0, .o 0), (3, gi L.flatten.length)], [(0, .row 33 1 (L.map fun s => [ils s]))], 1⟩) (fun _ => True) 0 id ?_ (Nat.zero_le _) ?_ ?_
    · exact ⟨⟨rfl, rfl, rfl, rfl, rfl, trivial⟩, ⟨rfl, trivial⟩, rfl⟩
    · rintro i hi
      replace hi : i ≤ L.length := hi
      refine V ?_
      by_cases hlt : i < L.length
      · have hst := flatI_step L i (by omega)
        have hle := flatI_len L (i + 1)
        rw [hst, List.length_append] at hle
        refine p1 ?_ (decide_eq_true (by omega))
        refine ⟨by omega, by omega, ?_⟩
        refine ⟨[ils L[i]], by simp [hlt], ?_⟩
        have hsl := iRow_len L[i]
        refine p2 ?_ (decide_eq_false (by rw [wrap_id (by omega) (by omega)]; omega))
        refine ⟨i + 1, id, ⟨⟨rfl, ?_, rfl, rfl, succ_gi (by omega), trivial⟩, ⟨rfl, trivial⟩, rfl⟩, hlt, by show L.length - (i + 1) < L.length - i; omega⟩
        exact congrArg (fun i => some (gi i)) (by rw [wrap_id (by omega) (by omega), hst, List.length_append, hsl]; omega)
      · refine p2 ?_ (decide_eq_false (by omega))
        obtain rfl : i = L.length := by omega
        rw [List.take_length]
        exact ⟨(), id, ⟨⟨rfl, rfl, trivial⟩, ⟨rfl, trivial⟩, rfl⟩, trivial⟩
    · rintro _ _
      refine V ?_
      refine GOH (growI_hf L.flatten.length hs) id rfl rfl trivial rfl (fun _ h => absurd h (Nat.not_lt_zero _)) ?_
      rintro _ _ _ ⟨rfl, rfl, rfl⟩
      refine JK.loopE (α := Nat) (β := Unit) (fun i => ⟨[(0, .o 0), (6, .o 1), (25, .o 0), (26, gi (L.map fun s => [ils s]).length), (27, gi i)], [(1, .row 3 1 (iRow (L.take i).flatten)), (0, .row 33 1 (L.map fun s => [ils s]))], 2⟩) (fun i => i ≤ L.length) (fun i => L.length - i)
        (fun _ => ⟨[(6, .o 1)], [(1, .row 3 1 (iRow L.flatten)), (0, .row 33 1 (L.map fun s => [ils s]))], 2⟩) (fun _ => True) 0 id ?_ (Nat.zero_le _) ?_ ?_
      · exact ⟨⟨rfl, rfl, rfl, rfl, rfl, trivial⟩, ⟨rfl, rfl, trivial⟩, rfl⟩
      · rintro i hi
        replace hi : i ≤ L.length := hi
        refine V ?_
        by_cases hlt : i < L.length
        · have hst := flatI_step L i (by omega)
          have hle := flatI_len L (i + 1)
          rw [hst, List.length_append] at hle
          have hsl := iRow_len L[i]
          have hsf := iRow_len (L.take i).flatten
          refine p1 ?_ (decide_eq_true (by omega))
          refine ⟨by omega, by omega, ?_⟩
          refine ⟨[ils L[i]], by simp [hlt], ?_⟩
          refine ⟨by dsimp only; omega, ?_⟩
          refine ⟨i + 1, r1 1 2, ⟨⟨rfl, rfl, rfl, rfl, succ_gi (by omega), trivial⟩, ⟨?_, rfl, trivial⟩, rfl⟩, hlt, by show L.length - (i + 1) < L.length - i; omega⟩
          refine congrArg (fun r => some (Res.row 3 1 r)) ?_
          rw [hst]
          show _ = iRow (_ ++ _)
          unfold iRow
          rw [List.map_append]
        · refine p2 ?_ (decide_eq_false (by omega))
          obtain rfl : i = L.length := by omega
          rw [List.take_length]
          exact ⟨(), id, ⟨⟨rfl, trivial⟩, ⟨rfl, rfl, trivial⟩, rfl⟩, trivial⟩
      · rintro _ _
        refine V ?_
        exact ⟨rfl, rfl, rfl⟩
  · rintro g σ n ⟨rfl, h1, h2⟩
    exact ⟨id, _, [(1, .row 3 1 (iRow L.flatten)), (0, .row 33 1 (L.map fun s => [ils s]))], 2, ⟨rfl, rfl, rfl⟩, (ren_id _).symm, ⟨h1, h2, trivial⟩, rfl⟩
theorem row_ints {ro : Nat → Option Obj} {L : List Int} {xs : List Value} (h : RowOk ro 1 (iRow L) xs) : xs = L.map (Value.int .i64) := by
  have hl := h.len
  simp only [iRow, List.length_map, Nat.mul_one] at hl
  refine List.ext_getElem? fun i => ?_
  by_cases hi : i < L.length
  · obtain ⟨u, h1, h2⟩ := h.is i [gi L[i]] (by simp [iRow, hi]) 0 (gi L[i]) rfl
    rw [Nat.mul_one, Nat.add_zero] at h1
    cases h2
    rw [h1]
    simp [hi]
  · rw [List.getElem?_eq_none (by omega), List.getElem?_eq_none (by simp; omega)]
theorem rowOk_ints (ro : Nat → Option Obj) (L : List Int) : RowOk ro 1 (iRow L) (L.map (Value.int .i64)) := by
  refine ⟨by simp [iRow], fun row hr => ?_, fun i row hr j g hj => ?_, fun u hu => ?_⟩
  · obtain ⟨x, _, rfl⟩ := List.mem_map.1 hr
    rfl
  · rw [List.getElem?_map] at hr
    cases hx : L[i]? with
    | none => rw [hx] at hr; cases hr
    | some x =>
      rw [hx] at hr
      cases hr
      cases j with
      | zero => simp at hj; subst hj; exact ⟨.int .i64 x, by simp [hx], .v _⟩
      | succ j => simp at hj
  · obtain ⟨x, _, rfl⟩ := List.mem_map.1 hu
    rfl
abbrev sortI (L : List Int) : List Int := L.mergeSort fun x y => decide (x ≤ y)
theorem arg1 {H : Hid} {us : Array Value} (h : Cells H [.o 0] us) : us = #[H.sv 0] := by
  obtain ⟨hul, hi⟩ := h
  have hi0 := (hi 0 (.o 0) rfl).inv_o
  refine Array.ext (by simpa using hul.symm) (fun i h3 h4 => ?_)
  have h5 : i = 0 := by have : i < 1 := by simpa using h4
                        omega
  subst h5
  have := hi0.1
  rw [Array.getD, dif_pos h3] at this
  simpa using this
/-- A row of numbers, written anew in its place. -/
theorem turnI {H : Hid} {L M : List Int} {w : World} (hs : Sat H [(0, .row 3 1 (iRow L))] w) {gb cap n : Nat} {cur : Array Value} {os : Array Obj} {d : List Int} (hv : H.sv 0 = .slice (some ⟨gb, 0, none⟩) L.length cap) (hgb : w.heap[gb]? = some (.cells cur 3 (0, 0)))
    (hnc : L.length ≤ cap) (hcm : cap ≤ maxLen) (hcz : cur.size = cap * 1) (hd : d.length = L.length) (hM : M.length ≤ L.length) (hMd : d.take M.length = M) {H' : Hid} (hle : H.le H') (hro : H'.ro = H.ro) (id : Nat) (hid : id < H'.n) (hsv : H'.sv id = .slice (some ⟨gb, 0, none⟩) M.length cap) :
    Sat H' [(id, .row 3 1 (iRow M))] (grow (putRow (Value.int .i64) (Sort.ahead w n) gb 0 d.toArray) os) ∧ Fr H (blks H [(0, .row 3 1 (iRow L))]) w H' (blks H' [(id, .row 3 1 (iRow M))]) (grow (putRow (Value.int .i64) (Sort.ahead w n) gb 0 d.toArray) os) := by
  have hb0 : blks H [(0, .row 3 1 (iRow L))] = [gb] := by simp [blks, blocks, hv, Value.ownBlock]
  have hb1 : blks H' [(id, .row 3 1 (iRow M))] = [gb] := by simp [blks, blocks, hsv, Value.ownBlock]
  have hglt : gb < w.heap.size := (Array.getElem?_eq_some_iff.1 hgb).1
  have hfree := hs.free gb (by rw [hb0]; simp)
  refine ⟨⟨fun b o hr => ?_, fun x hx => ?_, by rw [hb1]; simp, fun b hb => ?_, fun x hx => ?_⟩, ?_⟩
  · rw [hro] at hr
    have hbo := hs.ro b o hr
    have hne : b ≠ gb := fun e => by rw [← e, hr] at hfree; cases hfree
    rw [← hbo]
    exact (grownBy_sortedI (w := w) (g := gb) (n := n) (os := os) _).block b (Array.getElem?_eq_some_iff.1 hbo).1 (fun e => hne (Option.some.inj e))
  · rw [List.mem_singleton.1 hx]
    refine ⟨M.map (Value.int .i64), ?_, rowOk_ints _ _⟩
    show World.ownsRow _ _ _ _ (H'.sv id) _ _
    rw [hsv, iRow_len]
    refine ⟨by simp, .inr ⟨gb, cap, _, rfl, Nat.zero_le _, heap_sortedI _ hgb, by omega, hcm, by simp [putCells, hcz], ?_⟩⟩
    have h1 := take_putCellsI cur d (by omega)
    have h2 := congrArg (List.take M.length) h1
    rw [List.take_take, Nat.min_eq_left (by omega), ← List.map_take, hMd] at h2
    rw [Nat.mul_one]
    exact h2
  · rw [hb1] at hb
    rw [List.mem_singleton.1 hb, hro]
    exact hfree
  · rw [List.mem_singleton.1 hx]
    exact hid
  · rw [hb0, hb1]
    refine ⟨rfl, rfl, rfl, ?_, fun b hb hnb => ?_, fun b hb => .inl hb, fun b h1 h2 => absurd h1 (by rw [hro] at h2; exact h2), hle⟩
    · rw [size_grow, show (putRow (Value.int .i64) (Sort.ahead w n) gb 0 _).heap.size = w.heap.size from Go.Sort.size_putRow _ _ _ _ _]
      omega
    · refine (grownBy_sortedI (w := w) (g := gb) (n := n) (os := os) _).block b hb fun e => hnb ?_
      rw [Option.some.inj e]
      simp
theorem sortI_hf (L : List Int) (hL : L.length < 4611686018427387904) : Hf pg 21 1 [.o 0] [(0, .row 3 1 (iRow L))] fun g σ' n' => g = .tup [] ∧ σ' = [(0, .row 3 1 (iRow (sortI L)))] ∧ n' = 1 := by
  refine ⟨Tryd.call21, fun H us w hn hg hcs hs => ?_⟩
  rw [arg1 hcs]
  obtain ⟨xs, hown, hrow⟩ := hs.holds (0, .row 3 1 (iRow L)) (by simp)
  have hxs := row_ints hrow
  obtain ⟨hxl, hcase⟩ := hown
  rcases hcase with ⟨hv, hn0⟩ | ⟨gb, cap, cur, hv, _, hgb, hnc, hcm, hcz, htk⟩
  · have hL0 : L = [] := by
      have : (iRow L).length = 0 := hn0
      simpa [iRow] using this
    subst hL0
    rw [hv]
    refine (Tryd.slices_Sort_int_none none 0 w).mono ?_
    rintro _ w' ⟨rfl, hw⟩
    have hw2 : w' = w := hw
    rw [hw2, show sortI [] = [] by simp [sortI]]
    exact ⟨_, .tup [], H, _, rfl, .tup rfl (fun j g h => by simp at h), hs, Fr.refl _ _ _, rfl, rfl, hn⟩
  · simp only [iRow, List.length_map, Nat.mul_one] at hxl hnc hcz htk hv
    have hglt : gb < w.heap.size := (Array.getElem?_eq_some_iff.1 hgb).1
    have hH : Holds (Value.int .i64) w gb 0 L.toArray := holds_of_blockI hgb (by rw [htk, hxs])
    rw [hv]
    refine (Tryd.slices_Sort_int gb 0 cap L w hH hglt hL).mono ?_
    rintro _ w' ⟨rfl, n, os, rfl⟩
    have ht := turnI hs (M := sortI L) (d := sortI L) (n := n) (os := os) hv hgb hnc hcm (by rw [Nat.mul_one]; exact hcz) (by simp [sortI]) (by simp [sortI]) List.take_length (Hid.le.refl H) rfl 0 (by omega) (by rw [hv]; simp [sortI])
    exact ⟨_, .tup [], H, _, rfl, .tup rfl (fun j g h => by simp at h), ht.1, ht.2, rfl, rfl, hn⟩
theorem compactI_hf (L : List Int) (hL : L.length < 4611686018427387904) : Hf pg 22 1 [.o 0] [(0, .row 3 1 (iRow L))] fun g σ' n' => g = .o 1 ∧ σ' = [(1, .row 3 1 (iRow (compact L)))] ∧ n' = 2 := by
  refine ⟨Tryd.call22, fun H us w hn hg hcs hs => ?_⟩
  rw [arg1 hcs]
  obtain ⟨xs, hown, hrow⟩ := hs.holds (0, .row 3 1 (iRow L)) (by simp)
  have hxs := row_ints hrow
  obtain ⟨hxl, hcase⟩ := hown
  rcases hcase with ⟨hv, hn0⟩ | ⟨gb, cap, cur, hv, _, hgb, hnc, hcm, hcz, htk⟩
  · have hL0 : L = [] := by
      have : (iRow L).length = 0 := hn0
      simpa [iRow] using this
    subst hL0
    rw [hv]
    refine (Tryd.slices_Compact_int_empty none 0 w).mono ?_
    rintro _ w' ⟨rfl, hw⟩
    have hw2 : w' = w := hw
    rw [hw2, show compact ([] : List Int) = [] from rfl]
    have hle := H.plus_le 1 (fun _ => 0) (fun _ => H.sv 0)
    have h1 : (H.plus 1 (fun _ => 0) (fun _ => H.sv 0)).sv 1 = H.sv 0 := by rw [← hn]; exact H.plus_sv _ _ _ 0
    have h2 : (H.plus 1 (fun _ => 0) (fun _ => H.sv 0)).n = 2 := by show H.n + 1 = 2; omega
    have h3 : (H.plus 1 (fun _ => 0) (fun _ => H.sv 0)).ro = H.ro := rfl
    generalize H.plus 1 (fun _ => 0) (fun _ => H.sv 0) = H' at hle h1 h2 h3
    have hb0 : blks H [(0, .row 3 1 (iRow []))] = [] := by simp [blks, blocks, hv, Value.ownBlock]
    have hb1 : blks H' [(1, .row 3 1 (iRow []))] = [] := by simp [blks, blocks, h1, hv, Value.ownBlock]
    refine ⟨_, .o 1, H', _, rfl, .o (by omega) (by rw [h1, hv]) rfl, ⟨by rw [h3]; exact hs.ro, fun x hx => ?_, by rw [hb1]; simp, by rw [hb1]; simp, fun x hx => ?_⟩, ?_, rfl, rfl, h2⟩
    · rw [List.mem_singleton.1 hx]
      refine ⟨[], ?_, rowOk_ints _ _⟩
      show World.ownsRow _ _ _ _ (H'.sv 1) _ _
      rw [h1, hv]
      exact ⟨rfl, .inl ⟨rfl, rfl⟩⟩
    · rw [List.mem_singleton.1 hx]; show 1 < H'.n; omega
    · rw [hb0, hb1]
      exact ⟨rfl, rfl, rfl, Nat.le_refl _, fun _ _ _ => rfl, fun b hb => .inl hb, fun b h1 h2 => absurd h1 (by rw [h3] at h2; exact h2), hle⟩
  · simp only [iRow, List.length_map, Nat.mul_one] at hxl hnc hcz htk hv
    have hglt : gb < w.heap.size := (Array.getElem?_eq_some_iff.1 hgb).1
    have hH : Holds (Value.int .i64) w gb 0 L.toArray := holds_of_blockI hgb (by rw [htk, hxs])
    rw [hv]
    refine (Tryd.slices_Compact_int gb 0 cap L w hH (by omega) hnc).mono ?_
    rintro _ w' ⟨rfl, q, rfl⟩
    have hle := H.plus_le 1 (fun _ => 0) (fun _ => .slice (some ⟨gb, 0, none⟩) (compact L).length cap)
    have h1 : (H.plus 1 (fun _ => 0) (fun _ => .slice (some ⟨gb, 0, none⟩) (compact L).length cap)).sv 1 = .slice (some ⟨gb, 0, none⟩) (compact L).length cap := by rw [← hn]; exact H.plus_sv _ _ _ 0
    have h2 : (H.plus 1 (fun _ => 0) (fun _ => .slice (some ⟨gb, 0, none⟩) (compact L).length cap)).n = 2 := by show H.n + 1 = 2; omega
    have h3 : (H.plus 1 (fun _ => 0) (fun _ => .slice (some ⟨gb, 0, none⟩) (compact L).length cap)).ro = H.ro := rfl
    generalize H.plus 1 (fun _ => 0) (fun _ => .slice (some ⟨gb, 0, none⟩) (compact L).length cap) = H' at hle h1 h2 h3
    have hcl := compact_le L
    have ht := turnI hs (M := compact L) (d := compact L ++ List.replicate (L.length - (compact L).length) 0) (n := q) (os := #[]) hv hgb hnc hcm (by rw [Nat.mul_one]; exact hcz) (by simp; omega) hcl (by simp) hle h3 1 (by omega) h1
    rw [show ∀ W : World, grow W #[] = W from fun W => by simp [grow]] at ht
    exact ⟨_, .o 1, H', _, rfl, .o (by omega) h1 rfl, ht.1, ht.2, rfl, rfl, h2⟩
theorem cells_of {w : World} {A : Option Addr} {c : Nat} {L : List Int} (h : SlAt w A c (L.map (Value.int .i64))) : L = [] ∨ ∃ b o, A = some ⟨b, o, none⟩ ∧ ∀ j, j < L.length → w.cell? ⟨b, o + j, none⟩ = some (.int .i64 (L.getD j 0)) := by
  rcases h.at_ with h | ⟨b, o, h1, _, h2⟩
  · exact .inl (by simpa using h)
  · refine .inr ⟨b, o, h1, fun j hj => h2 j _ ?_⟩
    simp [hj]
theorem iRow_v (L : List Int) : iRow L = (L.map (Value.int .i64)).map fun x => [GV.v x] := by simp [iRow]
theorem binSearch_rt (L : List Int) (x : Int) (hL : L.length < 4611686018427387904) (hs : L.Pairwise (· ≤ ·)) : Rt pg 31 [ils L, gi x] (.tup [gi (L.countP (· < x) : Nat), .v (.bool (L.contains x))]) := by
  refine Rq.mono (Rq.sub (Q' := fun g => g = .tup [gi (L.countP (· < x) : Nat), .v (.bool (L.contains x))]) (Q := fun g => g = .v (.tuple #[.int .i64 (L.countP (· < x) : Nat), .bool (L.contains x)])) ?_ ?_) fun _ h => h
  · show Rq pg _ [.sl 1 (iRow L), gi x] _
    rw [iRow_v]
    refine Rt.slice Tryd.call31 (L.map (Value.int .i64)) [.int .i64 x] _ fun A c w hat => ?_
    have hln : (L.map (Value.int .i64)).length = L.length := by simp
    rw [hln]
    rcases cells_of hat with rfl | ⟨b, o, rfl, hc⟩
    · refine (Tryd.slices_BinarySearch_int_empty A c x w).mono ?_
      rintro _ w' ⟨rfl, hw⟩
      have hw : w' = w := hw
      subst hw
      exact ⟨rfl, Below.refl _ _⟩
    · refine (Tryd.slices_BinarySearch_int b o L.length c L x w (Nat.le_refl _) hL hc (by rw [List.take_length]; exact hs)).mono ?_
      rintro _ w' ⟨rfl, q, rfl⟩
      rw [List.take_length]
      exact ⟨rfl, Go.below_drewN (Below.refl _ _) q⟩
  · rintro g rfl
    refine ⟨_, fun {H u} h => ?_, rfl, rfl⟩
    rw [h.inv_v]
    refine .tup rfl fun j g hj => ?_
    match j, hj with
    | 0, hj => cases hj; exact .ro (.v _)
    | 1, hj => cases hj; exact .ro (.v _)
    | j + 2, hj => simp at hj
theorem containsI_rt (L : List Int) (x : Int) (hL : L.length < 4611686018427387904) : Rt pg 13 [ils L, gi x] (.v (.bool (L.contains x))) := by
  show Rq pg _ [.sl 1 (iRow L), gi x] _
  rw [iRow_v]
  refine Rt.slice Tryd.call13 (L.map (Value.int .i64)) [.int .i64 x] _ fun A c w hat => ?_
  have hln : (L.map (Value.int .i64)).length = L.length := by simp
  rw [hln]
  rcases cells_of hat with rfl | ⟨b, o, rfl, hc⟩
  · refine (Tryd.slices_Contains_int_empty A c x w).mono ?_
    rintro _ w' ⟨rfl, hw⟩
    have hw : w' = w := hw
    subst hw
    exact ⟨rfl, Below.refl _ _⟩
  · refine (Tryd.slices_Contains_int b o L.length c L x w (Nat.le_refl _) (by omega) hc).mono ?_
    rintro _ w' ⟨rfl, hw⟩
    have hw : w' = w := hw
    subst hw
    rw [List.take_length]
    exact ⟨rfl, Below.refl _ _⟩
end Go.Proofs.YtpenlenmpigomaaDoor
/-
  Contracts: package label: order, text, matchers.
-/
namespace Go.Proofs.YtpenlenmpigomaaDoor
open Go.GK Go.PL Go.RowKit
set_option maxRecDepth 100000
theorem lexC_len {α : Type} (f : α → α → Int) (hf : ∀ a b, f a b = 0 ↔ a = b) : ∀ (a b : List α), (∀ i, i < min a.length b.length → a[i]? = b[i]?) → lexC f a b = sgnF a.length b.length
  | [], [], _ => rfl
  | [], _ :: _, _ => by simp [lexC, sgnF]
  | _ :: _, [], _ => by simp [lexC, sgnF]; omega
  | x :: a, y :: b, h => by
    have h0 := h 0 (by simp)
    simp at h0
    have ih := lexC_len f hf a b (fun i hi => by have := h (i + 1) (by simp at hi ⊢; omega); simpa using this)
    simp only [lexC, (hf x y).2 h0, if_true, ih, sgnF, List.length_cons]
    repeat' split <;> omega
theorem lexC_at {α : Type} (f : α → α → Int) (hf : ∀ a b, f a b = 0 ↔ a = b) : ∀ (a b : List α) (i : Nat) (x y : α), (∀ j, j < i → a[j]? = b[j]?) → a[i]? = some x → b[i]? = some y → f x y ≠ 0 → lexC f a b = f x y
  | [], b, i, x, y, _, hx, _, _ => by simp at hx
  | _ :: _, [], i, x, y, _, _, hy, _ => by simp at hy
  | u :: a, v :: b, 0, x, y, _, hx, hy, hn => by
    simp at hx hy
    subst hx; subst hy
    simp only [lexC, if_neg hn]
  | u :: a, v :: b, i + 1, x, y, h, hx, hy, hn => by
    have h0 := h 0 (by omega)
    simp at h0
    simp only [lexC, (hf u v).2 h0, if_true]
    exact lexC_at f hf a b i x y (fun j hj => by have := h (j + 1) (by omega); simpa using this) (by simpa using hx) (by simpa using hy) hn
theorem cmpL1_or (x y : Lb) : cmpL1 x y = if cmpS x.name y.name = 0 then cmpS x.value y.value else cmpS x.name y.name := rfl
/-- Short labels. -/
structure Hl (l : List Lb) : Prop where
  len : l.length ≤ 1000
  name : ∀ x ∈ l, x.name.size ≤ 1000
  value : ∀ x ∈ l, x.value.size ≤ 1000
theorem item_len {l : List Lb} (h : Hl l) : ∀ x ∈ l, (itemF x).length ≤ 2003 := fun x hx => by
  have h1 := h.name x hx
  have h2 := h.value x hx
  simp only [itemF, List.length_append, size_data, List.length_cons, List.length_nil]
  omega
theorem inter_len {l : List (List UInt8)} {m : Nat} (h : ∀ x ∈ l, x.length ≤ m) : (([44] : List UInt8).intercalate l).length ≤ l.length * (m + 1) := by
  have key : ∀ (l : List (List UInt8)), (∀ x ∈ l, x.length ≤ m) → (([44] : List UInt8).intercalate l).length ≤ l.length * (m + 1) := by
    intro l
    induction l with
    | nil => intro _; simp [List.intercalate]
    | cons a l ih =>
      intro h
      have h1 := h a List.mem_cons_self
      have h2 := ih (fun x hx => h x (List.mem_cons_of_mem _ hx))
      cases l with
      | nil => simp [List.intercalate]; omega
      | cons b l =>
        have e : ([44] : List UInt8).intercalate (a :: b :: l) = a ++ ([44] ++ ([44] : List UInt8).intercalate (b :: l)) := by simp [List.intercalate]
        rw [e]
        simp only [List.length_append, List.length_cons, List.length_nil, Nat.add_mul] at h2 ⊢
        omega
  exact key l h
theorem inter_snoc (l : List (List UInt8)) (x : List UInt8) : ([44] : List UInt8).intercalate (l ++ [x]) = if l = [] then x else ([44] : List UInt8).intercalate l ++ ([44] ++ x) := by
  induction l with
  | nil => simp [List.intercalate]
  | cons a l ih =>
    cases l with
    | nil => simp [List.intercalate]
    | cons b l =>
      have e : ∀ r, r ≠ [] → ([44] : List UInt8).intercalate (a :: r) = a ++ ([44] ++ ([44] : List UInt8).intercalate r) := fun r hr => by
        cases r with
        | nil => exact (hr rfl).elim
        | cons c r => simp [List.intercalate]
      rw [List.cons_append, e _ (by simp), ih, if_neg (by simp), if_neg (by simp), e _ (by simp)]
      simp
theorem ba_app (a b : ByteArray) : (a ++ b).data.toList = a.data.toList ++ b.data.toList := by rw [ByteArray.data_append]; simp
theorem bs_size' (l : List UInt8) : (bs l).size = l.length := bs_size l
theorem app_size (a b : ByteArray) : (a ++ b).size = a.size + b.size := ByteArray.size_append
end Go.Proofs.YtpenlenmpigomaaDoor
/-
  Contracts: package label: Only; matchers.
-/
namespace Go.Proofs.YtpenlenmpigomaaDoor
open Go.GK Go.PL Go.RowKit
set_option maxRecDepth 100000
theorem only_snoc (l : List Lb) (ns : List ByteArray) (i : Nat) (h : i < l.length) : onlyF (l.take (i + 1)) ns = onlyF (l.take i) ns ++ if conS ns l[i].name = true then [l[i]] else [] := by
  have e : (ns.any fun n => sEq n l[i].name) = conS ns l[i].name := by
    unfold conS
    congr 1
    funext y
    rw [Bool.eq_iff_iff, sEq_iff, sEq_iff]
    exact ⟨fun h => h.symm, fun h => h.symm⟩
  unfold onlyF
  rw [List.take_succ_eq_append_getElem h, List.filter_append]
  congr 1
  rw [List.filter_cons, e]
  rfl
theorem only_len (l : List Lb) (ns : List ByteArray) : (onlyF l ns).length ≤ l.length := List.length_filter_le _ _
/-- Short matchers. -/
def Sm2 (l : List Mt) : Prop := ∀ x ∈ l, x.value.size < 4611686018427387904
theorem asked1_rt (m : Mt) (hm : m.value.size < 4611686018427387904) : Rt pg 29 [.agg (mt m)] (.b (mbad m)) := by
  refine Rt.of pg_ok Tryd.func29 rfl Tryd.ntmps29 rfl Tryd.results29 Tryd.call29 fun H0 S0 w0 h0 g0 => ?_
  have hval := value_rt m.value hm
  unfold mbad
  cases h1 : nameF m.name with
  | false =>
    refine GO ((name_rt m.name).bt h1) rfl ?_
    exact ⟨rfl, rfl⟩
  | true =>
    refine GO ((name_rt m.name).bt h1) rfl ?_
    cases h2 : valueF m.value with
    | false =>
      refine GO (hval.bt h2) rfl ?_
      exact ⟨rfl, rfl⟩
    | true =>
      refine GO (hval.bt h2) rfl ?_
      by_cases h3 : m.op < 0
      · repeat (first | refine p1 ?_ | refine p2 ?_ | refine p3 ?_ | refine p4 ?_)
        exact ⟨by rw [decide_eq_false (by omega : ¬ (0 ≤ m.op ∧ m.op ≤ 3))]; rfl, rfl⟩
      · repeat (first | refine p1 ?_ | refine p2 ?_ | refine p3 ?_ | refine p4 ?_)
        refine ⟨?_, rfl⟩
        show decide (m.op > 3) = !decide (0 ≤ m.op ∧ m.op ≤ 3)
        by_cases h4 : m.op ≤ 3
        · rw [decide_eq_true (by omega : 0 ≤ m.op ∧ m.op ≤ 3), decide_eq_false (by omega)]; rfl
        · rw [decide_eq_false (by omega : ¬ (0 ≤ m.op ∧ m.op ≤ 3)), decide_eq_true (by omega)]; rfl

theorem idxFunc_rt (l : List Mt) (f : FuncId) (caps : List GV) (hcaps : idbL 0 caps = true) (p : Mt → Bool) (hf : ∀ x ∈ l, Rt pg f (.agg (mt x) :: caps) (.b (p x))) (n : Nat) (hn : n ≤ l.length) (h1 : ∀ i (h : i < l.length), i < n → p l[i] = false) (h2 : ∀ h : n < l.length, p l[n] = true) (hl : l.length < 4611686018427387904) :
    Rt pg 35 [.sl 3 (l.map mt), .fn (.func f) [] caps] (gi (if n < l.length then n else -1)) := by
  refine Rt.of pg_ok Tryd.func35 rfl Tryd.ntmps35 rfl Tryd.results35 Tryd.call35 fun H0 S0 w0 h0 g0 => ?_
  have hll : (l.map mt).length = l.length := by simp
  refine JK.loop (α := Nat) (fun i => ⟨[(0, .sl 3 (l.map mt)), (1, .fn (.func f) [] caps), (7, gi (l.map mt).length), (8, gi i)], [], 0⟩) (fun i => i ≤ n) (fun i => n - i) 0 id ?_ (Nat.zero_le _) ?_
  · exact ⟨⟨rfl, by simp only [ren, renL, renL_id]; rfl, rfl, rfl, trivial⟩, trivial, by simp [idbE, idb, idbL, hcaps, idbH, hids, distB, fixB]⟩
  · intro i hi
    refine V ?_
    by_cases hlt : i < l.length
    · refine p1 ?_
      refine ix (h := ?_)
      have hp := hf l[i] (List.getElem_mem hlt)
      by_cases hin : i < n
      · refine GO (hp.bt (h1 i hlt hin)) rfl ?_ (by simp [idbL, hcaps]; rfl)
        exact ⟨i + 1, id, ⟨⟨rfl, by simp only [ren, renL, renL_id]; rfl, rfl, succ_gi (by omega), trivial⟩, trivial, by simp [idbE, idb, idbL, hcaps, idbH, hids, distB, fixB]⟩, hin, by show n - (i + 1) < n - i; omega⟩
      · have hin' : i = n := by omega
        subst hin'
        refine GO (hp.bt (h2 hlt)) rfl ?_ (by simp [idbL, hcaps]; rfl)
        exact ⟨by rw [if_pos hlt]; rfl, rfl⟩
    · refine p2 ?_
      refine V ?_
      exact ⟨by rw [if_neg (by omega)]; rfl, rfl⟩
theorem first_ix {α : Type} (l : List α) (p : α → Bool) : ∃ n, n ≤ l.length ∧ (∀ i (h : i < l.length), i < n → p l[i] = false) ∧ (∀ h : n < l.length, p l[n] = true) ∧ l.any p = decide (n < l.length) := by
  induction l with
  | nil => exact ⟨0, Nat.le_refl _, fun i h => absurd h (by simp), fun h => absurd h (by simp), by simp⟩
  | cons a l ih =>
    cases hp : p a with
    | true => exact ⟨0, Nat.zero_le _, fun i h h' => absurd h' (by omega), fun _ => hp, by simp [hp]⟩
    | false =>
      obtain ⟨n, h1, h2, h3, h4⟩ := ih
      refine ⟨n + 1, by simpa using h1, fun i h h' => ?_, fun h => ?_, by simp [hp, h4]⟩
      · cases i with
        | zero => exact hp
        | succ i => exact h2 i (by simpa using h) (by omega)
      · exact h3 (by simpa using h)
theorem conFunc_rt (l : List Mt) (f : FuncId) (caps : List GV) (hcaps : idbL 0 caps = true) (p : Mt → Bool) (hf : ∀ x ∈ l, Rt pg f (.agg (mt x) :: caps) (.b (p x))) (hl : l.length < 4611686018427387904) :
    Rt pg 24 [.sl 3 (l.map mt), .fn (.func f) [] caps] (.b (l.any p)) := by
  refine Rt.of pg_ok Tryd.func24 rfl Tryd.ntmps24 rfl Tryd.results24 Tryd.call24 fun H0 S0 w0 h0 g0 => ?_
  obtain ⟨n, h1, h2, h3, h4⟩ := first_ix l p
  refine GO (idxFunc_rt l f caps hcaps p hf n h1 h2 h3 hl) rfl ?_ (by simp [idbL, idb, hcaps])
  refine ⟨?_, rfl⟩
  rw [h4]
  show decide _ = _
  split
  · rename_i h; rw [decide_eq_true h]; exact decide_eq_true (by omega)
  · rename_i h; rw [decide_eq_false h]; rfl
theorem any_anyB {α : Type} [Inhabited α] (l : List α) (p : α → Bool) : l.any p = anyB l.length (fun i => p (l.getD i default)) := by
  obtain ⟨n, h1, h2, h3, h4⟩ := first_ix l p
  rw [h4]
  by_cases h : n < l.length
  · rw [decide_eq_true h, anyB_true h]; simpa [h] using h3 h
  · rw [decide_eq_false h, anyB_false]
    intro i hi
    have := h2 i hi (by omega)
    simpa [hi] using this
theorem lasked_rt (l : List Mt) (hm : Sm2 l) : Rt pg 16 [.sl 3 (l.map mt)] (.b (askedF l)) := by
  refine Rt.of pg_ok Tryd.func16 rfl Tryd.ntmps16 rfl Tryd.results16 Tryd.call16 fun H0 S0 w0 h0 g0 => ?_
  have hll : (l.map mt).length = l.length := by simp
  unfold askedF
  by_cases h : l.length ≤ 8
  · refine p1 ?_
    refine GO (conFunc_rt l 29 [] rfl mbad (fun x hx => asked1_rt x (hm x hx)) (by omega)) rfl ?_
    refine ⟨?_, rfl⟩
    rw [decide_eq_true h, Bool.and_true, ← any_anyB l mbad]
    rfl
  · refine p2 ?_
    exact ⟨by rw [decide_eq_false h, Bool.and_false]; rfl, rfl⟩
theorem lone_rt (l : List Lb) (m : Mt) : Rt pg 26 [.sl 2 (l.map lb), .agg (mt m)] (.b (loneF l m)) := by
  refine Rt.of pg_ok Tryd.func26 rfl Tryd.ntmps26 rfl Tryd.results26 Tryd.call26 fun H0 S0 w0 h0 g0 => ?_
  refine GO (get_rt l m.name) rfl ?_
  unfold loneF
  by_cases h0 : m.op = 0
  · refine p1 ?_ (by simpa using h0)
    exact ⟨by rw [if_pos h0]; rfl, rfl⟩
  · refine p2 ?_ (by simpa using h0)
    rw [if_neg h0]
    by_cases h1 : m.op = 1
    · refine p1 ?_ (by simpa using h1)
      exact ⟨by rw [if_pos h1]; rfl, rfl⟩
    · refine p2 ?_ (by simpa using h1)
      rw [if_neg h1]
      by_cases h2 : m.op = 2
      · refine p1 ?_ (by simpa using h2)
        refine GO (hasPrefix_rt (lgetF l m.name) m.value) rfl ?_
        exact ⟨by rw [if_pos h2]; rfl, rfl⟩
      · refine p2 ?_ (by simpa using h2)
        refine GO (hasPrefix_rt (lgetF l m.name) m.value) rfl ?_
        exact ⟨by rw [if_neg h2]; rfl, rfl⟩
theorem all1_rt (l : List Lb) (m : Mt) : Rt pg 25 [.agg (mt m), .r [.sl 2 (l.map lb)]] (.b (!loneF l m)) := by
  refine Rt.of pg_ok Tryd.func25 rfl Tryd.ntmps25 rfl Tryd.results25 Tryd.call25 fun H0 S0 w0 h0 g0 => ?_
  refine GO (lone_rt l m) rfl ?_
  exact ⟨rfl, rfl⟩
theorem lall_rt (l : List Lb) (m : List Mt) (hm : m.length < 4611686018427387904) : Rt pg 14 [.sl 2 (l.map lb), .sl 3 (m.map mt)] (.b (allF l m)) := by
  refine Rt.of pg_ok Tryd.func14 rfl Tryd.ntmps14 rfl Tryd.results14 Tryd.call14 fun H0 S0 w0 h0 g0 => ?_
  refine FZB 0 rfl rfl ?_
  refine GO (conFunc_rt m 25 [.r [.sl 2 (l.map lb)]] rfl (fun x => !loneF l x) (fun x _ => all1_rt l x) hm) rfl ?_
  refine ⟨?_, rfl⟩
  show (!_) = allF l m
  unfold allF
  rw [List.all_eq_not_any_not]
end Go.Proofs.YtpenlenmpigomaaDoor
/-
  Contracts: package index: sets of numbers; what one matcher, and what all, find.
-/
namespace Go.Proofs.YtpenlenmpigomaaDoor
open Go.GK Go.PL Go.RowKit Go.Lib
set_option maxRecDepth 100000
theorem ior_rt (a b : List Int) (ha : a.length ≤ 100000) (hb : b.length ≤ 100000) : Rt pg 11 [ils a, ils b] (ils (orF a b)) := by
  refine Rt.of pg_ok Tryd.func11 rfl Tryd.ntmps11 rfl Tryd.results11 Tryd.call11 fun H0 S0 w0 h0 g0 => ?_
  have hc := concatI_hf [a, b] (by simp) (by simp; omega)
  have e : [a, b].flatten = a ++ b := by simp
  rw [e] at hc
  refine GOH hc id rfl rfl ⟨rfl, trivial⟩ rfl (id_lt rfl) ?_
  rintro _ _ _ ⟨rfl, rfl, rfl⟩
  refine GOH (sortI_hf (a ++ b) (by simp; omega)) (fun _ => 1) rfl rfl ⟨rfl, trivial⟩ rfl (fun _ _ => Nat.le_of_ble_eq_true rfl) ?_
  rintro _ _ _ ⟨rfl, rfl, rfl⟩
  refine GOJ (compactI_hf (sortI (a ++ b)) (by simp [sortI]; omega)) (fun _ => 1) rfl rfl ⟨rfl, trivial⟩ rfl (fun _ _ => Nat.le_of_ble_eq_true rfl) ?_
  rintro _ _ _ ⟨rfl, rfl, rfl⟩
  refine FRZ 2 rfl ?_
  exact ⟨rfl, rfl⟩
theorem keepI_rt (a b : List Int) (c : Bool) (ha : a.length ≤ 100000) (hb : b.length ≤ 100000) (hs : Ris b) : Rt pg 19 [ils a, ils b, .v (.bool c)] (ils (keepF a b c)) := by
  refine Rt.of pg_ok Tryd.func19 rfl Tryd.ntmps19 rfl Tryd.results19 Tryd.call19 fun H0 S0 w0 h0 g0 => ?_
  have hla := iRow_len a
  refine JK.ownNil 7 3 1 rfl ?_
  refine JK.loopE (α := Nat) (β := Unit) (fun i => ⟨[(1, ils b), (2, .v (.bool c)), (7, .o 0), (12, ils a), (13, gi (iRow a).length), (14, gi i)], [(0, .row 3 1 (iRow (keepF (a.take i) b c)))], 1⟩) (fun i => i ≤ a.length) (fun i => a.length - i)
    (fun _ => ⟨[(7, .o 0)], [(0, .row 3 1 (iRow (keepF a b c)))], 1⟩) (fun _ => True) 0 id ?_ (Nat.zero_le _) ?_ ?_
  · exact ⟨⟨rfl, rfl, rfl, rfl, rfl, rfl, trivial⟩, ⟨rfl, trivial⟩, rfl⟩
  · rintro i hi
    replace hi : i ≤ a.length := hi
    refine V ?_
    by_cases hlt : i < a.length
    · have hk := keep_len (a.take i) b c
      rw [List.length_take] at hk
      have hst : keepF (a.take (i + 1)) b c = keepF (a.take i) b c ++ if (decide (a[i] ∈ b) == c) = true then [a[i]] else [] := by
        unfold keepF
        rw [List.take_succ_eq_append_getElem hlt, List.filter_append, List.filter_cons]
        rfl
      have hkl := iRow_len (keepF (a.take i) b c)
      refine p1 ?_ (decide_eq_true (by omega))
      refine ix (h := ?_)
      have hb := binSearch_rt b a[i] (by omega) (hs.imp fun h => Int.le_of_lt h)
      rw [List.contains_eq_mem] at hb
      refine GO hb rfl ?_
      rcases tf (decide (a[i] ∈ b) == c) with hc | hc
      · refine p1 ?_ hc
        refine ⟨by simp only [List.length_map, List.length_cons, List.length_nil]; omega, ?_⟩
        refine ⟨i + 1, fun _ => 2, ⟨⟨rfl, rfl, rfl, rfl, rfl, succ_gi (by omega), trivial⟩, ⟨?_, trivial⟩, rfl⟩, hlt, by show a.length - (i + 1) < a.length - i; omega⟩
        refine congrArg (fun r => some (Res.row 3 1 r)) ?_
        rw [hst, if_pos hc]
        exact (List.map_append (l₁ := keepF (a.take i) b c) (l₂ := [a[i]])).symm
      · refine p2 ?_ hc
        refine ⟨i + 1, id, ⟨⟨rfl, rfl, rfl, rfl, rfl, succ_gi (by omega), trivial⟩, ⟨?_, trivial⟩, rfl⟩, hlt, by show a.length - (i + 1) < a.length - i; omega⟩
        refine congrArg (fun r => some (Res.row 3 1 r)) ?_
        rw [hst, if_neg (by rw [hc]; decide), List.append_nil]
    · refine p2 ?_ (decide_eq_false (by omega))
      obtain rfl : i = a.length := by omega
      rw [List.take_length]
      exact ⟨(), id, ⟨⟨rfl, trivial⟩, ⟨rfl, trivial⟩, rfl⟩, trivial⟩
  · rintro _ _
    refine FRZ 0 rfl ?_
    exact ⟨rfl, rfl⟩
theorem and_rt (a b : List Int) (ha : a.length ≤ 100000) (hb : b.length ≤ 100000) (hs : Ris b) : Rt pg 10 [ils a, ils b] (ils (keepF a b true)) := by
  refine Rt.of pg_ok Tryd.func10 rfl Tryd.ntmps10 rfl Tryd.results10 Tryd.call10 fun H0 S0 w0 h0 g0 => ?_
  refine GO (keepI_rt a b true ha hb hs) rfl ?_
  exact ⟨rfl, rfl⟩
theorem not_rt (a b : List Int) (ha : a.length ≤ 100000) (hb : b.length ≤ 100000) (hs : Ris b) : Rt pg 12 [ils a, ils b] (ils (keepF a b false)) := by
  refine Rt.of pg_ok Tryd.func12 rfl Tryd.ntmps12 rfl Tryd.results12 Tryd.call12 fun H0 S0 w0 h0 g0 => ?_
  refine GO (keepI_rt a b false ha hb hs) rfl ?_
  exact ⟨rfl, rfl⟩
/-- An index, whatever its blocks are. -/
def IxQ (S : List (List Lb)) (G : GV) (g : GV) (σ : Heap) (n : Nat) : Prop := ∃ f, g = G ∧ σ = IX S f ∧ n = 2
theorem fin_ix {F : FuncId} {args : List GV} {σ : Heap} {S : List (List Lb)} {G : GV} (hG : idb 0 G = true) (h : Hf pg F 2 args σ (fun g σ' _ => g = G ∧ ∃ f, hlook σ' 0 = some (.blk 47 [gi S.length, .o 1]) ∧ hlook σ' 1 = some (.ab (mapA roF none (encI (ixF S)) f)))) :
    Hf pg F 2 args σ (IxQ S G) := by
  refine h.weak ?_
  rintro g σ' n ⟨rfl, f, h0, h1⟩
  refine ⟨id, g, IX S f, 2, ⟨f, rfl, rfl, rfl⟩, (ren_none _ hG).symm, ⟨h0, h1, trivial⟩, ?_⟩
  rw [idb_up 2 hG]
  rfl
theorem all_up (N : Nat) : upL N (fun _ => true) = (List.range N).map Int.ofNat := by
  unfold upL
  rw [List.filter_eq_self.2 (by simp)]
theorem all_hf (S : List (List Lb)) (f : List Nat) (hl : S.length ≤ 100000) : Hf pg 17 2 [.p 0 0] (IX S f) (IxQ S (ils (upL S.length fun _ => true))) := by
  refine fin_ix rfl (Hf.of pg_ok Tryd.func17 rfl Tryd.ntmps17 rfl Tryd.results17 Tryd.call17 fun H0 S0 w0 h0 g0 => ?_)
  refine JK.ownNil 3 3 1 rfl ?_
  refine JK.loopE (α := Nat) (β := Unit) (fun i => ⟨[(3, .o 2), (8, gi S.length), (9, gi i)], (2, .row 3 1 (iRow ((List.range i).map Int.ofNat))) :: IX S f, 3⟩) (fun i => i ≤ S.length) (fun i => S.length - i)
    (fun _ => ⟨[(3, .o 2)], (2, .row 3 1 (iRow ((List.range S.length).map Int.ofNat))) :: IX S f, 3⟩) (fun _ => True) 0 id ?_ (Nat.zero_le _) ?_ ?_
  · exact ⟨⟨rfl, rfl, rfl, trivial⟩, ⟨rfl, rfl, rfl, trivial⟩, rfl⟩
  · rintro i hi
    replace hi : i ≤ S.length := hi
    refine V ?_
    by_cases hlt : i < S.length
    · refine p1 ?_ (decide_eq_true (by omega))
      refine ⟨by simp [iRow]; omega, ?_⟩
      refine ⟨i + 1, fun k => bif Nat.beq k 2 then 4 else k, ⟨⟨rfl, rfl, succ_gi (by omega), trivial⟩, ⟨?_, rfl, rfl, trivial⟩, rfl⟩, hlt, by show S.length - (i + 1) < S.length - i; omega⟩
      refine congrArg (fun r => some (Res.row 3 1 r)) ?_
      rw [List.range_succ, List.map_append]
      exact (List.map_append (l₁ := (List.range i).map Int.ofNat) (l₂ := [Int.ofNat i])).symm
    · refine p2 ?_ (decide_eq_false (by omega))
      obtain rfl : i = S.length := by omega
      exact ⟨(), id, ⟨⟨rfl, trivial⟩, ⟨rfl, rfl, rfl, trivial⟩, rfl⟩, trivial⟩
  · rintro _ _
    refine FRZ 2 rfl ?_
    rw [all_up]
    exact ⟨rfl, f, rfl, rfl⟩
def mE' (M : In1) : List (Value × GV) := pes ils (enc1 M)
theorem enc1_find {v : ByteArray} : ∀ {M : In1}, v ∈ keysA M → mfind (.string v) (mE' M) = some (ils (getA v [] M))
  | [], h => by cases h
  | (q, r) :: R, h => by
    unfold getA
    by_cases e : q = v
    · rw [if_pos e]
      subst e
      show mfind _ ((Value.string q, ils r) :: mE' R) = _
      rw [mfind, if_pos (vkey_str.2 rfl)]
    · rw [if_neg e]
      show mfind _ ((Value.string q, ils r) :: mE' R) = _
      rw [mfind, if_neg (by rw [vkey_no fun e' => e e'.symm]; decide)]
      refine enc1_find ?_
      simp only [keysA, List.map_cons, List.mem_cons] at h
      rcases h with h | h
      · exact absurd h.symm e
      · exact h
theorem ren_mE' (f : Nat → Nat) (M : In1) : renM f (mE' M) = mE' M := renM_pes _ (fun _ => rfl) f _
theorem idb_mE' (n : Nat) (M : In1) : idbM n (mE' M) = true := idbM_pes _ n (fun _ => rfl) _
theorem one_hf (S : List (List Lb)) (f : List Nat) (m : Mt) (hl : S.length ≤ 50000) (hS : ∀ s ∈ S, rightF s = true) (hop : 0 ≤ m.op ∧ m.op ≤ 3) : Hf pg 18 2 [.p 0 0, .agg (mt m)] (IX S f) (IxQ S (ils (upL S.length fun i => loneF (S.getD i []) m))) := by
  have hrow := row_up hS m.name
  have hsome := fun i (hi : i < S.length) => some_up hS hop hi
  refine fin_ix rfl (Hf.ofJ pg_ok Tryd.func18 rfl Tryd.ntmps18 rfl Tryd.results18 Tryd.call18 fun H0 S0 w0 h0 g0 => ?_)
  refine VM 10 ?_
  refine JK.freezeB 2 rfl rfl ?_
  refine JK.sub 5 (ils []) rfl (Sub.nil 1) ?_
  refine JK.sub 6 (ils []) rfl (Sub.nil 1) ?_
  refine VM 1 ?_
  refine JK.cut (α := List Nat) (fun f' => ⟨[(0, .p 0 0), (3, .r (mt m)), (5, ils (upL S.length fun i => (valsI (ixF S) m.name).any fun v => yesF m v && saysB S i m.name v)), (6, ils (upL S.length fun i => (valsI (ixF S) m.name).any fun v => true && saysB S i m.name v))], IX S f', 3⟩) (fun _ => True) ?_ ?_
  · by_cases hn : m.name ∈ keysA (ixF S)
    · obtain ⟨l1, M, l2, hL, hn1⟩ := splitA hn
      have hM : getA m.name [] (ixF S) = M := by rw [hL, getA_old hn1]
      have hnd : (keysA M).Nodup := (ixF_ok S hS).nd2 (m.name, M) (by rw [hL]; simp)
      have hr : ∀ v, getA v [] M = upL S.length fun i => saysB S i m.name v := fun v => by rw [← hrow v, rowI, hM]
      rw [show valsI (ixF S) m.name = keysA M by rw [valsI, hM]]
      refine JK.focus (F := roF) (kd := none) (l1 := encI l1) (l2 := encI l2) (key := .string m.name) (x := enc1 M) (f := f) 1 (congrArg (fun q => some (Res.ab (mapA roF none q f))) (by rw [hL, encI_mid])) fun m1 m2 f1 f2 hm1 hm2 => ?_
      refine JK.unpackM (kd := none) (es := mE' M) (fp := f1) 3 rfl (fun g => ren_mE' g M) ?_
      refine V ?_
      refine DRAW [3] true (tk [0, 1, 2, 3, 4, 5, 6] ++ al [7]) (by kernel_rfl) ?_
      refine lkS (find_mid (noKeyI hm1 hn1)) ?_
      refine V ?_
      refine JK.loopE (α := List Value × Option Value × List ByteArray) (β := Option Value × List ByteArray) (fun a => ⟨[(0, .p 0 0), (3, .r (mt m)), (5, ils (upL S.length fun i => a.2.2.any fun v => yesF m v && saysB S i m.name v)), (6, ils (upL S.length fun i => a.2.2.any fun v => true && saysB S i m.name v)), (16, .p 6 0)], [(0, .blk 47 [gi S.length, .o 1]), (1, .mp none (mE m1 ++ (Value.string m.name, .o 3) :: mE m2)), (3, .itr 6), (6, .mr none (mE' M) a.1 a.2.1), (4, .ab (bag roF ((m1 ++ m2).map (·.2)) f2))], 7⟩)
        (fun a => (a.1 ++ a.2.2.map Value.string).Perm ((keysA M).map Value.string)) (fun a => a.1.length)
        (fun c => ⟨[(0, .p 0 0), (3, .r (mt m)), (5, ils (upL S.length fun i => c.2.any fun v => yesF m v && saysB S i m.name v)), (6, ils (upL S.length fun i => c.2.any fun v => true && saysB S i m.name v))], [(0, .blk 47 [gi S.length, .o 1]), (1, .mp none (mE m1 ++ (Value.string m.name, .o 3) :: mE m2)), (3, .itr 6), (6, .mr none (mE' M) [] c.1), (4, .ab (bag roF ((m1 ++ m2).map (·.2)) f2))], 7⟩) (fun c => (c.2.map Value.string).Perm ((keysA M).map Value.string)) ((mE' M).map (·.1), none, []) id ?_ ?_ ?_ ?_
      · exact ⟨⟨rfl, rfl, congrArg (fun l => some (ils l)) (upL_false S.length).symm, congrArg (fun l => some (ils l)) (upL_false S.length).symm, rfl, trivial⟩, ⟨rfl, congrArg (fun q => some (Res.mp none q)) (mid_ren (f := id) (Y := 3)).symm, rfl, congrArg (fun q => some (Res.mr none q ((mE' M).map Prod.fst) none)) (ren_mE' id M).symm, rfl, trivial⟩, by simp [idbE, idb, idbL, idbH, idbR, hids, distB, fixB, memB, mid_idb, idb_mE']; try decide⟩
      · show ((mE' M).map (·.1) ++ [].map Value.string).Perm _
        rw [List.map_nil, List.append_nil, show (mE' M).map (·.1) = (keysA M).map Value.string by simp [mE', pes, enc1, keysA]]
      · rintro ⟨lf, cur, vis⟩ hp
        replace hp : (lf ++ vis.map Value.string).Perm ((keysA M).map Value.string) := hp
        refine V ?_
        refine ⟨fun e => ?_, fun kl1 k kl2 g hlk hg => ?_⟩
        · obtain rfl : lf = [] := e
          exact ⟨(cur, vis), id, ⟨⟨rfl, rfl, rfl, rfl, trivial⟩, ⟨rfl, congrArg (fun q => some (Res.mp none q)) (mid_ren (f := id) (Y := 3)).symm, rfl, congrArg (fun q => some (Res.mr none q [] cur)) (ren_mE' id M).symm, rfl, trivial⟩, by simp [idbE, idb, idbL, idbH, idbR, hids, distB, fixB, memB, mid_idb, idb_mE']; try decide⟩, hp⟩
        · obtain rfl : lf = kl1 ++ k :: kl2 := hlk
          obtain ⟨v, hv, rfl⟩ : ∃ v, v ∈ keysA M ∧ Value.string v = k := by
            have hm : k ∈ (keysA M).map Value.string := hp.mem_iff.1 (by simp)
            exact List.mem_map.1 hm
          have hf := enc1_find hv
          obtain rfl : ils (getA v [] M) = g := Option.some.inj (hf.symm.trans hg)
          refine ⟨_, hf, ?_⟩
          have hor : ∀ q : ByteArray → Bool, q v = true → Rt pg 11 [ils (upL S.length fun i => vis.any fun v => q v && saysB S i m.name v), ils (getA v [] M)] (ils (upL S.length fun i => (vis ++ [v]).any fun v => q v && saysB S i m.name v)) := fun q hq => by
            have h := ior_rt (upL S.length fun i => vis.any fun v => q v && saysB S i m.name v) (getA v [] M) (by have := upL_len S.length fun i => vis.any fun v => q v && saysB S i m.name v; omega) (by rw [hr v]; have := upL_len S.length fun i => saysB S i m.name v; omega)
            have e : orF (upL S.length fun i => vis.any fun v => q v && saysB S i m.name v) (getA v [] M) = upL S.length fun i => (vis ++ [v]).any fun v => q v && saysB S i m.name v := by
              rw [hr v, orF_up]
              refine upL_congr fun i _ => ?_
              simp [hq]
            rw [e] at h
            exact h
          refine GOJ (Rq.hf (hor (fun _ => true) rfl)) id rfl rfl trivial rfl (fun _ h => absurd h (Nat.not_lt_zero _)) ?_
          rintro _ _ _ ⟨rfl, rfl, rfl⟩
          refine VM 2 ?_
          refine JK.cut (α := Unit) (fun _ => ⟨[(0, .p 0 0), (3, .r (mt m)), (5, ils (upL S.length fun i => (vis ++ [v]).any fun v => yesF m v && saysB S i m.name v)), (6, ils (upL S.length fun i => (vis ++ [v]).any fun v => true && saysB S i m.name v)), (16, .p 6 0)], [(0, .blk 47 [gi S.length, .o 1]), (1, .mp none (mE m1 ++ (Value.string m.name, .o 3) :: mE m2)), (3, .itr 6), (6, .mr none (mE' M) (kl1 ++ kl2) (some (.string v))), (4, .ab (bag roF ((m1 ++ m2).map (·.2)) f2))], 7⟩) (fun _ => True) ?_ ?_
          · have hsame : yesF m v = false → some (ils (upL S.length fun i => vis.any fun v => yesF m v && saysB S i m.name v)) = some (ils (upL S.length fun i => (vis ++ [v]).any fun v => yesF m v && saysB S i m.name v)) := fun hq => by
              refine congrArg (fun l => some (ils l)) (upL_congr fun i _ => ?_)
              simp [hq]
            refine V ?_
            have h4 : m.op = 0 ∨ m.op = 1 ∨ m.op = 2 ∨ m.op = 3 := by omega
            rcases h4 with hm | hm | hm | hm
            · have e0 : (m.op == 0) = true := by simp [hm]
              have e1 : (m.op == 1) = false := by simp [hm]
              have e2 : (m.op == 2) = false := by simp [hm]
              have e3 : (m.op == 3) = false := by simp [hm]
              have hy : yesF m v = (sEq v m.value) := by simp [yesF, hm]
              rcases tf (sEq v m.value) with hq | hq
              · repeat (first | refine p1 ?_ | refine p2 ?_ | refine p3 ?_ | refine p4 ?_)
                refine GO (hor (yesF m) (hy.trans hq)) rfl ?_
                exact ⟨(), id, ⟨⟨rfl, rfl, rfl, rfl, rfl, trivial⟩, ⟨rfl, congrArg (fun q => some (Res.mp none q)) (mid_ren (f := id) (Y := 3)).symm, rfl, congrArg (fun q => some (Res.mr none q (kl1 ++ kl2) (some (.string v)))) (ren_mE' id M).symm, rfl, trivial⟩, by simp [idbE, idb, idbL, idbH, idbR, hids, distB, fixB, memB, mid_idb, idb_mE']; try decide⟩, trivial⟩
              · repeat (first | refine p1 ?_ | refine p2 ?_ | refine p3 ?_ | refine p4 ?_)
                exact ⟨(), id, ⟨⟨rfl, rfl, hsame (hy.trans hq), rfl, rfl, trivial⟩, ⟨rfl, congrArg (fun q => some (Res.mp none q)) (mid_ren (f := id) (Y := 3)).symm, rfl, congrArg (fun q => some (Res.mr none q (kl1 ++ kl2) (some (.string v)))) (ren_mE' id M).symm, rfl, trivial⟩, by simp [idbE, idb, idbL, idbH, idbR, hids, distB, fixB, memB, mid_idb, idb_mE']; try decide⟩, trivial⟩
            · have e0 : (m.op == 0) = false := by simp [hm]
              have e1 : (m.op == 1) = true := by simp [hm]
              have e2 : (m.op == 2) = false := by simp [hm]
              have e3 : (m.op == 3) = false := by simp [hm]
              have hy : yesF m v = (sEq v m.value) := by simp [yesF, hm]
              rcases tf (sEq v m.value) with hq | hq
              · repeat (first | refine p1 ?_ | refine p2 ?_ | refine p3 ?_ | refine p4 ?_)
                refine GO (hor (yesF m) (hy.trans hq)) rfl ?_
                exact ⟨(), id, ⟨⟨rfl, rfl, rfl, rfl, rfl, trivial⟩, ⟨rfl, congrArg (fun q => some (Res.mp none q)) (mid_ren (f := id) (Y := 3)).symm, rfl, congrArg (fun q => some (Res.mr none q (kl1 ++ kl2) (some (.string v)))) (ren_mE' id M).symm, rfl, trivial⟩, by simp [idbE, idb, idbL, idbH, idbR, hids, distB, fixB, memB, mid_idb, idb_mE']; try decide⟩, trivial⟩
              · repeat (first | refine p1 ?_ | refine p2 ?_ | refine p3 ?_ | refine p4 ?_)
                exact ⟨(), id, ⟨⟨rfl, rfl, hsame (hy.trans hq), rfl, rfl, trivial⟩, ⟨rfl, congrArg (fun q => some (Res.mp none q)) (mid_ren (f := id) (Y := 3)).symm, rfl, congrArg (fun q => some (Res.mr none q (kl1 ++ kl2) (some (.string v)))) (ren_mE' id M).symm, rfl, trivial⟩, by simp [idbE, idb, idbL, idbH, idbR, hids, distB, fixB, memB, mid_idb, idb_mE']; try decide⟩, trivial⟩
            · have e0 : (m.op == 0) = false := by simp [hm]
              have e1 : (m.op == 1) = false := by simp [hm]
              have e2 : (m.op == 2) = true := by simp [hm]
              have e3 : (m.op == 3) = false := by simp [hm]
              have hy : yesF m v = (prefF v m.value) := by simp [yesF, hm]
              rcases tf (prefF v m.value) with hq | hq
              · repeat (first | refine p1 ?_ | refine p2 ?_ | refine p3 ?_ | refine p4 ?_)
                refine GO ((hasPrefix_rt v m.value).bt hq) rfl ?_
                repeat (first | refine p1 ?_ | refine p2 ?_ | refine p3 ?_ | refine p4 ?_)
                refine GO (hor (yesF m) (hy.trans hq)) rfl ?_
                exact ⟨(), id, ⟨⟨rfl, rfl, rfl, rfl, rfl, trivial⟩, ⟨rfl, congrArg (fun q => some (Res.mp none q)) (mid_ren (f := id) (Y := 3)).symm, rfl, congrArg (fun q => some (Res.mr none q (kl1 ++ kl2) (some (.string v)))) (ren_mE' id M).symm, rfl, trivial⟩, by simp [idbE, idb, idbL, idbH, idbR, hids, distB, fixB, memB, mid_idb, idb_mE']; try decide⟩, trivial⟩
              · repeat (first | refine p1 ?_ | refine p2 ?_ | refine p3 ?_ | refine p4 ?_)
                refine GO ((hasPrefix_rt v m.value).bt hq) rfl ?_
                repeat (first | refine p1 ?_ | refine p2 ?_ | refine p3 ?_ | refine p4 ?_)
                exact ⟨(), id, ⟨⟨rfl, rfl, hsame (hy.trans hq), rfl, rfl, trivial⟩, ⟨rfl, congrArg (fun q => some (Res.mp none q)) (mid_ren (f := id) (Y := 3)).symm, rfl, congrArg (fun q => some (Res.mr none q (kl1 ++ kl2) (some (.string v)))) (ren_mE' id M).symm, rfl, trivial⟩, by simp [idbE, idb, idbL, idbH, idbR, hids, distB, fixB, memB, mid_idb, idb_mE']; try decide⟩, trivial⟩
            · have e0 : (m.op == 0) = false := by simp [hm]
              have e1 : (m.op == 1) = false := by simp [hm]
              have e2 : (m.op == 2) = false := by simp [hm]
              have e3 : (m.op == 3) = true := by simp [hm]
              have hy : yesF m v = (prefF v m.value) := by simp [yesF, hm]
              rcases tf (prefF v m.value) with hq | hq
              · repeat (first | refine p1 ?_ | refine p2 ?_ | refine p3 ?_ | refine p4 ?_)
                refine GO ((hasPrefix_rt v m.value).bt hq) rfl ?_
                repeat (first | refine p1 ?_ | refine p2 ?_ | refine p3 ?_ | refine p4 ?_)
                refine GO (hor (yesF m) (hy.trans hq)) rfl ?_
                exact ⟨(), id, ⟨⟨rfl, rfl, rfl, rfl, rfl, trivial⟩, ⟨rfl, congrArg (fun q => some (Res.mp none q)) (mid_ren (f := id) (Y := 3)).symm, rfl, congrArg (fun q => some (Res.mr none q (kl1 ++ kl2) (some (.string v)))) (ren_mE' id M).symm, rfl, trivial⟩, by simp [idbE, idb, idbL, idbH, idbR, hids, distB, fixB, memB, mid_idb, idb_mE']; try decide⟩, trivial⟩
              · repeat (first | refine p1 ?_ | refine p2 ?_ | refine p3 ?_ | refine p4 ?_)
                refine GO ((hasPrefix_rt v m.value).bt hq) rfl ?_
                repeat (first | refine p1 ?_ | refine p2 ?_ | refine p3 ?_ | refine p4 ?_)
                exact ⟨(), id, ⟨⟨rfl, rfl, hsame (hy.trans hq), rfl, rfl, trivial⟩, ⟨rfl, congrArg (fun q => some (Res.mp none q)) (mid_ren (f := id) (Y := 3)).symm, rfl, congrArg (fun q => some (Res.mr none q (kl1 ++ kl2) (some (.string v)))) (ren_mE' id M).symm, rfl, trivial⟩, by simp [idbE, idb, idbL, idbH, idbR, hids, distB, fixB, memB, mid_idb, idb_mE']; try decide⟩, trivial⟩
          · rintro _ _
            refine V ?_
            refine ⟨(kl1 ++ kl2, some (.string v), vis ++ [v]), id, ⟨⟨rfl, rfl, rfl, rfl, rfl, trivial⟩, ⟨rfl, congrArg (fun q => some (Res.mp none q)) (mid_ren (f := id) (Y := 3)).symm, rfl, congrArg (fun q => some (Res.mr none q (kl1 ++ kl2) (some (.string v)))) (ren_mE' id M).symm, rfl, trivial⟩, by simp [idbE, idb, idbL, idbH, idbR, hids, distB, fixB, memB, mid_idb, idb_mE']; try decide⟩, ?_, by show (kl1 ++ kl2).length < (kl1 ++ Value.string v :: kl2).length; simp⟩
            show ((kl1 ++ kl2) ++ (vis ++ [v]).map Value.string).Perm _
            refine List.Perm.trans ?_ hp
            rw [List.map_append, ← List.append_assoc]
            refine (List.perm_append_comm (l₂ := [v].map Value.string)).trans ?_
            show (Value.string v :: ((kl1 ++ kl2) ++ vis.map Value.string)).Perm _
            exact (List.perm_middle (l₁ := kl1)).symm.append_right _ |>.trans (by exact List.Perm.refl _)
      · rintro ⟨c, vis⟩ hp
        have hp2 : vis.Perm (keysA M) := by
          have h2 := List.Perm.map (fun x => match x with | Value.string s => s | _ => ByteArray.empty) (show (vis.map Value.string).Perm ((keysA M).map Value.string) from hp)
          rw [List.map_map, List.map_map] at h2
          have e : ((fun x => match x with | Value.string s => s | _ => ByteArray.empty) ∘ Value.string) = id := rfl
          rw [e, List.map_id, List.map_id] at h2
          exact h2
        have hany : ∀ q : ByteArray → Bool, vis.any q = (keysA M).any q := fun q => by
          rw [Bool.eq_iff_iff, List.any_eq_true, List.any_eq_true]
          exact ⟨fun ⟨x, h1, h2⟩ => ⟨x, hp2.mem_iff.1 h1, h2⟩, fun ⟨x, h1, h2⟩ => ⟨x, hp2.mem_iff.2 h1, h2⟩⟩
        refine JK.unrange 3 6 rfl rfl rfl ?_
        refine JK.pack (fun _ => 3) 1 3 [(0, .mp none (mE' M))] ⟨congrArg (fun q => some (Res.mp none q)) (ren_mE' _ M).symm, trivial⟩ (by simp [idbH, idbR, idb_mE', hids, distB, memB]; try decide) fun g1 => ?_
        refine JK.unfocus (F := roF) (kd := none) (m1 := m1) (m2 := m2) (x := enc1 M) (f1 := g1) (f2 := f2) 1 3 4 rfl rfl rfl fun f' => ?_
        refine V ?_
        refine ⟨f', id, ⟨⟨rfl, rfl, congrArg (fun l => some (ils l)) (upL_congr fun i _ => hany _), congrArg (fun l => some (ils l)) (upL_congr fun i _ => hany _), trivial⟩, ⟨rfl, ?_, trivial⟩, rfl⟩, trivial⟩
        exact congrArg (fun q => some (Res.ab (mapA roF none q f'))) (by rw [hm1, hm2, ← encI_mid, hL])
    · have hM : getA m.name [] (ixF S) = [] := getA_new hn
      rw [show valsI (ixF S) m.name = [] by rw [valsI, hM]; rfl]
      refine JK.mopen (F := roF) (kd := none) (l := encI (ixF S)) (f := f) 1 rfl fun q f2 hq => ?_
      refine V ?_
      refine DRAW [] true (tk [0, 1, 2, 3, 4, 5, 6] ++ al [7]) (by kernel_rfl) ?_
      refine lkN (find_no (noKeyI hq hn)) ?_
      refine V ?_
      refine JK.loopE (α := Unit) (β := Unit) (fun _ => ⟨[(0, .p 0 0), (3, .r (mt m)), (5, ils []), (6, ils []), (16, .p 4 0)], [(0, .blk 47 [gi S.length, .o 1]), (1, .mp none (mE q)), (3, .ab (bag roF (q.map (·.2)) f2)), (4, .ob (.mapIter none 0 #[] 0))], 5⟩) (fun _ => True) (fun _ => 0)
        (fun _ => ⟨[(0, .p 0 0), (3, .r (mt m)), (5, ils []), (6, ils [])], [(0, .blk 47 [gi S.length, .o 1]), (1, .mp none (mE q)), (3, .ab (bag roF (q.map (·.2)) f2))], 4⟩) (fun _ => True) () id ?_ trivial ?_ ?_
      · exact ⟨⟨rfl, rfl, rfl, rfl, rfl, trivial⟩, ⟨rfl, congrArg (fun q => some (Res.mp none q)) (mE_ren id q).symm, rfl, rfl, trivial⟩, by simp [idbE, idb, idbL, idbH, idbR, hids, distB, fixB, memB, mE_idb]; try decide⟩
      · rintro _ _
        refine V ?_
        exact ⟨(), id, ⟨⟨rfl, rfl, rfl, rfl, trivial⟩, ⟨rfl, congrArg (fun q => some (Res.mp none q)) (mE_ren id q).symm, rfl, trivial⟩, by simp [idbE, idb, idbL, idbH, idbR, hids, distB, fixB, memB, mE_idb]; try decide⟩, trivial⟩
      · rintro _ _
        refine JK.mclose (F := roF) (kd := none) (l' := q) (f2 := f2) 1 3 rfl rfl fun f' => ?_
        refine V ?_
        refine ⟨f', id, ⟨⟨rfl, rfl, congrArg (fun l => some (ils l)) (upL_false S.length).symm, congrArg (fun l => some (ils l)) (upL_false S.length).symm, trivial⟩, ⟨rfl, ?_, trivial⟩, rfl⟩, trivial⟩
        exact congrArg (fun q => some (Res.ab (mapA roF none q f'))) hq
  · rintro f' _
    have hlu := fun p => upL_len S.length p
    refine VM 1 ?_
    refine JK.cut (α := List Nat) (fun f' => ⟨[(0, .p 0 0), (3, .r (mt m)), (5, ils (upL S.length fun i => yesF m (lgetF (S.getD i []) m.name)))], IX S f', 3⟩) (fun _ => True) ?_ ?_
    · refine V ?_
      rcases tf (sEq m.value ⟨#[]⟩) with he | he
      · refine p1 ?_ he
        refine GOH (all_hf S f' (by omega)) id rfl rfl ⟨rfl, rfl, trivial⟩ rfl (id_lt rfl) ?_
        rintro _ _ _ ⟨f2, rfl, rfl, rfl⟩
        refine GO (not_rt (upL S.length fun _ => true) (upL S.length fun i => (valsI (ixF S) m.name).any fun v => true && saysB S i m.name v) (by have := hlu fun _ => true; omega) (by have := hlu fun i => (valsI (ixF S) m.name).any fun v => true && saysB S i m.name v; omega) (upL_ris _ _)) rfl ?_
        have hk := keep_len (upL S.length fun _ => true) (upL S.length fun i => (valsI (ixF S) m.name).any fun v => true && saysB S i m.name v) false
        refine GO (ior_rt (upL S.length fun i => (valsI (ixF S) m.name).any fun v => yesF m v && saysB S i m.name v) _ (by have := hlu fun i => (valsI (ixF S) m.name).any fun v => yesF m v && saysB S i m.name v; omega) (by have := hlu fun _ => true; omega)) rfl ?_
        refine ⟨f2, id, ⟨⟨rfl, rfl, ?_, trivial⟩, ⟨rfl, rfl, trivial⟩, rfl⟩, trivial⟩
        refine congrArg (fun l => some (ils l)) ?_
        rw [keep_up, orF_up]
        refine upL_congr fun i hi => ?_
        have := hsome i hi
        rw [he, Bool.true_and] at this
        rw [Bool.true_and]
        exact this
      · refine p2 ?_ he
        refine ⟨f', id, ⟨⟨rfl, rfl, ?_, trivial⟩, ⟨rfl, rfl, trivial⟩, rfl⟩, trivial⟩
        refine congrArg (fun l => some (ils l)) (upL_congr fun i hi => ?_)
        have := hsome i hi
        rw [he, Bool.false_and, Bool.or_false] at this
        exact this
    · rintro f2 _
      refine V ?_
      have hlone : ∀ i, loneF (S.getD i []) m = if m.op = 0 ∨ m.op = 2 then yesF m (lgetF (S.getD i []) m.name) else !yesF m (lgetF (S.getD i []) m.name) := fun i => lone_yes hop
      have h4 : m.op = 0 ∨ m.op = 1 ∨ m.op = 2 ∨ m.op = 3 := by omega
      have fin1 : m.op = 0 ∨ m.op = 2 → upL S.length (fun i => yesF m (lgetF (S.getD i []) m.name)) = upL S.length fun i => loneF (S.getD i []) m := fun h => upL_congr fun i _ => by rw [hlone, if_pos h]
      have fin2 : ¬ (m.op = 0 ∨ m.op = 2) → keepF (upL S.length fun _ => true) (upL S.length fun i => yesF m (lgetF (S.getD i []) m.name)) false = upL S.length fun i => loneF (S.getD i []) m := fun h => by
        rw [keep_up]
        refine upL_congr fun i _ => ?_
        rw [hlone, if_neg h]
        cases yesF m (lgetF (S.getD i []) m.name) <;> rfl
      have hnot := not_rt (upL S.length fun _ => true) (upL S.length fun i => yesF m (lgetF (S.getD i []) m.name)) (by have := hlu fun _ => true; omega) (by have := hlu fun i => yesF m (lgetF (S.getD i []) m.name); omega) (upL_ris _ _)
      rcases h4 with hm | hm | hm | hm
      · have e0 : (m.op == 0) = true := by simp [hm]
        repeat (first | refine p1 ?_ | refine p2 ?_ | refine p3 ?_ | refine p4 ?_)
        rw [← fin1 (.inl hm)]
        exact ⟨rfl, f2, rfl, rfl⟩
      · have e0 : (m.op == 0) = false := by simp [hm]
        have e2 : (m.op == 2) = false := by simp [hm]
        repeat (first | refine p1 ?_ | refine p2 ?_ | refine p3 ?_ | refine p4 ?_)
        refine GOH (all_hf S f2 (by omega)) id rfl rfl ⟨rfl, rfl, trivial⟩ rfl (id_lt rfl) ?_
        rintro _ _ _ ⟨f3, rfl, rfl, rfl⟩
        refine GO hnot rfl ?_
        rw [← fin2 (by omega)]
        exact ⟨rfl, f3, rfl, rfl⟩
      · have e0 : (m.op == 0) = false := by simp [hm]
        have e2 : (m.op == 2) = true := by simp [hm]
        repeat (first | refine p1 ?_ | refine p2 ?_ | refine p3 ?_ | refine p4 ?_)
        rw [← fin1 (.inr hm)]
        exact ⟨rfl, f2, rfl, rfl⟩
      · have e0 : (m.op == 0) = false := by simp [hm]
        have e2 : (m.op == 2) = false := by simp [hm]
        repeat (first | refine p1 ?_ | refine p2 ?_ | refine p3 ?_ | refine p4 ?_)
        refine GOH (all_hf S f2 (by omega)) id rfl rfl ⟨rfl, rfl, trivial⟩ rfl (id_lt rfl) ?_
        rintro _ _ _ ⟨f3, rfl, rfl, rfl⟩
        refine GO hnot rfl ?_
        rw [← fin2 (by omega)]
        exact ⟨rfl, f3, rfl, rfl⟩
theorem asked_op'' {l : List Mt} (h : askedF l = true) : ∀ x ∈ l, 0 ≤ x.op ∧ x.op ≤ 3 := by
  unfold askedF at h
  rw [Bool.and_eq_true, Bool.not_eq_true'] at h
  intro x hx
  obtain ⟨i, hi, rfl⟩ := List.getElem_of_mem hx
  have := anyB_get h.1 i hi
  rw [show l.getD i default = l[i] by simp [hi]] at this
  unfold mbad at this
  simp only [Bool.or_eq_false_iff, Bool.not_eq_false', decide_eq_true_eq] at this
  exact this.2.2
/-- What matchers find. -/
def matF (S : List (List Lb)) (ms : List Mt) : List Int := upL S.length fun i => allF (S.getD i []) ms
theorem allF_snoc (l : List Lb) (ms : List Mt) (i : Nat) (h : i < ms.length) : allF l (ms.take (i + 1)) = (allF l (ms.take i) && loneF l ms[i]) := by
  rw [List.take_succ_eq_append_getElem h]
  unfold allF
  rw [List.all_append]
  simp
theorem mat_step (S : List (List Lb)) (ms : List Mt) (i : Nat) (h : i < ms.length) : keepF (matF S (ms.take i)) (upL S.length fun j => loneF (S.getD j []) ms[i]) true = matF S (ms.take (i + 1)) := by
  unfold matF
  rw [keep_up]
  refine upL_congr fun j _ => ?_
  rw [allF_snoc _ _ _ h]
  cases loneF (S.getD j []) ms[i] <;> rfl
theorem match_hf (S : List (List Lb)) (f : List Nat) (ms : List Mt) (hl : S.length ≤ 50000) (hS : ∀ s ∈ S, rightF s = true) (hm : Sm2 ms) (hml : ms.length ≤ 1000000) : Hf pg 8 2 [.p 0 0, .sl 3 (ms.map mt)] (IX S f) (IxQ S (if askedF ms = true then .tup [ils (matF S ms), .v .nilIface] else .tup [.v (.slice none 0 0), .ifc 49 (gi 1)])) := by
  refine fin_ix (by split <;> rfl) (Hf.of pg_ok Tryd.func8 rfl Tryd.ntmps8 rfl Tryd.results8 Tryd.call8 fun H0 S0 w0 h0 g0 => ?_)
  rcases tf (askedF ms) with hk | hk
  · rw [if_pos hk]
    have hop := asked_op'' hk
    refine GO ((lasked_rt ms hm).bt hk) rfl ?_
    refine GOH (all_hf S f (by omega)) id rfl rfl ⟨rfl, rfl, trivial⟩ rfl (id_lt rfl) ?_
    rintro _ _ _ ⟨f1, rfl, rfl, rfl⟩
    have hll : (ms.map mt).length = ms.length := by simp
    refine JK.loopE (α := Nat × List Nat) (β := List Nat) (fun z => ⟨[(0, .p 0 0), (6, ils (matF S (ms.take z.1))), (15, .sl 3 (ms.map mt)), (16, gi (ms.map mt).length), (17, gi z.1)], IX S z.2, 2⟩) (fun z => z.1 ≤ ms.length) (fun z => ms.length - z.1)
      (fun f => ⟨[(6, ils (matF S ms))], IX S f, 2⟩) (fun _ => True) (0, f1) id ?_ (Nat.zero_le _) ?_ ?_
    · refine ⟨⟨rfl, ?_, rfl, rfl, rfl, trivial⟩, ⟨rfl, rfl, trivial⟩, rfl⟩
      exact congrArg (fun l => some (ils l)) (upL_congr fun i _ => by simp [allF])
    · rintro ⟨i, f2⟩ hi
      replace hi : i ≤ ms.length := hi
      refine V ?_
      by_cases hlt : i < ms.length
      · refine p1 ?_ (decide_eq_true (by dsimp only; omega))
        refine ix (h := ?_)
        have hone := one_hf S f2 ms[i] hl hS (hop _ (List.getElem_mem hlt))
        refine GOH hone id rfl rfl ⟨rfl, rfl, trivial⟩ rfl (id_lt rfl) ?_
        rintro _ _ _ ⟨f3, rfl, rfl, rfl⟩
        refine GO (and_rt (matF S (ms.take i)) (upL S.length fun j => loneF (S.getD j []) ms[i]) (by have := upL_len S.length fun j => allF (S.getD j []) (ms.take i); unfold matF; omega) (by have := upL_len S.length fun j => loneF (S.getD j []) ms[i]; omega) (upL_ris _ _)) rfl ?_
        refine ⟨(i + 1, f3), id, ⟨⟨rfl, ?_, rfl, rfl, succ_gi (by omega), trivial⟩, ⟨rfl, rfl, trivial⟩, rfl⟩, hlt, by show ms.length - (i + 1) < ms.length - i; omega⟩
        exact congrArg (fun l => some (ils l)) (mat_step S ms i hlt)
      · refine p2 ?_ (decide_eq_false (by dsimp only; omega))
        obtain rfl : i = ms.length := by omega
        simp only [List.take_length]
        exact ⟨f2, id, ⟨⟨rfl, trivial⟩, ⟨rfl, rfl, trivial⟩, rfl⟩, trivial⟩
    · rintro f2 _
      refine V ?_
      exact ⟨rfl, f2, rfl, rfl⟩
  · rw [if_neg (by rw [hk]; decide)]
    refine GO ((lasked_rt ms hm).bt hk) rfl ?_
    exact ⟨rfl, f, rfl, rfl⟩
end Go.Proofs.YtpenlenmpigomaaDoor
/-
  Contracts: the document's answer on labels and matchers (chapter 4).
-/
namespace Go.Proofs.YtpenlenmpigomaaDoor
open Go.GK Go.PL Go.RowKit
set_option maxRecDepth 100000
theorem sLt_le (a b : ByteArray) : (Op.bytesLess a.toList b.toList || a.toList == b.toList) = !sLt b a := by
  show (sLt a b || sEq a b) = _
  have h := cmpS_is
  rw [sLt_cmp, sLt_cmp, Bool.eq_iff_iff]
  simp only [Bool.or_eq_true, decide_eq_true_iff, sEq_iff, Bool.not_eq_true', decide_eq_false_iff_not]
  rw [h.anti a b, ← h.eq0]
  have := h.rng a b
  omega
end Go.Proofs.YtpenlenmpigomaaDoor
/-
  Contracts: the document's answer on labels: order, text, Only, Fits; short labels, the same labels.
-/
namespace Go.Proofs.YtpenlenmpigomaaDoor
open Go.GK Go.PL Go.RowKit
set_option maxRecDepth 100000
theorem eqLb (a b : Lb) : (sEq a.name b.name && (sEq a.value b.value && true)) = decide (cmpL1 a b = 0) := by
  rw [Bool.eq_iff_iff, decide_eq_true_iff, cmpL1_is.eq0, Bool.and_true, Bool.and_eq_true, sEq_iff, sEq_iff]
  obtain ⟨a1, a2⟩ := a
  obtain ⟨b1, b2⟩ := b
  simp
/-- Labels, matchers that are short enough to be held, as the laws say. -/
def shL (l : List Lb) : Bool := decide (l.length ≤ 20) && !anyB l.length (fun i => decide (60 < (l.getD i default).name.size) || decide (60 < (l.getD i default).value.size))
def shM (l : List Mt) : Bool := decide (l.length ≤ 20) && !anyB l.length (fun i => decide (60 < (l.getD i default).name.size) || decide (60 < (l.getD i default).value.size))
theorem shL_Hl {l : List Lb} (h : shL l = true) : Hl l := by
  unfold shL at h
  rw [Bool.and_eq_true, decide_eq_true_iff, Bool.not_eq_true'] at h
  have key : ∀ x ∈ l, x.name.size ≤ 60 ∧ x.value.size ≤ 60 := fun x hx => by
    obtain ⟨i, hi, rfl⟩ := List.getElem_of_mem hx
    have := anyB_get h.2 i hi
    rw [show l.getD i default = l[i] by simp [hi], Bool.or_eq_false_iff, decide_eq_false_iff_not, decide_eq_false_iff_not] at this
    omega
  exact ⟨by omega, fun x hx => by have := key x hx; omega, fun x hx => by have := key x hx; omega⟩
theorem shM_le {l : List Mt} (h : shM l = true) : l.length ≤ 20 ∧ ∀ x ∈ l, x.name.size ≤ 60 ∧ x.value.size ≤ 60 := by
  unfold shM at h
  rw [Bool.and_eq_true, decide_eq_true_iff, Bool.not_eq_true'] at h
  refine ⟨h.1, fun x hx => ?_⟩
  obtain ⟨i, hi, rfl⟩ := List.getElem_of_mem hx
  have := anyB_get h.2 i hi
  rw [show l.getD i default = l[i] by simp [hi], Bool.or_eq_false_iff, decide_eq_false_iff_not, decide_eq_false_iff_not] at this
  omega
theorem Hl.sh {l : List Lb} (h : Hl l) : Sh l := fun x hx => by have := h.value x hx; omega
end Go.Proofs.YtpenlenmpigomaaDoor
/-
  Contracts: the laws LabelOrder, LabelNot.
-/
namespace Go.Proofs.YtpenlenmpigomaaDoor
open Go.GK Go.PL Go.RowKit
set_option maxRecDepth 100000
theorem kshortL_rt (l : List Lb) : Rt pg 5 [.sl 2 (l.map lb)] (.b (shL l)) := by
  refine Rt.of pg_ok Tryd.func5 rfl Tryd.ntmps5 rfl Tryd.results5 Tryd.call5 fun H0 S0 w0 h0 g0 => ?_
  have hll : (l.map lb).length = l.length := by simp
  unfold shL
  by_cases hl : l.length ≤ 20
  · refine p2 ?_
    refine JK.loop (α := Nat) (fun i => ⟨[(0, .sl 2 (l.map lb)), (3, gi i)], [], 0⟩) (fun i => i ≤ l.length ∧ ∀ j, j < i → (decide (60 < (l.getD j default).name.size) || decide (60 < (l.getD j default).value.size)) = false) (fun i => l.length - i) 0 id ?_ ⟨Nat.zero_le _, fun j hj => absurd hj (by omega)⟩ ?_
    · exact ⟨⟨rfl, rfl, trivial⟩, trivial, rfl⟩
    · rintro i ⟨hi, hgood⟩
      refine V ?_
      by_cases hlt : i < l.length
      · have hg : l.getD i default = l[i] := by simp [hlt]
        have hbad : (decide (60 < l[i].name.size) || decide (60 < l[i].value.size)) = true → (decide (l.length ≤ 20) && !anyB l.length (fun i => decide (60 < (l.getD i default).name.size) || decide (60 < (l.getD i default).value.size))) = false := fun h => by rw [anyB_true hlt (by rw [hg]; exact h)]; simp
        have hnext : (decide (60 < l[i].name.size) || decide (60 < l[i].value.size)) = false → ∀ j, j < i + 1 → (decide (60 < (l.getD j default).name.size) || decide (60 < (l.getD j default).value.size)) = false := fun h j hj => by
          rcases Nat.lt_succ_iff_lt_or_eq.1 hj with h1 | h1
          · exact hgood j h1
          · subst h1; rw [hg]; exact h
        by_cases h1 : 60 < l[i].name.size
        · repeat (first | refine p1 ?_ | refine p2 ?_ | refine p3 ?_ | refine p4 ?_ | refine ix (h := ?_))
          exact ⟨(hbad (by rw [decide_eq_true h1]; rfl)).symm, rfl⟩
        · by_cases h2 : 60 < l[i].value.size
          · repeat (first | refine p1 ?_ | refine p2 ?_ | refine p3 ?_ | refine p4 ?_ | refine ix (h := ?_))
            exact ⟨(hbad (by rw [decide_eq_true h2, Bool.or_true])).symm, rfl⟩
          · repeat (first | refine p1 ?_ | refine p2 ?_ | refine p3 ?_ | refine p4 ?_ | refine ix (h := ?_))
            exact ⟨i + 1, id, ⟨⟨rfl, succ_gi (by omega), trivial⟩, trivial, rfl⟩, ⟨hlt, hnext (by rw [decide_eq_false h1, decide_eq_false h2]; rfl)⟩, by show l.length - (i + 1) < l.length - i; omega⟩
      · refine p2 ?_
        refine V ?_
        obtain rfl : i = l.length := by omega
        exact ⟨by rw [anyB_false hgood, decide_eq_true hl]; rfl, rfl⟩
  · refine p1 ?_
    exact ⟨by rw [decide_eq_false hl]; rfl, rfl⟩
theorem kshortM_rt (l : List Mt) : Rt pg 4 [.sl 3 (l.map mt)] (.b (shM l)) := by
  refine Rt.of pg_ok Tryd.func4 rfl Tryd.ntmps4 rfl Tryd.results4 Tryd.call4 fun H0 S0 w0 h0 g0 => ?_
  have hll : (l.map mt).length = l.length := by simp
  unfold shM
  by_cases hl : l.length ≤ 20
  · refine p2 ?_
    refine JK.loop (α := Nat) (fun i => ⟨[(0, .sl 3 (l.map mt)), (3, gi i)], [], 0⟩) (fun i => i ≤ l.length ∧ ∀ j, j < i → (decide (60 < (l.getD j default).name.size) || decide (60 < (l.getD j default).value.size)) = false) (fun i => l.length - i) 0 id ?_ ⟨Nat.zero_le _, fun j hj => absurd hj (by omega)⟩ ?_
    · exact ⟨⟨rfl, rfl, trivial⟩, trivial, rfl⟩
    · rintro i ⟨hi, hgood⟩
      refine V ?_
      by_cases hlt : i < l.length
      · have hg : l.getD i default = l[i] := by simp [hlt]
        have hbad : (decide (60 < l[i].name.size) || decide (60 < l[i].value.size)) = true → (decide (l.length ≤ 20) && !anyB l.length (fun i => decide (60 < (l.getD i default).name.size) || decide (60 < (l.getD i default).value.size))) = false := fun h => by rw [anyB_true hlt (by rw [hg]; exact h)]; simp
        have hnext : (decide (60 < l[i].name.size) || decide (60 < l[i].value.size)) = false → ∀ j, j < i + 1 → (decide (60 < (l.getD j default).name.size) || decide (60 < (l.getD j default).value.size)) = false := fun h j hj => by
          rcases Nat.lt_succ_iff_lt_or_eq.1 hj with h1 | h1
          · exact hgood j h1
          · subst h1; rw [hg]; exact h
        by_cases h1 : 60 < l[i].name.size
        · repeat (first | refine p1 ?_ | refine p2 ?_ | refine p3 ?_ | refine p4 ?_ | refine ix (h := ?_))
          exact ⟨(hbad (by rw [decide_eq_true h1]; rfl)).symm, rfl⟩
        · by_cases h2 : 60 < l[i].value.size
          · repeat (first | refine p1 ?_ | refine p2 ?_ | refine p3 ?_ | refine p4 ?_ | refine ix (h := ?_))
            exact ⟨(hbad (by rw [decide_eq_true h2, Bool.or_true])).symm, rfl⟩
          · repeat (first | refine p1 ?_ | refine p2 ?_ | refine p3 ?_ | refine p4 ?_ | refine ix (h := ?_))
            exact ⟨i + 1, id, ⟨⟨rfl, succ_gi (by omega), trivial⟩, trivial, rfl⟩, ⟨hlt, hnext (by rw [decide_eq_false h1, decide_eq_false h2]; rfl)⟩, by show l.length - (i + 1) < l.length - i; omega⟩
      · refine p2 ?_
        refine V ?_
        obtain rfl : i = l.length := by omega
        exact ⟨by rw [anyB_false hgood, decide_eq_true hl]; rfl, rfl⟩
  · refine p1 ?_
    exact ⟨by rw [decide_eq_false hl]; rfl, rfl⟩
theorem asked_op {m : List Mt} (h3 : askedF m = true) : ∀ x ∈ m, 0 ≤ x.op ∧ x.op ≤ 3 := fun x hx => by
  unfold askedF at h3
  rw [Bool.and_eq_true, Bool.not_eq_true'] at h3
  obtain ⟨i, hi, rfl⟩ := List.getElem_of_mem hx
  have := anyB_get h3.1 i hi
  rw [show m.getD i default = m[i] by simp [hi], mbad, Bool.or_eq_false_iff, Bool.or_eq_false_iff, Bool.not_eq_false', Bool.not_eq_false', Bool.not_eq_false', decide_eq_true_iff] at this
  exact this.2.2
abbrev bA : ByteArray := ⟨#[97]⟩
abbrev bX : ByteArray := ⟨#[120]⟩
abbrev bB : ByteArray := ⟨#[98]⟩
abbrev bY : ByteArray := ⟨#[121]⟩
end Go.Proofs.YtpenlenmpigomaaDoor
