/-
  DiskPlays.
-/
import Derived.Test.YtbapgglhpbbonaaDoorCWalPlays
import Derived.Test.YtbapgglhpbbonaaDoorCNames
import Derived.Test.YtbapgglhpbbonaaDoorCRefStart
import Derived.Test.YtbapgglhpbbonaaDoorGKh
namespace Go.Proofs.YtbapgglhpbbonaaDoor
open Go.GK Go.PL Go.RowKit
set_option maxRecDepth 100000
abbrev ac (x : Int × Int × ByteArray × ByteArray) : List GV := [gi x.1, gi x.2.1, gs x.2.2.1, gs x.2.2.2]
theorem newDisk_hf : Hf pg 19 0 [] [] (fun g σ' n' => g = .p 1 0 ∧ σ' = [(1, .blk 61 [.o 0, gi (-1)]), (0, .mp none (pes ee []))] ∧ n' = 2) := by
  refine Hf.of pg_ok Tryd.func19 rfl Tryd.ntmps19 rfl Tryd.results19 Tryd.call19 fun H0 S0 w0 h0 g0 => ?_
  exact ⟨rfl, rfl, rfl⟩
section
variable {N n0 : Nat} {H0 : Hid} {S0 : List Nat} {w0 : World} {h0 : H0.n = n0} {g0 : GlOk pg H0} {T : Post} {k : List It} {s : St}
theorem VM (n : Nat) (h : vc ⟨pg, N, n0, H0, S0, w0, h0, g0⟩ T n k s) : JK ⟨pg, N, n0, H0, S0, w0, h0, g0⟩ T k s := vc_sound pg_ok n k s h
end
theorem ee_r0 (f : Nat → Nat) (F : List (Value × Fl)) : some (Res.mp none (pes ee F)) = some (Res.mp none (renM f (pes ee F))) := congrArg (fun l => some (Res.mp none l)) (ee_ren _ _).symm
theorem ee_r2 (f g : Nat → Nat) (F : List (Value × Fl)) : some (Res.mp none (renM f (pes ee F))) = some (Res.mp none (renM g (pes ee F))) := congrArg (fun l => some (Res.mp none l)) ((ee_ren _ _).trans (ee_ren _ _).symm)
theorem ee_rf {id : Nat} {rows : List (List GV)} (f g : Nat → Nat) (F : List (Value × Fl)) : some (Res.mp none ((renM f (pes ee F)).map fun x => (x.1, frz id 1 rows x.2))) = some (Res.mp none (renM g (pes ee F))) := by
  rw [ee_ren, ee_ren, pes_frz ee (fun _ => rfl)]
theorem refN (x : Option Int) : (match x with | none => 0 | some m => m) = erN x := by cases x <;> rfl
theorem bare_ok (x : Option Int) : Rt pg 7 [erG x, gi (erN x)] (.v (.bool true)) := (bare_rt x (erN x)).bt (d := true) (by simp)
/-- The files, as both disks have them. -/
theorem names_eq {d : Dk} {B : Nat} {F : List (Value × Fl)} {left : Int} (h : Rel d F left) (hok : d.ok B) : sortB (F.map fun y => nmOf y.1) = names d := by
  have h1 := (h.perm hok).map nmOf
  rw [List.map_map, List.map_map] at h1
  exact sortB_of (h1.map fun s => s.data.toList)
theorem mem_sortB {l : List ByteArray} {x : ByteArray} (h : x ∈ sortB l) : x ∈ l := by
  unfold sortB at h
  obtain ⟨y, hy, rfl⟩ := List.mem_map.1 h
  rw [List.mem_mergeSort] at hy
  obtain ⟨z, hz, rfl⟩ := List.mem_map.1 hy
  exact hz
theorem mem_names {d : Dk} {B : Nat} (hok : d.ok B) {f : ByteArray} (h : f ∈ names d) : ∃ x, fnd f d = some x := by
  obtain ⟨⟨q, x⟩, hy, rfl⟩ := List.mem_map.1 (mem_sortB h)
  have hq := hok.keys _ hy
  cases q with
  | string f => exact ⟨x, (pfind_mem rfl hok.keys hok.nd).2 hy⟩
  | _ => cases hq
abbrev TA (l : List (Int × Int × ByteArray × ByteArray)) (i : Nat) : Env := [(0, .sl 4 (l.map ac)), (3, .p 0 0), (4, .p 1 0), (5, gi i)]
abbrev HA (d : Dk) (fp : List Nat) (F : List (Value × Fl)) (left : Int) : Heap := [(0, .ab (dk d fp)), (1, .blk 61 [.o 2, gi left]), (2, .mp none (pes ee F))]
theorem diskPlays_rt (l : List (Int × Int × ByteArray × ByteArray)) (hN : ∀ x ∈ l, x.2.1 ≤ 9223372036854775807) : Rt pg 5 [.sl 4 (l.map ac)] (.b true) := by
  refine Rt.of pg_ok Tryd.func5 rfl Tryd.ntmps5 rfl Tryd.results5 Tryd.call5 fun H0 S0 w0 h0 g0 => ?_
  by_cases hlen : l.length > 60
  · refine p1 ?_ (decide_eq_true (by simp only [List.length_map]; omega))
    exact ⟨rfl, rfl⟩
  · refine p2 ?_ (decide_eq_false (by simp only [List.length_map]; omega))
    refine PCK0 0 rfl rfl fun fp0 => ?_
    refine GOH newDisk_hf id rfl rfl trivial rfl (by simp) ?_
    rintro _ _ _ ⟨rfl, rfl, rfl⟩
    refine JK.loopE (α := Nat × Dk × List Nat × List (Value × Fl) × Int) (β := Unit)
      (fun a => ⟨TA l a.1, HA a.2.1 a.2.2.1 a.2.2.2.1 a.2.2.2.2, 3⟩)
      (fun a => a.1 ≤ l.length ∧ PSt a.1 a.2.1 ∧ Rel a.2.1 a.2.2.2.1 a.2.2.2.2) (fun a => l.length - a.1)
      (fun _ => ⟨[], [], 0⟩) (fun _ => True) (0, dk0, fp0, [], -1) (fun q => bif Nat.beq q 1 then 2 else bif Nat.beq q 2 then 1 else q) ?_ ?_ ?_ ?_
    · exact ⟨⟨rfl, rfl, rfl, rfl, trivial⟩, ⟨rfl, rfl, rfl, trivial⟩, rfl⟩
    · exact ⟨Nat.zero_le _, ⟨dk0_ok _, by simp [dk0], Nat.le_refl 0⟩, ⟨by simp, by simp [pnodup], fun f => rfl, .inl ⟨rfl, rfl⟩⟩⟩
    · rintro ⟨i, d, fp, F, left⟩ ⟨hi, hst, hr⟩
      replace hi : i ≤ l.length := hi
      replace hst : PSt i d := hst
      replace hr : Rel d F left := hr
      refine VM 43 ?_
      by_cases hlt : i < l.length
      · refine p1 ?_ (decide_eq_true (by simp only [List.length_map]; omega))
        have hNi := hN l[i] (List.getElem_mem hlt)
        refine ix (h := ?_)
        generalize l[i] = x at hNi ⊢
        obtain ⟨what, nn, fl, s⟩ := x
        replace hNi : nn ≤ 9223372036854775807 := hNi
        by_cases hF : (fl.size : Int) > 100
        · refine p3 ?_ (decide_eq_true hF)
          refine ⟨(i + 1, d, fp, F, left), id, ⟨⟨rfl, rfl, rfl, succ_gi (by omega), trivial⟩, ⟨rfl, rfl, ee_r0 _ _, trivial⟩, ?_⟩, ⟨hlt, hst.mono (by omega), hr⟩, by show l.length - (i + 1) < l.length - i; omega⟩
          simp [idbE, idb, idbL, idbH, idbR, ee_id, hids, distB, fixB, memB]; try decide
        refine p4 ?_ (decide_eq_false hF)
        by_cases hS : (s.size : Int) > 200
        · refine p1 ?_ (decide_eq_true hS)
          refine ⟨(i + 1, d, fp, F, left), id, ⟨⟨rfl, rfl, rfl, succ_gi (by omega), trivial⟩, ⟨rfl, rfl, ee_r0 _ _, trivial⟩, ?_⟩, ⟨hlt, hst.mono (by omega), hr⟩, by show l.length - (i + 1) < l.length - i; omega⟩
          simp [idbE, idb, idbL, idbH, idbR, ee_id, hids, distB, fixB, memB]; try decide
        refine p2 ?_ (decide_eq_false hS)
        refine JK.cut (α := Dk × List Nat × List (Value × Fl) × Int) (fun a => ⟨[(0, .sl 4 (l.map ac)), (3, .p 0 0), (4, .p 1 0), (5, gi i), (6, .p 3 0)], [(0, .ab (dk a.1 a.2.1)), (1, .blk 61 [.o 2, gi a.2.2.2]), (2, .mp none (pes ee a.2.2.1)), (3, .blk 56 [gi what, gi nn, gs fl, gs s])], 4⟩)
          (fun a => PSt (i + 1) a.1 ∧ Rel a.1 a.2.2.1 a.2.2.2) ?_ ?_
        · refine V ?_
          by_cases w0 : what = 0
          · refine p1 ?_ (by simp [w0])
            have h1 := append_hf d fp _ hst.ok fl s (by omega)
            have h2 := ref0_hf d _ hst.ok F left hr fl s (by omega)
            have h3 := hst.append fl s (by omega)
            generalize appendF fl s d = A at h1 h2 h3
            obtain ⟨e1, d2⟩ := A
            rcases e1 with _ | m
            · replace h2 : Hf pg 21 2 [.p 0 0, gi 0, gs fl, gs s] (rheap F left) (RefQ 0 d2) := h2
              refine DRAW [0, 1, 2] false (tk [0, 1, 2, 3, 5, 6, 7, 8, 9]) (by kernel_rfl) ?_
              refine RGOH 4 false [] h1 id rfl rfl rfl ⟨rfl, trivial⟩ rfl (id_lt rfl) (by kernel_rfl) ?_
              rintro _ _ _ ⟨rfl, ⟨fp2, rfl⟩, rfl⟩
              refine RGOH 10 false [] h2 (rr 1 2) rfl rfl rfl ⟨rfl, ee_r0 _ _, trivial⟩ (by simp only [idb, idbL, idbH, idbR, ee_id]; rfl) (rr_lt rfl rfl) (by kernel_rfl) ?_
              rintro _ _ _ ⟨rfl, ⟨F2, left2, hr2, rfl⟩, rfl⟩
              refine RGO 11 true (tk [12]) (bare_ok none) rfl rfl (by kernel_rfl) ?_
              refine V ?_
              refine ⟨(d2, fp2, F2, left2), id, ⟨⟨rfl, rfl, rfl, rfl, rfl, trivial⟩, ⟨rfl, rfl, ee_r2 _ _ _, rfl, trivial⟩, ?_⟩, h3, hr2⟩
              simp [idbE, idb, idbL, idbH, idbR, ee_id, hids, distB, fixB, memB]; try decide
            · replace h2 : Hf pg 21 2 [.p 0 0, gi 0, gs fl, gs s] (rheap F left) (RefQ m d2) := h2
              refine DRAW [0, 1, 2] false (tk [0, 1, 2, 3, 5, 6, 7, 8, 9]) (by kernel_rfl) ?_
              refine RGOH 4 false [] h1 id rfl rfl rfl ⟨rfl, trivial⟩ rfl (id_lt rfl) (by kernel_rfl) ?_
              rintro _ _ _ ⟨rfl, ⟨fp2, rfl⟩, rfl⟩
              refine RGOH 10 false [] h2 (rr 1 2) rfl rfl rfl ⟨rfl, ee_r0 _ _, trivial⟩ (by simp only [idb, idbL, idbH, idbR, ee_id]; rfl) (rr_lt rfl rfl) (by kernel_rfl) ?_
              rintro _ _ _ ⟨rfl, ⟨F2, left2, hr2, rfl⟩, rfl⟩
              refine RGO 11 true (tk [12]) (bare_ok (some m)) rfl rfl (by kernel_rfl) ?_
              refine V ?_
              refine ⟨(d2, fp2, F2, left2), id, ⟨⟨rfl, rfl, rfl, rfl, rfl, trivial⟩, ⟨rfl, rfl, ee_r2 _ _ _, rfl, trivial⟩, ?_⟩, h3, hr2⟩
              simp [idbE, idb, idbL, idbH, idbR, ee_id, hids, distB, fixB, memB]; try decide
          refine p2 ?_ (by simp [w0])
          by_cases w1 : what = 1
          · refine p1 ?_ (by simp [w1])
            have h1 := sync_hf d fp _ hst.ok fl
            have h2 := ref1_hf d _ hst.ok F left hr fl
            have h3 := hst.sync fl
            generalize syncF fl d = A at h1 h2 h3
            obtain ⟨e1, d2⟩ := A
            rcases e1 with _ | m
            · replace h2 : Hf pg 21 2 [.p 0 0, gi 1, gs fl, gs ⟨#[]⟩] (rheap F left) (RefQ 0 d2) := h2
              refine DRAW [0, 1, 2] false (tk [0, 1, 3, 4, 5]) (by kernel_rfl) ?_
              refine RGOH 2 false [] h1 id rfl rfl rfl ⟨rfl, trivial⟩ rfl (id_lt rfl) (by kernel_rfl) ?_
              rintro _ _ _ ⟨rfl, ⟨fp2, rfl⟩, rfl⟩
              refine RGOH 6 false [] h2 (rr 1 2) rfl rfl rfl ⟨rfl, ee_r0 _ _, trivial⟩ (by simp only [idb, idbL, idbH, idbR, ee_id]; rfl) (rr_lt rfl rfl) (by kernel_rfl) ?_
              rintro _ _ _ ⟨rfl, ⟨F2, left2, hr2, rfl⟩, rfl⟩
              refine RGO 7 true (tk [8]) (bare_ok none) rfl rfl (by kernel_rfl) ?_
              refine V ?_
              refine ⟨(d2, fp2, F2, left2), id, ⟨⟨rfl, rfl, rfl, rfl, rfl, trivial⟩, ⟨rfl, rfl, ee_r2 _ _ _, rfl, trivial⟩, ?_⟩, h3, hr2⟩
              simp [idbE, idb, idbL, idbH, idbR, ee_id, hids, distB, fixB, memB]; try decide
            · replace h2 : Hf pg 21 2 [.p 0 0, gi 1, gs fl, gs ⟨#[]⟩] (rheap F left) (RefQ m d2) := h2
              refine DRAW [0, 1, 2] false (tk [0, 1, 3, 4, 5]) (by kernel_rfl) ?_
              refine RGOH 2 false [] h1 id rfl rfl rfl ⟨rfl, trivial⟩ rfl (id_lt rfl) (by kernel_rfl) ?_
              rintro _ _ _ ⟨rfl, ⟨fp2, rfl⟩, rfl⟩
              refine RGOH 6 false [] h2 (rr 1 2) rfl rfl rfl ⟨rfl, ee_r0 _ _, trivial⟩ (by simp only [idb, idbL, idbH, idbR, ee_id]; rfl) (rr_lt rfl rfl) (by kernel_rfl) ?_
              rintro _ _ _ ⟨rfl, ⟨F2, left2, hr2, rfl⟩, rfl⟩
              refine RGO 7 true (tk [8]) (bare_ok (some m)) rfl rfl (by kernel_rfl) ?_
              refine V ?_
              refine ⟨(d2, fp2, F2, left2), id, ⟨⟨rfl, rfl, rfl, rfl, rfl, trivial⟩, ⟨rfl, rfl, ee_r2 _ _ _, rfl, trivial⟩, ?_⟩, h3, hr2⟩
              simp [idbE, idb, idbL, idbH, idbR, ee_id, hids, distB, fixB, memB]; try decide
          refine p2 ?_ (by simp [w1])
          by_cases w2 : what = 2
          · refine p1 ?_ (by simp [w2])
            have h1 := move_hf d fp _ hst.ok fl s
            have h2 := ref2_hf d _ hst.ok F left hr fl s
            have h3 := hst.move fl s
            generalize moveF fl s d = A at h1 h2 h3
            obtain ⟨e1, d2⟩ := A
            rcases e1 with _ | m
            · replace h2 : Hf pg 21 2 [.p 0 0, gi 2, gs fl, gs s] (rheap F left) (RefQ 0 d2) := h2
              refine DRAW [0, 1, 2] false (tk [0, 1, 2, 3, 5, 6, 7, 8, 9]) (by kernel_rfl) ?_
              refine RGOH 4 false [] h1 id rfl rfl rfl ⟨rfl, trivial⟩ rfl (id_lt rfl) (by kernel_rfl) ?_
              rintro _ _ _ ⟨rfl, ⟨fp2, rfl⟩, rfl⟩
              refine RGOH 10 false [] h2 (rr 1 2) rfl rfl rfl ⟨rfl, ee_r0 _ _, trivial⟩ (by simp only [idb, idbL, idbH, idbR, ee_id]; rfl) (rr_lt rfl rfl) (by kernel_rfl) ?_
              rintro _ _ _ ⟨rfl, ⟨F2, left2, hr2, rfl⟩, rfl⟩
              refine RGO 11 true (tk [12]) (bare_ok none) rfl rfl (by kernel_rfl) ?_
              refine V ?_
              refine ⟨(d2, fp2, F2, left2), id, ⟨⟨rfl, rfl, rfl, rfl, rfl, trivial⟩, ⟨rfl, rfl, ee_r2 _ _ _, rfl, trivial⟩, ?_⟩, h3, hr2⟩
              simp [idbE, idb, idbL, idbH, idbR, ee_id, hids, distB, fixB, memB]; try decide
            · replace h2 : Hf pg 21 2 [.p 0 0, gi 2, gs fl, gs s] (rheap F left) (RefQ m d2) := h2
              refine DRAW [0, 1, 2] false (tk [0, 1, 2, 3, 5, 6, 7, 8, 9]) (by kernel_rfl) ?_
              refine RGOH 4 false [] h1 id rfl rfl rfl ⟨rfl, trivial⟩ rfl (id_lt rfl) (by kernel_rfl) ?_
              rintro _ _ _ ⟨rfl, ⟨fp2, rfl⟩, rfl⟩
              refine RGOH 10 false [] h2 (rr 1 2) rfl rfl rfl ⟨rfl, ee_r0 _ _, trivial⟩ (by simp only [idb, idbL, idbH, idbR, ee_id]; rfl) (rr_lt rfl rfl) (by kernel_rfl) ?_
              rintro _ _ _ ⟨rfl, ⟨F2, left2, hr2, rfl⟩, rfl⟩
              refine RGO 11 true (tk [12]) (bare_ok (some m)) rfl rfl (by kernel_rfl) ?_
              refine V ?_
              refine ⟨(d2, fp2, F2, left2), id, ⟨⟨rfl, rfl, rfl, rfl, rfl, trivial⟩, ⟨rfl, rfl, ee_r2 _ _ _, rfl, trivial⟩, ?_⟩, h3, hr2⟩
              simp [idbE, idb, idbL, idbH, idbR, ee_id, hids, distB, fixB, memB]; try decide
          refine p2 ?_ (by simp [w2])
          by_cases w3 : what = 3
          · refine p1 ?_ (by simp [w3])
            have h1 := remove_hf d fp _ hst.ok fl
            have h2 := ref3_hf d _ hst.ok F left hr fl
            have h3 := hst.remove fl
            generalize removeF fl d = A at h1 h2 h3
            obtain ⟨e1, d2⟩ := A
            rcases e1 with _ | m
            · replace h2 : Hf pg 21 2 [.p 0 0, gi 3, gs fl, gs ⟨#[]⟩] (rheap F left) (RefQ 0 d2) := h2
              refine DRAW [0, 1, 2] false (tk [0, 1, 3, 4, 5]) (by kernel_rfl) ?_
              refine RGOH 2 false [] h1 id rfl rfl rfl ⟨rfl, trivial⟩ rfl (id_lt rfl) (by kernel_rfl) ?_
              rintro _ _ _ ⟨rfl, ⟨fp2, rfl⟩, rfl⟩
              refine RGOH 6 false [] h2 (rr 1 2) rfl rfl rfl ⟨rfl, ee_r0 _ _, trivial⟩ (by simp only [idb, idbL, idbH, idbR, ee_id]; rfl) (rr_lt rfl rfl) (by kernel_rfl) ?_
              rintro _ _ _ ⟨rfl, ⟨F2, left2, hr2, rfl⟩, rfl⟩
              refine RGO 7 true (tk [8]) (bare_ok none) rfl rfl (by kernel_rfl) ?_
              refine V ?_
              refine ⟨(d2, fp2, F2, left2), id, ⟨⟨rfl, rfl, rfl, rfl, rfl, trivial⟩, ⟨rfl, rfl, ee_r2 _ _ _, rfl, trivial⟩, ?_⟩, h3, hr2⟩
              simp [idbE, idb, idbL, idbH, idbR, ee_id, hids, distB, fixB, memB]; try decide
            · replace h2 : Hf pg 21 2 [.p 0 0, gi 3, gs fl, gs ⟨#[]⟩] (rheap F left) (RefQ m d2) := h2
              refine DRAW [0, 1, 2] false (tk [0, 1, 3, 4, 5]) (by kernel_rfl) ?_
              refine RGOH 2 false [] h1 id rfl rfl rfl ⟨rfl, trivial⟩ rfl (id_lt rfl) (by kernel_rfl) ?_
              rintro _ _ _ ⟨rfl, ⟨fp2, rfl⟩, rfl⟩
              refine RGOH 6 false [] h2 (rr 1 2) rfl rfl rfl ⟨rfl, ee_r0 _ _, trivial⟩ (by simp only [idb, idbL, idbH, idbR, ee_id]; rfl) (rr_lt rfl rfl) (by kernel_rfl) ?_
              rintro _ _ _ ⟨rfl, ⟨F2, left2, hr2, rfl⟩, rfl⟩
              refine RGO 7 true (tk [8]) (bare_ok (some m)) rfl rfl (by kernel_rfl) ?_
              refine V ?_
              refine ⟨(d2, fp2, F2, left2), id, ⟨⟨rfl, rfl, rfl, rfl, rfl, trivial⟩, ⟨rfl, rfl, ee_r2 _ _ _, rfl, trivial⟩, ?_⟩, h3, hr2⟩
              simp [idbE, idb, idbL, idbH, idbR, ee_id, hids, distB, fixB, memB]; try decide
          refine p2 ?_ (by simp [w3])
          by_cases w4 : what = 4
          · refine p1 ?_ (by simp [w4])
            refine GOH (cut_hf d fp nn) id rfl rfl ⟨rfl, trivial⟩ rfl (id_lt rfl) ?_
            rintro _ _ _ ⟨rfl, ⟨fp2, rfl⟩, rfl⟩
            refine ⟨(cutF nn d, fp2, F, _), id, ⟨⟨rfl, rfl, rfl, rfl, rfl, trivial⟩, ⟨rfl, rfl, ee_r0 _ _, rfl, trivial⟩, ?_⟩, hst.cut nn hNi, hr.cut nn⟩
            simp [idbE, idb, idbL, idbH, idbR, ee_id, hids, distB, fixB, memB]; try decide
          refine p2 ?_ (by simp [w4])
          by_cases w5 : what = 5
          · refine p1 ?_ (by simp [w5])
            refine GOH (start_hf d fp _ hst.ok (by omega) nn) id rfl rfl ⟨rfl, trivial⟩ rfl (id_lt rfl) ?_
            rintro _ _ _ ⟨rfl, ⟨fp2, rfl⟩, rfl⟩
            refine GOH (refStart_hf d _ hst.ok (by omega) F left hr nn) (rr 1 2) rfl rfl ⟨rfl, ee_r0 _ _, trivial⟩ (by simp only [idb, idbL, idbH, idbR, ee_id]; rfl) (rr_lt rfl rfl) ?_
            rintro _ _ _ ⟨rfl, ⟨F2, left2, hr2, rfl⟩, rfl⟩
            refine ⟨(startF nn d, fp2, F2, left2), (fun q => bif Nat.beq q 2 then 4 else q), ⟨⟨rfl, rfl, rfl, rfl, rfl, trivial⟩, ⟨rfl, rfl, ee_r2 _ _ _, rfl, trivial⟩, ?_⟩, hst.start nn, hr2⟩
            simp [idbE, idb, idbL, idbH, idbR, ee_id, hids, distB, fixB, memB]; try decide
          refine p2 ?_ (by simp [w5])
          refine ⟨(d, fp, F, left), id, ⟨⟨rfl, rfl, rfl, rfl, rfl, trivial⟩, ⟨rfl, rfl, ee_r0 _ _, rfl, trivial⟩, ?_⟩, hst.mono (by omega), hr⟩
          simp [idbE, idb, idbL, idbH, idbR, ee_id, hids, distB, fixB, memB]; try decide
        · rintro ⟨d1, fp1, F1, left1⟩ ⟨hst1, hr1⟩
          replace hst1 : PSt (i + 1) d1 := hst1
          replace hr1 : Rel d1 F1 left1 := hr1
          clear hst hr
          have hok1 := hst1.ok
          have hon1 := hr1.on hok1
          have hnm := names_eq hr1 hok1
          have hL := hst1.len
          have hFl : F1.length = d1.L.length := by simpa using (hr1.perm hok1).length_eq
          have hnl : (names d1).length = d1.L.length := by unfold names; rw [sortB_len, List.length_map]
          have h60 : ∀ y ∈ d1.L, (nmOf y.1).size ≤ 1000 := fun y hy => by
            obtain ⟨s, h1, h2⟩ := hst1.nm y hy
            rw [h1]
            show s.size ≤ 1000
            omega
          have hmem : ∀ f, f ∈ names d1 → ∃ x, fnd f d1 = some x := fun f => mem_names hok1
          have hnms : Hf pg 26 2 [.p 0 0] (rheap F1 left1) fun g σ n => g = .o 2 ∧ σ = [(0, .blk 61 [.o 1, gi left1]), (1, .mp none (pes ee F1)), (2, .row 9 1 (rws (names d1)))] ∧ n = 3 := by
            have h := names_hf F1 left1 hr1.keys hr1.nd (by omega)
            unfold NmQ at h
            rw [hnm] at h
            exact h
          have hlist := list_hf d1 fp1 _ hok1 h60 (by omega)
          generalize names d1 = nms at hnms hlist hmem hnl
          clear hnm
          refine V ?_
          refine GOJ hnms (rr 1 2) rfl rfl ⟨rfl, ee_r0 _ _, trivial⟩ (by simp only [idb, idbL, idbH, idbR, ee_id]; rfl) (rr_lt rfl rfl) ?_
          rintro _ _ _ ⟨rfl, rfl, rfl⟩
          refine JK.freeze 4 rfl ?_
          refine V ?_
          refine DRAW [0] false (tk [1]) (by kernel_rfl) ?_
          refine RGOH 0 false [] hlist id rfl rfl rfl ⟨rfl, trivial⟩ rfl (id_lt rfl) (by kernel_rfl) ?_
          rintro _ _ _ ⟨rfl, ⟨fp2, rfl⟩, rfl⟩
          refine RGO 2 false (tk [3, 4, 6, 7, 8, 9, 10]) ((sameTexts_rt nms nms (by omega)).bt (d := true) (decide_eq_true rfl)) rfl rfl (by kernel_rfl) ?_
          have hon := on_hf d1 fp2
          rw [hon1] at hon
          refine RGOH 5 true (tk [11, 12]) hon id rfl rfl rfl ⟨rfl, trivial⟩ rfl (id_lt rfl) (by kernel_rfl) ?_
          rintro _ _ _ ⟨rfl, ⟨fp3, rfl⟩, rfl⟩
          refine V ?_
          refine p2 ?_ (by by_cases h : left1 = 0 <;> simp [h])
          refine JK.loopE (α := Nat × List Nat) (β := List Nat)
            (fun a => ⟨[(0, .sl 4 (l.map ac)), (3, .p 0 0), (4, .p 1 0), (5, gi i), (6, .p 3 0), (7, ts nms), (8, gi a.1)], [(0, .ab (dk d1 a.2)), (1, .blk 61 [.o 2, gi left1]), (2, .mp none (pes ee F1)), (3, .blk 56 [gi what, gi nn, gs fl, gs s])], 4⟩)
            (fun a => a.1 ≤ nms.length) (fun a => nms.length - a.1)
            (fun fp => ⟨[(0, .sl 4 (l.map ac)), (3, .p 0 0), (4, .p 1 0), (5, gi i), (6, .p 3 0)], [(0, .ab (dk d1 fp)), (1, .blk 61 [.o 2, gi left1]), (2, .mp none (pes ee F1)), (3, .blk 56 [gi what, gi nn, gs fl, gs s])], 4⟩) (fun _ => True) (0, fp3) id ?_ ?_ ?_ ?_
          · refine ⟨⟨rfl, rfl, rfl, rfl, rfl, rfl, rfl, trivial⟩, ⟨rfl, rfl, ee_rf _ _ _, rfl, trivial⟩, ?_⟩
            simp [idbE, idb, idbL, idbH, idbR, ee_id, hids, distB, fixB, memB]; try decide
          · exact Nat.zero_le _
          · rintro ⟨k, fp⟩ hk
            replace hk : k ≤ nms.length := hk
            refine V ?_
            by_cases hkl : k < nms.length
            · refine p1 ?_ (decide_eq_true (by simp only [List.length_map]; omega))
              refine ix (h := ?_)
              obtain ⟨x, hx⟩ := hmem nms[k] (List.getElem_mem hkl)
              have hrd := read_hf d1 fp _ hok1 nms[k]
              have hfx := (hr1.fd nms[k]).trans hx
              rw [hx] at hrd
              refine GOH hrd id rfl rfl ⟨rfl, trivial⟩ rfl (id_lt rfl) ?_
              rintro _ _ _ ⟨rfl, ⟨fp4, rfl⟩, rfl⟩
              refine ⟨by kernel_rfl, ?_⟩
              repeat (first | refine p1 ?_ | refine p2 ?_ | refine p3 ?_ | refine p4 ?_)
              refine ix (h := ?_)
              refine lkS (ee_some hfx) ?_
              refine p2 ?_ (by show (!(x.1.toList == x.1.toList)) = false; simp)
              refine ⟨(k + 1, fp4), id, ⟨⟨rfl, rfl, rfl, rfl, rfl, rfl, succ_gi (by omega), trivial⟩, ⟨rfl, rfl, ee_r0 _ _, rfl, trivial⟩, ?_⟩, hkl, by show nms.length - (k + 1) < nms.length - k; omega⟩
              simp [idbE, idb, idbL, idbH, idbR, ee_id, hids, distB, fixB, memB]; try decide
            · refine p2 ?_ (decide_eq_false (by simp only [List.length_map]; omega))
              refine ⟨fp, id, ⟨⟨rfl, rfl, rfl, rfl, rfl, trivial⟩, ⟨rfl, rfl, ee_r0 _ _, rfl, trivial⟩, ?_⟩, trivial⟩
              simp [idbE, idb, idbL, idbH, idbR, ee_id, hids, distB, fixB, memB]; try decide
          · rintro fp _
            refine V ?_
            refine DRAW [] true (tk (List.range 10) ++ al [10, 11] ++ tk [12]) (by kernel_rfl) ?_
            cases hfs : fnd s d1 with
            | some x =>
              refine lkS (ee_some ((hr1.fd s).trans hfs)) ?_
              refine V ?_
              refine ⟨(i + 1, d1, fp, F1, left1), id, ⟨⟨rfl, rfl, rfl, succ_gi (by omega), trivial⟩, ⟨rfl, rfl, ee_r0 _ _, trivial⟩, ?_⟩, ⟨hlt, hst1, hr1⟩, by show l.length - (i + 1) < l.length - i; omega⟩
              simp [idbE, idb, idbL, idbH, idbR, ee_id, hids, distB, fixB, memB]; try decide
            | none =>
              refine lkN (ee_none ((hr1.fd s).trans hfs)) ?_
              refine V ?_
              have hrd := read_hf d1 fp _ hok1 s
              rw [hfs] at hrd
              refine GOH hrd id rfl rfl ⟨rfl, trivial⟩ rfl (id_lt rfl) ?_
              rintro _ _ _ ⟨rfl, ⟨fp4, rfl⟩, rfl⟩
              refine GO ((bare_rt (some 7) 7).bt (d := true) rfl) rfl ?_
              refine p2 ?_ (by simp)
              refine ⟨(i + 1, d1, fp4, F1, left1), id, ⟨⟨rfl, rfl, rfl, succ_gi (by omega), trivial⟩, ⟨rfl, rfl, ee_r0 _ _, trivial⟩, ?_⟩, ⟨hlt, hst1, hr1⟩, by show l.length - (i + 1) < l.length - i; omega⟩
              simp [idbE, idb, idbL, idbH, idbR, ee_id, hids, distB, fixB, memB]; try decide
      · refine p2 ?_ (decide_eq_false (by simp only [List.length_map]; omega))
        exact ⟨(), id, ⟨trivial, trivial, rfl⟩, trivial⟩
    · rintro _ _
      refine V ?_
      exact ⟨rfl, rfl⟩
end Go.Proofs.YtbapgglhpbbonaaDoor
