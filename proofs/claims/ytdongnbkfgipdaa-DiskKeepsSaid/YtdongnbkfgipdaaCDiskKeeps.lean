/-
  DiskKeeps.
-/
import Derived.Test.YtdongnbkfgipdaaCKeeps
import Derived.Test.YtdongnbkfgipdaaGKh
namespace Go.Proofs.Ytdongnbkfgipdaa
open Go.GK Go.PL Go.RowKit
set_option maxRecDepth 100000
abbrev nw (x : ByteArray) : GV := gs x
abbrev sv (n : Int) : GV := gi n
abbrev ak (x : Int × Int × Int × Int) : List GV := [gi x.1, gi x.2.1, gi x.2.2.1, gi x.2.2.2]
theorem nw_id (L : List (Value × ByteArray)) (n : Nat) : idbM n (pes nw L) = true := idbM_pes nw n (fun _ => rfl) L
theorem sv_id (L : List (Value × Int)) (n : Nat) : idbM n (pes sv L) = true := idbM_pes sv n (fun _ => rfl) L
theorem nw_ren (f : Nat → Nat) (L : List (Value × ByteArray)) : renM f (pes nw L) = pes nw L := renM_pes nw (fun _ => rfl) f L
theorem sv_ren (f : Nat → Nat) (L : List (Value × Int)) : renM f (pes sv L) = pes sv L := renM_pes sv (fun _ => rfl) f L
theorem nw_r0 (f : Nat → Nat) (F : List (Value × ByteArray)) : some (Res.mp none (pes nw F)) = some (Res.mp none (renM f (pes nw F))) := congrArg (fun l => some (Res.mp none l)) (nw_ren _ _).symm
theorem sv_r0 (f : Nat → Nat) (F : List (Value × Int)) : some (Res.mp none (pes sv F)) = some (Res.mp none (renM f (pes sv F))) := congrArg (fun l => some (Res.mp none l)) (sv_ren _ _).symm
theorem nw_some {F : List (Value × ByteArray)} {f : ByteArray} {x : ByteArray} (h : pfind (ks f) F = some x) : mfind (ks f) (pes nw F) = some (nw x) := by rw [mfind_pes, h]; rfl
theorem nw_none {F : List (Value × ByteArray)} {f : ByteArray} (h : pfind (ks f) F = none) : mfind (ks f) (pes nw F) = none := by rw [mfind_pes, h]; rfl
theorem sv_some {F : List (Value × Int)} {f : ByteArray} {x : Int} (h : pfind (ks f) F = some x) : mfind (ks f) (pes sv F) = some (sv x) := by rw [mfind_pes, h]; rfl
theorem sv_none {F : List (Value × Int)} {f : ByteArray} (h : pfind (ks f) F = none) : mfind (ks f) (pes sv F) = none := by rw [mfind_pes, h]; rfl
def nmK (k : Int) : ByteArray := ⟨[UInt8.ofNat (97 + k).toNat].toArray⟩
theorem nm_row (k : Int) (h : 0 ≤ k ∧ k < 5) : [[GV.v (.int .u8 (IntKind.u8.wrap (IntKind.i64.wrap (97 + k))))]] = [UInt8.ofNat (97 + k).toNat].map byRow := by
  have e : ((UInt8.ofNat (97 + k).toNat).toNat : Int) = 97 + k := by
    rw [UInt8.toNat_ofNat']
    omega
  have e2 : IntKind.u8.wrap (IntKind.i64.wrap (97 + k)) = 97 + k := by
    rw [wrap_id (by omega) (by omega), IntKind.wrap_u8]
    omega
  rw [e2]
  show _ = [[GV.v (.int .u8 ((UInt8.ofNat (97 + k).toNat).toNat : Int))]]
  rw [e]
theorem mem_sortB {l : List ByteArray} {x : ByteArray} (h : x ∈ sortB l) : x ∈ l := by
  unfold sortB at h
  obtain ⟨y, hy, rfl⟩ := List.mem_map.1 h
  rw [List.mem_mergeSort] at hy
  obtain ⟨z, hz, rfl⟩ := List.mem_map.1 hy
  exact hz
theorem mem_names {d : Dk} {B : Nat} (hok : d.ok B) {f : ByteArray} (h : f ∈ names d) : ∃ x, fnd f d = some x := by
  obtain ⟨⟨q, x⟩, hy, rfl⟩ := List.mem_map.1 (mem_sortB h)
  have hq := hok.keys _ hy
  cases q with
  | string f => exact ⟨x, (pfind_mem rfl hok.keys hok.nd).2 hy⟩
  | _ => cases hq
theorem keeps_pre {x z : ByteArray} (h : z = x.extract 0 z.size) (hl : z.size ≤ x.size) : prefF x z = true := by
  unfold prefF
  rw [decide_eq_true hl, ← h]
  simp
theorem diskKeeps_rt (l : List (Int × Int × Int × Int)) (cut keeps : Int) (hcut : cut ≤ 9223372036854775807) (hkp : -9223372036854775808 ≤ keeps ∧ keeps ≤ 9223372036854775807) : Rt pg 3 [.sl 4 (l.map ak), gi cut, gi keeps] (.b true) := by
  refine Rt.of pg_ok Try.func3 rfl Try.ntmps3 rfl Try.results3 Try.call3 fun H0 S0 w0 h0 g0 => ?_
  by_cases hlen : l.length > 60
  · refine p1 ?_ (decide_eq_true (by simp only [List.length_map]; omega))
    exact ⟨rfl, rfl⟩
  · refine p2 ?_ (decide_eq_false (by simp only [List.length_map]; omega))
    refine GO grown_rt rfl ?_
    refine PCK0 0 rfl rfl fun fp0 => ?_
    refine GOH (cut_hf dk0 fp0 cut) id rfl rfl ⟨rfl, trivial⟩ rfl (id_lt rfl) ?_
    rintro _ _ _ ⟨rfl, ⟨fp1, rfl⟩, rfl⟩
    refine JK.loopE (α := Nat × Dk × List Nat × List (Value × Int) × List (Value × ByteArray)) (β := Dk × List Nat × List (Value × Int) × List (Value × ByteArray))
      (fun a => ⟨[(0, .sl 4 (l.map ak)), (2, gi keeps), (7, .p 0 0), (8, .o 1), (9, .o 2), (10, gi a.1)], [(0, .ab (dk a.2.1 a.2.2.1)), (1, .mp none (pes sv a.2.2.2.1)), (2, .mp none (pes nw a.2.2.2.2))], 3⟩)
      (fun a => a.1 ≤ l.length ∧ PSt (a.1 + 1) a.2.1 ∧ KRel a.2.1 a.2.2.2.2 a.2.2.2.1) (fun a => l.length - a.1)
      (fun a => ⟨[(2, gi keeps), (7, .p 0 0), (8, .o 1), (9, .o 2)], [(0, .ab (dk a.1 a.2.1)), (1, .mp none (pes sv a.2.2.1)), (2, .mp none (pes nw a.2.2.2))], 3⟩) (fun a => PSt 100 a.1 ∧ KRel a.1 a.2.2.2 a.2.2.1) (0, cutF cut dk0, fp1, [], []) id ?_ ?_ ?_ ?_
    · exact ⟨⟨rfl, rfl, rfl, rfl, rfl, rfl, trivial⟩, ⟨rfl, rfl, rfl, trivial⟩, rfl⟩
    · exact ⟨Nat.zero_le _, PSt.cut ⟨dk0_ok _, by simp [dk0], Nat.le_refl 0⟩ cut hcut, KRel.start0.same fun _ => rfl⟩
    · rintro ⟨i, d, fp, safe, now⟩ ⟨hi, hst, hr⟩
      replace hi : i ≤ l.length := hi
      replace hst : PSt (i + 1) d := hst
      replace hr : KRel d now safe := hr
      refine V ?_
      by_cases hlt : i < l.length
      · refine p1 ?_ (decide_eq_true (by simp only [List.length_map]; omega))
        refine ix (h := ?_)
        generalize l[i] = x
        obtain ⟨what, fi, tw, nn⟩ := x
        refine JK.drawJ [] ⟨[(0, .sl 4 (l.map ak)), (2, gi keeps), (7, .p 0 0), (8, .o 1), (9, .o 2), (10, gi i), (11, .p 3 0), (12, gs (nmK (pkF fi 5))), (13, gs (nmK (pkF tw 5)))], [(0, .ab (dk d fp)), (1, .mp none (pes sv safe)), (2, .mp none (pes nw now)), (3, .blk 30 [gi what, gi fi, gi tw, gi nn])], 4⟩ pg_ok ?_ (fun hk => ?_)
        · obtain ⟨c, hc⟩ : ∃ c : Nat, pkF nn 9 = (c : Int) := ⟨(pkF nn 9).toNat, by have := (pkF_in nn (y := 9) (by omega)).1; omega⟩
          have hc9 : c < 9 := by have := (pkF_in nn (y := 9) (by omega)).2; omega
          have hp := pick_rt nn 9 (by omega) (by omega)
          rw [hc] at hp
          have hfs : (nmK (pkF fi 5)).size = 1 := rfl
          have hts : (nmK (pkF tw 5)).size = 1 := rfl
          generalize nmK (pkF fi 5) = f at hfs ⊢
          generalize nmK (pkF tw 5) = t at hts ⊢
          have hrp := repeat_rt t c (by omega) (by omega)
          have hrs := repF_size t c
          rw [hts, Nat.mul_one] at hrs
          generalize repF t c = rep at hrp hrs
          refine V ?_
          refine GOJ (on_hf d fp) id rfl rfl ⟨rfl, trivial⟩ rfl (id_lt rfl) ?_
          rintro _ _ _ ⟨rfl, ⟨fp2, rfl⟩, rfl⟩
          refine VM 12 ?_
          refine JK.cut (α := Dk × List Nat × List (Value × Int) × List (Value × ByteArray) × Option Int) (fun a => ⟨[(0, .sl 4 (l.map ak)), (2, gi keeps), (7, .p 0 0), (8, .o 1), (9, .o 2), (10, gi i), (11, .p 3 0), (14, .b (onF d)), (15, erG a.2.2.2.2)], [(0, .ab (dk a.1 a.2.1)), (1, .mp none (pes sv a.2.2.1)), (2, .mp none (pes nw a.2.2.2.1)), (3, .blk 30 [gi what, gi fi, gi tw, gi nn])], 4⟩)
            (fun a => PSt (i + 1 + 1) a.1 ∧ KRel a.1 a.2.2.2.1 a.2.2.1 ∧ (a.2.2.2.2 = none → 0 ≤ what → what ≤ 3 → onF d = true)) ?_ ?_
          · refine V ?_
            by_cases w0 : what = 0
            · refine p1 ?_ (by simp [w0])
              have h1 := append_hf d fp2 _ hst.ok f rep (by omega)
              have h3 := hst.append f rep (by omega)
              have h4 := hr.append hst.ok f rep
              have h5 := fun m => append_err (f := f) (s := rep) (d := d) (m := m)
              generalize appendF f rep d = A at h1 h3 h4 h5
              obtain ⟨e1, d2⟩ := A
              rcases e1 with _ | m
              · obtain ⟨ho, hr2⟩ := h4 rfl
                have hxs : ((pfind (ks f) now).getD ByteArray.empty).size ≤ 200 * (i + 1) := by
                  rw [hr.nf]
                  cases hx : fnd f d with
                  | none => exact Nat.zero_le _
                  | some x => exact (fnd_sz hst.ok hx).1
                refine GO hp rfl ?_
                refine GO hrp rfl ?_
                refine GOH h1 id rfl rfl ⟨rfl, trivial⟩ rfl (id_lt rfl) ?_
                rintro _ _ _ ⟨rfl, ⟨fp3, rfl⟩, rfl⟩
                repeat (first | refine p1 ?_ | refine p2 ?_ | refine p3 ?_ | refine p4 ?_)
                have hmp : ∀ x : ByteArray, x = (pfind (ks f) now).getD ByteArray.empty → some (Res.mp none (mput (ks f) (gs (x ++ rep)) (pes nw now))) = some (Res.mp none (renM id (pes nw (pput (ks f) ((pfind (ks f) now).getD ByteArray.empty ++ rep) now)))) := by
                  rintro x rfl
                  rw [nw_ren]
                  exact congrArg (fun l => some (Res.mp none l)) (mput_pes nw _ _ now)
                refine JK.drawJ [2] ⟨[(0, .sl 4 (l.map ak)), (2, gi keeps), (7, .p 0 0), (8, .o 1), (9, .o 2), (10, gi i), (11, .p 3 0), (14, .b (onF d)), (15, .v .nilIface)], [(0, .ab (dk d2 fp3)), (1, .mp none (pes sv safe)), (2, .mp none (pes nw (pput (ks f) ((pfind (ks f) now).getD ByteArray.empty ++ rep) now))), (3, .blk 30 [gi what, gi fi, gi tw, gi nn])], 4⟩ pg_ok ?_ (fun hk => ?_)
                · refine V ?_
                  refine ⟨(d2, fp3, safe, _, none), id, ⟨⟨rfl, rfl, rfl, rfl, rfl, rfl, rfl, rfl, rfl, trivial⟩, ⟨rfl, (sv_r0 _ _), (nw_r0 _ _), rfl, trivial⟩, ?_⟩, h3, hr2, fun _ _ _ => ho⟩
                  simp [erG, idbE, idb, idbL, idbH, idbR, nw_id, sv_id, hids, distB, fixB, memB]; try decide
                · cases hfn : pfind (ks f) now with
                  | none =>
                    rw [hfn] at hmp hxs hk
                    have hsz : (ByteArray.empty).size + rep.size ≤ 4611686018427387904 := by show 0 + _ ≤ _; omega
                    refine RA.run (cx := ⟨pg, _, _, _, _, _, _, _⟩) pg_ok (by kernel_rfl) (by intro _ _ h; exact h) (tk [0, 1, 3, 4, 5]) (e := false) (by kernel_rfl) ?_
                    refine RA.both 2 6 (eqB_eq (by kernel_rfl)) (Stp.read 2 pg_ok rfl rfl ?_) (Stp.rt 6 hp rfl rfl rfl ?_)
                    · refine lkN (nw_none hfn) ?_
                      refine RGO 6 false [] hp rfl rfl (by kernel_rfl) ?_
                      refine RGO 7 false (tk [8, 9]) hrp rfl rfl (by kernel_rfl) ?_
                      refine ⟨hsz, ?_⟩
                      refine RA.endJ id (by kernel_rfl) hk ⟨⟨rfl, rfl, rfl, rfl, rfl, rfl, rfl, rfl, rfl, trivial⟩, ⟨rfl, sv_r0 _ _, hmp _ rfl, rfl, trivial⟩, ?_⟩
                      simp [erG, idbE, idb, idbL, idbH, idbR, nw_id, sv_id, hids, distB, fixB, memB]; try decide
                    · refine RA.both 2 7 (eqB_eq (by kernel_rfl)) (Stp.read 2 pg_ok rfl rfl ?_) (Stp.rt 7 hrp rfl rfl rfl ?_)
                      · refine lkN (nw_none hfn) ?_
                        refine RGO 7 false (tk [8, 9]) hrp rfl rfl (by kernel_rfl) ?_
                        refine ⟨hsz, ?_⟩
                        refine RA.endJ id (by kernel_rfl) hk ⟨⟨rfl, rfl, rfl, rfl, rfl, rfl, rfl, rfl, rfl, trivial⟩, ⟨rfl, sv_r0 _ _, hmp _ rfl, rfl, trivial⟩, ?_⟩
                        simp [erG, idbE, idb, idbL, idbH, idbR, nw_id, sv_id, hids, distB, fixB, memB]; try decide
                      · refine RA.run (cx := ⟨pg, _, _, _, _, _, _, _⟩) pg_ok (by kernel_rfl) (by intro _ _ h; exact h) (al [2] ++ tk [8, 9]) (e := false) (by kernel_rfl) ?_
                        refine lkN (nw_none hfn) ?_
                        refine ⟨hsz, ?_⟩
                        refine RA.endJ id (by kernel_rfl) hk ⟨⟨rfl, rfl, rfl, rfl, rfl, rfl, rfl, rfl, rfl, trivial⟩, ⟨rfl, sv_r0 _ _, hmp _ rfl, rfl, trivial⟩, ?_⟩
                        simp [erG, idbE, idb, idbL, idbH, idbR, nw_id, sv_id, hids, distB, fixB, memB]; try decide
                  | some x =>
                    rw [hfn] at hmp hxs hk
                    have hsz : x.size + rep.size ≤ 4611686018427387904 := by have : x.size ≤ _ := hxs; omega
                    refine RA.run (cx := ⟨pg, _, _, _, _, _, _, _⟩) pg_ok (by kernel_rfl) (by intro _ _ h; exact h) (tk [0, 1, 3, 4, 5]) (e := false) (by kernel_rfl) ?_
                    refine RA.both 2 6 (eqB_eq (by kernel_rfl)) (Stp.read 2 pg_ok rfl rfl ?_) (Stp.rt 6 hp rfl rfl rfl ?_)
                    · refine lkS (nw_some hfn) ?_
                      refine RGO 6 false [] hp rfl rfl (by kernel_rfl) ?_
                      refine RGO 7 false (tk [8, 9]) hrp rfl rfl (by kernel_rfl) ?_
                      refine ⟨hsz, ?_⟩
                      refine RA.endJ id (by kernel_rfl) hk ⟨⟨rfl, rfl, rfl, rfl, rfl, rfl, rfl, rfl, rfl, trivial⟩, ⟨rfl, sv_r0 _ _, hmp _ rfl, rfl, trivial⟩, ?_⟩
                      simp [erG, idbE, idb, idbL, idbH, idbR, nw_id, sv_id, hids, distB, fixB, memB]; try decide
                    · refine RA.both 2 7 (eqB_eq (by kernel_rfl)) (Stp.read 2 pg_ok rfl rfl ?_) (Stp.rt 7 hrp rfl rfl rfl ?_)
                      · refine lkS (nw_some hfn) ?_
                        refine RGO 7 false (tk [8, 9]) hrp rfl rfl (by kernel_rfl) ?_
                        refine ⟨hsz, ?_⟩
                        refine RA.endJ id (by kernel_rfl) hk ⟨⟨rfl, rfl, rfl, rfl, rfl, rfl, rfl, rfl, rfl, trivial⟩, ⟨rfl, sv_r0 _ _, hmp _ rfl, rfl, trivial⟩, ?_⟩
                        simp [erG, idbE, idb, idbL, idbH, idbR, nw_id, sv_id, hids, distB, fixB, memB]; try decide
                      · refine RA.run (cx := ⟨pg, _, _, _, _, _, _, _⟩) pg_ok (by kernel_rfl) (by intro _ _ h; exact h) (al [2] ++ tk [8, 9]) (e := false) (by kernel_rfl) ?_
                        refine lkS (nw_some hfn) ?_
                        refine ⟨hsz, ?_⟩
                        refine RA.endJ id (by kernel_rfl) hk ⟨⟨rfl, rfl, rfl, rfl, rfl, rfl, rfl, rfl, rfl, trivial⟩, ⟨rfl, sv_r0 _ _, hmp _ rfl, rfl, trivial⟩, ?_⟩
                        simp [erG, idbE, idb, idbL, idbH, idbR, nw_id, sv_id, hids, distB, fixB, memB]; try decide
              · obtain rfl : d2 = d := h5 m rfl
                refine GO hp rfl ?_
                refine GO hrp rfl ?_
                refine GOH h1 id rfl rfl ⟨rfl, trivial⟩ rfl (id_lt rfl) ?_
                rintro _ _ _ ⟨rfl, ⟨fp3, rfl⟩, rfl⟩
                repeat (first | refine p1 ?_ | refine p2 ?_ | refine p3 ?_ | refine p4 ?_)
                refine ⟨(d2, fp3, safe, now, (some m)), id, ⟨⟨rfl, rfl, rfl, rfl, rfl, rfl, rfl, rfl, rfl, trivial⟩, ⟨rfl, (sv_r0 _ _), (nw_r0 _ _), rfl, trivial⟩, ?_⟩, h3, hr, fun h => by cases h⟩
                simp [erG, idbE, idb, idbL, idbH, idbR, nw_id, sv_id, hids, distB, fixB, memB]; try decide
            refine p2 ?_ (by simp [w0])
            by_cases w1 : what = 1
            · refine p1 ?_ (by simp [w1])
              have h1 := sync_hf d fp2 _ hst.ok f
              have h3 := hst.sync f
              have h4 := hr.sync hst.ok f
              have h5 := fun m => sync_err (f := f) (d := d) (m := m)
              generalize syncF f d = A at h1 h3 h4 h5
              obtain ⟨e1, d2⟩ := A
              rcases e1 with _ | m
              · obtain ⟨ho, hr2⟩ := h4 rfl
                refine GOH h1 id rfl rfl ⟨rfl, trivial⟩ rfl (id_lt rfl) ?_
                rintro _ _ _ ⟨rfl, ⟨fp3, rfl⟩, rfl⟩
                repeat (first | refine p1 ?_ | refine p2 ?_ | refine p3 ?_ | refine p4 ?_)
                have hmp : ∀ x : ByteArray, x = (pfind (ks f) now).getD ByteArray.empty → some (Res.mp none (mput (ks f) (gi x.size) (pes sv safe))) = some (Res.mp none (renM id (pes sv (pput (ks f) (((pfind (ks f) now).getD ByteArray.empty).size : Int) safe)))) := by
                  rintro x rfl
                  rw [sv_ren]
                  exact congrArg (fun l => some (Res.mp none l)) (mput_pes sv _ _ safe)
                cases hfn : pfind (ks f) now with
                | none =>
                  rw [hfn] at hmp hr2
                  refine lkN (nw_none hfn) ?_
                  refine ⟨(d2, fp3, _, now, none), id, ⟨⟨rfl, rfl, rfl, rfl, rfl, rfl, rfl, rfl, rfl, trivial⟩, ⟨rfl, hmp _ rfl, (nw_r0 _ _), rfl, trivial⟩, ?_⟩, h3, hr2, fun _ _ _ => ho⟩
                  simp [erG, idbE, idb, idbL, idbH, idbR, nw_id, sv_id, hids, distB, fixB, memB]; try decide
                | some x =>
                  rw [hfn] at hmp hr2
                  refine lkS (nw_some hfn) ?_
                  refine ⟨(d2, fp3, _, now, none), id, ⟨⟨rfl, rfl, rfl, rfl, rfl, rfl, rfl, rfl, rfl, trivial⟩, ⟨rfl, hmp _ rfl, (nw_r0 _ _), rfl, trivial⟩, ?_⟩, h3, hr2, fun _ _ _ => ho⟩
                  simp [erG, idbE, idb, idbL, idbH, idbR, nw_id, sv_id, hids, distB, fixB, memB]; try decide
              · obtain rfl : d2 = d := h5 m rfl
                refine GOH h1 id rfl rfl ⟨rfl, trivial⟩ rfl (id_lt rfl) ?_
                rintro _ _ _ ⟨rfl, ⟨fp3, rfl⟩, rfl⟩
                repeat (first | refine p1 ?_ | refine p2 ?_ | refine p3 ?_ | refine p4 ?_)
                refine ⟨(d2, fp3, safe, now, (some m)), id, ⟨⟨rfl, rfl, rfl, rfl, rfl, rfl, rfl, rfl, rfl, trivial⟩, ⟨rfl, (sv_r0 _ _), (nw_r0 _ _), rfl, trivial⟩, ?_⟩, h3, hr, fun h => by cases h⟩
                simp [erG, idbE, idb, idbL, idbH, idbR, nw_id, sv_id, hids, distB, fixB, memB]; try decide
            refine p2 ?_ (by simp [w1])
            by_cases w2 : what = 2
            · refine p1 ?_ (by simp [w2])
              have h1 := move_hf d fp2 _ hst.ok f t
              have h3 := hst.move f t
              have h4 := hr.move hst.ok f t
              have h5 := fun m => move_err (f := f) (t := t) (d := d) (m := m)
              generalize moveF f t d = A at h1 h3 h4 h5
              obtain ⟨e1, d2⟩ := A
              rcases e1 with _ | m
              · obtain ⟨ho, hr2⟩ := h4 rfl
                refine GOH h1 id rfl rfl ⟨rfl, trivial⟩ rfl (id_lt rfl) ?_
                rintro _ _ _ ⟨rfl, ⟨fp3, rfl⟩, rfl⟩
                repeat (first | refine p1 ?_ | refine p2 ?_ | refine p3 ?_ | refine p4 ?_)
                have hm1 : ∀ x : ByteArray, x = (pfind (ks f) now).getD ByteArray.empty → some (Res.mp none (mput (ks t) (gs x) (mdel (ks f) (pes nw now)))) = some (Res.mp none (renM id (pes nw (pput (ks t) ((pfind (ks f) now).getD ByteArray.empty) (pdel (ks f) now))))) := by
                  rintro x rfl
                  rw [nw_ren, mdel_pes]
                  exact congrArg (fun l => some (Res.mp none l)) (mput_pes nw _ _ _)
                have hm2 : ∀ x : Int, x = (pfind (ks f) safe).getD 0 → some (Res.mp none (mput (ks t) (gi x) (mdel (ks f) (pes sv safe)))) = some (Res.mp none (renM id (pes sv (pput (ks t) ((pfind (ks f) safe).getD 0) (pdel (ks f) safe))))) := by
                  rintro x rfl
                  rw [sv_ren, mdel_pes]
                  exact congrArg (fun l => some (Res.mp none l)) (mput_pes sv _ _ _)
                refine ⟨by kernel_rfl, ?_⟩
                cases hfn : pfind (ks f) now with
                | none =>
                  rw [hfn] at hm1 hr2
                  refine lkN (nw_none hfn) ?_
                  cases hfs : pfind (ks f) safe with
                  | none =>
                    rw [hfs] at hm2 hr2
                    refine lkN (sv_none hfs) ?_
                    refine ⟨(d2, fp3, _, _, none), id, ⟨⟨rfl, rfl, rfl, rfl, rfl, rfl, rfl, rfl, rfl, trivial⟩, ⟨rfl, hm2 _ rfl, hm1 _ rfl, rfl, trivial⟩, ?_⟩, h3, hr2, fun _ _ _ => ho⟩
                    simp [erG, idbE, idb, idbL, idbH, idbR, nw_id, sv_id, hids, distB, fixB, memB]; try decide
                  | some y =>
                    rw [hfs] at hm2 hr2
                    refine lkS (sv_some hfs) ?_
                    refine ⟨(d2, fp3, _, _, none), id, ⟨⟨rfl, rfl, rfl, rfl, rfl, rfl, rfl, rfl, rfl, trivial⟩, ⟨rfl, hm2 _ rfl, hm1 _ rfl, rfl, trivial⟩, ?_⟩, h3, hr2, fun _ _ _ => ho⟩
                    simp [erG, idbE, idb, idbL, idbH, idbR, nw_id, sv_id, hids, distB, fixB, memB]; try decide
                | some x =>
                  rw [hfn] at hm1 hr2
                  refine lkS (nw_some hfn) ?_
                  cases hfs : pfind (ks f) safe with
                  | none =>
                    rw [hfs] at hm2 hr2
                    refine lkN (sv_none hfs) ?_
                    refine ⟨(d2, fp3, _, _, none), id, ⟨⟨rfl, rfl, rfl, rfl, rfl, rfl, rfl, rfl, rfl, trivial⟩, ⟨rfl, hm2 _ rfl, hm1 _ rfl, rfl, trivial⟩, ?_⟩, h3, hr2, fun _ _ _ => ho⟩
                    simp [erG, idbE, idb, idbL, idbH, idbR, nw_id, sv_id, hids, distB, fixB, memB]; try decide
                  | some y =>
                    rw [hfs] at hm2 hr2
                    refine lkS (sv_some hfs) ?_
                    refine ⟨(d2, fp3, _, _, none), id, ⟨⟨rfl, rfl, rfl, rfl, rfl, rfl, rfl, rfl, rfl, trivial⟩, ⟨rfl, hm2 _ rfl, hm1 _ rfl, rfl, trivial⟩, ?_⟩, h3, hr2, fun _ _ _ => ho⟩
                    simp [erG, idbE, idb, idbL, idbH, idbR, nw_id, sv_id, hids, distB, fixB, memB]; try decide
              · obtain rfl : d2 = d := h5 m rfl
                refine GOH h1 id rfl rfl ⟨rfl, trivial⟩ rfl (id_lt rfl) ?_
                rintro _ _ _ ⟨rfl, ⟨fp3, rfl⟩, rfl⟩
                repeat (first | refine p1 ?_ | refine p2 ?_ | refine p3 ?_ | refine p4 ?_)
                refine ⟨(d2, fp3, safe, now, (some m)), id, ⟨⟨rfl, rfl, rfl, rfl, rfl, rfl, rfl, rfl, rfl, trivial⟩, ⟨rfl, (sv_r0 _ _), (nw_r0 _ _), rfl, trivial⟩, ?_⟩, h3, hr, fun h => by cases h⟩
                simp [erG, idbE, idb, idbL, idbH, idbR, nw_id, sv_id, hids, distB, fixB, memB]; try decide
            refine p2 ?_ (by simp [w2])
            by_cases w3 : what = 3
            · refine p1 ?_ (by simp [w3])
              have h1 := remove_hf d fp2 _ hst.ok f
              have h3 := hst.remove f
              have h4 := hr.remove hst.ok f
              have h5 := fun m => remove_err (f := f) (d := d) (m := m)
              generalize removeF f d = A at h1 h3 h4 h5
              obtain ⟨e1, d2⟩ := A
              rcases e1 with _ | m
              · obtain ⟨ho, hr2⟩ := h4 rfl
                refine GOH h1 id rfl rfl ⟨rfl, trivial⟩ rfl (id_lt rfl) ?_
                rintro _ _ _ ⟨rfl, ⟨fp3, rfl⟩, rfl⟩
                repeat (first | refine p1 ?_ | refine p2 ?_ | refine p3 ?_ | refine p4 ?_)
                have hm1 : some (Res.mp none (mdel (ks f) (pes nw now))) = some (Res.mp none (renM id (pes nw (pdel (ks f) now)))) := by
                  rw [nw_ren, mdel_pes]
                have hm2 : some (Res.mp none (mdel (ks f) (pes sv safe))) = some (Res.mp none (renM id (pes sv (pdel (ks f) safe)))) := by
                  rw [sv_ren, mdel_pes]
                refine ⟨(d2, fp3, _, _, none), id, ⟨⟨rfl, rfl, rfl, rfl, rfl, rfl, rfl, rfl, rfl, trivial⟩, ⟨rfl, hm2, hm1, rfl, trivial⟩, ?_⟩, h3, hr2, fun _ _ _ => ho⟩
                simp [erG, idbE, idb, idbL, idbH, idbR, nw_id, sv_id, hids, distB, fixB, memB]; try decide
              · obtain rfl : d2 = d := h5 m rfl
                refine GOH h1 id rfl rfl ⟨rfl, trivial⟩ rfl (id_lt rfl) ?_
                rintro _ _ _ ⟨rfl, ⟨fp3, rfl⟩, rfl⟩
                repeat (first | refine p1 ?_ | refine p2 ?_ | refine p3 ?_ | refine p4 ?_)
                refine ⟨(d2, fp3, safe, now, (some m)), id, ⟨⟨rfl, rfl, rfl, rfl, rfl, rfl, rfl, rfl, rfl, trivial⟩, ⟨rfl, (sv_r0 _ _), (nw_r0 _ _), rfl, trivial⟩, ?_⟩, h3, hr, fun h => by cases h⟩
                simp [erG, idbE, idb, idbL, idbH, idbR, nw_id, sv_id, hids, distB, fixB, memB]; try decide
            refine p2 ?_ (by simp [w3])
            refine ⟨(d, fp2, safe, now, none), id, ⟨⟨rfl, rfl, rfl, rfl, rfl, rfl, rfl, rfl, rfl, trivial⟩, ⟨rfl, (sv_r0 _ _), (nw_r0 _ _), rfl, trivial⟩, ?_⟩, hst.mono (by omega), hr, fun _ h1 h2 => by omega⟩
            simp [erG, idbE, idb, idbL, idbH, idbR, nw_id, sv_id, hids, distB, fixB, memB]; try decide
          · rintro ⟨d1, fp3, safe1, now1, e1⟩ ⟨hst1, hr1, he1⟩
            replace hst1 : PSt (i + 1 + 1) d1 := hst1
            replace hr1 : KRel d1 now1 safe1 := hr1
            replace he1 : e1 = none → 0 ≤ what → what ≤ 3 → onF d = true := he1
            rcases tf (onF d) with ho | ho
            · rw [ho]
              refine V ?_
              rcases e1 with _ | m
              · repeat (first | refine p1 ?_ | refine p2 ?_ | refine p3 ?_ | refine p4 ?_)
                refine ⟨(i + 1, d1, fp3, safe1, now1), id, ⟨⟨rfl, rfl, rfl, rfl, rfl, succ_gi (by omega), trivial⟩, ⟨rfl, sv_r0 _ _, nw_r0 _ _, trivial⟩, ?_⟩, ⟨hlt, hst1, hr1⟩, by show l.length - (i + 1) < l.length - i; omega⟩
                simp [erG, idbE, idb, idbL, idbH, idbR, nw_id, sv_id, hids, distB, fixB, memB]; try decide
              · repeat (first | refine p1 ?_ | refine p2 ?_ | refine p3 ?_ | refine p4 ?_)
                refine ⟨(i + 1, d1, fp3, safe1, now1), id, ⟨⟨rfl, rfl, rfl, rfl, rfl, succ_gi (by omega), trivial⟩, ⟨rfl, sv_r0 _ _, nw_r0 _ _, trivial⟩, ?_⟩, ⟨hlt, hst1, hr1⟩, by show l.length - (i + 1) < l.length - i; omega⟩
                simp [erG, idbE, idb, idbL, idbH, idbR, nw_id, sv_id, hids, distB, fixB, memB]; try decide
            · rw [ho]
              refine V ?_
              rcases e1 with _ | m
              · have hw : ¬ (0 ≤ what ∧ what ≤ 3) := fun h => by have := he1 rfl h.1 h.2; rw [ho] at this; cases this
                by_cases hw0 : 0 ≤ what
                · repeat (first | refine p1 ?_ | refine p2 ?_ | refine p3 ?_ | refine p4 ?_)
                  refine ⟨(i + 1, d1, fp3, safe1, now1), id, ⟨⟨rfl, rfl, rfl, rfl, rfl, succ_gi (by omega), trivial⟩, ⟨rfl, sv_r0 _ _, nw_r0 _ _, trivial⟩, ?_⟩, ⟨hlt, hst1, hr1⟩, by show l.length - (i + 1) < l.length - i; omega⟩
                  simp [erG, idbE, idb, idbL, idbH, idbR, nw_id, sv_id, hids, distB, fixB, memB]; try decide
                · repeat (first | refine p1 ?_ | refine p2 ?_ | refine p3 ?_ | refine p4 ?_)
                  refine ⟨(i + 1, d1, fp3, safe1, now1), id, ⟨⟨rfl, rfl, rfl, rfl, rfl, succ_gi (by omega), trivial⟩, ⟨rfl, sv_r0 _ _, nw_r0 _ _, trivial⟩, ?_⟩, ⟨hlt, hst1, hr1⟩, by show l.length - (i + 1) < l.length - i; omega⟩
                  simp [erG, idbE, idb, idbL, idbH, idbR, nw_id, sv_id, hids, distB, fixB, memB]; try decide
              · repeat (first | refine p1 ?_ | refine p2 ?_ | refine p3 ?_ | refine p4 ?_)
                refine ⟨(i + 1, d1, fp3, safe1, now1), id, ⟨⟨rfl, rfl, rfl, rfl, rfl, succ_gi (by omega), trivial⟩, ⟨rfl, sv_r0 _ _, nw_r0 _ _, trivial⟩, ?_⟩, ⟨hlt, hst1, hr1⟩, by show l.length - (i + 1) < l.length - i; omega⟩
                simp [erG, idbE, idb, idbL, idbH, idbR, nw_id, sv_id, hids, distB, fixB, memB]; try decide

        · refine RA.run (cx := ⟨pg, _, _, _, _, _, _, _⟩) pg_ok (by kernel_rfl) (by intro _ _ h; exact h) (tk [0, 1, 7, 8]) (e := false) (by kernel_rfl) ?_
          refine RGO 2 false (tk [3, 4]) (pick_rt fi 5 (by omega) (by omega)) rfl rfl (by kernel_rfl) ?_
          refine RA.both 5 9 (eqB_eq (by kernel_rfl)) (Stp.mem 5 pg_ok rfl rfl rfl ?_) (Stp.rt 9 (pick_rt tw 5 (by omega) (by omega)) rfl rfl rfl ?_)
          · refine RA.both 6 9 (eqB_eq (by kernel_rfl)) (Stp.read 6 pg_ok rfl rfl ?_) (Stp.rt 9 (pick_rt tw 5 (by omega) (by omega)) rfl rfl rfl ?_)
            · refine ⟨[UInt8.ofNat (97 + pkF fi 5).toNat], nm_row _ (pkF_in fi (by omega)), ?_⟩
              refine RGO 9 false (tk [10, 11, 14]) (pick_rt tw 5 (by omega) (by omega)) rfl rfl (by kernel_rfl) ?_
              refine RA.run (cx := ⟨pg, _, _, _, _, _, _, _⟩) pg_ok (by kernel_rfl) (by intro _ _ h; exact h) (al [12] ++ al [13]) (e := false) (by kernel_rfl) ?_
              refine ⟨[UInt8.ofNat (97 + pkF tw 5).toNat], nm_row _ (pkF_in tw (by omega)), ?_⟩
              refine RA.run (cx := ⟨pg, _, _, _, _, _, _, _⟩) pg_ok (by kernel_rfl) (by intro _ _ h; exact h) (tk [15]) (e := false) (by kernel_rfl) ?_
              refine RA.endJ id (by kernel_rfl) hk ⟨⟨rfl, rfl, rfl, rfl, rfl, rfl, rfl, rfl, rfl, trivial⟩, ⟨rfl, sv_r0 _ _, nw_r0 _ _, rfl, trivial⟩, ?_⟩
              simp [erG, idbE, idb, idbL, idbH, idbR, nw_id, sv_id, hids, distB, fixB, memB]; try decide
            · refine RA.run (cx := ⟨pg, _, _, _, _, _, _, _⟩) pg_ok (by kernel_rfl) (by intro _ _ h; exact h) (tk [10, 11]) (e := false) (by kernel_rfl) ?_
              refine RA.both 6 12 (eqB_eq (by kernel_rfl)) (Stp.read 6 pg_ok rfl rfl ?_) (Stp.mem 12 pg_ok rfl rfl rfl ?_)
              · refine ⟨[UInt8.ofNat (97 + pkF fi 5).toNat], nm_row _ (pkF_in fi (by omega)), ?_⟩
                refine RA.run (cx := ⟨pg, _, _, _, _, _, _, _⟩) pg_ok (by kernel_rfl) (by intro _ _ h; exact h) (tk [14] ++ al [12] ++ al [13]) (e := false) (by kernel_rfl) ?_
                refine ⟨[UInt8.ofNat (97 + pkF tw 5).toNat], nm_row _ (pkF_in tw (by omega)), ?_⟩
                refine RA.run (cx := ⟨pg, _, _, _, _, _, _, _⟩) pg_ok (by kernel_rfl) (by intro _ _ h; exact h) (tk [15]) (e := false) (by kernel_rfl) ?_
                refine RA.endJ id (by kernel_rfl) hk ⟨⟨rfl, rfl, rfl, rfl, rfl, rfl, rfl, rfl, rfl, trivial⟩, ⟨rfl, sv_r0 _ _, nw_r0 _ _, rfl, trivial⟩, ?_⟩
                simp [erG, idbE, idb, idbL, idbH, idbR, nw_id, sv_id, hids, distB, fixB, memB]; try decide
              · refine RA.both 6 13 (eqB_eq (by kernel_rfl)) (Stp.read 6 pg_ok rfl rfl ?_) (Stp.read 13 pg_ok rfl rfl ?_)
                · refine ⟨[UInt8.ofNat (97 + pkF fi 5).toNat], nm_row _ (pkF_in fi (by omega)), ?_⟩
                  refine RA.run (cx := ⟨pg, _, _, _, _, _, _, _⟩) pg_ok (by kernel_rfl) (by intro _ _ h; exact h) (tk [14] ++ al [13]) (e := false) (by kernel_rfl) ?_
                  refine ⟨[UInt8.ofNat (97 + pkF tw 5).toNat], nm_row _ (pkF_in tw (by omega)), ?_⟩
                  refine RA.run (cx := ⟨pg, _, _, _, _, _, _, _⟩) pg_ok (by kernel_rfl) (by intro _ _ h; exact h) (tk [15]) (e := false) (by kernel_rfl) ?_
                  refine RA.endJ id (by kernel_rfl) hk ⟨⟨rfl, rfl, rfl, rfl, rfl, rfl, rfl, rfl, rfl, trivial⟩, ⟨rfl, sv_r0 _ _, nw_r0 _ _, rfl, trivial⟩, ?_⟩
                  simp [erG, idbE, idb, idbL, idbH, idbR, nw_id, sv_id, hids, distB, fixB, memB]; try decide
                · refine ⟨[UInt8.ofNat (97 + pkF tw 5).toNat], nm_row _ (pkF_in tw (by omega)), ?_⟩
                  refine RA.run (cx := ⟨pg, _, _, _, _, _, _, _⟩) pg_ok (by kernel_rfl) (by intro _ _ h; exact h) (al [6]) (e := false) (by kernel_rfl) ?_
                  refine ⟨[UInt8.ofNat (97 + pkF fi 5).toNat], nm_row _ (pkF_in fi (by omega)), ?_⟩
                  refine RA.run (cx := ⟨pg, _, _, _, _, _, _, _⟩) pg_ok (by kernel_rfl) (by intro _ _ h; exact h) (tk [14] ++ tk [15]) (e := false) (by kernel_rfl) ?_
                  refine RA.endJ id (by kernel_rfl) hk ⟨⟨rfl, rfl, rfl, rfl, rfl, rfl, rfl, rfl, rfl, trivial⟩, ⟨rfl, sv_r0 _ _, nw_r0 _ _, rfl, trivial⟩, ?_⟩
                  simp [erG, idbE, idb, idbL, idbH, idbR, nw_id, sv_id, hids, distB, fixB, memB]; try decide
          · refine RA.run (cx := ⟨pg, _, _, _, _, _, _, _⟩) pg_ok (by kernel_rfl) (by intro _ _ h; exact h) (tk [10, 11]) (e := false) (by kernel_rfl) ?_
            refine RA.both 5 12 (eqB_eq (by kernel_rfl)) (Stp.mem 5 pg_ok rfl rfl rfl ?_) (Stp.mem 12 pg_ok rfl rfl rfl ?_)
            · refine RA.both 6 12 (eqB_eq (by kernel_rfl)) (Stp.read 6 pg_ok rfl rfl ?_) (Stp.mem 12 pg_ok rfl rfl rfl ?_)
              · refine ⟨[UInt8.ofNat (97 + pkF fi 5).toNat], nm_row _ (pkF_in fi (by omega)), ?_⟩
                refine RA.run (cx := ⟨pg, _, _, _, _, _, _, _⟩) pg_ok (by kernel_rfl) (by intro _ _ h; exact h) (tk [14] ++ al [12] ++ al [13]) (e := false) (by kernel_rfl) ?_
                refine ⟨[UInt8.ofNat (97 + pkF tw 5).toNat], nm_row _ (pkF_in tw (by omega)), ?_⟩
                refine RA.run (cx := ⟨pg, _, _, _, _, _, _, _⟩) pg_ok (by kernel_rfl) (by intro _ _ h; exact h) (tk [15]) (e := false) (by kernel_rfl) ?_
                refine RA.endJ id (by kernel_rfl) hk ⟨⟨rfl, rfl, rfl, rfl, rfl, rfl, rfl, rfl, rfl, trivial⟩, ⟨rfl, sv_r0 _ _, nw_r0 _ _, rfl, trivial⟩, ?_⟩
                simp [erG, idbE, idb, idbL, idbH, idbR, nw_id, sv_id, hids, distB, fixB, memB]; try decide
              · refine RA.both 6 13 (eqB_eq (by kernel_rfl)) (Stp.read 6 pg_ok rfl rfl ?_) (Stp.read 13 pg_ok rfl rfl ?_)
                · refine ⟨[UInt8.ofNat (97 + pkF fi 5).toNat], nm_row _ (pkF_in fi (by omega)), ?_⟩
                  refine RA.run (cx := ⟨pg, _, _, _, _, _, _, _⟩) pg_ok (by kernel_rfl) (by intro _ _ h; exact h) (tk [14] ++ al [13]) (e := false) (by kernel_rfl) ?_
                  refine ⟨[UInt8.ofNat (97 + pkF tw 5).toNat], nm_row _ (pkF_in tw (by omega)), ?_⟩
                  refine RA.run (cx := ⟨pg, _, _, _, _, _, _, _⟩) pg_ok (by kernel_rfl) (by intro _ _ h; exact h) (tk [15]) (e := false) (by kernel_rfl) ?_
                  refine RA.endJ id (by kernel_rfl) hk ⟨⟨rfl, rfl, rfl, rfl, rfl, rfl, rfl, rfl, rfl, trivial⟩, ⟨rfl, sv_r0 _ _, nw_r0 _ _, rfl, trivial⟩, ?_⟩
                  simp [erG, idbE, idb, idbL, idbH, idbR, nw_id, sv_id, hids, distB, fixB, memB]; try decide
                · refine ⟨[UInt8.ofNat (97 + pkF tw 5).toNat], nm_row _ (pkF_in tw (by omega)), ?_⟩
                  refine RA.run (cx := ⟨pg, _, _, _, _, _, _, _⟩) pg_ok (by kernel_rfl) (by intro _ _ h; exact h) (al [6]) (e := false) (by kernel_rfl) ?_
                  refine ⟨[UInt8.ofNat (97 + pkF fi 5).toNat], nm_row _ (pkF_in fi (by omega)), ?_⟩
                  refine RA.run (cx := ⟨pg, _, _, _, _, _, _, _⟩) pg_ok (by kernel_rfl) (by intro _ _ h; exact h) (tk [14] ++ tk [15]) (e := false) (by kernel_rfl) ?_
                  refine RA.endJ id (by kernel_rfl) hk ⟨⟨rfl, rfl, rfl, rfl, rfl, rfl, rfl, rfl, rfl, trivial⟩, ⟨rfl, sv_r0 _ _, nw_r0 _ _, rfl, trivial⟩, ?_⟩
                  simp [erG, idbE, idb, idbL, idbH, idbR, nw_id, sv_id, hids, distB, fixB, memB]; try decide
            · refine RA.both 5 13 (eqB_eq (by kernel_rfl)) (Stp.mem 5 pg_ok rfl rfl rfl ?_) (Stp.read 13 pg_ok rfl rfl ?_)
              · refine RA.both 6 13 (eqB_eq (by kernel_rfl)) (Stp.read 6 pg_ok rfl rfl ?_) (Stp.read 13 pg_ok rfl rfl ?_)
                · refine ⟨[UInt8.ofNat (97 + pkF fi 5).toNat], nm_row _ (pkF_in fi (by omega)), ?_⟩
                  refine RA.run (cx := ⟨pg, _, _, _, _, _, _, _⟩) pg_ok (by kernel_rfl) (by intro _ _ h; exact h) (tk [14] ++ al [13]) (e := false) (by kernel_rfl) ?_
                  refine ⟨[UInt8.ofNat (97 + pkF tw 5).toNat], nm_row _ (pkF_in tw (by omega)), ?_⟩
                  refine RA.run (cx := ⟨pg, _, _, _, _, _, _, _⟩) pg_ok (by kernel_rfl) (by intro _ _ h; exact h) (tk [15]) (e := false) (by kernel_rfl) ?_
                  refine RA.endJ id (by kernel_rfl) hk ⟨⟨rfl, rfl, rfl, rfl, rfl, rfl, rfl, rfl, rfl, trivial⟩, ⟨rfl, sv_r0 _ _, nw_r0 _ _, rfl, trivial⟩, ?_⟩
                  simp [erG, idbE, idb, idbL, idbH, idbR, nw_id, sv_id, hids, distB, fixB, memB]; try decide
                · refine ⟨[UInt8.ofNat (97 + pkF tw 5).toNat], nm_row _ (pkF_in tw (by omega)), ?_⟩
                  refine RA.run (cx := ⟨pg, _, _, _, _, _, _, _⟩) pg_ok (by kernel_rfl) (by intro _ _ h; exact h) (al [6]) (e := false) (by kernel_rfl) ?_
                  refine ⟨[UInt8.ofNat (97 + pkF fi 5).toNat], nm_row _ (pkF_in fi (by omega)), ?_⟩
                  refine RA.run (cx := ⟨pg, _, _, _, _, _, _, _⟩) pg_ok (by kernel_rfl) (by intro _ _ h; exact h) (tk [14] ++ tk [15]) (e := false) (by kernel_rfl) ?_
                  refine RA.endJ id (by kernel_rfl) hk ⟨⟨rfl, rfl, rfl, rfl, rfl, rfl, rfl, rfl, rfl, trivial⟩, ⟨rfl, sv_r0 _ _, nw_r0 _ _, rfl, trivial⟩, ?_⟩
                  simp [erG, idbE, idb, idbL, idbH, idbR, nw_id, sv_id, hids, distB, fixB, memB]; try decide
              · refine ⟨[UInt8.ofNat (97 + pkF tw 5).toNat], nm_row _ (pkF_in tw (by omega)), ?_⟩
                refine RA.run (cx := ⟨pg, _, _, _, _, _, _, _⟩) pg_ok (by kernel_rfl) (by intro _ _ h; exact h) (al [5] ++ al [6]) (e := false) (by kernel_rfl) ?_
                refine ⟨[UInt8.ofNat (97 + pkF fi 5).toNat], nm_row _ (pkF_in fi (by omega)), ?_⟩
                refine RA.run (cx := ⟨pg, _, _, _, _, _, _, _⟩) pg_ok (by kernel_rfl) (by intro _ _ h; exact h) (tk [14] ++ tk [15]) (e := false) (by kernel_rfl) ?_
                refine RA.endJ id (by kernel_rfl) hk ⟨⟨rfl, rfl, rfl, rfl, rfl, rfl, rfl, rfl, rfl, trivial⟩, ⟨rfl, sv_r0 _ _, nw_r0 _ _, rfl, trivial⟩, ?_⟩
                simp [erG, idbE, idb, idbL, idbH, idbR, nw_id, sv_id, hids, distB, fixB, memB]; try decide
      · refine p2 ?_ (decide_eq_false (by simp only [List.length_map]; omega))
        refine ⟨(d, fp, safe, now), id, ⟨⟨rfl, rfl, rfl, rfl, trivial⟩, ⟨rfl, sv_r0 _ _, nw_r0 _ _, trivial⟩, ?_⟩, hst.mono (by omega), hr⟩
        simp [erG, idbE, idb, idbL, idbH, idbR, nw_id, sv_id, hids, distB, fixB, memB]; try decide
    · rintro ⟨d, fp, safe, now⟩ ⟨hst, hr⟩
      replace hst : PSt 100 d := hst
      replace hr : KRel d now safe := hr
      have hok := hst.ok
      have hstD := hst.start keeps
      have hokD := hstD.ok
      have hthere := fun (f : ByteArray) (z : Fl) => hr.there hok keeps (f := f) (z := z)
      have hkept := fun (f : ByteArray) (n : Int) => hr.kept hok keeps (f := f) (n := n)
      have honD : onF (startF keeps d) = true := rfl
      refine V ?_
      refine GOH (start_hf d fp _ hok (by omega) keeps) id rfl rfl ⟨rfl, trivial⟩ rfl (id_lt rfl) ?_
      rintro _ _ _ ⟨rfl, ⟨fp2, rfl⟩, rfl⟩
      have h60 : ∀ y ∈ (startF keeps d).L, (nmOf y.1).size ≤ 1000 := fun y hy => by
        obtain ⟨s, h1, h2⟩ := hstD.nm y hy
        rw [h1]
        show s.size ≤ 1000
        omega
      have hL := hstD.len
      have hnl : (names (startF keeps d)).length = (startF keeps d).L.length := by unfold names; rw [srt_len, List.length_map]
      have hmem : ∀ f, f ∈ names (startF keeps d) → ∃ x, fnd f (startF keeps d) = some x := fun f => mem_names hokD
      have hlist := list_hf (startF keeps d) fp2 _ hokD h60 (by omega)
      generalize names (startF keeps d) = nms at hlist hmem hnl
      generalize startF keeps d = D at *
      refine GOH hlist id rfl rfl ⟨rfl, trivial⟩ rfl (id_lt rfl) ?_
      rintro _ _ _ ⟨rfl, ⟨fp3, rfl⟩, rfl⟩
      refine JK.loopE (α := Nat × List Nat) (β := List Nat)
        (fun a => ⟨[(2, gi keeps), (7, .p 0 0), (8, .o 1), (9, .o 2), (18, ts nms), (19, gi a.1)], [(0, .ab (dk D a.2)), (1, .mp none (pes sv safe)), (2, .mp none (pes nw now))], 3⟩)
        (fun a => a.1 ≤ nms.length) (fun a => nms.length - a.1)
        (fun fp => ⟨[(7, .p 0 0), (8, .o 1)], [(0, .ab (dk D fp)), (1, .mp none (pes sv safe))], 3⟩) (fun _ => True) (0, fp3) id ?_ ?_ ?_ ?_
      · exact ⟨⟨rfl, rfl, rfl, rfl, rfl, rfl, trivial⟩, ⟨rfl, sv_r0 _ _, nw_r0 _ _, trivial⟩, by simp [erG, idbE, idb, idbL, idbH, idbR, nw_id, sv_id, hids, distB, fixB, memB]; try decide⟩
      · exact Nat.zero_le _
      · rintro ⟨k, fp⟩ hk
        replace hk : k ≤ nms.length := hk
        refine V ?_
        by_cases hkl : k < nms.length
        · refine p1 ?_ (decide_eq_true (by simp only [List.length_map]; omega))
          refine ix (h := ?_)
          obtain ⟨z, hz⟩ := hmem nms[k] (List.getElem_mem hkl)
          obtain ⟨x, hx, hpre, hzl, hn1, hn2, hn0⟩ := hthere nms[k] z hz
          have hzs := (fnd_sz hokD hz).1
          have hpf := keeps_pre hpre hzl
          have hrd := read_hf D fp _ hokD nms[k]
          rw [hz] at hrd
          refine GOH hrd id rfl rfl ⟨rfl, trivial⟩ rfl (id_lt rfl) ?_
          rintro _ _ _ ⟨rfl, ⟨fp4, rfl⟩, rfl⟩
          refine ix (h := ?_)
          refine lkS (nw_some hx) ?_
          repeat (first | refine p1 ?_ | refine p2 ?_ | refine p3 ?_ | refine p4 ?_)
          refine GO ((hasPrefix_rt x z.1).bt (d := true) hpf) rfl ?_
          cases hs : pfind (ks nms[k]) safe with
          | none =>
            rw [hs] at hn1 hn2 hn0
            simp only [Option.getD] at hn1 hn2 hn0
            refine ix (h := ?_)
            refine lkN (sv_none hs) ?_
            repeat (first | refine p1 ?_ | refine p2 ?_ | refine p3 ?_ | refine p4 ?_)
            refine ix (h := ?_)
            refine lkN (sv_none hs) ?_
            refine p2 ?_ (decide_eq_false (by rw [wrap_id (by omega) (by omega)]; split <;> omega))
            refine ⟨(k + 1, fp4), id, ⟨⟨rfl, rfl, rfl, rfl, rfl, succ_gi (by omega), trivial⟩, ⟨rfl, sv_r0 _ _, nw_r0 _ _, trivial⟩, ?_⟩, hkl, by show nms.length - (k + 1) < nms.length - k; omega⟩
            simp [erG, idbE, idb, idbL, idbH, idbR, nw_id, sv_id, hids, distB, fixB, memB]; try decide
          | some y =>
            rw [hs] at hn1 hn2 hn0
            simp only [Option.getD] at hn1 hn2 hn0
            refine ix (h := ?_)
            refine lkS (sv_some hs) ?_
            repeat (first | refine p1 ?_ | refine p2 ?_ | refine p3 ?_ | refine p4 ?_)
            refine ix (h := ?_)
            refine lkS (sv_some hs) ?_
            refine p2 ?_ (decide_eq_false (by rw [wrap_id (by omega) (by omega)]; split <;> omega))
            refine ⟨(k + 1, fp4), id, ⟨⟨rfl, rfl, rfl, rfl, rfl, succ_gi (by omega), trivial⟩, ⟨rfl, sv_r0 _ _, nw_r0 _ _, trivial⟩, ?_⟩, hkl, by show nms.length - (k + 1) < nms.length - k; omega⟩
            simp [erG, idbE, idb, idbL, idbH, idbR, nw_id, sv_id, hids, distB, fixB, memB]; try decide
        · refine p2 ?_ (decide_eq_false (by simp only [List.length_map]; omega))
          exact ⟨fp, id, ⟨⟨rfl, rfl, trivial⟩, ⟨rfl, sv_r0 _ _, trivial⟩, by simp [erG, idbE, idb, idbL, idbH, idbR, nw_id, sv_id, hids, distB, fixB, memB]; try decide⟩, trivial⟩
      · rintro fp _
        refine V ?_
        refine JK.loopE (α := List Value × Option Value × List Nat) (β := List Nat) (fun a => ⟨[(7, .p 0 0), (209, .p 2 0)], [(0, .ab (dk D a.2.2)), (1, .itr 2), (2, .mr none (pes sv safe) a.1 a.2.1)], 3⟩)
          (fun a => ∀ k ∈ a.1, ∃ f n, k = ks f ∧ pfind (ks f) safe = some n) (fun a => a.1.length)
          (fun fp => ⟨[(7, .p 0 0)], [(0, .ab (dk D fp))], 1⟩) (fun _ => True) (safe.map (·.1), none, fp) (fun q => bif Nat.beq q 2 then 3 else q) ?_ ?_ ?_ ?_
        · refine ⟨⟨rfl, rfl, trivial⟩, ⟨rfl, rfl, ?_, trivial⟩, ?_⟩
          · show _ = some (Res.mr none (renM _ (pes sv safe)) (safe.map (·.1)) none)
            rw [sv_ren]
            refine congrArg (fun l => some (Res.mr none (pes sv safe) l none)) ?_
            show (pes sv safe).map (·.1) = _
            rw [List.map_map]; rfl
          · simp [erG, idbE, idb, idbL, idbH, idbR, nw_id, sv_id, hids, distB, fixB, memB]; try decide
        · intro k hk'
          obtain ⟨⟨q, x⟩, hx, rfl⟩ := List.mem_map.1 hk'
          have hq := hr.sk _ hx
          cases q with
          | string f => exact ⟨f, x, rfl, (pfind_mem rfl hr.sk hr.sn).2 hx⟩
          | _ => cases hq
        · rintro ⟨lf, cur, fp⟩ hl
          refine V ?_
          refine ⟨fun e => ?_, fun l1 k l2 g hlk hg => ?_⟩
          · obtain rfl : lf = [] := e
            exact ⟨fp, id, ⟨⟨rfl, trivial⟩, ⟨rfl, trivial⟩, rfl⟩, trivial⟩
          · obtain rfl : lf = l1 ++ k :: l2 := hlk
            obtain ⟨f, n, rfl, hf⟩ := hl k (by simp)
            have hl' : ∀ k ∈ l1 ++ l2, ∃ f n, k = ks f ∧ pfind (ks f) safe = some n := fun k hk' => hl k (by
              rcases List.mem_append.1 hk' with h | h <;> simp [h])
            have hlen : (l1 ++ l2).length < (l1 ++ ks f :: l2).length := by simp
            have hef := sv_some hf
            obtain rfl : sv n = g := Option.some.inj (hef.symm.trans hg)
            refine ⟨_, hef, ?_⟩
            have hrd := read_hf D fp _ hokD f
            have hkp2 := hkept f n hf
            cases hz : fnd f D with
            | none =>
              rw [hz] at hrd hkp2
              refine GOH hrd id rfl rfl ⟨rfl, trivial⟩ rfl (id_lt rfl) ?_
              rintro _ _ _ ⟨rfl, ⟨fp4, rfl⟩, rfl⟩
              have hn : ¬ n > 0 := fun h => by obtain ⟨z, h1, _⟩ := hkp2 h; cases h1
              refine p2 ?_ (decide_eq_false hn)
              repeat (first | refine p1 ?_ | refine p2 ?_ | refine p3 ?_ | refine p4 ?_)
              refine ⟨(l1 ++ l2, some (ks f), fp4), id, ⟨⟨rfl, rfl, trivial⟩, ⟨rfl, rfl, ?_, trivial⟩, ?_⟩, hl', hlen⟩
              · exact congrArg (fun l => some (Res.mr none l (l1 ++ l2) (some (ks f)))) (sv_ren _ _).symm
              · simp [erG, idbE, idb, idbL, idbH, idbR, nw_id, sv_id, hids, distB, fixB, memB]; try decide
            | some z =>
              rw [hz] at hrd hkp2
              refine GOH hrd id rfl rfl ⟨rfl, trivial⟩ rfl (id_lt rfl) ?_
              rintro _ _ _ ⟨rfl, ⟨fp4, rfl⟩, rfl⟩
              by_cases hn : n > 0
              · obtain ⟨z', h1, hle⟩ := hkp2 hn
                obtain rfl := Option.some.inj h1
                refine p1 ?_ (decide_eq_true hn)
                repeat (first | refine p1 ?_ | refine p2 ?_ | refine p3 ?_ | refine p4 ?_)
                refine ⟨(l1 ++ l2, some (ks f), fp4), id, ⟨⟨rfl, rfl, trivial⟩, ⟨rfl, rfl, ?_, trivial⟩, ?_⟩, hl', hlen⟩
                · exact congrArg (fun l => some (Res.mr none l (l1 ++ l2) (some (ks f)))) (sv_ren _ _).symm
                · simp [erG, idbE, idb, idbL, idbH, idbR, nw_id, sv_id, hids, distB, fixB, memB]; try decide
              · refine p2 ?_ (decide_eq_false hn)
                repeat (first | refine p1 ?_ | refine p2 ?_ | refine p3 ?_ | refine p4 ?_)
                refine ⟨(l1 ++ l2, some (ks f), fp4), id, ⟨⟨rfl, rfl, trivial⟩, ⟨rfl, rfl, ?_, trivial⟩, ?_⟩, hl', hlen⟩
                · exact congrArg (fun l => some (Res.mr none l (l1 ++ l2) (some (ks f)))) (sv_ren _ _).symm
                · simp [erG, idbE, idb, idbL, idbH, idbR, nw_id, sv_id, hids, distB, fixB, memB]; try decide
        · rintro fp _
          refine V ?_
          refine GOH (on_hf D fp) id rfl rfl ⟨rfl, trivial⟩ rfl (id_lt rfl) ?_
          rintro _ _ _ ⟨rfl, ⟨fp4, rfl⟩, rfl⟩
          exact ⟨honD, rfl⟩
end Go.Proofs.Ytdongnbkfgipdaa
