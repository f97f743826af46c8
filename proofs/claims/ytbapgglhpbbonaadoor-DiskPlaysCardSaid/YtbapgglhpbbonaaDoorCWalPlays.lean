/-
  WalPlays.
-/
import Derived.Test.YtbapgglhpbbonaaDoorCTexts
import Derived.Test.YtbapgglhpbbonaaDoorCErr
namespace Go.Proofs.YtbapgglhpbbonaaDoor
open Go.GK Go.PL Go.RowKit
set_option maxRecDepth 100000
abbrev nt (x : Int × List ByteArray) : List GV := [gi x.1, ts x.2]
section
variable {N n0 : Nat} {H0 : Hid} {S0 : List Nat} {w0 : World} {h0 : H0.n = n0} {g0 : GlOk pg H0} {T : Post} {k : List It} {s : St}
/-- A fresh disk is packed. -/
theorem PCK0 (id : Nat) (h1 : hlook s.σ id = some (.blk 27 [.v (.map none), .v (.map none), gi 0, .v (.bool false)])) (chk : Nat.blt id s.n = true)
    (h : ∀ fp, nfH ((id, .ab (dk dk0 fp)) :: hrest [id] (hset s.σ id (.blk 27 [.v (.map none), .v (.map none), gi 0, .b false]))) fun σ => vc ⟨pg, N, n0, H0, S0, w0, h0, g0⟩ T 400 k ⟨s.ρ, σ, s.n⟩) : JK ⟨pg, N, n0, H0, S0, w0, h0, g0⟩ T k s := by
  refine JK.recell id [.v (.map none), .v (.map none), gi 0, .b false] h1 ⟨rfl, rfl, rfl, rfl, trivial⟩ ?_
  rw [nfH_eq]
  refine JK.pack (fun _ => id) 3 id (dheap dk0) ⟨hset_look h1 _, trivial⟩ ?_ (fun fp => ?_)
  · simp only [Bool.and_eq_true]
    exact ⟨⟨⟨rfl, rfl⟩, Nat.beq_refl id⟩, chk⟩
  · have := h fp
    rw [nfH_eq] at this ⊢
    exact V this
end
theorem bare_rt (x : Option Int) (e : Int) : Rt pg 7 [erG x, gi e] (.b (erN x == e)) := Rq.old Tryd.call7 (bare_ct x e)
def sX : ByteArray := ⟨#[120]⟩
def sY : ByteArray := ⟨#[121]⟩
/-- A note, as the law takes it. -/
def mk (s : ByteArray) : ByteArray := if s = sX then longF 60000 else if s = sY then longF 60001 else s
def eF (c : Bool) : Int := if c = true then 1 else 0
/-- What is known ahead of a round. -/
structure WSt (B : Nat) (d : Dk) (want : List ByteArray) : Prop where
  ok : d.ok B
  on : d.cut = false
  ct : PL.cont d = frs want
  sz : ∀ x ∈ want, x.size ≤ 60000
theorem WSt.mono {B B' : Nat} {d : Dk} {want : List ByteArray} (h : WSt B d want) (hb : B ≤ B') : WSt B' d want := ⟨h.ok.mono hb, h.on, h.ct, h.sz⟩
theorem cont_le {B : Nat} {d : Dk} (h : d.ok B) : (PL.cont d).size ≤ B := by
  unfold PL.cont
  cases hf : fnd nN d with
  | none => exact Nat.zero_le _
  | some x => exact (fnd_sz h hf).1
theorem WSt.len {B : Nat} {d : Dk} {want : List ByteArray} (h : WSt B d want) : (frs want).size ≤ B ∧ 2 * want.length ≤ B := by
  have h1 := cont_le h.ok
  rw [h.ct] at h1
  exact ⟨h1, Nat.le_trans (frs_len want) h1⟩
theorem mk_size {s : ByteArray} (h : s.size ≤ 300) : (mk s).size ≤ 60001 := by
  unfold mk
  split
  · rw [longF_size]; omega
  · split
    · rw [longF_size]; omega
    · omega
theorem longs_take (l : List ByteArray) (i : Nat) (h : i < l.length) : longs (l.take (i + 1)) = (longs (l.take i) || decide ((l[i].size : Int) > 60000)) := by
  unfold longs
  rw [List.take_add_one, List.getElem?_eq_getElem h, List.any_append]
  simp
theorem made_take (L : List ByteArray) (k : Nat) (h : k < L.length) : (L.take (k + 1)).map mk = (L.take k).map mk ++ [mk L[k]] := by
  rw [List.take_add_one, List.getElem?_eq_getElem h, List.map_append]
  rfl
theorem longs_app (a : List ByteArray) (x : ByteArray) : longs (a ++ [x]) = (longs a || decide ((x.size : Int) > 60000)) := by
  unfold longs
  rw [List.any_append]
  simp
theorem frsum : ∀ l : List ByteArray, (∀ x ∈ l, x.size ≤ 60001) → (frs l).size ≤ 60003 * l.length
  | [], _ => by simp [frs]
  | x :: r, h => by
    have h1 := frsum r (fun y hy => h y (by simp [hy]))
    have h2 := h x (by simp)
    show (frameF x ++ frs r).size ≤ _
    rw [ByteArray.size_append, frameF_size, List.length_cons]
    omega
theorem id_lt {a n : Nat} (h : Nat.ble a n = true) : ∀ i, i < a → id i < n := fun _ hi => Nat.lt_of_lt_of_le hi (Nat.le_of_ble_eq_true h)
theorem r3_lt {a b c n : Nat} (ha : Nat.blt a n = true) (hb : Nat.blt b n = true) (hc : Nat.blt c n = true) : ∀ i, i < 3 → r3 a b c i < n := fun i _ => by
  rw [Nat.blt_eq] at ha hb hc
  unfold r3
  cases Nat.beq i 0
  · cases Nat.beq i 1 <;> assumption
  · assumption
theorem walPlays_rt (l : List (Int × List ByteArray)) : Rt pg 3 [.sl 2 (l.map nt)] (.b true) := by
  refine Rt.of pg_ok Tryd.func3 rfl Tryd.ntmps3 rfl Tryd.results3 Tryd.call3 fun H0 S0 w0 h0 g0 => ?_
  by_cases hlen : l.length > 40
  · refine p1 ?_ (decide_eq_true (by simp only [List.length_map]; omega))
    exact ⟨rfl, rfl⟩
  · refine p2 ?_ (decide_eq_false (by simp only [List.length_map]; omega))
    refine PCK0 0 rfl rfl fun fp0 => ?_
    refine GOH (open_hf dk0 fp0 1000000 (dk0_ok _) [] ByteArray.empty (by simp [PL.cont, fnd, pfind, dk0, frs]) torn_empty (by simp) (by show 1000000 + 0 ≤ _; omega) (by decide) (fun h => absurd rfl h)) id rfl rfl ⟨rfl, trivial⟩ rfl (by simp) ?_
    rintro _ _ _ ⟨rfl, ⟨fp1, rfl⟩, rfl⟩
    refine GO openNil_rt rfl ?_
    repeat (first | refine p1 ?_ | refine p2 ?_ | refine p3 ?_ | refine p4 ?_)
    refine GO ((bare_rt (some 7) 7).bt (d := true) rfl) rfl ?_
    repeat (first | refine p1 ?_ | refine p2 ?_ | refine p3 ?_ | refine p4 ?_)
    refine JK.ownNil 10 9 1 rfl ?_
    refine JK.loopE (α := Nat × Dk × List Nat × List ByteArray) (β := Dk × List Nat × List ByteArray)
      (fun a => ⟨[(0, .sl 2 (l.map nt)), (3, .p 0 0), (4, .p 1 0), (10, .o 2), (11, gi a.1)], [(0, .ab (dk a.2.1 a.2.2.1)), wl 1 0 false, (2, .row 9 1 (a.2.2.2.map fun x => [gs x]))], 3⟩)
      (fun a => a.1 ≤ l.length ∧ WSt (2000000 * (a.1 + 1)) a.2.1 a.2.2.2) (fun a => l.length - a.1)
      (fun a => ⟨[(3, .p 0 0), (10, .o 2)], [(0, .ab (dk a.1 a.2.1)), wl 1 0 false, (2, .row 9 1 (a.2.2.map fun x => [gs x]))], 3⟩) (fun a => WSt 200000000 a.1 a.2.2) (0, dk0, fp1, []) id ?_ ?_ ?_ ?_
    · exact ⟨⟨rfl, rfl, rfl, rfl, rfl, trivial⟩, ⟨rfl, rfl, rfl, trivial⟩, rfl⟩
    · exact ⟨Nat.zero_le _, dk0_ok _, rfl, rfl, by simp⟩
    · rintro ⟨i, d, fp, want⟩ ⟨hi, hst⟩
      replace hi : i ≤ l.length := hi
      replace hst : WSt (2000000 * (i + 1)) d want := hst
      refine V ?_
      by_cases hlt : i < l.length
      · refine p1 ?_ (decide_eq_true (by simp only [List.length_map]; omega))
        refine ix (h := ?_)
        generalize l[i] = x
        obtain ⟨what, L⟩ := x
        have hnext : WSt (2000000 * (i + 1 + 1)) d want := hst.mono (by omega)
        by_cases hL : L.length > 20
        · refine p1 ?_ (decide_eq_true (by simp only [List.length_map]; omega))
          exact ⟨(i + 1, d, fp, want), id, ⟨⟨rfl, rfl, rfl, rfl, succ_gi (by omega), trivial⟩, ⟨rfl, rfl, rfl, trivial⟩, rfl⟩, ⟨hlt, hnext⟩, by show l.length - (i + 1) < l.length - i; omega⟩
        · refine p2 ?_ (decide_eq_false (by simp only [List.length_map]; omega))
          refine JK.ownNil 13 9 1 rfl ?_
          refine JK.loopE (α := Nat) (β := Unit) (fun k => ⟨[(0, .sl 2 (l.map nt)), (3, .p 0 0), (4, .p 1 0), (10, .o 2), (11, gi i), (12, .p 3 0), (13, .o 4), (14, gi (eF (longs ((L.take k).map mk)))), (15, gi k)], [(0, .ab (dk d fp)), wl 1 0 false, (2, .row 9 1 (want.map fun x => [gs x])), (3, .blk 37 [gi what, ts L]), (4, .row 9 1 (((L.take k).map mk).map fun x => [gs x]))], 5⟩)
            (fun k => k ≤ L.length ∧ ∀ x ∈ L.take k, x.size ≤ 300) (fun k => L.length - k)
            (fun _ => ⟨[(0, .sl 2 (l.map nt)), (3, .p 0 0), (4, .p 1 0), (10, .o 2), (11, gi i), (12, .p 3 0), (13, .o 4), (14, gi (eF (longs (L.map mk))))], [(0, .ab (dk d fp)), wl 1 0 false, (2, .row 9 1 (want.map fun x => [gs x])), (3, .blk 37 [gi what, ts L]), (4, .row 9 1 ((L.map mk).map fun x => [gs x]))], 5⟩) (fun _ => ∀ x ∈ L, x.size ≤ 300) 0 id ?_ ?_ ?_ ?_
          · exact ⟨⟨rfl, rfl, rfl, rfl, rfl, rfl, rfl, rfl, rfl, trivial⟩, ⟨rfl, rfl, rfl, rfl, rfl, trivial⟩, rfl⟩
          · exact ⟨Nat.zero_le _, by simp⟩
          · rintro k ⟨hk, h300⟩
            refine V ?_
            by_cases hkl : k < L.length
            · refine p1 ?_ (decide_eq_true (by simp only [List.length_map]; omega))
              refine ix (h := ?_)
              by_cases hs3 : L[k].size > 300
              · refine p1 ?_ (decide_eq_true (by omega))
                exact ⟨rfl, rfl⟩
              · refine p2 ?_ (decide_eq_false (by omega))
                have h300' : ∀ x ∈ L.take (k + 1), x.size ≤ 300 := fun x hx => by
                  rw [List.take_add_one, List.getElem?_eq_getElem hkl] at hx
                  rcases List.mem_append.1 hx with hx | hx
                  · exact h300 x hx
                  · rw [List.mem_singleton.1 hx]; omega
                have hmt := made_take L k hkl
                have hlt2 : ((L.take k).map mk).length ≤ 20 := by rw [List.length_map, List.length_take]; omega
                have hlg : longs ((L.take (k + 1)).map mk) = (longs ((L.take k).map mk) || decide (((mk L[k]).size : Int) > 60000)) := by rw [hmt, longs_app]
                have hrow : ((((L.take k).map mk).map fun x => [gs x]) ++ [[gs (mk L[k])]]) = ((L.take (k + 1)).map mk).map fun x => [gs x] := by rw [hmt, List.map_append]; rfl
                generalize longs ((L.take k).map mk) = c at *
                by_cases hX : L[k] = sX
                · have hm : mk L[k] = longF 60000 := by unfold mk; rw [if_pos hX]
                  have hxx : (L[k].toList == sX.toList) = true := by rw [ba_eq, decide_eq_true hX]
                  refine ⟨fun hc => absurd (hxx.symm.trans hc) (by decide), fun _ => ?_⟩
                  refine ⟨120, by decide, by rw [hX]; rfl, ?_⟩
                  refine GO (long_rt 60000 (by omega)) rfl ?_
                  refine p2 ?_ (decide_eq_false (by rw [longF_size]; omega))
                  refine ⟨by simp only [List.length_map, List.length_cons, List.length_nil] at *; omega, ?_⟩
                  rw [hm] at hlg hrow
                  refine ⟨k + 1, fun j => bif Nat.beq j 4 then 6 else j, ⟨⟨rfl, rfl, rfl, rfl, rfl, rfl, rfl, ?_, succ_gi (by omega), trivial⟩, ⟨rfl, rfl, rfl, rfl, congrArg (fun x => some (Res.row 9 1 x)) hrow, trivial⟩, rfl⟩, ⟨hkl, h300'⟩, by show L.length - (k + 1) < L.length - k; omega⟩
                  refine congrArg (fun n => some (gi (eF n))) ?_
                  rw [hlg, decide_eq_false (by rw [longF_size]; omega)]
                  simp
                · have hxx : (L[k].toList == sX.toList) = false := by rw [ba_eq, decide_eq_false hX]
                  refine ⟨fun _ => ?_, fun hc => absurd (hxx.symm.trans hc) (by decide)⟩
                  by_cases hY : L[k] = sY
                  · have hm : mk L[k] = longF 60001 := by unfold mk; rw [if_neg hX, if_pos hY]
                    refine p1 ?_ (show (L[k].toList == sY.toList) = true by rw [ba_eq, decide_eq_true hY])
                    refine ⟨121, by decide, by rw [hY]; rfl, ?_⟩
                    refine GO (long_rt 60001 (by omega)) rfl ?_
                    refine p1 ?_ (decide_eq_true (by rw [longF_size]; omega))
                    refine ⟨by simp only [List.length_map, List.length_cons, List.length_nil] at *; omega, ?_⟩
                    rw [hm] at hlg hrow
                    refine ⟨k + 1, fun j => bif Nat.beq j 4 then 6 else j, ⟨⟨rfl, rfl, rfl, rfl, rfl, rfl, rfl, ?_, succ_gi (by omega), trivial⟩, ⟨rfl, rfl, rfl, rfl, congrArg (fun x => some (Res.row 9 1 x)) hrow, trivial⟩, rfl⟩, ⟨hkl, h300'⟩, by show L.length - (k + 1) < L.length - k; omega⟩
                    refine congrArg (fun n => some (gi n)) ?_
                    show (1 : Int) = eF (longs ((L.take (k + 1)).map mk))
                    rw [hlg, decide_eq_true (by rw [longF_size]; omega), Bool.or_true]
                    rfl
                  · have hm : mk L[k] = L[k] := by unfold mk; rw [if_neg hX, if_neg hY]
                    refine p2 ?_ (show (L[k].toList == sY.toList) = false by rw [ba_eq, decide_eq_false hY])
                    refine p2 ?_ (decide_eq_false (by omega))
                    refine ⟨by simp only [List.length_map, List.length_cons, List.length_nil] at *; omega, ?_⟩
                    rw [hm] at hlg hrow
                    refine ⟨k + 1, fun j => bif Nat.beq j 4 then 6 else j, ⟨⟨rfl, rfl, rfl, rfl, rfl, rfl, rfl, ?_, succ_gi (by omega), trivial⟩, ⟨rfl, rfl, rfl, rfl, congrArg (fun x => some (Res.row 9 1 x)) hrow, trivial⟩, rfl⟩, ⟨hkl, h300'⟩, by show L.length - (k + 1) < L.length - k; omega⟩
                    refine congrArg (fun n => some (gi (eF n))) ?_
                    rw [hlg, decide_eq_false (by omega)]
                    simp
            · refine p2 ?_ (decide_eq_false (by simp only [List.length_map]; omega))
              obtain rfl : k = L.length := by omega
              rw [List.take_length] at h300
              refine ⟨(), id, ⟨⟨rfl, rfl, rfl, rfl, rfl, rfl, rfl, ?_, trivial⟩, ⟨rfl, rfl, rfl, rfl, ?_, trivial⟩, rfl⟩, h300⟩
              · exact congrArg (fun x : List ByteArray => some (gi (eF (longs (x.map mk))))) List.take_length
              · exact congrArg (fun x : List ByteArray => some (Res.row 9 1 ((x.map mk).map fun x => [gs x]))) List.take_length
          · rintro _ h300
            have hmk : ∀ x ∈ L.map mk, x.size ≤ 60001 := fun x hx => by
              obtain ⟨y, hy, rfl⟩ := List.mem_map.1 hx
              exact mk_size (h300 y hy)
            have hml : (L.map mk).length ≤ 20 := by rw [List.length_map]; omega
            generalize L.map mk = made at *
            refine V ?_
            by_cases h0 : what = 0
            · refine p1 ?_ (by simp [h0])
              refine JK.loopE (α := Nat × Dk × List Nat × List ByteArray) (β := Dk × List Nat × List ByteArray)
                (fun a => ⟨[(0, .sl 2 (l.map nt)), (3, .p 0 0), (4, .p 1 0), (10, .o 2), (11, gi i), (13, .o 4), (17, gi a.1)], [(0, .ab (dk a.2.1 a.2.2.1)), wl 1 0 false, (2, .row 9 1 (a.2.2.2.map fun x => [gs x])), (4, .row 9 1 (made.map fun x => [gs x]))], 5⟩)
                (fun a => a.1 ≤ made.length ∧ WSt (2000000 * (i + 1) + 60003 * a.1) a.2.1 a.2.2.2) (fun a => made.length - a.1)
                (fun a => ⟨[(0, .sl 2 (l.map nt)), (3, .p 0 0), (4, .p 1 0), (10, .o 2), (11, gi i)], [(0, .ab (dk a.1 a.2.1)), wl 1 0 false, (2, .row 9 1 (a.2.2.map fun x => [gs x]))], 3⟩) (fun a => WSt (2000000 * (i + 1 + 1)) a.1 a.2.2) (0, d, fp, want) id ?_ ?_ ?_ ?_
              · exact ⟨⟨rfl, rfl, rfl, rfl, rfl, rfl, rfl, trivial⟩, ⟨rfl, rfl, rfl, rfl, trivial⟩, rfl⟩
              · exact ⟨Nat.zero_le _, hst.mono (by omega)⟩
              · rintro ⟨j, d, fp, want⟩ ⟨hj, hst⟩
                replace hj : j ≤ made.length := hj
                replace hst : WSt (2000000 * (i + 1) + 60003 * j) d want := hst
                refine V ?_
                by_cases hjl : j < made.length
                · have hx := hmk made[j] (List.getElem_mem hjl)
                  refine p1 ?_ (decide_eq_true (by simp only [List.length_map]; omega))
                  refine ⟨Int.natCast_nonneg _, by simp only [List.length_map]; omega, ?_⟩
                  refine ⟨[gs made[j]], by simp [hjl], ?_⟩
                  by_cases hbig : (made[j].size : Int) > 60000
                  · have hadd := add_hf d fp _ hst.ok (by omega) made[j] false
                    have hA : addF made[j] false d = (some 1, false, d) := if_pos hbig
                    rw [hA] at hadd
                    refine p1 ?_ (decide_eq_true hbig)
                    refine ⟨Int.natCast_nonneg _, by simp only [List.length_map]; omega, ?_⟩
                    refine ⟨[gs made[j]], by simp [hjl], ?_⟩
                    refine GOH hadd id rfl rfl ⟨rfl, rfl, trivial⟩ rfl (id_lt rfl) ?_
                    rintro _ _ _ ⟨rfl, ⟨fp1, rfl⟩, rfl⟩
                    refine GO ((bare_rt (some 1) 1).bt (d := true) rfl) rfl ?_
                    refine ⟨(j + 1, d, fp1, want), id, ⟨⟨rfl, rfl, rfl, rfl, rfl, rfl, succ_gi (by omega), trivial⟩, ⟨rfl, rfl, rfl, rfl, trivial⟩, rfl⟩, ⟨hjl, hst.mono (by show _ ≤ 2000000 * (i + 1) + 60003 * (j + 1); omega)⟩, by show made.length - (j + 1) < made.length - j; omega⟩
                  · have hadd := add_hf d fp _ hst.ok (by omega) made[j] false
                    have hok' := addF_ok (s := made[j]) (down := false) hst.ok
                    have hA := add_on hst.ok hst.on made[j] (by omega)
                    generalize addF made[j] false d = A at hadd hok' hA
                    obtain ⟨e1, dn, d1⟩ := A
                    obtain ⟨hA1, hA2, hon, hct⟩ := hA
                    simp only [] at hA1 hA2
                    subst hA1 hA2
                    refine p2 ?_ (decide_eq_false hbig)
                    refine ⟨Int.natCast_nonneg _, by simp only [List.length_map]; omega, ?_⟩
                    refine ⟨[gs made[j]], by simp [hjl], ?_⟩
                    refine GOH hadd id rfl rfl ⟨rfl, rfl, trivial⟩ rfl (id_lt rfl) ?_
                    rintro _ _ _ ⟨rfl, ⟨fp1, rfl⟩, rfl⟩
                    refine p2 ?_
                    refine ⟨Int.natCast_nonneg _, by simp only [List.length_map]; omega, ?_⟩
                    refine ⟨[gs made[j]], by simp [hjl], ?_⟩
                    have hln := hst.len
                    refine ⟨by simp only [List.length_map, List.length_cons, List.length_nil]; omega, ?_⟩
                    refine ⟨(j + 1, d1, fp1, want ++ [made[j]]), fun q => bif Nat.beq q 2 then 6 else q, ⟨⟨rfl, rfl, rfl, rfl, rfl, rfl, succ_gi (by omega), trivial⟩, ⟨rfl, rfl, ?_, rfl, trivial⟩, rfl⟩, ⟨hjl, ⟨hok'.mono (by show _ ≤ 2000000 * (i + 1) + 60003 * (j + 1); omega), hon, ?_, fun x hx => ?_⟩⟩, by show made.length - (j + 1) < made.length - j; omega⟩
                    · refine congrArg (fun x => some (Res.row 9 1 x)) ?_
                      show _ = (want ++ [made[j]]).map fun x => [gs x]
                      rw [List.map_append]
                      rfl
                    · rw [hct, hst.ct, frs_app]
                      show _ = frs want ++ (frameF made[j] ++ ByteArray.empty)
                      simp
                    · rcases List.mem_append.1 hx with hx | hx
                      · exact hst.sz x hx
                      · rw [List.mem_singleton.1 hx]; omega
                · refine p2 ?_ (decide_eq_false (by simp only [List.length_map]; omega))
                  exact ⟨(d, fp, want), id, ⟨⟨rfl, rfl, rfl, rfl, rfl, trivial⟩, ⟨rfl, rfl, rfl, trivial⟩, rfl⟩, hst.mono (by omega)⟩
              · rintro ⟨d, fp, want⟩ hst
                refine V ?_
                refine GOH (down_hf d fp false) id rfl rfl ⟨rfl, rfl, trivial⟩ rfl (id_lt rfl) ?_
                rintro _ _ _ ⟨rfl, ⟨fp1, rfl⟩, rfl⟩
                refine p2 ?_
                exact ⟨(i + 1, d, fp1, want), id, ⟨⟨rfl, rfl, rfl, rfl, succ_gi (by omega), trivial⟩, ⟨rfl, rfl, rfl, trivial⟩, rfl⟩, ⟨hlt, hst⟩, by show l.length - (i + 1) < l.length - i; omega⟩
            · refine p2 ?_ (by simp [h0])
              by_cases h1 : what = 1
              · refine p1 ?_ (by simp [h1])
                have hset := setAllO_hf d fp _ hst.ok made (by omega) (by have := frsum made hmk; omega) false
                have hok' := setAllF_ok (l := made) (down := false) hst.ok
                have hfs := frsum made hmk
                refine Or.elim (tf (longs made)) (fun hlong => ?_) (fun hlong => ?_)
                · have hA : setAllF made false d = (some 1, false, d) := if_pos hlong
                  rw [hA] at hset
                  refine GOH hset (r3 0 1 4) rfl rfl ⟨rfl, rfl, rfl, trivial⟩ rfl (r3_lt rfl rfl rfl) ?_
                  rintro _ _ _ ⟨rfl, ⟨fp1, rfl⟩, rfl⟩
                  refine GO ((bare_rt (some 1) (eF (longs made))).bt (d := true) (by rw [hlong]; rfl)) rfl ?_
                  refine p2 ?_ (by show (eF (longs made) == 0) = false; rw [hlong]; rfl)
                  refine GOH (down_hf d fp1 false) id rfl rfl ⟨rfl, rfl, trivial⟩ rfl (id_lt rfl) ?_
                  rintro _ _ _ ⟨rfl, ⟨fp2, rfl⟩, rfl⟩
                  refine p2 ?_
                  exact ⟨(i + 1, d, fp2, want), id, ⟨⟨rfl, rfl, rfl, rfl, succ_gi (by omega), trivial⟩, ⟨rfl, rfl, rfl, trivial⟩, rfl⟩, ⟨hlt, hnext⟩, by show l.length - (i + 1) < l.length - i; omega⟩
                · have hA : setAllF made false d = ((setF made d).1, (setF made d).1.isSome, (setF made d).2) := by unfold setAllF; rw [if_neg (by rw [hlong]; decide), if_neg (by decide)]
                  have hon := set_on hst.ok hst.on made
                  rw [hA] at hset hok'
                  generalize setF made d = A at hset hok' hon
                  obtain ⟨e1, d1⟩ := A
                  obtain ⟨he, hon1, hct⟩ := hon
                  simp only [] at he
                  subst he
                  have hsz : ∀ x ∈ made, x.size ≤ 60000 := fun x hx => by
                    have := List.any_eq_false.1 hlong x hx
                    simp only [decide_eq_true_eq] at this
                    omega
                  have hnx : WSt (2000000 * (i + 1 + 1)) d1 made := ⟨hok'.mono (by omega), hon1, hct, hsz⟩
                  refine GOH hset (r3 0 1 4) rfl rfl ⟨rfl, rfl, rfl, trivial⟩ rfl (r3_lt rfl rfl rfl) ?_
                  rintro _ _ _ ⟨rfl, ⟨fp1, rfl⟩, rfl⟩
                  refine GO ((bare_rt none (eF (longs made))).bt (d := true) (by rw [hlong]; rfl)) rfl ?_
                  refine p1 ?_ (by show (eF (longs made) == 0) = true; rw [hlong]; rfl)
                  refine GOH (down_hf d1 fp1 false) id rfl rfl ⟨rfl, rfl, trivial⟩ rfl (id_lt rfl) ?_
                  rintro _ _ _ ⟨rfl, ⟨fp2, rfl⟩, rfl⟩
                  refine p2 ?_
                  exact ⟨(i + 1, d1, fp2, made), fun q => bif Nat.beq q 2 then 4 else q, ⟨⟨rfl, rfl, rfl, rfl, succ_gi (by omega), trivial⟩, ⟨rfl, rfl, rfl, trivial⟩, rfl⟩, ⟨hlt, hnx⟩, by show l.length - (i + 1) < l.length - i; omega⟩
              · refine p2 ?_ (by simp [h1])
                by_cases h2 : what = 2
                · refine p1 ?_ (by simp [h2])
                  have hln := hst.len
                  refine GOH (open_hf d fp _ hst.ok want ByteArray.empty (by rw [hst.ct]; simp) torn_empty hst.sz (by omega) (by simp; exact hln.1) (fun h => absurd rfl h)) id rfl rfl ⟨rfl, trivial⟩ rfl (id_lt rfl) ?_
                  rintro _ _ _ ⟨rfl, ⟨fp2, rfl⟩, rfl⟩
                  repeat (first | refine p1 ?_ | refine p2 ?_ | refine p3 ?_ | refine p4 ?_)
                  refine GOB ((sameTexts_rt want want (by omega)).bt (d := true) (decide_eq_true rfl)) rfl ⟨⟨rfl, rfl⟩, ⟨rfl, rfl⟩, trivial⟩ ?_
                  refine GOH (down_hf d fp2 false) (rr 0 5) rfl rfl ⟨rfl, rfl, trivial⟩ rfl (rr_lt rfl rfl) ?_
                  rintro _ _ _ ⟨rfl, ⟨fp1, rfl⟩, rfl⟩
                  refine p2 ?_
                  exact ⟨(i + 1, d, fp1, want), fun q => bif Nat.beq q 1 then 5 else q, ⟨⟨rfl, rfl, rfl, rfl, succ_gi (by omega), trivial⟩, ⟨rfl, rfl, rfl, trivial⟩, rfl⟩, ⟨hlt, hnext⟩, by show l.length - (i + 1) < l.length - i; omega⟩
                · refine p2 ?_ (by simp [h2])
                  refine GOH (down_hf d fp false) id rfl rfl ⟨rfl, rfl, trivial⟩ rfl (id_lt rfl) ?_
                  rintro _ _ _ ⟨rfl, ⟨fp1, rfl⟩, rfl⟩
                  refine p2 ?_
                  exact ⟨(i + 1, d, fp1, want), id, ⟨⟨rfl, rfl, rfl, rfl, succ_gi (by omega), trivial⟩, ⟨rfl, rfl, rfl, trivial⟩, rfl⟩, ⟨hlt, hnext⟩, by show l.length - (i + 1) < l.length - i; omega⟩
      · refine p2 ?_ (decide_eq_false (by simp only [List.length_map]; omega))
        exact ⟨(d, fp, want), id, ⟨⟨rfl, rfl, trivial⟩, ⟨rfl, rfl, rfl, trivial⟩, rfl⟩, hst.mono (by omega)⟩
    · rintro ⟨d, fp, want⟩ hst
      replace hst : WSt 200000000 d want := hst
      have hln := hst.len
      refine V ?_
      refine GOH (open_hf d fp 200000000 hst.ok want ByteArray.empty (by rw [hst.ct]; simp) torn_empty hst.sz (by omega) (by simp; exact hln.1) (fun h => absurd rfl h)) id rfl rfl ⟨rfl, trivial⟩ rfl (by simp) ?_
      rintro _ _ _ ⟨rfl, ⟨fp2, rfl⟩, rfl⟩
      repeat (first | refine p1 ?_ | refine p2 ?_ | refine p3 ?_ | refine p4 ?_)
      refine GOB ((sameTexts_rt want want (by omega)).bt (d := true) (decide_eq_true rfl)) rfl ⟨⟨rfl, rfl⟩, ⟨rfl, rfl⟩, trivial⟩ ?_
      exact ⟨rfl, rfl⟩
end Go.Proofs.YtbapgglhpbbonaaDoor
