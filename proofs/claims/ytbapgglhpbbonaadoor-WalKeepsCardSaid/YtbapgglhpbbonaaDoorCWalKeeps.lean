/-
  WalKeeps.
-/
import Derived.Test.YtbapgglhpbbonaaDoorCWalPlays
import Derived.Test.YtbapgglhpbbonaaDoorPWal2
import Derived.Test.YtbapgglhpbbonaaDoorGKh
namespace Go.Proofs.YtbapgglhpbbonaaDoor
open Go.GK Go.PL Go.RowKit
set_option maxRecDepth 100000
theorem sameTextsK_rt (a b : List ByteArray) (ha : a.length ≤ 4611686018427387904) : Rt pg 18 [ts a, ts b] (.b (decide (a = b))) := by
  refine Rt.of pg_ok Tryd.func18 rfl Tryd.ntmps18 rfl Tryd.results18 Tryd.call18 fun H0 S0 w0 h0 g0 => ?_
  by_cases hlen : a.length = b.length
  · refine p2 ?_ (by simp [hlen])
    refine JK.loopE (α := Nat) (β := Unit) (fun i => ⟨[(0, ts a), (1, ts b), (5, gi i)], [], 0⟩) (fun i => i ≤ a.length ∧ a.take i = b.take i) (fun i => a.length - i) (fun _ => ⟨[], [], 0⟩) (fun _ => a = b) 0 id ?_ ?_ ?_ ?_
    · exact ⟨⟨rfl, rfl, rfl, trivial⟩, trivial, rfl⟩
    · exact ⟨Nat.zero_le _, by simp⟩
    · rintro i ⟨hi, hs⟩
      refine V ?_
      by_cases hlt : i < a.length
      · have hlt' : i < b.length := by omega
        refine p1 ?_ (decide_eq_true (by simp only [List.length_map]; omega))
        refine ⟨by kernel_rfl, ?_⟩
        refine ix (h := ?_)
        refine ix (h := ?_)
        by_cases he : a[i] = b[i]
        · refine p2 ?_ (by rw [ba_eq, decide_eq_true he]; rfl)
          refine ⟨i + 1, id, ⟨⟨rfl, rfl, succ_gi (by omega), trivial⟩, trivial, rfl⟩, ⟨hlt, ?_⟩, by show a.length - (i + 1) < a.length - i; omega⟩
          rw [List.take_add_one, List.take_add_one, hs, List.getElem?_eq_getElem hlt, List.getElem?_eq_getElem hlt', he]
        · refine p1 ?_ (by rw [ba_eq, decide_eq_false he]; rfl)
          refine ⟨?_, rfl⟩
          exact (decide_eq_false fun e => he (by subst e; rfl)).symm
      · refine p2 ?_ (decide_eq_false (by simp only [List.length_map]; omega))
        refine ⟨(), id, ⟨trivial, trivial, rfl⟩, ?_⟩
        rw [List.take_of_length_le (by omega), List.take_of_length_le (by omega)] at hs
        exact hs
    · rintro _ he
      refine V ?_
      exact ⟨(decide_eq_true he).symm, rfl⟩
  · refine p1 ?_ (by simp; exact fun h => hlen (by omega))
    exact ⟨(decide_eq_false fun e => hlen (by rw [e])).symm, rfl⟩
theorem pick_rq (x y : Int) (h : 0 < y) (h' : y < 1000000) : Rq pg 15 [gi x, gi y] (fun g => ∃ k : Nat, (k : Int) < y ∧ g = gi k) := by
  refine Rq.of pg_ok Tryd.func15 rfl Tryd.ntmps15 rfl Tryd.results15 Tryd.call15 fun H0 S0 w0 h0 g0 => ?_
  have e : IntKind.u64.wrap y = y := by rw [IntKind.wrap_u64]; omega
  have e0 : 0 ≤ IntKind.u64.wrap x := by rw [IntKind.wrap_u64]; omega
  refine ⟨by rw [e]; omega, ?_⟩
  have e1 : (IntKind.u64.wrap x).tmod (IntKind.u64.wrap y) = IntKind.u64.wrap x % y := by rw [e, Int.tmod_eq_emod_of_nonneg e0]
  have e2 : 0 ≤ IntKind.u64.wrap x % y := Int.emod_nonneg _ (by omega)
  have e3 : IntKind.u64.wrap x % y < y := Int.emod_lt_of_pos _ (by omega)
  refine ⟨⟨(IntKind.u64.wrap x % y).toNat, by omega, ?_⟩, rfl⟩
  show gi (IntKind.i64.wrap ((IntKind.u64.wrap x).tmod (IntKind.u64.wrap y))) = _
  rw [e1, wrap_id (by omega) (by omega), Int.toNat_of_nonneg e2]
theorem tell_rt (x : Option Int) : Rt pg 16 [erG x] (gi (erN x)) := Rq.old Tryd.call16 (tell_ct x)
theorem noted_rt : Rt pg 13 [] (.b true) := by
  refine Rt.of pg_ok Tryd.func13 rfl Tryd.ntmps13 rfl Tryd.results13 Tryd.call13 fun H0 S0 w0 h0 g0 => ?_
  refine PCK0 0 rfl rfl fun fp0 => ?_
  have hok0 : dk0.ok 1000000 := dk0_ok _
  refine GOH (open_hf dk0 fp0 1000000 hok0 [] ByteArray.empty (by simp [PL.cont, fnd, pfind, dk0, frs]) torn_empty (by simp) (by show 1000000 + 0 ≤ _; omega) (by decide) (fun h => absurd rfl h)) id rfl rfl ⟨rfl, trivial⟩ rfl (id_lt rfl) ?_
  rintro _ _ _ ⟨rfl, ⟨fp1, rfl⟩, rfl⟩
  repeat (first | refine p1 ?_ | refine p2 ?_ | refine p3 ?_ | refine p4 ?_)
  have hadd := add_hf dk0 fp1 1000000 hok0 (by omega) sX false
  have hok1 := addF_ok (s := sX) (down := false) hok0
  have hA := add_on hok0 rfl sX (by decide)
  have hW := add_cut hok0 (now := []) (.inr ⟨rfl, rfl⟩) sX (by decide)
  generalize addF sX false dk0 = A at hadd hok1 hA hW
  obtain ⟨e1, dn, d1⟩ := A
  obtain ⟨hA1, hA2, hon, _⟩ := hA
  simp only [] at hA1 hA2 hok1
  subst hA1 hA2
  have hw1 : WK d1 [sX] := by
    rcases hW with ⟨_, _, h⟩ | ⟨h, _⟩
    · exact h
    · cases h
  refine GOH hadd id rfl rfl ⟨rfl, rfl, trivial⟩ rfl (id_lt rfl) ?_
  rintro _ _ _ ⟨rfl, ⟨fp2, rfl⟩, rfl⟩
  repeat (first | refine p1 ?_ | refine p2 ?_ | refine p3 ?_ | refine p4 ?_)
  refine GOH (start_hf d1 fp2 _ hok1 (by decide) 0) id rfl rfl ⟨rfl, trivial⟩ rfl (id_lt rfl) ?_
  rintro _ _ _ ⟨rfl, ⟨fp3, rfl⟩, rfl⟩
  obtain ⟨L, p, rfl, htorn, haf⟩ := Af.of hok1 hw1 0
  obtain ⟨o1, o2, o3, _, _, _⟩ := open_wk (startF_ok hok1) rfl haf
  refine GOH (open_hf (startF 0 d1) fp3 _ (startF_ok hok1) [sX] p o1 htorn (by intro x hx; rw [List.mem_singleton.1 hx]; decide) (by decide) o2 o3) id rfl rfl ⟨rfl, trivial⟩ rfl (id_lt rfl) ?_
  rintro _ _ _ ⟨rfl, ⟨fp4, rfl⟩, rfl⟩
  repeat (first | refine p1 ?_ | refine p2 ?_ | refine p3 ?_ | refine p4 ?_)
  refine GOB ((sameTextsK_rt [sX] [sX] (by decide)).bt (d := true) (decide_eq_true rfl)) rfl ⟨⟨rfl, rfl⟩, ⟨rfl, rfl⟩, trivial⟩ ?_
  exact ⟨rfl, rfl⟩
abbrev kn (x : Int × ByteArray × List ByteArray) : List GV := [gi x.1, gs x.2.1, ts x.2.2]
abbrev is (l : List Int) : GV := .sl 1 (l.map fun x => [gi x])
section
variable {N n0 : Nat} {H0 : Hid} {S0 : List Nat} {w0 : World} {h0 : H0.n = n0} {g0 : GlOk pg H0} {T : Post} {k : List It} {s : St}
/-- So many steps. -/
theorem VN (n : Nat) (h : vc ⟨pg, N, n0, H0, S0, w0, h0, g0⟩ T n k s) : JK ⟨pg, N, n0, H0, S0, w0, h0, g0⟩ T k s := vc_sound pg_ok n k s h
end
/-- What is known ahead of a round. -/
structure KSt (B : Nat) (d : Dk) (now : List ByteArray) : Prop where
  ok : d.ok B
  on : d.cut = false
  wk : WK d now
  sz : ∀ x ∈ now, x.size ≤ 60000
theorem KSt.mono {B B' : Nat} {d : Dk} {now : List ByteArray} (h : KSt B d now) (hb : B ≤ B') : KSt B' d now := ⟨h.ok.mono hb, h.on, h.wk, h.sz⟩
theorem KSt.len {B : Nat} {d : Dk} {now : List ByteArray} (h : KSt B d now) : (frs now).size ≤ B ∧ 2 * now.length ≤ B := by
  have h1 := cont_le h.ok
  rw [h.wk.cont] at h1
  exact ⟨h1, Nat.le_trans (frs_len now) h1⟩
def sZ : ByteArray := ⟨#[122]⟩
theorem cutF_ok {n : Int} {B : Nat} {d : Dk} (h : d.ok B) (hn : n ≤ 9223372036854775807) : (cutF n d).ok B :=
  ⟨h.keys, h.nd, h.sz, h.nl, by show 0 ≤ (if 0 > n then 0 else n); split <;> omega, by show (if 0 > n then 0 else n) ≤ _; split <;> omega⟩
theorem walKeeps_rt (l : List (Int × ByteArray × List ByteArray)) (cuts : List Int) : Rt pg 4 [.sl 3 (l.map kn), is cuts] (.b true) := by
  refine Rt.of pg_ok Tryd.func4 rfl Tryd.ntmps4 rfl Tryd.results4 Tryd.call4 fun H0 S0 w0 h0 g0 => ?_
  by_cases hlen : l.length > 30
  · refine ⟨fun hc => absurd hc (by simp; omega), fun _ => ?_⟩
    exact ⟨rfl, rfl⟩
  · refine ⟨fun _ => ?_, fun hc => absurd hc (by simp; omega)⟩
    by_cases hcl : cuts.length > 30
    · refine p1 ?_ (decide_eq_true (by simp only [List.length_map]; omega))
      exact ⟨rfl, rfl⟩
    · refine p2 ?_ (decide_eq_false (by simp only [List.length_map]; omega))
      refine GO (noted_rt.bt (d := true) rfl) rfl ?_
      refine PCK0 0 rfl rfl fun fp0 => ?_
      refine GOH (open_hf dk0 fp0 1000000 (dk0_ok _) [] ByteArray.empty (by simp [PL.cont, fnd, pfind, dk0, frs]) torn_empty (by simp) (by show 1000000 + 0 ≤ _; omega) (by decide) (fun h => absurd rfl h)) id rfl rfl ⟨rfl, trivial⟩ rfl (id_lt rfl) ?_
      rintro _ _ _ ⟨rfl, ⟨fp1, rfl⟩, rfl⟩
      repeat (first | refine p1 ?_ | refine p2 ?_ | refine p3 ?_ | refine p4 ?_)
      refine JK.roNil 9 1 rfl ?_
      refine JK.loopE (α := Nat × Dk × List Nat × List ByteArray) (β := Unit)
        (fun a => ⟨[(0, .sl 3 (l.map kn)), (1, is cuts), (5, .p 0 0), (6, .p 1 0), (9, ts a.2.2.2), (10, gi a.1)], [(0, .ab (dk a.2.1 a.2.2.1)), wl 1 0 false], 2⟩)
        (fun a => a.1 ≤ l.length ∧ KSt (1000000 * (a.1 + 1)) a.2.1 a.2.2.2) (fun a => l.length - a.1)
        (fun _ => ⟨[], [], 0⟩) (fun _ => True) (0, dk0, fp1, []) id ?_ ?_ ?_ ?_
      · exact ⟨⟨rfl, rfl, rfl, rfl, rfl, rfl, trivial⟩, ⟨rfl, rfl, trivial⟩, rfl⟩
      · exact ⟨Nat.zero_le _, dk0_ok _, rfl, .inr ⟨rfl, rfl⟩, by simp⟩
      · rintro ⟨i, d, fp, now⟩ ⟨hi, hst⟩
        replace hi : i ≤ l.length := hi
        replace hst : KSt (1000000 * (i + 1)) d now := hst
        refine V ?_
        by_cases hlt : i < l.length
        · refine p1 ?_ (decide_eq_true (by simp only [List.length_map]; omega))
          refine ix (h := ?_)
          generalize l[i] = x
          obtain ⟨what, S, L⟩ := x
          by_cases hS : S.size > 300
          · refine ⟨fun hc => absurd hc (by simp; omega), fun _ => ?_⟩
            exact ⟨rfl, rfl⟩
          refine ⟨fun _ => ?_, fun hc => absurd hc (by simp; omega)⟩
          by_cases hL : L.length > 10
          · refine p1 ?_ (decide_eq_true (by simp only [List.length_map]; omega))
            exact ⟨rfl, rfl⟩
          refine p2 ?_ (decide_eq_false (by simp only [List.length_map]; omega))
          have hln := hst.len
          refine JK.drawJ [] ⟨[(0, .sl 3 (l.map kn)), (1, is cuts), (5, .p 0 0), (6, .p 1 0), (9, ts now), (10, gi i), (11, .p 2 0), (12, .o 3)], [(0, .ab (dk d fp)), wl 1 0 false, (2, .blk 47 [gi what, gs S, ts L]), (3, .row 9 1 ((now ++ [S]).map fun x => [gs x]))], 4⟩ pg_ok ?_ (fun hk => ?_)
          · refine JK.freeze 3 rfl ?_
            refine VN 1 ?_
            refine JK.cut (α := List ByteArray) (fun th => ⟨[(0, .sl 3 (l.map kn)), (1, is cuts), (5, .p 0 0), (6, .p 1 0), (9, ts now), (10, gi i), (11, .p 2 0), (12, ts th)], [(0, .ab (dk d fp)), wl 1 0 false, (2, .blk 47 [gi what, gs S, ts L])], 4⟩) (fun th => th = (if what = 1 then L else now ++ [S]) ∧ (what = 1 → ∀ x ∈ L, x.size ≤ 300)) ?_ ?_
            · refine V ?_
              by_cases hw : what = 1
              · refine p1 ?_ (by simp [hw])
                refine JK.loopE (α := Nat) (β := Unit) (fun j => ⟨[(0, .sl 3 (l.map kn)), (1, is cuts), (5, .p 0 0), (6, .p 1 0), (9, ts now), (10, gi i), (11, .p 2 0), (12, ts L), (13, gi j)], [(0, .ab (dk d fp)), wl 1 0 false, (2, .blk 47 [gi what, gs S, ts L])], 4⟩) (fun j => j ≤ L.length ∧ ∀ x ∈ L.take j, x.size ≤ 300) (fun j => L.length - j)
                  (fun _ => ⟨[(0, .sl 3 (l.map kn)), (1, is cuts), (5, .p 0 0), (6, .p 1 0), (9, ts now), (10, gi i), (11, .p 2 0), (12, ts L)], [(0, .ab (dk d fp)), wl 1 0 false, (2, .blk 47 [gi what, gs S, ts L])], 4⟩) (fun _ => ∀ x ∈ L, x.size ≤ 300) 0 id ?_ ?_ ?_ ?_
                · exact ⟨⟨rfl, rfl, rfl, rfl, rfl, rfl, rfl, rfl, rfl, trivial⟩, ⟨rfl, rfl, rfl, trivial⟩, rfl⟩
                · exact ⟨Nat.zero_le _, by simp⟩
                · rintro j ⟨hj, h300⟩
                  refine V ?_
                  by_cases hjl : j < L.length
                  · refine p1 ?_ (decide_eq_true (by simp only [List.length_map]; omega))
                    refine ix (h := ?_)
                    by_cases hs3 : L[j].size > 300
                    · refine p1 ?_ (decide_eq_true (by omega))
                      exact ⟨rfl, rfl⟩
                    · refine p2 ?_ (decide_eq_false (by omega))
                      refine ⟨j + 1, id, ⟨⟨rfl, rfl, rfl, rfl, rfl, rfl, rfl, rfl, succ_gi (by omega), trivial⟩, ⟨rfl, rfl, rfl, trivial⟩, rfl⟩, ⟨hjl, fun x hx => ?_⟩, by show L.length - (j + 1) < L.length - j; omega⟩
                      rw [List.take_add_one, List.getElem?_eq_getElem hjl] at hx
                      rcases List.mem_append.1 hx with hx | hx
                      · exact h300 x hx
                      · rw [List.mem_singleton.1 hx]; omega
                  · refine p2 ?_ (decide_eq_false (by simp only [List.length_map]; omega))
                    rw [List.take_of_length_le (by omega)] at h300
                    exact ⟨(), id, ⟨⟨rfl, rfl, rfl, rfl, rfl, rfl, rfl, rfl, trivial⟩, ⟨rfl, rfl, rfl, trivial⟩, rfl⟩, h300⟩
                · rintro _ h300
                  refine V ?_
                  exact ⟨L, id, ⟨⟨rfl, rfl, rfl, rfl, rfl, rfl, rfl, rfl, trivial⟩, ⟨rfl, rfl, rfl, trivial⟩, rfl⟩, (if_pos hw).symm, fun _ => h300⟩
              · refine p2 ?_ (by simp [hw])
                exact ⟨now ++ [S], id, ⟨⟨rfl, rfl, rfl, rfl, rfl, rfl, rfl, rfl, trivial⟩, ⟨rfl, rfl, rfl, trivial⟩, rfl⟩, (if_neg hw).symm, fun h => absurd h hw⟩
            · rintro th ⟨hth, h300⟩
              have hthz : ∀ x ∈ th, x.size ≤ 60000 := fun x hx => by
                rw [hth] at hx
                by_cases hw : what = 1
                · rw [if_pos hw] at hx
                  have := h300 hw x hx
                  omega
                · rw [if_neg hw] at hx
                  rcases List.mem_append.1 hx with hx | hx
                  · exact hst.sz x hx
                  · rw [List.mem_singleton.1 hx]; omega
              refine VN 5 ?_
              refine JK.cut (α := Dk × List Nat × Int) (fun a => ⟨[(0, .sl 3 (l.map kn)), (1, is cuts), (5, .p 0 0), (6, .p 1 0), (9, ts now), (10, gi i), (11, .p 2 0), (12, ts th), (14, gi a.2.2)], [(0, .ab (dk a.1 a.2.1)), wl 1 0 false, (2, .blk 47 [gi what, gs S, ts L])], 4⟩) (fun a => a.1.ok (1000000 * (i + 1)) ∧ WK a.1 now) ?_ ?_
              · refine V ?_
                by_cases hc0 : cuts.length = 0
                · refine p2 ?_ (decide_eq_false (by simp only [List.length_map]; omega))
                  exact ⟨(d, fp, 0), id, ⟨⟨rfl, rfl, rfl, rfl, rfl, rfl, rfl, rfl, rfl, trivial⟩, ⟨rfl, rfl, rfl, trivial⟩, rfl⟩, hst.ok, hst.wk⟩
                · refine p1 ?_ (decide_eq_true (by simp only [List.length_map]; omega))
                  refine ⟨by simp only [List.length_map, ne_eq]; omega, ?_⟩
                  refine idx (i % cuts.length) (by simp only [List.length_map]; rfl) (Nat.mod_lt _ (by omega)) ?_
                  generalize cuts[i % cuts.length]'_ = c
                  refine GOQ (pick_rq c 9 (by omega) (by omega)) rfl ?_
                  rintro _ ⟨k1, hk1, rfl⟩
                  have hcok : (cutF (IntKind.i64.wrap ((k1 : Int) - 3)) d).ok (1000000 * (i + 1)) := cutF_ok hst.ok (by rw [wrap_id (by omega) (by omega)]; omega)
                  refine GOH (cut_hf d fp (IntKind.i64.wrap ((k1 : Int) - 3))) id rfl rfl ⟨rfl, trivial⟩ rfl (id_lt rfl) ?_
                  rintro _ _ _ ⟨rfl, ⟨fp2, rfl⟩, rfl⟩
                  refine ⟨by simp only [List.length_map, ne_eq]; omega, ?_⟩
                  refine idx (i % cuts.length) (by simp only [List.length_map]; rfl) (Nat.mod_lt _ (by omega)) ?_
                  generalize cuts[i % cuts.length]'_ = c
                  refine ⟨by decide, ?_⟩
                  refine GOQ (pick_rq _ 60 (by omega) (by omega)) rfl ?_
                  rintro _ ⟨k2, hk2, rfl⟩
                  exact ⟨(cutF (IntKind.i64.wrap ((k1 : Int) - 3)) d, fp2, k2), id, ⟨⟨rfl, rfl, rfl, rfl, rfl, rfl, rfl, rfl, rfl, trivial⟩, ⟨rfl, rfl, rfl, trivial⟩, rfl⟩, hcok, hst.wk⟩
              · rintro ⟨d2, fp2, keeps⟩ ⟨hok2, hwk2⟩
                replace hok2 : d2.ok (1000000 * (i + 1)) := hok2
                replace hwk2 : WK d2 now := hwk2
                refine VN 1 ?_
                refine JK.cut (α := Option Int × Bool × Dk × List Nat) (fun a => ⟨[(0, .sl 3 (l.map kn)), (1, is cuts), (5, .p 0 0), (6, .p 1 0), (9, ts now), (10, gi i), (12, ts th), (14, gi keeps), (8, erG a.1)], [(0, .ab (dk a.2.2.1 a.2.2.2)), wl 1 0 a.2.1], 4⟩)
                  (fun a => a.2.2.1.ok (1000000 * (i + 1) + 302) ∧ ((a.1 = none ∧ a.2.1 = false ∧ WK a.2.2.1 th) ∨ (a.1 = some 14 ∧ a.2.1 = true ∧ ∀ keeps, Af (startF keeps a.2.2.1) (fun L => L = now ∨ L = th)))) ?_ ?_
                · refine V ?_
                  by_cases hw : what = 1
                  · refine p1 ?_ (by simp [hw])
                    obtain rfl : th = L := hth.trans (if_pos hw)
                    have hlo : longs th = false := List.any_eq_false.2 fun x hx => by
                      have := h300 hw x hx
                      simp only [decide_eq_true_eq]
                      omega
                    have hfs := frsum th (fun x hx => by have := hthz x hx; omega)
                    have hset := setAll_hf d2 fp2 _ hok2 th (by omega) (by omega) false
                    have hA : setAllF th false d2 = ((setF th d2).1, (setF th d2).1.isSome, (setF th d2).2) := by unfold setAllF; rw [if_neg (by rw [hlo]; decide), if_neg (by decide)]
                    obtain ⟨c1, c2, _⟩ := set_cut hok2 th (by omega)
                    rw [hA] at hset
                    generalize setF th d2 = A at hset c1 c2
                    obtain ⟨e1, d3⟩ := A
                    refine GOH hset id rfl rfl ⟨rfl, rfl, trivial⟩ rfl (id_lt rfl) ?_
                    rintro _ _ _ ⟨rfl, ⟨fp3, rfl⟩, rfl⟩
                    rcases c2 with ⟨he, hwk3⟩ | ⟨he, hsame⟩
                    · simp only [] at he
                      subst he
                      exact ⟨(none, false, d3, fp3), id, ⟨⟨rfl, rfl, rfl, rfl, rfl, rfl, rfl, rfl, rfl, trivial⟩, ⟨rfl, rfl, trivial⟩, rfl⟩, c1.mono (by omega), .inl ⟨rfl, rfl, hwk3⟩⟩
                    · simp only [] at he
                      subst he
                      have hwk3 : WK d3 now := by unfold WK; rw [show fnd nN d3 = fnd nN d2 from hsame]; exact hwk2
                      refine ⟨(some 14, true, d3, fp3), id, ⟨⟨rfl, rfl, rfl, rfl, rfl, rfl, rfl, rfl, rfl, trivial⟩, ⟨rfl, rfl, trivial⟩, rfl⟩, c1.mono (by omega), .inr ⟨rfl, rfl, fun keeps => ?_⟩⟩
                      obtain ⟨L', p, h1, h2⟩ := Af.of c1 hwk3 keeps
                      exact ⟨L', p, .inl h1, h2⟩
                  · refine p2 ?_ (by simp [hw])
                    obtain rfl : th = now ++ [S] := hth.trans (if_neg hw)
                    have hadd := add_hf d2 fp2 _ hok2 (by omega) S false
                    have hok3 := addF_ok (s := S) (down := false) hok2
                    have hA := add_cut hok2 hwk2 S (by omega)
                    generalize addF S false d2 = A at hadd hok3 hA
                    obtain ⟨e1, dn, d3⟩ := A
                    refine GOH hadd id rfl rfl ⟨rfl, rfl, trivial⟩ rfl (id_lt rfl) ?_
                    rintro _ _ _ ⟨rfl, ⟨fp3, rfl⟩, rfl⟩
                    rcases hA with ⟨he, hd, hwk3⟩ | ⟨he, hd, hwa⟩
                    · simp only [] at he hd
                      subst he hd
                      exact ⟨(none, false, d3, fp3), id, ⟨⟨rfl, rfl, rfl, rfl, rfl, rfl, rfl, rfl, rfl, trivial⟩, ⟨rfl, rfl, trivial⟩, rfl⟩, hok3.mono (by omega), .inl ⟨rfl, rfl, hwk3⟩⟩
                    · simp only [] at he hd
                      subst he hd
                      exact ⟨(some 14, true, d3, fp3), id, ⟨⟨rfl, rfl, rfl, rfl, rfl, rfl, rfl, rfl, rfl, trivial⟩, ⟨rfl, rfl, trivial⟩, rfl⟩, hok3.mono (by omega), .inr ⟨rfl, rfl, fun keeps => Af.add hok3 (by omega) hwa keeps⟩⟩
                · rintro ⟨e, down, d3, fp3⟩ ⟨hok3, hpost⟩
                  replace hok3 : d3.ok (1000000 * (i + 1) + 302) := hok3
                  rcases hpost with ⟨he, hd, hwk⟩ | ⟨he, hd, hafs⟩
                  · simp only [] at he hd hwk
                    subst he hd
                    refine V ?_
                    refine GO (tell_rt none) rfl ?_
                    repeat (first | refine p1 ?_ | refine p2 ?_ | refine p3 ?_ | refine p4 ?_)
                    refine GOH (down_hf d3 fp3 false) id rfl rfl ⟨rfl, rfl, trivial⟩ rfl (id_lt rfl) ?_
                    rintro _ _ _ ⟨rfl, ⟨fp4, rfl⟩, rfl⟩
                    repeat (first | refine p1 ?_ | refine p2 ?_ | refine p3 ?_ | refine p4 ?_)
                    refine GOH (start_hf d3 fp4 _ hok3 (by omega) keeps) id rfl rfl ⟨rfl, trivial⟩ rfl (id_lt rfl) ?_
                    rintro _ _ _ ⟨rfl, ⟨fp5, rfl⟩, rfl⟩
                    obtain ⟨L', p, hL', htorn, haf⟩ := Af.of hok3 hwk keeps
                    have hsz' : ∀ x ∈ L', x.size ≤ 60000 := fun x hx => hthz x (by rw [← hL']; exact hx)
                    obtain ⟨o1, o2, o3, o4, o5, o6⟩ := open_wk (startF_ok hok3) rfl haf
                    have o7 : (frs L').size ≤ 1000000 * (i + 1) + 302 := by rw [ByteArray.size_append] at o2; omega
                    have o8 := frs_len L'
                    refine GOH (open_hf (startF keeps d3) fp5 _ (startF_ok hok3) L' p o1 htorn hsz' (by omega) o2 o3) id rfl rfl ⟨rfl, trivial⟩ rfl (id_lt rfl) ?_
                    rintro _ _ _ ⟨rfl, ⟨fp6, rfl⟩, rfl⟩
                    repeat (first | refine p1 ?_ | refine p2 ?_ | refine p3 ?_ | refine p4 ?_)
                    subst hL'
                    refine GOB ((sameTextsK_rt L' L' (by omega)).bt (d := true) (decide_eq_true rfl)) rfl ⟨⟨rfl, rfl⟩, ⟨rfl, rfl⟩, trivial⟩ ?_
                    repeat (first | refine p1 ?_ | refine p2 ?_ | refine p3 ?_ | refine p4 ?_)
                    exact ⟨(i + 1, openF L' p (startF keeps d3), fp6, L'), fun q => bif Nat.beq q 1 then 4 else q, ⟨⟨rfl, rfl, rfl, rfl, rfl, succ_gi (by omega), trivial⟩, ⟨rfl, rfl, trivial⟩, rfl⟩, ⟨hlt, o4.mono (by show _ ≤ 1000000 * (i + 1 + 1); omega), o5, o6, hsz'⟩, by show l.length - (i + 1) < l.length - i; omega⟩
                  · simp only [] at he hd hafs
                    subst he hd
                    refine V ?_
                    refine GO (tell_rt (some 14)) rfl ?_
                    repeat (first | refine p1 ?_ | refine p2 ?_ | refine p3 ?_ | refine p4 ?_)
                    refine GOH (down_hf d3 fp3 true) id rfl rfl ⟨rfl, rfl, trivial⟩ rfl (id_lt rfl) ?_
                    rintro _ _ _ ⟨rfl, ⟨fp4, rfl⟩, rfl⟩
                    repeat (first | refine p1 ?_ | refine p2 ?_ | refine p3 ?_ | refine p4 ?_)
                    have hadd := add_hf d3 fp4 _ hok3 (by omega) sZ true
                    have hA : addF sZ true d3 = (some 6, true, d3) := by unfold addF; rw [if_neg (by decide), if_pos rfl]
                    rw [hA] at hadd
                    refine GOH hadd id rfl rfl ⟨rfl, rfl, trivial⟩ rfl (id_lt rfl) ?_
                    rintro _ _ _ ⟨rfl, ⟨fp4, rfl⟩, rfl⟩
                    refine GO (tell_rt (some 6)) rfl ?_
                    repeat (first | refine p1 ?_ | refine p2 ?_ | refine p3 ?_ | refine p4 ?_)
                    refine GOH (start_hf d3 fp4 _ hok3 (by omega) keeps) id rfl rfl ⟨rfl, trivial⟩ rfl (id_lt rfl) ?_
                    rintro _ _ _ ⟨rfl, ⟨fp5, rfl⟩, rfl⟩
                    obtain ⟨L', p, hL', htorn, haf⟩ := hafs keeps
                    have hsz' : ∀ x ∈ L', x.size ≤ 60000 := fun x hx => by
                      rcases hL' with e | e
                      · exact hst.sz x (by rw [← e]; exact hx)
                      · exact hthz x (by rw [← e]; exact hx)
                    obtain ⟨o1, o2, o3, o4, o5, o6⟩ := open_wk (startF_ok hok3) rfl haf
                    have o7 : (frs L').size ≤ 1000000 * (i + 1) + 302 := by rw [ByteArray.size_append] at o2; omega
                    have o8 := frs_len L'
                    refine GOH (open_hf (startF keeps d3) fp5 _ (startF_ok hok3) L' p o1 htorn hsz' (by omega) o2 o3) id rfl rfl ⟨rfl, trivial⟩ rfl (id_lt rfl) ?_
                    rintro _ _ _ ⟨rfl, ⟨fp6, rfl⟩, rfl⟩
                    repeat (first | refine p1 ?_ | refine p2 ?_ | refine p3 ?_ | refine p4 ?_)
                    by_cases het : L' = th
                    · refine GOB ((sameTextsK_rt L' th (by omega)).bt (d := true) (decide_eq_true het)) rfl ⟨⟨rfl, rfl⟩, ⟨rfl, rfl⟩, trivial⟩ ?_
                      repeat (first | refine p1 ?_ | refine p2 ?_ | refine p3 ?_ | refine p4 ?_)
                      exact ⟨(i + 1, openF L' p (startF keeps d3), fp6, L'), fun q => bif Nat.beq q 1 then 4 else q, ⟨⟨rfl, rfl, rfl, rfl, rfl, succ_gi (by omega), trivial⟩, ⟨rfl, rfl, trivial⟩, rfl⟩, ⟨hlt, o4.mono (by show _ ≤ 1000000 * (i + 1 + 1); omega), o5, o6, hsz'⟩, by show l.length - (i + 1) < l.length - i; omega⟩
                    · have hen : L' = now := by
                        rcases hL' with e | e
                        · exact e
                        · exact absurd e het
                      refine GOB ((sameTextsK_rt L' th (by omega)).bt (d := false) (decide_eq_false het)) rfl ⟨⟨rfl, rfl⟩, ⟨rfl, rfl⟩, trivial⟩ ?_
                      repeat (first | refine p1 ?_ | refine p2 ?_ | refine p3 ?_ | refine p4 ?_)
                      refine GOB ((sameTextsK_rt L' now (by omega)).bt (d := true) (decide_eq_true hen)) rfl ⟨⟨rfl, rfl⟩, ⟨rfl, rfl⟩, trivial⟩ ?_
                      repeat (first | refine p1 ?_ | refine p2 ?_ | refine p3 ?_ | refine p4 ?_)
                      exact ⟨(i + 1, openF L' p (startF keeps d3), fp6, L'), fun q => bif Nat.beq q 1 then 4 else q, ⟨⟨rfl, rfl, rfl, rfl, rfl, succ_gi (by omega), trivial⟩, ⟨rfl, rfl, trivial⟩, rfl⟩, ⟨hlt, o4.mono (by show _ ≤ 1000000 * (i + 1 + 1); omega), o5, o6, hsz'⟩, by show l.length - (i + 1) < l.length - i; omega⟩
          · have hrow : ([] ++ now.map fun x => [gs x]) ++ [[gs S]] = (now ++ [S]).map fun x => [gs x] := by rw [List.map_append]; rfl
            refine RA.run (cx := ⟨pg, _, _, _, _, _, _, _⟩) pg_ok (by kernel_rfl) (by intro _ _ h; exact h) (tk [1, 3, 4]) (e := false) (by kernel_rfl) ?_
            refine RA.both 0 5 (eqB_eq (by kernel_rfl)) (Stp.mem 0 pg_ok rfl rfl rfl ?_) (Stp.mem 5 pg_ok rfl rfl rfl ?_)
            · refine RA.both 2 5 (eqB_eq (by kernel_rfl)) (Stp.mem 2 pg_ok rfl rfl rfl ?_) (Stp.mem 5 pg_ok rfl rfl rfl ?_)
              · refine ⟨by simp only [List.length_map, List.length_nil]; omega, ?_⟩
                refine RA.run (cx := ⟨pg, _, _, _, _, _, _, _⟩) pg_ok (by kernel_rfl) (by intro _ _ h; exact h) (al [5, 6] ++ tk [7]) (e := false) (by kernel_rfl) ?_
                refine ⟨by simp only [List.length_append, List.length_map, List.length_cons, List.length_nil]; omega, ?_⟩
                exact RA.endJ (fun q => bif Nat.beq q 3 then 6 else q) (by kernel_rfl) hk ⟨⟨rfl, rfl, rfl, rfl, rfl, rfl, rfl, rfl, trivial⟩, ⟨rfl, rfl, rfl, congrArg (fun x => some (Res.row 9 1 x)) hrow, trivial⟩, rfl⟩
              · refine RA.run (cx := ⟨pg, _, _, _, _, _, _, _⟩) pg_ok (by kernel_rfl) (by intro _ _ h; exact h) (al [2, 6] ++ tk [7]) (e := false) (by kernel_rfl) ?_
                refine ⟨by simp only [List.length_map, List.length_nil]; omega, ?_⟩
                refine ⟨by simp only [List.length_append, List.length_map, List.length_cons, List.length_nil]; omega, ?_⟩
                exact RA.endJ (fun q => bif Nat.beq q 3 then 6 else q) (by kernel_rfl) hk ⟨⟨rfl, rfl, rfl, rfl, rfl, rfl, rfl, rfl, trivial⟩, ⟨rfl, rfl, rfl, congrArg (fun x => some (Res.row 9 1 x)) hrow, trivial⟩, rfl⟩
            · refine RA.run (cx := ⟨pg, _, _, _, _, _, _, _⟩) pg_ok (by kernel_rfl) (by intro _ _ h; exact h) (al [0, 2, 6] ++ tk [7]) (e := false) (by kernel_rfl) ?_
              refine ⟨by simp only [List.length_map, List.length_nil]; omega, ?_⟩
              refine ⟨by simp only [List.length_append, List.length_map, List.length_cons, List.length_nil]; omega, ?_⟩
              exact RA.endJ (fun q => bif Nat.beq q 3 then 6 else q) (by kernel_rfl) hk ⟨⟨rfl, rfl, rfl, rfl, rfl, rfl, rfl, rfl, trivial⟩, ⟨rfl, rfl, rfl, congrArg (fun x => some (Res.row 9 1 x)) hrow, trivial⟩, rfl⟩
        · refine p2 ?_ (decide_eq_false (by simp only [List.length_map]; omega))
          exact ⟨(), id, ⟨trivial, trivial, rfl⟩, trivial⟩
      · rintro _ _
        refine V ?_
        exact ⟨rfl, rfl⟩
end Go.Proofs.YtbapgglhpbbonaaDoor
