/-
  Contracts: the document's series parted by what holds.
-/
import Derived.Test.YtaahmenpcpjbhaaGreatDoorK07
import Derived.Test.YtaahmenpcpjbhaaGreatDoorK09
import Derived.Test.YtaahmenpcpjbhaaGreatDoorK08
import Derived.Test.YtaahmenpcpjbhaaGreatDoorK10
import Derived.Test.YtaahmenpcpjbhaaGreatDoorK12
import Derived.Test.YtaahmenpcpjbhaaGreatDoorK06
import Derived.Test.YtaahmenpcpjbhaaGreatDoorK05
import Derived.WalkKit
import Derived.LaidEql
import Derived.Stop.Asserts
import Derived.RowKitTokens
import Derived.Test.YtaahmenpcpjbhaaGreatDoorK11
import Derived.Test.YtaahmenpcpjbhaaGreatDoorRows
import Derived.ProofKit
import Derived.LaidMore
import Derived.LaidHandle
import Derived.LaidSub
import Derived.Lay
import Derived.ChangeSame
import Derived.OpenShut
import Derived.Stop.Joined
namespace Go.Proofs.YtaahmenpcpjbhaaGreatDoor
open Go.GK Go.PL Go.RowKit
set_option maxRecDepth 100000
theorem part_step {α : Type} (p : α → Bool) (l : List α) (j : Nat) (h : j < l.length) : (l.take (j + 1)).filter p = (l.take j).filter p ++ if p l[j] = true then [l[j]] else [] := by
  rw [List.take_succ_eq_append_getElem h, List.filter_append, List.filter_cons]
  rfl
theorem part_rt (l : List Ser) (f : FuncId) (caps : List GV) (hcaps : idbL 0 caps = true) (h : Hit) (hf : ∀ x ∈ l, ∀ t, Rt pg f (lbs x.labels :: gi t :: caps) (.b (h x.labels t))) (hl : l.length ≤ 1000000) (hs : ∀ x ∈ l, x.samples.length ≤ 1000000) :
    Rt pg 11 [ses l, .fn (.func f) [] caps] (.tup [ses (withoutF (fun ls t => !h ls t) l), ses (withoutF h l)]) := by
  have hr : ∀ r : Nat → Nat, renL r caps = caps := fun r => renL_none r caps hcaps
  have hfz : ∀ id cs0, fzbL id cs0 caps = caps := fun id cs0 => fzbL_none id cs0 caps hcaps
  have hfr : ∀ id sz rows, frzL id sz rows caps = caps := fun id sz rows => frzL_none id sz rows caps hcaps
  have hcapU := fun n => idbL_up n caps hcaps
  have hll : (l.map se).length = l.length := by simp
  refine Rt.of pg_ok Tryz.func11 rfl Tryz.ntmps11 rfl Tryz.results11 Tryz.call11 fun H0 S0 w0 h0 g0 => ?_
  refine JK.ownNil 4 37 2 rfl ?_
  refine JK.ownNil 5 37 2 rfl ?_
  refine JK.loopE (α := Nat) (β := Unit) (fun i => ⟨[(1, .fn (.func f) [] caps), (4, .o 0), (5, .o 1), (12, ses l), (13, gi (l.map se).length), (14, gi i)], [(0, .row 37 2 ((withoutF (fun ls t => !h ls t) (l.take i)).map se)), (1, .row 37 2 ((withoutF h (l.take i)).map se))], 2⟩) (fun i => i ≤ l.length) (fun i => l.length - i)
    (fun _ => ⟨[(4, .o 0), (5, .o 1)], [(0, .row 37 2 ((withoutF (fun ls t => !h ls t) l).map se)), (1, .row 37 2 ((withoutF h l).map se))], 2⟩) (fun _ => True) 0 id ?_ (Nat.zero_le _) ?_ ?_
  · exact ⟨⟨by simp only [ren, renL, hr]; rfl, rfl, rfl, rfl, rfl, rfl, trivial⟩, ⟨rfl, rfl, trivial⟩, by simp [idbE, idb, idbL, hcapU, idbH, idbR, hids, distB, fixB, memB]; rfl⟩
  · rintro i hi
    replace hi : i ≤ l.length := hi
    refine V ?_
    by_cases hlt : i < l.length
    · have hx := hs l[i] (List.getElem_mem hlt)
      have hfi := hf l[i] (List.getElem_mem hlt)
      refine p1 ?_ (decide_eq_true (by omega))
      refine ix (h := ?_)
      refine FZB 2 rfl rfl ?_
      refine JK.drawJ [] ⟨[(1, .fn (.func f) [] caps), (4, .o 0), (5, .o 1), (7, .r (se l[i])), (8, .p 2 0), (9, .p 3 0), (12, ses l), (13, gi (l.map se).length), (14, gi i)], [(0, .row 37 2 ((withoutF (fun ls t => !h ls t) (l.take i)).map se)), (1, .row 37 2 ((withoutF h (l.take i)).map se)), (2, .blk 37 [lbs l[i].labels, .v (.slice none 0 0)]), (3, .blk 37 [lbs l[i].labels, .v (.slice none 0 0)])], 4⟩ pg_ok ?_ (fun hk => ?_)
      · refine V ?_
        refine JK.ownNilB 2 1 34 2 rfl rfl ?_
        refine JK.ownNilB 3 1 34 2 rfl rfl ?_
        have hsl : (l[i].samples.map sm).length = l[i].samples.length := by simp
        refine JK.loopE (α := Nat) (β := Unit) (fun j => ⟨[(1, .fn (.func f) [] caps), (4, .o 0), (5, .o 1), (7, .r (se l[i])), (8, .p 2 0), (9, .p 3 0), (12, ses l), (13, gi (l.map se).length), (14, gi i), (25, sms l[i].samples), (26, gi (l[i].samples.map sm).length), (27, gi j)], [(0, .row 37 2 ((withoutF (fun ls t => !h ls t) (l.take i)).map se)), (1, .row 37 2 ((withoutF h (l.take i)).map se)), (2, .blk 37 [lbs l[i].labels, .o 4]), (3, .blk 37 [lbs l[i].labels, .o 5]), (4, .row 34 2 (((l[i].samples.take j).filter fun s => h l[i].labels s.time).map sm)), (5, .row 34 2 (((l[i].samples.take j).filter fun s => !h l[i].labels s.time).map sm))], 6⟩) (fun j => j ≤ l[i].samples.length) (fun j => l[i].samples.length - j)
          (fun _ => ⟨[(1, .fn (.func f) [] caps), (4, .o 0), (5, .o 1), (8, .p 2 0), (9, .p 3 0), (12, ses l), (13, gi (l.map se).length), (14, gi i)], [(0, .row 37 2 ((withoutF (fun ls t => !h ls t) (l.take i)).map se)), (1, .row 37 2 ((withoutF h (l.take i)).map se)), (2, .blk 37 [lbs l[i].labels, .o 4]), (3, .blk 37 [lbs l[i].labels, .o 5]), (4, .row 34 2 ((l[i].samples.filter fun s => h l[i].labels s.time).map sm)), (5, .row 34 2 ((l[i].samples.filter fun s => !h l[i].labels s.time).map sm))], 6⟩) (fun _ => True) 0 id ?_ (Nat.zero_le _) ?_ ?_
        · exact ⟨⟨by simp only [ren, renL, hr]; rfl, rfl, rfl, rfl, rfl, rfl, rfl, rfl, rfl, rfl, rfl, rfl, trivial⟩, ⟨rfl, rfl, rfl, rfl, rfl, rfl, trivial⟩, by simp [idbE, idb, idbL, hcapU, idbH, idbR, hids, distB, fixB, memB]; try decide⟩
        · rintro j hj
          replace hj : j ≤ l[i].samples.length := hj
          refine V ?_
          by_cases hjl : j < l[i].samples.length
          · have hy := part_step (fun s : Sm => h l[i].labels s.time) l[i].samples j hjl
            have hn := part_step (fun s : Sm => !h l[i].labels s.time) l[i].samples j hjl
            have ly : ((l[i].samples.take j).filter fun s => h l[i].labels s.time).length ≤ j := Nat.le_trans (List.length_filter_le _ _) (by simp; omega)
            have ln : ((l[i].samples.take j).filter fun s => !h l[i].labels s.time).length ≤ j := Nat.le_trans (List.length_filter_le _ _) (by simp; omega)
            refine p1 ?_ (decide_eq_true (by omega))
            refine ix (h := ?_)
            have hc := hfi l[i].samples[j].time
            rcases tf (h l[i].labels l[i].samples[j].time) with hb | hb
            · refine GO (hc.bt hb) rfl ?_ (by simp [idbL, idb, hcaps])
              refine ⟨by simp only [List.length_map, List.length_cons, List.length_nil]; omega, ?_⟩
              refine ⟨j + 1, fun k => bif Nat.beq k 4 then 8 else k, ⟨⟨by simp only [ren, renL, hr]; rfl, rfl, rfl, rfl, rfl, rfl, rfl, rfl, rfl, rfl, rfl, succ_gi (by omega), trivial⟩, ⟨rfl, rfl, rfl, rfl, ?_, ?_, trivial⟩, by simp [idbE, idb, idbL, hcapU, idbH, idbR, hids, distB, fixB, memB]; try decide⟩, hjl, by show l[i].samples.length - (j + 1) < l[i].samples.length - j; omega⟩
              · rw [hy, if_pos hb, List.map_append]; rfl
              · rw [hn, if_neg (by rw [hb]; decide), List.append_nil]; rfl
            · refine GO (hc.bt hb) rfl ?_ (by simp [idbL, idb, hcaps])
              refine ⟨by simp only [List.length_map, List.length_cons, List.length_nil]; omega, ?_⟩
              refine ⟨j + 1, fun k => bif Nat.beq k 5 then 8 else k, ⟨⟨by simp only [ren, renL, hr]; rfl, rfl, rfl, rfl, rfl, rfl, rfl, rfl, rfl, rfl, rfl, succ_gi (by omega), trivial⟩, ⟨rfl, rfl, rfl, rfl, ?_, ?_, trivial⟩, by simp [idbE, idb, idbL, hcapU, idbH, idbR, hids, distB, fixB, memB]; try decide⟩, hjl, by show l[i].samples.length - (j + 1) < l[i].samples.length - j; omega⟩
              · rw [hy, if_neg (by rw [hb]; decide), List.append_nil]; rfl
              · rw [hn, if_pos (by rw [hb]; rfl), List.map_append]; rfl
          · refine p2 ?_ (decide_eq_false (by omega))
            obtain rfl : j = l[i].samples.length := by omega
            rw [List.take_length]
            exact ⟨(), id, ⟨⟨by simp only [ren, renL, hr]; rfl, rfl, rfl, rfl, rfl, rfl, rfl, rfl, trivial⟩, ⟨rfl, rfl, rfl, rfl, rfl, rfl, trivial⟩, by simp [idbE, idb, idbL, hcapU, idbH, idbR, hids, distB, fixB, memB]; try decide⟩, trivial⟩
        · rintro _ _
          refine JK.freeze 4 rfl ?_
          refine FRZ 5 rfl ?_
          have hstY := wo_step (fun ls t => !h ls t) l i hlt
          have hstN := wo_step h l i hlt
          have lY : (withoutF (fun ls t => !h ls t) (l.take i)).length ≤ l.length := Nat.le_trans (withoutF_len _ _) (by simp; omega)
          have lN : (withoutF h (l.take i)).length ≤ l.length := Nat.le_trans (withoutF_len _ _) (by simp; omega)
          have hyes : leftS (fun ls t => !h ls t) l[i] = l[i].samples.filter fun s => h l[i].labels s.time := by
            unfold leftS
            simp only [Bool.not_not]
          cases hy : l[i].samples.filter fun s => h l[i].labels s.time with
          | nil =>
            refine p2 ?_ (decide_eq_false (by simp))
            cases hn : l[i].samples.filter fun s => !h l[i].labels s.time with
            | nil =>
              refine p2 ?_ (decide_eq_false (by simp))
              refine ⟨i + 1, id, ⟨⟨by simp only [ren, renL, hr]; exact congrArg (fun c => some (GV.fn (.func f) [] c)) ((congrArg (frzL _ _ _) (hfr _ _ _)).trans (hfr _ _ _)), rfl, rfl, rfl, rfl, succ_gi (by omega), trivial⟩, ⟨?_, ?_, trivial⟩, by simp [idbE, idb, idbL, hcapU, idbH, idbR, hids, distB, fixB, memB]; try decide⟩, hlt, by show l.length - (i + 1) < l.length - i; omega⟩
              · rw [hstY, withoutF_no _ (hyes.trans hy), show withoutF (fun ls t => !h ls t) [] = [] from rfl, List.append_nil]; rfl
              · rw [hstN, withoutF_no _ hn, show withoutF h [] = [] from rfl, List.append_nil]; rfl
            | cons z q =>
              refine p1 ?_ (decide_eq_true (by rw [List.length_map, List.length_cons]; omega))
              refine ⟨by simp only [List.length_map, List.length_cons, List.length_nil]; omega, ?_⟩
              refine ⟨i + 1, (fun k => bif Nat.beq k 1 then 7 else k), ⟨⟨by simp only [ren, renL, hr]; exact congrArg (fun c => some (GV.fn (.func f) [] c)) ((congrArg (frzL _ _ _) (hfr _ _ _)).trans (hfr _ _ _)), rfl, rfl, rfl, rfl, succ_gi (by omega), trivial⟩, ⟨?_, ?_, trivial⟩, by simp [idbE, idb, idbL, hcapU, idbH, idbR, hids, distB, fixB, memB]; try decide⟩, hlt, by show l.length - (i + 1) < l.length - i; omega⟩
              · rw [hstY, withoutF_no _ (hyes.trans hy), show withoutF (fun ls t => !h ls t) [] = [] from rfl, List.append_nil]; rfl
              · rw [hstN, withoutF_yes _ hn, List.map_append]; rfl
          | cons y r =>
            refine p1 ?_ (decide_eq_true (by rw [List.length_map, List.length_cons]; omega))
            refine ⟨by simp only [List.length_map, List.length_cons, List.length_nil]; omega, ?_⟩
            cases hn : l[i].samples.filter fun s => !h l[i].labels s.time with
            | nil =>
              refine p2 ?_ (decide_eq_false (by simp))
              refine ⟨i + 1, (fun k => bif Nat.beq k 0 then 7 else k), ⟨⟨by simp only [ren, renL, hr]; exact congrArg (fun c => some (GV.fn (.func f) [] c)) ((congrArg (frzL _ _ _) (hfr _ _ _)).trans (hfr _ _ _)), rfl, rfl, rfl, rfl, succ_gi (by omega), trivial⟩, ⟨?_, ?_, trivial⟩, by simp [idbE, idb, idbL, hcapU, idbH, idbR, hids, distB, fixB, memB]; try decide⟩, hlt, by show l.length - (i + 1) < l.length - i; omega⟩
              · rw [hstY, withoutF_yes _ (hyes.trans hy), List.map_append]; rfl
              · rw [hstN, withoutF_no _ hn, show withoutF h [] = [] from rfl, List.append_nil]; rfl
            | cons z q =>
              refine p1 ?_ (decide_eq_true (by rw [List.length_map, List.length_cons]; omega))
              refine ⟨by simp only [List.length_map, List.length_cons, List.length_nil]; omega, ?_⟩
              refine ⟨i + 1, (fun k => bif Nat.beq k 0 then 7 else 9), ⟨⟨by simp only [ren, renL, hr]; exact congrArg (fun c => some (GV.fn (.func f) [] c)) ((congrArg (frzL _ _ _) (hfr _ _ _)).trans (hfr _ _ _)), rfl, rfl, rfl, rfl, succ_gi (by omega), trivial⟩, ⟨?_, ?_, trivial⟩, by simp [idbE, idb, idbL, hcapU, idbH, idbR, hids, distB, fixB, memB]; try decide⟩, hlt, by show l.length - (i + 1) < l.length - i; omega⟩
              · rw [hstY, withoutF_yes _ (hyes.trans hy), List.map_append]; rfl
              · rw [hstN, withoutF_yes _ hn, List.map_append]; rfl
      · refine RA.run (cx := ⟨pg, _, _, _, _, _, _, _⟩) pg_ok (by kernel_rfl) (by intro _ _ h; exact h) (tk [0, 1, 3, 4]) (e := false) (by kernel_rfl) ?_
        refine RA.takeB 2 pg_ok rfl rfl rfl rfl rfl rfl rfl (by kernel_rfl) (by intro _ _ h; exact h) ?_
        refine RA.takeB 5 pg_ok rfl rfl rfl rfl rfl rfl rfl (by kernel_rfl) (by intro _ _ h; exact h) ?_
        refine RA.both 6 7 (eqB_eq (by kernel_rfl)) (Stp.mem 6 pg_ok rfl rfl rfl ?_) (Stp.mem 7 pg_ok rfl rfl rfl ?_)
        · refine RA.run (cx := ⟨pg, _, _, _, _, _, _, _⟩) pg_ok (by kernel_rfl) (by intro _ _ h; exact h) (al [7, 8, 9]) (e := false) (by kernel_rfl) ?_
          refine RA.endJ (fun k => bif Nat.beq k 2 then 3 else bif Nat.beq k 3 then 4 else k) (by kernel_rfl) hk ⟨⟨by simp only [ren, renL, hr]; exact congrArg (fun c => some (GV.fn (.func f) [] c)) (hfz _ _), rfl, rfl, rfl, rfl, rfl, rfl, rfl, rfl, trivial⟩, ⟨rfl, rfl, rfl, rfl, trivial⟩, ?_⟩
          simp [idbE, idb, idbL, hcapU, idbH, idbR, hids, distB, fixB, memB]; try decide
        · refine RA.run (cx := ⟨pg, _, _, _, _, _, _, _⟩) pg_ok (by kernel_rfl) (by intro _ _ h; exact h) (al [6, 8, 9]) (e := false) (by kernel_rfl) ?_
          refine RA.endJ (fun k => bif Nat.beq k 2 then 4 else k) (by kernel_rfl) hk ⟨⟨by simp only [ren, renL, hr]; exact congrArg (fun c => some (GV.fn (.func f) [] c)) (hfz _ _), rfl, rfl, rfl, rfl, rfl, rfl, rfl, rfl, trivial⟩, ⟨rfl, rfl, rfl, rfl, trivial⟩, ?_⟩
          simp [idbE, idb, idbL, hcapU, idbH, idbR, hids, distB, fixB, memB]; try decide
    · refine p2 ?_ (decide_eq_false (by omega))
      obtain rfl : i = l.length := by omega
      rw [List.take_length]
      exact ⟨(), id, ⟨⟨rfl, rfl, trivial⟩, ⟨rfl, rfl, trivial⟩, rfl⟩, trivial⟩
  · rintro _ _
    refine JK.freeze 0 rfl ?_
    refine FRZ 1 rfl ?_
    exact ⟨⟨rfl, rfl, trivial⟩, rfl⟩
end Go.Proofs.YtaahmenpcpjbhaaGreatDoor
/-
  Contracts: the document's samples that are taken out (Goes).
-/
namespace Go.Proofs.YtaahmenpcpjbhaaGreatDoor
open Go.GK Go.PL Go.RowKit
set_option maxRecDepth 100000
theorem asked_op' {l : List Mt} (h : askedF l = true) : ∀ x ∈ l, 0 ≤ x.op ∧ x.op ≤ 3 := by
  unfold askedF at h
  rw [Bool.and_eq_true, Bool.not_eq_true'] at h
  intro x hx
  obtain ⟨i, hi, rfl⟩ := List.getElem_of_mem hx
  have := anyB_get h.1 i hi
  rw [show l.getD i default = l[i] by simp [hi]] at this
  unfold mbad at this
  simp only [Bool.or_eq_false_iff, Bool.not_eq_false', decide_eq_true_eq] at this
  exact this.2.2
theorem goes1_rt (g : Gn) (ls : List Lb) (t : Int) (hop : ∀ x ∈ g.mt, 0 ≤ x.op ∧ x.op ≤ 3) (hm : g.mt.length ≤ 1000000) : Rt pg 39 [lbs ls, gi t, .r (gn g)] (.b (gHit g ls t)) := by
  refine Rt.of pg_ok Tryz.func39 rfl Tryz.ntmps39 rfl Tryz.results39 Tryz.call39 fun H0 S0 w0 h0 g0 => ?_
  have hin := Rq.old Tryz.call34 (in_ct t g.lo g.hi)
  unfold gHit
  by_cases h1 : g.lo ≤ t ∧ t ≤ g.hi
  · refine GO (hin.bt (d := true) (decide_eq_true h1)) rfl ?_
    refine GO (fits_rt ls g.mt hop hm) rfl ?_
    exact ⟨by rw [decide_eq_true h1.1, decide_eq_true h1.2]; rfl, rfl⟩
  · refine GO (hin.bt (d := false) (decide_eq_false h1)) rfl ?_
    refine ⟨?_, rfl⟩
    by_cases h2 : g.lo ≤ t
    · rw [decide_eq_true h2, decide_eq_false (fun h => h1 ⟨h2, h⟩)]; rfl
    · rw [decide_eq_false h2]; rfl
theorem goes_rt (g : Gn) : Rt pg 15 [.agg (gn g)] (.fn (.func 39) [] [.r (gn g)]) := by
  refine Rt.ofJ pg_ok Tryz.func15 rfl Tryz.ntmps15 rfl Tryz.results15 Tryz.call15 fun H0 S0 w0 h0 g0 => ?_
  refine VM 5 ?_
  refine FZB 0 rfl rfl ?_
  exact ⟨rfl, rfl⟩
end Go.Proofs.YtaahmenpcpjbhaaGreatDoor
/-
  errors.As by its contracts, at the target *Errno: the library's own text of errors.As and errors.as is walked: an error that is an Errno: it is set, and true comes back.
-/
namespace Go.Proofs.YtaahmenpcpjbhaaGreatDoor
open Go.RowKit Go.Extern.Stop Go.Stop Go.Extern

/-! ### Closed facts on the model's entries for internal/reflectlite, at this program's types -/
theorem as_valueOfP (t : Addr) (w : World) : (ReflectliteValue.unpack (.iface 125 (.pointer (some t)))).run Tryz.prog w
    = .ok (.agg #[.pointer (some ⟨5, 125, none⟩), .pointer (some ⟨w.heap.size, 0, none⟩), .int .u64 150]) (w.alloc (.cells #[.pointer (some t)] 125)) := by kernel_rfl
theorem as_typeP (a : Addr) (w : World) : (ReflectliteValue.methodAny (ReflectliteValue.valueError "reflectlite.Value.Type" 0) (fun t _ _ _ => ReflectliteType.toType t) #[.agg #[.pointer (some ⟨5, 125, none⟩), .pointer (some a), .int .u64 150]]).run Tryz.prog w
    = .ok (.iface 134 (.agg #[.pointer (some ⟨5, 125, none⟩)])) w := by kernel_rfl
theorem as_methodKind (h : Value) (w : World) : (Go.method 301 134 (.agg #[h]) "Kind").run Tryz.prog w = .ok (135, h) w := by kernel_rfl
theorem as_kindP (w : World) : ((ReflectliteType.abiMethod fun t => (fun a : Nat => Value.int IntKind.u8 (a : Int)) <$> Rtype.kind t) #[.pointer (some ⟨5, 125, none⟩)]).run Tryz.prog w = .ok (.int .u8 22) w := by kernel_rfl
theorem as_kindE (w : World) : ((ReflectliteType.abiMethod fun t => (fun a : Nat => Value.int IntKind.u8 (a : Int)) <$> Rtype.kind t) #[.pointer (some ⟨5, 38, none⟩)]).run Tryz.prog w = .ok (.int .u8 2) w := by kernel_rfl

theorem as_rlm (z : Sem Value) (f : TypeId → Addr → Nat → Nat → Sem Value) (v : Value) :
    ReflectliteValue.method z f #[v] = (do match ← ReflectliteValue.parts v with | none => z | some (t, a, fl) => f t a fl (fl % 32)) := rfl
theorem as_partsP (a : Addr) (w : World) : (ReflectliteValue.parts (.agg #[.pointer (some ⟨5, 125, none⟩), .pointer (some a), .int .u64 150])).run Tryz.prog w = .ok (some (125, a, 150)) w := by kernel_rfl
theorem as_isNilP (a p : Addr) (W : World) (ha : W.cell? a = some (.pointer (some p))) :
    (ReflectliteValue.method (ReflectliteValue.valueError "reflectlite.Value.IsNil" 0) ReflectliteValue.isNil #[.agg #[.pointer (some ⟨5, 125, none⟩), .pointer (some a), .int .u64 150]]).run Tryz.prog W = .ok (.bool false) W := by
  rw [as_rlm]
  simp only [Sem.run_bind, as_partsP, Result.andThen]
  simp [ReflectliteValue.isNil, loadVar, isAgg, underlying, Tryz.underlying125, ha, Result.andThen]

theorem as_methodElem (h : Value) (w : World) : (Go.method 301 134 (.agg #[h]) "Elem").run Tryz.prog w = .ok (144, .agg #[h]) w := by kernel_rfl
theorem as_methodImplements (h : Value) (w : World) : (Go.method 301 134 (.agg #[h]) "Implements").run Tryz.prog w = .ok (145, .agg #[h]) w := by kernel_rfl
theorem as_methodAssignableTo (h : Value) (w : World) : (Go.method 301 134 (.agg #[h]) "AssignableTo").run Tryz.prog w = .ok (143, .agg #[h]) w := by kernel_rfl
theorem as_elemP (w : World) : (ReflectliteType.method ReflectliteType.elem #[.agg #[.pointer (some ⟨5, 125, none⟩)]]).run Tryz.prog w = .ok (.iface 134 (.agg #[.pointer (some ⟨5, 38, none⟩)])) w := by kernel_rfl
theorem as_implementsE (w : World) : (ReflectliteType.relation "Implements" ReflectliteType.implements_ #[.agg #[.pointer (some ⟨5, 38, none⟩)], .iface 134 (.agg #[.pointer (some ⟨5, 42, none⟩)])]).run Tryz.prog w = .ok (.bool true) w := by kernel_rfl
theorem as_typeOfE (v : Value) (w : World) : (ReflectliteType.typeOf #[.iface 38 v]).run Tryz.prog w = .ok (.iface 134 (.agg #[.pointer (some ⟨5, 38, none⟩)])) w := by kernel_rfl
theorem as_assignableE (w : World) : (ReflectliteType.relation "AssignableTo" ReflectliteType.assignableTo #[.agg #[.pointer (some ⟨5, 38, none⟩)], .iface 134 (.agg #[.pointer (some ⟨5, 38, none⟩)])]).run Tryz.prog w = .ok (.bool true) w := by kernel_rfl
theorem as_valueOfE (m : Int) (w : World) : (ReflectliteValue.unpack (.iface 38 (.int .i64 m))).run Tryz.prog w
    = .ok (.agg #[.pointer (some ⟨5, 38, none⟩), .pointer (some ⟨w.heap.size, 0, none⟩), .int .u64 130]) (w.alloc (.cells #[.int .i64 m] 38)) := by kernel_rfl

theorem as_elemOfP (w : World) : (Rtype.elem? 125).run Tryz.prog w = .ok (some 38) w := by kernel_rfl
theorem as_mkE (p : Addr) (w : World) : (ReflectliteValue.mk 38 p ReflectliteValue.flagAddr).run Tryz.prog w = .ok (.agg #[.pointer (some ⟨5, 38, none⟩), .pointer (some p), .int .u64 386]) w := by kernel_rfl
theorem as_elemVP (a p : Addr) (W : World) (ha : W.cell? a = some (.pointer (some p))) :
    (ReflectliteValue.method (ReflectliteValue.valueError "reflectlite.Value.Elem" 0) ReflectliteValue.elem #[.agg #[.pointer (some ⟨5, 125, none⟩), .pointer (some a), .int .u64 150]]).run Tryz.prog W
      = .ok (.agg #[.pointer (some ⟨5, 38, none⟩), .pointer (some p), .int .u64 386]) W := by
  rw [as_rlm]
  simp only [Sem.run_bind, as_partsP, Result.andThen]
  simp [ReflectliteValue.elem, loadVar, isAgg, underlying, Tryz.underlying125, ha, Result.andThen, as_elemOfP, as_mkE]
theorem as_rls (v x : Value) : ReflectliteValue.set #[v, x] = (do
    let (some (dst, a, fl), some (src, b, _)) := (← ReflectliteValue.parts v, ← ReflectliteValue.parts x)
      | unsupported (.noEntry "extern/(internal/reflectlite.Value).Set.zeroValue")
    if fl / ReflectliteValue.flagAddr % 2 == 0 then unsupported (.noEntry "extern/(internal/reflectlite.Value).Set.unaddressable")
    let val ← loadVar src b
    if ← Rtype.directlyAssignable dst src then storeVar dst a val
    else if ← Rtype.implements dst src then
      if (← Rtype.kind src) == 20 then
        match val with
        | .nilIface => unsupported (.noEntry "extern/reflectlite: a nil value of one interface type handed on as a value of another")
        | _ => storeVar dst a val
      else storeVar dst a (.iface src val)
    else panicString ("reflectlite.Set: value of type " ++ (← Rtype.spelt src) ++ " is not assignable to type " ++ (← Rtype.spelt dst))
    pure (.tuple #[])) := rfl
theorem as_partsEa (a : Addr) (w : World) : (ReflectliteValue.parts (.agg #[.pointer (some ⟨5, 38, none⟩), .pointer (some a), .int .u64 386])).run Tryz.prog w = .ok (some (38, a, 386)) w := by kernel_rfl
theorem as_partsE (a : Addr) (w : World) : (ReflectliteValue.parts (.agg #[.pointer (some ⟨5, 38, none⟩), .pointer (some a), .int .u64 130])).run Tryz.prog w = .ok (some (38, a, 130)) w := by kernel_rfl
theorem as_directE (w : World) : (Rtype.directlyAssignable 38 38).run Tryz.prog w = .ok true w := by kernel_rfl
theorem as_sizeE (w : World) : (sizeOf 38).run Tryz.prog w = .ok 1 w := by kernel_rfl
theorem as_setE (ta b : Addr) (m : Int) (old : Value) (W : World) (hb : W.cell? b = some (.int .i64 m)) (ht : W.cell? ta = some old) (hf : W.frozen? ta = false) :
    (ReflectliteValue.set #[.agg #[.pointer (some ⟨5, 38, none⟩), .pointer (some ta), .int .u64 386], .agg #[.pointer (some ⟨5, 38, none⟩), .pointer (some b), .int .u64 130]]).run Tryz.prog W
      = .ok (.tuple #[]) (W.setCell ta (.int .i64 m)) := by
  rw [as_rls]
  simp only [Sem.run_bind, as_partsEa, as_partsE, Result.andThen]
  simp [ReflectliteValue.flagAddr, loadVar, isAgg, underlying, Tryz.underlying38, hb, Result.andThen, as_directE, storeVar, Value.cells, storeCells, Addr.add]
  rw [run_store Tryz.prog W ta _ _ (by rfl)]
  simp [ht, hf]

/-- What errors.As leaves behind it. -/
noncomputable def asW (t : Addr) (m : Int) (w : World) : World := ((((w.alloc (.cells #[.pointer (some t)] 125)).alloc (.cells #[.pointer (some ⟨5, 125, none⟩), .pointer (some ⟨w.heap.size, 0, none⟩), .int .u64 150] 116)).alloc (.cells #[.pointer (some ⟨5, 125, none⟩), .pointer (some ⟨w.heap.size, 0, none⟩), .int .u64 150] 116)).alloc (.cells #[.int .i64 m] 38)).setCell t (.int .i64 m)

set_option maxHeartbeats 4000000 in
theorem as_hit (m : Int) (t : Addr) (old : Value) (w : World) (hg : w.cell? ⟨1, 0, none⟩ = some (.iface 134 (.agg #[.pointer (some ⟨5, 42, none⟩)]))) (ht0 : w.cell? t = some old) (hf0 : w.frozen? t = false) :
    Calls Tryz.prog 72 #[.iface 38 (.int .i64 m), .iface 125 (.pointer (some t))] w fun ev w' => ev = .returned (.bool true) ∧ w' = asW t m w := by
  have h6 := @run_callFunc_extern Tryz.prog 68 _ (fun args => ReflectliteValue.unpack (args.getD 0 (.tuple #[]))) Tryz.func68 (by kernel_rfl) (by kernel_rfl) (by kernel_rfl) (by kernel_rfl)
  have h7 := @run_callFunc_extern Tryz.prog 92 _ (ReflectliteValue.methodAny (ReflectliteValue.valueError "reflectlite.Value.Type" 0) (fun t _ _ _ => ReflectliteType.toType t)) Tryz.func92 (by kernel_rfl) (by kernel_rfl) (by kernel_rfl) (by kernel_rfl)
  have h8 := @run_callFunc_extern Tryz.prog 93 _ (ReflectliteValue.method (ReflectliteValue.valueError "reflectlite.Value.IsNil" 0) ReflectliteValue.isNil) Tryz.func93 (by kernel_rfl) (by kernel_rfl) (by kernel_rfl) (by kernel_rfl)
  have h27 := @run_callFunc_extern Tryz.prog 135 _ (ReflectliteType.abiMethod fun t => do pure (.int .u8 (← Rtype.kind t))) Tryz.func135 (by kernel_rfl) (by kernel_rfl) (by kernel_rfl) (by kernel_rfl)
  have h37 := @run_callFunc_extern Tryz.prog 144 _ (ReflectliteType.method ReflectliteType.elem) Tryz.func144 (by kernel_rfl) (by kernel_rfl) (by kernel_rfl) (by kernel_rfl)
  have h38 := @run_callFunc_extern Tryz.prog 145 _ (ReflectliteType.relation "Implements" ReflectliteType.implements_) Tryz.func145 (by kernel_rfl) (by kernel_rfl) (by kernel_rfl) (by kernel_rfl)
  have h10 := @run_callFunc_extern Tryz.prog 106 _ ReflectliteType.typeOf Tryz.func106 (by kernel_rfl) (by kernel_rfl) (by kernel_rfl) (by kernel_rfl)
  have h35 := @run_callFunc_extern Tryz.prog 143 _ (ReflectliteType.relation "AssignableTo" ReflectliteType.assignableTo) Tryz.func143 (by kernel_rfl) (by kernel_rfl) (by kernel_rfl) (by kernel_rfl)
  have h11 := @run_callFunc_extern Tryz.prog 107 _ (ReflectliteValue.method (ReflectliteValue.valueError "reflectlite.Value.Elem" 0) ReflectliteValue.elem) Tryz.func107 (by kernel_rfl) (by kernel_rfl) (by kernel_rfl) (by kernel_rfl)
  have h12 := @run_callFunc_extern Tryz.prog 108 _ ReflectliteValue.set Tryz.func108 (by kernel_rfl) (by kernel_rfl) (by kernel_rfl) (by kernel_rfl)
  have tO := as_typeOfE
  have mA := as_methodAssignableTo
  have a25 := as_assignableE
  have v25 := as_valueOfE
  have f6 := as_valueOfP
  have f7 := as_typeP
  have mK := as_methodKind
  have mE := as_methodElem
  have mI := as_methodImplements
  have k27 := as_kindP
  have k25 := as_kindE
  have e27 := as_elemP
  have i25 := as_implementsE
  have n8 := as_isNilP ⟨w.heap.size, 0, none⟩ t ((w.alloc (.cells #[.pointer (some t)] 125)).alloc (.cells #[.pointer (some ⟨5, 125, none⟩), .pointer (some ⟨w.heap.size, 0, none⟩), .int .u64 150] 116)) (by simp)
  have hlt : 1 < w.heap.size := by
    rcases Nat.lt_or_ge 1 w.heap.size with h | h
    · exact h
    · simp [World.cell?, Array.getElem?_eq_none h] at hg
  have hg2 : ((w.alloc (.cells #[.pointer (some t)] 125)).alloc (.cells #[.pointer (some ⟨5, 125, none⟩), .pointer (some ⟨w.heap.size, 0, none⟩), .int .u64 150] 116)).cell? ⟨1, 0, none⟩ = some (.iface 134 (.agg #[.pointer (some ⟨5, 42, none⟩)])) := by
    rw [World.cell?_alloc_lt _ _ ⟨1, 0, none⟩ (by simp <;> omega), World.cell?_alloc_lt _ _ ⟨1, 0, none⟩ hlt]; exact hg
  have htl : t.block < w.heap.size := by
    rcases Nat.lt_or_ge t.block w.heap.size with h | h
    · exact h
    · simp [World.cell?, Array.getElem?_eq_none h] at ht0
  have el := as_elemVP ⟨w.heap.size, 0, none⟩ t (((w.alloc (.cells #[.pointer (some t)] 125)).alloc (.cells #[.pointer (some ⟨5, 125, none⟩), .pointer (some ⟨w.heap.size, 0, none⟩), .int .u64 150] 116)).alloc (.cells #[.pointer (some ⟨5, 125, none⟩), .pointer (some ⟨w.heap.size, 0, none⟩), .int .u64 150] 116)) (by rw [World.cell?_alloc_lt _ _ ⟨w.heap.size, 0, none⟩ (by simp <;> omega)]; simp)
  have st := as_setE t ⟨w.heap.size + 1 + 1 + 1, 0, none⟩ m old ((((w.alloc (.cells #[.pointer (some t)] 125)).alloc (.cells #[.pointer (some ⟨5, 125, none⟩), .pointer (some ⟨w.heap.size, 0, none⟩), .int .u64 150] 116)).alloc (.cells #[.pointer (some ⟨5, 125, none⟩), .pointer (some ⟨w.heap.size, 0, none⟩), .int .u64 150] 116)).alloc (.cells #[.int .i64 m] 38))
    (by rw [World.cell?_alloc_at _ _ _ _ (by simp)]; rfl)
    (by rw [World.cell?_alloc_lt _ _ t (by simp <;> omega), World.cell?_alloc_lt _ _ t (by simp <;> omega), World.cell?_alloc_lt _ _ t (by simp <;> omega), World.cell?_alloc_lt _ _ t htl]; exact ht0)
    (by rw [World.frozen?_alloc_old _ _ t (by simp <;> omega), World.frozen?_alloc_old _ _ t (by simp <;> omega), World.frozen?_alloc_old _ _ t (by simp <;> omega), World.frozen?_alloc_old _ _ t (Nat.ne_of_lt htl)]; exact hf0)
  go_enter Tryz.func72, Tryz.ntmps72
  go_wp2
  refine wp_loop_rounds 1 ?_
  rw [rounds_succ]
  go_wp2
  go_ret
  exact ⟨rfl, rfl⟩
end Go.Proofs.YtaahmenpcpjbhaaGreatDoor
/-
  errors.As by its contracts, at the target *Errno: an error that is an At: it is taken apart, and what it holds is set.
-/
namespace Go.Proofs.YtaahmenpcpjbhaaGreatDoor
open Go.RowKit Go.Extern.Stop Go.Stop Go.Extern
theorem as_typeOfA (v : Value) (w : World) : (ReflectliteType.typeOf #[.iface 68 v]).run Tryz.prog w = .ok (.iface 134 (.agg #[.pointer (some ⟨5, 68, none⟩)])) w := by kernel_rfl
theorem as_assignableA (w : World) : (ReflectliteType.relation "AssignableTo" ReflectliteType.assignableTo #[.agg #[.pointer (some ⟨5, 68, none⟩)], .iface 134 (.agg #[.pointer (some ⟨5, 38, none⟩)])]).run Tryz.prog w = .ok (.bool false) w := by kernel_rfl
theorem as_noAs (v : Value) (xT : Nat) (w : World) : (Instr.typeAssert (.iface 68 v) xT 156 true).run Tryz.prog w = .ok (.tuple #[.nilIface, .bool false]) w := run_typeAssert_lacksB Tryz.underlying156 (by kernel_rfl) (by kernel_rfl) v _ w
theorem as_unw (v : Value) (xT : Nat) (w : World) : (Instr.typeAssert (.iface 68 v) xT 101 true).run Tryz.prog w = .ok (.tuple #[.iface 68 v, .bool true]) w := run_typeAssert_hasB Tryz.underlying101 (by kernel_rfl) v _ w
theorem as_methodUnw (h : Value) (w : World) : (Go.method 301 68 h "Unwrap").run Tryz.prog w = .ok (140, h) w := by kernel_rfl
set_option maxRecDepth 100000 in
set_option maxHeartbeats 4000000 in
theorem as_hit_at (m : Int) (a t : Addr) (old : Value) (w : World) (ha : w.cell? a = some (.int .i64 m)) (hg : w.cell? ⟨1, 0, none⟩ = some (.iface 134 (.agg #[.pointer (some ⟨5, 42, none⟩)]))) (ht0 : w.cell? t = some old) (hf0 : w.frozen? t = false) :
    Calls Tryz.prog 72 #[.iface 68 (.pointer (some a)), .iface 125 (.pointer (some t))] w fun ev w' => ev = .returned (.bool true) ∧ w' = asW t m w := by
  have h6 := @run_callFunc_extern Tryz.prog 68 _ (fun args => ReflectliteValue.unpack (args.getD 0 (.tuple #[]))) Tryz.func68 (by kernel_rfl) (by kernel_rfl) (by kernel_rfl) (by kernel_rfl)
  have h7 := @run_callFunc_extern Tryz.prog 92 _ (ReflectliteValue.methodAny (ReflectliteValue.valueError "reflectlite.Value.Type" 0) (fun t _ _ _ => ReflectliteType.toType t)) Tryz.func92 (by kernel_rfl) (by kernel_rfl) (by kernel_rfl) (by kernel_rfl)
  have h8 := @run_callFunc_extern Tryz.prog 93 _ (ReflectliteValue.method (ReflectliteValue.valueError "reflectlite.Value.IsNil" 0) ReflectliteValue.isNil) Tryz.func93 (by kernel_rfl) (by kernel_rfl) (by kernel_rfl) (by kernel_rfl)
  have h27 := @run_callFunc_extern Tryz.prog 135 _ (ReflectliteType.abiMethod fun t => do pure (.int .u8 (← Rtype.kind t))) Tryz.func135 (by kernel_rfl) (by kernel_rfl) (by kernel_rfl) (by kernel_rfl)
  have h37 := @run_callFunc_extern Tryz.prog 144 _ (ReflectliteType.method ReflectliteType.elem) Tryz.func144 (by kernel_rfl) (by kernel_rfl) (by kernel_rfl) (by kernel_rfl)
  have h38 := @run_callFunc_extern Tryz.prog 145 _ (ReflectliteType.relation "Implements" ReflectliteType.implements_) Tryz.func145 (by kernel_rfl) (by kernel_rfl) (by kernel_rfl) (by kernel_rfl)
  have h10 := @run_callFunc_extern Tryz.prog 106 _ ReflectliteType.typeOf Tryz.func106 (by kernel_rfl) (by kernel_rfl) (by kernel_rfl) (by kernel_rfl)
  have h35 := @run_callFunc_extern Tryz.prog 143 _ (ReflectliteType.relation "AssignableTo" ReflectliteType.assignableTo) Tryz.func143 (by kernel_rfl) (by kernel_rfl) (by kernel_rfl) (by kernel_rfl)
  have h11 := @run_callFunc_extern Tryz.prog 107 _ (ReflectliteValue.method (ReflectliteValue.valueError "reflectlite.Value.Elem" 0) ReflectliteValue.elem) Tryz.func107 (by kernel_rfl) (by kernel_rfl) (by kernel_rfl) (by kernel_rfl)
  have h12 := @run_callFunc_extern Tryz.prog 108 _ ReflectliteValue.set Tryz.func108 (by kernel_rfl) (by kernel_rfl) (by kernel_rfl) (by kernel_rfl)
  have tO := as_typeOfE
  have tA := as_typeOfA
  have aA := as_assignableA
  have nA := as_noAs
  have uA := as_unw
  have mU := as_methodUnw
  have mA := as_methodAssignableTo
  have a25 := as_assignableE
  have v25 := as_valueOfE
  have f6 := as_valueOfP
  have f7 := as_typeP
  have mK := as_methodKind
  have mE := as_methodElem
  have mI := as_methodImplements
  have k27 := as_kindP
  have k25 := as_kindE
  have e27 := as_elemP
  have i25 := as_implementsE
  have n8 := as_isNilP ⟨w.heap.size, 0, none⟩ t ((w.alloc (.cells #[.pointer (some t)] 125)).alloc (.cells #[.pointer (some ⟨5, 125, none⟩), .pointer (some ⟨w.heap.size, 0, none⟩), .int .u64 150] 116)) (by simp)
  have hlt : 1 < w.heap.size := by
    rcases Nat.lt_or_ge 1 w.heap.size with h | h
    · exact h
    · simp [World.cell?, Array.getElem?_eq_none h] at hg
  have hg2 : ((w.alloc (.cells #[.pointer (some t)] 125)).alloc (.cells #[.pointer (some ⟨5, 125, none⟩), .pointer (some ⟨w.heap.size, 0, none⟩), .int .u64 150] 116)).cell? ⟨1, 0, none⟩ = some (.iface 134 (.agg #[.pointer (some ⟨5, 42, none⟩)])) := by
    rw [World.cell?_alloc_lt _ _ ⟨1, 0, none⟩ (by simp <;> omega), World.cell?_alloc_lt _ _ ⟨1, 0, none⟩ hlt]; exact hg
  have htl : t.block < w.heap.size := by
    rcases Nat.lt_or_ge t.block w.heap.size with h | h
    · exact h
    · simp [World.cell?, Array.getElem?_eq_none h] at ht0
  have el := as_elemVP ⟨w.heap.size, 0, none⟩ t (((w.alloc (.cells #[.pointer (some t)] 125)).alloc (.cells #[.pointer (some ⟨5, 125, none⟩), .pointer (some ⟨w.heap.size, 0, none⟩), .int .u64 150] 116)).alloc (.cells #[.pointer (some ⟨5, 125, none⟩), .pointer (some ⟨w.heap.size, 0, none⟩), .int .u64 150] 116)) (by rw [World.cell?_alloc_lt _ _ ⟨w.heap.size, 0, none⟩ (by simp <;> omega)]; simp)
  have st := as_setE t ⟨w.heap.size + 1 + 1 + 1, 0, none⟩ m old ((((w.alloc (.cells #[.pointer (some t)] 125)).alloc (.cells #[.pointer (some ⟨5, 125, none⟩), .pointer (some ⟨w.heap.size, 0, none⟩), .int .u64 150] 116)).alloc (.cells #[.pointer (some ⟨5, 125, none⟩), .pointer (some ⟨w.heap.size, 0, none⟩), .int .u64 150] 116)).alloc (.cells #[.int .i64 m] 38))
    (by rw [World.cell?_alloc_at _ _ _ _ (by simp)]; rfl)
    (by rw [World.cell?_alloc_lt _ _ t (by simp <;> omega), World.cell?_alloc_lt _ _ t (by simp <;> omega), World.cell?_alloc_lt _ _ t (by simp <;> omega), World.cell?_alloc_lt _ _ t htl]; exact ht0)
    (by rw [World.frozen?_alloc_old _ _ t (by simp <;> omega), World.frozen?_alloc_old _ _ t (by simp <;> omega), World.frozen?_alloc_old _ _ t (by simp <;> omega), World.frozen?_alloc_old _ _ t (Nat.ne_of_lt htl)]; exact hf0)
  have hal : a.block < w.heap.size := by
    rcases Nat.lt_or_ge a.block w.heap.size with h | h
    · exact h
    · simp [World.cell?, Array.getElem?_eq_none h] at ha
  have la : (((w.alloc (.cells #[.pointer (some t)] 125)).alloc (.cells #[.pointer (some ⟨5, 125, none⟩), .pointer (some ⟨w.heap.size, 0, none⟩), .int .u64 150] 116)).alloc (.cells #[.pointer (some ⟨5, 125, none⟩), .pointer (some ⟨w.heap.size, 0, none⟩), .int .u64 150] 116)).cell? a = some (.int .i64 m) := by
    rw [World.cell?_alloc_lt _ _ a (by simp <;> omega), World.cell?_alloc_lt _ _ a (by simp <;> omega), World.cell?_alloc_lt _ _ a hal]; exact ha
  go_enter Tryz.func72, Tryz.ntmps72
  go_wp2
  refine wp_loop_rounds 2 ?_
  rw [rounds_succ]
  go_wp2
  rw [rounds_succ]
  go_wp2
  go_ret
  exact ⟨rfl, rfl⟩
end Go.Proofs.YtaahmenpcpjbhaaGreatDoor
/-
  Errors as the ghost machine has them.
-/
namespace Go.Proofs.YtaahmenpcpjbhaaGreatDoor
open Go.GK
/-- No error, or an Errno; its number. -/
def erG : Option Int → GV
  | none => .v .nilIface
  | some m => .ifc 38 (gi m)
def erN : Option Int → Int
  | none => 0
  | some m => m

end Go.Proofs.YtaahmenpcpjbhaaGreatDoor
/-
  Contracts: errors told apart (errors.As, api.Tell, plain.Place, raingaugelaw.is, bare): no error, or an Errno.
-/
namespace Go.Proofs.YtaahmenpcpjbhaaGreatDoor
open Go.GK Go.RowKit
set_option maxRecDepth 100000
abbrev rtV : Value := .iface 134 (.agg #[.pointer (some ⟨5, 42, none⟩)])
theorem errG_of {H : Hid} {σ : Heap} {w : World} (hg : GlOk pg H) (hs : Sat H σ w) : w.cell? ⟨1, 0, none⟩ = some rtV := hg.cell hs rfl

theorem below4 (w : World) (a b c d : Obj) : Below w.heap.size w ((((w.alloc a).alloc b).alloc c).alloc d) := by
  have h : ∀ (w : World) (o : Obj), w.heap.size ≤ (w.alloc o).heap.size := fun w o => by show _ ≤ (w.heap.push o).size; simp
  have h1 := h w a
  have h2 := h (w.alloc a) b
  have h3 := h ((w.alloc a).alloc b) c
  exact ((((Below.refl _ _).alloc (Nat.le_refl _) a).alloc h1 b).alloc (Nat.le_trans h1 h2) c).alloc (Nat.le_trans h1 (Nat.le_trans h2 h3)) d
theorem asW_below (t : Addr) (m : Int) (w : World) : ∃ w5, Below w.heap.size w w5 ∧ asW t m w = w5.setCell t (.int .i64 m) := by
  exact ⟨_, below4 _ _ _ _ _, rfl⟩
theorem as_ct (m old : Int) : Ct pg 72 1 [.ifc 38 (gi m), .ifc 125 (.p 0 0)] [(0, .blk 38 [gi old])] (fun g σ n => g = .v (.bool true) ∧ σ = [(0, .blk 38 [gi m])] ∧ n = 1) :=
  Ct.set1 (p := pg) (G := fun w => w.cell? ⟨1, 0, none⟩ = some rtV) (.int .i64 m) (.int .i64 old) (.int .i64 m) (.bool true) (fun _ _ _ hg hs => errG_of hg hs) fun t w hg h1 h2 =>
    (as_hit m t _ w hg h1 h2).mono fun e w' ⟨he, hw⟩ => by
      obtain ⟨w5, hb, hw5⟩ := asW_below t m w
      exact ⟨he, w5, hb, hw.trans hw5⟩

theorem tell_ct (x : Option Int) : Ct pg 55 0 [erG x] [] (Val fun g => g = gi (erN x)) := by
  refine Ct.val (Ct.of_JK pg_ok Tryz.func55 rfl Tryz.ntmps55 rfl Tryz.results55 fun H0 S0 w0 h0 g0 => ?_)
  cases x with
  | none =>
    refine vc_sound pg_ok 200 _ _ ?_
    refine pos rfl ?_
    exact ⟨rfl, rfl⟩
  | some m =>
    refine vc_sound pg_ok 200 _ _ ?_
    refine neg rfl ?_
    refine JK.call (n0 := 1) (r := id) (as_ct m 0) Tryz.call72 rfl rfl rfl rfl rfl ⟨rfl, trivial⟩ rfl (by simp) ?_
    rintro g σ' n' ⟨rfl, rfl, rfl⟩
    refine vc_sound pg_ok 200 _ _ ?_
    exact ⟨rfl, rfl⟩
theorem noAt (u : Value) (w : World) : (Instr.typeAssert (.iface 38 u) 42 68 true).run Tryz.prog w = .ok (.tuple #[.pointer none, .bool false]) w := by kernel_rfl
theorem noUnwrap (u : Value) (w : World) : (Instr.typeAssert (.iface 38 u) 42 101 true).run Tryz.prog w = .ok (.tuple #[.nilIface, .bool false]) w := run_typeAssert_lacksB Tryz.underlying101 (by kernel_rfl) (by kernel_rfl) u _ w
theorem tup2 {H : Hid} {a b : Value} : Is H (.tup [.v a, .v b]) (.tuple #[a, b]) := .tup rfl fun j g hj => by
  match j with
  | 0 => simp at hj; subst hj; exact .ro (.v a)
  | 1 => simp at hj; subst hj; exact .ro (.v b)
  | j + 2 => simp at hj
theorem place_ct (x : Option Int) : Ct pg 30 0 [erG x] [] (Val fun g => g = .tup [gi (erN x), gi (-1)]) := by
  refine Ct.val (Ct.of_JK pg_ok Tryz.func30 rfl Tryz.ntmps30 rfl Tryz.results30 fun H0 S0 w0 h0 g0 => ?_)
  cases x with
  | none =>
    refine vc_sound pg_ok 200 _ _ ?_
    refine JK.call (n0 := 0) (r := id) (tell_ct none) Tryz.call55 rfl rfl rfl rfl rfl trivial rfl (by simp) ?_
    rintro g σ' n' ⟨rfl, rfl, rfl⟩
    refine vc_sound pg_ok 200 _ _ ?_
    refine JK.loopE (α := Unit) (β := Unit) (fun _ => ⟨[(0, .v .nilIface), (4, gi 0)], [], 0⟩) (fun _ => True) (fun _ => 0) (fun _ => ⟨[(4, gi 0)], [], 0⟩) (fun _ => True) () id ?_ trivial ?_ ?_
    · exact ⟨⟨rfl, rfl, trivial⟩, trivial, rfl⟩
    · intro _ _
      refine vc_sound pg_ok 200 _ _ ?_
      refine neg rfl ?_
      exact ⟨(), id, ⟨⟨rfl, trivial⟩, trivial, rfl⟩, trivial⟩
    · intro _ _
      refine vc_sound pg_ok 200 _ _ ?_
      exact ⟨rfl, rfl⟩
  | some m =>
    refine vc_sound pg_ok 200 _ _ ?_
    refine JK.call (n0 := 0) (r := id) (tell_ct (some m)) Tryz.call55 rfl rfl rfl rfl rfl trivial rfl (by simp) ?_
    rintro g σ' n' ⟨rfl, rfl, rfl⟩
    refine vc_sound pg_ok 200 _ _ ?_
    refine JK.loopE (α := Unit) (β := Unit) (fun _ => ⟨[(0, .ifc 38 (gi m)), (4, gi m)], [], 0⟩) (fun _ => True) (fun _ => 0) (fun _ => ⟨[(4, gi m)], [], 0⟩) (fun _ => True) () id ?_ trivial ?_ ?_
    · exact ⟨⟨rfl, rfl, trivial⟩, trivial, rfl⟩
    · intro _ _
      refine vc_sound pg_ok 200 _ _ ?_
      refine pos rfl ?_
      refine JK.tassert (t := 38) (g := gi m) (r := .tup [.v (.pointer none), .v (.bool false)]) (fun H u w _ => ⟨_, noAt u w, tup2⟩) rfl rfl rfl ?_
      refine vc_sound pg_ok 200 _ _ ?_
      refine JK.tassert (t := 38) (g := gi m) (r := .tup [.v .nilIface, .v (.bool false)]) (fun H u w _ => ⟨_, noUnwrap u w, tup2⟩) rfl rfl rfl ?_
      refine vc_sound pg_ok 200 _ _ ?_
      exact ⟨(), id, ⟨⟨rfl, trivial⟩, trivial, rfl⟩, trivial⟩
    · intro _ _
      refine vc_sound pg_ok 200 _ _ ?_
      exact ⟨rfl, rfl⟩
theorem is_ct (x : Option Int) (e p : Int) : Ct pg 7 0 [erG x, .agg [gi e, gi p]] [] (Val fun g => g = .b (erN x == e && -1 == p)) := by
  refine Ct.bool (Ct.of_JK pg_ok Tryz.func7 rfl Tryz.ntmps7 rfl Tryz.results7 fun H0 S0 w0 h0 g0 => ?_)
  cases x with
  | none =>
    refine vc_sound pg_ok 200 _ _ ?_
    refine JK.call (n0 := 0) (r := id) (place_ct none) Tryz.call30 rfl rfl rfl rfl rfl trivial rfl (by simp) ?_
    rintro g σ' n' ⟨rfl, rfl, rfl⟩
    refine vc_sound pg_ok 200 _ _ ?_
    refine ⟨fun h => ?_, fun h => ?_⟩
    · refine .inr (congrArg GV.b ?_)
      show _ = (((0 : Int) == e) && _)
      rw [show ((0 : Int) == e) = true from h]; rfl
    · refine .inl (congrArg (fun c => GV.v (.bool c)) ?_)
      show _ = (((0 : Int) == e) && _)
      rw [show ((0 : Int) == e) = false from h]; rfl
  | some m =>
    refine vc_sound pg_ok 200 _ _ ?_
    refine JK.call (n0 := 0) (r := id) (place_ct (some m)) Tryz.call30 rfl rfl rfl rfl rfl trivial rfl (by simp) ?_
    rintro g σ' n' ⟨rfl, rfl, rfl⟩
    refine vc_sound pg_ok 200 _ _ ?_
    refine ⟨fun h => ?_, fun h => ?_⟩
    · refine .inr (congrArg GV.b ?_)
      show _ = ((m == e) && _)
      rw [show (m == e) = true from h]; rfl
    · refine .inl (congrArg (fun c => GV.v (.bool c)) ?_)
      show _ = ((m == e) && _)
      rw [show (m == e) = false from h]; rfl
theorem refBare_ct (e : Int) : Ct pg 25 0 [gi e] [] (Val fun g => g = .agg [gi e, gi (-1)]) := by
  refine Ct.val (Ct.of_JK pg_ok Tryz.func25 rfl Tryz.ntmps25 rfl Tryz.results25 fun H0 S0 w0 h0 g0 => ?_)
  refine vc_sound pg_ok 200 _ _ ?_
  exact ⟨rfl, rfl⟩
end Go.Proofs.YtaahmenpcpjbhaaGreatDoor
/-
  Contracts: errors told apart: an error at a place (*api.At).
-/
namespace Go.Proofs.YtaahmenpcpjbhaaGreatDoor
open Go.GK Go.RowKit
set_option maxRecDepth 100000
/-- An error at a place. -/
abbrev atG (m p : Int) : GV := .ifc 68 (.r [gi m, gi p])
theorem asAt_ct (m p old : Int) : Ct pg 72 1 [atG m p, .ifc 125 (.p 0 0)] [(0, .blk 38 [gi old])] (fun g σ n => g = .v (.bool true) ∧ σ = [(0, .blk 38 [gi m])] ∧ n = 1) :=
  Ct.set1g (p := pg) (G := fun u w => w.cell? ⟨1, 0, none⟩ = some rtV ∧ ∃ a, u = .pointer (some a) ∧ w.cell? a = some (.int .i64 m)) (.r [gi m, gi p]) (.int .i64 old) (.int .i64 m) (.bool true) (fun _ _ _ _ hg hs hi => ⟨errG_of hg hs, hi.r0 hs⟩) fun u t w hg h1 h2 => by
    obtain ⟨hg, a, rfl, ha⟩ := hg
    refine (as_hit_at m a t _ w ha hg h1 h2).mono fun e w' ⟨he, hw⟩ => ?_
    obtain ⟨w5, hb, hw5⟩ := asW_below t m w
    exact ⟨he, w5, hb, hw.trans hw5⟩
theorem tellAt_rt (m p : Int) : Rt pg 55 [atG m p] (gi m) := by
  refine Rt.of pg_ok Tryz.func55 rfl Tryz.ntmps55 rfl Tryz.results55 Tryz.call55 fun H0 S0 w0 h0 g0 => ?_
  refine p2 ?_
  refine JK.call (n0 := 1) (r := id) (asAt_ct m p 0) Tryz.call72 rfl rfl rfl rfl rfl ⟨rfl, trivial⟩ rfl (by simp) ?_
  rintro g σ' n' ⟨rfl, rfl, rfl⟩
  refine V ?_
  exact ⟨rfl, rfl⟩
theorem isAt (u : Value) (w : World) : (Instr.typeAssert (.iface 68 u) 42 68 true).run Tryz.prog w = .ok (.tuple #[u, .bool true]) w := by kernel_rfl
theorem tupR {H : Hid} {x : GV} {a b : Value} (h : Is H x a) : Is H (.tup [x, .v b]) (.tuple #[a, b]) := .tup rfl fun j g hj => by
  match j with
  | 0 => simp at hj; subst hj; exact h
  | 1 => simp at hj; subst hj; exact .ro (.v b)
  | j + 2 => simp at hj
theorem placeAt_rt (m p : Int) : Rt pg 30 [atG m p] (.tup [gi m, gi p]) := by
  refine Rt.of pg_ok Tryz.func30 rfl Tryz.ntmps30 rfl Tryz.results30 Tryz.call30 fun H0 S0 w0 h0 g0 => ?_
  refine GO (tellAt_rt m p) rfl ?_
  refine JK.loopE (α := Unit) (β := Unit) (fun _ => ⟨[(0, atG m p), (4, gi m)], [], 0⟩) (fun _ => True) (fun _ => 0) (fun _ => ⟨[], [], 0⟩) (fun _ => False) () id ?_ trivial ?_ ?_
  · exact ⟨⟨rfl, rfl, trivial⟩, trivial, rfl⟩
  · intro _ _
    refine V ?_
    refine p1 ?_
    refine JK.tassert (t := 68) (g := .r [gi m, gi p]) (r := .tup [.r [gi m, gi p], .v (.bool true)]) (fun H u w hu => ⟨_, isAt u w, tupR hu⟩) rfl rfl rfl ?_
    refine V ?_
    repeat (first | refine p1 ?_ | refine p2 ?_ | refine p3 ?_ | refine p4 ?_)
    refine ⟨by kernel_rfl, ?_⟩
    exact ⟨⟨rfl, rfl, trivial⟩, rfl⟩
  · intro _ h
    exact h.elim
theorem isAt_rt (m p e q : Int) : Rt pg 7 [atG m p, .agg [gi e, gi q]] (.b (m == e && p == q)) := by
  refine Rt.of pg_ok Tryz.func7 rfl Tryz.ntmps7 rfl Tryz.results7 Tryz.call7 fun H0 S0 w0 h0 g0 => ?_
  refine GO (placeAt_rt m p) rfl ?_
  rcases tf (m == e) with h | h
  · refine p1 ?_ h
    exact ⟨by rw [h]; rfl, rfl⟩
  · refine p2 ?_ h
    exact ⟨by rw [h]; rfl, rfl⟩
theorem isE_rt (x : Option Int) (e p : Int) : Rt pg 7 [erG x, .agg [gi e, gi p]] (.b (erN x == e && -1 == p)) := Rq.old Tryz.call7 (is_ct x e p)
end Go.Proofs.YtaahmenpcpjbhaaGreatDoor
/-
  Contracts: a reader of bytes (code.Reader): a number, a size, a text, labels.
-/
namespace Go.Proofs.YtaahmenpcpjbhaaGreatDoor
open Go.GK Go.PL Go.RowKit
set_option maxRecDepth 100000
section
variable {α : Type}
/-- What a reader (a block of type T: its bytes, and whether it is bad) hands back, and what it is behind it. -/
def rdQ (T : Nat) (P : Option (α × ByteArray)) (z : GV) (en : α → GV) : GV → Heap → Nat → Prop := fun g σ n => n = 1 ∧ match P with
  | some (a, r) => g = en a ∧ σ = [(0, .blk T [gs r, .b false])]
  | none => g = z ∧ ∃ s', σ = [(0, .blk T [gs s', .b true])]
def rdR (T : Nat) (P : Option (α × ByteArray)) (z : GV) (en : α → GV) : GV → Heap → Nat → Prop := fun g σ n => Nat.ble 1 n = true ∧ match P with
  | some (a, r) => g = en a ∧ hlook σ 0 = some (.blk T [gs r, .b false])
  | none => g = z ∧ ∃ s' c, hlook σ 0 = some (.blk T [gs s', c]) ∧ eqG (.b true) c
theorem ids1 {σ : Heap} {x : Res} (h : hlook σ 0 = some x) {g : GV} (hg : idb 1 g = true) (hx : idbH 1 [(0, x)] = true) (hr : renR id x = x) : ∃ (r : Nat → Nat) (g0 : GV) (τ : Heap) (m : Nat), (g0 = g ∧ τ = [(0, x)] ∧ m = 1) ∧ g = ren r g0 ∧ leσ r τ σ ∧ (idb m g0 && idbH m τ && distB (hids r τ) && fixB r 1 && Nat.ble 1 m) = true := by
  refine ⟨id, g, _, 1, ⟨rfl, rfl, rfl⟩, (ren_id g).symm, ⟨?_, trivial⟩, ?_⟩
  · rw [hr]; exact h
  · rw [hg, hx]; rfl
theorem rd_of {f : FuncId} {args : List GV} {σ : Heap} {T : Nat} {P : Option (α × ByteArray)} {z0 z : GV} {en : α → GV} (hz : Sub z z0) (hi : idb 1 z = true) (he : ∀ a, idb 1 (en a) = true) (h : Hf pg f 1 args σ (rdR T P z0 en)) : Hf pg f 1 args σ (rdQ T P z en) := by
  cases P with
  | none =>
    refine (Hf.recell ((Hf.sub (Q' := fun g σ n => g = z ∧ (∃ s' c, hlook σ 0 = some (.blk T [gs s', c]) ∧ eqG (.b true) c) ∧ Nat.ble 1 n = true) h fun g σ' n' hq => ⟨z, by rw [hq.2.1]; exact hz, rfl, hq.2.2, hq.1⟩)) 0 (Q' := fun g σ n => g = z ∧ (∃ s', hlook σ 0 = some (.blk T [gs s', .b true])) ∧ Nat.ble 1 n = true) ?_).weak ?_
    · rintro g σ' n' ⟨rfl, ⟨s', c, hl, hc⟩, hn⟩
      exact ⟨_, _, [gs s', .b true], hl, ⟨rfl, hc, trivial⟩, rfl, ⟨s', hset_look hl _⟩, hn⟩
    · rintro g σ' n' ⟨rfl, ⟨s', hl⟩, hn⟩
      obtain ⟨r, g0, τ, m, ⟨rfl, rfl, rfl⟩, h1⟩ := ids1 hl hi rfl rfl
      exact ⟨r, _, _, _, ⟨rfl, rfl, s', rfl⟩, h1⟩
  | some x =>
    refine h.weak ?_
    rintro g σ' n' ⟨hn, rfl, hl⟩
    obtain ⟨r, g0, τ, m, ⟨rfl, rfl, rfl⟩, h1⟩ := ids1 hl (he x.1) rfl rfl
    exact ⟨r, _, _, _, ⟨rfl, rfl, rfl⟩, h1⟩
theorem rdN {f : FuncId} {args : List GV} {σ : Heap} {T : Nat} {P : Option (α × ByteArray)} {z : GV} {en : α → GV} (h : Hf pg f 1 args σ (rdQ T P z en)) (hP : P = none) : Hf pg f 1 args σ fun g σ n => g = z ∧ (∃ s', σ = [(0, .blk T [gs s', .b true])]) ∧ n = 1 := by
  subst hP
  exact h.imp fun g σ' n' ⟨h1, h2, h3⟩ => ⟨h2, h3, h1⟩
theorem rdS {f : FuncId} {args : List GV} {σ : Heap} {T : Nat} {P : Option (α × ByteArray)} {z : GV} {en : α → GV} {x : α} {r : ByteArray} (h : Hf pg f 1 args σ (rdQ T P z en)) (hP : P = some (x, r)) : Hf pg f 1 args σ fun g σ n => g = en x ∧ σ = [(0, .blk T [gs r, .b false])] ∧ n = 1 := by
  subst hP
  exact h.imp fun g σ' n' ⟨h1, h2, h3⟩ => ⟨h2, h3, h1⟩
end
/-- A reader that is bad reads nothing. -/
def okP {α : Type} (b : Bool) (P : Option α) : Option α := bif b then none else P
abbrev g64 (n : Nat) : GV := .v (.int .u64 (n : Int))
theorem take_step {s : ByteArray} {i : Nat} (h : i < s.size) : beN (s.data.toList.take (i + 1)) = beN (s.data.toList.take i) * 256 + s[i].toNat := by
  have hl : i < s.data.toList.length := h
  rw [List.take_add_one, List.getElem?_eq_getElem hl, Option.toList_some, beN_snoc]
  rfl
theorem be_lt (s : ByteArray) (i : Nat) (hi : i < 8) : beN (s.data.toList.take i) < 72057594037927936 := by
  have h := beN_lt (s.data.toList.take i)
  have h2 : (s.data.toList.take i).length ≤ 7 := by rw [List.length_take]; omega
  exact Nat.lt_of_lt_of_le h (Nat.le_trans (Nat.pow_le_pow_right (by decide) h2) (by decide))
theorem num_step {s : ByteArray} {i : Nat} (h : i < s.size) (hi : i < 8) : bitsV .or .u64 (IntKind.u64.wrap ((beN (s.data.toList.take i) : Int) * 2 ^ 8)) (IntKind.u64.wrap (s[i].toNat : Int)) = ((beN (s.data.toList.take (i + 1)) : Nat) : Int) := by
  have hb := s[i].toNat_lt
  have hu := be_lt s i hi
  rw [take_step h]
  generalize beN (s.data.toList.take i) = u at *
  generalize s[i].toNat = b at *
  have e1 : IntKind.u64.wrap ((u : Int) * 2 ^ 8) = ((u * 256 : Nat) : Int) := by rw [IntKind.wrap_u64]; omega
  have e2 : IntKind.u64.wrap (b : Int) = (b : Int) := by rw [IntKind.wrap_u64]; omega
  rw [e1, e2]
  show IntKind.u64.wrap (((BitVec.ofInt 64 ((u * 256 : Nat) : Int)) ||| (BitVec.ofInt 64 (b : Int))).toNat : Int) = _
  rw [BitVec.ofInt_natCast, BitVec.ofInt_natCast, BitVec.toNat_or, BitVec.toNat_ofNat, BitVec.toNat_ofNat, Nat.mod_eq_of_lt (by omega), Nat.mod_eq_of_lt (by omega)]
  have := Nat.two_pow_add_eq_or_of_lt (i := 8) (b := b) (by omega) u
  rw [show u * 256 = 2 ^ 8 * u by omega, ← this, IntKind.wrap_u64]
  omega
end Go.Proofs.YtaahmenpcpjbhaaGreatDoor
/-
  Contracts: a reader of bytes (code.Reader): a size, a text, labels; whether it is bad, whether it is done.
-/
namespace Go.Proofs.YtaahmenpcpjbhaaGreatDoor
open Go.GK Go.PL Go.RowKit
set_option maxRecDepth 100000
theorem okP_none {α β : Type} {b : Bool} {P : Option α} {Q : Option β} (h : okP b P = none) (hQ : P = none → Q = none) : okP b Q = none := by
  cases b with
  | true => rfl
  | false => exact hQ h
theorem okP_some {α : Type} {b : Bool} {P : Option α} {x : α} (h : okP b P = some x) : b = false ∧ P = some x := by
  cases b with
  | true => cases h
  | false => exact ⟨rfl, h⟩
def sizeP (m : Int) (s : ByteArray) : Option (Int × ByteArray) := match numP s with
  | none => none
  | some (n, r) => if 0 ≤ n ∧ n ≤ m then some (n, r) else none
theorem sizeP_size {m n : Int} {s r : ByteArray} (h : sizeP m s = some (n, r)) : r.size + 8 = s.size ∧ 0 ≤ n ∧ n ≤ m ∧ numP s = some (n, r) := by
  unfold sizeP at h
  cases hn : numP s with
  | none => rw [hn] at h; cases h
  | some x =>
    obtain ⟨k, r0⟩ := x
    rw [hn] at h
    simp only at h
    split at h
    · rename_i hc
      cases h
      exact ⟨(numP_size hn).1, hc.1, hc.2, rfl⟩
    · cases h
theorem textP_none {s : ByteArray} (h : sizeP s.size s = none) : textP s = none := by
  unfold sizeP at h
  unfold textP
  cases hn : numP s with
  | none => rfl
  | some x =>
    obtain ⟨n, r⟩ := x
    rw [hn] at h
    have h0 := (numP_size hn).1
    simp only at h ⊢
    split at h
    · cases h
    · rename_i hc
      exact if_neg (by omega)
theorem cut0 (s : ByteArray) : s.extract 0 0 = ByteArray.empty := by
  apply ByteArray.ext
  simp
def emptyB (s : ByteArray) : Bool := decide (s.size = 0)
end Go.Proofs.YtaahmenpcpjbhaaGreatDoor
/-
  Contracts: a reader of bytes (code.Reader): labels.
-/
namespace Go.Proofs.YtaahmenpcpjbhaaGreatDoor
open Go.GK Go.PL Go.RowKit
set_option maxRecDepth 100000
theorem lb_snoc (l : List Lb) (x : Lb) : some (Res.row 31 2 (l.map lb ++ [lb x])) = some (Res.row 31 2 ((l ++ [x]).map lb)) := by rw [List.map_append]; rfl
def lrP (s : ByteArray) : Option (List Lb × ByteArray) := match labelsP s with
  | none => none
  | some (l, r) => if rightF l = true then some (l, r) else none
end Go.Proofs.YtaahmenpcpjbhaaGreatDoor
/-
  Contracts: package bits.
-/
namespace Go.Proofs.YtaahmenpcpjbhaaGreatDoor
open Go.GK Go.PL
set_option maxRecDepth 100000
abbrev gu (x : Nat) : GV := .v (.int .u64 (x : Int))
theorem tmod8 (n : Nat) : ((n : Int).tmod 8) = ((n % 8 : Nat) : Int) := by rw [Int.tmod_eq_emod_of_nonneg (by omega)]; rfl
theorem tdiv8 (n : Nat) : ((n : Int).tdiv 8) = ((n / 8 : Nat) : Int) := by rw [Int.tdiv_eq_ediv_of_nonneg (by omega)]; rfl

theorem sizes_at (k : Nat) (h : k ≤ 6) : (List.drop ((k : Int).toNat * 1) (([0, 4, 7, 12, 20, 32, 64] : List Int).map fun x => GV.v (.int .i64 x)))[0]? = some (gi (sizeF k : Nat)) := by
  match k, h with
  | 0, _ => rfl
  | 1, _ => rfl
  | 2, _ => rfl
  | 3, _ => rfl
  | 4, _ => rfl
  | 5, _ => rfl
  | 6, _ => rfl
theorem sizeF_le (k : Nat) : sizeF k ≤ 64 := by
  by_cases h : k ≤ 6
  · match k, h with
    | 0, _ => decide
    | 1, _ => decide
    | 2, _ => decide
    | 3, _ => decide
    | 4, _ => decide
    | 5, _ => decide
    | 6, _ => decide
  · unfold sizeF
    rw [List.getD_eq_getElem?_getD, List.getElem?_eq_none (by simp; omega)]
    decide
theorem sizeF_lt {k : Nat} (h : k < 6) : sizeF k < 64 := by
  match k, h with
  | 0, _ => decide
  | 1, _ => decide
  | 2, _ => decide
  | 3, _ => decide
  | 4, _ => decide
  | 5, _ => decide
theorem pfx_step {f k : Nat} {B : List Bool} {b : Bool} (h : B[0]? = some b) : pfx (f + 1) k B = if b then pfx f (k + 1) (B.drop 1) else some (k, B.drop 1) := by
  cases B with
  | nil => cases h
  | cons x B => simp at h; subst h; rfl
theorem pfx_nil {f k : Nat} {B : List Bool} (h : B = []) : pfx (f + 1) k B = none := by subst h; rfl
end Go.Proofs.YtaahmenpcpjbhaaGreatDoor
/-
  Contracts: package chunk, writing.
-/
namespace Go.Proofs.YtaahmenpcpjbhaaGreatDoor
open Go.GK Go.PL
set_option maxRecDepth 100000
end Go.Proofs.YtaahmenpcpjbhaaGreatDoor
/-
  Contracts: package chunk, reading.
-/
namespace Go.Proofs.YtaahmenpcpjbhaaGreatDoor
open Go.GK Go.PL
set_option maxRecDepth 100000
theorem strEq (a b : ByteArray) : (a.toList == b.toList) = decide (a = b) := by
  rw [Bool.eq_iff_iff]
  simp only [beq_iff_eq, decide_eq_true_eq]
  constructor
  · intro h
    rw [ByteArray.toList_eq, ByteArray.toList_eq] at h
    exact WideShapes.bytes_inj h
  · intro h; rw [h]
/-- What reading comes to. -/
def ReadQ (s : ByteArray) (g : GV) : Prop :=
  (∃ l, okS l = true ∧ V64 l ∧ s = enc l ∧ g = .tup [.sl 2 (l.map sm), .v .nilIface]) ∨
  ((∀ l, okS l = true → V64 l → s ≠ enc l) ∧ g = .tup [.v (.slice none 0 0), .ifc 38 (gi 3)])
theorem ReadQ.no {s : ByteArray} (h : ∀ l, okS l = true → V64 l → s ≠ enc l) : ReadQ s (.tup [.v (.slice none 0 0), .ifc 38 (gi 3)]) ∧ idb 0 (.tup [.v (.slice none 0 0), .ifc 38 (gi 3)]) = true := ⟨.inr ⟨h, rfl⟩, rfl⟩
/-- What is known in a round: where the text is samples' bytes, what of it was read. -/
def Part (s : ByteArray) (n i : Nat) (li : List Sm) (last : Sm) (step : Int) (p : Nat) : Prop :=
  ∀ L, okS L = true → V64 L → s = enc L → n = L.length ∧ li = L.take i ∧ ∃ z, (sb s).drop p = chunkR (L.drop i) last step (i == 0) ++ z
end Go.Proofs.YtaahmenpcpjbhaaGreatDoor
/-
  Contracts: a reader of bytes (code.Reader): series.
-/
namespace Go.Proofs.YtaahmenpcpjbhaaGreatDoor
open Go.GK Go.PL Go.RowKit
set_option maxRecDepth 100000
theorem Rq_ct {f : FuncId} {args : List GV} {Q : GV → Prop} (hc : ∀ a w, (callFunc f a).run pg.P w = .ok (.enter f a) w) (h : Ct pg f 0 args [] (Val Q)) (hi : ∀ g, Q g → idb 0 g = true) : Rq pg f args Q :=
  ⟨hc, fun H us w hn hg hcs hs => (h H us w hn hg hcs hs).mono fun _ _ ⟨u, g, H', σ', e', hi', hs', hfr, hv, r⟩ => ⟨u, g, H', σ', e', hi', hs', hfr, ⟨hv, hi g hv⟩, r⟩⟩
theorem ReadQ.id {t : ByteArray} {g : GV} (h : ReadQ t g) : idb 0 g = true := by
  rcases h with ⟨l, _, _, _, rfl⟩ | ⟨_, rfl⟩ <;> rfl
theorem sersP_next {i : Nat} {s s1 : ByteArray} {l : List Ser} (h : sersP i s = some (l, s1)) : sersP (i + 1) s = (match oneP s1 with | none => none | some (x, r) => some (l ++ [x], r)) := by
  conv => lhs; unfold sersP
  rw [h]
  rfl
theorem oneP_lr (s : ByteArray) : oneP s = (match lrP s with | none => none | some (l, r) => (match textP r with | none => none | some (t, r2) => match decS t with | none => none | some xs => some (⟨l, xs⟩, r2))) := by
  unfold oneP lrP
  cases labelsP s with
  | none => rfl
  | some x =>
    obtain ⟨l, r⟩ := x
    simp only
    by_cases h : rightF l = true
    · rw [if_pos h, if_pos h]
      rfl
    · rw [if_neg h, if_neg h]
theorem lrP_size {s r : ByteArray} {l : List Lb} (h : lrP s = some (l, r)) : r.size ≤ s.size := by
  unfold lrP at h
  cases hl : labelsP s with
  | none => rw [hl] at h; cases h
  | some x =>
    obtain ⟨l0, r0⟩ := x
    rw [hl] at h
    have := (labelsP_size hl).1
    simp only at h
    split at h
    · cases h; omega
    · cases h
/-- A bool that is known, or told. -/
def cl (v b : Bool) : GV := bif v then .v (.bool b) else .b b
theorem cl_eq (v b : Bool) : eqG (.b b) (cl v b) := by cases v <;> rfl
end Go.Proofs.YtaahmenpcpjbhaaGreatDoor
/-
  Contracts: a writer of bytes (code.Writer).
-/
namespace Go.Proofs.YtaahmenpcpjbhaaGreatDoor
open Go.GK Go.PL Go.RowKit
set_option maxRecDepth 100000
theorem be8_at {u j : Nat} (h : j < 8) : (be8 u)[j]? = some (UInt8.ofNat (u / 2 ^ (8 * (7 - j)))) := by
  match j, h with
  | 0, _ | 1, _ | 2, _ | 3, _ | 4, _ | 5, _ | 6, _ => rfl
  | 7, _ => show some (UInt8.ofNat u) = some (UInt8.ofNat (u / 1)); rw [Nat.div_one]
theorem num_row (bs : List UInt8) (n : Int) (j : Nat) (h : j < 8) (X : Int) (hX : X = ((UInt8.ofNat (uN n / 2 ^ (8 * (7 - j)))).toNat : Int)) :
    some (Res.row 5 1 ((bs ++ (be8 (uN n)).take j).map byRow ++ [[GV.v (.int .u8 X)]])) = some (Res.row 5 1 ((bs ++ (be8 (uN n)).take (j + 1)).map byRow)) := by
  refine congrArg (fun x => some (Res.row 5 1 x)) ?_
  rw [List.take_add_one, be8_at h, hX]
  simp only [List.map_append, List.append_assoc]
  rfl
theorem u8lo {n : Nat} : IntKind.u8.wrap (n : Int) = ((UInt8.ofNat n).toNat : Int) := by
  rw [UInt8.toNat_ofNat']
  simp [IntKind.wrap, IntKind.signed, IntKind.bits]
theorem num_byte (n : Int) (j : Nat) (h : j < 8) : IntKind.u8.wrap ((IntKind.u64.wrap n).fdiv (2 ^ min (IntKind.i64.wrap (8 * (7 - (j : Int)))).toNat IntKind.u64.bits)) = ((UInt8.ofNat (uN n / 2 ^ (8 * (7 - j)))).toNat : Int) := by
  have e1 : IntKind.i64.wrap (8 * (7 - (j : Int))) = ((8 * (7 - j) : Nat) : Int) := by rw [wrap_id (by omega) (by omega)]; omega
  have e2 : IntKind.u64.wrap n = ((uN n : Nat) : Int) := by rw [IntKind.wrap_u64]; unfold uN; omega
  rw [e1, e2, show IntKind.u64.bits = 64 from rfl, fdiv_pow (uN n) (8 * (7 - j)) 64 (by omega), u8lo, Nat.shiftRight_eq_div_pow]
theorem wrT_list (s : ByteArray) : (wrT s).data.toList = be8 (uN s.size) ++ s.data.toList := by
  unfold wrT
  rw [ByteArray.data_append, Array.toList_append]
  rfl
theorem bl_size (s : ByteArray) : s.data.toList.length = s.size := rfl
theorem bl_app (a b : ByteArray) : (a ++ b).data.toList = a.data.toList ++ b.data.toList := by rw [ByteArray.data_append, Array.toList_append]
theorem wrP_snoc (l : List Lb) (x : Lb) : (wrP (l ++ [x])).data.toList = (wrP l).data.toList ++ (wrT x.name).data.toList ++ (wrT x.value).data.toList := by
  rw [wrP_app, bl_app]
  simp only [wrP, app_nil, bl_app, List.append_assoc]
theorem wrP_le (l : List Lb) (j : Nat) : (wrP (l.take j)).size ≤ (wrP l).size := by
  conv => rhs; rw [← List.take_append_drop j l, wrP_app, ByteArray.size_append]
  omega
theorem wrP_big (l : List Lb) : 16 * l.length ≤ (wrP l).size := by
  induction l with
  | nil => exact Nat.le_refl _
  | cons x l ih =>
    have h1 : (wrT x.name).size = 8 + x.name.size := by unfold wrT; rw [ByteArray.size_append, wrN_size]
    have h2 : (wrT x.value).size = 8 + x.value.size := by unfold wrT; rw [ByteArray.size_append, wrN_size]
    simp only [wrP, ByteArray.size_append, List.length_cons]
    omega
end Go.Proofs.YtaahmenpcpjbhaaGreatDoor
/-
  Contracts: series written (code.Series).
-/
namespace Go.Proofs.YtaahmenpcpjbhaaGreatDoor
open Go.GK Go.PL Go.RowKit
set_option maxRecDepth 100000
noncomputable def goodB (x : Ser) : Bool := okS x.samples && rightF x.labels
/-- The first that may not be. -/
noncomputable def badI (l : List Ser) : Option Nat := l.findIdx? fun x => !goodB x
theorem badI_none {l : List Ser} (h : ∀ i (hi : i < l.length), goodB l[i] = true) : badI l = none := by
  unfold badI
  rw [List.findIdx?_eq_none_iff]
  intro x hx
  obtain ⟨i, hi, rfl⟩ := List.mem_iff_getElem.1 hx
  rw [h i hi]
  rfl
theorem badI_some {l : List Ser} {j : Nat} (hj : j < l.length) (hb : goodB l[j] = false) (h : ∀ i (hi : i < j), goodB (l[i]'(by omega)) = true) : badI l = some j := by
  unfold badI
  rw [List.findIdx?_eq_some_iff_getElem]
  exact ⟨hj, by rw [hb]; rfl, fun k hk => by rw [h k hk]; decide⟩
theorem wrR_snoc (l : List Ser) (x : Ser) : (wrR (l ++ [x])).data.toList = (wrR l).data.toList ++ (wrL x.labels).data.toList ++ (wrT (enc x.samples)).data.toList := by
  rw [wrR_app, bl_app]
  simp only [wrR, app_nil]
  unfold wr1
  rw [bl_app, List.append_assoc]
theorem wrR_le (l : List Ser) (j : Nat) : (wrR (l.take j)).size ≤ (wrR l).size := by
  conv => rhs; rw [← List.take_append_drop j l, wrR_app, ByteArray.size_append]
  omega
def SerQ (l : List Ser) (b : Option Nat) : GV → Heap → Nat → Prop := fun g σ n => match b with
  | none => g = .tup [gs (wrS l), .v .nilIface] ∧ σ = [] ∧ n = 0
  | some i => g = .tup [gs ⟨#[]⟩, .ifc 68 (.p 0 0)] ∧ σ = [(0, .blk 69 [gi 1, gi i])] ∧ n = 1
def SerR (l : List Ser) (b : Option Nat) : GV → Heap → Nat → Prop := fun g σ _ => match b with
  | none => g = .tup [gs (wrS l), .v .nilIface]
  | some i => ∃ k, g = .tup [gs ⟨#[]⟩, .ifc 68 (.p k 0)] ∧ hlook σ k = some (.blk 69 [gi 1, gi i])
end Go.Proofs.YtaahmenpcpjbhaaGreatDoor
/-
  Series that are short; what code.Series says of good ones and of others.
-/
namespace Go.Proofs.YtaahmenpcpjbhaaGreatDoor
open Go.GK Go.PL Go.RowKit
set_option maxRecDepth 100000
theorem shL_small {l : List Lb} (h : shL l = true) : l.length ≤ 20 ∧ ∀ x ∈ l, x.name.size ≤ 60 ∧ x.value.size ≤ 60 := by
  unfold shL at h
  rw [Bool.and_eq_true, decide_eq_true_iff, Bool.not_eq_true'] at h
  refine ⟨h.1, fun x hx => ?_⟩
  obtain ⟨i, hi, rfl⟩ := List.getElem_of_mem hx
  have := anyB_get h.2 i hi
  rw [show l.getD i default = l[i] by simp [hi], Bool.or_eq_false_iff, decide_eq_false_iff_not, decide_eq_false_iff_not] at this
  omega
def badS (l : List Ser) (i : Nat) : Bool := match l[i]? with | some x => !shL x.labels || decide (60 < x.samples.length) | none => false
theorem badS_at {l : List Ser} {i : Nat} (h : i < l.length) : badS l i = (!shL l[i].labels || decide (60 < l[i].samples.length)) := by unfold badS; rw [List.getElem?_eq_getElem h]
def shS (l : List Ser) : Bool := decide (l.length ≤ 20) && !anyB l.length (badS l)
theorem shS_small {l : List Ser} (h : shS l = true) : l.length ≤ 20 ∧ ∀ x ∈ l, shL x.labels = true ∧ x.samples.length ≤ 60 := by
  unfold shS at h
  rw [Bool.and_eq_true, decide_eq_true_iff, Bool.not_eq_true'] at h
  refine ⟨h.1, fun x hx => ?_⟩
  obtain ⟨i, hi, rfl⟩ := List.getElem_of_mem hx
  have := anyB_get h.2 i hi
  rw [badS_at hi] at this
  simp only [Bool.or_eq_false_iff, Bool.not_eq_false', decide_eq_false_iff_not] at this
  exact ⟨this.1, by omega⟩
theorem badI_good {l : List Ser} (h : ∀ x ∈ l, GoodS x) : badI l = none := badI_none fun i hi => by
  obtain ⟨h1, h2, h3⟩ := h l[i] (List.getElem_mem hi)
  unfold goodB
  rw [h1, h2]
  rfl
theorem badI_all {l : List Ser} (h : badI l = none) : ∀ x ∈ l, rightF x.labels = true ∧ okS x.samples = true := by
  unfold badI at h
  rw [List.findIdx?_eq_none_iff] at h
  intro x hx
  have := h x hx
  unfold goodB at this
  rw [Bool.not_eq_false', Bool.and_eq_true] at this
  exact ⟨this.2, this.1⟩
theorem good_sh {x : Ser} (h : GoodS x) : Sh x.labels := fun y hy => by have := ((right_small h.1).2 y hy).2; omega
theorem size_short {l : List Ser} (h : shS l = true) : (wrS l).size ≤ 100000 := by
  obtain ⟨h1, h2⟩ := shS_small h
  have hP : ∀ m : List Lb, (∀ x ∈ m, x.name.size ≤ 60 ∧ x.value.size ≤ 60) → (wrP m).size ≤ 136 * m.length := by
    intro m
    induction m with
    | nil => intro _; exact Nat.le_refl _
    | cons x m ih =>
      intro hm
      have h3 := hm x (by simp)
      have h4 := ih fun y hy => hm y (by simp [hy])
      have h5 : (wrT x.name).size = 8 + x.name.size := by unfold wrT; rw [ByteArray.size_append, wrN_size]
      have h6 : (wrT x.value).size = 8 + x.value.size := by unfold wrT; rw [ByteArray.size_append, wrN_size]
      simp only [wrP, ByteArray.size_append, List.length_cons]
      omega
  have hR : ∀ m : List Ser, (∀ x ∈ m, shL x.labels = true ∧ x.samples.length ≤ 60) → (wrR m).size ≤ 4000 * m.length := by
    intro m
    induction m with
    | nil => intro _; exact Nat.le_refl _
    | cons x m ih =>
      intro hm
      obtain ⟨h3, h3'⟩ := hm x (by simp)
      have h4 := ih fun y hy => hm y (by simp [hy])
      obtain ⟨h5, h6⟩ := shL_small h3
      have h7 := hP x.labels h6
      have h8 := chunkF_len x.samples
      have h9 : (enc x.samples).size = ((chunkF x.samples).length + 7) / 8 := by
        show (pack (chunkF x.samples)).toArray.size = _
        rw [List.size_toArray, pack_len]
      have h10 : (wr1 x).size = 8 + (wrP x.labels).size + (8 + (enc x.samples).size) := by
        unfold wr1 wrL wrT
        simp only [ByteArray.size_append, wrN_size]
      simp only [wrR, ByteArray.size_append, List.length_cons]
      omega
  have h3 := hR l h2
  have h4 : (wrS l).size = 8 + (wrR l).size := by unfold wrS; rw [ByteArray.size_append, wrN_size]
  omega
end Go.Proofs.YtaahmenpcpjbhaaGreatDoor
/-
  Contracts: series that are short (the laws').
-/
namespace Go.Proofs.YtaahmenpcpjbhaaGreatDoor
open Go.GK Go.PL Go.RowKit
set_option maxRecDepth 100000
theorem lshortS_rt (l : List Ser) : Rt pg 8 [ses l] (.b (shS l)) := by
  refine Rt.of pg_ok Tryz.func8 rfl Tryz.ntmps8 rfl Tryz.results8 Tryz.call8 fun H0 S0 w0 h0 g0 => ?_
  have hll : (l.map se).length = l.length := by simp
  unfold shS
  by_cases hl : l.length ≤ 20
  · refine p2 ?_
    refine JK.loop (α := Nat) (fun i => ⟨[(0, ses l), (3, gi i)], [], 0⟩) (fun i => i ≤ l.length ∧ ∀ j, j < i → badS l j = false) (fun i => l.length - i) 0 id ?_ ⟨Nat.zero_le _, fun j hj => absurd hj (by omega)⟩ ?_
    · exact ⟨⟨rfl, rfl, trivial⟩, trivial, rfl⟩
    · rintro i ⟨hi, hgood⟩
      refine V ?_
      by_cases hlt : i < l.length
      · have hg := badS_at hlt
        have hbad : (!shL l[i].labels || decide (60 < l[i].samples.length)) = true → (decide (l.length ≤ 20) && !anyB l.length (badS l)) = false := fun h => by rw [anyB_true hlt (by rw [hg]; exact h)]; simp
        have hnext : (!shL l[i].labels || decide (60 < l[i].samples.length)) = false → ∀ j, j < i + 1 → badS l j = false := fun h j hj => by
          rcases Nat.lt_succ_iff_lt_or_eq.1 hj with h1 | h1
          · exact hgood j h1
          · subst h1; rw [hg]; exact h
        refine p1 ?_ (decide_eq_true (by omega))
        refine ix (h := ?_)
        have hsm : (l[i].samples.map sm).length = l[i].samples.length := by simp
        rcases tf (shL l[i].labels) with h1 | h1
        · refine GO ((shortL_rt l[i].labels).bt h1) rfl ?_
          repeat (first | refine p1 ?_ | refine p2 ?_ | refine p3 ?_ | refine p4 ?_)
          refine ix (h := ?_)
          by_cases h2 : 60 < l[i].samples.length
          · refine p1 ?_ (decide_eq_true (by omega))
            exact ⟨(hbad (by rw [decide_eq_true h2, Bool.or_true])).symm, rfl⟩
          · refine p2 ?_ (decide_eq_false (by omega))
            exact ⟨i + 1, id, ⟨⟨rfl, succ_gi (by omega), trivial⟩, trivial, rfl⟩, ⟨hlt, hnext (by rw [decide_eq_false h2, h1]; rfl)⟩, by show l.length - (i + 1) < l.length - i; omega⟩
        · refine GO ((shortL_rt l[i].labels).bt h1) rfl ?_
          repeat (first | refine p1 ?_ | refine p2 ?_ | refine p3 ?_ | refine p4 ?_)
          exact ⟨(hbad (by rw [h1]; rfl)).symm, rfl⟩
      · refine p2 ?_ (decide_eq_false (by omega))
        refine V ?_
        obtain rfl : i = l.length := by omega
        exact ⟨by rw [anyB_false hgood, decide_eq_true hl]; rfl, rfl⟩
  · refine p1 ?_
    exact ⟨by rw [decide_eq_false hl]; rfl, rfl⟩
end Go.Proofs.YtaahmenpcpjbhaaGreatDoor
/-
  Contracts: the document's reader (ref.Taker): a number, a text.
-/
namespace Go.Proofs.YtaahmenpcpjbhaaGreatDoor
open Go.GK Go.PL Go.RowKit
set_option maxRecDepth 100000
theorem num_step2 {s : ByteArray} {i : Nat} (h : i < s.size) (hi : i < 8) : IntKind.u64.wrap (IntKind.u64.wrap ((beN (s.data.toList.take i) : Int) * 256) + IntKind.u64.wrap (s[i].toNat : Int)) = ((beN (s.data.toList.take (i + 1)) : Nat) : Int) := by
  have hb := s[i].toNat_lt
  have hu := be_lt s i hi
  rw [take_step h]
  generalize beN (s.data.toList.take i) = u at *
  generalize s[i].toNat = b at *
  simp only [IntKind.wrap_u64]
  omega
end Go.Proofs.YtaahmenpcpjbhaaGreatDoor
/-
  Contracts: the document's reader (ref.Taker): series.
-/
namespace Go.Proofs.YtaahmenpcpjbhaaGreatDoor
open Go.GK Go.PL Go.RowKit
set_option maxRecDepth 100000
end Go.Proofs.YtaahmenpcpjbhaaGreatDoor
/-
  Contracts: whether samples are the same.
-/
namespace Go.Proofs.YtaahmenpcpjbhaaGreatDoor
open Go.GK Go.PL
set_option maxRecDepth 100000
def eqSmL (a b : Sm) : Bool := a.time == b.time && (a.value == b.value && true)
theorem eqSmL_iff (a b : Sm) : eqSmL a b = true ↔ a = b := by
  obtain ⟨a1, a2⟩ := a
  obtain ⟨b1, b2⟩ := b
  simp [eqSmL]
theorem sameSL_ct (a b : List Sm) : Ct pg 36 0 [.sl 2 (a.map sm), .sl 2 (b.map sm)] [] (Val fun g => g = .b (decide (a = b))) := by
  refine Ct.len 0 rfl fun hlen _ => ?_
  have hlen' : a.length ≤ 9223372036854775807 := by simpa [maxLen] using hlen
  refine Ct.bool (Ct.of_JK pg_ok Tryz.func36 rfl Tryz.ntmps36 rfl Tryz.results36 fun H0 S0 w0 h0 g0 => ?_)
  refine vc_sound pg_ok 200 _ _ ?_
  refine ⟨fun hb => ?_, fun hb => ?_⟩
  · refine .inl (congrArg (fun c => GV.v (.bool c)) ?_)
    have : a ≠ b := fun e => by subst e; simp at hb
    exact (decide_eq_false this).symm
  · have hl : a.length = b.length := by simp at hb; omega
    refine JK.loop (α := Nat) (fun i => ⟨[(0, .sl 2 (a.map sm)), (1, .sl 2 (b.map sm)), (5, gi i)], [], 0⟩) (fun i => i ≤ a.length ∧ ∀ j, j < i → a[j]? = b[j]?) (fun i => a.length - i) 0 id ?_ ⟨Nat.zero_le _, fun j hj => absurd hj (by omega)⟩ ?_
    · exact ⟨⟨rfl, rfl, rfl, trivial⟩, trivial, rfl⟩
    · rintro i ⟨hi, hgood⟩
      refine vc_sound pg_ok 200 _ _ ?_
      refine ⟨fun hb => ?_, fun hb => ?_⟩
      · have hlt : i < a.length := by simpa using hb
        have hlt' : i < b.length := by omega
        refine ⟨by kernel_rfl, ?_⟩
        refine idx i rfl hlt ?_
        refine idx i rfl hlt' ?_
        refine ⟨fun hc => ?_, fun hc => ?_⟩
        · refine .inl (congrArg (fun c => GV.v (.bool c)) ?_)
          have hne : a ≠ b := fun e => by
            subst e
            have : eqSmL a[i] a[i] = true := (eqSmL_iff _ _).2 rfl
            have hc' : (!eqSmL a[i] a[i]) = true := hc
            rw [this] at hc'
            cases hc'
          exact (decide_eq_false hne).symm
        · refine ⟨i + 1, id, ⟨⟨rfl, rfl, (by rw [wrap_id (by omega) (by omega)]; rfl), trivial⟩, trivial, rfl⟩, ⟨hlt, fun j hj => ?_⟩, by show a.length - (i + 1) < a.length - i; omega⟩
          rcases Nat.lt_succ_iff_lt_or_eq.1 hj with h1 | h1
          · exact hgood j h1
          · subst h1
            have hc' : (!eqSmL a[j] b[j]) = false := hc
            have : a[j] = b[j] := (eqSmL_iff _ _).1 (by simpa using hc')
            rw [List.getElem?_eq_getElem hlt, List.getElem?_eq_getElem hlt', this]
      · have hge : i = a.length := by simp at hb; omega
        refine vc_sound pg_ok 200 _ _ ?_
        refine .inl (congrArg (fun c => GV.v (.bool c)) ?_)
        have : a = b := List.ext_getElem? fun j => by
          by_cases hj : j < a.length
          · exact hgood j (by omega)
          · rw [List.getElem?_eq_none (by omega), List.getElem?_eq_none (by omega)]
        exact (decide_eq_true this).symm
end Go.Proofs.YtaahmenpcpjbhaaGreatDoor
/-
  Contracts: whether series are the same (of the same ones).
-/
namespace Go.Proofs.YtaahmenpcpjbhaaGreatDoor
open Go.GK Go.PL Go.RowKit
set_option maxRecDepth 100000
theorem sameSeriesL_rt (l : List Ser) : Rt pg 13 [ses l, ses l] (.b true) := by
  refine Rt.of pg_ok Tryz.func13 rfl Tryz.ntmps13 rfl Tryz.results13 Tryz.call13 fun H0 S0 w0 h0 g0 => ?_
  refine p2 ?_ (by simp)
  refine JK.len 0 rfl fun hlen _ => ?_
  have hlen' : l.length ≤ 9223372036854775807 := by simpa [maxLen] using hlen
  refine JK.loop (α := Nat) (fun i => ⟨[(0, ses l), (1, ses l), (5, gi i)], [], 0⟩) (fun i => i ≤ l.length) (fun i => l.length - i) 0 id ?_ (Nat.zero_le _) ?_
  · exact ⟨⟨rfl, rfl, rfl, trivial⟩, trivial, rfl⟩
  · intro i hi
    refine V ?_
    by_cases h : i < l.length
    · refine p1 ?_ (decide_eq_true (by simp only [List.length_map]; omega))
      refine DRAW [] false (tk [0, 1, 2, 3, 4, 5, 6, 7, 8, 9]) (by kernel_rfl) ?_
      refine ix (h := ?_)
      refine ix (h := ?_)
      refine RGO 10 false (tk [11, 12, 13, 14, 15, 16, 17, 18, 19, 20, 21, 22]) ((sameL_rt l[i].labels l[i].labels).bt (d := true) (decide_eq_true ((cmpF_is.eq0 _ _).2 rfl))) rfl rfl (by kernel_rfl) ?_
      refine ix (h := ?_)
      refine ix (h := ?_)
      refine RGO 23 true (tk [24, 25]) ((Rq.old Tryz.call36 (sameSL_ct l[i].samples l[i].samples)).bt (d := true) (decide_eq_true rfl)) rfl rfl (by kernel_rfl) ?_
      refine V ?_
      exact ⟨i + 1, id, ⟨⟨rfl, rfl, succ_gi (by omega), trivial⟩, trivial, rfl⟩, h, by show l.length - (i + 1) < l.length - i; omega⟩
    · refine p2 ?_ (decide_eq_false (by simp only [List.length_map]; omega))
      refine V ?_
      exact ⟨rfl, rfl⟩
theorem sameNil_rt : Rt pg 13 [.v (.slice none 0 0), .v (.slice none 0 0)] (.b true) :=
  Rq.nl (pre := []) (z := 2) (suf := [.v (.slice none 0 0)]) (Rq.nl (pre := [.sl 2 []]) (z := 2) (suf := []) (sameSeriesL_rt []))
end Go.Proofs.YtaahmenpcpjbhaaGreatDoor
/-
  Turns of a head: what comes, what is cut off, what goes.
-/
namespace Go.Proofs.YtaahmenpcpjbhaaGreatDoor
open Go.GK Go.PL Go.RowKit
structure Tn where
  what : Int
  l : List Ser
  t : Int
  g : Gn
abbrev tn (x : Tn) : List GV := [gi x.what, ses x.l, gi x.t, .sl 3 (x.g.mt.map mt), gi x.g.lo, gi x.g.hi]
abbrev tns (l : List Tn) : GV := .sl 6 (l.map tn)
end Go.Proofs.YtaahmenpcpjbhaaGreatDoor
/-
  The ghost machine: cells of an own block that are told otherwise (a nil slice as an empty one).
-/
namespace Go.GK
open Go.RowKit
inductive SubV : List GV → List GV → Prop
  | nil : SubV [] []
  | cons {x y : GV} {xs ys : List GV} (h : Sub x y) (t : SubV xs ys) : SubV (x :: xs) (y :: ys)
theorem SubV.is {H : Hid} {F : Nat → Value} : ∀ {xs ys : List GV}, SubV xs ys → (∀ j g, ys[j]? = some g → Is H g (F j)) → xs.length = ys.length ∧ ∀ j g, xs[j]? = some g → Is H g (F j)
  | [], [], _, _ => ⟨_root_.rfl, fun j x h => by simp at h⟩
  | _ :: _, _ :: _, .cons h t, hF => by
    obtain ⟨h1, h2⟩ := SubV.is (F := fun j => F (j + 1)) t fun j g hj => hF (j + 1) g (by simpa using hj)
    refine ⟨by simp [h1], fun j x hx => ?_⟩
    cases j with
    | zero => simp at hx; subst hx; exact h (hF 0 _ (by simp))
    | succ j => exact h2 j x (by simpa using hx)
section
variable {cx : Cx} {T : Post}
/-- Cells of an own block are told otherwise. -/
theorem JK.subBlk {k : List It} {s : St} (id : Nat) {ty : Nat} {cs : List GV} (cs' : List GV) (hl : hlook s.σ id = some (.blk ty cs)) (he : SubV cs' cs) (h : nfH (hset s.σ id (.blk ty cs')) fun σ => JK cx T k ⟨s.ρ, σ, s.n⟩) : JK cx T k s := by
  rw [nfH_eq] at h
  refine JK.upd ⟨s.ρ, hset s.σ id (.blk ty cs'), s.n⟩ (fun H a w hg hs ha => ⟨H, hg, ?_, ha⟩) h
  obtain ⟨us', hw, hlen, his⟩ := hs.sat.holds _ (hlook_mem hl)
  obtain ⟨e4, e5⟩ := he.is (F := fun j => us'.getD j undef) his
  exact hs.put (y := .blk ty cs') (w' := w) hl rfl rfl rfl rfl (Nat.le_refl _) (fun _ _ _ => rfl) ⟨us', hw, by rw [e4]; exact hlen, e5⟩ s.ρ
/-- Of two operations that may come up at once, one may be a call that has own things. -/
theorem Stp.hf {ops : List Oper} {k : List It} {σs : Heap} {ρq : Env} {fuel : Nat} {listed : List Bool} {s : St} (i : Nat) {o : Oper} {f : FuncId} {m : Nat} {cargs gs : List GV} {σc : Heap} {Q : GV → Heap → Nat → Prop} (hr : Hf cx.pg f m cargs σc Q) (r : Nat → Nat) (hi : ops[i]? = some o) (hk : callG cx.pg ops s.ρ o = some (f, gs)) (hargs : gs = renL r cargs) (hσ : leσ r σc s.σ)
    (chk : (idbL m cargs && idbH m σc && distB (hids r σc)) = true) (hrn : ∀ i, i < m → r i < s.n)
    (h : ∀ g σ' n', Q g σ' n' → nf (ren (sh r m s.n) g) fun g => nfH (renH (sh r m s.n) σ' ++ hrest (hids r σc) s.σ) fun σ => nfN (s.n + (n' - m)) fun n => dputV cx.N s.ρ o.dst g fun ρ' => nfE (qput ρq o.dst g) fun ρq => RA cx T ops k σs ρq fuel (listed.set i true) ⟨ρ', σ, n⟩) : Stp cx T ops k σs ρq fuel listed s i o := by
  obtain ⟨fo, args, ts, first, caps, gs', ho', hgd, hf, he, hargs'⟩ := callG_spec hk
  refine ⟨hi, hgd, fun m0 H0 S0 w0 h0 g0 H a w K Q' hg hs ha _ hK => ?_⟩
  refine call_wp (cx := ⟨cx.pg, cx.N, m0, H0, S0, w0, h0, g0⟩) hr.ct hr.call r ho' hf he (hargs'.trans hargs) (σc := σc) hσ chk hrn hg hs ha.env fun H'' u g σ' n' w' hle hiu hQ hsim => ?_
  have h := h g σ' n' hQ
  simp only [nf_eq, nfH_eq, nfN_eq] at h
  rw [dputV_eq] at h
  simp only [nfE_eq] at h
  have hlt := dput_lt h
  obtain ⟨ρ', ha', hra⟩ := (ha.mono hle).dput hiu h
  exact hK H'' u _ w' ⟨ρ', _, _⟩ ρ' hle hiu (hsim ρ') ha' hlt hra
end
end Go.GK
/-
  HeadPlays: the law's walk.
-/
namespace Go.Proofs.YtaahmenpcpjbhaaGreatDoor
open Go.GK Go.PL Go.RowKit
set_option maxRecDepth 100000
def fX (i : Nat) : Ser := ⟨[⟨⟨#[102]⟩, ⟨#[UInt8.ofNat (48 + i)]⟩⟩], [⟨1099511627773, 1⟩]⟩
theorem tryH_ne' {mk : Int} : ∀ {l S : List Ser} {i : Nat} {e : Int × Nat}, tryH mk S l i = some e → e.1 ≠ 0
  | [], _, _, _, h => by cases h
  | x :: r, S, i, e, h => by
    unfold tryH at h
    split at h
    · exact tryH_ne' (l := r) h
    · rename_i hne
      cases h
      exact hne
theorem headF_p {mk : Int} {S l : List Ser} : (headF mk S l).1.2 = -1 ∨ ((headF mk S l).1.1 ≠ 0 ∧ 0 ≤ (headF mk S l).1.2) := by
  unfold headF
  split
  · exact .inl rfl
  · split
    · exact .inl rfl
    · rename_i e i ht
      exact .inr ⟨tryH_ne' ht, Int.natCast_nonneg i⟩
theorem isH_rt (mk : Int) (S l : List Ser) : Rt pg 7 [apG (headF mk S l).1, .agg [gi (headF mk S l).1.1, gi (headF mk S l).1.2]] (.v (.bool true)) := by
  have hp := headF_p (mk := mk) (S := S) (l := l)
  generalize (headF mk S l).1 = e at hp ⊢
  obtain ⟨c, p⟩ := e
  simp only at hp ⊢
  unfold apG
  by_cases hc : c = 0
  · subst hc
    rcases hp with rfl | ⟨h, _⟩
    · rw [if_pos rfl]
      exact (isE_rt none 0 (-1)).bt rfl
    · exact absurd rfl h
  · rw [if_neg hc]
    rcases hp with rfl | ⟨_, h⟩
    · rw [if_pos (show (-1 : Int) < 0 by decide)]
      exact (isE_rt (some c) c (-1)).bt (by simp [erN])
    · rw [if_neg (by simp only; omega)]
      exact (isAt_rt c p c p).bt (by simp)
theorem apG_cases (e : Int × Int) : apG e = .v .nilIface ∨ apG e = .ifc 38 (gi e.1) ∨ apG e = atG e.1 e.2 := by
  unfold apG
  by_cases h : e.1 = 0
  · exact .inl (if_pos h)
  · rw [if_neg h]
    by_cases h2 : e.2 < 0
    · exact .inr (.inl (if_pos h2))
    · exact .inr (.inr (if_neg h2))
theorem tm62 (x : Int) : IntKind.i64.wrap ((IntKind.u64.wrap x).tmod 62) ≤ 61 := by
  have h0 : 0 ≤ IntKind.u64.wrap x := by rw [IntKind.wrap_u64]; omega
  rw [Int.tmod_eq_emod_of_nonneg h0, wrap_id (by omega) (by omega)]
  omega
theorem _root_.Go.PL.HOk.bd {S : List Ser} (h : HOk S) : S.length ≤ 60 ∧ ∀ x ∈ S, x.samples.length ≤ 2000 ∧ x.labels.length ≤ 8 := ⟨h.len, fun x hx => by
  obtain ⟨a, b, _⟩ := h.each x hx
  exact ⟨((okS_iff _).1 b).2, (right_small a).1⟩⟩
theorem hp1_rt (x : Tn) (ls : List Lb) (t : Int) : Rt pg 12 [lbs ls, gi t, .r (tn x)] (.b (cutH x.t ls t)) := by
  refine Rt.of pg_ok Tryz.func12 rfl Tryz.ntmps12 rfl Tryz.results12 Tryz.call12 fun H0 S0 w0 h0 g0 => ?_
  exact ⟨rfl, rfl⟩
abbrev hpR (mk : Int) (S : List Ser) : Nat × Res := (2, .blk 27 [gi mk, ses S])
theorem headPlays_rt (mk : Int) (l : List Tn) (fill : Int) : Rt pg 3 [gi mk, tns l, gi fill] (.b true) := by
  refine Rt.of pg_ok Tryz.func3 rfl Tryz.ntmps3 rfl Tryz.results3 Tryz.call3 fun H0 S0 w0 h0 g0 => ?_
  have hll : (l.map tn).length = l.length := by simp
  by_cases h40 : 40 < l.length
  · refine p1 ?_ (decide_eq_true (by omega))
    exact ⟨rfl, rfl⟩
  refine p2 ?_ (decide_eq_false (by omega))
  refine GOH (hnew_hf mk) id rfl rfl trivial rfl (fun _ h => absurd h (Nat.not_lt_zero _)) ?_
  rintro _ _ _ ⟨rfl, rfl, rfl⟩
  refine JK.subBlk 2 [gi mk, ses []] rfl (.cons Sub.rfl (.cons (Sub.nil 2) .nil)) ?_
  refine JK.loopE (α := Nat × List Ser) (β := List Ser) (fun z => ⟨[(0, gi mk), (1, tns l), (2, gi fill), (7, .p 0 0), (8, .p 2 0), (9, gi z.1)], HD mk z.2 ++ [hpR mk z.2], 3⟩) (fun z => z.1 ≤ 61 ∧ HOk z.2) (fun z => 61 - z.1)
    (fun S => ⟨[(0, gi mk), (1, tns l), (7, .p 0 0), (8, .p 2 0)], HD mk S ++ [hpR mk S], 3⟩) HOk (0, []) id ?_ ⟨Nat.zero_le _, HOk.nil⟩ ?_ ?_
  · exact ⟨⟨rfl, rfl, rfl, rfl, rfl, rfl, trivial⟩, ⟨rfl, rfl, rfl, trivial⟩, rfl⟩
  · rintro ⟨i, S⟩ ⟨hi, hS⟩
    simp only at hi hS
    refine VM 25 ?_
    refine ⟨by decide, ?_⟩
    have hF := tm62 fill
    by_cases hlt : (i : Int) < IntKind.i64.wrap ((IntKind.u64.wrap fill).tmod 62)
    · refine p1 ?_ (decide_eq_true hlt)
      have h62 : i < 61 := by omega
      refine ⟨[UInt8.ofNat (48 + i)], ?_, ?_⟩
      · dsimp only
        have e : IntKind.u8.wrap (IntKind.i64.wrap (48 + (i : Int))) = ((UInt8.ofNat (48 + i)).toNat : Int) := by
          rw [wrap_id (by omega) (by omega), IntKind.wrap_u8, UInt8.toNat_ofNat']
          omega
        rw [e]
        rfl
      refine JK.freeze 4 rfl ?_
      refine JK.freeze 5 rfl ?_
      refine VM 2 ?_
      refine FRZ 6 rfl ?_
      have hfx : ∀ x ∈ [fX i], Sh x.labels ∧ x.samples.length ≤ 100000 ∧ x.labels.length ≤ 100000 := fun x hx => by
        rw [List.mem_singleton.1 hx]
        refine ⟨fun y hy => ?_, by simp [fX], by simp [fX]⟩
        simp [fX] at hy
        subst hy
        show (ByteArray.mk #[_]).size < _
        simp [ByteArray.size]
      have hfw : ∀ x ∈ [fX i], WL x.labels ∧ x.samples.length ≤ 100000 := fun x hx => by
        rw [List.mem_singleton.1 hx]
        refine ⟨⟨by simp [fX], fun y hy => ?_⟩, by simp [fX]⟩
        simp [fX] at hy
        subst hy
        exact ⟨by simp [ByteArray.size], by simp [ByteArray.size]⟩
      have hS' := headF_ok [fX i] hS (mk := mk)
      have happ := happend_hf mk S [fX i] hS (by simp) hfx
      have hrap := rhapp_rt mk S [fX i] hS (by simp) hfw
      have hish := isH_rt mk S [fX i]
      rcases apG_cases (headF mk S [fX i]).1 with hg | hg | hg
      all_goals (
        rw [hg] at happ hish
        refine GOH happ id rfl rfl ⟨rfl, rfl, trivial⟩ rfl (id_lt rfl) ?_
        rintro _ _ _ ⟨rfl, rfl, rfl⟩
        refine GO hrap rfl ?_
        refine GO hish rfl ?_
        exact ⟨(i + 1, (headF mk S [fX i]).2), r1 1 8, ⟨⟨rfl, rfl, rfl, rfl, rfl, succ_gi (by omega), trivial⟩, ⟨rfl, rfl, rfl, trivial⟩, rfl⟩, ⟨by simp only; omega, hS'⟩, by simp only; omega⟩)
    · refine p2 ?_ (decide_eq_false hlt)
      exact ⟨S, id, ⟨⟨rfl, rfl, rfl, rfl, trivial⟩, ⟨rfl, rfl, rfl, trivial⟩, rfl⟩, hS⟩
  · rintro R hR
    refine V ?_
    refine JK.loopE (α := Nat × Int × List Ser) (β := Unit) (fun z => ⟨[(1, tns l), (7, .p 0 0), (8, .p 2 0), (13, gi z.1)], HD z.2.1 z.2.2 ++ [hpR z.2.1 z.2.2], 3⟩) (fun z => z.1 ≤ l.length ∧ HOk z.2.2) (fun z => l.length - z.1)
      (fun _ => ⟨[], [], 0⟩) (fun _ => True) (0, mk, R) id ?_ ⟨Nat.zero_le _, hR⟩ ?_ ?_
    · exact ⟨⟨rfl, rfl, rfl, rfl, trivial⟩, ⟨rfl, rfl, rfl, trivial⟩, rfl⟩
    · rintro ⟨i, mk, S⟩ ⟨hi, hS⟩
      simp only at hi hS
      refine V ?_
      by_cases hlt : i < l.length
      · refine p1 ?_ (decide_eq_true (by dsimp only; omega))
        refine ix (h := ?_)
        refine FZB 3 rfl rfl ?_
        obtain ⟨hb1, hb2⟩ := hS.bd
        rcases tf (shS l[i].l) with hs | hs
        · refine GO ((lshortS_rt l[i].l).bt hs) rfl ?_
          obtain ⟨hs1, hs2⟩ := shS_small hs
          have hs3 : ∀ x ∈ l[i].l, x.samples.length ≤ 60 ∧ x.labels.length ≤ 20 ∧ ∀ y ∈ x.labels, y.name.size ≤ 60 ∧ y.value.size ≤ 60 := fun x hx => by
            obtain ⟨h1, h2⟩ := shL_small (hs2 x hx).1
            exact ⟨(hs2 x hx).2, h1, h2⟩
          rcases tf (shM l[i].g.mt) with hm | hm
          · have hml := shM_le hm
            refine GO ((shortM_rt l[i].g.mt).bt hm) rfl ?_
            have hka := refAsked_rt l[i].g.mt (fun x hx => by have := hml.2 x hx; omega) (by omega)
            rcases tf (askedF l[i].g.mt) with hk | hk
            · refine GOJ (Rq.hf (hka.bt hk)) id rfl rfl trivial rfl (fun _ h => absurd h (Nat.not_lt_zero _)) ?_
              rintro _ _ _ ⟨rfl, rfl, rfl⟩
              refine VM 11 ?_
              refine JK.cut (α := Int × List Ser) (fun z => ⟨[(1, tns l), (7, .p 0 0), (8, .p 2 0), (13, gi i)], HD z.1 z.2 ++ [hpR z.1 z.2], 3⟩) (fun z => HOk z.2) ?_ ?_
              · refine V ?_
                by_cases w0 : l[i].what = 0
                · refine p1 ?_ (beq_iff_eq.2 w0)
                  have happ := happend_hf mk S l[i].l hS (by omega) (fun x hx => by
                    obtain ⟨h1, h2, h3⟩ := hs3 x hx
                    exact ⟨fun y hy => by have := (h3 y hy).2; omega, by omega, by omega⟩)
                  have hrap := rhapp_rt mk S l[i].l hS (by omega) (fun x hx => by
                    obtain ⟨h1, h2, h3⟩ := hs3 x hx
                    exact ⟨⟨by omega, fun y hy => by have := h3 y hy; omega⟩, by omega⟩)
                  have hish := isH_rt mk S l[i].l
                  have hS' := headF_ok l[i].l hS (mk := mk)
                  rcases apG_cases (headF mk S l[i].l).1 with hg | hg | hg
                  all_goals (
                    rw [hg] at happ hish
                    refine GOH happ id rfl rfl ⟨rfl, rfl, trivial⟩ rfl (id_lt rfl) ?_
                    rintro _ _ _ ⟨rfl, rfl, rfl⟩
                    refine GO hrap rfl ?_
                    refine GO hish rfl ?_
                    exact ⟨(mk, (headF mk S l[i].l).2), r1 1 5, ⟨⟨rfl, rfl, rfl, rfl, trivial⟩, ⟨rfl, rfl, rfl, trivial⟩, rfl⟩, hS'⟩)
                · refine p2 ?_ (beq_false_of_ne w0)
                  by_cases w1 : l[i].what = 1
                  · refine p1 ?_ (beq_iff_eq.2 w1)
                    have hp := part_rt S 12 [.r (tn l[i])] rfl (cutH l[i].t) (fun x _ t => hp1_rt l[i] x.labels t) (by omega) (fun x hx => by have := hb2 x hx; omega)
                    have hcut := hcut_hf mk l[i].t S (by omega) (fun x hx => by have := hb2 x hx; omega)
                    rw [← if_max] at hcut
                    refine GO hp rfl ?_
                    refine GOH hcut id rfl rfl ⟨rfl, rfl, trivial⟩ rfl (id_lt rfl) ?_
                    rintro _ _ _ ⟨rfl, rfl, rfl⟩
                    refine GO ((sameSeriesL_rt (withoutF (notH (cutH l[i].t)) S)).bt (d := true) rfl) rfl ?_
                    exact ⟨(if mk < l[i].t then l[i].t else mk, withoutF (cutH l[i].t) S), r1 1 4, ⟨⟨rfl, rfl, rfl, rfl, trivial⟩, ⟨rfl, rfl, rfl, trivial⟩, rfl⟩, hS.without _⟩
                  · refine p2 ?_ (beq_false_of_ne w1)
                    by_cases w2 : l[i].what = 2
                    · refine p1 ?_ (beq_iff_eq.2 w2)
                      have hp := part_rt S 39 [.r (gn l[i].g)] rfl (gHit l[i].g) (fun x _ t => goes1_rt l[i].g x.labels t (asked_op' hk) (by omega)) (by omega) (fun x hx => by have := hb2 x hx; omega)
                      have hgo := hgone_hf mk S l[i].g (by omega) (fun x hx => by have := hb2 x hx; omega) (by omega)
                      refine JK.drawJ [2] ⟨[(1, tns l), (7, .p 0 0), (8, .p 2 0), (13, gi i), (14, .r (tn l[i]))], HD mk S ++ [hpR mk (withoutF (gHit l[i].g) S)], 4⟩ pg_ok ?_ (fun hk => ?_)
                      · refine V ?_
                        refine GOH hgo id rfl rfl ⟨rfl, rfl, trivial⟩ rfl (id_lt rfl) ?_
                        rintro _ _ _ ⟨rfl, rfl, rfl⟩
                        exact ⟨(mk, withoutF (gHit l[i].g) S), r1 1 4, ⟨⟨rfl, rfl, rfl, rfl, trivial⟩, ⟨rfl, rfl, rfl, trivial⟩, rfl⟩, hS.without _⟩
                      · refine RA.run (cx := ⟨pg, _, _, _, _, _, _, _⟩) pg_ok (by kernel_rfl) (by intro _ _ h; exact h) (tk [0, 2, 3]) (e := false) (by kernel_rfl) ?_
                        refine RA.both 1 4 (eqB_eq (by kernel_rfl)) (Stp.read 1 pg_ok rfl rfl ?_) (Stp.rt 4 (goes_rt l[i].g) rfl rfl rfl ?_)
                        · refine RGO 4 false (tk []) (goes_rt l[i].g) rfl rfl (by kernel_rfl) ?_
                          refine RGO 5 false (al [6]) hp rfl rfl (by kernel_rfl) ?_
                          refine RA.both 7 8 (eqB_eq (by kernel_rfl)) (Stp.read 7 pg_ok rfl rfl ?_) (Stp.read 8 pg_ok rfl rfl ?_)
                          · refine RA.run (cx := ⟨pg, _, _, _, _, _, _, _⟩) pg_ok (by kernel_rfl) (by intro _ _ h; exact h) (al [8, 9, 10]) (e := false) (by kernel_rfl) ?_
                            refine RA.endJ id (by kernel_rfl) hk ⟨⟨rfl, rfl, rfl, rfl, rfl, trivial⟩, ⟨rfl, rfl, rfl, trivial⟩, rfl⟩
                          · refine RA.run (cx := ⟨pg, _, _, _, _, _, _, _⟩) pg_ok (by kernel_rfl) (by intro _ _ h; exact h) (al [7, 9, 10]) (e := false) (by kernel_rfl) ?_
                            refine RA.endJ id (by kernel_rfl) hk ⟨⟨rfl, rfl, rfl, rfl, rfl, trivial⟩, ⟨rfl, rfl, rfl, trivial⟩, rfl⟩
                        · refine RA.run (cx := ⟨pg, _, _, _, _, _, _, _⟩) pg_ok (by kernel_rfl) (by intro _ _ h; exact h) (al [1]) (e := false) (by kernel_rfl) ?_
                          refine RGO 5 false (al [6]) hp rfl rfl (by kernel_rfl) ?_
                          refine RA.both 7 8 (eqB_eq (by kernel_rfl)) (Stp.read 7 pg_ok rfl rfl ?_) (Stp.read 8 pg_ok rfl rfl ?_)
                          · refine RA.run (cx := ⟨pg, _, _, _, _, _, _, _⟩) pg_ok (by kernel_rfl) (by intro _ _ h; exact h) (al [8, 9, 10]) (e := false) (by kernel_rfl) ?_
                            refine RA.endJ id (by kernel_rfl) hk ⟨⟨rfl, rfl, rfl, rfl, rfl, trivial⟩, ⟨rfl, rfl, rfl, trivial⟩, rfl⟩
                          · refine RA.run (cx := ⟨pg, _, _, _, _, _, _, _⟩) pg_ok (by kernel_rfl) (by intro _ _ h; exact h) (al [7, 9, 10]) (e := false) (by kernel_rfl) ?_
                            refine RA.endJ id (by kernel_rfl) hk ⟨⟨rfl, rfl, rfl, rfl, rfl, trivial⟩, ⟨rfl, rfl, rfl, trivial⟩, rfl⟩
                    · refine p2 ?_ (beq_false_of_ne w2)
                      exact ⟨(mk, S), id, ⟨⟨rfl, rfl, rfl, rfl, trivial⟩, ⟨rfl, rfl, rfl, trivial⟩, rfl⟩, hS⟩
              · rintro ⟨m, A⟩ hA
                replace hA : HOk A := hA
                obtain ⟨ha1, ha2⟩ := hA.bd
                have hser := hseries_hf m A (by omega) (fun x hx => by have := ha2 x hx; omega)
                have hmm : (m != m) = false := by simp
                have same := (sameSeriesL_rt A).bt (d := true) rfl
                refine V ?_
                refine JK.drawJ [0, 1] ⟨[(1, tns l), (7, .p 0 0), (8, .p 2 0), (13, gi i), (156, .v (.bool false))], HD m A ++ [hpR m A], 3⟩ pg_ok ?_ (fun hk => ?_)
                · refine V ?_
                  exact ⟨(i + 1, m, A), id, ⟨⟨rfl, rfl, rfl, succ_gi (by omega), trivial⟩, ⟨rfl, rfl, rfl, trivial⟩, rfl⟩, ⟨hlt, hA⟩, by simp only; omega⟩
                · refine RA.run (cx := ⟨pg, _, _, _, _, _, _, _⟩) pg_ok (by kernel_rfl) (by intro _ _ h; exact h) (tk [0, 2, 3]) (e := false) (by kernel_rfl) ?_
                  refine RGOH 1 false (tk [4, 5, 6, 8, 9]) (hmark_hf m A) id rfl rfl rfl ⟨rfl, rfl, trivial⟩ rfl (id_lt rfl) (by kernel_rfl) ?_
                  rintro _ _ _ ⟨rfl, rfl, rfl⟩
                  repeat (refine p4 ?_)
                  refine RGOH 7 false (tk []) hser id rfl (congrArg (fun c => bif (c == false) then some (18, [GV.p 0 0]) else none) hmm) rfl ⟨rfl, rfl, trivial⟩ rfl (id_lt rfl) (by kernel_rfl) ?_
                  rintro _ _ _ ⟨rfl, rfl, rfl⟩
                  refine RGO 10 false (tk [11, 12]) same rfl (congrArg (fun c => bif (c == false) then some (13, [ses A, ses A]) else none) hmm) (by kernel_rfl) ?_
                  refine RA.endJ id (by kernel_rfl) hk ⟨⟨rfl, rfl, rfl, rfl, rfl, trivial⟩, ⟨rfl, rfl, rfl, trivial⟩, rfl⟩
            · refine GO (hka.bt hk) rfl ?_
              exact ⟨(i + 1, mk, S), id, ⟨⟨rfl, rfl, rfl, succ_gi (by omega), trivial⟩, ⟨rfl, rfl, rfl, trivial⟩, rfl⟩, ⟨hlt, hS⟩, by simp only; omega⟩
          · refine GO ((shortM_rt l[i].g.mt).bt hm) rfl ?_
            exact ⟨(i + 1, mk, S), id, ⟨⟨rfl, rfl, rfl, succ_gi (by omega), trivial⟩, ⟨rfl, rfl, rfl, trivial⟩, rfl⟩, ⟨hlt, hS⟩, by simp only; omega⟩
        · refine GO ((lshortS_rt l[i].l).bt hs) rfl ?_
          exact ⟨(i + 1, mk, S), id, ⟨⟨rfl, rfl, rfl, succ_gi (by omega), trivial⟩, ⟨rfl, rfl, rfl, trivial⟩, rfl⟩, ⟨hlt, hS⟩, by simp only; omega⟩
      · refine p2 ?_ (decide_eq_false (by dsimp only; omega))
        exact ⟨(), id, ⟨trivial, trivial, rfl⟩, trivial⟩
    · rintro _ _
      refine V ?_
      exact ⟨rfl, rfl⟩
end Go.Proofs.YtaahmenpcpjbhaaGreatDoor
/-
  Arguments by their shapes: series.
-/
namespace Go.Proofs.YtaahmenpcpjbhaaGreatDoor
open Go.GK Go.PL
theorem lbl_list : ∀ (rows : List (List GV)), (∀ row ∈ rows, fitsL [.str, .str] row) → ∃ l : List Lb, rows = l.map lb
  | [], _ => ⟨[], rfl⟩
  | row :: rows, h => by
    obtain ⟨l, rfl⟩ := lbl_list rows (fun r hr => h r (by simp [hr]))
    have h0 := h row (by simp)
    simp only [fitsL, fits] at h0
    obtain ⟨_, _, rfl, ⟨a, rfl, _⟩, _, _, rfl, ⟨b, rfl, _⟩, rfl⟩ := h0
    exact ⟨⟨a, b⟩ :: l, rfl⟩
theorem sml_list : ∀ (rows : List (List GV)), (∀ row ∈ rows, fitsL [.int .i64, .int .i64] row) → ∃ l : List Sm, rows = l.map sm ∧ V64 l
  | [], _ => ⟨[], rfl, fun _ h => by cases h⟩
  | row :: rows, h => by
    obtain ⟨l, rfl, hl⟩ := sml_list rows (fun r hr => h r (by simp [hr]))
    have h0 := h row (by simp)
    simp only [fitsL, fits] at h0
    obtain ⟨_, _, rfl, ⟨a, rfl, _⟩, _, _, rfl, ⟨b, rfl, hb⟩, rfl⟩ := h0
    refine ⟨⟨a, b⟩ :: l, rfl, fun x hx => ?_⟩
    rcases List.mem_cons.1 hx with rfl | hx
    · have hb' : -9223372036854775808 ≤ b ∧ b ≤ 9223372036854775807 := by simpa [Lit.wf, IntKind.min, IntKind.max, IntKind.signed, IntKind.bits] using hb
      exact hb'
    · exact hl x hx
theorem ser_list : ∀ (rows : List (List GV)), (∀ row ∈ rows, fitsL [.slice [.str, .str], .slice [.int .i64, .int .i64]] row) → ∃ l : List Ser, rows = l.map se ∧ ∀ x ∈ l, V64 x.samples
  | [], _ => ⟨[], rfl, fun _ h => by cases h⟩
  | row :: rows, h => by
    obtain ⟨l, rfl, hl⟩ := ser_list rows (fun r hr => h r (by simp [hr]))
    have h0 := h row (by simp)
    simp only [fitsL, fits] at h0
    obtain ⟨_, _, rfl, ⟨a, rfl, ha⟩, _, _, rfl, ⟨b, rfl, hb⟩, rfl⟩ := h0
    obtain ⟨la, rfl⟩ := lbl_list a ha
    obtain ⟨lb', rfl, hV⟩ := sml_list b hb
    refine ⟨⟨la, lb'⟩ :: l, rfl, fun x hx => ?_⟩
    rcases List.mem_cons.1 hx with rfl | hx
    · exact hV
    · exact hl x hx
end Go.Proofs.YtaahmenpcpjbhaaGreatDoor
/-
  Arguments by their shapes: what is taken out.
-/
namespace Go.Proofs.YtaahmenpcpjbhaaGreatDoor
open Go.GK Go.PL
theorem mts_list : ∀ (rows : List (List GV)), (∀ row ∈ rows, fitsL [.str, .int .i64, .str] row) → ∃ l : List Mt, rows = l.map mt
  | [], _ => ⟨[], rfl⟩
  | row :: rows, h => by
    obtain ⟨l, rfl⟩ := mts_list rows (fun r hr => h r (by simp [hr]))
    have h0 := h row (by simp)
    simp only [fitsL, fits] at h0
    obtain ⟨_, _, rfl, ⟨a, rfl, _⟩, _, _, rfl, ⟨b, rfl, _⟩, _, _, rfl, ⟨c, rfl, _⟩, rfl⟩ := h0
    exact ⟨⟨a, b, c⟩ :: l, rfl⟩
theorem gone_list : ∀ (rows : List (List GV)), (∀ row ∈ rows, fitsL [.slice [.str, .int .i64, .str], .int .i64, .int .i64] row) → ∃ l : List Gn, rows = l.map gn
  | [], _ => ⟨[], rfl⟩
  | row :: rows, h => by
    obtain ⟨l, rfl⟩ := gone_list rows (fun r hr => h r (by simp [hr]))
    have h0 := h row (by simp)
    simp only [fitsL, fits] at h0
    obtain ⟨_, _, rfl, ⟨a, rfl, ha⟩, _, _, rfl, ⟨b, rfl, _⟩, _, _, rfl, ⟨c, rfl, _⟩, rfl⟩ := h0
    obtain ⟨m, rfl⟩ := mts_list a ha
    exact ⟨⟨m, b, c⟩ :: l, rfl⟩
end Go.Proofs.YtaahmenpcpjbhaaGreatDoor
/-
  Arguments by their shapes: turns.
-/
namespace Go.Proofs.YtaahmenpcpjbhaaGreatDoor
open Go.GK Go.PL
theorem turn_list : ∀ (rows : List (List GV)), (∀ row ∈ rows, fitsL [.int .i64, .slice [.slice [.str, .str], .slice [.int .i64, .int .i64]], .int .i64, .slice [.str, .int .i64, .str], .int .i64, .int .i64] row) → ∃ l : List Tn, rows = l.map tn
  | [], _ => ⟨[], rfl⟩
  | row :: rows, h => by
    obtain ⟨l, rfl⟩ := turn_list rows (fun r hr => h r (by simp [hr]))
    have h0 := h row (by simp)
    simp only [fitsL, fits] at h0
    obtain ⟨_, _, rfl, ⟨a, rfl, _⟩, _, _, rfl, ⟨b, rfl, hb⟩, _, _, rfl, ⟨c, rfl, _⟩, _, _, rfl, ⟨d, rfl, hd⟩, _, _, rfl, ⟨e, rfl, _⟩, _, _, rfl, ⟨f, rfl, _⟩, rfl⟩ := h0
    obtain ⟨x, rfl, _⟩ := ser_list b hb
    obtain ⟨m, rfl⟩ := mts_list d hd
    exact ⟨⟨a, x, c, ⟨m, e, f⟩⟩ :: l, rfl⟩
end Go.Proofs.YtaahmenpcpjbhaaGreatDoor
/-
  A law's contract, as the row asks for it.
-/
namespace Go.Proofs.YtaahmenpcpjbhaaGreatDoor
open Go.GK
theorem of_rt {f : FuncId} {gs : List GV} (h : Rt pg f gs (.b true)) : Ct pg f 0 gs [] (Val fun g => g = .b true) := by
  exact h.ct.weak fun g σ' n' hq => ⟨id, g, [], 0, ⟨hq.1.1, rfl, rfl⟩, (ren_id g).symm, trivial, by simp [hq.1.2, idbH, hids, distB, fixB]⟩
end Go.Proofs.YtaahmenpcpjbhaaGreatDoor
/-
  What the row of this seat has: of what is laid the document's Fine and the library's handle of the type error are read.
-/
namespace Go.Proofs.YtaahmenpcpjbhaaGreatDoor
open Go.GK Go.ChangeShapes Go.WideShapes Go.RowKit

abbrev rowLaid : List (String × DataW Unit) := [("unicode/utf8.acceptRanges", Rows.laid_unicode_utf8_acceptRanges), ("errors.errorType", Rows.laid_errors_errorType), ("raingauge/raingaugeref.Fine", Rows.laid_raingauge_raingaugeref_Fine), ("unicode/utf8.first", Rows.laid_unicode_utf8_first)]
theorem own : ownKnob Tryz.prog.godebug = none := by kernel_rfl
theorem laidOut : laidOutB Tryz.prog = true := by kernel_rfl
theorem gErr : Tryz.prog.globalNamed "errors.errorType" = some 1 := by kernel_rfl
theorem rtErr : (Tryz.prog.cutTypes.find? (·.1 == "internal/reflectlite.rtype")).map (·.2) = some 134 := by kernel_rfl
theorem oneRow : ((List.range 201).filter fun t => Tryz.prog.rowNamed t [101, 114, 114, 111, 114]) = [42] := by kernel_rfl
theorem typesSize : Tryz.prog.types.size = 201 := by kernel_rfl

theorem handle_ok {W : World} (h : handlesMet Tryz.prog [("errors.errorType", Rows.laid_errors_errorType)] W) : W.cell? ⟨1, 0, none⟩ = some rtV := by
  obtain ⟨name, u, ty, e1, e2, e3, e4, e5⟩ := h _ (List.mem_singleton.2 rfl)
  have en : name = [101, 114, 114, 111, 114] := (Option.some.inj e1).symm
  subst en
  obtain rfl := Option.some.inj (rtErr.symm.trans e2)
  have hm : ty ∈ (List.range 201).filter fun t => Tryz.prog.rowNamed t [101, 114, 114, 111, 114] := List.mem_filter.2 ⟨List.mem_range.2 (by rw [← typesSize]; exact e3), e4⟩
  rw [oneRow] at hm
  obtain rfl := List.mem_singleton.1 hm
  have hh : typeHandle Tryz.prog 42 = .pointer (some ⟨5, 42, none⟩) := by kernel_rfl
  rw [hh] at e5
  simpa using World.var?_cell gErr e5 0

theorem gFine : Tryz.prog.globalNamed "raingauge/raingaugeref.Fine" = some 0 := by kernel_rfl
theorem tFine : (Tryz.prog.globals[0]?).map (·.type) = some 40 := by kernel_rfl
theorem fine_cells {W : World} (h : laidMet Tryz.prog [("raingauge/raingaugeref.Fine", Rows.laid_raingauge_raingaugeref_Fine)] W) : ∀ i, W.cell? ⟨0, i, none⟩ = ([0, -1].map (Value.int .i64))[i]? := by
  obtain ⟨ps, ⟨g0, t0, cs0, f0, p0, q0, hg0, ht0, hv0, hd0, _, _⟩, _, _⟩ := h
  obtain rfl := Option.some.inj (gFine.symm.trans hg0)
  obtain rfl := Option.some.inj (tFine.symm.trans ht0)
  obtain ⟨y0, y1, n, hx, hl, h0, h1⟩ := trod_struct2 (Tryz.underlying40) hd0
  obtain ⟨a, ha, rfl, _⟩ := DataW.trod_int (k := .i64) (by kernel_rfl) h0
  obtain ⟨b, hb, rfl, _⟩ := DataW.trod_int (k := .i64) (by kernel_rfl) h1
  have hlen : cs0.toList.length = 2 := hl.trans (by kernel_rfl)
  have hc1 : Tryz.prog.cellsOf 38 = 1 := by kernel_rfl
  have hc2 : Tryz.prog.cellsOf 3 = 1 := by kernel_rfl
  have e : cs0.toList = [.int .i64 a, .int .i64 b] := by
    match hcs : cs0.toList, hlen with
    | [u, v], _ =>
      rw [hcs] at ha hb
      have ha' : (List.drop 0 [u, v]).take (Tryz.prog.cellsOf 38) = [.int .i64 a] := ha
      have hb' : (List.drop 1 [u, v]).take (Tryz.prog.cellsOf 3) = [.int .i64 b] := hb
      rw [hc1] at ha'
      rw [hc2] at hb'
      simp at ha' hb'
      rw [ha', hb']
  simp only [Rows.laid_raingauge_raingaugeref_Fine, Prod.mk.injEq, DataW.agg.injEq, List.cons.injEq, DataW.lit.injEq, Lit.int.injEq, true_and, and_true] at hx
  obtain ⟨⟨rfl, rfl⟩, _⟩ := hx
  intro i
  rw [World.var?_cell hg0 hv0 i]
  have : cs0[i]? = cs0.toList[i]? := by simp
  rw [this, e]
  rfl
theorem gl_okH {W : World} (hL : laidMetH Tryz.prog rowLaid W) : ∀ H : Hid, H.ro = roOf W → GlOk pg H := by
  have hL' : laidMet Tryz.prog [("unicode/utf8.acceptRanges", Rows.laid_unicode_utf8_acceptRanges), ("raingauge/raingaugeref.Fine", Rows.laid_raingauge_raingaugeref_Fine), ("unicode/utf8.first", Rows.laid_unicode_utf8_first)] W ∧ handlesMet Tryz.prog [("errors.errorType", Rows.laid_errors_errorType)] W := hL
  obtain ⟨h, hE⟩ := hL'
  have hE' := handle_ok hE
  have hF := fine_cells (h.filter fun x => x.1 == "raingauge/raingaugeref.Fine")
  intro H hro g gv hg
  have hg' : GK.look gl g = some gv := hg
  unfold gl at hg'
  unfold GK.look at hg'
  cases hb : Nat.beq 0 g with
  | true =>
    rw [hb] at hg'
    have := beq_eq hb
    subst this
    simp only [cond_true, Option.some.injEq] at hg'
    subst hg'
    exact gl_ints (zs := [0, -1]) hro hF
  | false =>
    rw [hb] at hg'
    simp only [cond_false] at hg'
    unfold GK.look at hg'
    cases hb2 : Nat.beq 1 g with
    | false => rw [hb2] at hg'; simp [GK.look] at hg'
    | true =>
      rw [hb2] at hg'
      have := beq_eq hb2
      subst this
      simp only [cond_true, Option.some.injEq] at hg'
      subst hg'
      exact gl_one hro hE'
/-- What is listed, but the handle. -/
abbrev plainLaid : List (String × DataW Unit) := [("unicode/utf8.acceptRanges", Rows.laid_unicode_utf8_acceptRanges), ("raingauge/raingaugeref.Fine", Rows.laid_raingauge_raingaugeref_Fine), ("unicode/utf8.first", Rows.laid_unicode_utf8_first)]
noncomputable def wit (os : Os) : World := (World.doorLaid Tryz.prog 400 os).layVars Tryz.prog plainLaid
theorem wit_os (os : Os) : (wit os).os = os := World.layVars_os _ _ _
theorem wit_fits (os : Os) : (World.doorLaid Tryz.prog 400 os).layFits Tryz.prog plainLaid [] = true := by kernel_rfl
theorem wit_ifaces (os : Os) : (World.doorLaid Tryz.prog 400 os).layIfaces Tryz.prog plainLaid (wit os) = true := by kernel_rfl
theorem wit_handle (os : Os) (args : Array Value) : (rowLaid.filter fun x => x.2.handleName?.isSome).all (handleAtB Tryz.prog ((wit os).forCall (fun _ _ => 0) ⟨#[], args, []⟩).memory) = true := by kernel_rfl
theorem wit_shaped (os : Os) (args : Array Value) : ((wit os).forCall (fun _ _ => 0) ⟨#[], args, []⟩).Shaped Tryz.prog := World.shaped_of_ZipB (by kernel_rfl) (by kernel_rfl)
theorem wit_met (os : Os) (args : Array Value) : laidMetH Tryz.prog rowLaid ((wit os).forCall (fun _ _ => 0) ⟨#[], args, []⟩).memory := by
  have e1 : (plainLaid.filter fun x => (plainLaid.map (·.1)).contains x.1) = plainLaid := List.filter_eq_self.2 fun x hx => List.contains_iff_mem.2 (List.mem_map.2 ⟨x, hx, rfl⟩)
  have e2 : (plainLaid.filter fun x => !(plainLaid.map (·.1)).contains x.1) = [] := List.filter_eq_nil_iff.2 fun x hx => by rw [List.contains_iff_mem.2 (List.mem_map.2 ⟨x, hx, rfl⟩)]; simp
  have h : laidMet Tryz.prog plainLaid (wit os) := laidMet_layVars (w0 := World.doorLaid Tryz.prog 400 os) (plainLaid.map (·.1)) [] (by rw [e1]; rfl) (by rw [e1]; exact wit_fits os) (by rw [e1]; exact wit_ifaces os) (by rw [e2]; exact LaidIn.none)
  have h' : laidMet Tryz.prog plainLaid ((wit os).forCall (fun _ _ => 0) ⟨#[], args, []⟩).memory := h.of_heap (by simp [World.memory, World.forCall, Input.heap])
  exact laidMetH_of_parts h' (wit_handle os args)
end Go.Proofs.YtaahmenpcpjbhaaGreatDoor
