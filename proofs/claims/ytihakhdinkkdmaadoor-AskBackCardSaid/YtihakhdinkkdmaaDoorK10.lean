/-
  Contracts: questions: matchers.
-/
import Derived.Test.YtihakhdinkkdmaaDoorK09
import Derived.Test.YtihakhdinkkdmaaDoorK08
import Derived.Tactics
import Derived.Tactics2
import Derived.Defers
import Derived.Recover
import Derived.Test.YtihakhdinkkdmaaDoorK06
import Derived.Lib.SlTrimSet
namespace Go.Proofs.YtihakhdinkkdmaaDoor
open Go.GK Go.RowKit Go.PL
set_option maxRecDepth 100000
/-- What a parser tells, and what is left. -/
def okR {α : Type} (P : PRes α) (G : α → GV) (L : Nat) (g : GV) (σ : Heap) (n : Nat) : Prop := ∃ a l', P = .ok (a, l') ∧ ToksOk l' ∧ l'.length < L ∧ g = G a ∧ σ = ps l' ∧ n = 1
theorem okR_n {α : Type} {P : PRes α} {G : α → GV} {L : Nat} {f : FuncId} {args : List GV} {σ : Heap} {R : GV → Prop} (h : Hx pg f 1 args σ (fun g σ' n => 1 ≤ n ∧ ∃ a l', P = .ok (a, l') ∧ ToksOk l' ∧ l'.length < L ∧ g = G a ∧ σ' = ps l') R) (hG : ∀ a, idb 1 (G a) = true) : Hx pg f 1 args σ (okR P G L) R :=
  h.weak (fun _ h => h) fun g σ' n' ⟨hn, a, l', h1, h4, h5, h2, h3⟩ => ⟨id, G a, ps l', 1, ⟨a, l', h1, h4, h5, rfl, rfl, rfl⟩, by rw [h2, ren_id], by rw [h3]; exact ⟨rfl, trivial⟩, by simp [hG, idbH, idbR, idbL, idb, hids, distB, fixB, memB]⟩
section
variable {N n0 : Nat} {H0 : Hid} {S0 : List Nat} {w0 : World} {h0 : H0.n = n0} {g0 : GlOk pg H0} {T : Post} {k : List It} {s : St}
/-- A call to which own slices are lent; what comes behind it is not told as conditions yet. -/
theorem GOBJ {all : List Oper} {o : Oper} {rest : List Oper} {f : FuncId} {cargs gs : List GV} {G : GV} (hr : Rt pg f cargs G) (hk : callG pg all s.ρ o = some (f, gs)) (hl : lents s.σ gs cargs)
    (h : dputV N s.ρ o.dst G fun ρ' => JK ⟨pg, N, n0, H0, S0, w0, h0, g0⟩ T (.ops false all rest :: k) ⟨ρ', s.σ, s.n⟩) (hfree : roFree G = true := by rfl) : JK ⟨pg, N, n0, H0, S0, w0, h0, g0⟩ T (.ops false all (o :: rest) :: k) s := by
  obtain ⟨fo, args, ts, first, caps, gs', ho, hgd, hf, he, hargs⟩ := callG_spec hk
  refine JK.callB hr.ct hr.call ho hgd hf he (by rw [hargs]; exact hl) (fun g σ' n' hq => ?_) (fun g σ' n' hq => ?_)
  · obtain ⟨⟨rfl, h1⟩, _, _⟩ := hq
    simp [h1, hfree]
  · obtain ⟨⟨rfl, h1⟩, _, _⟩ := hq
    rw [nf_eq, ← dputV_eq]
    exact h
/-- A slice of an array that is only read. -/
theorem SLA (vs : List Value) {all : List Oper} {o : Oper} {rest : List Oper} {t e n : Nat} {x : Operand} {ti tie : TI} (ho : o.op = .slice t x none none none) (hgd : gdOk all s.ρ o.guard = true) (ht : tget tyTab t = some ti) (htd : ti.d = .array n e) (hte : tget tyTab e = some tie) (hsz : tie.sz = 1) (hx : ev pg s.ρ x = some (.r (vs.map .v))) (hn : vs.length = n) (hne : Nat.ble 1 n = true) (hm : Nat.ble n maxLen = true) (h1 : vs.all (·.oneCell') = true)
    (h : dputV N s.ρ o.dst (.sl 1 (vs.map fun v => [.v v])) fun ρ' => JK ⟨pg, N, n0, H0, S0, w0, h0, g0⟩ T (.ops false all rest :: k) ⟨ρ', s.σ, s.n⟩) : JK ⟨pg, N, n0, H0, S0, w0, h0, g0⟩ T (.ops false all (o :: rest) :: k) s := by
  rw [dputV_eq] at h
  exact JK.sliceArr (cx := ⟨pg, N, n0, H0, S0, w0, h0, g0⟩) pg_ok ho hgd ht htd hte hsz hx hn hne hm h1 h
end
theorem opsL_len : opsL.length = 4 := rfl
theorem matchers_hx (t0 : Tok) (l0 : List Tok) (hE0 : ToksOk (t0 :: l0)) (hlen : l0.length ≤ 1000) : Hx pg 17 1 [.p 0 0] (ps (t0 :: l0)) (okR (matchersP (t0 :: l0)) (fun m => .sl 3 (m.map mt)) (l0.length + 1)) (erR (matchersP (t0 :: l0))) := by
  refine okR_n ?_ (fun a => rfl)
  refine Hx.ofJ pg_ok Tryd.func17 rfl Tryd.ntmps17 rfl Tryd.results17 Tryd.call17 fun H0 S0 w0 h0 g0 => ?_
  refine V ?_
  refine GOX (erR (matchersP (t0 :: l0))) (must_hx t0 l0 (bS [123])) (fun g ⟨e, p, h1, h2⟩ => ⟨e, p, by rw [matchersP, h1], h2⟩) id rfl rfl ⟨rfl, trivial⟩ rfl (id_lt rfl) ?_
  rintro g σ' n' ⟨hm, htk, rfl, rfl, rfl⟩
  have hk0 : t0.kind ≠ 5 := (takesP_iff.1 htk).2
  have hE1 : ToksOk l0 := hE0.tail hk0
  have hP : matchersP (t0 :: l0) = matchersL (l0.length + 1) [] l0 := by rw [matchersP, hm]
  rw [hP]
  obtain ⟨t1, l1, rfl⟩ := hE1.cons
  refine V ?_
  show JK _ _ _ _
  refine JK.ownNil 3 53 3 rfl ?_
  refine JK.loopE (α := Bool × List Mt × Tok × List Tok × Nat) (β := List Mt × List Tok) (fun x => ⟨[(0, .p 0 0), (3, .o 1), (4, .v (.bool x.1))], [(0, .blk 44 [tks (x.2.2.1 :: x.2.2.2.1)]), (1, .row 53 3 (x.2.1.map mt))], 2⟩)
    (fun x => x.1 = decide (x.2.1.length = 0) ∧ ToksOk (x.2.2.1 :: x.2.2.2.1) ∧ x.2.2.2.1.length + 1 < x.2.2.2.2 ∧ x.2.1.length ≤ 8 ∧ x.2.2.2.1.length ≤ l1.length ∧ matchersL x.2.2.2.2 x.2.1 (x.2.2.1 :: x.2.2.2.1) = matchersL ((t1 :: l1).length + 1) [] (t1 :: l1)) (fun x => x.2.2.2.1.length)
    (fun y => ⟨[(3, .o 1)], [(0, .blk 44 [tks y.2]), (1, .row 53 3 (y.1.map mt))], 2⟩) (fun y => matchersL ((t1 :: l1).length + 1) [] (t1 :: l1) = .ok (y.1, y.2) ∧ ToksOk y.2 ∧ y.2.length ≤ l1.length) (true, [], t1, l1, (t1 :: l1).length + 1) id ?_ ?_ ?_ ?_
  · exact ⟨⟨rfl, rfl, rfl, trivial⟩, ⟨rfl, rfl, trivial⟩, rfl⟩
  · exact ⟨rfl, hE1, by simp, by simp, Nat.le_refl _, rfl⟩
  · rintro ⟨b, acc, t, l, f⟩ ⟨hb, hE, hf, h8, hl, heq⟩
    replace hb : b = decide (acc.length = 0) := hb
    replace hE : ToksOk (t :: l) := hE
    replace hf : l.length + 1 < f := hf
    replace h8 : acc.length ≤ 8 := h8
    replace hl : l.length ≤ l1.length := hl
    replace heq : matchersL f acc (t :: l) = matchersL ((t1 :: l1).length + 1) [] (t1 :: l1) := heq
    obtain ⟨f, rfl⟩ : ∃ f', f = f' + 1 := ⟨f - 1, by omega⟩
    refine V ?_
    rcases tf (takesP (bS [125]) (t :: l)) with hend | hend
    · refine GOH (takes_yes t l (bS [125]) hend) id rfl rfl ⟨rfl, trivial⟩ rfl (id_lt rfl) ?_
      rintro g σ' n' ⟨rfl, rfl, rfl⟩
      exact ⟨(acc, l), id, ⟨⟨rfl, trivial⟩, ⟨rfl, rfl, trivial⟩, rfl⟩, ⟨by rw [← heq, matchersL, if_pos hend]; rfl, hE.tail (takesP_iff.1 hend).2, hl⟩⟩
    · refine GOJ (takes_no t l (bS [125]) hend) id rfl rfl ⟨rfl, trivial⟩ rfl (id_lt rfl) ?_
      rintro g σ' n' ⟨rfl, rfl, rfl⟩
      refine VM 7 ?_
      refine JK.cut (α := Tok × List Tok) (fun x => ⟨[(0, .p 0 0), (3, .o 1)], [(0, .blk 44 [tks (x.1 :: x.2)]), (1, .row 53 3 (acc.map mt))], 2⟩) (fun x => ToksOk (x.1 :: x.2) ∧ x.2.length ≤ l.length ∧ (if acc.length = 0 then .ok ((), t :: l) else mustP (bS [44]) (t :: l)) = (.ok ((), x.1 :: x.2) : PRes Unit)) ?_ ?_
      · cases b with
        | true =>
          have ha : acc.length = 0 := of_decide_eq_true hb.symm
          refine V ?_
          exact ⟨(t, l), id, ⟨⟨rfl, rfl, trivial⟩, ⟨rfl, rfl, trivial⟩, rfl⟩, hE, Nat.le_refl _, by rw [if_pos ha]⟩
        | false =>
          have ha : ¬ acc.length = 0 := of_decide_eq_false hb.symm
          refine V ?_
          refine GOX (erR (matchersL ((t1 :: l1).length + 1) [] (t1 :: l1))) (must_hx t l (bS [44])) (fun g ⟨e, p, h1, h2⟩ => ⟨e, p, by rw [← heq, matchersL, if_neg (by simp [hend]), if_neg ha, h1], h2⟩) id rfl rfl ⟨rfl, trivial⟩ rfl (id_lt rfl) ?_
          rintro g σ' n' ⟨hm, htk, rfl, rfl, rfl⟩
          have hE2 := hE.tail (takesP_iff.1 htk).2
          obtain ⟨t2, l2, rfl⟩ := hE2.cons
          refine V ?_
          exact ⟨(t2, l2), id, ⟨⟨rfl, rfl, trivial⟩, ⟨rfl, rfl, trivial⟩, rfl⟩, hE2, by simp, by rw [if_neg ha]; exact hm⟩
      rintro ⟨t2, l2⟩ ⟨hE2, hl2, hc⟩
      replace hE2 : ToksOk (t2 :: l2) := hE2
      replace hl2 : l2.length ≤ l.length := hl2
      have hM : matchersL (f + 1) acc (t :: l) = if 8 ≤ acc.length then failP 4 (t2 :: l2) else (match matcherP (t2 :: l2) with | .error e => .error e | .ok (m, l) => matchersL f (acc ++ [m]) l) := by
        replace hc : (if acc.length = 0 then .ok ((), t :: l) else mustP (bS [44]) (t :: l)) = (.ok ((), t2 :: l2) : PRes Unit) := hc
        rw [matchersL, if_neg (by simp [hend]), hc]
        rfl
      rw [heq] at hM
      refine V ?_
      by_cases h8' : 8 ≤ acc.length
      · refine p1 ?_ (decide_eq_true (by simp; omega))
        refine GOX (erR (matchersL ((t1 :: l1).length + 1) [] (t1 :: l1))) (fail_hx t2 l2 4) (fun g hg => ⟨4, t2.pos, by rw [hM, if_pos h8']; rfl, hg⟩) id rfl rfl ⟨rfl, trivial⟩ rfl (id_lt rfl) ?_
        exact fun _ _ _ h => h.elim
      refine p2 ?_ (decide_eq_false (by simp; omega))
      rw [if_neg h8'] at hM
      refine GOX (erR (matchersL ((t1 :: l1).length + 1) [] (t1 :: l1))) (name_hx t2 l2) (fun g ⟨e, p, h1, h2⟩ => ⟨e, p, by rw [hM, matcherP, h1], h2⟩) id rfl rfl ⟨rfl, trivial⟩ rfl (id_lt rfl) ?_
      rintro g σ' n' ⟨hn, hk1, rfl, rfl, rfl⟩
      have hE3 := hE2.tail (by omega)
      obtain ⟨t3, l3, rfl⟩ := hE3.cons
      have hPm : matcherP (t2 :: t3 :: l3) = (match opsL.findIdx? fun s => isP s (t3 :: l3) with
          | none => failP 3 (t3 :: l3)
          | some k => match mustP (opsL.getD k ⟨#[]⟩) (t3 :: l3) with
            | .error e => .error e
            | .ok (_, l) => match anyP 3 l with
              | .error e => .error e
              | .ok (s, l') => if valueF (s.extract 1 (s.size - 1)) then .ok (⟨t2.text, k, s.extract 1 (s.size - 1)⟩, l') else failP 4 l) := by
        rw [matcherP, hn]
        rfl
      rw [hPm] at hM
      refine VM 6 ?_
      refine SLA (opsL.map .string) rfl rfl rfl rfl rfl rfl rfl rfl rfl rfl rfl ?_
      refine V ?_
      cases hfi : opsL.findIdx? fun s => isP s (t3 :: l3) with
      | none =>
        rw [hfi] at hM
        refine GOH ((idxIs_hf opsL (by decide) t3 l3).imp (Q' := fun g σ n => g = gi (-1) ∧ σ = ps (t3 :: l3) ∧ n = 1) fun g σ n ⟨e, r⟩ => ⟨by rw [e, hfi], r⟩) id rfl rfl ⟨rfl, trivial⟩ rfl (id_lt rfl) ?_
        rintro g σ' n' ⟨rfl, rfl, rfl⟩
        refine p1 ?_
        refine GOX (erR (matchersL ((t1 :: l1).length + 1) [] (t1 :: l1))) (fail_hx t3 l3 3) (fun g hg => ⟨3, t3.pos, by rw [hM]; rfl, hg⟩) id rfl rfl ⟨rfl, trivial⟩ rfl (id_lt rfl) ?_
        exact fun _ _ _ h => h.elim
      | some j =>
        rw [hfi] at hM
        have hj : j < 4 := (List.findIdx?_eq_some_iff_getElem.1 hfi).1
        refine GOH ((idxIs_hf opsL (by decide) t3 l3).imp (Q' := fun g σ n => g = gi j ∧ σ = ps (t3 :: l3) ∧ n = 1) fun g σ n ⟨e, r⟩ => ⟨by rw [e, hfi], r⟩) id rfl rfl ⟨rfl, trivial⟩ rfl (id_lt rfl) ?_
        rintro g σ' n' ⟨rfl, rfl, rfl⟩
        refine p2 ?_
        refine ⟨by omega, by omega, ?_⟩
        refine ons_mk (g := gs (opsL.getD j ⟨#[]⟩)) ?_ ?_
        · match j, hj with
          | 0, _ => rfl
          | 1, _ => rfl
          | 2, _ => rfl
          | 3, _ => rfl
        refine GOX (erR (matchersL ((t1 :: l1).length + 1) [] (t1 :: l1))) (must_hx t3 l3 (opsL.getD j ⟨#[]⟩)) (fun g ⟨e, p, h1, h2⟩ => ⟨e, p, by rw [hM]; simp only [h1], h2⟩) id rfl rfl ⟨rfl, trivial⟩ rfl (id_lt rfl) ?_
        rintro g σ' n' ⟨hmu, htk2, rfl, rfl, rfl⟩
        have hE4 := hE3.tail (takesP_iff.1 htk2).2
        obtain ⟨t4, l4, rfl⟩ := hE4.cons
        simp only [hmu] at hM
        refine V ?_
        refine ⟨tokR t4, by decide, rfl, ?_⟩
        refine GOX (erR (matchersL ((t1 :: l1).length + 1) [] (t1 :: l1))) (any_hx t4 l4 3) (fun g ⟨e, p, h1, h2⟩ => ⟨e, p, by rw [hM]; simp only [h1], h2⟩) id rfl rfl ⟨rfl, trivial⟩ rfl (id_lt rfl) ?_
        rintro g σ' n' ⟨han, hk3, rfl, rfl, rfl⟩
        have hE5 := hE4.tail (by omega)
        obtain ⟨t5, l5, rfl⟩ := hE5.cons
        have ht4 := (hE4.each t4 List.mem_cons_self)
        have hsz := quo_size ht4.1 hk3
        have hsz2 := ht4.2
        have hw : IntKind.i64.wrap ((t4.text.size : Int) - 1) = ((t4.text.size - 1 : Nat) : Int) := by rw [wrap_id (by omega) (by omega)]; omega
        refine V ?_
        refine ⟨by decide, by rw [hw]; omega, by rw [hw]; omega, ?_⟩
        have hv : t4.text.extract (1 : Int).toNat (IntKind.i64.wrap ((t4.text.size : Int) - 1)).toNat = t4.text.extract 1 (t4.text.size - 1) := by rw [hw]; rfl
        have hm1 : (⟨t2.text, j, t4.text.extract (1 : Int).toNat (IntKind.i64.wrap ((t4.text.size : Int) - 1)).toNat⟩ : Mt) = ⟨t2.text, j, t4.text.extract 1 (t4.text.size - 1)⟩ := by rw [hv]
        have hSm : Sm2 [(⟨t2.text, j, t4.text.extract (1 : Int).toNat (IntKind.i64.wrap ((t4.text.size : Int) - 1)).toNat⟩ : Mt)] := fun x hx => by
          rw [List.mem_singleton.1 hx, hv, ByteArray.size_extract]
          omega
        have hnm : nameF t2.text = true := nameP_ok hn hk1
        have hask := asked_one (m := ⟨t2.text, j, t4.text.extract (1 : Int).toNat (IntKind.i64.wrap ((t4.text.size : Int) - 1)).toNat⟩) hnm (by simp) (by simp; omega)
        simp only [han] at hM
        rw [← hm1, ← hv] at hM
        rcases tf (valueF (t4.text.extract (1 : Int).toNat (IntKind.i64.wrap ((t4.text.size : Int) - 1)).toNat)) with hvf | hvf
        · rw [if_pos hvf] at hM
          refine GOB ((lasked_rt _ hSm).bt (hask.trans hvf)) rfl ⟨⟨rfl, rfl⟩, trivial⟩ ?_
          refine ⟨by simp; omega, ?_⟩
          refine ⟨(false, acc ++ [⟨t2.text, j, t4.text.extract (1 : Int).toNat (IntKind.i64.wrap ((t4.text.size : Int) - 1)).toNat⟩], t5, l5, f), fun i => bif Nat.beq i 1 then 6 else i, ⟨⟨rfl, rfl, rfl, trivial⟩, ⟨rfl, ?_, trivial⟩, rfl⟩, ⟨?_, hE5, ?_, ?_, ?_, hM.symm⟩, ?_⟩
          · exact congrArg (fun x => some (Res.row 53 3 x)) (List.map_append (l₁ := acc) (l₂ := [⟨t2.text, j, t4.text.extract (1 : Int).toNat (IntKind.i64.wrap ((t4.text.size : Int) - 1)).toNat⟩]) (f := mt)).symm
          · exact (decide_eq_false (by simp)).symm
          · show l5.length + 1 < f
            simp at hl2
            omega
          · show (acc ++ [_]).length ≤ 8
            simp
            omega
          · show l5.length ≤ l1.length
            simp at hl2
            omega
          · show l5.length < l.length
            simp at hl2
            omega
        · rw [if_neg (Bool.eq_false_iff.1 hvf)] at hM
          refine GOBJ ((lasked_rt _ hSm).bt (hask.trans hvf)) rfl ⟨⟨rfl, rfl⟩, trivial⟩ ?_
          refine VM 11 ?_
          refine JK.freezeB 5 rfl rfl ?_
          refine JK.throw rfl rfl rfl rfl ?_
          intro v X σ n hX
          exact ⟨v, _, X, rfl, hX, ⟨4, t4.pos, hM, rfl⟩, rfl⟩
  · rintro ⟨acc, l⟩ ⟨hq, hq2, hq3⟩
    refine FRZ 1 rfl ?_
    exact ⟨Nat.le_of_ble_eq_true rfl, acc, l, hq, hq2, by simp; exact Nat.lt_succ_of_le (Nat.le_succ_of_le hq3), rfl, rfl⟩
end Go.Proofs.YtihakhdinkkdmaaDoor
/-
  Contracts: questions: what is asked of one thing.
-/
namespace Go.Proofs.YtihakhdinkkdmaaDoor
open Go.GK Go.RowKit Go.PL
set_option maxRecDepth 100000
/-- A question on the heap: boxes that are only read. -/
def qG : Qn → GV
  | .nil => .v (.pointer none)
  | .mk c n m sp ns l r => .r [gi c, gi n, .sl 3 (m.map mt), gi sp, .sl 1 (ns.map fun s => [gs s]), qG l, qG r]
theorem idb_qG : ∀ (q : Qn) (n : Nat), idb n (qG q) = true
  | .nil, _ => rfl
  | .mk .., _ => rfl
theorem ren_qG (q : Qn) (f : Nat → Nat) : ren f (qG q) = qG q := ren_none f (idb_qG q 0)
/-- What a question's parser tells. -/
def okA (P : PRes Qn) (L : Nat) (g : GV) (σ : Heap) (n : Nat) : Prop := ∃ q l', P = .ok (q, l') ∧ q ≠ .nil ∧ ToksOk l' ∧ l'.length < L ∧ g = qG q ∧ σ = ps l' ∧ n = 1
theorem okA_n {P : PRes Qn} {L : Nat} {f : FuncId} {args : List GV} {σ : Heap} {R : GV → Prop} (h : Hx pg f 1 args σ (fun g σ' n => 1 ≤ n ∧ ∃ q l', P = .ok (q, l') ∧ q ≠ .nil ∧ ToksOk l' ∧ l'.length < L ∧ g = qG q ∧ σ' = ps l') R) : Hx pg f 1 args σ (okA P L) R :=
  h.weak (fun _ h => h) fun g σ' n' ⟨hn, q, l', h1, h0, h4, h5, h2, h3⟩ => ⟨id, qG q, ps l', 1, ⟨q, l', h1, h0, h4, h5, rfl, rfl, rfl⟩, by rw [h2, ren_id], by rw [h3]; exact ⟨rfl, trivial⟩, by simp [idb_qG, idbH, idbR, idbL, idb, hids, distB, fixB, memB]⟩
structure AskOk (f : Nat) : Prop where
  one : ∀ (n : Nat) (t : Tok) (l : List Tok), n ≤ 100 → ToksOk (t :: l) → l.length ≤ 200 → 3 * (l.length + 1) + 1 ≤ f → Hx pg 44 1 [.p 0 0, gi n] (ps (t :: l)) (okA (oneP f n (t :: l)) (l.length + 1)) (erR (oneP f n (t :: l)))
  sum : ∀ (n : Nat) (t : Tok) (l : List Tok), n ≤ 100 → ToksOk (t :: l) → l.length ≤ 200 → 3 * (l.length + 1) + 3 ≤ f → Hx pg 13 1 [.p 0 0, gi n] (ps (t :: l)) (okA (sumP f n (t :: l)) (l.length + 1)) (erR (sumP f n (t :: l)))
  product : ∀ (n : Nat) (t : Tok) (l : List Tok), n ≤ 100 → ToksOk (t :: l) → l.length ≤ 200 → 3 * (l.length + 1) + 2 ≤ f → Hx pg 27 1 [.p 0 0, gi n] (ps (t :: l)) (okA (productP f n (t :: l)) (l.length + 1)) (erR (productP f n (t :: l)))
theorem Sub.eq {x y : GV} (h : x = y) : Sub x y := h ▸ Sub.rfl
theorem sv7 {a b x d y l r a' x' y' : GV} (ha : Sub a a') (hx : Sub x x') (hy : Sub y y') : SubV [a, b, x, d, y, l, r] [a', b, x', d, y', l, r] :=
  .cons ha (.cons Sub.rfl (.cons hx (.cons Sub.rfl (.cons hy (.cons Sub.rfl (.cons Sub.rfl .nil))))))
theorem one_hx (f : Nat) (ih : AskOk f) (n : Nat) (t : Tok) (l : List Tok) (hn : n ≤ 100) (hE : ToksOk (t :: l)) (hl : l.length ≤ 200) (hf : 3 * (l.length + 1) + 1 ≤ f + 1) : Hx pg 44 1 [.p 0 0, gi n] (ps (t :: l)) (okA (oneP (f + 1) n (t :: l)) (l.length + 1)) (erR (oneP (f + 1) n (t :: l))) := by
  refine okA_n ?_
  have hw : IntKind.i64.wrap ((n : Int) + 1) = ((n + 1 : Nat) : Int) := by rw [wrap_id (by omega) (by omega)]; rfl
  generalize hP : oneP (f + 1) n (t :: l) = P
  rw [oneP] at hP
  refine Hx.ofJ pg_ok Tryd.func44 rfl Tryd.ntmps44 rfl Tryd.results44 Tryd.call44 fun H0 S0 w0 h0 g0 => ?_
  refine V ?_
  by_cases h8 : 8 < n
  · rw [if_pos h8] at hP
    refine p1 ?_ (decide_eq_true (by omega))
    refine GOX (erR P) (fail_hx t l 4) (fun g hg => ⟨4, t.pos, by rw [← hP]; rfl, hg⟩) id rfl rfl ⟨rfl, trivial⟩ rfl (id_lt rfl) ?_
    exact fun _ _ _ h => h.elim
  rw [if_neg h8] at hP
  refine p2 ?_ (decide_eq_false (by omega))
  rcases tf (takesP (bS [45]) (t :: l)) with h1 | h1
  · rw [if_pos h1] at hP
    have hE2 := hE.tail (takesP_iff.1 h1).2
    refine GOH (takes_yes t l (bS [45]) h1) id rfl rfl ⟨rfl, trivial⟩ rfl (id_lt rfl) ?_
    rintro g σ' n' ⟨rfl, rfl, rfl⟩
    obtain ⟨t2, l2, rfl⟩ := hE2.cons
    have hl2 : l2.length + 1 ≤ 200 := hl
    refine GOX (erR P) (ih.one (n + 1) t2 l2 (by omega) hE2 (by omega) (by simp at hf; omega)) (fun g ⟨e, p, h2, h3⟩ => ⟨e, p, by rw [← hP, List.tail_cons, h2], h3⟩) id rfl (congrArg (fun x : Int => [GV.p 0 0, gi x]) hw) ⟨rfl, trivial⟩ rfl (id_lt rfl) ?_
    rintro g σ' n' ⟨q, l3, hq, hne, hE3, hl3, rfl, rfl, rfl⟩
    cases q with
    | nil => exact absurd rfl hne
    | mk c nn m sp ns ql qr =>
      refine VM 4 ?_
      show JK _ _ _ _
      refine JK.subBlk 1 [gi 12, gi 0, .sl 3 [], gi 0, .sl 1 [], qG (.mk c nn m sp ns ql qr), .v (.pointer none)] rfl (sv7 Sub.rfl (Sub.nil 3) (Sub.nil 1)) ?_
      refine JK.freezeB 1 rfl rfl ?_
      refine V ?_
      exact ⟨Nat.le_of_ble_eq_true rfl, .mk 12 0 [] 0 [] (.mk c nn m sp ns ql qr) .nil, l3, by rw [← hP, List.tail_cons, hq], by simp, hE3, Nat.lt_succ_of_lt hl3, rfl, rfl⟩
  rw [if_neg (Bool.eq_false_iff.1 h1)] at hP
  refine GOH (takes_no t l (bS [45]) h1) id rfl rfl ⟨rfl, trivial⟩ rfl (id_lt rfl) ?_
  rintro g σ' n' ⟨rfl, rfl, rfl⟩
  rcases tf (takesP (bS [40]) (t :: l)) with h1 | h1
  · rw [if_pos h1] at hP
    have hE2 := hE.tail (takesP_iff.1 h1).2
    refine GOH (takes_yes t l (bS [40]) h1) id rfl rfl ⟨rfl, trivial⟩ rfl (id_lt rfl) ?_
    rintro g σ' n' ⟨rfl, rfl, rfl⟩
    obtain ⟨t2, l2, rfl⟩ := hE2.cons
    have hl2 : l2.length + 1 ≤ 200 := hl
    refine GOX (erR P) (ih.sum (n + 1) t2 l2 (by omega) hE2 (by omega) (by simp at hf; omega)) (fun g ⟨e, p, h2, h3⟩ => ⟨e, p, by rw [← hP, List.tail_cons, h2], h3⟩) id rfl (congrArg (fun x : Int => [GV.p 0 0, gi x]) hw) ⟨rfl, trivial⟩ rfl (id_lt rfl) ?_
    rintro g σ' n' ⟨q, l3, hq, hne, hE3, hl3, rfl, rfl, rfl⟩
    rw [List.tail_cons, hq] at hP
    obtain ⟨t3, l3, rfl⟩ := hE3.cons
    cases q with
    | nil => exact absurd rfl hne
    | mk c nn m sp ns ql qr =>
      refine V ?_
      refine GOX (erR P) (must_hx t3 l3 (bS [41])) (fun g ⟨e, p, h2, h3⟩ => ⟨e, p, by rw [← hP]; simp only [h2], h3⟩) id rfl rfl ⟨rfl, trivial⟩ rfl (id_lt rfl) ?_
      rintro g σ' n' ⟨hmu, htk, rfl, rfl, rfl⟩
      refine V ?_
      have hl3' : l3.length + 1 < l2.length + 1 := hl3
      exact ⟨Nat.le_of_ble_eq_true rfl, .mk c nn m sp ns ql qr, l3, by rw [← hP]; simp only [hmu], hne, hE3.tail (takesP_iff.1 htk).2, by simp; omega, rfl, rfl⟩
  rw [if_neg (Bool.eq_false_iff.1 h1)] at hP
  refine GOH (takes_no t l (bS [40]) h1) id rfl rfl ⟨rfl, trivial⟩ rfl (id_lt rfl) ?_
  rintro g σ' n' ⟨rfl, rfl, rfl⟩
  refine ⟨tokR t, by decide, rfl, ?_⟩
  have ht := hE.each t List.mem_cons_self
  by_cases hk : t.kind = 2
  · rw [if_pos (show (hdT (t :: l)).kind = 2 from hk)] at hP
    refine p1 ?_ (by simp [hk])
    refine GOX (erR P) (number_hx t l 9223372036854775807 (by have := ht.2; omega) (fun hk => (num_tok ht.1 hk).1)) (fun g ⟨e, p, h2, h3⟩ => ⟨e, p, by rw [← hP, h2], h3⟩) id rfl rfl ⟨rfl, trivial⟩ rfl (id_lt rfl) ?_
    rintro g σ' n' ⟨hnu, _, rfl, rfl, rfl⟩
    refine VM 4 ?_
    show JK _ _ _ _
    refine JK.subBlk 1 [gi 1, gi (numT t.text), .sl 3 [], gi 0, .sl 1 [], .v (.pointer none), .v (.pointer none)] rfl (sv7 Sub.rfl (Sub.nil 3) (Sub.nil 1)) ?_
    refine JK.freezeB 1 rfl rfl ?_
    refine V ?_
    exact ⟨Nat.le_of_ble_eq_true rfl, .mk 1 (numT t.text) [] 0 [] .nil .nil, l, by rw [← hP, hnu], by simp, hE.tail (by omega), Nat.lt_succ_self _, rfl, rfl⟩
  rw [if_neg (show ¬ (hdT (t :: l)).kind = 2 from hk)] at hP
  refine p2 ?_ (by simp [hk])
  rcases tf (isP (bS [123]) (t :: l)) with h1 | h1
  · rw [if_pos h1] at hP
    refine GOH (is_b t l (bS [123]) h1) id rfl rfl ⟨rfl, trivial⟩ rfl (id_lt rfl) ?_
    rintro g σ' n' ⟨rfl, rfl, rfl⟩
    refine GOX (erR P) (matchers_hx t l hE (by omega)) (fun g ⟨e, p, h2, h3⟩ => ⟨e, p, by rw [← hP, h2], h3⟩) id rfl rfl ⟨rfl, trivial⟩ rfl (id_lt rfl) ?_
    rintro g σ' n' ⟨m, l2, hm, hE2, hl2, rfl, rfl, rfl⟩
    refine VM 4 ?_
    show JK _ _ _ _
    refine JK.subBlk 1 [gi 2, gi 0, .sl 3 (m.map mt), gi 300, .sl 1 [], .v (.pointer none), .v (.pointer none)] rfl (sv7 Sub.rfl Sub.rfl (Sub.nil 1)) ?_
    refine JK.freezeB 1 rfl rfl ?_
    refine V ?_
    exact ⟨Nat.le_of_ble_eq_true rfl, .mk 2 0 m 300 [] .nil .nil, l2, by rw [← hP, hm], by simp, hE2, hl2, rfl, rfl⟩
  rw [if_neg (Bool.eq_false_iff.1 h1)] at hP
  refine GOJ (is_b t l (bS [123]) h1) id rfl rfl ⟨rfl, trivial⟩ rfl (id_lt rfl) ?_
  rintro g σ' n' ⟨rfl, rfl, rfl⟩
  refine VM 6 ?_
  refine SLA (oversL.map .string) rfl rfl rfl rfl rfl rfl rfl rfl rfl rfl rfl ?_
  cases hfi : oversL.findIdx? fun s => isP s (t :: l) with
  | some j =>
    simp only [hfi] at hP
    have hj : j < 5 := (List.findIdx?_eq_some_iff_getElem.1 hfi).1
    refine V ?_
    refine GOH ((idxIs_hf oversL (by decide) t l).imp (Q' := fun g σ n => g = gi j ∧ σ = ps (t :: l) ∧ n = 1) fun g σ n ⟨e, r⟩ => ⟨by rw [e, hfi], r⟩) id rfl rfl ⟨rfl, trivial⟩ rfl (id_lt rfl) ?_
    rintro g σ' n' ⟨rfl, rfl, rfl⟩
    refine p1 ?_ (decide_eq_true (by omega))
    refine ⟨by omega, by omega, ?_⟩
    refine ons_mk (g := gs (oversL.getD j ⟨#[]⟩)) ?_ ?_
    · match j, hj with
      | 0, _ => rfl
      | 1, _ => rfl
      | 2, _ => rfl
      | 3, _ => rfl
      | 4, _ => rfl
    refine GOX (erR P) (must_hx t l (oversL.getD j ⟨#[]⟩)) (fun g ⟨e, p, h2, h3⟩ => ⟨e, p, by rw [← hP, h2], h3⟩) id rfl rfl ⟨rfl, trivial⟩ rfl (id_lt rfl) ?_
    rintro g σ' n' ⟨hmu, htk, rfl, rfl, rfl⟩
    have hE2 := hE.tail (takesP_iff.1 htk).2
    simp only [hmu] at hP
    obtain ⟨t2, l2, rfl⟩ := hE2.cons
    simp only [List.length_cons] at hl hf
    refine V ?_
    refine GOX (erR P) (must_hx t2 l2 (bS [40])) (fun g ⟨e, p, h2, h3⟩ => ⟨e, p, by rw [← hP, h2], h3⟩) id rfl rfl ⟨rfl, trivial⟩ rfl (id_lt rfl) ?_
    rintro g σ' n' ⟨hmu2, htk2, rfl, rfl, rfl⟩
    have hE3 := hE2.tail (takesP_iff.1 htk2).2
    simp only [hmu2] at hP
    obtain ⟨t3, l3, rfl⟩ := hE3.cons
    simp only [List.length_cons] at hl hf
    refine V ?_
    refine GOX (erR P) (matchers_hx t3 l3 hE3 (by omega)) (fun g ⟨e, p, h2, h3⟩ => ⟨e, p, by rw [← hP, h2], h3⟩) id rfl rfl ⟨rfl, trivial⟩ rfl (id_lt rfl) ?_
    rintro g σ' n' ⟨m, l4, hm, hE4, hl4, rfl, rfl, rfl⟩
    simp only [hm] at hP
    obtain ⟨t4, l4, rfl⟩ := hE4.cons
    simp only [List.length_cons] at hl4
    refine V ?_
    refine GOX (erR P) (must_hx t4 l4 (bS [91])) (fun g ⟨e, p, h2, h3⟩ => ⟨e, p, by rw [← hP, h2], h3⟩) id rfl rfl ⟨rfl, trivial⟩ rfl (id_lt rfl) ?_
    rintro g σ' n' ⟨hmu4, htk4, rfl, rfl, rfl⟩
    have hE5 := hE4.tail (takesP_iff.1 htk4).2
    simp only [hmu4] at hP
    obtain ⟨t5, l5, rfl⟩ := hE5.cons
    simp only [List.length_cons] at hl4
    have ht5 := hE5.each t5 List.mem_cons_self
    refine V ?_
    refine GOX (erR P) (number_hx t5 l5 1099511627776 (by have := ht5.2; omega) (fun hk => (num_tok ht5.1 hk).1)) (fun g ⟨e, p, h2, h3⟩ => ⟨e, p, by rw [← hP, h2], h3⟩) id rfl rfl ⟨rfl, trivial⟩ rfl (id_lt rfl) ?_
    rintro g σ' n' ⟨hnu, hk5, rfl, rfl, rfl⟩
    have hE6 := hE5.tail (by omega)
    simp only [hnu] at hP
    obtain ⟨t6, l6, rfl⟩ := hE6.cons
    simp only [List.length_cons] at hl4
    refine VM 4 ?_
    have hwj : gi (3 + (j : Int)) = gi (IntKind.i64.wrap (3 + (j : Int))) := by rw [wrap_id (by omega) (by omega)]
    refine JK.cut (α := Unit) (fun _ => ⟨[(0, .p 0 0), (7, .p 1 0)], [(0, .blk 44 [tks (t6 :: l6)]), (1, .blk 37 [gi (IntKind.i64.wrap (3 + (j : Int))), gi 0, .sl 3 (m.map mt), gi (if numT t5.text < 1 then 1 else numT t5.text), .v (.slice none 0 0), .v (.pointer none), .v (.pointer none)])], 2⟩) (fun _ => True) ?_ ?_
    · refine V ?_
      by_cases h1 : numT t5.text < 1
      · refine p1 ?_ (decide_eq_true h1)
        exact ⟨(), id, ⟨⟨rfl, rfl, trivial⟩, ⟨rfl, by rw [if_pos h1]; rfl, trivial⟩, rfl⟩, trivial⟩
      · refine p2 ?_ (decide_eq_false h1)
        exact ⟨(), id, ⟨⟨rfl, rfl, trivial⟩, ⟨rfl, by rw [if_neg h1]; rfl, trivial⟩, rfl⟩, trivial⟩
    rintro _ _
    refine JK.subBlk 1 [gi (3 + (j : Int)), gi 0, .sl 3 (m.map mt), gi (if numT t5.text < 1 then 1 else numT t5.text), .sl 1 [], .v (.pointer none), .v (.pointer none)] rfl (sv7 (Sub.eq hwj) Sub.rfl (Sub.nil 1)) ?_
    refine JK.freezeB 1 rfl rfl ?_
    refine V ?_
    refine GOX (erR P) (must_hx t6 l6 (bS [93])) (fun g ⟨e, p, h2, h3⟩ => ⟨e, p, by rw [← hP, h2], h3⟩) id rfl rfl ⟨rfl, trivial⟩ rfl (id_lt rfl) ?_
    rintro g σ' n' ⟨hmu6, htk6, rfl, rfl, rfl⟩
    have hE7 := hE6.tail (takesP_iff.1 htk6).2
    simp only [hmu6] at hP
    obtain ⟨t7, l7, rfl⟩ := hE7.cons
    simp only [List.length_cons] at hl4
    refine V ?_
    refine GOX (erR P) (must_hx t7 l7 (bS [41])) (fun g ⟨e, p, h2, h3⟩ => ⟨e, p, by rw [← hP, h2], h3⟩) id rfl rfl ⟨rfl, trivial⟩ rfl (id_lt rfl) ?_
    rintro g σ' n' ⟨hmu7, htk7, rfl, rfl, rfl⟩
    have hE8 := hE7.tail (takesP_iff.1 htk7).2
    simp only [hmu7] at hP
    refine V ?_
    exact ⟨Nat.le_of_ble_eq_true rfl, .mk (3 + j) 0 m (if numT t5.text < 1 then 1 else numT t5.text) [] .nil .nil, l7, hP.symm, by simp, hE8, by simp; omega, rfl, rfl⟩
  | none =>
    simp only [hfi] at hP
    refine VM 2 ?_
    refine GOJ ((idxIs_hf oversL (by decide) t l).imp (Q' := fun g σ n => g = gi (-1) ∧ σ = ps (t :: l) ∧ n = 1) fun g σ n ⟨e, r⟩ => ⟨by rw [e, hfi], r⟩) id rfl rfl ⟨rfl, trivial⟩ rfl (id_lt rfl) ?_
    rintro g σ' n' ⟨rfl, rfl, rfl⟩
    refine VM 11 ?_
    refine p2 ?_
    show JK _ _ _ _
    refine SLA (allsL.map .string) rfl rfl rfl rfl rfl rfl rfl rfl rfl rfl rfl ?_
    refine V ?_
    cases hfi : allsL.findIdx? fun s => isP s (t :: l) with
    | none =>
      simp only [hfi] at hP
      refine GOH ((idxIs_hf allsL (by decide) t l).imp (Q' := fun g σ n => g = gi (-1) ∧ σ = ps (t :: l) ∧ n = 1) fun g σ n ⟨e, r⟩ => ⟨by rw [e, hfi], r⟩) id rfl rfl ⟨rfl, trivial⟩ rfl (id_lt rfl) ?_
      rintro g σ' n' ⟨rfl, rfl, rfl⟩
      refine p1 ?_
      refine GOX (erR P) (fail_hx t l 3) (fun g hg => ⟨3, t.pos, by rw [← hP]; rfl, hg⟩) id rfl rfl ⟨rfl, trivial⟩ rfl (id_lt rfl) ?_
      exact fun _ _ _ h => h.elim
    | some j =>
      simp only [hfi] at hP
      have hj : j < 4 := (List.findIdx?_eq_some_iff_getElem.1 hfi).1
      refine GOH ((idxIs_hf allsL (by decide) t l).imp (Q' := fun g σ n => g = gi j ∧ σ = ps (t :: l) ∧ n = 1) fun g σ n ⟨e, r⟩ => ⟨by rw [e, hfi], r⟩) id rfl rfl ⟨rfl, trivial⟩ rfl (id_lt rfl) ?_
      rintro g σ' n' ⟨rfl, rfl, rfl⟩
      refine p2 ?_ (decide_eq_false (by omega))
      refine ⟨by omega, by omega, ?_⟩
      refine ons_mk (g := gs (allsL.getD j ⟨#[]⟩)) ?_ ?_
      · match j, hj with
        | 0, _ => rfl
        | 1, _ => rfl
        | 2, _ => rfl
        | 3, _ => rfl
      refine GOX (erR P) (must_hx t l (allsL.getD j ⟨#[]⟩)) (fun g ⟨e, p, h2, h3⟩ => ⟨e, p, by rw [← hP, h2], h3⟩) id rfl rfl ⟨rfl, trivial⟩ rfl (id_lt rfl) ?_
      rintro g σ' n' ⟨hmu, htk, rfl, rfl, rfl⟩
      have hE2 := hE.tail (takesP_iff.1 htk).2
      simp only [hmu] at hP
      obtain ⟨t2, l2, rfl⟩ := hE2.cons
      simp only [List.length_cons] at hl hf
      refine V ?_
      refine GOX (erR P) (must_hx t2 l2 (bS [40])) (fun g ⟨e, p, h2, h3⟩ => ⟨e, p, by rw [← hP, h2], h3⟩) id rfl rfl ⟨rfl, trivial⟩ rfl (id_lt rfl) ?_
      rintro g σ' n' ⟨hmu2, htk2, rfl, rfl, rfl⟩
      have hE3 := hE2.tail (takesP_iff.1 htk2).2
      simp only [hmu2] at hP
      obtain ⟨t3, l3, rfl⟩ := hE3.cons
      simp only [List.length_cons] at hl hf
      refine V ?_
      refine GOX (erR P) (ih.sum (n + 1) t3 l3 (by omega) hE3 (by omega) (by omega)) (fun g ⟨e, p, h2, h3⟩ => ⟨e, p, by rw [← hP, h2], h3⟩) id rfl (congrArg (fun x : Int => [GV.p 0 0, gi x]) hw) ⟨rfl, trivial⟩ rfl (id_lt rfl) ?_
      rintro g σ' n' ⟨q, l4, hq, hne, hE4, hl4, rfl, rfl, rfl⟩
      simp only [hq] at hP
      obtain ⟨t4, l4, rfl⟩ := hE4.cons
      simp only [List.length_cons] at hl4
      cases q with
      | nil => exact absurd rfl hne
      | mk c nn m sp ns ql qr =>
      refine VM 4 ?_
      show JK _ _ _ _
      have hwj : gi (8 + (j : Int)) = gi (IntKind.i64.wrap (8 + (j : Int))) := by rw [wrap_id (by omega) (by omega)]
      refine JK.subBlk 1 [gi (8 + (j : Int)), gi 0, .sl 3 [], gi 0, .v (.slice none 0 0), .r [gi c, gi nn, .sl 3 (m.map mt), gi sp, .sl 1 (ns.map fun s => [gs s]), qG ql, qG qr], .v (.pointer none)] rfl (sv7 (Sub.eq hwj) (Sub.nil 3) Sub.rfl) ?_
      refine V ?_
      refine GOX (erR P) (must_hx t4 l4 (bS [41])) (fun g ⟨e, p, h2, h3⟩ => ⟨e, p, by rw [← hP, h2], h3⟩) id rfl rfl ⟨rfl, trivial⟩ rfl (id_lt rfl) ?_
      rintro g σ' n' ⟨hmu4, htk4, rfl, rfl, rfl⟩
      have hE5 := hE4.tail (takesP_iff.1 htk4).2
      simp only [hmu4] at hP
      obtain ⟨t5, l5, rfl⟩ := hE5.cons
      simp only [List.length_cons] at hl4
      refine V ?_
      rcases tf (takesP (bS [98, 121]) (t5 :: l5)) with hby | hby
      · rw [if_pos hby, List.tail_cons] at hP
        have hE6 := hE5.tail (takesP_iff.1 hby).2
        obtain ⟨t6, l6, rfl⟩ := hE6.cons
        refine GOH (takes_yes t5 _ (bS [98, 121]) hby) id rfl rfl ⟨rfl, trivial⟩ rfl (id_lt rfl) ?_
        rintro g σ' n' ⟨rfl, rfl, rfl⟩
        refine GOX (erR P) (must_hx t6 l6 (bS [40])) (fun g ⟨e, p, h2, h3⟩ => ⟨e, p, by rw [← hP, h2], h3⟩) id rfl rfl ⟨rfl, trivial⟩ rfl (id_lt rfl) ?_
        rintro g σ' n' ⟨hmu6, htk6, rfl, rfl, rfl⟩
        have hE7 := hE6.tail (takesP_iff.1 htk6).2
        simp only [hmu6] at hP
        obtain ⟨t7, l7, rfl⟩ := hE7.cons
        simp only [List.length_cons] at hl4
        refine V ?_
        show JK _ _ _ _
        generalize hR : namesL ((t7 :: l7).length + 1) [] (t7 :: l7) = R at hP
        refine JK.ownNilB 1 4 9 1 rfl rfl ?_
        refine JK.loopE (α := Bool × List ByteArray × Tok × List Tok × Nat) (β := List ByteArray × Tok × List Tok) (fun x => ⟨[(0, .p 0 0), (9, .p 1 0), (10, .v (.bool x.1))], [(0, .blk 44 [tks (x.2.2.1 :: x.2.2.2.1)]), (1, .blk 37 [gi (8 + (j : Int)), gi 0, .sl 3 [], gi 0, .o 2, .r [gi c, gi nn, .sl 3 (m.map mt), gi sp, .sl 1 (ns.map fun s => [gs s]), qG ql, qG qr], .v (.pointer none)]), (2, .row 9 1 (x.2.1.map fun s => [gs s]))], 3⟩)
          (fun x => (if x.1 = true then x.2.1 = [] ∧ namesL x.2.2.2.2 [] (x.2.2.1 :: x.2.2.2.1) = R else (if takesP (bS [44]) (x.2.2.1 :: x.2.2.2.1) = true then namesL x.2.2.2.2 x.2.1 x.2.2.2.1 else .ok (x.2.1, x.2.2.1 :: x.2.2.2.1)) = R) ∧ ToksOk (x.2.2.1 :: x.2.2.2.1) ∧ x.2.2.2.1.length < x.2.2.2.2 ∧ x.2.1.length ≤ 8 ∧ x.2.2.2.1.length ≤ l7.length) (fun x => x.2.2.2.1.length)
          (fun y => ⟨[(0, .p 0 0), (9, .p 1 0)], [(0, .blk 44 [tks (y.2.1 :: y.2.2)]), (1, .blk 37 [gi (8 + (j : Int)), gi 0, .sl 3 [], gi 0, .o 2, .r [gi c, gi nn, .sl 3 (m.map mt), gi sp, .sl 1 (ns.map fun s => [gs s]), qG ql, qG qr], .v (.pointer none)]), (2, .row 9 1 (y.1.map fun s => [gs s]))], 3⟩) (fun y => R = .ok (y.1, y.2.1 :: y.2.2) ∧ ToksOk (y.2.1 :: y.2.2) ∧ y.2.2.length ≤ l7.length) (true, [], t7, l7, (t7 :: l7).length + 1) id ?_ ?_ ?_ ?_
        · exact ⟨⟨rfl, rfl, rfl, trivial⟩, ⟨rfl, rfl, rfl, trivial⟩, rfl⟩
        · exact ⟨⟨rfl, hR⟩, hE7, by simp; omega, by simp, Nat.le_refl _⟩
        · rintro ⟨b, acc, t8, l8, f8⟩ ⟨hb, hE8, hf8, h8c, hl8⟩
          replace hE8 : ToksOk (t8 :: l8) := hE8
          replace hf8 : l8.length < f8 := hf8
          replace h8c : acc.length ≤ 8 := h8c
          replace hl8 : l8.length ≤ l7.length := hl8
          refine VM 1 ?_
          refine JK.cut (α := Tok × List Tok × Nat) (fun x => ⟨[(0, .p 0 0), (9, .p 1 0)], [(0, .blk 44 [tks (x.1 :: x.2.1)]), (1, .blk 37 [gi (8 + (j : Int)), gi 0, .sl 3 [], gi 0, .o 2, .r [gi c, gi nn, .sl 3 (m.map mt), gi sp, .sl 1 (ns.map fun s => [gs s]), qG ql, qG qr], .v (.pointer none)]), (2, .row 9 1 (acc.map fun s => [gs s]))], 3⟩) (fun x => namesL (x.2.2 + 1) acc (x.1 :: x.2.1) = R ∧ ToksOk (x.1 :: x.2.1) ∧ x.2.1.length < x.2.2 + 1 ∧ x.2.1.length ≤ l8.length) ?_ ?_
          · obtain ⟨f8, rfl⟩ : ∃ f, f8 = f + 1 := ⟨f8 - 1, by omega⟩
            cases b with
            | true =>
              obtain ⟨hacc, hb⟩ := hb
              replace hacc : acc = [] := hacc
              replace hb : namesL (f8 + 1) [] (t8 :: l8) = R := hb
              refine V ?_
              exact ⟨(t8, l8, f8), id, ⟨⟨rfl, rfl, trivial⟩, ⟨rfl, rfl, rfl, trivial⟩, rfl⟩, by rw [hacc]; exact hb, hE8, hf8, Nat.le_refl _⟩
            | false =>
              replace hb : (if takesP (bS [44]) (t8 :: l8) = true then namesL (f8 + 1) acc l8 else .ok (acc, t8 :: l8)) = R := hb
              refine V ?_
              rcases tf (takesP (bS [44]) (t8 :: l8)) with hc | hc
              · rw [if_pos hc] at hb
                have hE9 := hE8.tail (takesP_iff.1 hc).2
                obtain ⟨t9, l9, rfl⟩ := hE9.cons
                refine GOH (takes_yes t8 _ (bS [44]) hc) id rfl rfl ⟨rfl, trivial⟩ rfl (id_lt rfl) ?_
                rintro g σ' n' ⟨rfl, rfl, rfl⟩
                exact ⟨(t9, l9, f8), id, ⟨⟨rfl, rfl, trivial⟩, ⟨rfl, rfl, rfl, trivial⟩, rfl⟩, hb, hE9, by simp at hf8 ⊢; omega, by simp⟩
              · rw [if_neg (Bool.eq_false_iff.1 hc)] at hb
                refine GOH (takes_no t8 l8 (bS [44]) hc) id rfl rfl ⟨rfl, trivial⟩ rfl (id_lt rfl) ?_
                rintro g σ' n' ⟨rfl, rfl, rfl⟩
                exact ⟨(acc, t8, l8), id, ⟨⟨rfl, rfl, trivial⟩, ⟨rfl, rfl, rfl, trivial⟩, rfl⟩, hb.symm, hE8, hl8⟩
          rintro ⟨t9, l9, f9⟩ ⟨hR9, hE9, hf9, hl9⟩
          replace hE9 : ToksOk (t9 :: l9) := hE9
          replace hf9 : l9.length < f9 + 1 := hf9
          replace hl9 : l9.length ≤ l8.length := hl9
          replace hR9 : namesL (f9 + 1) acc (t9 :: l9) = R := hR9
          rw [namesL] at hR9
          refine V ?_
          by_cases h8' : 8 ≤ acc.length
          · rw [if_pos h8'] at hR9
            refine p1 ?_ (decide_eq_true (by simp; omega))
            refine GOX (erR P) (fail_hx t9 l9 4) (fun g hg => ⟨4, t9.pos, by rw [← hP, ← hR9]; rfl, hg⟩) id rfl rfl ⟨rfl, trivial⟩ rfl (id_lt rfl) ?_
            exact fun _ _ _ h => h.elim
          rw [if_neg h8'] at hR9
          refine p2 ?_ (decide_eq_false (by simp; omega))
          show JK _ _ _ _
          cases hnp : nameP (t9 :: l9) with
          | error ee =>
            obtain ⟨e1, p1⟩ := ee
            simp only [hnp] at hR9
            refine DRAWX [0] false (tk [0, 1, 2, 3, 4, 5]) (by kernel_rfl) ?_
            refine RGOX (erR P) 6 false [] (name_hx t9 l9) (fun g ⟨e, p, h2, h3⟩ => ⟨e, p, by rw [hnp] at h2; rw [← hP, ← hR9]; exact congrArg _ (Except.error.inj h2), h3⟩) id rfl rfl rfl ⟨rfl, trivial⟩ rfl (id_lt rfl) (by kernel_rfl) ?_
            rintro g σ' n' ⟨h2, _⟩
            rw [hnp] at h2
            cases h2
          | ok rr =>
            have hH : Hf pg 32 1 [.p 0 0] (ps (t9 :: l9)) (fun g σ n => nameP (t9 :: l9) = .ok (t9.text, l9) ∧ t9.kind = 1 ∧ g = gs t9.text ∧ σ = ps l9 ∧ n = 1) :=
              ((name_hx t9 l9).imp (R' := fun _ => False) (fun g ⟨e, p, h, _⟩ => by rw [hnp] at h; cases h) (fun _ _ _ h => h)).hf
            have hn0 : rr = (t9.text, l9) ∧ t9.kind = 1 := nameP_is hnp
            obtain ⟨rfl, hk9⟩ := hn0
            have hE10 := hE9.tail (by omega)
            obtain ⟨t10, l10, rfl⟩ := hE10.cons
            simp only [hnp] at hR9
            simp only [List.length_cons] at hf9 hl9
            have hx1 : l10.length < f9 := by omega
            have hx2 : (acc ++ [t9.text]).length ≤ 8 := by simp; omega
            have hx3 : l10.length ≤ l7.length := by omega
            have hx4 : l10.length < l8.length := by omega
            refine DRAWX [0, 1, 2] false (tk [0, 1, 2, 3, 5]) (by kernel_rfl) ?_
            refine RA.both 4 6 (eqB_eq (by kernel_rfl)) (Stp.read 4 pg_ok rfl rfl ?_) (Stp.hf 6 hH id rfl rfl rfl ⟨rfl, trivial⟩ rfl (id_lt rfl) ?_)
            · refine RGOX (erR P) 6 true (al [7, 8] ++ tk [9, 10] ++ al [11]) hH.x (R := fun _ => False) (fun g h => h.elim) id rfl rfl rfl ⟨rfl, trivial⟩ rfl (id_lt rfl) (by kernel_rfl) ?_
              rintro g σ' n' ⟨hn1, hn2, rfl, rfl, rfl⟩
              refine ⟨by simp; omega, ?_⟩
              refine V ?_
              exact ⟨(false, acc ++ [t9.text], t10, l10, f9), fun i => bif Nat.beq i 2 then 4 else i, ⟨⟨rfl, rfl, rfl, trivial⟩, ⟨rfl, rfl, congrArg (fun x => some (Res.row 9 1 x)) (List.map_append (l₁ := acc) (l₂ := [t9.text])).symm, trivial⟩, rfl⟩, ⟨hR9, hE10, hx1, hx2, hx3⟩, hx4⟩
            · rintro g σ' n' ⟨hn1, hn2, rfl, rfl, rfl⟩
              refine RA.both 4 7 (eqB_eq (by kernel_rfl)) (Stp.read 4 pg_ok rfl rfl ?_) (Stp.mem 7 pg_ok rfl rfl rfl ?_)
              · refine RA.runX (cx := ⟨pg, _, _, _, _, _, _, _⟩) pg_ok (by kernel_rfl) (fun _ _ _ _ h => h) (al [7, 8] ++ tk [9, 10] ++ al [11]) (e := true) (by kernel_rfl) ?_
                refine ⟨by simp; omega, ?_⟩
                refine V ?_
                exact ⟨(false, acc ++ [t9.text], t10, l10, f9), fun i => bif Nat.beq i 2 then 4 else i, ⟨⟨rfl, rfl, rfl, trivial⟩, ⟨rfl, rfl, congrArg (fun x => some (Res.row 9 1 x)) (List.map_append (l₁ := acc) (l₂ := [t9.text])).symm, trivial⟩, rfl⟩, ⟨hR9, hE10, hx1, hx2, hx3⟩, hx4⟩
              · refine RA.runX (cx := ⟨pg, _, _, _, _, _, _, _⟩) pg_ok (by kernel_rfl) (fun _ _ _ _ h => h) (al [4, 8] ++ tk [9, 10] ++ al [11]) (e := true) (by kernel_rfl) ?_
                refine ⟨by simp; omega, ?_⟩
                refine V ?_
                exact ⟨(false, acc ++ [t9.text], t10, l10, f9), fun i => bif Nat.beq i 2 then 4 else i, ⟨⟨rfl, rfl, rfl, trivial⟩, ⟨rfl, rfl, congrArg (fun x => some (Res.row 9 1 x)) (List.map_append (l₁ := acc) (l₂ := [t9.text])).symm, trivial⟩, rfl⟩, ⟨hR9, hE10, hx1, hx2, hx3⟩, hx4⟩
        · rintro ⟨acc, t8, l8⟩ ⟨hq2, hE8, hl8⟩
          replace hE8 : ToksOk (t8 :: l8) := hE8
          replace hl8 : l8.length ≤ l7.length := hl8
          replace hq2 : R = .ok (acc, t8 :: l8) := hq2
          simp only [hq2] at hP
          refine FRZ 2 rfl ?_
          show JK _ _ _ _
          refine JK.freezeB 1 rfl rfl ?_
          refine V ?_
          refine GOX (erR P) (must_hx t8 l8 (bS [41])) (fun g ⟨e, p, h2, h3⟩ => ⟨e, p, by rw [← hP, h2], h3⟩) id rfl rfl ⟨rfl, trivial⟩ rfl (id_lt rfl) ?_
          rintro g σ' n' ⟨hmu8, htk8, rfl, rfl, rfl⟩
          simp only [hmu8] at hP
          refine V ?_
          exact ⟨Nat.le_of_ble_eq_true rfl, .mk (8 + j) 0 [] 0 acc (.mk c nn m sp ns ql qr) .nil, l8, hP.symm, by simp, hE8.tail (takesP_iff.1 htk8).2, by simp; omega, rfl, rfl⟩
      · rw [if_neg (Bool.eq_false_iff.1 hby)] at hP
        refine GOJ (takes_no t5 l5 (bS [98, 121]) hby) id rfl rfl ⟨rfl, trivial⟩ rfl (id_lt rfl) ?_
        rintro g σ' n' ⟨rfl, rfl, rfl⟩
        refine JK.subBlk 1 [gi (8 + (j : Int)), gi 0, .sl 3 [], gi 0, .sl 1 [], .r [gi c, gi nn, .sl 3 (m.map mt), gi sp, .sl 1 (ns.map fun s => [gs s]), qG ql, qG qr], .v (.pointer none)] rfl (sv7 Sub.rfl Sub.rfl (Sub.nil 1)) ?_
        refine JK.freezeB 1 rfl rfl ?_
        refine V ?_
        exact ⟨Nat.le_of_ble_eq_true rfl, .mk (8 + j) 0 [] 0 [] (.mk c nn m sp ns ql qr) .nil, t5 :: l5, hP.symm, by simp, hE5, by simp; omega, rfl, rfl⟩
end Go.Proofs.YtihakhdinkkdmaaDoor
/-
  Contracts: questions: products and sums; the three of them together. (Printed by gen/gen_ap.py.)
-/
namespace Go.Proofs.YtihakhdinkkdmaaDoor
open Go.GK Go.RowKit Go.PL
set_option maxRecDepth 100000
theorem product_hx (f : Nat) (ih : ∀ f', f' < f + 1 → AskOk f') (n : Nat) (t0 : Tok) (l0 : List Tok) (hn : n ≤ 100) (hE0 : ToksOk (t0 :: l0)) (hl0 : l0.length ≤ 200) (hf : 3 * (l0.length + 1) + 2 ≤ f + 1) : Hx pg 27 1 [.p 0 0, gi n] (ps (t0 :: l0)) (okA (productP (f + 1) n (t0 :: l0)) (l0.length + 1)) (erR (productP (f + 1) n (t0 :: l0))) := by
  refine okA_n ?_
  generalize hP : productP (f + 1) n (t0 :: l0) = P
  rw [productP] at hP
  refine Hx.ofJ pg_ok Tryd.func27 rfl Tryd.ntmps27 rfl Tryd.results27 Tryd.call27 fun H0 S0 w0 h0 g0 => ?_
  refine V ?_
  refine GOX (erR P) ((ih f (Nat.lt_succ_self f)).one n t0 l0 hn hE0 hl0 (by omega)) (fun g ⟨e, p, h2, h3⟩ => ⟨e, p, by rw [← hP, h2], h3⟩) id rfl rfl ⟨rfl, trivial⟩ rfl (id_lt rfl) ?_
  rintro g σ' n' ⟨q, l1, hq, hne, hE1, hl1, rfl, rfl, rfl⟩
  simp only [hq] at hP
  obtain ⟨t1, l1, rfl⟩ := hE1.cons
  simp only [List.length_cons] at hl1
  cases q with
  | nil => exact absurd rfl hne
  | mk c nn m sp ns ql qr =>
  refine V ?_
  show JK _ _ _ _
  refine JK.loop (α := Qn × Tok × List Tok × Nat) (fun x => ⟨[(0, .p 0 0), (1, gi n), (5, qG x.1)], [(0, .blk 44 [tks (x.2.1 :: x.2.2.1)])], 1⟩) (fun x => x.1 ≠ .nil ∧ ToksOk (x.2.1 :: x.2.2.1) ∧ 3 * (x.2.2.1.length + 1) + 2 ≤ x.2.2.2 ∧ x.2.2.2 ≤ f ∧ x.2.2.1.length < l0.length ∧ productL x.2.2.2 n x.1 (x.2.1 :: x.2.2.1) = P) (fun x => x.2.2.1.length) (.mk c nn m sp ns ql qr, t1, l1, f) id ?_ ?_ ?_
  · exact ⟨⟨rfl, rfl, rfl, trivial⟩, ⟨rfl, trivial⟩, rfl⟩
  · exact ⟨by simp, hE1, by show 3 * (l1.length + 1) + 2 ≤ f; omega, Nat.le_refl _, by show l1.length < l0.length; omega, hP⟩
  rintro ⟨q, t, l, f2⟩ ⟨hne, hE, hf2, hff, hl, hR⟩
  replace hne : q ≠ .nil := hne
  replace hE : ToksOk (t :: l) := hE
  replace hf2 : 3 * (l.length + 1) + 2 ≤ f2 := hf2
  replace hff : f2 ≤ f := hff
  replace hl : l.length < l0.length := hl
  replace hR : productL f2 n q (t :: l) = P := hR
  obtain ⟨f2, rfl⟩ : ∃ k, f2 = k + 1 := ⟨f2 - 1, by omega⟩
  rw [productL] at hR
  cases q with
  | nil => exact absurd rfl hne
  | mk c nn m sp ns ql qr =>
  refine V ?_
  rcases tf (takesP (bS [42]) (t :: l)) with h1 | h1
  · rw [if_pos h1] at hR
    have hE2 := hE.tail (takesP_iff.1 h1).2
    obtain ⟨t2, l2, rfl⟩ := hE2.cons
    rw [List.tail_cons] at hR
    simp only [List.length_cons] at hf2 hl
    refine GOH (takes_yes t _ (bS [42]) h1) id rfl rfl ⟨rfl, trivial⟩ rfl (id_lt rfl) ?_
    rintro g σ' n' ⟨rfl, rfl, rfl⟩
    refine GOX (erR P) ((ih f2 (by omega)).one n t2 l2 hn hE2 (by omega) (by omega)) (fun g ⟨e, p, h2, h3⟩ => ⟨e, p, by rw [← hR, h2], h3⟩) id rfl rfl ⟨rfl, trivial⟩ rfl (id_lt rfl) ?_
    rintro g σ' n' ⟨q2, l3, hq2, hne2, hE3, hl3, rfl, rfl, rfl⟩
    simp only [hq2] at hR
    obtain ⟨t3, l3, rfl⟩ := hE3.cons
    simp only [List.length_cons] at hl3
    cases q2 with
    | nil => exact absurd rfl hne2
    | mk c2 nn2 m2 sp2 ns2 ql2 qr2 =>
    refine VM 3 ?_
    show JK _ _ _ _
    refine JK.subBlk 1 [gi 15, gi 0, .sl 3 [], gi 0, .sl 1 [], .r [gi c, gi nn, .sl 3 (m.map mt), gi sp, .sl 1 (ns.map fun s => [gs s]), qG ql, qG qr], .r [gi c2, gi nn2, .sl 3 (m2.map mt), gi sp2, .sl 1 (ns2.map fun s => [gs s]), qG ql2, qG qr2]] rfl (sv7 Sub.rfl (Sub.nil 3) (Sub.nil 1)) ?_
    refine JK.freezeB 1 rfl rfl ?_
    refine V ?_
    exact ⟨(.mk 15 0 [] 0 [] (.mk c nn m sp ns ql qr) (.mk c2 nn2 m2 sp2 ns2 ql2 qr2), t3, l3, f2), id, ⟨⟨rfl, rfl, rfl, trivial⟩, ⟨rfl, trivial⟩, rfl⟩, ⟨by simp, hE3, by show 3 * (l3.length + 1) + 2 ≤ f2; omega, by show f2 ≤ f; omega, by show l3.length < l0.length; omega, hR⟩, by show l3.length < l2.length + 1; omega⟩
  rw [if_neg (Bool.eq_false_iff.1 h1)] at hR
  refine GOH (takes_no t l (bS [42]) h1) id rfl rfl ⟨rfl, trivial⟩ rfl (id_lt rfl) ?_
  rintro g σ' n' ⟨rfl, rfl, rfl⟩
  rcases tf (takesP (bS [47]) (t :: l)) with h1 | h1
  · rw [if_pos h1] at hR
    have hE2 := hE.tail (takesP_iff.1 h1).2
    obtain ⟨t2, l2, rfl⟩ := hE2.cons
    rw [List.tail_cons] at hR
    simp only [List.length_cons] at hf2 hl
    refine GOH (takes_yes t _ (bS [47]) h1) id rfl rfl ⟨rfl, trivial⟩ rfl (id_lt rfl) ?_
    rintro g σ' n' ⟨rfl, rfl, rfl⟩
    refine GOX (erR P) ((ih f2 (by omega)).one n t2 l2 hn hE2 (by omega) (by omega)) (fun g ⟨e, p, h2, h3⟩ => ⟨e, p, by rw [← hR, h2], h3⟩) id rfl rfl ⟨rfl, trivial⟩ rfl (id_lt rfl) ?_
    rintro g σ' n' ⟨q2, l3, hq2, hne2, hE3, hl3, rfl, rfl, rfl⟩
    simp only [hq2] at hR
    obtain ⟨t3, l3, rfl⟩ := hE3.cons
    simp only [List.length_cons] at hl3
    cases q2 with
    | nil => exact absurd rfl hne2
    | mk c2 nn2 m2 sp2 ns2 ql2 qr2 =>
    refine VM 3 ?_
    show JK _ _ _ _
    refine JK.subBlk 1 [gi 16, gi 0, .sl 3 [], gi 0, .sl 1 [], .r [gi c, gi nn, .sl 3 (m.map mt), gi sp, .sl 1 (ns.map fun s => [gs s]), qG ql, qG qr], .r [gi c2, gi nn2, .sl 3 (m2.map mt), gi sp2, .sl 1 (ns2.map fun s => [gs s]), qG ql2, qG qr2]] rfl (sv7 Sub.rfl (Sub.nil 3) (Sub.nil 1)) ?_
    refine JK.freezeB 1 rfl rfl ?_
    refine V ?_
    exact ⟨(.mk 16 0 [] 0 [] (.mk c nn m sp ns ql qr) (.mk c2 nn2 m2 sp2 ns2 ql2 qr2), t3, l3, f2), id, ⟨⟨rfl, rfl, rfl, trivial⟩, ⟨rfl, trivial⟩, rfl⟩, ⟨by simp, hE3, by show 3 * (l3.length + 1) + 2 ≤ f2; omega, by show f2 ≤ f; omega, by show l3.length < l0.length; omega, hR⟩, by show l3.length < l2.length + 1; omega⟩
  rw [if_neg (Bool.eq_false_iff.1 h1)] at hR
  refine GOH (takes_no t l (bS [47]) h1) id rfl rfl ⟨rfl, trivial⟩ rfl (id_lt rfl) ?_
  rintro g σ' n' ⟨rfl, rfl, rfl⟩
  exact ⟨Nat.le_of_ble_eq_true rfl, .mk c nn m sp ns ql qr, t :: l, hR.symm, hne, hE, by simp; omega, rfl, rfl⟩
theorem sum_hx (f : Nat) (ih : ∀ f', f' < f + 1 → AskOk f') (n : Nat) (t0 : Tok) (l0 : List Tok) (hn : n ≤ 100) (hE0 : ToksOk (t0 :: l0)) (hl0 : l0.length ≤ 200) (hf : 3 * (l0.length + 1) + 3 ≤ f + 1) : Hx pg 13 1 [.p 0 0, gi n] (ps (t0 :: l0)) (okA (sumP (f + 1) n (t0 :: l0)) (l0.length + 1)) (erR (sumP (f + 1) n (t0 :: l0))) := by
  refine okA_n ?_
  generalize hP : sumP (f + 1) n (t0 :: l0) = P
  rw [sumP] at hP
  refine Hx.ofJ pg_ok Tryd.func13 rfl Tryd.ntmps13 rfl Tryd.results13 Tryd.call13 fun H0 S0 w0 h0 g0 => ?_
  refine V ?_
  refine GOX (erR P) ((ih f (Nat.lt_succ_self f)).product n t0 l0 hn hE0 hl0 (by omega)) (fun g ⟨e, p, h2, h3⟩ => ⟨e, p, by rw [← hP, h2], h3⟩) id rfl rfl ⟨rfl, trivial⟩ rfl (id_lt rfl) ?_
  rintro g σ' n' ⟨q, l1, hq, hne, hE1, hl1, rfl, rfl, rfl⟩
  simp only [hq] at hP
  obtain ⟨t1, l1, rfl⟩ := hE1.cons
  simp only [List.length_cons] at hl1
  cases q with
  | nil => exact absurd rfl hne
  | mk c nn m sp ns ql qr =>
  refine V ?_
  show JK _ _ _ _
  refine JK.loop (α := Qn × Tok × List Tok × Nat) (fun x => ⟨[(0, .p 0 0), (1, gi n), (5, qG x.1)], [(0, .blk 44 [tks (x.2.1 :: x.2.2.1)])], 1⟩) (fun x => x.1 ≠ .nil ∧ ToksOk (x.2.1 :: x.2.2.1) ∧ 3 * (x.2.2.1.length + 1) + 3 ≤ x.2.2.2 ∧ x.2.2.2 ≤ f ∧ x.2.2.1.length < l0.length ∧ sumL x.2.2.2 n x.1 (x.2.1 :: x.2.2.1) = P) (fun x => x.2.2.1.length) (.mk c nn m sp ns ql qr, t1, l1, f) id ?_ ?_ ?_
  · exact ⟨⟨rfl, rfl, rfl, trivial⟩, ⟨rfl, trivial⟩, rfl⟩
  · exact ⟨by simp, hE1, by show 3 * (l1.length + 1) + 3 ≤ f; omega, Nat.le_refl _, by show l1.length < l0.length; omega, hP⟩
  rintro ⟨q, t, l, f2⟩ ⟨hne, hE, hf2, hff, hl, hR⟩
  replace hne : q ≠ .nil := hne
  replace hE : ToksOk (t :: l) := hE
  replace hf2 : 3 * (l.length + 1) + 3 ≤ f2 := hf2
  replace hff : f2 ≤ f := hff
  replace hl : l.length < l0.length := hl
  replace hR : sumL f2 n q (t :: l) = P := hR
  obtain ⟨f2, rfl⟩ : ∃ k, f2 = k + 1 := ⟨f2 - 1, by omega⟩
  rw [sumL] at hR
  cases q with
  | nil => exact absurd rfl hne
  | mk c nn m sp ns ql qr =>
  refine V ?_
  rcases tf (takesP (bS [43]) (t :: l)) with h1 | h1
  · rw [if_pos h1] at hR
    have hE2 := hE.tail (takesP_iff.1 h1).2
    obtain ⟨t2, l2, rfl⟩ := hE2.cons
    rw [List.tail_cons] at hR
    simp only [List.length_cons] at hf2 hl
    refine GOH (takes_yes t _ (bS [43]) h1) id rfl rfl ⟨rfl, trivial⟩ rfl (id_lt rfl) ?_
    rintro g σ' n' ⟨rfl, rfl, rfl⟩
    refine GOX (erR P) ((ih f2 (by omega)).product n t2 l2 hn hE2 (by omega) (by omega)) (fun g ⟨e, p, h2, h3⟩ => ⟨e, p, by rw [← hR, h2], h3⟩) id rfl rfl ⟨rfl, trivial⟩ rfl (id_lt rfl) ?_
    rintro g σ' n' ⟨q2, l3, hq2, hne2, hE3, hl3, rfl, rfl, rfl⟩
    simp only [hq2] at hR
    obtain ⟨t3, l3, rfl⟩ := hE3.cons
    simp only [List.length_cons] at hl3
    cases q2 with
    | nil => exact absurd rfl hne2
    | mk c2 nn2 m2 sp2 ns2 ql2 qr2 =>
    refine VM 3 ?_
    show JK _ _ _ _
    refine JK.subBlk 1 [gi 13, gi 0, .sl 3 [], gi 0, .sl 1 [], .r [gi c, gi nn, .sl 3 (m.map mt), gi sp, .sl 1 (ns.map fun s => [gs s]), qG ql, qG qr], .r [gi c2, gi nn2, .sl 3 (m2.map mt), gi sp2, .sl 1 (ns2.map fun s => [gs s]), qG ql2, qG qr2]] rfl (sv7 Sub.rfl (Sub.nil 3) (Sub.nil 1)) ?_
    refine JK.freezeB 1 rfl rfl ?_
    refine V ?_
    exact ⟨(.mk 13 0 [] 0 [] (.mk c nn m sp ns ql qr) (.mk c2 nn2 m2 sp2 ns2 ql2 qr2), t3, l3, f2), id, ⟨⟨rfl, rfl, rfl, trivial⟩, ⟨rfl, trivial⟩, rfl⟩, ⟨by simp, hE3, by show 3 * (l3.length + 1) + 3 ≤ f2; omega, by show f2 ≤ f; omega, by show l3.length < l0.length; omega, hR⟩, by show l3.length < l2.length + 1; omega⟩
  rw [if_neg (Bool.eq_false_iff.1 h1)] at hR
  refine GOH (takes_no t l (bS [43]) h1) id rfl rfl ⟨rfl, trivial⟩ rfl (id_lt rfl) ?_
  rintro g σ' n' ⟨rfl, rfl, rfl⟩
  rcases tf (takesP (bS [45]) (t :: l)) with h1 | h1
  · rw [if_pos h1] at hR
    have hE2 := hE.tail (takesP_iff.1 h1).2
    obtain ⟨t2, l2, rfl⟩ := hE2.cons
    rw [List.tail_cons] at hR
    simp only [List.length_cons] at hf2 hl
    refine GOH (takes_yes t _ (bS [45]) h1) id rfl rfl ⟨rfl, trivial⟩ rfl (id_lt rfl) ?_
    rintro g σ' n' ⟨rfl, rfl, rfl⟩
    refine GOX (erR P) ((ih f2 (by omega)).product n t2 l2 hn hE2 (by omega) (by omega)) (fun g ⟨e, p, h2, h3⟩ => ⟨e, p, by rw [← hR, h2], h3⟩) id rfl rfl ⟨rfl, trivial⟩ rfl (id_lt rfl) ?_
    rintro g σ' n' ⟨q2, l3, hq2, hne2, hE3, hl3, rfl, rfl, rfl⟩
    simp only [hq2] at hR
    obtain ⟨t3, l3, rfl⟩ := hE3.cons
    simp only [List.length_cons] at hl3
    cases q2 with
    | nil => exact absurd rfl hne2
    | mk c2 nn2 m2 sp2 ns2 ql2 qr2 =>
    refine VM 3 ?_
    show JK _ _ _ _
    refine JK.subBlk 1 [gi 14, gi 0, .sl 3 [], gi 0, .sl 1 [], .r [gi c, gi nn, .sl 3 (m.map mt), gi sp, .sl 1 (ns.map fun s => [gs s]), qG ql, qG qr], .r [gi c2, gi nn2, .sl 3 (m2.map mt), gi sp2, .sl 1 (ns2.map fun s => [gs s]), qG ql2, qG qr2]] rfl (sv7 Sub.rfl (Sub.nil 3) (Sub.nil 1)) ?_
    refine JK.freezeB 1 rfl rfl ?_
    refine V ?_
    exact ⟨(.mk 14 0 [] 0 [] (.mk c nn m sp ns ql qr) (.mk c2 nn2 m2 sp2 ns2 ql2 qr2), t3, l3, f2), id, ⟨⟨rfl, rfl, rfl, trivial⟩, ⟨rfl, trivial⟩, rfl⟩, ⟨by simp, hE3, by show 3 * (l3.length + 1) + 3 ≤ f2; omega, by show f2 ≤ f; omega, by show l3.length < l0.length; omega, hR⟩, by show l3.length < l2.length + 1; omega⟩
  rw [if_neg (Bool.eq_false_iff.1 h1)] at hR
  refine GOH (takes_no t l (bS [45]) h1) id rfl rfl ⟨rfl, trivial⟩ rfl (id_lt rfl) ?_
  rintro g σ' n' ⟨rfl, rfl, rfl⟩
  exact ⟨Nat.le_of_ble_eq_true rfl, .mk c nn m sp ns ql qr, t :: l, hR.symm, hne, hE, by simp; omega, rfl, rfl⟩
theorem ask_all : ∀ f : Nat, AskOk f := by
  intro f
  induction f using Nat.strongRecOn with
  | _ f ih =>
    cases f with
    | zero => exact ⟨fun _ _ _ _ _ _ h => by omega, fun _ _ _ _ _ _ h => by omega, fun _ _ _ _ _ _ h => by omega⟩
    | succ f => exact ⟨one_hx f (ih f (Nat.lt_succ_self f)), sum_hx f ih, product_hx f ih⟩
end Go.Proofs.YtihakhdinkkdmaaDoor
/-
  Contracts: what is thrown is caught.
-/
namespace Go.Proofs.YtihakhdinkkdmaaDoor
open Go.GK Go.RowKit Go.PL
set_option maxRecDepth 100000
theorem isWrong (u : Value) (w : World) : (Instr.typeAssert (.iface 66 u) 20 66 true).run Tryd.prog w = .ok (.tuple #[u, .bool true]) w := by kernel_rfl
theorem caught_idle (p : Addr) (w : World) : CallsD Tryd.prog 26 #[.pointer (some p)] .returning w fun e u' w' => e = .returned (.tuple #[]) ∧ u' = .returning ∧ w' = w := by
  refine callsD_of_wpS Tryd.func26 rfl fun c₀ cs hu => ?_
  apply wpS_seq
  apply wpS_region
  simp [wpOpsS, go_sem, recoverD, hu, Tryd.ntmps26, Exit.thenS]
  refine wpS_of_wp ?_
  simp only [Array.replicate]
  go_wp2
  cases c₀
  simp_all [bodyPostS, results, Tryd.results26]
theorem caught_panics (p : Addr) (x : Value) (t : TypeId) (q : Value) (w : World) (hc : w.cell? p = some x) (hz : w.frozen? p = false) : CallsD Tryd.prog 26 #[.pointer (some p)] (.panicking [{ v := .iface 66 (.agg #[(.iface t q)]), recovered := false }]) w fun e u' w' => e = .returned (.tuple #[]) ∧ u' = .panicking [{ v := .iface 66 (.agg #[(.iface t q)]), recovered := true }] ∧ w' = (w.alloc (.cells #[(.iface t q)] 66)).setCell p (.iface t q) := by
  refine callsD_of_wpS Tryd.func26 rfl fun c₀ cs hu => ?_
  apply wpS_seq
  apply wpS_region
  simp [wpOpsS, go_sem, recoverD, hu, Tryd.ntmps26, Exit.thenS]
  refine wpS_of_wp ?_
  simp only [Array.replicate]
  go_wp2
  rw [isWrong]
  rename_i K1 a1 K a
  refine a _ _ ?_
  have hlt : p.block < w.heap.size := World.block_lt_of_cell? w _ hc
  have hh : (w.alloc (.cells #[.iface t q] 66)).heap[p.block]? = w.heap[p.block]? := ((Below.refl w.heap.size w).alloc (Nat.le_refl _) _).block _ hlt
  have hc2 : (w.alloc (.cells #[.iface t q] 66)).cell? p = some x := by
    unfold World.cell? at hc ⊢
    rw [hh]
    exact hc
  have hz2 : (w.alloc (.cells #[.iface t q] 66)).frozen? p = false := by
    unfold World.frozen? at hz ⊢
    rw [hh]
    exact hz
  go_wp2
  cases c₀
  simp_all [bodyPostS, results, Tryd.results26]
/-- What was laid for the call itself is gone behind it. -/
theorem back {H H' : Hid} {σ σ' : Heap} {w w' w'' : World} {o : Obj} (hs : Sat H σ w) (hs' : Sat H' σ' w') (hfr : Fr H (blks H σ) (w.alloc o) H' (blks H' σ') w') (hos : w''.os = w'.os) (ht : w''.tape = w'.tape) (ho : w''.output = w'.output) (hz : w'.heap.size ≤ w''.heap.size) (hk : ∀ b, b < w'.heap.size → b ≠ w.heap.size → w''.heap[b]? = w'.heap[b]?) : Sat H' σ' w'' ∧ Fr H (blks H σ) w H' (blks H' σ') w'' := by
  have hold : ∀ b, b < w.heap.size → (w.alloc o).heap[b]? = w.heap[b]? := fun b hb => ((Below.refl w.heap.size w).alloc (Nat.le_refl _) _).block b hb
  have hsize : (w.alloc o).heap.size = w.heap.size + 1 := by simp
  have hnb : w.heap.size ∉ blks H σ := fun h => absurd (hs.lt _ h) (Nat.lt_irrefl _)
  have hro : H'.ro w.heap.size = none := by
    cases h : H'.ro w.heap.size with
    | none => rfl
    | some x =>
      rcases hfr.fro w.heap.size (hs.none_size _ (Nat.le_refl _)) (by rw [h]; simp) with h1 | h1
      · exact absurd h1 hnb
      · omega
  have hbl : w.heap.size ∉ blks H' σ' := fun h => by
    rcases hfr.own _ h with h1 | h1
    · exact hnb h1
    · omega
  have hsz := hfr.size
  refine ⟨⟨fun b x hb => ?_, fun x hx => ?_, hs'.nodup, hs'.free, hs'.ids⟩, ⟨hos.trans hfr.os, ht.trans hfr.tape, ho.trans hfr.output, by omega, fun b h1 h2 => ?_, fun b hb => ?_, fun b h1 h2 => ?_, hfr.le⟩⟩
  · have h1 := hs'.ro b x hb
    rw [hk b (Array.getElem?_eq_some_iff.1 h1).1 (fun e => by rw [e, hro] at hb; cases hb)]
    exact h1
  · refine holds_congr (fun b hb => ?_) (hs'.holds x hx)
    have hm : b ∈ blks H' σ' := List.mem_flatMap.2 ⟨x, hx, hb⟩
    exact hk b (hs'.lt b hm) (fun e => hbl (e ▸ hm))
  · rw [hk b (by omega) (by omega), hfr.keep b (by omega) h2, hold b h1]
  · rcases hfr.own b hb with h | h
    · exact .inl h
    · exact .inr (by omega)
  · rcases hfr.fro b h1 h2 with h | h
    · exact .inl h
    · exact .inr (by omega)
theorem caught_hf (g : FuncId) (caps : List GV) (n0 : Nat) (σ : Heap) (Q : GV → Heap → Nat → Prop) (R : GV → Prop) (hx : Hx pg g n0 caps σ Q R) (hR : ∀ x, R x → ∃ e p, x = wrongG e p) :
    Hf pg 11 n0 [.fn (.func g) [] caps] σ (fun r σ' n' => (∃ x, Q x σ' n' ∧ r = .v .nilIface) ∨ (∃ e p, R (wrongG e p) ∧ r = .ifc 62 (.r [gi e, gi p]) ∧ σ' = [])) := by
  refine ⟨Tryd.call11, fun H us w hn hg hcs hs => ?_⟩
  obtain ⟨u, rfl, hu⟩ : ∃ u, us = #[u] ∧ Is H (.fn (.func g) [] caps) u := by
    obtain ⟨h1, h2⟩ := hcs
    have := h2 0 _ rfl
    refine ⟨us.getD 0 undef, ?_, this⟩
    simp at h1
    apply Array.ext
    · simp [← h1]
    · intro i hi1 hi2
      have : i = 0 := by simp at hi2; omega
      subst this
      simp [Array.getD, hi1]
  obtain ⟨us0, vs, rfl, hl0, _, hl1, hi1⟩ := hu.inv_fn
  obtain rfl : us0 = #[] := Array.eq_empty_of_size_eq_zero hl0.symm
  have hvs : Cells H caps vs := ⟨hl1, hi1⟩
  have hcall : ∀ aas w, (callFunc g aas).run Tryd.prog w = .ok (.enter g aas) w := hx.call
  show Calls Tryd.prog _ _ _ _
  go_enter_defers Tryd.func11, Tryd.ntmps11
  go_wp2
  have hnew := heap_alloc_new w (.cells #[Value.nilIface] 25)
  have hold : ∀ b, b < w.heap.size → (w.alloc (.cells #[Value.nilIface] 25)).heap[b]? = w.heap[b]? := fun b hb => ((Below.refl w.heap.size w).alloc (Nat.le_refl _) _).block b hb
  have hsize : (w.alloc (.cells #[Value.nilIface] 25)).heap.size = w.heap.size + 1 := by simp
  have hnb : w.heap.size ∉ blks H σ := fun h => absurd (hs.lt _ h) (Nat.lt_irrefl _)
  have hs1 : Sat H σ (w.alloc (.cells #[Value.nilIface] 25)) := hs.below ((Below.refl w.heap.size w).alloc (Nat.le_refl _) _)
  refine (hx.ct H vs _ hn hg hvs hs1).mono ?_
  rintro e w' (⟨u, x, H', σ', rfl, hi, hs', hfr, hq⟩ | ⟨v, x, H', rfl, hi, hs', hfr, hr, hb⟩)
  · rename_i K1 a1 K a
    have hb0 : w'.heap[w.heap.size]? = some (.cells #[Value.nilIface] 25) := by
      rw [hfr.keep w.heap.size (by rw [hsize]; omega) hnb]
      exact hnew
    have hc : w'.cell? ⟨w.heap.size, 0, none⟩ = some .nilIface := by simp [World.cell?, hb0]
    have hz : w'.frozen? ⟨w.heap.size, 0, none⟩ = false := by simp [World.frozen?, hb0]
    refine a _ _ ?_
    go_wp2
    refine leaves_cons (f := 26) (args := #[.pointer (some ⟨w.heap.size, 0, none⟩)]) (by simp) (by simp [go_sem]) ?_
    refine (caught_idle _ _).mono ?_
    rintro e u' w'' ⟨rfl, rfl, rfl⟩
    show ∃ v, _ ∧ _
    refine ⟨.nilIface, by simp [results, Tryd.results11, go_sem, hc], ?_⟩
    obtain ⟨h1, h2⟩ := back (w'' := w'.setCell ⟨w.heap.size, 0, none⟩ .nilIface) hs hs' hfr rfl rfl rfl (by simp) (fun b _ hb => Below.heap_setCell _ _ _ _ hb)
    exact ⟨.nilIface, .v .nilIface, H', σ', rfl, .ro (.v _), h1, h2, .inl ⟨x, hq, rfl⟩⟩
  · obtain ⟨e, p, rfl⟩ := hR x hr
    have hb0 : w'.heap[w.heap.size]? = some (.cells #[Value.nilIface] 25) := by
      rw [hfr.keep w.heap.size (by rw [hsize]; omega) hnb]
      exact hnew
    have hc : w'.cell? ⟨w.heap.size, 0, none⟩ = some .nilIface := by simp [World.cell?, hb0]
    have hz : w'.frozen? ⟨w.heap.size, 0, none⟩ = false := by simp [World.frozen?, hb0]
    obtain ⟨q, rfl, hq⟩ : ∃ q, v = .iface 66 (.agg #[.iface 62 q]) ∧ Is H' (.r [gi e, gi p]) q := by
      obtain ⟨u1, rfl, h1⟩ := hi.inv_ifc
      obtain ⟨us1, rfl, h2, h3⟩ := h1.inv_agg
      obtain ⟨q, hq1, hq2⟩ := (h3 0 _ rfl).inv_ifc
      refine ⟨q, ?_, hq2⟩
      have : us1 = #[.iface 62 q] := by
        apply Array.ext
        · simpa using h2.symm
        · intro i hi1 hi2
          have : i = 0 := by simp at hi2; omega
          subst this
          rw [Array.getD, dif_pos hi1] at hq1
          simpa using hq1
      rw [this]
    show Leaves _ _ _ _ _ _ _
    refine leaves_cons (f := 26) (args := #[.pointer (some ⟨w.heap.size, 0, none⟩)]) (by simp) (by simp [go_sem]) ?_
    refine (caught_panics _ _ _ _ _ hc hz).mono ?_
    rintro e' u' w'' ⟨rfl, rfl, rfl⟩
    show ∃ v, _ ∧ _
    refine ⟨.iface 62 q, ?_, ?_⟩
    · have hlt : w.heap.size < w'.heap.size := World.block_lt_of_cell? w' _ hc
      have hh : (w'.alloc (.cells #[.iface 62 q] 66)).heap[w.heap.size]? = w'.heap[w.heap.size]? := ((Below.refl w'.heap.size w').alloc (Nat.le_refl _) _).block _ hlt
      have hc2 : (w'.alloc (.cells #[.iface 62 q] 66)).cell? ⟨w.heap.size, 0, none⟩ = some .nilIface := by
        unfold World.cell? at hc ⊢
        rw [hh]
        exact hc
      simp [results, Tryd.results11, go_sem, hc2]
    obtain ⟨h1, h2⟩ := back (w'' := (w'.alloc (.cells #[.iface 62 q] 66)).setCell ⟨w.heap.size, 0, none⟩ (.iface 62 q)) hs hs' hfr rfl rfl rfl (by simp) (fun b hb1 hb2 => (Below.heap_setCell _ _ _ _ hb2).trans (((Below.refl w'.heap.size w').alloc (Nat.le_refl _) _).block b hb1))
    exact ⟨_, .ifc 62 (.r [gi e, gi p]), H', [], rfl, .ifc hq, h1, h2, .inr ⟨e, p, hr, rfl, rfl⟩⟩
end Go.Proofs.YtihakhdinkkdmaaDoor
/-
  Plain laws: questions: what the steps of splitting a text come to. No program is in sight.
-/
namespace Go.PL
open Go Go.GK

theorem dig_iff (c : UInt8) : decide (0 ≤ Lib.indexByte digL c) = digB c := by
  have := u8_all (p := fun c => decide (0 ≤ Lib.indexByte digL c) == digB c) (by decide +kernel) c
  simpa using this
theorem digs_iff (c : UInt8) : digL.contains c = digB c := by
  have := u8_all (p := fun c => digL.contains c == digB c) (by decide +kernel) c
  simpa using this
theorem find_byte (c : UInt8) : ∀ l : List UInt8, Lib.indexByte l c = match l.findIdx? (· == c) with | some j => (j : Int) | none => -1
  | [] => rfl
  | b :: l => by
    rw [Lib.indexByte, List.findIdx?_cons, find_byte c l]
    cases h : b == c with
    | true => simp
    | false =>
      cases h2 : l.findIdx? (· == c) with
      | none => simp
      | some j => simp
theorem tw_dw {p : UInt8 → Bool} (l : List UInt8) : (l.takeWhile p).length + (l.dropWhile p).length = l.length := by
  rw [← List.length_append, List.takeWhile_append_dropWhile]
theorem tw_congr {p q : UInt8 → Bool} (h : ∀ b, p b = q b) (l : List UInt8) : l.takeWhile p = l.takeWhile q := by
  have : p = q := funext h
  rw [this]
/-- The first of the marks that is there, and how long it is. -/
def markLen (l : List UInt8) : Nat := match marksL.find? (fun m => m.isPrefixOf l) with | some m => m.length | none => 0
theorem prefF_is (s : ByteArray) (p : List UInt8) : prefF s (bS p) = p.isPrefixOf s.data.toList := by
  have h0 : (bS p).size = p.length := by show p.toArray.size = _; simp
  have h1 : s.size = s.data.toList.length := by simp
  rw [Bool.eq_iff_iff, List.isPrefixOf_iff_prefix, prefF, Bool.and_eq_true, decide_eq_true_iff, sEq_iff, h0, h1]
  constructor
  · rintro ⟨h2, h3⟩
    have h4 := congrArg (fun b : ByteArray => b.data.toList) h3
    simp only [data_take] at h4
    rw [List.prefix_iff_eq_take]
    exact h4.symm
  · intro h
    refine ⟨h.length_le, ?_⟩
    have h4 := data_take s p.length
    rw [← List.prefix_iff_eq_take.1 h] at h4
    have : ∀ b : ByteArray, b = ⟨b.data.toList.toArray⟩ := fun b => by cases b; simp
    rw [this (s.extract 0 p.length), h4]
    rfl
theorem find_first {α : Type} {p : α → Bool} : ∀ {l : List α} {n : Nat}, n ≤ l.length → (∀ i (h : i < l.length), i < n → p l[i] = false) → (∀ h : n < l.length, p l[n] = true) → l.find? p = l[n]?
  | [], n, _, _, _ => by simp
  | a :: l, 0, _, _, h2 => by
    have h3 : p a = true := h2 (by simp)
    simp [h3]
  | a :: l, n + 1, hn, h1, h2 => by
    have h3 : p a = false := h1 0 (by simp) (by omega)
    rw [List.find?_cons, h3]
    exact find_first (by simpa using hn) (fun i h hh => h1 (i + 1) (by simpa using h) (by omega)) (fun h => h2 (by simpa using h))
theorem lexF_le (l : List UInt8) : (lexF l).1 ≤ l.length := by
  cases l with
  | nil => simp [lexF]
  | cons c r =>
    simp only [lexF]
    by_cases h1 : letB c = true
    · rw [if_pos h1]
      exact (List.takeWhile_sublist _).length_le
    rw [if_neg h1]
    by_cases h2 : digB c = true
    · rw [if_pos h2]
      exact (List.takeWhile_sublist _).length_le
    rw [if_neg h2]
    by_cases h3 : c.toNat = 34
    · rw [if_pos h3]
      cases h : r.findIdx? (· == 34) with
      | none => simp
      | some j =>
        have := (List.findIdx?_eq_some_iff_getElem.1 h).1
        simp
        omega
    · rw [if_neg h3]
      cases h : marksL.find? (fun m => m.isPrefixOf (c :: r)) with
      | none => simp
      | some m => exact (List.isPrefixOf_iff_prefix.1 (List.find?_some (p := fun m : List UInt8 => m.isPrefixOf (c :: r)) h)).length_le
theorem byte0 {b : ByteArray} {c : UInt8} {r : List UInt8} (h : b.data.toList = c :: r) : b[0]? = some c := by
  obtain ⟨d⟩ := b
  have h1 : d.toList[0]? = some c := by rw [show d.toList = c :: r from h]; rfl
  have hs : 0 < d.size := by
    have := congrArg List.length (show d.toList = c :: r from h)
    simp at this
    omega
  rw [getElem?_pos (ByteArray.mk d) 0 hs]
  show some d[0] = some c
  simpa [hs] using h1
end Go.PL
/-
  Contracts: questions: a text's tokens.
-/
namespace Go.Proofs.YtihakhdinkkdmaaDoor
open Go.GK Go.RowKit Go.PL
set_option maxRecDepth 100000
theorem trimLeft_rt (s t : ByteArray) (ht : t.size ≤ 1000) (ha : t.data.toList.all (fun b => decide (b.toNat < 128)) = true) : Rt pg 41 [gs s, gs t] (gs (bS (Lib.trimLeftS s.data.toList t.data.toList))) :=
  Rt.calls Tryd.call41 [.string s, .string t] _ fun w => (Any.strings_TrimLeft_laid Tryd.lays161 (by kernel_rfl) s t w (by omega) (fun _ b hb => of_decide_eq_true (List.all_eq_true.1 ha b (List.mem_of_getElem? hb)))).mono fun e w' ⟨he, hw⟩ => ⟨he, hw⟩
theorem run_rt (s t : ByteArray) (hs : s.size ≤ 1000000) (ht : t.size ≤ 1000) (ha : t.data.toList.all (fun b => decide (b.toNat < 128)) = true) : Rt pg 23 [gs s, gs t] (gi ((s.data.toList.takeWhile (t.data.toList.contains ·)).length : Nat)) := by
  refine Rt.of pg_ok Tryd.func23 rfl Tryd.ntmps23 rfl Tryd.results23 Tryd.call23 fun H0 S0 w0 h0 g0 => ?_
  refine GO (trimLeft_rt s t ht ha) rfl ?_
  refine ⟨?_, rfl⟩
  have h := tw_dw (p := (t.data.toList.contains ·)) s.data.toList
  have e1 : (bS (Lib.trimLeftS s.data.toList t.data.toList)).size = (s.data.toList.dropWhile (t.data.toList.contains ·)).length := by
    show (Lib.trimLeftS s.data.toList t.data.toList).toArray.size = _
    simp [Lib.trimLeftS]
  have e2 : s.size = s.data.toList.length := by simp
  show gi (IntKind.i64.wrap ((s.size : Int) - ((bS (Lib.trimLeftS s.data.toList t.data.toList)).size : Int))) = gi _
  rw [e1, wrap_id (by omega) (by omega)]
  have : (s.size : Int) - ((s.data.toList.dropWhile (t.data.toList.contains ·)).length : Int) = ((s.data.toList.takeWhile (t.data.toList.contains ·)).length : Nat) := by omega
  rw [this]
/-- What splitting tells. -/
def splitG : Except (Int × Int) (List Tok) → GV
  | .ok l => .tup [tks l, .v .nilIface]
  | .error (e, p) => .tup [.v (.slice none 0 0), .ifc 62 (.r [gi e, gi p])]
theorem split_rt (s : ByteArray) (hs : s.size ≤ 100000) : Rt pg 10 [gs s] (splitG (tokF s.data.toList (s.size + 1) 0 0)) := by
  have hsz : s.data.toList.length = s.size := by simp
  generalize hR : tokF s.data.toList (s.size + 1) 0 0 = R
  refine Rt.ofJ pg_ok Tryd.func10 rfl Tryd.ntmps10 rfl Tryd.results10 Tryd.call10 fun H0 S0 w0 h0 g0 => ?_
  refine V ?_
  show JK _ _ _ _
  refine JK.ownNil 4 47 3 rfl ?_
  refine JK.loop (α := List Tok × Nat × Nat) (fun x => ⟨[(0, gs s), (4, .o 0), (5, gi x.2.1)], [(0, .row 47 3 (x.1.map tokR))], 1⟩) (fun x => (match tokF s.data.toList x.2.2 x.2.1 x.1.length with | .ok l => .ok (x.1 ++ l) | .error e => .error e) = R ∧ x.2.1 ≤ s.size ∧ s.size - x.2.1 < x.2.2 ∧ x.1.length ≤ 120) (fun x => s.size - x.2.1) ([], 0, s.size + 1) id ?_ ?_ ?_
  · exact ⟨⟨rfl, rfl, rfl, trivial⟩, ⟨rfl, trivial⟩, rfl⟩
  · refine ⟨?_, Nat.zero_le _, by simp, by simp⟩
    show (match tokF s.data.toList (s.size + 1) 0 0 with | .ok l => Except.ok ([] ++ l) | .error e => .error e) = R
    rw [hR]
    cases R <;> rfl
  rintro ⟨out, i, f⟩ ⟨hO, hi, hf, ho⟩
  replace hO : (match tokF s.data.toList f i out.length with | .ok l => .ok (out ++ l) | .error e => .error e) = R := hO
  replace hi : i ≤ s.size := hi
  replace hf : s.size - i < f := hf
  replace ho : out.length ≤ 120 := ho
  obtain ⟨f, rfl⟩ : ∃ k, f = k + 1 := ⟨f - 1, by omega⟩
  have hdr : (s.extract i s.size).data.toList = s.data.toList.drop i := by
    rw [ByteArray.data_extract, Array.toList_extract]
    simp [List.extract, List.take_of_length_le]
  have hk : ((s.data.toList.drop i).takeWhile (· == 32)).length ≤ s.size - i := by
    have := (List.takeWhile_sublist (l := s.data.toList.drop i) (· == 32)).length_le
    rw [List.length_drop, hsz] at this
    exact this
  refine VM 7 ?_
  refine ⟨show (0 : Int) ≤ (i : Int) by omega, show (i : Int) ≤ (s.size : Int) by omega, Int.le_refl _, ?_⟩
  have hrun : Rt pg 23 [gs (s.extract i s.size), gs (bS [32])] (gi (((s.data.toList.drop i).takeWhile (· == 32)).length : Nat)) := by
    have h := run_rt (s.extract i s.size) (bS [32]) (by rw [ByteArray.size_extract]; omega) (by decide) (by decide)
    rw [hdr, tw_congr (q := (· == 32)) (fun b => by
      show ([32] : List UInt8).contains b = _
      rw [Bool.eq_iff_iff]
      simp)] at h
    exact h
  generalize hkk : ((s.data.toList.drop i).takeWhile (· == 32)).length = k at hk hrun
  refine GOJ hrun.hf (fun _ => 0) rfl rfl trivial rfl (fun _ h => absurd h (Nat.not_lt_zero _)) ?_
  rintro g σ' n' ⟨rfl, rfl, rfl⟩
  refine VM 2 ?_
  have hw : gi ((i + k : Nat) : Int) = gi (IntKind.i64.wrap ((i : Int) + (k : Int))) := by rw [wrap_id (by omega) (by omega)]; rfl
  show JK _ _ _ _
  refine JK.sub 5 (gi ((i + k : Nat) : Int)) rfl (Sub.eq hw) ?_
  rw [tokF] at hO
  simp only [hkk, hsz] at hO
  by_cases he : s.size ≤ i + k
  · rw [if_pos he] at hO
    subst hO
    refine VM 20 ?_
    refine p1 ?_ (by simp; omega)
    refine ⟨by simp; omega, ?_⟩
    show JK _ _ _ _
    refine FRZ 2 rfl ?_
    exact ⟨⟨congrArg (GV.sl 3) (List.map_append (l₁ := out) (l₂ := [⟨5, ⟨#[]⟩, ((i + k : Nat) : Int)⟩]) (f := tokR)).symm, rfl, trivial⟩, rfl⟩
  · rw [if_neg he] at hO
    refine VM 33 ?_
    refine p2 ?_ (by simp; omega)
    refine ⟨show (0 : Int) ≤ ((i + k : Nat) : Int) by omega, show ((i + k : Nat) : Int) ≤ (s.size : Int) by omega, Int.le_refl _, ?_⟩
    have hlt : i + k < s.size := by omega
    have hsx : (s.extract (i + k) s.size).size = s.size - (i + k) := by rw [ByteArray.size_extract]; omega
    obtain ⟨c, r, hcr⟩ : ∃ c r, s.data.toList.drop (i + k) = c :: r := by
      cases h : s.data.toList.drop (i + k) with
      | nil => have := congrArg List.length h; rw [List.length_drop, hsz] at this; simp at this; omega
      | cons c r => exact ⟨c, r, rfl⟩
    have hdr2 : (s.extract (i + k) s.size).data.toList = c :: r := by
      rw [← hcr, ByteArray.data_extract, Array.toList_extract]
      simp [List.extract, List.take_of_length_le]
    have hc0 : (s.extract (i + k) s.size)[0]? = some c := byte0 hdr2
    refine ⟨c, by decide, hc0, ?_⟩
    show JK _ _ _ _
    generalize hL : s.extract (i + k) s.size = left at hsx hdr2 hc0
    refine JK.cut (α := Unit) (fun _ => ⟨[(0, gs s), (4, .o 0), (5, gi ((i + k : Nat) : Int)), (6, gs left), (7, .p 1 0), (8, gi ((lexF (c :: r)).1 : Nat))], [(0, .row 47 3 (out.map tokR)), (1, .blk 47 [gi (lexF (c :: r)).2, gs ⟨#[]⟩, gi ((i + k : Nat) : Int)])], 2⟩) (fun _ => True) ?_ ?_
    · subst hL
      refine V ?_
      refine GO (indexByte_rt ⟨lettL.toArray⟩ c) rfl ?_
      have e : decide (0 ≤ Lib.indexByte lettL c) = letB c := lett_iff _
      cases hl : letB c with
      | true =>
        rw [hl] at e
        refine p1 ?_ e
        have hx : lexF (c :: r) = (((c :: r).takeWhile fun b => letB b || digB b).length, 1) := by simp only [lexF, hl, if_true]
        have h := run_rt (s.extract (i + k) s.size) ⟨(lettL ++ digL).toArray⟩ (by omega) (by decide) (by decide)
        rw [hdr2, tw_congr (q := fun b => letB b || digB b) (fun b => word_iff b)] at h
        rw [hx]
        refine GO h rfl ?_
        exact ⟨(), id, ⟨⟨rfl, rfl, rfl, rfl, rfl, rfl, trivial⟩, ⟨rfl, rfl, trivial⟩, rfl⟩, trivial⟩
      | false =>
        rw [hl] at e
        refine p2 ?_ e
        refine GO (indexByte_rt ⟨digL.toArray⟩ c) rfl ?_
        have e : decide (0 ≤ Lib.indexByte digL c) = digB c := dig_iff _
        cases hd : digB c with
        | true =>
          rw [hd] at e
          refine p1 ?_ e
          have hx : lexF (c :: r) = (((c :: r).takeWhile digB).length, 2) := by simp only [lexF, hl, hd, if_true, Bool.false_eq_true, if_false]
          have h := run_rt (s.extract (i + k) s.size) ⟨digL.toArray⟩ (by omega) (by decide) (by decide)
          rw [hdr2, tw_congr (q := digB) (fun b => digs_iff b)] at h
          rw [hx]
          refine GO h rfl ?_
          exact ⟨(), id, ⟨⟨rfl, rfl, rfl, rfl, rfl, rfl, trivial⟩, ⟨rfl, rfl, trivial⟩, rfl⟩, trivial⟩
        | false =>
          rw [hd] at e
          refine p2 ?_ e
          by_cases hq : c.toNat = 34
          · refine p1 ?_ (by simp; omega)
            refine ⟨by omega, by simp; omega, by omega, ?_⟩
            have hx : lexF (c :: r) = (match r.findIdx? (· == 34) with | some j => j + 2 | none => 0, 3) := by
              unfold lexF
              simp only [hl, hd, Bool.false_eq_true, if_false]
              rw [if_pos hq]
              rfl
            have hdr3 : ((s.extract (i + k) s.size).extract 1 (s.extract (i + k) s.size).size).data.toList = r := by
              rw [ByteArray.data_extract, Array.toList_extract, hdr2]
              have hlen := congrArg List.length hdr2
              have : (s.extract (i + k) s.size).data.toList.length = (s.extract (i + k) s.size).size := by simp
              rw [this] at hlen
              simp only [List.length_cons] at hlen
              rw [hlen]
              simp [List.extract]
            have h := indexByte_rt ((s.extract (i + k) s.size).extract 1 (s.extract (i + k) s.size).size) 34
            rw [hdr3, find_byte] at h
            cases hfi : r.findIdx? (· == 34) with
            | none =>
              rw [hfi] at h hx
              rw [hx]
              refine GO h rfl ?_
              refine p1 ?_
              exact ⟨(), id, ⟨⟨rfl, rfl, rfl, rfl, rfl, rfl, trivial⟩, ⟨rfl, rfl, trivial⟩, rfl⟩, trivial⟩
            | some j =>
              rw [hfi] at h hx
              have hj : j < r.length := (List.findIdx?_eq_some_iff_getElem.1 hfi).1
              have hrl : r.length < 100000 := by
                have := congrArg List.length hcr
                rw [List.length_drop, hsz] at this
                simp at this
                omega
              have hw2 : IntKind.i64.wrap (2 + (j : Int)) = ((j + 2 : Nat) : Int) := by rw [wrap_id (by omega) (by omega)]; omega
              rw [hx]
              refine GO h rfl ?_
              refine p2 ?_ (decide_eq_false (by show ¬ IntKind.i64.wrap (2 + (j : Int)) = 1; rw [hw2]; omega))
              exact ⟨(), id, ⟨⟨rfl, rfl, rfl, rfl, rfl, congrArg (fun x : Int => some (gi x)) hw2, trivial⟩, ⟨rfl, rfl, trivial⟩, rfl⟩, trivial⟩
          · refine p2 ?_ (by simp; omega)
            show JK _ _ _ _
            obtain ⟨n, hn, hm1, hm2, _⟩ := first_ix marksL fun m => m.isPrefixOf (c :: r)
            have hml : marksL.length = 15 := rfl
            have hx : lexF (c :: r) = (match marksL[n]? with | some m => m.length | none => 0, 4) := by
              unfold lexF
              simp only [hl, hd, Bool.false_eq_true, if_false]
              rw [if_neg hq, ← find_first (p := fun m => m.isPrefixOf (c :: r)) hn hm1 hm2]
              rfl
            have hpf : ∀ m : List UInt8, prefF (s.extract (i + k) s.size) (bS m) = m.isPrefixOf (c :: r) := fun m => by rw [prefF_is, hdr2]
            refine JK.loopE (α := Nat) (β := Unit) (fun j => ⟨[(0, gs s), (4, .o 0), (5, gi ((i + k : Nat) : Int)), (6, gs (s.extract (i + k) s.size)), (7, .p 1 0), (8, gi 0), (35, .agg (marksL.map fun m => gs (bS m))), (36, gi j)], [(0, .row 47 3 (out.map tokR)), (1, .blk 47 [gi 4, gs ⟨#[]⟩, gi ((i + k : Nat) : Int)])], 2⟩) (fun j => j ≤ n) (fun j => n - j)
              (fun _ => ⟨[(0, gs s), (4, .o 0), (5, gi ((i + k : Nat) : Int)), (6, gs (s.extract (i + k) s.size)), (7, .p 1 0), (8, gi ((lexF (c :: r)).1 : Nat))], [(0, .row 47 3 (out.map tokR)), (1, .blk 47 [gi (lexF (c :: r)).2, gs ⟨#[]⟩, gi ((i + k : Nat) : Int)])], 2⟩) (fun _ => True) 0 id ?_ (Nat.zero_le _) ?_ ?_
            · exact ⟨⟨rfl, rfl, rfl, rfl, rfl, rfl, rfl, rfl, trivial⟩, ⟨rfl, rfl, trivial⟩, rfl⟩
            · intro j hj
              replace hj : j ≤ n := hj
              refine V ?_
              by_cases hlt : j < 15
              · refine p1 ?_
                refine ⟨gs (bS (marksL[j]'(by rw [hml]; exact hlt))), by omega, by omega, ?_, ?_⟩
                · show (marksL.map fun m => gs (bS m))[((j : Nat) : Int).toNat]? = some _
                  rw [Int.toNat_natCast, List.getElem?_map, List.getElem?_eq_getElem (by rw [hml]; exact hlt)]
                  rfl
                have hp := hasPrefix_rt (s.extract (i + k) s.size) (bS (marksL[j]'(by rw [hml]; exact hlt)))
                rw [hpf] at hp
                by_cases hjn : j < n
                · refine GO (hp.bt (hm1 j (by rw [hml]; exact hlt) hjn)) rfl ?_
                  exact ⟨j + 1, id, ⟨⟨rfl, rfl, rfl, rfl, rfl, rfl, rfl, succ_gi (by omega), trivial⟩, ⟨rfl, rfl, trivial⟩, rfl⟩, hjn, by show n - (j + 1) < n - j; omega⟩
                · obtain rfl : j = n := by omega
                  refine GO (hp.bt (hm2 (by rw [hml]; exact hlt))) rfl ?_
                  rw [List.getElem?_eq_getElem (by rw [hml]; exact hlt)] at hx
                  rw [hx]
                  exact ⟨(), id, ⟨⟨rfl, rfl, rfl, rfl, rfl, congrArg (fun x : Nat => some (gi (x : Int))) (show (marksL[j]'(by rw [hml]; exact hlt)).toArray.size = _ by simp), trivial⟩, ⟨rfl, rfl, trivial⟩, rfl⟩, trivial⟩
              · refine p2 ?_
                rw [List.getElem?_eq_none (by rw [hml]; omega)] at hx
                rw [hx]
                exact ⟨(), id, ⟨⟨rfl, rfl, rfl, rfl, rfl, rfl, trivial⟩, ⟨rfl, rfl, trivial⟩, rfl⟩, trivial⟩
            · intro _ _
              refine V ?_
              exact ⟨(), id, ⟨⟨rfl, rfl, rfl, rfl, rfl, rfl, trivial⟩, ⟨rfl, rfl, trivial⟩, rfl⟩, trivial⟩
    rintro _ _
    subst hL
    rw [hcr] at hO
    have hle := lexF_le (c :: r)
    have hlen := congrArg List.length hcr
    rw [List.length_drop, hsz] at hlen
    rw [← hlen] at hle
    generalize lexF (c :: r) = nk at hO hle
    obtain ⟨n, kd⟩ := nk
    replace hle : n ≤ s.size - (i + k) := hle
    by_cases hn0 : n = 0
    · simp only [hn0, if_true] at hO
      subst hO
      refine VM 18 ?_
      refine p1 ?_
      show JK _ _ _ _
      refine JK.freezeB 2 rfl rfl ?_
      refine V ?_
      exact ⟨⟨rfl, rfl, trivial⟩, rfl⟩
    rw [if_neg hn0] at hO
    by_cases hk2 : kd = 2 ∧ 18 < n
    · rw [if_pos (.inl hk2)] at hO
      subst hO
      refine VM 34 ?_
      refine p2 ?_ (by simp; omega)
      refine p1 ?_ (by simp [hk2.1])
      refine p3 ?_ (decide_eq_true (by show ((n : Int) > 18); omega))
      show JK _ _ _ _
      refine JK.freezeB 2 rfl rfl ?_
      refine V ?_
      exact ⟨⟨rfl, rfl, trivial⟩, rfl⟩
    by_cases h120 : 120 ≤ out.length
    · rw [if_pos (.inr h120)] at hO
      subst hO
      by_cases hkd : kd = 2
      · have h18 : ¬ 18 < n := fun h => hk2 ⟨hkd, h⟩
        refine VM 34 ?_
        refine p2 ?_ (by simp; omega)
        refine p1 ?_ (by simp [hkd])
        refine p4 ?_ (decide_eq_false (by show ¬ ((n : Int) > 18); omega))
        refine p1 ?_ (by simp; omega)
        show JK _ _ _ _
        refine JK.freezeB 2 rfl rfl ?_
        refine V ?_
        exact ⟨⟨rfl, rfl, trivial⟩, rfl⟩
      · refine VM 34 ?_
        refine p2 ?_ (by simp; omega)
        refine p2 ?_ (by simp [hkd])
        refine p1 ?_ (by simp; omega)
        show JK _ _ _ _
        refine JK.freezeB 2 rfl rfl ?_
        refine V ?_
        exact ⟨⟨rfl, rfl, trivial⟩, rfl⟩
    rw [if_neg (fun h => h.elim hk2 h120)] at hO
    have ht : (s.extract (i + k) s.size).extract 0 n = ⟨((c :: r).take n).toArray⟩ := by
      have h1 := data_take (s.extract (i + k) s.size) n
      rw [hdr2] at h1
      have h2 : ∀ b : ByteArray, b = ⟨b.data.toList.toArray⟩ := fun b => by cases b; simp
      rw [h2 ((s.extract (i + k) s.size).extract 0 n), h1]
    have hfin : (match tokF s.data.toList f (i + k + n) (out ++ [(⟨kd, (s.extract (i + k) s.size).extract 0 n, ((i + k : Nat) : Int)⟩ : Tok)]).length with | .ok l => .ok ((out ++ [(⟨kd, (s.extract (i + k) s.size).extract 0 n, ((i + k : Nat) : Int)⟩ : Tok)]) ++ l) | .error e => .error e) = R := by
      rw [← hO, List.length_append, ht]
      show (match tokF s.data.toList f (i + k + n) (out.length + 1) with | .ok l => _ | .error e => _) = _
      cases tokF s.data.toList f (i + k + n) (out.length + 1) with
      | error e => rfl
      | ok l => simp
    have hx1 : i + k + n ≤ s.size := by omega
    have hx2 : s.size - (i + k + n) < f := by omega
    have hx3 : (out ++ [(⟨kd, (s.extract (i + k) s.size).extract 0 n, ((i + k : Nat) : Int)⟩ : Tok)]).length ≤ 120 := by simp; omega
    have hx4 : s.size - (i + k + n) < s.size - i := by omega
    have hwn : IntKind.i64.wrap (((i + k : Nat) : Int) + (n : Int)) = ((i + k + n : Nat) : Int) := by rw [wrap_id (by omega) (by omega)]; omega
    by_cases hkd : kd = 2
    · refine V ?_
      refine p2 ?_ (by simp; omega)
      refine p1 ?_ (by simp [hkd])
      have h18 : ¬ 18 < n := fun h => hk2 ⟨hkd, h⟩
      refine p4 ?_ (decide_eq_false (by show ¬ ((n : Int) > 18); omega))
      refine p2 ?_ (by simp; omega)
      refine ⟨by omega, show (0 : Int) ≤ (n : Int) by omega, show (n : Int) ≤ ((s.extract (i + k) s.size).size : Int) by omega, ?_⟩
      refine ⟨by simp; omega, ?_⟩
      exact ⟨(out ++ [(⟨kd, (s.extract (i + k) s.size).extract 0 n, ((i + k : Nat) : Int)⟩ : Tok)], i + k + n, f), fun q => bif Nat.beq q 0 then 3 else q, ⟨⟨rfl, rfl, congrArg (fun x : Int => some (gi x)) hwn, trivial⟩, ⟨congrArg (fun x => some (Res.row 47 3 x)) (List.map_append (l₁ := out) (l₂ := [(⟨kd, (s.extract (i + k) s.size).extract 0 n, ((i + k : Nat) : Int)⟩ : Tok)]) (f := tokR)).symm, trivial⟩, rfl⟩, ⟨hfin, hx1, hx2, hx3⟩, hx4⟩
    · refine V ?_
      refine p2 ?_ (by simp; omega)
      refine p2 ?_ (by simp [hkd])
      refine p2 ?_ (by simp; omega)
      refine ⟨by omega, show (0 : Int) ≤ (n : Int) by omega, show (n : Int) ≤ ((s.extract (i + k) s.size).size : Int) by omega, ?_⟩
      refine ⟨by simp; omega, ?_⟩
      exact ⟨(out ++ [(⟨kd, (s.extract (i + k) s.size).extract 0 n, ((i + k : Nat) : Int)⟩ : Tok)], i + k + n, f), fun q => bif Nat.beq q 0 then 3 else q, ⟨⟨rfl, rfl, congrArg (fun x : Int => some (gi x)) hwn, trivial⟩, ⟨congrArg (fun x => some (Res.row 47 3 x)) (List.map_append (l₁ := out) (l₂ := [(⟨kd, (s.extract (i + k) s.size).extract 0 n, ((i + k : Nat) : Int)⟩ : Tok)]) (f := tokR)).symm, trivial⟩, rfl⟩, ⟨hfin, hx1, hx2, hx3⟩, hx4⟩
end Go.Proofs.YtihakhdinkkdmaaDoor
/-
  Plain laws: questions: which tokens come of a text; what a text asks. No program is in sight.
-/
namespace Go.PL
open Go Go.GK

theorem tw_take {p : UInt8 → Bool} (l : List UInt8) : l.take (l.takeWhile p).length = l.takeWhile p :=
  (List.prefix_iff_eq_take.1 (List.takeWhile_prefix p)).symm
theorem tw_mem {p : UInt8 → Bool} {l : List UInt8} : ∀ b ∈ l.takeWhile p, p b = true := fun b hb => List.all_eq_true.1 (List.all_takeWhile (p := p) (l := l)) b hb
theorem lexF_tx (l : List UInt8) (h0 : (lexF l).1 ≠ 0) (h18 : ¬ ((lexF l).2 = 2 ∧ 18 < (lexF l).1)) : TxOk (lexF l).2 (l.take (lexF l).1) := by
  cases l with
  | nil => exact absurd rfl h0
  | cons c r =>
    by_cases h1 : letB c = true
    · have e : lexF (c :: r) = (((c :: r).takeWhile fun b => letB b || digB b).length, 1) := by simp only [lexF, h1, if_true]
      rw [e, tw_take]
      refine .inl ⟨rfl, c, r.takeWhile fun b => letB b || digB b, by simp [h1], h1, tw_mem⟩
    by_cases h2 : digB c = true
    · have e : lexF (c :: r) = (((c :: r).takeWhile digB).length, 2) := by simp only [lexF, h1, h2, if_true, Bool.false_eq_true, if_false]
      rw [e] at h18
      rw [e, tw_take]
      refine .inr (.inl ⟨rfl, by simp [h2], ?_, tw_mem⟩)
      exact Nat.le_of_not_lt fun h => h18 ⟨rfl, h⟩
    by_cases h3 : c.toNat = 34
    · have e : lexF (c :: r) = (match r.findIdx? (· == 34) with | some j => j + 2 | none => 0, 3) := by
        unfold lexF
        simp only [h1, h2, Bool.false_eq_true, if_false]
        rw [if_pos h3]
        rfl
      rw [e] at h0
      rw [e]
      cases h : r.findIdx? (· == 34) with
      | none => rw [h] at h0; exact absurd rfl h0
      | some j =>
        obtain ⟨hj, hp, hn⟩ := List.findIdx?_eq_some_iff_getElem.1 h
        have hc : c = 34 := UInt8.toNat_inj.1 h3
        refine .inr (.inr (.inl ⟨rfl, r.take j, ?_, ?_⟩))
        · show (c :: r).take (j + 2) = _
          have h5 : r[j] = 34 := by simpa using hp
          rw [hc, List.take_succ_cons, List.take_succ_eq_append_getElem hj, h5]
          rfl
        · intro b hb
          obtain ⟨i, hi, he⟩ := List.getElem_of_mem hb
          have hij : i < j := by simp at hi; omega
          have h6 := hn i hij
          have h7 : r[i]'(by omega) = b := by simpa using he
          rw [h7] at h6
          intro hb34
          have : b = 34 := UInt8.toNat_inj.1 hb34
          rw [this] at h6
          simp at h6
    · have e : lexF (c :: r) = (match marksL.find? (fun m => m.isPrefixOf (c :: r)) with | some m => m.length | none => 0, 4) := by
        unfold lexF
        simp only [h1, h2, Bool.false_eq_true, if_false]
        rw [if_neg h3]
        rfl
      rw [e] at h0
      rw [e]
      cases h : marksL.find? (fun m => m.isPrefixOf (c :: r)) with
      | none => rw [h] at h0; exact absurd rfl h0
      | some m =>
        refine .inr (.inr (.inr ⟨rfl, ?_⟩))
        show (c :: r).take m.length ∈ marksL
        rw [← List.prefix_iff_eq_take.1 (List.isPrefixOf_iff_prefix.1 (List.find?_some (p := fun m : List UInt8 => m.isPrefixOf (c :: r)) h))]
        exact List.mem_of_find?_eq_some h
/-- TOKENS ARE RIGHT. -/
theorem tok_toks (s : List UInt8) (hs : s.length ≤ 1000) : ∀ (f i cnt : Nat) (l : List Tok), tokF s f i cnt = .ok l → cnt ≤ 120 → ToksOk l ∧ cnt + l.length ≤ 121
  | 0, _, _, _, h, _ => by simp [tokF] at h
  | f + 1, i, cnt, l, h, hc => by
    rw [tokF] at h
    simp only at h
    generalize hk : ((s.drop i).takeWhile (· == 32)).length = k at h
    by_cases he : s.length ≤ i + k
    · rw [if_pos he] at h
      cases h
      refine ⟨⟨fun t ht => ?_, [], _, rfl, rfl⟩, by simp; omega⟩
      rw [List.mem_singleton.1 ht]
      exact ⟨.inr ⟨rfl, rfl⟩, show (ByteArray.mk #[]).size ≤ 1000 by decide⟩
    rw [if_neg he] at h
    have hx := lexF_tx (s.drop (i + k))
    have hle := lexF_le (s.drop (i + k))
    generalize lexF (s.drop (i + k)) = nk at h hx hle
    obtain ⟨n, kd⟩ := nk
    simp only at h hx hle
    by_cases hn : n = 0
    · rw [if_pos hn] at h; cases h
    rw [if_neg hn] at h
    by_cases hl : (kd = 2 ∧ 18 < n) ∨ 120 ≤ cnt
    · rw [if_pos hl] at h; cases h
    rw [if_neg hl] at h
    cases hr : tokF s f (i + k + n) (cnt + 1) with
    | error e => rw [hr] at h; cases h
    | ok l2 =>
      rw [hr] at h
      cases h
      obtain ⟨h1, h2⟩ := tok_toks s hs f _ _ l2 hr (by omega)
      obtain ⟨a, e, h3, h4⟩ := h1.last
      refine ⟨⟨fun t ht => ?_, _ :: a, e, by rw [h3]; rfl, h4⟩, by simp; omega⟩
      rcases List.mem_cons.1 ht with rfl | ht
      · refine ⟨.inl ?_, ?_⟩
        · simpa using hx hn (fun h => hl (.inl h))
        · show ((s.drop (i + k)).take n).toArray.size ≤ 1000
          simp
          omega
      · exact h1.each t ht
/-- What a text asks. -/
def parseF (s : List UInt8) : Except (Int × Int) Qn := match tokF s (s.length + 1) 0 0 with
  | .error e => .error e
  | .ok l => match sumP (3 * l.length + 3) 0 l with
    | .error e => .error e
    | .ok (q, l') => if (hdT l').kind ≠ 5 then .error (3, (hdT l').pos) else .ok q
/-- What a text asks of labels. -/
def matchF (s : List UInt8) : Except (Int × Int) (List Mt) := match tokF s (s.length + 1) 0 0 with
  | .error e => .error e
  | .ok l => match matchersP l with
    | .error e => .error e
    | .ok (m, l') => if (hdT l').kind ≠ 5 then .error (3, (hdT l').pos) else .ok m
end Go.PL
/-
  Contracts: questions: a text is read.
-/
namespace Go.Proofs.YtihakhdinkkdmaaDoor
open Go.GK Go.RowKit Go.PL
set_option maxRecDepth 100000
/-- What a question's tokens come to. -/
def askE (l : List Tok) : Except (Int × Int) Qn := match sumP (3 * l.length + 3) 0 l with
  | .error e => .error e
  | .ok (q, l') => if (hdT l').kind ≠ 5 then .error (3, (hdT l').pos) else .ok q
theorem parse1_hx (t : Tok) (l : List Tok) (hE : ToksOk (t :: l)) (hl : l.length ≤ 200) : Hx pg 12 2 [.p 0 0, .p 1 0] [(0, .blk 38 [tks (t :: l)]), (1, .blk 23 [.v (.pointer none)])]
    (fun g σ n => ∃ q, askE (t :: l) = .ok q ∧ q ≠ .nil ∧ g = .tup [] ∧ σ = [(0, .blk 38 [tks (t :: l)]), (1, .blk 23 [qG q])] ∧ n = 2) (fun g => ∃ e p, askE (t :: l) = .error (e, p) ∧ g = wrongG e p) := by
  refine Hx.weak (Q := fun g σ n => 2 ≤ n ∧ ∃ q l', askE (t :: l) = .ok q ∧ q ≠ .nil ∧ g = .tup [] ∧ σ = [(2, .blk 44 [tks l']), (0, .blk 38 [tks (t :: l)]), (1, .blk 23 [qG q])]) ?_ (fun _ h => h) (fun g σ' n' ⟨hn, q, l', h1, h2, h3, h4⟩ => ⟨id, .tup [], [(0, .blk 38 [tks (t :: l)]), (1, .blk 23 [qG q])], 2, ⟨q, h1, h2, rfl, rfl, rfl⟩, by rw [h3]; rfl, by rw [h4]; exact ⟨rfl, by show some _ = _; simp only [renR, renL, ren_qG], trivial⟩, by simp [idb_qG, idbH, idbR, idbL, idb, hids, distB, fixB, memB]; rfl⟩)
  refine Hx.ofJ pg_ok Tryd.func12 rfl Tryd.ntmps12 rfl Tryd.results12 Tryd.call12 fun H0 S0 w0 h0 g0 => ?_
  refine V ?_
  refine GOX (fun g => ∃ e p, askE (t :: l) = .error (e, p) ∧ g = wrongG e p) ((ask_all (3 * (l.length + 1) + 3)).sum 0 t l (by omega) hE hl (Nat.le_refl _)) (fun g ⟨e, p, h1, h2⟩ => ⟨e, p, by rw [askE]; simp only [List.length_cons, h1], h2⟩) (fun _ => 2) rfl rfl ⟨rfl, trivial⟩ rfl (fun _ _ => Nat.lt_of_lt_of_le (by decide) (Nat.le_refl 3)) ?_
  rintro g σ' n' ⟨q, l2, hq, hne, hE2, hl2, rfl, rfl, rfl⟩
  obtain ⟨t2, l2, rfl⟩ := hE2.cons
  cases q with
  | nil => exact absurd rfl hne
  | mk c nn m sp ns ql qr =>
  refine V ?_
  refine ⟨tokR t2, by decide, rfl, ?_⟩
  by_cases hk : t2.kind = 5
  · refine p2 ?_ (by simp [hk])
    exact ⟨Nat.le_of_ble_eq_true rfl, .mk c nn m sp ns ql qr, t2 :: l2, by rw [askE]; simp only [List.length_cons, hq]; rw [if_neg (by simp [hdT, hk])], by simp, rfl, rfl⟩
  · refine p1 ?_ (by simp [hk])
    refine GOX (fun g => ∃ e p, askE (t :: l) = .error (e, p) ∧ g = wrongG e p) (fail_hx t2 l2 3) (fun g hg => ⟨3, t2.pos, by rw [askE]; simp only [List.length_cons, hq]; rw [if_pos (by simpa [hdT] using hk)]; rfl, hg⟩) (fun _ => 2) rfl rfl ⟨rfl, trivial⟩ rfl (fun _ _ => Nat.lt_of_lt_of_le (by decide) (Nat.le_refl 3)) ?_
    exact fun _ _ _ h => h.elim
theorem caught1_hf (t : Tok) (l : List Tok) (hE : ToksOk (t :: l)) (hl : l.length ≤ 200) : Hf pg 11 2 [.fn (.func 12) [] [.p 0 0, .p 1 0]] [(0, .blk 38 [tks (t :: l)]), (1, .blk 23 [.v (.pointer none)])]
    (fun g σ n => (∃ q, askE (t :: l) = .ok q ∧ q ≠ .nil ∧ g = .v .nilIface ∧ σ = [(0, .blk 38 [tks (t :: l)]), (1, .blk 23 [qG q])] ∧ n = 2) ∨ (∃ e p, askE (t :: l) = .error (e, p) ∧ g = .ifc 62 (.r [gi e, gi p]) ∧ σ = [] ∧ n = 2)) := by
  refine (caught_hf _ _ _ _ _ _ (parse1_hx t l hE hl) (fun x ⟨e, p, _, h⟩ => ⟨e, p, h⟩)).weak fun g σ' n' hq => ?_
  rcases hq with ⟨x, ⟨q, h1, h2, _, rfl, rfl⟩, rfl⟩ | ⟨e, p, ⟨e', p', h1, h2⟩, rfl, rfl⟩
  · exact ⟨id, .v .nilIface, _, 2, .inl ⟨q, h1, h2, rfl, rfl, rfl⟩, rfl, ⟨rfl, by show some _ = _; simp only [renR, renL, ren_qG], trivial⟩, by simp [idb_qG, idbH, idbR, idbL, idb, hids, distB, fixB, memB]; rfl⟩
  · cases h2
    exact ⟨id, .ifc 62 (.r [gi e, gi p]), [], 2, .inr ⟨e, p, h1, rfl, rfl, rfl⟩, rfl, trivial, by simp [idbH, idb, hids, distB, fixB]⟩
def parseG : Except (Int × Int) Qn → GV
  | .ok q => .tup [qG q, .v .nilIface]
  | .error (e, p) => .tup [.v (.pointer none), .ifc 62 (.r [gi e, gi p])]
theorem parse_rt (s : ByteArray) (hs : s.size ≤ 1000) : Rt pg 5 [gs s] (parseG (parseF s.data.toList)) := by
  have hsz : s.data.toList.length = s.size := by simp
  have hsp := split_rt s (by omega)
  refine Rt.of pg_ok Tryd.func5 rfl Tryd.ntmps5 rfl Tryd.results5 Tryd.call5 fun H0 S0 w0 h0 g0 => ?_
  cases hT : tokF s.data.toList (s.size + 1) 0 0 with
  | error ep =>
    obtain ⟨e, p⟩ := ep
    rw [hT] at hsp
    have hP : parseF s.data.toList = .error (e, p) := by rw [parseF, hsz, hT]
    rw [hP]
    refine GO hsp rfl ?_
    refine p1 ?_
    exact ⟨⟨rfl, rfl, trivial⟩, rfl⟩
  | ok l =>
    rw [hT] at hsp
    obtain ⟨hE, hlen⟩ := tok_toks s.data.toList (by omega) _ _ _ l hT (by omega)
    obtain ⟨t, l, rfl⟩ := hE.cons
    simp only [List.length_cons] at hlen
    have hP : parseF s.data.toList = askE (t :: l) := by rw [parseF, hsz, hT]; rfl
    rw [hP]
    refine GO hsp rfl ?_
    refine p2 ?_
    refine GOH (caught1_hf t l hE (by omega)) id rfl rfl ⟨rfl, rfl, trivial⟩ rfl (id_lt rfl) ?_
    rintro g σ' n' (⟨q, h1, h2, rfl, rfl, rfl⟩ | ⟨e, p, h1, rfl, rfl, rfl⟩)
    · rw [h1]
      cases q with
      | nil => exact absurd rfl h2
      | mk c nn m sp ns ql qr =>
        refine p2 ?_
        exact ⟨⟨rfl, rfl, trivial⟩, rfl⟩
    · rw [h1]
      refine p1 ?_
      exact ⟨⟨rfl, rfl, trivial⟩, rfl⟩
end Go.Proofs.YtihakhdinkkdmaaDoor
/-
  Contracts: questions: what is asked of labels is read.
-/
namespace Go.Proofs.YtihakhdinkkdmaaDoor
open Go.GK Go.RowKit Go.PL
set_option maxRecDepth 100000
/-- What matchers' tokens come to. -/
def matE (l : List Tok) : Except (Int × Int) (List Mt) := match matchersP l with
  | .error e => .error e
  | .ok (q, l') => if (hdT l').kind ≠ 5 then .error (3, (hdT l').pos) else .ok q
theorem match1_hx (t : Tok) (l : List Tok) (hE : ToksOk (t :: l)) (hl : l.length ≤ 200) : Hx pg 16 2 [.p 0 0, .p 1 0] [(0, .blk 38 [tks (t :: l)]), (1, .blk 29 [.v (.slice none 0 0)])]
    (fun g σ n => ∃ q, matE (t :: l) = .ok q ∧ g = .tup [] ∧ σ = [(0, .blk 38 [tks (t :: l)]), (1, .blk 29 [.sl 3 (q.map mt)])] ∧ n = 2) (fun g => ∃ e p, matE (t :: l) = .error (e, p) ∧ g = wrongG e p) := by
  refine Hx.weak (Q := fun g σ n => 2 ≤ n ∧ ∃ q l', matE (t :: l) = .ok q ∧ g = .tup [] ∧ σ = [(2, .blk 44 [tks l']), (0, .blk 38 [tks (t :: l)]), (1, .blk 29 [.sl 3 (q.map mt)])]) ?_ (fun _ h => h) (fun g σ' n' ⟨hn, q, l', h1, h3, h4⟩ => ⟨id, .tup [], [(0, .blk 38 [tks (t :: l)]), (1, .blk 29 [.sl 3 (q.map mt)])], 2, ⟨q, h1, rfl, rfl, rfl⟩, by rw [h3]; rfl, by rw [h4]; exact ⟨rfl, rfl, trivial⟩, by simp [idb_qG, idbH, idbR, idbL, idb, hids, distB, fixB, memB]; rfl⟩)
  refine Hx.ofJ pg_ok Tryd.func16 rfl Tryd.ntmps16 rfl Tryd.results16 Tryd.call16 fun H0 S0 w0 h0 g0 => ?_
  refine V ?_
  refine GOX (fun g => ∃ e p, matE (t :: l) = .error (e, p) ∧ g = wrongG e p) (matchers_hx t l hE (by omega)) (fun g ⟨e, p, h1, h2⟩ => ⟨e, p, by rw [matE]; simp only [h1], h2⟩) (fun _ => 2) rfl rfl ⟨rfl, trivial⟩ rfl (fun _ _ => Nat.lt_of_lt_of_le (by decide) (Nat.le_refl 3)) ?_
  rintro g σ' n' ⟨q, l2, hq, hE2, hl2, rfl, rfl, rfl⟩
  obtain ⟨t2, l2, rfl⟩ := hE2.cons
  refine V ?_
  refine ⟨tokR t2, by decide, rfl, ?_⟩
  by_cases hk : t2.kind = 5
  · refine p2 ?_ (by simp [hk])
    exact ⟨Nat.le_of_ble_eq_true rfl, q, t2 :: l2, by rw [matE]; simp only [hq]; rw [if_neg (by simp [hdT, hk])], rfl, rfl⟩
  · refine p1 ?_ (by simp [hk])
    refine GOX (fun g => ∃ e p, matE (t :: l) = .error (e, p) ∧ g = wrongG e p) (fail_hx t2 l2 3) (fun g hg => ⟨3, t2.pos, by rw [matE]; simp only [hq]; rw [if_pos (by simpa [hdT] using hk)]; rfl, hg⟩) (fun _ => 2) rfl rfl ⟨rfl, trivial⟩ rfl (fun _ _ => Nat.lt_of_lt_of_le (by decide) (Nat.le_refl 3)) ?_
    exact fun _ _ _ h => h.elim
theorem caughtM_hf (t : Tok) (l : List Tok) (hE : ToksOk (t :: l)) (hl : l.length ≤ 200) : Hf pg 11 2 [.fn (.func 16) [] [.p 0 0, .p 1 0]] [(0, .blk 38 [tks (t :: l)]), (1, .blk 29 [.v (.slice none 0 0)])]
    (fun g σ n => (∃ q, matE (t :: l) = .ok q ∧ g = .v .nilIface ∧ σ = [(0, .blk 38 [tks (t :: l)]), (1, .blk 29 [.sl 3 (q.map mt)])] ∧ n = 2) ∨ (∃ e p, matE (t :: l) = .error (e, p) ∧ g = .ifc 62 (.r [gi e, gi p]) ∧ σ = [] ∧ n = 2)) := by
  refine (caught_hf _ _ _ _ _ _ (match1_hx t l hE hl) (fun x ⟨e, p, _, h⟩ => ⟨e, p, h⟩)).weak fun g σ' n' hq => ?_
  rcases hq with ⟨x, ⟨q, h1, _, rfl, rfl⟩, rfl⟩ | ⟨e, p, ⟨e', p', h1, h2⟩, rfl, rfl⟩
  · exact ⟨id, .v .nilIface, _, 2, .inl ⟨q, h1, rfl, rfl, rfl⟩, rfl, ⟨rfl, rfl, trivial⟩, by simp [idb_qG, idbH, idbR, idbL, idb, hids, distB, fixB, memB]; rfl⟩
  · cases h2
    exact ⟨id, .ifc 62 (.r [gi e, gi p]), [], 2, .inr ⟨e, p, h1, rfl, rfl, rfl⟩, rfl, trivial, by simp [idbH, idb, hids, distB, fixB]⟩
def matchG : Except (Int × Int) (List Mt) → GV
  | .ok q => .tup [.sl 3 (q.map mt), .v .nilIface]
  | .error (e, p) => .tup [.v (.slice none 0 0), .ifc 62 (.r [gi e, gi p])]
theorem match_rt (s : ByteArray) (hs : s.size ≤ 1000) : Rt pg 7 [gs s] (matchG (matchF s.data.toList)) := by
  have hsz : s.data.toList.length = s.size := by simp
  have hsp := split_rt s (by omega)
  refine Rt.of pg_ok Tryd.func7 rfl Tryd.ntmps7 rfl Tryd.results7 Tryd.call7 fun H0 S0 w0 h0 g0 => ?_
  cases hT : tokF s.data.toList (s.size + 1) 0 0 with
  | error ep =>
    obtain ⟨e, p⟩ := ep
    rw [hT] at hsp
    have hP : matchF s.data.toList = .error (e, p) := by rw [matchF, hsz, hT]
    rw [hP]
    refine GO hsp rfl ?_
    refine p1 ?_
    exact ⟨⟨rfl, rfl, trivial⟩, rfl⟩
  | ok l =>
    rw [hT] at hsp
    obtain ⟨hE, hlen⟩ := tok_toks s.data.toList (by omega) _ _ _ l hT (by omega)
    obtain ⟨t, l, rfl⟩ := hE.cons
    simp only [List.length_cons] at hlen
    have hP : matchF s.data.toList = matE (t :: l) := by rw [matchF, hsz, hT]; rfl
    rw [hP]
    refine GO hsp rfl ?_
    refine p2 ?_
    refine GOH (caughtM_hf t l hE (by omega)) id rfl rfl ⟨rfl, rfl, trivial⟩ rfl (id_lt rfl) ?_
    rintro g σ' n' (⟨q, h1, rfl, rfl, rfl⟩ | ⟨e, p, h1, rfl, rfl, rfl⟩)
    · rw [h1]
      refine p2 ?_
      exact ⟨⟨rfl, rfl, trivial⟩, rfl⟩
    · rw [h1]
      refine p1 ?_
      exact ⟨⟨rfl, rfl, trivial⟩, rfl⟩
end Go.Proofs.YtihakhdinkkdmaaDoor
/-
  Plain laws: questions: how they are printed. No program is in sight.
-/
namespace Go.PL
open Go Go.GK
/-- How strongly a code holds. -/
def lvl (c : Int) : Nat := if c = 13 ∨ c = 14 then 0 else if c = 15 ∨ c = 16 then 1 else 2
theorem lvl_le (c : Int) : lvl c ≤ 2 := by unfold lvl; split <;> (try split) <;> omega

/-! ### What is printed, as lexemes -/
def bL (s : ByteArray) : List UInt8 := s.data.toList
theorem bS_bL (s : ByteArray) : bS (bL s) = s := by cases s; simp [bS, bL]
theorem bL_bS (l : List UInt8) : bL (bS l) = l := by simp [bS, bL]
theorem bS_inj {a b : List UInt8} (h : bS a = bS b) : a = b := by rw [← bL_bS a, ← bL_bS b, h]
theorem bL_len (s : ByteArray) : (bL s).length = s.size := by simp [bL]
theorem bS_append (a b : List UInt8) : bS (a ++ b) = bS a ++ bS b := by
  apply ByteArray.ext
  simp [bS]
def sepX (y : Lx) : List (List Lx) → List Lx
  | [] => []
  | [x] => x
  | x :: r => x ++ y :: sepX y r
def mtX (m : Mt) : List Lx := [wL (bL m.name), mL (bL (opsL.getD m.op.toNat ⟨#[]⟩)), qL (bL m.value)]
def msX (l : List Mt) : List Lx := mL [123] :: (sepX (mL [44]) (l.map mtX) ++ [mL [125]])
def byX (l : List ByteArray) : List Lx := sepX ⟨0, [44], 4, 1⟩ (l.map fun s => [wL (bL s)])
def parX (x : List Lx) : List Lx := mL [40] :: (x ++ [mL [41]])
def symX (c : Int) : List UInt8 := if c = 13 then [43] else if c = 14 then [45] else if c = 15 then [42] else [47]
def binX (c : Int) : Lx := ⟨1, symX c, 4, 1⟩
def bysX (b : List ByteArray) : List Lx := match b with
  | [] => []
  | s :: r => ⟨1, [98, 121], 1, 1⟩ :: parX (byX (s :: r))
def ifP (b : Bool) (x : List Lx) : List Lx := if b then parX x else x
/-- What is printed, where so much holds it at least. -/
def atX : Qn → Nat → List Lx
  | .nil, _ => []
  | .mk c num m span b l r, least => ifP (decide (lvl c < least))
    (if c = 1 then [dL (Lib.itoa num)]
     else if c = 2 then msX m
     else if 3 ≤ c ∧ c ≤ 7 then wL (bL (oversL.getD (c - 3).toNat ⟨#[]⟩)) :: parX (msX m ++ [mL [91], dL (Lib.itoa span), mL [93]])
     else if 8 ≤ c ∧ c ≤ 11 then wL (bL (allsL.getD (c - 8).toNat ⟨#[]⟩)) :: (parX (atX l 0) ++ bysX b)
     else if c = 12 then mL [45] :: atX l 2
     else if lvl c < 2 then atX l (lvl c) ++ binX c :: atX r (lvl c + 1)
     else [])
/-- What is printed. -/
def printF (q : Qn) : ByteArray := bS (bytesL (atX q 0))
def printM (l : List Mt) : ByteArray := bS (bytesL (msX l))

/-! ### Questions as they come of texts -/
def MOk (m : Mt) : Prop := nameF m.name = true ∧ valueF m.value = true ∧ 0 ≤ m.op ∧ m.op ≤ 3
def MsOk (l : List Mt) : Prop := (∀ m ∈ l, MOk m) ∧ l.length ≤ 8
inductive Wf : Qn → Prop
  | num (n : Int) (h0 : 0 ≤ n) (h1 : n < 1000000000000000000) : Wf (.mk 1 n [] 0 [] .nil .nil)
  | pick (m : List Mt) (h : MsOk m) : Wf (.mk 2 0 m 300 [] .nil .nil)
  | over (k : Nat) (hk : k < 5) (m : List Mt) (h : MsOk m) (sp : Int) (h1 : 1 ≤ sp) (h2 : sp ≤ 1099511627776) : Wf (.mk (3 + k) 0 m sp [] .nil .nil)
  | all (k : Nat) (hk : k < 4) (b : List ByteArray) (hb : ∀ s ∈ b, nameF s = true) (hl : b.length ≤ 8) (q : Qn) (hq : Wf q) : Wf (.mk (8 + k) 0 [] 0 b q .nil)
  | neg (q : Qn) (hq : Wf q) : Wf (.mk 12 0 [] 0 [] q .nil)
  | add (k : Nat) (hk : k < 2) (l r : Qn) (hl : Wf l) (hr : Wf r) : Wf (.mk (13 + k) 0 [] 0 [] l r)
  | mul (k : Nat) (hk : k < 2) (l r : Qn) (hl : Wf l) (hr : Wf r) : Wf (.mk (15 + k) 0 [] 0 [] l r)
def Qn.code : Qn → Int
  | .nil => 0
  | .mk c .. => c
/-- How deep a question stands, where so much holds it at least. -/
def dep : Qn → Nat → Nat
  | .nil, _ => 0
  | .mk c _ _ _ _ l r, least => (if lvl c < least then 1 else 0) +
    (if 8 ≤ c ∧ c ≤ 11 then 1 + dep l 0 else if c = 12 then 1 + dep l 2 else if lvl c < 2 then max (dep l (lvl c)) (dep r (lvl c + 1)) else 0)

theorem atX_num (n : Int) (least : Nat) (h : least ≤ 2) : atX (.mk 1 n [] 0 [] .nil .nil) least = [dL (Lib.itoa n)] := by
  have : ¬ (2 < least) := by omega
  simp [atX, lvl, ifP, this]
theorem atX_pick (m : List Mt) (least : Nat) (h : least ≤ 2) : atX (.mk 2 0 m 300 [] .nil .nil) least = msX m := by
  have : ¬ (2 < least) := by omega
  simp [atX, lvl, ifP, this]
theorem atX_over (k : Nat) (hk : k < 5) (m : List Mt) (sp : Int) (least : Nat) (h : least ≤ 2) : atX (.mk (3 + k) 0 m sp [] .nil .nil) least = wL (bL (oversL.getD k ⟨#[]⟩)) :: parX (msX m ++ [mL [91], dL (Lib.itoa sp), mL [93]]) := by
  have h1 : ¬ (lvl (3 + k) < least) := by
    have : lvl (3 + k) = 2 := by rw [lvl, if_neg (by omega), if_neg (by omega)]
    omega
  have h2 : ((3 + k : Int) - 3).toNat = k := by omega
  rw [atX, if_neg (by omega), if_neg (by omega), if_pos (by omega), h2, decide_eq_false h1]
  rfl
theorem atX_all (k : Nat) (hk : k < 4) (b : List ByteArray) (q : Qn) (least : Nat) (h : least ≤ 2) : atX (.mk (8 + k) 0 [] 0 b q .nil) least = wL (bL (allsL.getD k ⟨#[]⟩)) :: (parX (atX q 0) ++ bysX b) := by
  have h1 : ¬ (lvl (8 + k) < least) := by
    have : lvl (8 + k) = 2 := by rw [lvl, if_neg (by omega), if_neg (by omega)]
    omega
  have h2 : ((8 + k : Int) - 8).toNat = k := by omega
  rw [atX, if_neg (by omega), if_neg (by omega), if_neg (by omega), if_pos (by omega), h2, decide_eq_false h1]
  rfl
theorem atX_neg (q : Qn) (least : Nat) (h : least ≤ 2) : atX (.mk 12 0 [] 0 [] q .nil) least = mL [45] :: atX q 2 := by
  have h1 : ¬ (lvl 12 < least) := by
    have : lvl 12 = 2 := rfl
    omega
  rw [atX, if_neg (by omega), if_neg (by omega), if_neg (by omega), if_neg (by omega), if_pos rfl, decide_eq_false h1]
  rfl
theorem lvl_add (k : Nat) (hk : k < 2) : lvl (13 + k) = 0 := by rw [lvl, if_pos (by omega)]
theorem lvl_mul (k : Nat) (hk : k < 2) : lvl (15 + k) = 1 := by rw [lvl, if_neg (by omega), if_pos (by omega)]
theorem atX_add (k : Nat) (hk : k < 2) (l r : Qn) (least : Nat) : atX (.mk (13 + k) 0 [] 0 [] l r) least = ifP (decide (0 < least)) (atX l 0 ++ binX (13 + k) :: atX r 1) := by
  have h1 := lvl_add k hk
  rw [atX, if_neg (by omega), if_neg (by omega), if_neg (by omega), if_neg (by omega), if_neg (by omega), if_pos (by omega), h1]
theorem atX_mul (k : Nat) (hk : k < 2) (l r : Qn) (least : Nat) : atX (.mk (15 + k) 0 [] 0 [] l r) least = ifP (decide (1 < least)) (atX l 1 ++ binX (15 + k) :: atX r 2) := by
  have h1 := lvl_mul k hk
  rw [atX, if_neg (by omega), if_neg (by omega), if_neg (by omega), if_neg (by omega), if_neg (by omega), if_pos (by omega), h1]
theorem dep_num (n : Int) (least : Nat) (h : least ≤ 2) : dep (.mk 1 n [] 0 [] .nil .nil) least = 0 := by
  have : ¬ (2 < least) := by omega
  simp [dep, lvl, this]
theorem dep_pick (m : List Mt) (least : Nat) (h : least ≤ 2) : dep (.mk 2 0 m 300 [] .nil .nil) least = 0 := by
  have : ¬ (2 < least) := by omega
  simp [dep, lvl, this]
theorem dep_over (k : Nat) (hk : k < 5) (m : List Mt) (sp : Int) (least : Nat) (h : least ≤ 2) : dep (.mk (3 + k) 0 m sp [] .nil .nil) least = 0 := by
  have h1 : lvl (3 + k) = 2 := by rw [lvl, if_neg (by omega), if_neg (by omega)]
  rw [dep, if_neg (by omega), if_neg (by omega), if_neg (by omega), if_neg (by omega)]
theorem dep_all (k : Nat) (hk : k < 4) (b : List ByteArray) (q : Qn) (least : Nat) (h : least ≤ 2) : dep (.mk (8 + k) 0 [] 0 b q .nil) least = 1 + dep q 0 := by
  have h1 : lvl (8 + k) = 2 := by rw [lvl, if_neg (by omega), if_neg (by omega)]
  rw [dep, if_neg (by omega), if_pos (by omega), Nat.zero_add]
theorem dep_neg (q : Qn) (least : Nat) (h : least ≤ 2) : dep (.mk 12 0 [] 0 [] q .nil) least = 1 + dep q 2 := by
  have h1 : lvl 12 = 2 := rfl
  rw [dep, if_neg (by omega), if_neg (by omega), if_pos rfl, Nat.zero_add]
theorem dep_add (k : Nat) (hk : k < 2) (l r : Qn) (least : Nat) : dep (.mk (13 + k) 0 [] 0 [] l r) least = (if 0 < least then 1 else 0) + max (dep l 0) (dep r 1) := by
  have h1 := lvl_add k hk
  rw [dep, if_neg (show ¬ (8 ≤ (13 + k : Int) ∧ (13 + k : Int) ≤ 11) by omega), if_neg (show ¬ ((13 + k : Int) = 12) by omega), h1, if_pos (show 0 < 2 by omega)]
theorem dep_mul (k : Nat) (hk : k < 2) (l r : Qn) (least : Nat) : dep (.mk (15 + k) 0 [] 0 [] l r) least = (if 1 < least then 1 else 0) + max (dep l 1) (dep r 2) := by
  have h1 := lvl_mul k hk
  rw [dep, if_neg (show ¬ (8 ≤ (15 + k : Int) ∧ (15 + k : Int) ≤ 11) by omega), if_neg (show ¬ ((15 + k : Int) = 12) by omega), h1, if_pos (show 1 < 2 by omega)]

/-! ### Weights -/
def wx (c : Nat) (l : List Lx) : Nat := (l.map fun x => c + x.text.length).sum
def wt (c : Nat) (l : List Tok) : Nat := (l.map fun t => c + t.text.size).sum
theorem wx_cons (c : Nat) (x : Lx) (l : List Lx) : wx c (x :: l) = c + x.text.length + wx c l := by simp [wx]
theorem wx_append (c : Nat) (a b : List Lx) : wx c (a ++ b) = wx c a + wx c b := by simp [wx]
theorem wx_nil (c : Nat) : wx c [] = 0 := rfl
theorem wt_cons (c : Nat) (x : Tok) (l : List Tok) : wt c (x :: l) = c + x.text.size + wt c l := by simp [wt]
theorem wx_parX (c : Nat) (x : List Lx) : wx c (parX x) = 2 * c + 2 + wx c x := by
  simp only [parX, wx_cons, wx_append, wx_nil, mL, List.length_cons, List.length_nil]
  omega
theorem sepX_snoc (y : Lx) (l : List (List Lx)) (x : List Lx) : sepX y (l ++ [x]) = if l = [] then x else sepX y l ++ y :: x := by
  induction l with
  | nil => rfl
  | cons a r ih =>
    rw [if_neg (by simp)]
    cases r with
    | nil => rfl
    | cons b r =>
      have : sepX y (a :: b :: r ++ [x]) = a ++ y :: sepX y (b :: r ++ [x]) := rfl
      rw [this, ih, if_neg (by simp)]
      simp [sepX]
/-- More is printed where more holds it. -/
theorem at_le (q : Qn) (a b : Nat) (h : a ≤ b) : dep q a ≤ dep q b ∧ ∀ c, wx c (atX q a) ≤ wx c (atX q b) := by
  cases q with
  | nil => exact ⟨Nat.le_refl _, fun _ => Nat.le_refl _⟩
  | mk c n m s bb l r =>
    have hh : ∀ x y : Nat, (if lvl c < a then 1 else 0) + x ≤ (if lvl c < b then 1 else 0) + x := fun x _ => by
      by_cases h1 : lvl c < a
      · rw [if_pos h1, if_pos (by omega)]; exact Nat.le_refl _
      · rw [if_neg h1]; omega
    have hp : ∀ (w : Nat) (x : List Lx), wx w (ifP (decide (lvl c < a)) x) ≤ wx w (ifP (decide (lvl c < b)) x) := fun w x => by
      by_cases h1 : lvl c < a
      · rw [decide_eq_true h1, decide_eq_true (by omega)]; exact Nat.le_refl _
      · rw [decide_eq_false h1]
        by_cases h2 : lvl c < b
        · rw [decide_eq_true h2]
          show wx w x ≤ wx w (parX x)
          rw [wx_parX]; omega
        · rw [decide_eq_false h2]; exact Nat.le_refl _
    exact ⟨hh _ 0, fun w => hp w _⟩
end Go.PL
