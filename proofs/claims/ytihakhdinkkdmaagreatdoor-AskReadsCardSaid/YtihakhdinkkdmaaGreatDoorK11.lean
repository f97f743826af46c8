/-
  Contracts: questions: matchers.
-/
import Derived.Test.YtihakhdinkkdmaaGreatDoorK09
import Derived.Test.YtihakhdinkkdmaaGreatDoorK08
import Derived.Test.YtihakhdinkkdmaaGreatDoorK10
namespace Go.Proofs.YtihakhdinkkdmaaGreatDoor
open Go.GK Go.RowKit Go.PL
set_option maxRecDepth 100000
def okR {α : Type} (P : PRes α) (G : α → GV) (L : Nat) (g : GV) (σ : Heap) (n : Nat) : Prop := ∃ a l', P = .ok (a, l') ∧ ToksOk l' ∧ l'.length < L ∧ g = G a ∧ σ = ps l' ∧ n = 1
theorem okR_n {α : Type} {P : PRes α} {G : α → GV} {L : Nat} {f : FuncId} {args : List GV} {σ : Heap} {R : GV → Prop} (h : Hx pg f 1 args σ (fun g σ' n => 1 ≤ n ∧ ∃ a l', P = .ok (a, l') ∧ ToksOk l' ∧ l'.length < L ∧ g = G a ∧ σ' = ps l') R) (hG : ∀ a, idb 1 (G a) = true) : Hx pg f 1 args σ (okR P G L) R :=
  h.weak (fun _ h => h) fun g σ' n' ⟨hn, a, l', h1, h4, h5, h2, h3⟩ => ⟨id, G a, ps l', 1, ⟨a, l', h1, h4, h5, rfl, rfl, rfl⟩, by rw [h2, ren_id], by rw [h3]; exact ⟨rfl, trivial⟩, by simp [hG, idbH, idbR, idbL, idb, hids, distB, fixB, memB]⟩
section
variable {N n0 : Nat} {H0 : Hid} {S0 : List Nat} {w0 : World} {h0 : H0.n = n0} {g0 : GlOk pg H0} {T : Post} {k : List It} {s : St}
theorem GOBJ {all : List Oper} {o : Oper} {rest : List Oper} {f : FuncId} {cargs gs : List GV} {G : GV} (hr : Rt pg f cargs G) (hk : callG pg all s.ρ o = some (f, gs)) (hl : lents s.σ gs cargs)
    (h : dputV N s.ρ o.dst G fun ρ' => JK ⟨pg, N, n0, H0, S0, w0, h0, g0⟩ T (.ops false all rest :: k) ⟨ρ', s.σ, s.n⟩) (hfree : roFree G = true := by rfl) : JK ⟨pg, N, n0, H0, S0, w0, h0, g0⟩ T (.ops false all (o :: rest) :: k) s := by
  obtain ⟨fo, args, ts, first, caps, gs', ho, hgd, hf, he, hargs⟩ := callG_spec hk
  refine JK.callB hr.ct hr.call ho hgd hf he (by rw [hargs]; exact hl) (fun g σ' n' hq => ?_) (fun g σ' n' hq => ?_)
  · obtain ⟨⟨rfl, h1⟩, _, _⟩ := hq
    simp [h1, hfree]
  · obtain ⟨⟨rfl, h1⟩, _, _⟩ := hq
    rw [nf_eq, ← dputV_eq]
    exact h
theorem SLA (vs : List Value) {all : List Oper} {o : Oper} {rest : List Oper} {t e n : Nat} {x : Operand} {ti tie : TI} (ho : o.op = .slice t x none none none) (hgd : gdOk all s.ρ o.guard = true) (ht : tget tyTab t = some ti) (htd : ti.d = .array n e) (hte : tget tyTab e = some tie) (hsz : tie.sz = 1) (hx : ev pg s.ρ x = some (.r (vs.map .v))) (hn : vs.length = n) (hne : Nat.ble 1 n = true) (hm : Nat.ble n maxLen = true) (h1 : vs.all (·.oneCell') = true)
    (h : dputV N s.ρ o.dst (.sl 1 (vs.map fun v => [.v v])) fun ρ' => JK ⟨pg, N, n0, H0, S0, w0, h0, g0⟩ T (.ops false all rest :: k) ⟨ρ', s.σ, s.n⟩) : JK ⟨pg, N, n0, H0, S0, w0, h0, g0⟩ T (.ops false all (o :: rest) :: k) s := by
  rw [dputV_eq] at h
  exact JK.sliceArr (cx := ⟨pg, N, n0, H0, S0, w0, h0, g0⟩) pg_ok ho hgd ht htd hte hsz hx hn hne hm h1 h
end
theorem opsL_len : opsL.length = 4 := rfl
theorem matchers_hx (t0 : Tok) (l0 : List Tok) (hE0 : ToksOk (t0 :: l0)) (hlen : l0.length ≤ 1000) : Hx pg 31 1 [.p 0 0] (ps (t0 :: l0)) (okR (matchersP (t0 :: l0)) (fun m => .sl 3 (m.map mt)) (l0.length + 1)) (erR (matchersP (t0 :: l0))) := by
  refine okR_n ?_ (fun a => rfl)
  refine Hx.ofJ pg_ok Tryz.func31 rfl Tryz.ntmps31 rfl Tryz.results31 Tryz.call31 fun H0 S0 w0 h0 g0 => ?_
  refine V ?_
  refine GOX (erR (matchersP (t0 :: l0))) (must_hx t0 l0 (bS [123])) (fun g ⟨e, p, h1, h2⟩ => ⟨e, p, by rw [matchersP, h1], h2⟩) id rfl rfl ⟨rfl, trivial⟩ rfl (id_lt rfl) ?_
  rintro g σ' n' ⟨hm, htk, rfl, rfl, rfl⟩
  have hk0 : t0.kind ≠ 5 := (takesP_iff.1 htk).2
  have hE1 : ToksOk l0 := hE0.tail hk0
  have hP : matchersP (t0 :: l0) = matchersL (l0.length + 1) [] l0 := by rw [matchersP, hm]
  rw [hP]
  obtain ⟨t1, l1, rfl⟩ := hE1.cons
  refine V ?_
  show JK _ _ _ _
  refine JK.ownNil 3 77 3 rfl ?_
  refine JK.loopE (α := Bool × List Mt × Tok × List Tok × Nat) (β := List Mt × List Tok) (fun x => ⟨[(0, .p 0 0), (3, .o 1), (4, .v (.bool x.1))], [(0, .blk 61 [tks (x.2.2.1 :: x.2.2.2.1)]), (1, .row 77 3 (x.2.1.map mt))], 2⟩)
    (fun x => x.1 = decide (x.2.1.length = 0) ∧ ToksOk (x.2.2.1 :: x.2.2.2.1) ∧ x.2.2.2.1.length + 1 < x.2.2.2.2 ∧ x.2.1.length ≤ 8 ∧ x.2.2.2.1.length ≤ l1.length ∧ matchersL x.2.2.2.2 x.2.1 (x.2.2.1 :: x.2.2.2.1) = matchersL ((t1 :: l1).length + 1) [] (t1 :: l1)) (fun x => x.2.2.2.1.length)
    (fun y => ⟨[(3, .o 1)], [(0, .blk 61 [tks y.2]), (1, .row 77 3 (y.1.map mt))], 2⟩) (fun y => matchersL ((t1 :: l1).length + 1) [] (t1 :: l1) = .ok (y.1, y.2) ∧ ToksOk y.2 ∧ y.2.length ≤ l1.length) (true, [], t1, l1, (t1 :: l1).length + 1) id ?_ ?_ ?_ ?_
  · exact ⟨⟨rfl, rfl, rfl, trivial⟩, ⟨rfl, rfl, trivial⟩, rfl⟩
  · exact ⟨rfl, hE1, by simp, by simp, Nat.le_refl _, rfl⟩
  · rintro ⟨b, acc, t, l, f⟩ ⟨hb, hE, hf, h8, hl, heq⟩
    replace hb : b = decide (acc.length = 0) := hb
    replace hE : ToksOk (t :: l) := hE
    replace hf : l.length + 1 < f := hf
    replace h8 : acc.length ≤ 8 := h8
    replace hl : l.length ≤ l1.length := hl
    replace heq : matchersL f acc (t :: l) = matchersL ((t1 :: l1).length + 1) [] (t1 :: l1) := heq
    obtain ⟨f, rfl⟩ : ∃ f', f = f' + 1 := ⟨f - 1, by omega⟩
    refine V ?_
    rcases tf (takesP (bS [125]) (t :: l)) with hend | hend
    · refine GOH (takes_yes t l (bS [125]) hend) id rfl rfl ⟨rfl, trivial⟩ rfl (id_lt rfl) ?_
      rintro g σ' n' ⟨rfl, rfl, rfl⟩
      exact ⟨(acc, l), id, ⟨⟨rfl, trivial⟩, ⟨rfl, rfl, trivial⟩, rfl⟩, ⟨by rw [← heq, matchersL, if_pos hend]; rfl, hE.tail (takesP_iff.1 hend).2, hl⟩⟩
    · refine GOJ (takes_no t l (bS [125]) hend) id rfl rfl ⟨rfl, trivial⟩ rfl (id_lt rfl) ?_
      rintro g σ' n' ⟨rfl, rfl, rfl⟩
      refine VM 7 ?_
      refine JK.cut (α := Tok × List Tok) (fun x => ⟨[(0, .p 0 0), (3, .o 1)], [(0, .blk 61 [tks (x.1 :: x.2)]), (1, .row 77 3 (acc.map mt))], 2⟩) (fun x => ToksOk (x.1 :: x.2) ∧ x.2.length ≤ l.length ∧ (if acc.length = 0 then .ok ((), t :: l) else mustP (bS [44]) (t :: l)) = (.ok ((), x.1 :: x.2) : PRes Unit)) ?_ ?_
      · cases b with
        | true =>
          have ha : acc.length = 0 := of_decide_eq_true hb.symm
          refine V ?_
          exact ⟨(t, l), id, ⟨⟨rfl, rfl, trivial⟩, ⟨rfl, rfl, trivial⟩, rfl⟩, hE, Nat.le_refl _, by rw [if_pos ha]⟩
        | false =>
          have ha : ¬ acc.length = 0 := of_decide_eq_false hb.symm
          refine V ?_
          refine GOX (erR (matchersL ((t1 :: l1).length + 1) [] (t1 :: l1))) (must_hx t l (bS [44])) (fun g ⟨e, p, h1, h2⟩ => ⟨e, p, by rw [← heq, matchersL, if_neg (by simp [hend]), if_neg ha, h1], h2⟩) id rfl rfl ⟨rfl, trivial⟩ rfl (id_lt rfl) ?_
          rintro g σ' n' ⟨hm, htk, rfl, rfl, rfl⟩
          have hE2 := hE.tail (takesP_iff.1 htk).2
          obtain ⟨t2, l2, rfl⟩ := hE2.cons
          refine V ?_
          exact ⟨(t2, l2), id, ⟨⟨rfl, rfl, trivial⟩, ⟨rfl, rfl, trivial⟩, rfl⟩, hE2, by simp, by rw [if_neg ha]; exact hm⟩
      rintro ⟨t2, l2⟩ ⟨hE2, hl2, hc⟩
      replace hE2 : ToksOk (t2 :: l2) := hE2
      replace hl2 : l2.length ≤ l.length := hl2
      have hM : matchersL (f + 1) acc (t :: l) = if 8 ≤ acc.length then failP 4 (t2 :: l2) else (match matcherP (t2 :: l2) with | .error e => .error e | .ok (m, l) => matchersL f (acc ++ [m]) l) := by
        replace hc : (if acc.length = 0 then .ok ((), t :: l) else mustP (bS [44]) (t :: l)) = (.ok ((), t2 :: l2) : PRes Unit) := hc
        rw [matchersL, if_neg (by simp [hend]), hc]
        rfl
      rw [heq] at hM
      refine V ?_
      by_cases h8' : 8 ≤ acc.length
      · refine p1 ?_ (decide_eq_true (by simp; omega))
        refine GOX (erR (matchersL ((t1 :: l1).length + 1) [] (t1 :: l1))) (fail_hx t2 l2 4) (fun g hg => ⟨4, t2.pos, by rw [hM, if_pos h8']; rfl, hg⟩) id rfl rfl ⟨rfl, trivial⟩ rfl (id_lt rfl) ?_
        exact fun _ _ _ h => h.elim
      refine p2 ?_ (decide_eq_false (by simp; omega))
      rw [if_neg h8'] at hM
      refine GOX (erR (matchersL ((t1 :: l1).length + 1) [] (t1 :: l1))) (name_hx t2 l2) (fun g ⟨e, p, h1, h2⟩ => ⟨e, p, by rw [hM, matcherP, h1], h2⟩) id rfl rfl ⟨rfl, trivial⟩ rfl (id_lt rfl) ?_
      rintro g σ' n' ⟨hn, hk1, rfl, rfl, rfl⟩
      have hE3 := hE2.tail (by omega)
      obtain ⟨t3, l3, rfl⟩ := hE3.cons
      have hPm : matcherP (t2 :: t3 :: l3) = (match opsL.findIdx? fun s => isP s (t3 :: l3) with
          | none => failP 3 (t3 :: l3)
          | some k => match mustP (opsL.getD k ⟨#[]⟩) (t3 :: l3) with
            | .error e => .error e
            | .ok (_, l) => match anyP 3 l with
              | .error e => .error e
              | .ok (s, l') => if valueF (s.extract 1 (s.size - 1)) then .ok (⟨t2.text, k, s.extract 1 (s.size - 1)⟩, l') else failP 4 l) := by
        rw [matcherP, hn]
        rfl
      rw [hPm] at hM
      refine VM 6 ?_
      refine SLA (opsL.map .string) rfl rfl rfl rfl rfl rfl rfl rfl rfl rfl rfl ?_
      refine V ?_
      cases hfi : opsL.findIdx? fun s => isP s (t3 :: l3) with
      | none =>
        rw [hfi] at hM
        refine GOH ((idxIs_hf opsL (by decide) t3 l3).imp (Q' := fun g σ n => g = gi (-1) ∧ σ = ps (t3 :: l3) ∧ n = 1) fun g σ n ⟨e, r⟩ => ⟨by rw [e, hfi], r⟩) id rfl rfl ⟨rfl, trivial⟩ rfl (id_lt rfl) ?_
        rintro g σ' n' ⟨rfl, rfl, rfl⟩
        refine p1 ?_
        refine GOX (erR (matchersL ((t1 :: l1).length + 1) [] (t1 :: l1))) (fail_hx t3 l3 3) (fun g hg => ⟨3, t3.pos, by rw [hM]; rfl, hg⟩) id rfl rfl ⟨rfl, trivial⟩ rfl (id_lt rfl) ?_
        exact fun _ _ _ h => h.elim
      | some j =>
        rw [hfi] at hM
        have hj : j < 4 := (List.findIdx?_eq_some_iff_getElem.1 hfi).1
        refine GOH ((idxIs_hf opsL (by decide) t3 l3).imp (Q' := fun g σ n => g = gi j ∧ σ = ps (t3 :: l3) ∧ n = 1) fun g σ n ⟨e, r⟩ => ⟨by rw [e, hfi], r⟩) id rfl rfl ⟨rfl, trivial⟩ rfl (id_lt rfl) ?_
        rintro g σ' n' ⟨rfl, rfl, rfl⟩
        refine p2 ?_
        refine ⟨by omega, by omega, ?_⟩
        refine ons_mk (g := gs (opsL.getD j ⟨#[]⟩)) ?_ ?_
        · match j, hj with
          | 0, _ => rfl
          | 1, _ => rfl
          | 2, _ => rfl
          | 3, _ => rfl
        refine GOX (erR (matchersL ((t1 :: l1).length + 1) [] (t1 :: l1))) (must_hx t3 l3 (opsL.getD j ⟨#[]⟩)) (fun g ⟨e, p, h1, h2⟩ => ⟨e, p, by rw [hM]; simp only [h1], h2⟩) id rfl rfl ⟨rfl, trivial⟩ rfl (id_lt rfl) ?_
        rintro g σ' n' ⟨hmu, htk2, rfl, rfl, rfl⟩
        have hE4 := hE3.tail (takesP_iff.1 htk2).2
        obtain ⟨t4, l4, rfl⟩ := hE4.cons
        simp only [hmu] at hM
        refine V ?_
        refine ⟨tokR t4, by decide, rfl, ?_⟩
        refine GOX (erR (matchersL ((t1 :: l1).length + 1) [] (t1 :: l1))) (any_hx t4 l4 3) (fun g ⟨e, p, h1, h2⟩ => ⟨e, p, by rw [hM]; simp only [h1], h2⟩) id rfl rfl ⟨rfl, trivial⟩ rfl (id_lt rfl) ?_
        rintro g σ' n' ⟨han, hk3, rfl, rfl, rfl⟩
        have hE5 := hE4.tail (by omega)
        obtain ⟨t5, l5, rfl⟩ := hE5.cons
        have ht4 := (hE4.each t4 List.mem_cons_self)
        have hsz := quo_size ht4.1 hk3
        have hsz2 := ht4.2
        have hw : IntKind.i64.wrap ((t4.text.size : Int) - 1) = ((t4.text.size - 1 : Nat) : Int) := by rw [wrap_id (by omega) (by omega)]; omega
        refine V ?_
        refine ⟨by decide, by rw [hw]; omega, by rw [hw]; omega, ?_⟩
        have hv : t4.text.extract (1 : Int).toNat (IntKind.i64.wrap ((t4.text.size : Int) - 1)).toNat = t4.text.extract 1 (t4.text.size - 1) := by rw [hw]; rfl
        have hm1 : (⟨t2.text, j, t4.text.extract (1 : Int).toNat (IntKind.i64.wrap ((t4.text.size : Int) - 1)).toNat⟩ : Mt) = ⟨t2.text, j, t4.text.extract 1 (t4.text.size - 1)⟩ := by rw [hv]
        have hSm : Sm2 [(⟨t2.text, j, t4.text.extract (1 : Int).toNat (IntKind.i64.wrap ((t4.text.size : Int) - 1)).toNat⟩ : Mt)] := fun x hx => by
          rw [List.mem_singleton.1 hx, hv, ByteArray.size_extract]
          omega
        have hnm : nameF t2.text = true := nameP_ok hn hk1
        have hask := asked_one (m := ⟨t2.text, j, t4.text.extract (1 : Int).toNat (IntKind.i64.wrap ((t4.text.size : Int) - 1)).toNat⟩) hnm (by simp) (by simp; omega)
        simp only [han] at hM
        rw [← hm1, ← hv] at hM
        rcases tf (valueF (t4.text.extract (1 : Int).toNat (IntKind.i64.wrap ((t4.text.size : Int) - 1)).toNat)) with hvf | hvf
        · rw [if_pos hvf] at hM
          refine GOB ((lasked_rt _ hSm).bt (hask.trans hvf)) rfl ⟨⟨rfl, rfl⟩, trivial⟩ ?_
          refine ⟨by simp; omega, ?_⟩
          refine ⟨(false, acc ++ [⟨t2.text, j, t4.text.extract (1 : Int).toNat (IntKind.i64.wrap ((t4.text.size : Int) - 1)).toNat⟩], t5, l5, f), fun i => bif Nat.beq i 1 then 6 else i, ⟨⟨rfl, rfl, rfl, trivial⟩, ⟨rfl, ?_, trivial⟩, rfl⟩, ⟨?_, hE5, ?_, ?_, ?_, hM.symm⟩, ?_⟩
          · exact congrArg (fun x => some (Res.row 77 3 x)) (List.map_append (l₁ := acc) (l₂ := [⟨t2.text, j, t4.text.extract (1 : Int).toNat (IntKind.i64.wrap ((t4.text.size : Int) - 1)).toNat⟩]) (f := mt)).symm
          · exact (decide_eq_false (by simp)).symm
          · show l5.length + 1 < f
            simp at hl2
            omega
          · show (acc ++ [_]).length ≤ 8
            simp
            omega
          · show l5.length ≤ l1.length
            simp at hl2
            omega
          · show l5.length < l.length
            simp at hl2
            omega
        · rw [if_neg (Bool.eq_false_iff.1 hvf)] at hM
          refine GOBJ ((lasked_rt _ hSm).bt (hask.trans hvf)) rfl ⟨⟨rfl, rfl⟩, trivial⟩ ?_
          refine VM 11 ?_
          refine JK.freezeB 5 rfl rfl ?_
          refine JK.throw rfl rfl rfl rfl ?_
          intro v X σ n hX
          exact ⟨v, _, X, rfl, hX, ⟨4, t4.pos, hM, rfl⟩, rfl⟩
  · rintro ⟨acc, l⟩ ⟨hq, hq2, hq3⟩
    refine FRZ 1 rfl ?_
    exact ⟨Nat.le_of_ble_eq_true rfl, acc, l, hq, hq2, by simp; exact Nat.lt_succ_of_le (Nat.le_succ_of_le hq3), rfl, rfl⟩
end Go.Proofs.YtihakhdinkkdmaaGreatDoor
/-
  Contracts: questions: what is asked of one thing.
-/
namespace Go.Proofs.YtihakhdinkkdmaaGreatDoor
open Go.GK Go.RowKit Go.PL
set_option maxRecDepth 100000
def qG : Qn → GV
  | .nil => .v (.pointer none)
  | .mk c n m sp ns l r => .r [gi c, gi n, .sl 3 (m.map mt), gi sp, .sl 1 (ns.map fun s => [gs s]), qG l, qG r]
theorem idb_qG : ∀ (q : Qn) (n : Nat), idb n (qG q) = true
  | .nil, _ => rfl
  | .mk .., _ => rfl
theorem ren_qG (q : Qn) (f : Nat → Nat) : ren f (qG q) = qG q := ren_none f (idb_qG q 0)
def okA (P : PRes Qn) (L : Nat) (g : GV) (σ : Heap) (n : Nat) : Prop := ∃ q l', P = .ok (q, l') ∧ q ≠ .nil ∧ ToksOk l' ∧ l'.length < L ∧ g = qG q ∧ σ = ps l' ∧ n = 1
theorem okA_n {P : PRes Qn} {L : Nat} {f : FuncId} {args : List GV} {σ : Heap} {R : GV → Prop} (h : Hx pg f 1 args σ (fun g σ' n => 1 ≤ n ∧ ∃ q l', P = .ok (q, l') ∧ q ≠ .nil ∧ ToksOk l' ∧ l'.length < L ∧ g = qG q ∧ σ' = ps l') R) : Hx pg f 1 args σ (okA P L) R :=
  h.weak (fun _ h => h) fun g σ' n' ⟨hn, q, l', h1, h0, h4, h5, h2, h3⟩ => ⟨id, qG q, ps l', 1, ⟨q, l', h1, h0, h4, h5, rfl, rfl, rfl⟩, by rw [h2, ren_id], by rw [h3]; exact ⟨rfl, trivial⟩, by simp [idb_qG, idbH, idbR, idbL, idb, hids, distB, fixB, memB]⟩
structure AskOk (f : Nat) : Prop where
  one : ∀ (n : Nat) (t : Tok) (l : List Tok), n ≤ 100 → ToksOk (t :: l) → l.length ≤ 200 → 3 * (l.length + 1) + 1 ≤ f → Hx pg 66 1 [.p 0 0, gi n] (ps (t :: l)) (okA (oneP f n (t :: l)) (l.length + 1)) (erR (oneP f n (t :: l)))
  sum : ∀ (n : Nat) (t : Tok) (l : List Tok), n ≤ 100 → ToksOk (t :: l) → l.length ≤ 200 → 3 * (l.length + 1) + 3 ≤ f → Hx pg 22 1 [.p 0 0, gi n] (ps (t :: l)) (okA (sumP f n (t :: l)) (l.length + 1)) (erR (sumP f n (t :: l)))
  product : ∀ (n : Nat) (t : Tok) (l : List Tok), n ≤ 100 → ToksOk (t :: l) → l.length ≤ 200 → 3 * (l.length + 1) + 2 ≤ f → Hx pg 42 1 [.p 0 0, gi n] (ps (t :: l)) (okA (productP f n (t :: l)) (l.length + 1)) (erR (productP f n (t :: l)))
theorem Sub.eq {x y : GV} (h : x = y) : Sub x y := h ▸ Sub.rfl
theorem sv7 {a b x d y l r a' x' y' : GV} (ha : Sub a a') (hx : Sub x x') (hy : Sub y y') : SubV [a, b, x, d, y, l, r] [a', b, x', d, y', l, r] :=
  .cons ha (.cons Sub.rfl (.cons hx (.cons Sub.rfl (.cons hy (.cons Sub.rfl (.cons Sub.rfl .nil))))))
theorem one_hx (f : Nat) (ih : AskOk f) (n : Nat) (t : Tok) (l : List Tok) (hn : n ≤ 100) (hE : ToksOk (t :: l)) (hl : l.length ≤ 200) (hf : 3 * (l.length + 1) + 1 ≤ f + 1) : Hx pg 66 1 [.p 0 0, gi n] (ps (t :: l)) (okA (oneP (f + 1) n (t :: l)) (l.length + 1)) (erR (oneP (f + 1) n (t :: l))) := by
  refine okA_n ?_
  have hw : IntKind.i64.wrap ((n : Int) + 1) = ((n + 1 : Nat) : Int) := by rw [wrap_id (by omega) (by omega)]; rfl
  generalize hP : oneP (f + 1) n (t :: l) = P
  rw [oneP] at hP
  refine Hx.ofJ pg_ok Tryz.func66 rfl Tryz.ntmps66 rfl Tryz.results66 Tryz.call66 fun H0 S0 w0 h0 g0 => ?_
  refine V ?_
  by_cases h8 : 8 < n
  · rw [if_pos h8] at hP
    refine p1 ?_ (decide_eq_true (by omega))
    refine GOX (erR P) (fail_hx t l 4) (fun g hg => ⟨4, t.pos, by rw [← hP]; rfl, hg⟩) id rfl rfl ⟨rfl, trivial⟩ rfl (id_lt rfl) ?_
    exact fun _ _ _ h => h.elim
  rw [if_neg h8] at hP
  refine p2 ?_ (decide_eq_false (by omega))
  rcases tf (takesP (bS [45]) (t :: l)) with h1 | h1
  · rw [if_pos h1] at hP
    have hE2 := hE.tail (takesP_iff.1 h1).2
    refine GOH (takes_yes t l (bS [45]) h1) id rfl rfl ⟨rfl, trivial⟩ rfl (id_lt rfl) ?_
    rintro g σ' n' ⟨rfl, rfl, rfl⟩
    obtain ⟨t2, l2, rfl⟩ := hE2.cons
    have hl2 : l2.length + 1 ≤ 200 := hl
    refine GOX (erR P) (ih.one (n + 1) t2 l2 (by omega) hE2 (by omega) (by simp at hf; omega)) (fun g ⟨e, p, h2, h3⟩ => ⟨e, p, by rw [← hP, List.tail_cons, h2], h3⟩) id rfl (congrArg (fun x : Int => [GV.p 0 0, gi x]) hw) ⟨rfl, trivial⟩ rfl (id_lt rfl) ?_
    rintro g σ' n' ⟨q, l3, hq, hne, hE3, hl3, rfl, rfl, rfl⟩
    cases q with
    | nil => exact absurd rfl hne
    | mk c nn m sp ns ql qr =>
      refine VM 4 ?_
      show JK _ _ _ _
      refine JK.subBlk 1 [gi 12, gi 0, .sl 3 [], gi 0, .sl 1 [], qG (.mk c nn m sp ns ql qr), .v (.pointer none)] rfl (sv7 Sub.rfl (Sub.nil 3) (Sub.nil 1)) ?_
      refine JK.freezeB 1 rfl rfl ?_
      refine V ?_
      exact ⟨Nat.le_of_ble_eq_true rfl, .mk 12 0 [] 0 [] (.mk c nn m sp ns ql qr) .nil, l3, by rw [← hP, List.tail_cons, hq], by simp, hE3, Nat.lt_succ_of_lt hl3, rfl, rfl⟩
  rw [if_neg (Bool.eq_false_iff.1 h1)] at hP
  refine GOH (takes_no t l (bS [45]) h1) id rfl rfl ⟨rfl, trivial⟩ rfl (id_lt rfl) ?_
  rintro g σ' n' ⟨rfl, rfl, rfl⟩
  rcases tf (takesP (bS [40]) (t :: l)) with h1 | h1
  · rw [if_pos h1] at hP
    have hE2 := hE.tail (takesP_iff.1 h1).2
    refine GOH (takes_yes t l (bS [40]) h1) id rfl rfl ⟨rfl, trivial⟩ rfl (id_lt rfl) ?_
    rintro g σ' n' ⟨rfl, rfl, rfl⟩
    obtain ⟨t2, l2, rfl⟩ := hE2.cons
    have hl2 : l2.length + 1 ≤ 200 := hl
    refine GOX (erR P) (ih.sum (n + 1) t2 l2 (by omega) hE2 (by omega) (by simp at hf; omega)) (fun g ⟨e, p, h2, h3⟩ => ⟨e, p, by rw [← hP, List.tail_cons, h2], h3⟩) id rfl (congrArg (fun x : Int => [GV.p 0 0, gi x]) hw) ⟨rfl, trivial⟩ rfl (id_lt rfl) ?_
    rintro g σ' n' ⟨q, l3, hq, hne, hE3, hl3, rfl, rfl, rfl⟩
    rw [List.tail_cons, hq] at hP
    obtain ⟨t3, l3, rfl⟩ := hE3.cons
    cases q with
    | nil => exact absurd rfl hne
    | mk c nn m sp ns ql qr =>
      refine V ?_
      refine GOX (erR P) (must_hx t3 l3 (bS [41])) (fun g ⟨e, p, h2, h3⟩ => ⟨e, p, by rw [← hP]; simp only [h2], h3⟩) id rfl rfl ⟨rfl, trivial⟩ rfl (id_lt rfl) ?_
      rintro g σ' n' ⟨hmu, htk, rfl, rfl, rfl⟩
      refine V ?_
      have hl3' : l3.length + 1 < l2.length + 1 := hl3
      exact ⟨Nat.le_of_ble_eq_true rfl, .mk c nn m sp ns ql qr, l3, by rw [← hP]; simp only [hmu], hne, hE3.tail (takesP_iff.1 htk).2, by simp; omega, rfl, rfl⟩
  rw [if_neg (Bool.eq_false_iff.1 h1)] at hP
  refine GOH (takes_no t l (bS [40]) h1) id rfl rfl ⟨rfl, trivial⟩ rfl (id_lt rfl) ?_
  rintro g σ' n' ⟨rfl, rfl, rfl⟩
  refine ⟨tokR t, by decide, rfl, ?_⟩
  have ht := hE.each t List.mem_cons_self
  by_cases hk : t.kind = 2
  · rw [if_pos (show (hdT (t :: l)).kind = 2 from hk)] at hP
    refine p1 ?_ (by simp [hk])
    refine GOX (erR P) (number_hx t l 9223372036854775807 (by have := ht.2; omega) (fun hk => (num_tok ht.1 hk).1)) (fun g ⟨e, p, h2, h3⟩ => ⟨e, p, by rw [← hP, h2], h3⟩) id rfl rfl ⟨rfl, trivial⟩ rfl (id_lt rfl) ?_
    rintro g σ' n' ⟨hnu, _, rfl, rfl, rfl⟩
    refine VM 4 ?_
    show JK _ _ _ _
    refine JK.subBlk 1 [gi 1, gi (numT t.text), .sl 3 [], gi 0, .sl 1 [], .v (.pointer none), .v (.pointer none)] rfl (sv7 Sub.rfl (Sub.nil 3) (Sub.nil 1)) ?_
    refine JK.freezeB 1 rfl rfl ?_
    refine V ?_
    exact ⟨Nat.le_of_ble_eq_true rfl, .mk 1 (numT t.text) [] 0 [] .nil .nil, l, by rw [← hP, hnu], by simp, hE.tail (by omega), Nat.lt_succ_self _, rfl, rfl⟩
  rw [if_neg (show ¬ (hdT (t :: l)).kind = 2 from hk)] at hP
  refine p2 ?_ (by simp [hk])
  rcases tf (isP (bS [123]) (t :: l)) with h1 | h1
  · rw [if_pos h1] at hP
    refine GOH (is_b t l (bS [123]) h1) id rfl rfl ⟨rfl, trivial⟩ rfl (id_lt rfl) ?_
    rintro g σ' n' ⟨rfl, rfl, rfl⟩
    refine GOX (erR P) (matchers_hx t l hE (by omega)) (fun g ⟨e, p, h2, h3⟩ => ⟨e, p, by rw [← hP, h2], h3⟩) id rfl rfl ⟨rfl, trivial⟩ rfl (id_lt rfl) ?_
    rintro g σ' n' ⟨m, l2, hm, hE2, hl2, rfl, rfl, rfl⟩
    refine VM 4 ?_
    show JK _ _ _ _
    refine JK.subBlk 1 [gi 2, gi 0, .sl 3 (m.map mt), gi 300, .sl 1 [], .v (.pointer none), .v (.pointer none)] rfl (sv7 Sub.rfl Sub.rfl (Sub.nil 1)) ?_
    refine JK.freezeB 1 rfl rfl ?_
    refine V ?_
    exact ⟨Nat.le_of_ble_eq_true rfl, .mk 2 0 m 300 [] .nil .nil, l2, by rw [← hP, hm], by simp, hE2, hl2, rfl, rfl⟩
  rw [if_neg (Bool.eq_false_iff.1 h1)] at hP
  refine GOJ (is_b t l (bS [123]) h1) id rfl rfl ⟨rfl, trivial⟩ rfl (id_lt rfl) ?_
  rintro g σ' n' ⟨rfl, rfl, rfl⟩
  refine VM 6 ?_
  refine SLA (oversL.map .string) rfl rfl rfl rfl rfl rfl rfl rfl rfl rfl rfl ?_
  cases hfi : oversL.findIdx? fun s => isP s (t :: l) with
  | some j =>
    simp only [hfi] at hP
    have hj : j < 5 := (List.findIdx?_eq_some_iff_getElem.1 hfi).1
    refine V ?_
    refine GOH ((idxIs_hf oversL (by decide) t l).imp (Q' := fun g σ n => g = gi j ∧ σ = ps (t :: l) ∧ n = 1) fun g σ n ⟨e, r⟩ => ⟨by rw [e, hfi], r⟩) id rfl rfl ⟨rfl, trivial⟩ rfl (id_lt rfl) ?_
    rintro g σ' n' ⟨rfl, rfl, rfl⟩
    refine p1 ?_ (decide_eq_true (by omega))
    refine ⟨by omega, by omega, ?_⟩
    refine ons_mk (g := gs (oversL.getD j ⟨#[]⟩)) ?_ ?_
    · match j, hj with
      | 0, _ => rfl
      | 1, _ => rfl
      | 2, _ => rfl
      | 3, _ => rfl
      | 4, _ => rfl
    refine GOX (erR P) (must_hx t l (oversL.getD j ⟨#[]⟩)) (fun g ⟨e, p, h2, h3⟩ => ⟨e, p, by rw [← hP, h2], h3⟩) id rfl rfl ⟨rfl, trivial⟩ rfl (id_lt rfl) ?_
    rintro g σ' n' ⟨hmu, htk, rfl, rfl, rfl⟩
    have hE2 := hE.tail (takesP_iff.1 htk).2
    simp only [hmu] at hP
    obtain ⟨t2, l2, rfl⟩ := hE2.cons
    simp only [List.length_cons] at hl hf
    refine V ?_
    refine GOX (erR P) (must_hx t2 l2 (bS [40])) (fun g ⟨e, p, h2, h3⟩ => ⟨e, p, by rw [← hP, h2], h3⟩) id rfl rfl ⟨rfl, trivial⟩ rfl (id_lt rfl) ?_
    rintro g σ' n' ⟨hmu2, htk2, rfl, rfl, rfl⟩
    have hE3 := hE2.tail (takesP_iff.1 htk2).2
    simp only [hmu2] at hP
    obtain ⟨t3, l3, rfl⟩ := hE3.cons
    simp only [List.length_cons] at hl hf
    refine V ?_
    refine GOX (erR P) (matchers_hx t3 l3 hE3 (by omega)) (fun g ⟨e, p, h2, h3⟩ => ⟨e, p, by rw [← hP, h2], h3⟩) id rfl rfl ⟨rfl, trivial⟩ rfl (id_lt rfl) ?_
    rintro g σ' n' ⟨m, l4, hm, hE4, hl4, rfl, rfl, rfl⟩
    simp only [hm] at hP
    obtain ⟨t4, l4, rfl⟩ := hE4.cons
    simp only [List.length_cons] at hl4
    refine V ?_
    refine GOX (erR P) (must_hx t4 l4 (bS [91])) (fun g ⟨e, p, h2, h3⟩ => ⟨e, p, by rw [← hP, h2], h3⟩) id rfl rfl ⟨rfl, trivial⟩ rfl (id_lt rfl) ?_
    rintro g σ' n' ⟨hmu4, htk4, rfl, rfl, rfl⟩
    have hE5 := hE4.tail (takesP_iff.1 htk4).2
    simp only [hmu4] at hP
    obtain ⟨t5, l5, rfl⟩ := hE5.cons
    simp only [List.length_cons] at hl4
    have ht5 := hE5.each t5 List.mem_cons_self
    refine V ?_
    refine GOX (erR P) (number_hx t5 l5 1099511627776 (by have := ht5.2; omega) (fun hk => (num_tok ht5.1 hk).1)) (fun g ⟨e, p, h2, h3⟩ => ⟨e, p, by rw [← hP, h2], h3⟩) id rfl rfl ⟨rfl, trivial⟩ rfl (id_lt rfl) ?_
    rintro g σ' n' ⟨hnu, hk5, rfl, rfl, rfl⟩
    have hE6 := hE5.tail (by omega)
    simp only [hnu] at hP
    obtain ⟨t6, l6, rfl⟩ := hE6.cons
    simp only [List.length_cons] at hl4
    refine VM 4 ?_
    have hwj : gi (3 + (j : Int)) = gi (IntKind.i64.wrap (3 + (j : Int))) := by rw [wrap_id (by omega) (by omega)]
    refine JK.cut (α := Unit) (fun _ => ⟨[(0, .p 0 0), (7, .p 1 0)], [(0, .blk 61 [tks (t6 :: l6)]), (1, .blk 68 [gi (IntKind.i64.wrap (3 + (j : Int))), gi 0, .sl 3 (m.map mt), gi (if numT t5.text < 1 then 1 else numT t5.text), .v (.slice none 0 0), .v (.pointer none), .v (.pointer none)])], 2⟩) (fun _ => True) ?_ ?_
    · refine V ?_
      by_cases h1 : numT t5.text < 1
      · refine p1 ?_ (decide_eq_true h1)
        exact ⟨(), id, ⟨⟨rfl, rfl, trivial⟩, ⟨rfl, by rw [if_pos h1]; rfl, trivial⟩, rfl⟩, trivial⟩
      · refine p2 ?_ (decide_eq_false h1)
        exact ⟨(), id, ⟨⟨rfl, rfl, trivial⟩, ⟨rfl, by rw [if_neg h1]; rfl, trivial⟩, rfl⟩, trivial⟩
    rintro _ _
    refine JK.subBlk 1 [gi (3 + (j : Int)), gi 0, .sl 3 (m.map mt), gi (if numT t5.text < 1 then 1 else numT t5.text), .sl 1 [], .v (.pointer none), .v (.pointer none)] rfl (sv7 (Sub.eq hwj) Sub.rfl (Sub.nil 1)) ?_
    refine JK.freezeB 1 rfl rfl ?_
    refine V ?_
    refine GOX (erR P) (must_hx t6 l6 (bS [93])) (fun g ⟨e, p, h2, h3⟩ => ⟨e, p, by rw [← hP, h2], h3⟩) id rfl rfl ⟨rfl, trivial⟩ rfl (id_lt rfl) ?_
    rintro g σ' n' ⟨hmu6, htk6, rfl, rfl, rfl⟩
    have hE7 := hE6.tail (takesP_iff.1 htk6).2
    simp only [hmu6] at hP
    obtain ⟨t7, l7, rfl⟩ := hE7.cons
    simp only [List.length_cons] at hl4
    refine V ?_
    refine GOX (erR P) (must_hx t7 l7 (bS [41])) (fun g ⟨e, p, h2, h3⟩ => ⟨e, p, by rw [← hP, h2], h3⟩) id rfl rfl ⟨rfl, trivial⟩ rfl (id_lt rfl) ?_
    rintro g σ' n' ⟨hmu7, htk7, rfl, rfl, rfl⟩
    have hE8 := hE7.tail (takesP_iff.1 htk7).2
    simp only [hmu7] at hP
    refine V ?_
    exact ⟨Nat.le_of_ble_eq_true rfl, .mk (3 + j) 0 m (if numT t5.text < 1 then 1 else numT t5.text) [] .nil .nil, l7, hP.symm, by simp, hE8, by simp; omega, rfl, rfl⟩
  | none =>
    simp only [hfi] at hP
    refine VM 2 ?_
    refine GOJ ((idxIs_hf oversL (by decide) t l).imp (Q' := fun g σ n => g = gi (-1) ∧ σ = ps (t :: l) ∧ n = 1) fun g σ n ⟨e, r⟩ => ⟨by rw [e, hfi], r⟩) id rfl rfl ⟨rfl, trivial⟩ rfl (id_lt rfl) ?_
    rintro g σ' n' ⟨rfl, rfl, rfl⟩
    refine VM 11 ?_
    refine p2 ?_
    show JK _ _ _ _
    refine SLA (allsL.map .string) rfl rfl rfl rfl rfl rfl rfl rfl rfl rfl rfl ?_
    refine V ?_
    cases hfi : allsL.findIdx? fun s => isP s (t :: l) with
    | none =>
      simp only [hfi] at hP
      refine GOH ((idxIs_hf allsL (by decide) t l).imp (Q' := fun g σ n => g = gi (-1) ∧ σ = ps (t :: l) ∧ n = 1) fun g σ n ⟨e, r⟩ => ⟨by rw [e, hfi], r⟩) id rfl rfl ⟨rfl, trivial⟩ rfl (id_lt rfl) ?_
      rintro g σ' n' ⟨rfl, rfl, rfl⟩
      refine p1 ?_
      refine GOX (erR P) (fail_hx t l 3) (fun g hg => ⟨3, t.pos, by rw [← hP]; rfl, hg⟩) id rfl rfl ⟨rfl, trivial⟩ rfl (id_lt rfl) ?_
      exact fun _ _ _ h => h.elim
    | some j =>
      simp only [hfi] at hP
      have hj : j < 4 := (List.findIdx?_eq_some_iff_getElem.1 hfi).1
      refine GOH ((idxIs_hf allsL (by decide) t l).imp (Q' := fun g σ n => g = gi j ∧ σ = ps (t :: l) ∧ n = 1) fun g σ n ⟨e, r⟩ => ⟨by rw [e, hfi], r⟩) id rfl rfl ⟨rfl, trivial⟩ rfl (id_lt rfl) ?_
      rintro g σ' n' ⟨rfl, rfl, rfl⟩
      refine p2 ?_ (decide_eq_false (by omega))
      refine ⟨by omega, by omega, ?_⟩
      refine ons_mk (g := gs (allsL.getD j ⟨#[]⟩)) ?_ ?_
      · match j, hj with
        | 0, _ => rfl
        | 1, _ => rfl
        | 2, _ => rfl
        | 3, _ => rfl
      refine GOX (erR P) (must_hx t l (allsL.getD j ⟨#[]⟩)) (fun g ⟨e, p, h2, h3⟩ => ⟨e, p, by rw [← hP, h2], h3⟩) id rfl rfl ⟨rfl, trivial⟩ rfl (id_lt rfl) ?_
      rintro g σ' n' ⟨hmu, htk, rfl, rfl, rfl⟩
      have hE2 := hE.tail (takesP_iff.1 htk).2
      simp only [hmu] at hP
      obtain ⟨t2, l2, rfl⟩ := hE2.cons
      simp only [List.length_cons] at hl hf
      refine V ?_
      refine GOX (erR P) (must_hx t2 l2 (bS [40])) (fun g ⟨e, p, h2, h3⟩ => ⟨e, p, by rw [← hP, h2], h3⟩) id rfl rfl ⟨rfl, trivial⟩ rfl (id_lt rfl) ?_
      rintro g σ' n' ⟨hmu2, htk2, rfl, rfl, rfl⟩
      have hE3 := hE2.tail (takesP_iff.1 htk2).2
      simp only [hmu2] at hP
      obtain ⟨t3, l3, rfl⟩ := hE3.cons
      simp only [List.length_cons] at hl hf
      refine V ?_
      refine GOX (erR P) (ih.sum (n + 1) t3 l3 (by omega) hE3 (by omega) (by omega)) (fun g ⟨e, p, h2, h3⟩ => ⟨e, p, by rw [← hP, h2], h3⟩) id rfl (congrArg (fun x : Int => [GV.p 0 0, gi x]) hw) ⟨rfl, trivial⟩ rfl (id_lt rfl) ?_
      rintro g σ' n' ⟨q, l4, hq, hne, hE4, hl4, rfl, rfl, rfl⟩
      simp only [hq] at hP
      obtain ⟨t4, l4, rfl⟩ := hE4.cons
      simp only [List.length_cons] at hl4
      cases q with
      | nil => exact absurd rfl hne
      | mk c nn m sp ns ql qr =>
      refine VM 4 ?_
      show JK _ _ _ _
      have hwj : gi (8 + (j : Int)) = gi (IntKind.i64.wrap (8 + (j : Int))) := by rw [wrap_id (by omega) (by omega)]
      refine JK.subBlk 1 [gi (8 + (j : Int)), gi 0, .sl 3 [], gi 0, .v (.slice none 0 0), .r [gi c, gi nn, .sl 3 (m.map mt), gi sp, .sl 1 (ns.map fun s => [gs s]), qG ql, qG qr], .v (.pointer none)] rfl (sv7 (Sub.eq hwj) (Sub.nil 3) Sub.rfl) ?_
      refine V ?_
      refine GOX (erR P) (must_hx t4 l4 (bS [41])) (fun g ⟨e, p, h2, h3⟩ => ⟨e, p, by rw [← hP, h2], h3⟩) id rfl rfl ⟨rfl, trivial⟩ rfl (id_lt rfl) ?_
      rintro g σ' n' ⟨hmu4, htk4, rfl, rfl, rfl⟩
      have hE5 := hE4.tail (takesP_iff.1 htk4).2
      simp only [hmu4] at hP
      obtain ⟨t5, l5, rfl⟩ := hE5.cons
      simp only [List.length_cons] at hl4
      refine V ?_
      rcases tf (takesP (bS [98, 121]) (t5 :: l5)) with hby | hby
      · rw [if_pos hby, List.tail_cons] at hP
        have hE6 := hE5.tail (takesP_iff.1 hby).2
        obtain ⟨t6, l6, rfl⟩ := hE6.cons
        refine GOH (takes_yes t5 _ (bS [98, 121]) hby) id rfl rfl ⟨rfl, trivial⟩ rfl (id_lt rfl) ?_
        rintro g σ' n' ⟨rfl, rfl, rfl⟩
        refine GOX (erR P) (must_hx t6 l6 (bS [40])) (fun g ⟨e, p, h2, h3⟩ => ⟨e, p, by rw [← hP, h2], h3⟩) id rfl rfl ⟨rfl, trivial⟩ rfl (id_lt rfl) ?_
        rintro g σ' n' ⟨hmu6, htk6, rfl, rfl, rfl⟩
        have hE7 := hE6.tail (takesP_iff.1 htk6).2
        simp only [hmu6] at hP
        obtain ⟨t7, l7, rfl⟩ := hE7.cons
        simp only [List.length_cons] at hl4
        refine V ?_
        show JK _ _ _ _
        generalize hR : namesL ((t7 :: l7).length + 1) [] (t7 :: l7) = R at hP
        refine JK.ownNilB 1 4 9 1 rfl rfl ?_
        refine JK.loopE (α := Bool × List ByteArray × Tok × List Tok × Nat) (β := List ByteArray × Tok × List Tok) (fun x => ⟨[(0, .p 0 0), (9, .p 1 0), (10, .v (.bool x.1))], [(0, .blk 61 [tks (x.2.2.1 :: x.2.2.2.1)]), (1, .blk 68 [gi (8 + (j : Int)), gi 0, .sl 3 [], gi 0, .o 2, .r [gi c, gi nn, .sl 3 (m.map mt), gi sp, .sl 1 (ns.map fun s => [gs s]), qG ql, qG qr], .v (.pointer none)]), (2, .row 9 1 (x.2.1.map fun s => [gs s]))], 3⟩)
          (fun x => (if x.1 = true then x.2.1 = [] ∧ namesL x.2.2.2.2 [] (x.2.2.1 :: x.2.2.2.1) = R else (if takesP (bS [44]) (x.2.2.1 :: x.2.2.2.1) = true then namesL x.2.2.2.2 x.2.1 x.2.2.2.1 else .ok (x.2.1, x.2.2.1 :: x.2.2.2.1)) = R) ∧ ToksOk (x.2.2.1 :: x.2.2.2.1) ∧ x.2.2.2.1.length < x.2.2.2.2 ∧ x.2.1.length ≤ 8 ∧ x.2.2.2.1.length ≤ l7.length) (fun x => x.2.2.2.1.length)
          (fun y => ⟨[(0, .p 0 0), (9, .p 1 0)], [(0, .blk 61 [tks (y.2.1 :: y.2.2)]), (1, .blk 68 [gi (8 + (j : Int)), gi 0, .sl 3 [], gi 0, .o 2, .r [gi c, gi nn, .sl 3 (m.map mt), gi sp, .sl 1 (ns.map fun s => [gs s]), qG ql, qG qr], .v (.pointer none)]), (2, .row 9 1 (y.1.map fun s => [gs s]))], 3⟩) (fun y => R = .ok (y.1, y.2.1 :: y.2.2) ∧ ToksOk (y.2.1 :: y.2.2) ∧ y.2.2.length ≤ l7.length) (true, [], t7, l7, (t7 :: l7).length + 1) id ?_ ?_ ?_ ?_
        · exact ⟨⟨rfl, rfl, rfl, trivial⟩, ⟨rfl, rfl, rfl, trivial⟩, rfl⟩
        · exact ⟨⟨rfl, hR⟩, hE7, by simp; omega, by simp, Nat.le_refl _⟩
        · rintro ⟨b, acc, t8, l8, f8⟩ ⟨hb, hE8, hf8, h8c, hl8⟩
          replace hE8 : ToksOk (t8 :: l8) := hE8
          replace hf8 : l8.length < f8 := hf8
          replace h8c : acc.length ≤ 8 := h8c
          replace hl8 : l8.length ≤ l7.length := hl8
          refine VM 1 ?_
          refine JK.cut (α := Tok × List Tok × Nat) (fun x => ⟨[(0, .p 0 0), (9, .p 1 0)], [(0, .blk 61 [tks (x.1 :: x.2.1)]), (1, .blk 68 [gi (8 + (j : Int)), gi 0, .sl 3 [], gi 0, .o 2, .r [gi c, gi nn, .sl 3 (m.map mt), gi sp, .sl 1 (ns.map fun s => [gs s]), qG ql, qG qr], .v (.pointer none)]), (2, .row 9 1 (acc.map fun s => [gs s]))], 3⟩) (fun x => namesL (x.2.2 + 1) acc (x.1 :: x.2.1) = R ∧ ToksOk (x.1 :: x.2.1) ∧ x.2.1.length < x.2.2 + 1 ∧ x.2.1.length ≤ l8.length) ?_ ?_
          · obtain ⟨f8, rfl⟩ : ∃ f, f8 = f + 1 := ⟨f8 - 1, by omega⟩
            cases b with
            | true =>
              obtain ⟨hacc, hb⟩ := hb
              replace hacc : acc = [] := hacc
              replace hb : namesL (f8 + 1) [] (t8 :: l8) = R := hb
              refine V ?_
              exact ⟨(t8, l8, f8), id, ⟨⟨rfl, rfl, trivial⟩, ⟨rfl, rfl, rfl, trivial⟩, rfl⟩, by rw [hacc]; exact hb, hE8, hf8, Nat.le_refl _⟩
            | false =>
              replace hb : (if takesP (bS [44]) (t8 :: l8) = true then namesL (f8 + 1) acc l8 else .ok (acc, t8 :: l8)) = R := hb
              refine V ?_
              rcases tf (takesP (bS [44]) (t8 :: l8)) with hc | hc
              · rw [if_pos hc] at hb
                have hE9 := hE8.tail (takesP_iff.1 hc).2
                obtain ⟨t9, l9, rfl⟩ := hE9.cons
                refine GOH (takes_yes t8 _ (bS [44]) hc) id rfl rfl ⟨rfl, trivial⟩ rfl (id_lt rfl) ?_
                rintro g σ' n' ⟨rfl, rfl, rfl⟩
                exact ⟨(t9, l9, f8), id, ⟨⟨rfl, rfl, trivial⟩, ⟨rfl, rfl, rfl, trivial⟩, rfl⟩, hb, hE9, by simp at hf8 ⊢; omega, by simp⟩
              · rw [if_neg (Bool.eq_false_iff.1 hc)] at hb
                refine GOH (takes_no t8 l8 (bS [44]) hc) id rfl rfl ⟨rfl, trivial⟩ rfl (id_lt rfl) ?_
                rintro g σ' n' ⟨rfl, rfl, rfl⟩
                exact ⟨(acc, t8, l8), id, ⟨⟨rfl, rfl, trivial⟩, ⟨rfl, rfl, rfl, trivial⟩, rfl⟩, hb.symm, hE8, hl8⟩
          rintro ⟨t9, l9, f9⟩ ⟨hR9, hE9, hf9, hl9⟩
          replace hE9 : ToksOk (t9 :: l9) := hE9
          replace hf9 : l9.length < f9 + 1 := hf9
          replace hl9 : l9.length ≤ l8.length := hl9
          replace hR9 : namesL (f9 + 1) acc (t9 :: l9) = R := hR9
          rw [namesL] at hR9
          refine V ?_
          by_cases h8' : 8 ≤ acc.length
          · rw [if_pos h8'] at hR9
            refine p1 ?_ (decide_eq_true (by simp; omega))
            refine GOX (erR P) (fail_hx t9 l9 4) (fun g hg => ⟨4, t9.pos, by rw [← hP, ← hR9]; rfl, hg⟩) id rfl rfl ⟨rfl, trivial⟩ rfl (id_lt rfl) ?_
            exact fun _ _ _ h => h.elim
          rw [if_neg h8'] at hR9
          refine p2 ?_ (decide_eq_false (by simp; omega))
          show JK _ _ _ _
          cases hnp : nameP (t9 :: l9) with
          | error ee =>
            obtain ⟨e1, p1⟩ := ee
            simp only [hnp] at hR9
            refine DRAWX [0] false (tk [0, 1, 2, 3, 4, 5]) (by kernel_rfl) ?_
            refine RGOX (erR P) 6 false [] (name_hx t9 l9) (fun g ⟨e, p, h2, h3⟩ => ⟨e, p, by rw [hnp] at h2; rw [← hP, ← hR9]; exact congrArg _ (Except.error.inj h2), h3⟩) id rfl rfl rfl ⟨rfl, trivial⟩ rfl (id_lt rfl) (by kernel_rfl) ?_
            rintro g σ' n' ⟨h2, _⟩
            rw [hnp] at h2
            cases h2
          | ok rr =>
            have hH : Hf pg 56 1 [.p 0 0] (ps (t9 :: l9)) (fun g σ n => nameP (t9 :: l9) = .ok (t9.text, l9) ∧ t9.kind = 1 ∧ g = gs t9.text ∧ σ = ps l9 ∧ n = 1) :=
              ((name_hx t9 l9).imp (R' := fun _ => False) (fun g ⟨e, p, h, _⟩ => by rw [hnp] at h; cases h) (fun _ _ _ h => h)).hf
            have hn0 : rr = (t9.text, l9) ∧ t9.kind = 1 := nameP_is hnp
            obtain ⟨rfl, hk9⟩ := hn0
            have hE10 := hE9.tail (by omega)
            obtain ⟨t10, l10, rfl⟩ := hE10.cons
            simp only [hnp] at hR9
            simp only [List.length_cons] at hf9 hl9
            have hx1 : l10.length < f9 := by omega
            have hx2 : (acc ++ [t9.text]).length ≤ 8 := by simp; omega
            have hx3 : l10.length ≤ l7.length := by omega
            have hx4 : l10.length < l8.length := by omega
            refine DRAWX [0, 1, 2] false (tk [0, 1, 2, 3, 5]) (by kernel_rfl) ?_
            refine RA.both 4 6 (eqB_eq (by kernel_rfl)) (Stp.read 4 pg_ok rfl rfl ?_) (Stp.hf 6 hH id rfl rfl rfl ⟨rfl, trivial⟩ rfl (id_lt rfl) ?_)
            · refine RGOX (erR P) 6 true (al [7, 8] ++ tk [9, 10] ++ al [11]) hH.x (R := fun _ => False) (fun g h => h.elim) id rfl rfl rfl ⟨rfl, trivial⟩ rfl (id_lt rfl) (by kernel_rfl) ?_
              rintro g σ' n' ⟨hn1, hn2, rfl, rfl, rfl⟩
              refine ⟨by simp; omega, ?_⟩
              refine V ?_
              exact ⟨(false, acc ++ [t9.text], t10, l10, f9), fun i => bif Nat.beq i 2 then 4 else i, ⟨⟨rfl, rfl, rfl, trivial⟩, ⟨rfl, rfl, congrArg (fun x => some (Res.row 9 1 x)) (List.map_append (l₁ := acc) (l₂ := [t9.text])).symm, trivial⟩, rfl⟩, ⟨hR9, hE10, hx1, hx2, hx3⟩, hx4⟩
            · rintro g σ' n' ⟨hn1, hn2, rfl, rfl, rfl⟩
              refine RA.both 4 7 (eqB_eq (by kernel_rfl)) (Stp.read 4 pg_ok rfl rfl ?_) (Stp.mem 7 pg_ok rfl rfl rfl ?_)
              · refine RA.runX (cx := ⟨pg, _, _, _, _, _, _, _⟩) pg_ok (by kernel_rfl) (fun _ _ _ _ h => h) (al [7, 8] ++ tk [9, 10] ++ al [11]) (e := true) (by kernel_rfl) ?_
                refine ⟨by simp; omega, ?_⟩
                refine V ?_
                exact ⟨(false, acc ++ [t9.text], t10, l10, f9), fun i => bif Nat.beq i 2 then 4 else i, ⟨⟨rfl, rfl, rfl, trivial⟩, ⟨rfl, rfl, congrArg (fun x => some (Res.row 9 1 x)) (List.map_append (l₁ := acc) (l₂ := [t9.text])).symm, trivial⟩, rfl⟩, ⟨hR9, hE10, hx1, hx2, hx3⟩, hx4⟩
              · refine RA.runX (cx := ⟨pg, _, _, _, _, _, _, _⟩) pg_ok (by kernel_rfl) (fun _ _ _ _ h => h) (al [4, 8] ++ tk [9, 10] ++ al [11]) (e := true) (by kernel_rfl) ?_
                refine ⟨by simp; omega, ?_⟩
                refine V ?_
                exact ⟨(false, acc ++ [t9.text], t10, l10, f9), fun i => bif Nat.beq i 2 then 4 else i, ⟨⟨rfl, rfl, rfl, trivial⟩, ⟨rfl, rfl, congrArg (fun x => some (Res.row 9 1 x)) (List.map_append (l₁ := acc) (l₂ := [t9.text])).symm, trivial⟩, rfl⟩, ⟨hR9, hE10, hx1, hx2, hx3⟩, hx4⟩
        · rintro ⟨acc, t8, l8⟩ ⟨hq2, hE8, hl8⟩
          replace hE8 : ToksOk (t8 :: l8) := hE8
          replace hl8 : l8.length ≤ l7.length := hl8
          replace hq2 : R = .ok (acc, t8 :: l8) := hq2
          simp only [hq2] at hP
          refine FRZ 2 rfl ?_
          show JK _ _ _ _
          refine JK.freezeB 1 rfl rfl ?_
          refine V ?_
          refine GOX (erR P) (must_hx t8 l8 (bS [41])) (fun g ⟨e, p, h2, h3⟩ => ⟨e, p, by rw [← hP, h2], h3⟩) id rfl rfl ⟨rfl, trivial⟩ rfl (id_lt rfl) ?_
          rintro g σ' n' ⟨hmu8, htk8, rfl, rfl, rfl⟩
          simp only [hmu8] at hP
          refine V ?_
          exact ⟨Nat.le_of_ble_eq_true rfl, .mk (8 + j) 0 [] 0 acc (.mk c nn m sp ns ql qr) .nil, l8, hP.symm, by simp, hE8.tail (takesP_iff.1 htk8).2, by simp; omega, rfl, rfl⟩
      · rw [if_neg (Bool.eq_false_iff.1 hby)] at hP
        refine GOJ (takes_no t5 l5 (bS [98, 121]) hby) id rfl rfl ⟨rfl, trivial⟩ rfl (id_lt rfl) ?_
        rintro g σ' n' ⟨rfl, rfl, rfl⟩
        refine JK.subBlk 1 [gi (8 + (j : Int)), gi 0, .sl 3 [], gi 0, .sl 1 [], .r [gi c, gi nn, .sl 3 (m.map mt), gi sp, .sl 1 (ns.map fun s => [gs s]), qG ql, qG qr], .v (.pointer none)] rfl (sv7 Sub.rfl Sub.rfl (Sub.nil 1)) ?_
        refine JK.freezeB 1 rfl rfl ?_
        refine V ?_
        exact ⟨Nat.le_of_ble_eq_true rfl, .mk (8 + j) 0 [] 0 [] (.mk c nn m sp ns ql qr) .nil, t5 :: l5, hP.symm, by simp, hE5, by simp; omega, rfl, rfl⟩
end Go.Proofs.YtihakhdinkkdmaaGreatDoor
/-
  Contracts: questions: products and sums; the three of them together. (Printed by gen/gen_ap.py.)
-/
namespace Go.Proofs.YtihakhdinkkdmaaGreatDoor
open Go.GK Go.RowKit Go.PL
set_option maxRecDepth 100000
theorem product_hx (f : Nat) (ih : ∀ f', f' < f + 1 → AskOk f') (n : Nat) (t0 : Tok) (l0 : List Tok) (hn : n ≤ 100) (hE0 : ToksOk (t0 :: l0)) (hl0 : l0.length ≤ 200) (hf : 3 * (l0.length + 1) + 2 ≤ f + 1) : Hx pg 42 1 [.p 0 0, gi n] (ps (t0 :: l0)) (okA (productP (f + 1) n (t0 :: l0)) (l0.length + 1)) (erR (productP (f + 1) n (t0 :: l0))) := by
  refine okA_n ?_
  generalize hP : productP (f + 1) n (t0 :: l0) = P
  rw [productP] at hP
  refine Hx.ofJ pg_ok Tryz.func42 rfl Tryz.ntmps42 rfl Tryz.results42 Tryz.call42 fun H0 S0 w0 h0 g0 => ?_
  refine V ?_
  refine GOX (erR P) ((ih f (Nat.lt_succ_self f)).one n t0 l0 hn hE0 hl0 (by omega)) (fun g ⟨e, p, h2, h3⟩ => ⟨e, p, by rw [← hP, h2], h3⟩) id rfl rfl ⟨rfl, trivial⟩ rfl (id_lt rfl) ?_
  rintro g σ' n' ⟨q, l1, hq, hne, hE1, hl1, rfl, rfl, rfl⟩
  simp only [hq] at hP
  obtain ⟨t1, l1, rfl⟩ := hE1.cons
  simp only [List.length_cons] at hl1
  cases q with
  | nil => exact absurd rfl hne
  | mk c nn m sp ns ql qr =>
  refine V ?_
  show JK _ _ _ _
  refine JK.loop (α := Qn × Tok × List Tok × Nat) (fun x => ⟨[(0, .p 0 0), (1, gi n), (5, qG x.1)], [(0, .blk 61 [tks (x.2.1 :: x.2.2.1)])], 1⟩) (fun x => x.1 ≠ .nil ∧ ToksOk (x.2.1 :: x.2.2.1) ∧ 3 * (x.2.2.1.length + 1) + 2 ≤ x.2.2.2 ∧ x.2.2.2 ≤ f ∧ x.2.2.1.length < l0.length ∧ productL x.2.2.2 n x.1 (x.2.1 :: x.2.2.1) = P) (fun x => x.2.2.1.length) (.mk c nn m sp ns ql qr, t1, l1, f) id ?_ ?_ ?_
  · exact ⟨⟨rfl, rfl, rfl, trivial⟩, ⟨rfl, trivial⟩, rfl⟩
  · exact ⟨by simp, hE1, by show 3 * (l1.length + 1) + 2 ≤ f; omega, Nat.le_refl _, by show l1.length < l0.length; omega, hP⟩
  rintro ⟨q, t, l, f2⟩ ⟨hne, hE, hf2, hff, hl, hR⟩
  replace hne : q ≠ .nil := hne
  replace hE : ToksOk (t :: l) := hE
  replace hf2 : 3 * (l.length + 1) + 2 ≤ f2 := hf2
  replace hff : f2 ≤ f := hff
  replace hl : l.length < l0.length := hl
  replace hR : productL f2 n q (t :: l) = P := hR
  obtain ⟨f2, rfl⟩ : ∃ k, f2 = k + 1 := ⟨f2 - 1, by omega⟩
  rw [productL] at hR
  cases q with
  | nil => exact absurd rfl hne
  | mk c nn m sp ns ql qr =>
  refine V ?_
  rcases tf (takesP (bS [42]) (t :: l)) with h1 | h1
  · rw [if_pos h1] at hR
    have hE2 := hE.tail (takesP_iff.1 h1).2
    obtain ⟨t2, l2, rfl⟩ := hE2.cons
    rw [List.tail_cons] at hR
    simp only [List.length_cons] at hf2 hl
    refine GOH (takes_yes t _ (bS [42]) h1) id rfl rfl ⟨rfl, trivial⟩ rfl (id_lt rfl) ?_
    rintro g σ' n' ⟨rfl, rfl, rfl⟩
    refine GOX (erR P) ((ih f2 (by omega)).one n t2 l2 hn hE2 (by omega) (by omega)) (fun g ⟨e, p, h2, h3⟩ => ⟨e, p, by rw [← hR, h2], h3⟩) id rfl rfl ⟨rfl, trivial⟩ rfl (id_lt rfl) ?_
    rintro g σ' n' ⟨q2, l3, hq2, hne2, hE3, hl3, rfl, rfl, rfl⟩
    simp only [hq2] at hR
    obtain ⟨t3, l3, rfl⟩ := hE3.cons
    simp only [List.length_cons] at hl3
    cases q2 with
    | nil => exact absurd rfl hne2
    | mk c2 nn2 m2 sp2 ns2 ql2 qr2 =>
    refine VM 3 ?_
    show JK _ _ _ _
    refine JK.subBlk 1 [gi 15, gi 0, .sl 3 [], gi 0, .sl 1 [], .r [gi c, gi nn, .sl 3 (m.map mt), gi sp, .sl 1 (ns.map fun s => [gs s]), qG ql, qG qr], .r [gi c2, gi nn2, .sl 3 (m2.map mt), gi sp2, .sl 1 (ns2.map fun s => [gs s]), qG ql2, qG qr2]] rfl (sv7 Sub.rfl (Sub.nil 3) (Sub.nil 1)) ?_
    refine JK.freezeB 1 rfl rfl ?_
    refine V ?_
    exact ⟨(.mk 15 0 [] 0 [] (.mk c nn m sp ns ql qr) (.mk c2 nn2 m2 sp2 ns2 ql2 qr2), t3, l3, f2), id, ⟨⟨rfl, rfl, rfl, trivial⟩, ⟨rfl, trivial⟩, rfl⟩, ⟨by simp, hE3, by show 3 * (l3.length + 1) + 2 ≤ f2; omega, by show f2 ≤ f; omega, by show l3.length < l0.length; omega, hR⟩, by show l3.length < l2.length + 1; omega⟩
  rw [if_neg (Bool.eq_false_iff.1 h1)] at hR
  refine GOH (takes_no t l (bS [42]) h1) id rfl rfl ⟨rfl, trivial⟩ rfl (id_lt rfl) ?_
  rintro g σ' n' ⟨rfl, rfl, rfl⟩
  rcases tf (takesP (bS [47]) (t :: l)) with h1 | h1
  · rw [if_pos h1] at hR
    have hE2 := hE.tail (takesP_iff.1 h1).2
    obtain ⟨t2, l2, rfl⟩ := hE2.cons
    rw [List.tail_cons] at hR
    simp only [List.length_cons] at hf2 hl
    refine GOH (takes_yes t _ (bS [47]) h1) id rfl rfl ⟨rfl, trivial⟩ rfl (id_lt rfl) ?_
    rintro g σ' n' ⟨rfl, rfl, rfl⟩
    refine GOX (erR P) ((ih f2 (by omega)).one n t2 l2 hn hE2 (by omega) (by omega)) (fun g ⟨e, p, h2, h3⟩ => ⟨e, p, by rw [← hR, h2], h3⟩) id rfl rfl ⟨rfl, trivial⟩ rfl (id_lt rfl) ?_
    rintro g σ' n' ⟨q2, l3, hq2, hne2, hE3, hl3, rfl, rfl, rfl⟩
    simp only [hq2] at hR
    obtain ⟨t3, l3, rfl⟩ := hE3.cons
    simp only [List.length_cons] at hl3
    cases q2 with
    | nil => exact absurd rfl hne2
    | mk c2 nn2 m2 sp2 ns2 ql2 qr2 =>
    refine VM 3 ?_
    show JK _ _ _ _
    refine JK.subBlk 1 [gi 16, gi 0, .sl 3 [], gi 0, .sl 1 [], .r [gi c, gi nn, .sl 3 (m.map mt), gi sp, .sl 1 (ns.map fun s => [gs s]), qG ql, qG qr], .r [gi c2, gi nn2, .sl 3 (m2.map mt), gi sp2, .sl 1 (ns2.map fun s => [gs s]), qG ql2, qG qr2]] rfl (sv7 Sub.rfl (Sub.nil 3) (Sub.nil 1)) ?_
    refine JK.freezeB 1 rfl rfl ?_
    refine V ?_
    exact ⟨(.mk 16 0 [] 0 [] (.mk c nn m sp ns ql qr) (.mk c2 nn2 m2 sp2 ns2 ql2 qr2), t3, l3, f2), id, ⟨⟨rfl, rfl, rfl, trivial⟩, ⟨rfl, trivial⟩, rfl⟩, ⟨by simp, hE3, by show 3 * (l3.length + 1) + 2 ≤ f2; omega, by show f2 ≤ f; omega, by show l3.length < l0.length; omega, hR⟩, by show l3.length < l2.length + 1; omega⟩
  rw [if_neg (Bool.eq_false_iff.1 h1)] at hR
  refine GOH (takes_no t l (bS [47]) h1) id rfl rfl ⟨rfl, trivial⟩ rfl (id_lt rfl) ?_
  rintro g σ' n' ⟨rfl, rfl, rfl⟩
  exact ⟨Nat.le_of_ble_eq_true rfl, .mk c nn m sp ns ql qr, t :: l, hR.symm, hne, hE, by simp; omega, rfl, rfl⟩
theorem sum_hx (f : Nat) (ih : ∀ f', f' < f + 1 → AskOk f') (n : Nat) (t0 : Tok) (l0 : List Tok) (hn : n ≤ 100) (hE0 : ToksOk (t0 :: l0)) (hl0 : l0.length ≤ 200) (hf : 3 * (l0.length + 1) + 3 ≤ f + 1) : Hx pg 22 1 [.p 0 0, gi n] (ps (t0 :: l0)) (okA (sumP (f + 1) n (t0 :: l0)) (l0.length + 1)) (erR (sumP (f + 1) n (t0 :: l0))) := by
  refine okA_n ?_
  generalize hP : sumP (f + 1) n (t0 :: l0) = P
  rw [sumP] at hP
  refine Hx.ofJ pg_ok Tryz.func22 rfl Tryz.ntmps22 rfl Tryz.results22 Tryz.call22 fun H0 S0 w0 h0 g0 => ?_
  refine V ?_
  refine GOX (erR P) ((ih f (Nat.lt_succ_self f)).product n t0 l0 hn hE0 hl0 (by omega)) (fun g ⟨e, p, h2, h3⟩ => ⟨e, p, by rw [← hP, h2], h3⟩) id rfl rfl ⟨rfl, trivial⟩ rfl (id_lt rfl) ?_
  rintro g σ' n' ⟨q, l1, hq, hne, hE1, hl1, rfl, rfl, rfl⟩
  simp only [hq] at hP
  obtain ⟨t1, l1, rfl⟩ := hE1.cons
  simp only [List.length_cons] at hl1
  cases q with
  | nil => exact absurd rfl hne
  | mk c nn m sp ns ql qr =>
  refine V ?_
  show JK _ _ _ _
  refine JK.loop (α := Qn × Tok × List Tok × Nat) (fun x => ⟨[(0, .p 0 0), (1, gi n), (5, qG x.1)], [(0, .blk 61 [tks (x.2.1 :: x.2.2.1)])], 1⟩) (fun x => x.1 ≠ .nil ∧ ToksOk (x.2.1 :: x.2.2.1) ∧ 3 * (x.2.2.1.length + 1) + 3 ≤ x.2.2.2 ∧ x.2.2.2 ≤ f ∧ x.2.2.1.length < l0.length ∧ sumL x.2.2.2 n x.1 (x.2.1 :: x.2.2.1) = P) (fun x => x.2.2.1.length) (.mk c nn m sp ns ql qr, t1, l1, f) id ?_ ?_ ?_
  · exact ⟨⟨rfl, rfl, rfl, trivial⟩, ⟨rfl, trivial⟩, rfl⟩
  · exact ⟨by simp, hE1, by show 3 * (l1.length + 1) + 3 ≤ f; omega, Nat.le_refl _, by show l1.length < l0.length; omega, hP⟩
  rintro ⟨q, t, l, f2⟩ ⟨hne, hE, hf2, hff, hl, hR⟩
  replace hne : q ≠ .nil := hne
  replace hE : ToksOk (t :: l) := hE
  replace hf2 : 3 * (l.length + 1) + 3 ≤ f2 := hf2
  replace hff : f2 ≤ f := hff
  replace hl : l.length < l0.length := hl
  replace hR : sumL f2 n q (t :: l) = P := hR
  obtain ⟨f2, rfl⟩ : ∃ k, f2 = k + 1 := ⟨f2 - 1, by omega⟩
  rw [sumL] at hR
  cases q with
  | nil => exact absurd rfl hne
  | mk c nn m sp ns ql qr =>
  refine V ?_
  rcases tf (takesP (bS [43]) (t :: l)) with h1 | h1
  · rw [if_pos h1] at hR
    have hE2 := hE.tail (takesP_iff.1 h1).2
    obtain ⟨t2, l2, rfl⟩ := hE2.cons
    rw [List.tail_cons] at hR
    simp only [List.length_cons] at hf2 hl
    refine GOH (takes_yes t _ (bS [43]) h1) id rfl rfl ⟨rfl, trivial⟩ rfl (id_lt rfl) ?_
    rintro g σ' n' ⟨rfl, rfl, rfl⟩
    refine GOX (erR P) ((ih f2 (by omega)).product n t2 l2 hn hE2 (by omega) (by omega)) (fun g ⟨e, p, h2, h3⟩ => ⟨e, p, by rw [← hR, h2], h3⟩) id rfl rfl ⟨rfl, trivial⟩ rfl (id_lt rfl) ?_
    rintro g σ' n' ⟨q2, l3, hq2, hne2, hE3, hl3, rfl, rfl, rfl⟩
    simp only [hq2] at hR
    obtain ⟨t3, l3, rfl⟩ := hE3.cons
    simp only [List.length_cons] at hl3
    cases q2 with
    | nil => exact absurd rfl hne2
    | mk c2 nn2 m2 sp2 ns2 ql2 qr2 =>
    refine VM 3 ?_
    show JK _ _ _ _
    refine JK.subBlk 1 [gi 13, gi 0, .sl 3 [], gi 0, .sl 1 [], .r [gi c, gi nn, .sl 3 (m.map mt), gi sp, .sl 1 (ns.map fun s => [gs s]), qG ql, qG qr], .r [gi c2, gi nn2, .sl 3 (m2.map mt), gi sp2, .sl 1 (ns2.map fun s => [gs s]), qG ql2, qG qr2]] rfl (sv7 Sub.rfl (Sub.nil 3) (Sub.nil 1)) ?_
    refine JK.freezeB 1 rfl rfl ?_
    refine V ?_
    exact ⟨(.mk 13 0 [] 0 [] (.mk c nn m sp ns ql qr) (.mk c2 nn2 m2 sp2 ns2 ql2 qr2), t3, l3, f2), id, ⟨⟨rfl, rfl, rfl, trivial⟩, ⟨rfl, trivial⟩, rfl⟩, ⟨by simp, hE3, by show 3 * (l3.length + 1) + 3 ≤ f2; omega, by show f2 ≤ f; omega, by show l3.length < l0.length; omega, hR⟩, by show l3.length < l2.length + 1; omega⟩
  rw [if_neg (Bool.eq_false_iff.1 h1)] at hR
  refine GOH (takes_no t l (bS [43]) h1) id rfl rfl ⟨rfl, trivial⟩ rfl (id_lt rfl) ?_
  rintro g σ' n' ⟨rfl, rfl, rfl⟩
  rcases tf (takesP (bS [45]) (t :: l)) with h1 | h1
  · rw [if_pos h1] at hR
    have hE2 := hE.tail (takesP_iff.1 h1).2
    obtain ⟨t2, l2, rfl⟩ := hE2.cons
    rw [List.tail_cons] at hR
    simp only [List.length_cons] at hf2 hl
    refine GOH (takes_yes t _ (bS [45]) h1) id rfl rfl ⟨rfl, trivial⟩ rfl (id_lt rfl) ?_
    rintro g σ' n' ⟨rfl, rfl, rfl⟩
    refine GOX (erR P) ((ih f2 (by omega)).product n t2 l2 hn hE2 (by omega) (by omega)) (fun g ⟨e, p, h2, h3⟩ => ⟨e, p, by rw [← hR, h2], h3⟩) id rfl rfl ⟨rfl, trivial⟩ rfl (id_lt rfl) ?_
    rintro g σ' n' ⟨q2, l3, hq2, hne2, hE3, hl3, rfl, rfl, rfl⟩
    simp only [hq2] at hR
    obtain ⟨t3, l3, rfl⟩ := hE3.cons
    simp only [List.length_cons] at hl3
    cases q2 with
    | nil => exact absurd rfl hne2
    | mk c2 nn2 m2 sp2 ns2 ql2 qr2 =>
    refine VM 3 ?_
    show JK _ _ _ _
    refine JK.subBlk 1 [gi 14, gi 0, .sl 3 [], gi 0, .sl 1 [], .r [gi c, gi nn, .sl 3 (m.map mt), gi sp, .sl 1 (ns.map fun s => [gs s]), qG ql, qG qr], .r [gi c2, gi nn2, .sl 3 (m2.map mt), gi sp2, .sl 1 (ns2.map fun s => [gs s]), qG ql2, qG qr2]] rfl (sv7 Sub.rfl (Sub.nil 3) (Sub.nil 1)) ?_
    refine JK.freezeB 1 rfl rfl ?_
    refine V ?_
    exact ⟨(.mk 14 0 [] 0 [] (.mk c nn m sp ns ql qr) (.mk c2 nn2 m2 sp2 ns2 ql2 qr2), t3, l3, f2), id, ⟨⟨rfl, rfl, rfl, trivial⟩, ⟨rfl, trivial⟩, rfl⟩, ⟨by simp, hE3, by show 3 * (l3.length + 1) + 3 ≤ f2; omega, by show f2 ≤ f; omega, by show l3.length < l0.length; omega, hR⟩, by show l3.length < l2.length + 1; omega⟩
  rw [if_neg (Bool.eq_false_iff.1 h1)] at hR
  refine GOH (takes_no t l (bS [45]) h1) id rfl rfl ⟨rfl, trivial⟩ rfl (id_lt rfl) ?_
  rintro g σ' n' ⟨rfl, rfl, rfl⟩
  exact ⟨Nat.le_of_ble_eq_true rfl, .mk c nn m sp ns ql qr, t :: l, hR.symm, hne, hE, by simp; omega, rfl, rfl⟩
theorem ask_all : ∀ f : Nat, AskOk f := by
  intro f
  induction f using Nat.strongRecOn with
  | _ f ih =>
    cases f with
    | zero => exact ⟨fun _ _ _ _ _ _ h => by omega, fun _ _ _ _ _ _ h => by omega, fun _ _ _ _ _ _ h => by omega⟩
    | succ f => exact ⟨one_hx f (ih f (Nat.lt_succ_self f)), sum_hx f ih, product_hx f ih⟩
end Go.Proofs.YtihakhdinkkdmaaGreatDoor
/-
  Contracts: the document's reader of questions: rows of one level.
-/
namespace Go.Proofs.YtihakhdinkkdmaaGreatDoor
open Go.GK Go.RowKit Go.PL
set_option maxRecDepth 100000
abbrev rb (n : Nat) (r : Rd) : Heap := [(0, .blk 49 [tks r.l, gi r.e, gi r.p]), (1, .blk 47 [.p 0 0]), (2, .blk 3 [gi n])]
def RelQ (P : List Tok → PRes Qn) (r : Rd) (q : Qn) (r' : Rd) : Prop := Rel P r q r' ∧ (r'.ok = true → q ≠ .nil)
theorem rbx_n {f : FuncId} {args : List GV} {n : Nat} {r : Rd} {P : Qn → Rd → Prop} (h : Hf pg f 3 args (rb n r) (fun g σ' m => ∃ q r', P q r' ∧ g = qG q ∧ Nat.ble 3 m = true ∧ leσ id (rb n r') σ')) : Hf pg f 3 args (rb n r) (fun g σ m => ∃ q r', P q r' ∧ g = qG q ∧ σ = rb n r' ∧ m = 3) :=
  h.weak fun g σ' n' ⟨q, r', h0, h1, h2, h3⟩ => ⟨id, qG q, rb n r', 3, ⟨q, r', h0, rfl, rfl, rfl⟩, by rw [h1, ren_id], h3, by rw [idb_qG]; rfl⟩
theorem rq_n {f : FuncId} {args : List GV} {r : Rd} {P : Qn → Rd → Prop} (h : Hf pg f 1 args (rs r) (fun g σ' m => ∃ q r', P q r' ∧ g = qG q ∧ Nat.ble 1 m = true ∧ leσ id (rs r') σ')) : Hf pg f 1 args (rs r) (fun g σ m => ∃ q r', P q r' ∧ g = qG q ∧ σ = rs r' ∧ m = 1) :=
  h.weak fun g σ' n' ⟨q, r', h0, h1, h2, h3⟩ => ⟨id, qG q, rs r', 1, ⟨q, r', h0, rfl, rfl, rfl⟩, by rw [h1, ren_id], h3, by rw [idb_qG]; rfl⟩
def Bel (gF : FuncId) (P : List Tok → PRes Qn) (n : Nat) (r : Rd) : Prop := Hf pg gF 3 [.p 1 0, .p 2 0] (rb n r) (fun g σ m => ∃ q r', RelQ P r q r' ∧ g = qG q ∧ σ = rb n r' ∧ m = 3)
def chainP (X : Nat → List Tok → PRes Qn) (XL : Nat → Qn → List Tok → PRes Qn) (f : Nat) (l : List Tok) : PRes Qn := match X f l with
  | .error e => .error e
  | .ok (q, l) => XL f q l
theorem box_le {c : Int} {A B : GV} : SubV [gi c, gi 0, .sl 3 [], gi 0, .sl 1 [], A, B] [gi c, gi 0, .v (.slice none 0 0), gi 0, .v (.slice none 0 0), A, B] := sv7 Sub.rfl (Sub.nil 3) (Sub.nil 1)
theorem chain_hf (gF : FuncId) (n : Nat) (a b : ByteArray) (code : Int) (hc0 : 0 ≤ code) (hc1 : code ≤ 100) (k : Nat) (X : Nat → List Tok → PRes Qn) (XL : Nat → Qn → List Tok → PRes Qn)
    (hXL : ∀ f q l, XL (f + 1) q l = if takesP a l = true then (match X f l.tail with | .error e => .error e | .ok (x, l) => XL f (.mk code 0 [] 0 [] q x) l) else if takesP b l = true then (match X f l.tail with | .error e => .error e | .ok (x, l) => XL f (.mk (code + 1) 0 [] 0 [] q x) l) else .ok (q, l))
    (f : Nat) (hX : ∀ f' r, f' ≤ f → RdOk r → r.l.length ≤ 300 → 3 * r.l.length + k ≤ f' → Bel gF (X f') n r) (r : Rd) (hr : RdOk r) (hlen : r.l.length ≤ 300) (hf : 3 * r.l.length + k ≤ f) :
    Hf pg 36 3 [.p 0 0, .fn (.func gF) [] [.p 1 0, .p 2 0], gs a, gs b, gi code] (rb n r) (fun g σ m => ∃ q r', RelQ (chainP X XL f) r q r' ∧ g = qG q ∧ σ = rb n r' ∧ m = 3) := by
  refine rbx_n ?_
  refine Hf.ofJ pg_ok Tryz.func36 rfl Tryz.ntmps36 rfl Tryz.results36 Tryz.call36 fun H0 S0 w0 h0 g0 => ?_
  refine VM 5 ?_
  refine JK.cut (α := Qn × Rd) (fun x => ⟨[(0, .p 0 0), (1, .fn (.func gF) [] [.p 1 0, .p 2 0]), (2, gs a), (3, gs b), (4, gi code), (11, qG x.1)], rb n x.2, 3⟩) (fun x => RelQ (X f) r x.1 x.2) ?_ ?_
  · refine V ?_
    refine GOH (hX f r (Nat.le_refl _) hr hlen hf) id rfl rfl ⟨rfl, rfl, rfl, trivial⟩ rfl (id_lt rfl) ?_
    rintro g σ' n' ⟨q0, r0, hq0, rfl, rfl, rfl⟩
    cases q0 with
    | nil => exact ⟨(.nil, r0), id, ⟨⟨rfl, rfl, rfl, rfl, rfl, rfl, trivial⟩, ⟨rfl, rfl, rfl, trivial⟩, rfl⟩, hq0⟩
    | mk c nn m sp ns ql qr => exact ⟨(.mk c nn m sp ns ql qr, r0), id, ⟨⟨rfl, rfl, rfl, rfl, rfl, rfl, trivial⟩, ⟨rfl, rfl, rfl, trivial⟩, rfl⟩, hq0⟩
  rintro ⟨q0, r0⟩ ⟨hq0, hne0⟩
  replace hq0 : Rel (X f) r q0 r0 := hq0
  replace hne0 : r0.ok = true → q0 ≠ .nil := hne0
  refine VM 2 ?_
  refine JK.loopE (α := Qn × Rd × Nat) (β := Qn × Rd) (fun x => ⟨[(0, .p 0 0), (1, .fn (.func gF) [] [.p 1 0, .p 2 0]), (2, gs a), (3, gs b), (4, gi code), (11, qG x.1)], rb n x.2.1, 3⟩)
    (fun x => RdOk x.2.1 ∧ x.2.1.l.length ≤ r.l.length ∧ x.2.2 ≤ f ∧ (r.ok = true → if x.2.1.ok = true then x.2.1.l.length < r.l.length ∧ 3 * x.2.1.l.length + (k + 3) ≤ x.2.2 ∧ x.1 ≠ .nil ∧ XL x.2.2 x.1 x.2.1.l = chainP X XL f r.l else chainP X XL f r.l = .error (x.2.1.e, x.2.1.p)) ∧ (r.ok = false → x.2.1 = r))
    (fun x => if x.2.1.ok = true then x.2.1.l.length + 1 else 0)
    (fun x => ⟨[(11, qG x.1)], rb n x.2, 3⟩) (fun y => RelQ (chainP X XL f) r y.1 y.2) (q0, r0, f) id ?_ ?_ ?_ ?_
  · cases q0 <;> exact ⟨⟨rfl, rfl, rfl, rfl, rfl, rfl, trivial⟩, ⟨rfl, rfl, rfl, trivial⟩, rfl⟩
  · refine ⟨hq0.ok, hq0.len, Nat.le_refl _, fun ho => ?_, hq0.bad⟩
    have h1 := hq0.good ho
    unfold chainP
    cases hX1 : X f r.l with
    | error ep =>
      rw [hX1] at h1
      obtain ⟨e1, e2, e3⟩ := h1
      rw [if_neg (by rw [e3]; exact Bool.false_ne_true)]
      show Except.error _ = Except.error _
      rw [e1, e2]
    | ok v =>
      obtain ⟨x, l1⟩ := v
      rw [hX1] at h1
      obtain ⟨e1, e2⟩ := h1
      have h3 : r0.ok = true := by rw [e2]; rfl
      have h4 := hq0.less ho h3
      rw [if_pos h3]
      refine ⟨h4, by show 3 * r0.l.length + (k + 3) ≤ f; omega, hne0 h3, ?_⟩
      rw [e2, e1]
      rfl
  · rintro ⟨q, r1, f1⟩ ⟨hR, hl, hff, hg, hb⟩
    replace hR : RdOk r1 := hR
    replace hl : r1.l.length ≤ r.l.length := hl
    replace hff : f1 ≤ f := hff
    replace hg : r.ok = true → if r1.ok = true then r1.l.length < r.l.length ∧ 3 * r1.l.length + (k + 3) ≤ f1 ∧ q ≠ .nil ∧ XL f1 q r1.l = chainP X XL f r.l else chainP X XL f r.l = .error (r1.e, r1.p) := hg
    replace hb : r.ok = false → r1 = r := hb
    refine V ?_
    rcases tf r1.ok with ho | ho
    · have hro : r.ok = true := by
        rcases tf r.ok with h | h
        · exact h
        · rw [hb h] at ho; rw [ho] at h; cases h
      have hg1 := hg hro
      rw [if_pos ho] at hg1
      obtain ⟨g1, g2, g3, g4⟩ := hg1
      obtain ⟨f2, rfl⟩ : ∃ f', f1 = f' + 1 := ⟨f1 - 1, by omega⟩
      rw [hXL] at g4
      have hcn : gi (code + 1) = gi (IntKind.i64.wrap (code + 1)) := by rw [wrap_id (by omega) (by omega)]
      cases q with
      | nil => exact absurd rfl g3
      | mk c nn m sp ns ql qr =>
      refine GOH (rok_b ho) id rfl rfl ⟨rfl, trivial⟩ rfl (id_lt rfl) ?_
      rintro g σ' n' ⟨rfl, rfl, rfl⟩
      rcases tf (rsee a r1) with hs | hs
      · have ht : takesP a r1.l = true := by rw [← rsee_good hR.toks, ← hR.good ho]; exact hs
        have hRt := hR.tl (see_k hs)
        have hlt := rtail_len r1
        refine GOH (take_yes hR hs) id rfl rfl ⟨rfl, trivial⟩ rfl (id_lt rfl) ?_
        rintro g σ' n' ⟨rfl, rfl, rfl⟩
        refine GOJ (hX f2 (rtail r1) (by omega) hRt (by omega) (by omega)) id rfl rfl ⟨rfl, rfl, rfl, trivial⟩ rfl (id_lt rfl) ?_
        rintro g σ' n' ⟨q2, r3, ⟨hq2, hne2⟩, rfl, rfl, rfl⟩
        have hx := hq2.good (show (rtail r1).ok = true from ho)
        have hxl := hq2.less (show (rtail r1).ok = true from ho)
        have hx3 := hq2.len
        have fin : ∀ Q : Qn, Q ≠ .nil → Q = .mk code 0 [] 0 [] (.mk c nn m sp ns ql qr) q2 → (RdOk r3 ∧ r3.l.length ≤ r.l.length ∧ f2 ≤ f ∧ (r.ok = true → if r3.ok = true then r3.l.length < r.l.length ∧ 3 * r3.l.length + (k + 3) ≤ f2 ∧ Q ≠ .nil ∧ XL f2 Q r3.l = chainP X XL f r.l else chainP X XL f r.l = .error (r3.e, r3.p)) ∧ (r.ok = false → r3 = r)) ∧ (if r3.ok = true then r3.l.length + 1 else 0) < (if r1.ok = true then r1.l.length + 1 else 0) := by
          intro Q hQ hQe
          rw [if_pos ho]
          refine ⟨⟨hq2.ok, by omega, by omega, fun _ => ?_, fun h => absurd hro (by rw [h]; exact Bool.false_ne_true)⟩, ?_⟩
          · have g5 : (match X f2 r1.l.tail with | .error e => (.error e : PRes Qn) | .ok (x, l) => XL f2 (.mk code 0 [] 0 [] (.mk c nn m sp ns ql qr) x) l) = chainP X XL f r.l := by rw [← g4, if_pos ht]
            rw [← g5]
            replace hx : Agr (X f2 r1.l.tail) q2 r3 := hx
            cases hX2 : X f2 r1.l.tail with
            | error ep =>
              rw [hX2] at hx
              rw [if_neg (by rw [hx.bad]; exact Bool.false_ne_true)]
              obtain ⟨z1, z2, _⟩ := hx
              show Except.error _ = _
              rw [z1, z2]
            | ok v =>
              obtain ⟨x, l3⟩ := v
              rw [hX2] at hx
              obtain ⟨z1, z2⟩ := hx
              have h3 : r3.ok = true := by rw [z2]; rfl
              have := hxl h3
              rw [if_pos h3, hQe, z1, z2]
              rw [z2] at this
              replace this : l3.length < (rtail r1).l.length := this
              exact ⟨by show l3.length < _; omega, by show 3 * l3.length + (k + 3) ≤ f2; omega, by simp, rfl⟩
          · by_cases h3 : r3.ok = true
            · rw [if_pos h3]
              have := hxl h3
              omega
            · rw [if_neg h3]; omega
        cases q2 with
        | nil =>
          refine VM 3 ?_
          show JK _ _ _ _
          refine JK.subBlk 3 [gi code, gi 0, .sl 3 [], gi 0, .sl 1 [], .r [gi c, gi nn, .sl 3 (m.map mt), gi sp, .sl 1 (ns.map fun s => [gs s]), qG ql, qG qr], .v (.pointer none)] rfl (sv7 Sub.rfl (Sub.nil 3) (Sub.nil 1)) ?_
          refine JK.freezeB 3 rfl rfl ?_
          refine V ?_
          exact ⟨(.mk code 0 [] 0 [] (.mk c nn m sp ns ql qr) (.nil), r3, f2), id, ⟨⟨rfl, rfl, rfl, rfl, rfl, rfl, trivial⟩, ⟨rfl, rfl, rfl, trivial⟩, rfl⟩, fin _ (by simp) rfl⟩
        | mk c2 nn2 m2 sp2 ns2 ql2 qr2 =>
          refine VM 3 ?_
          show JK _ _ _ _
          refine JK.subBlk 3 [gi code, gi 0, .sl 3 [], gi 0, .sl 1 [], .r [gi c, gi nn, .sl 3 (m.map mt), gi sp, .sl 1 (ns.map fun s => [gs s]), qG ql, qG qr], .r [gi c2, gi nn2, .sl 3 (m2.map mt), gi sp2, .sl 1 (ns2.map fun s => [gs s]), qG ql2, qG qr2]] rfl (sv7 Sub.rfl (Sub.nil 3) (Sub.nil 1)) ?_
          refine JK.freezeB 3 rfl rfl ?_
          refine V ?_
          exact ⟨(.mk code 0 [] 0 [] (.mk c nn m sp ns ql qr) (.mk c2 nn2 m2 sp2 ns2 ql2 qr2), r3, f2), id, ⟨⟨rfl, rfl, rfl, rfl, rfl, rfl, trivial⟩, ⟨rfl, rfl, rfl, trivial⟩, rfl⟩, fin _ (by simp) rfl⟩
      have hta : takesP a r1.l = false := by rw [← rsee_good hR.toks, ← hR.good ho]; exact hs
      refine GOH (take_no hR hs) id rfl rfl ⟨rfl, trivial⟩ rfl (id_lt rfl) ?_
      rintro g σ' n' ⟨rfl, rfl, rfl⟩
      rcases tf (rsee b r1) with hs | hs
      · have ht : takesP b r1.l = true := by rw [← rsee_good hR.toks, ← hR.good ho]; exact hs
        have hRt := hR.tl (see_k hs)
        have hlt := rtail_len r1
        refine GOH (take_yes hR hs) id rfl rfl ⟨rfl, trivial⟩ rfl (id_lt rfl) ?_
        rintro g σ' n' ⟨rfl, rfl, rfl⟩
        refine GOJ (hX f2 (rtail r1) (by omega) hRt (by omega) (by omega)) id rfl rfl ⟨rfl, rfl, rfl, trivial⟩ rfl (id_lt rfl) ?_
        rintro g σ' n' ⟨q2, r3, ⟨hq2, hne2⟩, rfl, rfl, rfl⟩
        have hx := hq2.good (show (rtail r1).ok = true from ho)
        have hxl := hq2.less (show (rtail r1).ok = true from ho)
        have hx3 := hq2.len
        have fin : ∀ Q : Qn, Q ≠ .nil → Q = .mk (code + 1) 0 [] 0 [] (.mk c nn m sp ns ql qr) q2 → (RdOk r3 ∧ r3.l.length ≤ r.l.length ∧ f2 ≤ f ∧ (r.ok = true → if r3.ok = true then r3.l.length < r.l.length ∧ 3 * r3.l.length + (k + 3) ≤ f2 ∧ Q ≠ .nil ∧ XL f2 Q r3.l = chainP X XL f r.l else chainP X XL f r.l = .error (r3.e, r3.p)) ∧ (r.ok = false → r3 = r)) ∧ (if r3.ok = true then r3.l.length + 1 else 0) < (if r1.ok = true then r1.l.length + 1 else 0) := by
          intro Q hQ hQe
          rw [if_pos ho]
          refine ⟨⟨hq2.ok, by omega, by omega, fun _ => ?_, fun h => absurd hro (by rw [h]; exact Bool.false_ne_true)⟩, ?_⟩
          · have g5 : (match X f2 r1.l.tail with | .error e => (.error e : PRes Qn) | .ok (x, l) => XL f2 (.mk (code + 1) 0 [] 0 [] (.mk c nn m sp ns ql qr) x) l) = chainP X XL f r.l := by rw [← g4, if_neg (by rw [hta]; exact Bool.false_ne_true), if_pos ht]
            rw [← g5]
            replace hx : Agr (X f2 r1.l.tail) q2 r3 := hx
            cases hX2 : X f2 r1.l.tail with
            | error ep =>
              rw [hX2] at hx
              rw [if_neg (by rw [hx.bad]; exact Bool.false_ne_true)]
              obtain ⟨z1, z2, _⟩ := hx
              show Except.error _ = _
              rw [z1, z2]
            | ok v =>
              obtain ⟨x, l3⟩ := v
              rw [hX2] at hx
              obtain ⟨z1, z2⟩ := hx
              have h3 : r3.ok = true := by rw [z2]; rfl
              have := hxl h3
              rw [if_pos h3, hQe, z1, z2]
              rw [z2] at this
              replace this : l3.length < (rtail r1).l.length := this
              exact ⟨by show l3.length < _; omega, by show 3 * l3.length + (k + 3) ≤ f2; omega, by simp, rfl⟩
          · by_cases h3 : r3.ok = true
            · rw [if_pos h3]
              have := hxl h3
              omega
            · rw [if_neg h3]; omega
        cases q2 with
        | nil =>
          refine VM 3 ?_
          show JK _ _ _ _
          refine JK.subBlk 3 [gi (code + 1), gi 0, .sl 3 [], gi 0, .sl 1 [], .r [gi c, gi nn, .sl 3 (m.map mt), gi sp, .sl 1 (ns.map fun s => [gs s]), qG ql, qG qr], .v (.pointer none)] rfl (sv7 (Sub.eq hcn) (Sub.nil 3) (Sub.nil 1)) ?_
          refine JK.freezeB 3 rfl rfl ?_
          refine V ?_
          exact ⟨(.mk (code + 1) 0 [] 0 [] (.mk c nn m sp ns ql qr) (.nil), r3, f2), id, ⟨⟨rfl, rfl, rfl, rfl, rfl, rfl, trivial⟩, ⟨rfl, rfl, rfl, trivial⟩, rfl⟩, fin _ (by simp) rfl⟩
        | mk c2 nn2 m2 sp2 ns2 ql2 qr2 =>
          refine VM 3 ?_
          show JK _ _ _ _
          refine JK.subBlk 3 [gi (code + 1), gi 0, .sl 3 [], gi 0, .sl 1 [], .r [gi c, gi nn, .sl 3 (m.map mt), gi sp, .sl 1 (ns.map fun s => [gs s]), qG ql, qG qr], .r [gi c2, gi nn2, .sl 3 (m2.map mt), gi sp2, .sl 1 (ns2.map fun s => [gs s]), qG ql2, qG qr2]] rfl (sv7 (Sub.eq hcn) (Sub.nil 3) (Sub.nil 1)) ?_
          refine JK.freezeB 3 rfl rfl ?_
          refine V ?_
          exact ⟨(.mk (code + 1) 0 [] 0 [] (.mk c nn m sp ns ql qr) (.mk c2 nn2 m2 sp2 ns2 ql2 qr2), r3, f2), id, ⟨⟨rfl, rfl, rfl, rfl, rfl, rfl, trivial⟩, ⟨rfl, rfl, rfl, trivial⟩, rfl⟩, fin _ (by simp) rfl⟩
      have htb : takesP b r1.l = false := by rw [← rsee_good hR.toks, ← hR.good ho]; exact hs
      refine GOH (take_no hR hs) id rfl rfl ⟨rfl, trivial⟩ rfl (id_lt rfl) ?_
      rintro g σ' n' ⟨rfl, rfl, rfl⟩
      refine ⟨(.mk c nn m sp ns ql qr, r1), id, ⟨⟨rfl, trivial⟩, ⟨rfl, rfl, rfl, trivial⟩, rfl⟩, ⟨⟨hR, hl, fun _ => ?_, fun _ _ => g1, fun h => absurd hro (by rw [show r.ok = false from h]; exact Bool.false_ne_true)⟩, fun _ => by simp⟩⟩
      rw [if_neg (by rw [hta]; exact Bool.false_ne_true), if_neg (by rw [htb]; exact Bool.false_ne_true)] at g4
      show Agr (chainP X XL f r.l) _ _
      rw [← g4]
      exact ⟨rfl, hR.good ho⟩
    · refine GOH (rok_b ho) id rfl rfl ⟨rfl, trivial⟩ rfl (id_lt rfl) ?_
      rintro g σ' n' ⟨rfl, rfl, rfl⟩
      have fin : RelQ (chainP X XL f) r q r1 := by
        refine ⟨⟨hR, hl, fun h => ?_, fun _ h => ?_, hb⟩, fun h => ?_⟩
        · have := hg h
          rw [if_neg (by rw [ho]; exact Bool.false_ne_true)] at this
          show Agr (chainP X XL f r.l) q r1
          rw [this]
          exact ⟨rfl, rfl, ho⟩
        · rw [show r1.ok = true from h] at ho; cases ho
        · rw [show r1.ok = true from h] at ho; cases ho
      cases q <;> exact ⟨(_, r1), id, ⟨⟨rfl, trivial⟩, ⟨rfl, rfl, rfl, trivial⟩, rfl⟩, fin⟩
  · rintro ⟨q, r'⟩ hq
    cases q with
    | nil =>
      refine V ?_
      exact ⟨.nil, r', hq, rfl, rfl, ⟨rfl, rfl, rfl, trivial⟩⟩
    | mk c nn m sp ns ql qr =>
      refine V ?_
      exact ⟨.mk c nn m sp ns ql qr, r', hq, rfl, rfl, ⟨rfl, rfl, rfl, trivial⟩⟩
end Go.Proofs.YtihakhdinkkdmaaGreatDoor
/-
  Contracts: the document's reader of questions: products and sums.
-/
namespace Go.Proofs.YtihakhdinkkdmaaGreatDoor
open Go.GK Go.RowKit Go.PL
set_option maxRecDepth 100000
def OneOk (f n : Nat) : Prop := ∀ r, RdOk r → r.l.length ≤ 300 → 3 * r.l.length + 1 ≤ f → Hf pg 38 1 [.p 0 0, gi n] (rs r) (fun g σ m => ∃ q r', RelQ (oneP f n) r q r' ∧ g = qG q ∧ σ = rs r' ∧ m = 1)
theorem one_bel {f n : Nat} (h : OneOk f n) (r : Rd) (hr : RdOk r) (hl : r.l.length ≤ 300) (hf : 3 * r.l.length + 1 ≤ f) : Bel 37 (oneP f n) n r := by
  refine rbx_n ?_
  refine Hf.of pg_ok Tryz.func37 rfl Tryz.ntmps37 rfl Tryz.results37 Tryz.call37 fun H0 S0 w0 h0 g0 => ?_
  refine GOH (h r hr hl hf) id rfl rfl ⟨rfl, trivial⟩ rfl (id_lt rfl) ?_
  rintro g σ' n' ⟨q, r', hq, rfl, rfl, rfl⟩
  cases q with
  | nil => exact ⟨.nil, r', hq, rfl, rfl, ⟨rfl, rfl, rfl, trivial⟩⟩
  | mk c nn m sp ns ql qr => exact ⟨.mk c nn m sp ns ql qr, r', hq, rfl, rfl, ⟨rfl, rfl, rfl, trivial⟩⟩
theorem productL_eq (n f : Nat) (q : Qn) (l : List Tok) : productL (f + 1) n q l = if takesP (bS [42]) l = true then (match oneP f n l.tail with | .error e => .error e | .ok (x, l) => productL f n (.mk 15 0 [] 0 [] q x) l) else if takesP (bS [47]) l = true then (match oneP f n l.tail with | .error e => .error e | .ok (x, l) => productL f n (.mk (15 + 1) 0 [] 0 [] q x) l) else .ok (q, l) := by
  rw [productL]
  rfl
theorem sumL_eq (n f : Nat) (q : Qn) (l : List Tok) : sumL (f + 1) n q l = if takesP (bS [43]) l = true then (match productP f n l.tail with | .error e => .error e | .ok (x, l) => sumL f n (.mk 13 0 [] 0 [] q x) l) else if takesP (bS [45]) l = true then (match productP f n l.tail with | .error e => .error e | .ok (x, l) => sumL f n (.mk (13 + 1) 0 [] 0 [] q x) l) else .ok (q, l) := by
  rw [sumL]
  rfl
theorem prod_bel {f n : Nat} (h : ∀ f', f' < f → OneOk f' n) (r : Rd) (hr : RdOk r) (hl : r.l.length ≤ 300) (hf : 3 * r.l.length + 2 ≤ f) : Bel 35 (productP f n) n r := by
  obtain ⟨f, rfl⟩ : ∃ f', f = f' + 1 := ⟨f - 1, by omega⟩
  have hc := chain_hf 37 n (bS [42]) (bS [47]) 15 (by decide) (by decide) 1 (fun f' => oneP f' n) (fun f' => productL f' n) (fun f' q l => productL_eq n f' q l) f (fun f' r' hf' hr' hl' hk => one_bel (h f' (by omega)) r' hr' hl' hk) r hr hl (by omega)
  have e : chainP (fun f' => oneP f' n) (fun f' => productL f' n) f = productP (f + 1) n := by
    funext l
    rw [productP, chainP]
    rfl
  rw [e] at hc
  refine rbx_n ?_
  refine Hf.of pg_ok Tryz.func35 rfl Tryz.ntmps35 rfl Tryz.results35 Tryz.call35 fun H0 S0 w0 h0 g0 => ?_
  refine GOH hc id rfl rfl ⟨rfl, rfl, rfl, trivial⟩ rfl (id_lt rfl) ?_
  rintro g σ' n' ⟨q, r', hq, rfl, rfl, rfl⟩
  cases q with
  | nil => exact ⟨.nil, r', hq, rfl, rfl, ⟨rfl, rfl, rfl, trivial⟩⟩
  | mk c nn m sp ns ql qr => exact ⟨.mk c nn m sp ns ql qr, r', hq, rfl, rfl, ⟨rfl, rfl, rfl, trivial⟩⟩
theorem sum_of {f n : Nat} (h : ∀ f', f' < f → OneOk f' n) (r : Rd) (hr : RdOk r) (hl : r.l.length ≤ 300) (hf : 3 * r.l.length + 3 ≤ f) : Hf pg 16 1 [.p 0 0, gi n] (rs r) (fun g σ m => ∃ q r', RelQ (sumP f n) r q r' ∧ g = qG q ∧ σ = rs r' ∧ m = 1) := by
  obtain ⟨f, rfl⟩ : ∃ f', f = f' + 1 := ⟨f - 1, by omega⟩
  have hc := chain_hf 35 n (bS [43]) (bS [45]) 13 (by decide) (by decide) 2 (fun f' => productP f' n) (fun f' => sumL f' n) (fun f' q l => sumL_eq n f' q l) f (fun f' r' hf' hr' hl' hk => prod_bel (fun f'' hf'' => h f'' (by omega)) r' hr' hl' hk) r hr hl (by omega)
  have e : chainP (fun f' => productP f' n) (fun f' => sumL f' n) f = sumP (f + 1) n := by
    funext l
    rw [sumP, chainP]
    rfl
  rw [e] at hc
  refine rq_n ?_
  refine Hf.of pg_ok Tryz.func16 rfl Tryz.ntmps16 rfl Tryz.results16 Tryz.call16 fun H0 S0 w0 h0 g0 => ?_
  refine GOH hc id rfl rfl ⟨rfl, rfl, rfl, trivial⟩ rfl (id_lt rfl) ?_
  rintro g σ' n' ⟨q, r', hq, rfl, rfl, rfl⟩
  cases q with
  | nil => exact ⟨.nil, r', hq, rfl, rfl, ⟨rfl, trivial⟩⟩
  | mk c nn m sp ns ql qr => exact ⟨.mk c nn m sp ns ql qr, r', hq, rfl, rfl, ⟨rfl, trivial⟩⟩
end Go.Proofs.YtihakhdinkkdmaaGreatDoor
/-
  Plain laws: the document's reader of questions: one after the other. No program is in sight.
-/
namespace Go.PL
open Go Go.GK
def bindP {α β : Type} (X : PRes α) (F : α → List Tok → PRes β) : PRes β := match X with
  | .error e => .error e
  | .ok (a, l) => F a l
theorem Agr.bind {α β : Type} {X : PRes α} {a : α} {r1 : Rd} (h : Agr X a r1) {F : α → List Tok → PRes β} {b : β} {r2 : Rd} (hb : r1.ok = false → r2 = r1) (hg : ∀ l, X = .ok (a, l) → r1 = goodR l → Agr (F a l) b r2) : Agr (bindP X F) b r2 := by
  cases X with
  | error ep =>
    obtain ⟨h1, h2, h3⟩ := h
    rw [hb h3]
    exact ⟨h1, h2, h3⟩
  | ok v =>
    obtain ⟨x, l⟩ := v
    obtain ⟨h1, h2⟩ := h
    subst h1
    exact hg l rfl h2
def byP (k : Nat) (q : Qn) (l : List Tok) : PRes Qn :=
  if takesP (bS [98, 121]) l = true then bindP (mustP (bS [40]) l.tail) fun _ l => bindP (namesL (l.length + 1) [] l) fun ns l => bindP (mustP (bS [41]) l) fun _ l => .ok (.mk (8 + k) 0 [] 0 ns q .nil, l)
  else .ok (.mk (8 + k) 0 [] 0 [] q .nil, l)
theorem one_eq (f n : Nat) (l : List Tok) : oneP (f + 1) n l =
    if 8 < n then failP 4 l
    else if takesP (bS [45]) l = true then bindP (oneP f (n + 1) l.tail) fun q l => .ok (.mk 12 0 [] 0 [] q .nil, l)
    else if takesP (bS [40]) l = true then bindP (sumP f (n + 1) l.tail) fun q l => bindP (mustP (bS [41]) l) fun _ l => .ok (q, l)
    else if (hdT l).kind = 2 then bindP (numberP 9223372036854775807 l) fun k l => .ok (.mk 1 k [] 0 [] .nil .nil, l)
    else if isP (bS [123]) l = true then bindP (matchersP l) fun m l => .ok (.mk 2 0 m 300 [] .nil .nil, l)
    else match oversL.findIdx? fun s => isP s l with
      | some k => bindP (mustP (oversL.getD k ⟨#[]⟩) l) fun _ l => bindP (mustP (bS [40]) l) fun _ l => bindP (matchersP l) fun m l => bindP (mustP (bS [91]) l) fun _ l => bindP (numberP 1099511627776 l) fun sp l => bindP (mustP (bS [93]) l) fun _ l => bindP (mustP (bS [41]) l) fun _ l => .ok (.mk (3 + k) 0 m (if sp < 1 then 1 else sp) [] .nil .nil, l)
      | none => match allsL.findIdx? fun s => isP s l with
        | none => failP 3 l
        | some k => bindP (mustP (allsL.getD k ⟨#[]⟩) l) fun _ l => bindP (mustP (bS [40]) l) fun _ l => bindP (sumP f (n + 1) l) fun q l => bindP (mustP (bS [41]) l) fun _ l =>
          byP k q l := by
  rw [oneP]
  by_cases h1 : 8 < n
  · rw [if_pos h1, if_pos h1]
  rw [if_neg h1, if_neg h1]
  by_cases h2 : takesP (bS [45]) l = true
  · rw [if_pos h2, if_pos h2]
    rcases oneP f (n + 1) l.tail with e | ⟨q, l1⟩ <;> rfl
  rw [if_neg h2, if_neg h2]
  by_cases h3 : takesP (bS [40]) l = true
  · rw [if_pos h3, if_pos h3]
    rcases sumP f (n + 1) l.tail with e | ⟨q, l1⟩
    · rfl
    simp only [bindP]
    rcases mustP (bS [41]) l1 with e | ⟨u, l2⟩ <;> rfl
  rw [if_neg h3, if_neg h3]
  by_cases h4 : (hdT l).kind = 2
  · rw [if_pos h4, if_pos h4]
    rcases numberP 9223372036854775807 l with e | ⟨q, l1⟩ <;> rfl
  rw [if_neg h4, if_neg h4]
  by_cases h5 : isP (bS [123]) l = true
  · rw [if_pos h5, if_pos h5]
    rcases matchersP l with e | ⟨q, l1⟩ <;> rfl
  rw [if_neg h5, if_neg h5]
  cases oversL.findIdx? fun s => isP s l with
  | some k =>
    simp only
    rcases mustP (oversL.getD k ⟨#[]⟩) l with e | ⟨a1, l1⟩
    · rfl
    simp only [bindP]
    rcases mustP (bS [40]) l1 with e | ⟨a2, l2⟩
    · rfl
    simp only [bindP]
    rcases matchersP l2 with e | ⟨a3, l3⟩
    · rfl
    simp only [bindP]
    rcases mustP (bS [91]) l3 with e | ⟨a4, l4⟩
    · rfl
    simp only [bindP]
    rcases numberP 1099511627776 l4 with e | ⟨a5, l5⟩
    · rfl
    simp only [bindP]
    rcases mustP (bS [93]) l5 with e | ⟨a6, l6⟩
    · rfl
    simp only [bindP]
    rcases mustP (bS [41]) l6 with e | ⟨a7, l7⟩ <;> rfl
  | none =>
    simp only
    cases allsL.findIdx? fun s => isP s l with
    | none => rfl
    | some k =>
      simp only
      rcases mustP (allsL.getD k ⟨#[]⟩) l with e | ⟨a1, l1⟩
      · rfl
      simp only [bindP]
      rcases mustP (bS [40]) l1 with e | ⟨a2, l2⟩
      · rfl
      simp only [bindP]
      rcases sumP f (n + 1) l2 with e | ⟨a3, l3⟩
      · rfl
      simp only [bindP]
      rcases mustP (bS [41]) l3 with e | ⟨a4, l4⟩
      · rfl
      simp only [bindP]
      rw [byP]
      by_cases h9 : takesP (bS [98, 121]) l4 = true
      · rw [if_pos h9, if_pos h9]
        rcases mustP (bS [40]) l4.tail with e | ⟨a5, l5⟩
        · rfl
        simp only [bindP]
        rcases namesL (l5.length + 1) [] l5 with e | ⟨a6, l6⟩
        · rfl
        simp only [bindP]
        rcases mustP (bS [41]) l6 with e | ⟨a7, l7⟩ <;> rfl
      · rw [if_neg h9, if_neg h9]
theorem rnum_nn {r : Rd} (h : RdOk r) : 0 ≤ rnum r := by
  unfold rnum
  obtain ⟨t, l, e⟩ := h.toks.cons
  rw [e]
  show 0 ≤ if t.kind = 2 then numT t.text else 0
  split
  · rename_i hk
    have ht := (h.toks.each t (by rw [e]; exact List.mem_cons_self)).1
    exact (num_tok ht hk).2.1
  · exact Int.le_refl 0
theorem rnum_span {r : Rd} (h : RdOk r) : (if rnum r = 0 then 1 else rnum r) = if rnum r < 1 then 1 else rnum r := by
  have := rnum_nn h
  by_cases h0 : rnum r = 0
  · rw [if_pos h0, if_pos (by omega)]
  · rw [if_neg h0, if_neg (by omega)]
theorem rkind_less {k : Int} {r : Rd} (hr : RdOk r) (h : (rkind k r).2.ok = true) : (rkind k r).2.l.length < r.l.length := by
  by_cases h1 : (rkind1 k r).ok = true
  · rw [rkind, if_pos h1]
    obtain ⟨t, l, e⟩ := hr.toks.cons
    show (rtail r).l.length < _
    rw [rtail_len, e]
    simp
  · rw [rkind, if_neg h1] at h
    exact absurd h h1
theorem rnumber_less {r : Rd} (hr : RdOk r) {m : Int} (h : (rnumber m r).ok = true) : (rnumber m r).l.length < r.l.length := by
  have h1 : rnumber1 m r = r := by
    unfold rnumber1
    split
    · rename_i hc
      exfalso
      have h2 : (rnumber1 m r).ok = false := by
        unfold rnumber1
        rw [if_pos hc]
        cases ho : r.ok with
        | true => rw [rfail, if_pos ho]; rfl
        | false => rw [rfail_bad ho, ho]
      rw [rnumber, rkind_bad h2, h2] at h
      cases h
    · rfl
  rw [rnumber, h1] at h ⊢
  exact rkind_less hr h
theorem over_fin {l0 : List Tok} (hE : ToksOk l0) {m : List Mt} {r2 r3 r4 r5 r6 r7 : Rd} (h2 : r2 = rmust (bS [40]) (goodR l0)) (hok3 : RdOk r3) (hg3 : r2.ok = true → Agr (matchersP r2.l) m r3) (hb3 : r2.ok = false → r3 = r2) (hl3 : r3.l.length ≤ r2.l.length)
    (h4 : r4 = rmust (bS [91]) r3) (h5 : r5 = rnumber 1099511627776 r4) (h6 : r6 = rmust (bS [93]) r5) (h7 : r7 = rmust (bS [41]) r6) (k : Nat) :
    Agr (bindP (mustP (bS [40]) l0) fun _ l => bindP (matchersP l) fun m l => bindP (mustP (bS [91]) l) fun _ l => bindP (numberP 1099511627776 l) fun sp l => bindP (mustP (bS [93]) l) fun _ l => bindP (mustP (bS [41]) l) fun _ l => .ok (.mk (3 + k) 0 m (if sp < 1 then 1 else sp) [] .nil .nil, l))
      (Qn.mk (3 + k) 0 m (if rnum r4 = 0 then 1 else rnum r4) [] .nil .nil) r7 ∧ RdOk r7 ∧ r7.l.length ≤ l0.length := by
  have b6 : r6.ok = false → r7 = r6 := fun h => by rw [h7, rmust_bad h]
  have b5 : r5.ok = false → r7 = r5 := fun h => by
    have e : r6 = r5 := by rw [h6, rmust_bad h]
    rw [b6 (by rw [e]; exact h), e]
  have b4 : r4.ok = false → r7 = r4 := fun h => by
    have e : r5 = r4 := by rw [h5, rnumber_bad h]
    rw [b5 (by rw [e]; exact h), e]
  have b3 : r3.ok = false → r7 = r3 := fun h => by
    have e : r4 = r3 := by rw [h4, rmust_bad h]
    rw [b4 (by rw [e]; exact h), e]
  have b2 : r2.ok = false → r7 = r2 := fun h => by
    have e : r3 = r2 := hb3 h
    rw [b3 (by rw [e]; exact h), e]
  have o4 : RdOk r4 := by rw [h4]; exact hok3.must _
  have o5 : RdOk r5 := by rw [h5]; exact o4.number _
  have o6 : RdOk r6 := by rw [h6]; exact o5.must _
  have o7 : RdOk r7 := by rw [h7]; exact o6.must _
  refine ⟨?_, o7, ?_⟩
  · have g2 := rmust_good hE (bS [40])
    rw [← h2] at g2
    refine g2.bind b2 fun l2 _ e2 => ?_
    have g3 := hg3 (by rw [e2]; rfl)
    rw [e2] at g3
    refine g3.bind b3 fun l3 _ e3 => ?_
    have hE3 : ToksOk l3 := by have := hok3.toks; rw [e3] at this; exact this
    have g4 := rmust_good hE3 (bS [91])
    rw [← e3, ← h4] at g4
    refine g4.bind b4 fun l4 _ e4 => ?_
    have hE4 : ToksOk l4 := by have := o4.toks; rw [e4] at this; exact this
    have g5 := rnumber_good l4 1099511627776
    rw [← e4, ← h5] at g5
    refine g5.bind b5 fun l5 _ e5 => ?_
    have hE5 : ToksOk l5 := by have := o5.toks; rw [e5] at this; exact this
    have g6 := rmust_good hE5 (bS [93])
    rw [← e5, ← h6] at g6
    refine g6.bind b6 fun l6 _ e6 => ?_
    have hE6 : ToksOk l6 := by have := o6.toks; rw [e6] at this; exact this
    have g7 := rmust_good hE6 (bS [41])
    rw [← e6, ← h7] at g7
    refine g7.bind (fun _ => rfl) fun l7 _ e7 => ?_
    exact ⟨by rw [rnum_span o4], e7⟩
  · have a2 := rmust_len (bS [40]) (goodR l0)
    have a4 := rmust_len (bS [91]) r3
    have a5 := rnumber_len 1099511627776 r4
    have a6 := rmust_len (bS [93]) r5
    have a7 := rmust_len (bS [41]) r6
    rw [← h2] at a2
    rw [← h4] at a4
    rw [← h5] at a5
    rw [← h6] at a6
    rw [← h7] at a7
    have : (goodR l0).l.length = l0.length := rfl
    omega
theorem all_fin {X : List Tok → PRes Qn} {l0 : List Tok} (hE : ToksOk l0) {q : Qn} {r2 r3 r4 r7 : Rd} (h2 : r2 = rmust (bS [40]) (goodR l0)) (hok3 : RdOk r3) (hg3 : r2.ok = true → Agr (X r2.l) q r3) (hb3 : r2.ok = false → r3 = r2)
    (h4 : r4 = rmust (bS [41]) r3) (k : Nat) {Q : Qn} (hb4 : r4.ok = false → r7 = r4) (hg4 : r4.ok = true → Agr (byP k q r4.l) Q r7) :
    Agr (bindP (mustP (bS [40]) l0) fun _ l => bindP (X l) fun q l => bindP (mustP (bS [41]) l) fun _ l => byP k q l) Q r7 := by
  have b3 : r3.ok = false → r7 = r3 := fun h => by
    have e : r4 = r3 := by rw [h4, rmust_bad h]
    rw [hb4 (by rw [e]; exact h), e]
  have b2 : r2.ok = false → r7 = r2 := fun h => by
    have e : r3 = r2 := hb3 h
    rw [b3 (by rw [e]; exact h), e]
  have g2 := rmust_good hE (bS [40])
  rw [← h2] at g2
  refine g2.bind b2 fun l2 _ e2 => ?_
  have g3 := hg3 (by rw [e2]; rfl)
  rw [e2] at g3
  refine g3.bind b3 fun l3 _ e3 => ?_
  have hE3 : ToksOk l3 := by have := hok3.toks; rw [e3] at this; exact this
  have g4 := rmust_good hE3 (bS [41])
  rw [← e3, ← h4] at g4
  refine g4.bind hb4 fun l4 _ e4 => ?_
  have := hg4 (by rw [e4]; rfl)
  rw [e4] at this
  exact this
theorem by_fin {k : Nat} {q : Qn} {l4 : List Tok} (ht : takesP (bS [98, 121]) l4 = true) (hE : ToksOk l4.tail) {ns : List ByteArray} {r5 r6 r7 : Rd} (h5 : r5 = rmust (bS [40]) (goodR l4.tail)) (hok6 : RdOk r6) (hg6 : r5.ok = true → Agr (namesL (r5.l.length + 1) [] r5.l) ns r6) (hb6 : r5.ok = false → r6 = r5)
    (h7 : r7 = rmust (bS [41]) r6) : Agr (byP k q l4) (.mk (8 + k) 0 [] 0 ns q .nil) r7 := by
  have b6 : r6.ok = false → r7 = r6 := fun h => by rw [h7, rmust_bad h]
  have b5 : r5.ok = false → r7 = r5 := fun h => by
    have e : r6 = r5 := hb6 h
    rw [b6 (by rw [e]; exact h), e]
  rw [byP, if_pos ht]
  have g5 := rmust_good hE (bS [40])
  rw [← h5] at g5
  refine g5.bind b5 fun l5 _ e5 => ?_
  have g6 := hg6 (by rw [e5]; rfl)
  rw [e5] at g6
  refine g6.bind b6 fun l6 _ e6 => ?_
  have hE6 : ToksOk l6 := by have := hok6.toks; rw [e6] at this; exact this
  have g7 := rmust_good hE6 (bS [41])
  rw [← e6, ← h7] at g7
  exact g7.bind (fun _ => rfl) fun l7 _ e7 => ⟨rfl, e7⟩
def rnm (acc : List ByteArray) (r : Rd) : ByteArray × Rd := rname (rlim acc.length r)
theorem names_round {acc : List ByteArray} {l : List Tok} (hE : ToksOk l) (h8 : acc.length ≤ 8) (f : Nat) :
    if (rnm acc (goodR l)).2.ok = true then ∃ l', (rnm acc (goodR l)).2 = goodR l' ∧ ToksOk l' ∧ l'.length < l.length ∧ acc.length < 8 ∧ namesL (f + 1) acc l = (if takesP (bS [44]) l' = true then namesL f (acc ++ [(rnm acc (goodR l)).1]) l'.tail else .ok (acc ++ [(rnm acc (goodR l)).1], l'))
    else namesL (f + 1) acc l = .error ((rnm acc (goodR l)).2.e, (rnm acc (goodR l)).2.p) := by
  rw [namesL, rnm]
  by_cases h88 : 8 ≤ acc.length
  · have e2 : rlim acc.length (goodR l) = rfail 4 (goodR l) := by rw [rlim, if_pos (by omega)]
    have hno := rfail_not (e := 4) (by decide) l
    rw [if_pos h88, e2, rname_bad hno, if_neg (by rw [hno]; exact Bool.false_ne_true)]
    rfl
  · have e2 : rlim acc.length (goodR l) = goodR l := by rw [rlim, if_neg (by omega)]
    rw [if_neg h88, e2]
    have h1 := rname_good l
    cases hn : nameP l with
    | error ep =>
      rw [hn] at h1
      obtain ⟨z1, z2, z3⟩ := h1
      rw [if_neg (by rw [z3]; exact Bool.false_ne_true), z1, z2]
    | ok v =>
      obtain ⟨s, l'⟩ := v
      rw [hn] at h1
      obtain ⟨z1, z2⟩ := h1
      obtain ⟨_, _, hE'⟩ := nameP_wt hn hE
      rw [z2, if_pos (ok_good l'), z1]
      obtain ⟨t, r, rfl⟩ := hE.cons
      have h3 := (nameP_is hn).1
      cases h3
      exact ⟨_, rfl, hE', by simp, by omega, rfl⟩
theorem find_first_some {L : List ByteArray} {l : List Tok} {j : Nat} (hj : j < L.length) (h1 : ∀ i (hi : i < L.length), i < j → isP L[i] l = false) (h2 : isP L[j] l = true) : (L.findIdx? fun s => isP s l) = some j := by
  rw [List.findIdx?_eq_some_iff_getElem]
  exact ⟨hj, h2, fun i hi => by rw [h1 i (by omega) hi]; exact Bool.false_ne_true⟩
end Go.PL
