/-
  Plain laws: questions: which tokens come of a text; what a text asks. No program is in sight.
-/
import Derived.Test.YtihakhdinkkdmaaGreatDoorK09
namespace Go.PL
open Go Go.GK

theorem tw_take {p : UInt8 → Bool} (l : List UInt8) : l.take (l.takeWhile p).length = l.takeWhile p :=
  (List.prefix_iff_eq_take.1 (List.takeWhile_prefix p)).symm
theorem tw_mem {p : UInt8 → Bool} {l : List UInt8} : ∀ b ∈ l.takeWhile p, p b = true := fun b hb => List.all_eq_true.1 (List.all_takeWhile (p := p) (l := l)) b hb
theorem lexF_tx (l : List UInt8) (h0 : (lexF l).1 ≠ 0) (h18 : ¬ ((lexF l).2 = 2 ∧ 18 < (lexF l).1)) : TxOk (lexF l).2 (l.take (lexF l).1) := by
  cases l with
  | nil => exact absurd rfl h0
  | cons c r =>
    by_cases h1 : letB c = true
    · have e : lexF (c :: r) = (((c :: r).takeWhile fun b => letB b || digB b).length, 1) := by simp only [lexF, h1, if_true]
      rw [e, tw_take]
      refine .inl ⟨rfl, c, r.takeWhile fun b => letB b || digB b, by simp [h1], h1, tw_mem⟩
    by_cases h2 : digB c = true
    · have e : lexF (c :: r) = (((c :: r).takeWhile digB).length, 2) := by simp only [lexF, h1, h2, if_true, Bool.false_eq_true, if_false]
      rw [e] at h18
      rw [e, tw_take]
      refine .inr (.inl ⟨rfl, by simp [h2], ?_, tw_mem⟩)
      exact Nat.le_of_not_lt fun h => h18 ⟨rfl, h⟩
    by_cases h3 : c.toNat = 34
    · have e : lexF (c :: r) = (match r.findIdx? (· == 34) with | some j => j + 2 | none => 0, 3) := by
        unfold lexF
        simp only [h1, h2, Bool.false_eq_true, if_false]
        rw [if_pos h3]
        rfl
      rw [e] at h0
      rw [e]
      cases h : r.findIdx? (· == 34) with
      | none => rw [h] at h0; exact absurd rfl h0
      | some j =>
        obtain ⟨hj, hp, hn⟩ := List.findIdx?_eq_some_iff_getElem.1 h
        have hc : c = 34 := UInt8.toNat_inj.1 h3
        refine .inr (.inr (.inl ⟨rfl, r.take j, ?_, ?_⟩))
        · show (c :: r).take (j + 2) = _
          have h5 : r[j] = 34 := by simpa using hp
          rw [hc, List.take_succ_cons, List.take_succ_eq_append_getElem hj, h5]
          rfl
        · intro b hb
          obtain ⟨i, hi, he⟩ := List.getElem_of_mem hb
          have hij : i < j := by simp at hi; omega
          have h6 := hn i hij
          have h7 : r[i]'(by omega) = b := by simpa using he
          rw [h7] at h6
          intro hb34
          have : b = 34 := UInt8.toNat_inj.1 hb34
          rw [this] at h6
          simp at h6
    · have e : lexF (c :: r) = (match marksL.find? (fun m => m.isPrefixOf (c :: r)) with | some m => m.length | none => 0, 4) := by
        unfold lexF
        simp only [h1, h2, Bool.false_eq_true, if_false]
        rw [if_neg h3]
        rfl
      rw [e] at h0
      rw [e]
      cases h : marksL.find? (fun m => m.isPrefixOf (c :: r)) with
      | none => rw [h] at h0; exact absurd rfl h0
      | some m =>
        refine .inr (.inr (.inr ⟨rfl, ?_⟩))
        show (c :: r).take m.length ∈ marksL
        rw [← List.prefix_iff_eq_take.1 (List.isPrefixOf_iff_prefix.1 (List.find?_some (p := fun m : List UInt8 => m.isPrefixOf (c :: r)) h))]
        exact List.mem_of_find?_eq_some h
theorem tok_toks (s : List UInt8) (hs : s.length ≤ 1000) : ∀ (f i cnt : Nat) (l : List Tok), tokF s f i cnt = .ok l → cnt ≤ 120 → ToksOk l ∧ cnt + l.length ≤ 121
  | 0, _, _, _, h, _ => by simp [tokF] at h
  | f + 1, i, cnt, l, h, hc => by
    rw [tokF] at h
    simp only at h
    generalize hk : ((s.drop i).takeWhile (· == 32)).length = k at h
    by_cases he : s.length ≤ i + k
    · rw [if_pos he] at h
      cases h
      refine ⟨⟨fun t ht => ?_, [], _, rfl, rfl⟩, by simp; omega⟩
      rw [List.mem_singleton.1 ht]
      exact ⟨.inr ⟨rfl, rfl⟩, show (ByteArray.mk #[]).size ≤ 1000 by decide⟩
    rw [if_neg he] at h
    have hx := lexF_tx (s.drop (i + k))
    have hle := lexF_le (s.drop (i + k))
    generalize lexF (s.drop (i + k)) = nk at h hx hle
    obtain ⟨n, kd⟩ := nk
    simp only at h hx hle
    by_cases hn : n = 0
    · rw [if_pos hn] at h; cases h
    rw [if_neg hn] at h
    by_cases hl : (kd = 2 ∧ 18 < n) ∨ 120 ≤ cnt
    · rw [if_pos hl] at h; cases h
    rw [if_neg hl] at h
    cases hr : tokF s f (i + k + n) (cnt + 1) with
    | error e => rw [hr] at h; cases h
    | ok l2 =>
      rw [hr] at h
      cases h
      obtain ⟨h1, h2⟩ := tok_toks s hs f _ _ l2 hr (by omega)
      obtain ⟨a, e, h3, h4⟩ := h1.last
      refine ⟨⟨fun t ht => ?_, _ :: a, e, by rw [h3]; rfl, h4⟩, by simp; omega⟩
      rcases List.mem_cons.1 ht with rfl | ht
      · refine ⟨.inl ?_, ?_⟩
        · simpa using hx hn (fun h => hl (.inl h))
        · show ((s.drop (i + k)).take n).toArray.size ≤ 1000
          simp
          omega
      · exact h1.each t ht
def parseF (s : List UInt8) : Except (Int × Int) Qn := match tokF s (s.length + 1) 0 0 with
  | .error e => .error e
  | .ok l => match sumP (3 * l.length + 3) 0 l with
    | .error e => .error e
    | .ok (q, l') => if (hdT l').kind ≠ 5 then .error (3, (hdT l').pos) else .ok q
def matchF (s : List UInt8) : Except (Int × Int) (List Mt) := match tokF s (s.length + 1) 0 0 with
  | .error e => .error e
  | .ok l => match matchersP l with
    | .error e => .error e
    | .ok (m, l') => if (hdT l').kind ≠ 5 then .error (3, (hdT l').pos) else .ok m
end Go.PL
/-
  Plain laws: the document's reader of questions: its steps, and what they come to. No program is in sight.
-/
namespace Go.PL
open Go Go.GK

structure Rd where
  l : List Tok
  e : Int
  p : Int
def Rd.ok (r : Rd) : Bool := r.e == 0
def goodR (l : List Tok) : Rd := ⟨l, 0, -1⟩
def rfail (e : Int) (r : Rd) : Rd := if r.ok then ⟨r.l, e, (hdT r.l).pos⟩ else r
def rsee (s : ByteArray) (r : Rd) : Bool := r.ok && (sEq (hdT r.l).text s && decide ((hdT r.l).kind = 1 ∨ (hdT r.l).kind = 2 ∨ (hdT r.l).kind = 4))
theorem rsee_eq (s : ByteArray) (t : Tok) (l : List Tok) (e p : Int) : rsee s ⟨t :: l, e, p⟩ = (Rd.ok ⟨t :: l, e, p⟩ && (sEq t.text s && ((t.kind == 1) || ((t.kind == 2) || (t.kind == 4))))) := by
  show (_ && (_ && decide (t.kind = 1 ∨ t.kind = 2 ∨ t.kind = 4))) = _
  congr 2
  rw [Bool.eq_iff_iff]
  simp
def rtail (r : Rd) : Rd := ⟨r.l.tail, r.e, r.p⟩
def rmust (s : ByteArray) (r : Rd) : Rd := if rsee s r then rtail r else rfail 3 r
def rkind1 (k : Int) (r : Rd) : Rd := if (hdT r.l).kind = k then r else rfail 3 r
def rkind (k : Int) (r : Rd) : ByteArray × Rd := if (rkind1 k r).ok then ((hdT r.l).text, rtail r) else (⟨#[]⟩, rkind1 k r)
def rname1 (r : Rd) : Rd := if (hdT r.l).kind = 1 ∧ nameF (hdT r.l).text = false then rfail 4 r else r
def rname (r : Rd) : ByteArray × Rd := rkind 1 (rname1 r)
def rnum (r : Rd) : Int := if (hdT r.l).kind = 2 then numT (hdT r.l).text else 0
def rnumber1 (most : Int) (r : Rd) : Rd := if (hdT r.l).kind = 2 ∧ most < rnum r then rfail 4 r else r
def rnumber (most : Int) (r : Rd) : Rd := (rkind 2 (rnumber1 most r)).2
def Tok5 (t : Tok) : Prop := t.kind = 1 ∨ t.kind = 2 ∨ t.kind = 3 ∨ t.kind = 4 ∨ t.kind = 5
theorem Tok.Ok.five {t : Tok} (h : t.Ok) : Tok5 t := by
  unfold Tok5
  rcases h with (⟨h, _⟩ | ⟨h, _⟩ | ⟨h, _⟩ | ⟨h, _⟩) | ⟨h, _⟩ <;> omega
theorem ok_good (l : List Tok) : (goodR l).ok = true := rfl
structure RdOk (r : Rd) : Prop where
  toks : ToksOk r.l
  p : r.ok = true → r.p = -1
theorem RdOk.good {r : Rd} (h : RdOk r) (ho : r.ok = true) : r = goodR r.l := by
  obtain ⟨l, e, p⟩ := r
  have h1 : e = 0 := by simpa [Rd.ok] using ho
  have h2 : p = -1 := h.p ho
  rw [h1, h2]
  rfl
theorem rsee_good {l : List Tok} (hE : ToksOk l) (s : ByteArray) : rsee s (goodR l) = takesP s l := by
  obtain ⟨t, r, rfl⟩ := hE.cons
  have h5 := (hE.each t List.mem_cons_self).1.five
  simp only [rsee, ok_good, Bool.true_and, takesP, isP, Bool.and_assoc]
  show (sEq t.text s && decide (t.kind = 1 ∨ t.kind = 2 ∨ t.kind = 4)) = (sEq t.text s && (decide (t.kind ≠ 3) && decide (t.kind ≠ 5)))
  congr 1
  rw [Bool.eq_iff_iff, Bool.and_eq_true, decide_eq_true_iff, decide_eq_true_iff, decide_eq_true_iff]
  unfold Tok5 at h5
  omega
theorem rsee_bad {r : Rd} (h : r.ok = false) (s : ByteArray) : rsee s r = false := by simp [rsee, h]
theorem rfail_bad {r : Rd} (h : r.ok = false) (e : Int) : rfail e r = r := by simp [rfail, h]
theorem rmust_bad {r : Rd} (h : r.ok = false) (s : ByteArray) : rmust s r = r := by simp [rmust, rsee_bad h, rfail_bad h]
theorem rkind1_bad {r : Rd} (h : r.ok = false) (k : Int) : rkind1 k r = r := by simp [rkind1, rfail_bad h]
theorem rkind_bad {r : Rd} (h : r.ok = false) (k : Int) : rkind k r = (⟨#[]⟩, r) := by simp [rkind, rkind1_bad h, h]
theorem rname_bad {r : Rd} (h : r.ok = false) : rname r = (⟨#[]⟩, r) := by simp [rname, rname1, rfail_bad h, rkind_bad h]
theorem rnumber_bad {r : Rd} (h : r.ok = false) (m : Int) : rnumber m r = r := by simp [rnumber, rnumber1, rfail_bad h, rkind_bad h]
def Agr {α : Type} (x : PRes α) (a : α) (r : Rd) : Prop := match x with
  | .ok (b, l) => a = b ∧ r = goodR l
  | .error (e, p) => r.e = e ∧ r.p = p ∧ r.ok = false
theorem Agr.fail {α : Type} {e : Int} (he : e ≠ 0) (l : List Tok) (a : α) : Agr (failP e l) a (rfail e (goodR l)) := ⟨rfl, rfl, by rw [rfail, if_pos (ok_good l)]; simpa [Rd.ok] using he⟩
theorem rfail_not {e : Int} (he : e ≠ 0) (l : List Tok) : (rfail e (goodR l)).ok = false := by rw [rfail, if_pos (ok_good l)]; simpa [Rd.ok] using he
theorem rmust_good {l : List Tok} (hE : ToksOk l) (s : ByteArray) : Agr (mustP s l) () (rmust s (goodR l)) := by
  rw [mustP, rmust, rsee_good hE]
  cases takesP s l with
  | true => exact ⟨rfl, rfl⟩
  | false => exact Agr.fail (by decide) l ()
theorem rkind_good (l : List Tok) (k : Int) : Agr (anyP k l) (rkind k (goodR l)).1 (rkind k (goodR l)).2 := by
  rw [anyP, rkind, rkind1]
  by_cases h : (hdT l).kind = k
  · rw [if_pos h, if_pos (show (hdT (goodR l).l).kind = k from h), if_pos (ok_good l)]
    exact ⟨rfl, rfl⟩
  · rw [if_neg h, if_neg (show ¬ (hdT (goodR l).l).kind = k from h), rfail_not (by decide)]
    exact Agr.fail (by decide) l _
theorem rname_good (l : List Tok) : Agr (nameP l) (rname (goodR l)).1 (rname (goodR l)).2 := by
  rw [nameP, rname, rname1]
  by_cases h : (hdT l).kind = 1 ∧ nameF (hdT l).text = false
  · rw [if_pos h, if_pos (show (hdT (goodR l).l).kind = 1 ∧ nameF (hdT (goodR l).l).text = false from h), rkind_bad (rfail_not (by decide) l)]
    exact Agr.fail (by decide) l _
  · rw [if_neg h, if_neg (show ¬ ((hdT (goodR l).l).kind = 1 ∧ nameF (hdT (goodR l).l).text = false) from h)]
    exact rkind_good l 1
theorem rnumber_good (l : List Tok) (m : Int) : Agr (numberP m l) (rnum (goodR l)) (rnumber m (goodR l)) := by
  rw [numberP, rnumber, rnumber1]
  by_cases h : (hdT l).kind = 2 ∧ m < numT (hdT l).text
  · have h2 : (hdT (goodR l).l).kind = 2 ∧ m < rnum (goodR l) := ⟨h.1, by rw [rnum, if_pos (show (hdT (goodR l).l).kind = 2 from h.1)]; exact h.2⟩
    rw [if_pos h, if_pos h2, rkind_bad (rfail_not (by decide) l)]
    exact Agr.fail (by decide) l _
  · have h2 : ¬ ((hdT (goodR l).l).kind = 2 ∧ m < rnum (goodR l)) := fun h' => h ⟨h'.1, by have := h'.2; rw [rnum, if_pos h'.1] at this; exact this⟩
    rw [if_neg h, if_neg h2]
    have h3 := rkind_good l 2
    rw [anyP] at h3 ⊢
    by_cases hk : (hdT l).kind = 2
    · rw [if_pos hk] at h3 ⊢
      exact ⟨by rw [rnum, if_pos (show (hdT (goodR l).l).kind = 2 from hk)]; rfl, h3.2⟩
    · rw [if_neg hk] at h3 ⊢
      exact h3
theorem RdOk.fails {r : Rd} (h : RdOk r) {e : Int} (he : e ≠ 0) : RdOk (rfail e r) := by
  unfold rfail
  cases ho : r.ok with
  | true =>
    rw [if_pos rfl]
    exact ⟨h.toks, fun h' => absurd (by simpa [Rd.ok] using h') he⟩
  | false => rw [if_neg Bool.false_ne_true]; exact h
theorem see_k {r : Rd} {s : ByteArray} (h : rsee s r = true) : (hdT r.l).kind ≠ 5 := by
  simp only [rsee, Bool.and_eq_true, decide_eq_true_iff] at h
  omega
theorem RdOk.tl {r : Rd} (h : RdOk r) (hk : (hdT r.l).kind ≠ 5) : RdOk (rtail r) := by
  obtain ⟨t, l, e⟩ := h.toks.cons
  have := h.toks
  rw [e] at this hk
  refine ⟨?_, h.p⟩
  show ToksOk r.l.tail
  rw [e]
  exact this.tail hk
theorem RdOk.must {r : Rd} (h : RdOk r) (s : ByteArray) : RdOk (rmust s r) := by
  unfold rmust
  cases hs : rsee s r with
  | true => rw [if_pos rfl]; exact h.tl (see_k hs)
  | false => rw [if_neg Bool.false_ne_true]; exact h.fails (by decide)
theorem RdOk.kind {r : Rd} (h : RdOk r) {k : Int} (hk : k ≠ 5) : RdOk (rkind k r).2 := by
  have h1 : RdOk (rkind1 k r) := by
    unfold rkind1
    by_cases hc : (hdT r.l).kind = k
    · rw [if_pos hc]; exact h
    · rw [if_neg hc]; exact h.fails (by decide)
  unfold rkind
  cases ho : (rkind1 k r).ok with
  | true =>
    rw [if_pos rfl]
    refine h.tl ?_
    intro h5
    unfold rkind1 at ho
    rw [if_neg (by omega)] at ho
    unfold rfail at ho
    cases hr : r.ok with
    | true => rw [hr, if_pos rfl] at ho; simp [Rd.ok] at ho
    | false => rw [hr, if_neg Bool.false_ne_true, hr] at ho; cases ho
  | false => rw [if_neg Bool.false_ne_true]; exact h1
theorem RdOk.name {r : Rd} (h : RdOk r) : RdOk (rname r).2 := by
  refine RdOk.kind ?_ (by decide)
  unfold rname1
  split
  · exact h.fails (by decide)
  · exact h
theorem RdOk.number {r : Rd} (h : RdOk r) (m : Int) : RdOk (rnumber m r) := by
  refine RdOk.kind ?_ (by decide)
  unfold rnumber1
  split
  · exact h.fails (by decide)
  · exact h
theorem rtail_len (r : Rd) : (rtail r).l.length = r.l.length - 1 := by simp [rtail]
theorem rfail_l (e : Int) (r : Rd) : (rfail e r).l = r.l := by
  unfold rfail
  split <;> rfl
theorem rmust_len (s : ByteArray) (r : Rd) : (rmust s r).l.length ≤ r.l.length := by
  unfold rmust
  split
  · rw [rtail_len]; omega
  · rw [rfail_l]; exact Nat.le_refl _
theorem rkind_len (k : Int) (r : Rd) : (rkind k r).2.l.length ≤ r.l.length := by
  unfold rkind
  split
  · show (rtail r).l.length ≤ _
    rw [rtail_len]; omega
  · show (rkind1 k r).l.length ≤ _
    unfold rkind1
    split
    · exact Nat.le_refl _
    · rw [rfail_l]; exact Nat.le_refl _
theorem rname_len (r : Rd) : (rname r).2.l.length ≤ r.l.length := by
  refine Nat.le_trans (rkind_len 1 _) ?_
  unfold rname1
  split
  · rw [rfail_l]; exact Nat.le_refl _
  · exact Nat.le_refl _
theorem rnumber_len (m : Int) (r : Rd) : (rnumber m r).l.length ≤ r.l.length := by
  refine Nat.le_trans (rkind_len 2 _) ?_
  unfold rnumber1
  split
  · rw [rfail_l]; exact Nat.le_refl _
  · exact Nat.le_refl _
end Go.PL
/-
  Plain laws: questions: how they are printed. No program is in sight.
-/
namespace Go.PL
open Go Go.GK
def lvl (c : Int) : Nat := if c = 13 ∨ c = 14 then 0 else if c = 15 ∨ c = 16 then 1 else 2
theorem lvl_le (c : Int) : lvl c ≤ 2 := by unfold lvl; split <;> (try split) <;> omega

def bL (s : ByteArray) : List UInt8 := s.data.toList
theorem bS_bL (s : ByteArray) : bS (bL s) = s := by cases s; simp [bS, bL]
theorem bL_bS (l : List UInt8) : bL (bS l) = l := by simp [bS, bL]
theorem bS_inj {a b : List UInt8} (h : bS a = bS b) : a = b := by rw [← bL_bS a, ← bL_bS b, h]
theorem bL_len (s : ByteArray) : (bL s).length = s.size := by simp [bL]
theorem bS_append (a b : List UInt8) : bS (a ++ b) = bS a ++ bS b := by
  apply ByteArray.ext
  simp [bS]
def sepX (y : Lx) : List (List Lx) → List Lx
  | [] => []
  | [x] => x
  | x :: r => x ++ y :: sepX y r
def mtX (m : Mt) : List Lx := [wL (bL m.name), mL (bL (opsL.getD m.op.toNat ⟨#[]⟩)), qL (bL m.value)]
def msX (l : List Mt) : List Lx := mL [123] :: (sepX (mL [44]) (l.map mtX) ++ [mL [125]])
def byX (l : List ByteArray) : List Lx := sepX ⟨0, [44], 4, 1⟩ (l.map fun s => [wL (bL s)])
def parX (x : List Lx) : List Lx := mL [40] :: (x ++ [mL [41]])
def symX (c : Int) : List UInt8 := if c = 13 then [43] else if c = 14 then [45] else if c = 15 then [42] else [47]
def binX (c : Int) : Lx := ⟨1, symX c, 4, 1⟩
def bysX (b : List ByteArray) : List Lx := match b with
  | [] => []
  | s :: r => ⟨1, [98, 121], 1, 1⟩ :: parX (byX (s :: r))
def ifP (b : Bool) (x : List Lx) : List Lx := if b then parX x else x
def atX : Qn → Nat → List Lx
  | .nil, _ => []
  | .mk c num m span b l r, least => ifP (decide (lvl c < least))
    (if c = 1 then [dL (Lib.itoa num)]
     else if c = 2 then msX m
     else if 3 ≤ c ∧ c ≤ 7 then wL (bL (oversL.getD (c - 3).toNat ⟨#[]⟩)) :: parX (msX m ++ [mL [91], dL (Lib.itoa span), mL [93]])
     else if 8 ≤ c ∧ c ≤ 11 then wL (bL (allsL.getD (c - 8).toNat ⟨#[]⟩)) :: (parX (atX l 0) ++ bysX b)
     else if c = 12 then mL [45] :: atX l 2
     else if lvl c < 2 then atX l (lvl c) ++ binX c :: atX r (lvl c + 1)
     else [])
def printF (q : Qn) : ByteArray := bS (bytesL (atX q 0))
def printM (l : List Mt) : ByteArray := bS (bytesL (msX l))

def MOk (m : Mt) : Prop := nameF m.name = true ∧ valueF m.value = true ∧ 0 ≤ m.op ∧ m.op ≤ 3
def MsOk (l : List Mt) : Prop := (∀ m ∈ l, MOk m) ∧ l.length ≤ 8
inductive Wf : Qn → Prop
  | num (n : Int) (h0 : 0 ≤ n) (h1 : n < 1000000000000000000) : Wf (.mk 1 n [] 0 [] .nil .nil)
  | pick (m : List Mt) (h : MsOk m) : Wf (.mk 2 0 m 300 [] .nil .nil)
  | over (k : Nat) (hk : k < 5) (m : List Mt) (h : MsOk m) (sp : Int) (h1 : 1 ≤ sp) (h2 : sp ≤ 1099511627776) : Wf (.mk (3 + k) 0 m sp [] .nil .nil)
  | all (k : Nat) (hk : k < 4) (b : List ByteArray) (hb : ∀ s ∈ b, nameF s = true) (hl : b.length ≤ 8) (q : Qn) (hq : Wf q) : Wf (.mk (8 + k) 0 [] 0 b q .nil)
  | neg (q : Qn) (hq : Wf q) : Wf (.mk 12 0 [] 0 [] q .nil)
  | add (k : Nat) (hk : k < 2) (l r : Qn) (hl : Wf l) (hr : Wf r) : Wf (.mk (13 + k) 0 [] 0 [] l r)
  | mul (k : Nat) (hk : k < 2) (l r : Qn) (hl : Wf l) (hr : Wf r) : Wf (.mk (15 + k) 0 [] 0 [] l r)
def Qn.code : Qn → Int
  | .nil => 0
  | .mk c .. => c
def dep : Qn → Nat → Nat
  | .nil, _ => 0
  | .mk c _ _ _ _ l r, least => (if lvl c < least then 1 else 0) +
    (if 8 ≤ c ∧ c ≤ 11 then 1 + dep l 0 else if c = 12 then 1 + dep l 2 else if lvl c < 2 then max (dep l (lvl c)) (dep r (lvl c + 1)) else 0)

theorem atX_num (n : Int) (least : Nat) (h : least ≤ 2) : atX (.mk 1 n [] 0 [] .nil .nil) least = [dL (Lib.itoa n)] := by
  have : ¬ (2 < least) := by omega
  simp [atX, lvl, ifP, this]
theorem atX_pick (m : List Mt) (least : Nat) (h : least ≤ 2) : atX (.mk 2 0 m 300 [] .nil .nil) least = msX m := by
  have : ¬ (2 < least) := by omega
  simp [atX, lvl, ifP, this]
theorem atX_over (k : Nat) (hk : k < 5) (m : List Mt) (sp : Int) (least : Nat) (h : least ≤ 2) : atX (.mk (3 + k) 0 m sp [] .nil .nil) least = wL (bL (oversL.getD k ⟨#[]⟩)) :: parX (msX m ++ [mL [91], dL (Lib.itoa sp), mL [93]]) := by
  have h1 : ¬ (lvl (3 + k) < least) := by
    have : lvl (3 + k) = 2 := by rw [lvl, if_neg (by omega), if_neg (by omega)]
    omega
  have h2 : ((3 + k : Int) - 3).toNat = k := by omega
  rw [atX, if_neg (by omega), if_neg (by omega), if_pos (by omega), h2, decide_eq_false h1]
  rfl
theorem atX_all (k : Nat) (hk : k < 4) (b : List ByteArray) (q : Qn) (least : Nat) (h : least ≤ 2) : atX (.mk (8 + k) 0 [] 0 b q .nil) least = wL (bL (allsL.getD k ⟨#[]⟩)) :: (parX (atX q 0) ++ bysX b) := by
  have h1 : ¬ (lvl (8 + k) < least) := by
    have : lvl (8 + k) = 2 := by rw [lvl, if_neg (by omega), if_neg (by omega)]
    omega
  have h2 : ((8 + k : Int) - 8).toNat = k := by omega
  rw [atX, if_neg (by omega), if_neg (by omega), if_neg (by omega), if_pos (by omega), h2, decide_eq_false h1]
  rfl
theorem atX_neg (q : Qn) (least : Nat) (h : least ≤ 2) : atX (.mk 12 0 [] 0 [] q .nil) least = mL [45] :: atX q 2 := by
  have h1 : ¬ (lvl 12 < least) := by
    have : lvl 12 = 2 := rfl
    omega
  rw [atX, if_neg (by omega), if_neg (by omega), if_neg (by omega), if_neg (by omega), if_pos rfl, decide_eq_false h1]
  rfl
theorem lvl_add (k : Nat) (hk : k < 2) : lvl (13 + k) = 0 := by rw [lvl, if_pos (by omega)]
theorem lvl_mul (k : Nat) (hk : k < 2) : lvl (15 + k) = 1 := by rw [lvl, if_neg (by omega), if_pos (by omega)]
theorem atX_add (k : Nat) (hk : k < 2) (l r : Qn) (least : Nat) : atX (.mk (13 + k) 0 [] 0 [] l r) least = ifP (decide (0 < least)) (atX l 0 ++ binX (13 + k) :: atX r 1) := by
  have h1 := lvl_add k hk
  rw [atX, if_neg (by omega), if_neg (by omega), if_neg (by omega), if_neg (by omega), if_neg (by omega), if_pos (by omega), h1]
theorem atX_mul (k : Nat) (hk : k < 2) (l r : Qn) (least : Nat) : atX (.mk (15 + k) 0 [] 0 [] l r) least = ifP (decide (1 < least)) (atX l 1 ++ binX (15 + k) :: atX r 2) := by
  have h1 := lvl_mul k hk
  rw [atX, if_neg (by omega), if_neg (by omega), if_neg (by omega), if_neg (by omega), if_neg (by omega), if_pos (by omega), h1]
theorem dep_num (n : Int) (least : Nat) (h : least ≤ 2) : dep (.mk 1 n [] 0 [] .nil .nil) least = 0 := by
  have : ¬ (2 < least) := by omega
  simp [dep, lvl, this]
theorem dep_pick (m : List Mt) (least : Nat) (h : least ≤ 2) : dep (.mk 2 0 m 300 [] .nil .nil) least = 0 := by
  have : ¬ (2 < least) := by omega
  simp [dep, lvl, this]
theorem dep_over (k : Nat) (hk : k < 5) (m : List Mt) (sp : Int) (least : Nat) (h : least ≤ 2) : dep (.mk (3 + k) 0 m sp [] .nil .nil) least = 0 := by
  have h1 : lvl (3 + k) = 2 := by rw [lvl, if_neg (by omega), if_neg (by omega)]
  rw [dep, if_neg (by omega), if_neg (by omega), if_neg (by omega), if_neg (by omega)]
theorem dep_all (k : Nat) (hk : k < 4) (b : List ByteArray) (q : Qn) (least : Nat) (h : least ≤ 2) : dep (.mk (8 + k) 0 [] 0 b q .nil) least = 1 + dep q 0 := by
  have h1 : lvl (8 + k) = 2 := by rw [lvl, if_neg (by omega), if_neg (by omega)]
  rw [dep, if_neg (by omega), if_pos (by omega), Nat.zero_add]
theorem dep_neg (q : Qn) (least : Nat) (h : least ≤ 2) : dep (.mk 12 0 [] 0 [] q .nil) least = 1 + dep q 2 := by
  have h1 : lvl 12 = 2 := rfl
  rw [dep, if_neg (by omega), if_neg (by omega), if_pos rfl, Nat.zero_add]
theorem dep_add (k : Nat) (hk : k < 2) (l r : Qn) (least : Nat) : dep (.mk (13 + k) 0 [] 0 [] l r) least = (if 0 < least then 1 else 0) + max (dep l 0) (dep r 1) := by
  have h1 := lvl_add k hk
  rw [dep, if_neg (show ¬ (8 ≤ (13 + k : Int) ∧ (13 + k : Int) ≤ 11) by omega), if_neg (show ¬ ((13 + k : Int) = 12) by omega), h1, if_pos (show 0 < 2 by omega)]
theorem dep_mul (k : Nat) (hk : k < 2) (l r : Qn) (least : Nat) : dep (.mk (15 + k) 0 [] 0 [] l r) least = (if 1 < least then 1 else 0) + max (dep l 1) (dep r 2) := by
  have h1 := lvl_mul k hk
  rw [dep, if_neg (show ¬ (8 ≤ (15 + k : Int) ∧ (15 + k : Int) ≤ 11) by omega), if_neg (show ¬ ((15 + k : Int) = 12) by omega), h1, if_pos (show 1 < 2 by omega)]

def wx (c : Nat) (l : List Lx) : Nat := (l.map fun x => c + x.text.length).sum
def wt (c : Nat) (l : List Tok) : Nat := (l.map fun t => c + t.text.size).sum
theorem wx_cons (c : Nat) (x : Lx) (l : List Lx) : wx c (x :: l) = c + x.text.length + wx c l := by simp [wx]
theorem wx_append (c : Nat) (a b : List Lx) : wx c (a ++ b) = wx c a + wx c b := by simp [wx]
theorem wx_nil (c : Nat) : wx c [] = 0 := rfl
theorem wt_cons (c : Nat) (x : Tok) (l : List Tok) : wt c (x :: l) = c + x.text.size + wt c l := by simp [wt]
theorem wx_parX (c : Nat) (x : List Lx) : wx c (parX x) = 2 * c + 2 + wx c x := by
  simp only [parX, wx_cons, wx_append, wx_nil, mL, List.length_cons, List.length_nil]
  omega
theorem sepX_snoc (y : Lx) (l : List (List Lx)) (x : List Lx) : sepX y (l ++ [x]) = if l = [] then x else sepX y l ++ y :: x := by
  induction l with
  | nil => rfl
  | cons a r ih =>
    rw [if_neg (by simp)]
    cases r with
    | nil => rfl
    | cons b r =>
      have : sepX y (a :: b :: r ++ [x]) = a ++ y :: sepX y (b :: r ++ [x]) := rfl
      rw [this, ih, if_neg (by simp)]
      simp [sepX]
theorem at_le (q : Qn) (a b : Nat) (h : a ≤ b) : dep q a ≤ dep q b ∧ ∀ c, wx c (atX q a) ≤ wx c (atX q b) := by
  cases q with
  | nil => exact ⟨Nat.le_refl _, fun _ => Nat.le_refl _⟩
  | mk c n m s bb l r =>
    have hh : ∀ x y : Nat, (if lvl c < a then 1 else 0) + x ≤ (if lvl c < b then 1 else 0) + x := fun x _ => by
      by_cases h1 : lvl c < a
      · rw [if_pos h1, if_pos (by omega)]; exact Nat.le_refl _
      · rw [if_neg h1]; omega
    have hp : ∀ (w : Nat) (x : List Lx), wx w (ifP (decide (lvl c < a)) x) ≤ wx w (ifP (decide (lvl c < b)) x) := fun w x => by
      by_cases h1 : lvl c < a
      · rw [decide_eq_true h1, decide_eq_true (by omega)]; exact Nat.le_refl _
      · rw [decide_eq_false h1]
        by_cases h2 : lvl c < b
        · rw [decide_eq_true h2]
          show wx w x ≤ wx w (parX x)
          rw [wx_parX]; omega
        · rw [decide_eq_false h2]; exact Nat.le_refl _
    exact ⟨hh _ 0, fun w => hp w _⟩
end Go.PL
/-
  Plain laws: questions: what is read is a question that stands no deeper, and is printed no longer, than the text. No program is in sight.
-/
namespace Go.PL
open Go Go.GK

theorem isP_ok {s : ByteArray} {l : List Tok} (h : isP s l = true) (hE : ToksOk l) : ∃ t r, l = t :: r ∧ t.text = s ∧ t.kind ≠ 3 := by
  obtain ⟨t, r, rfl⟩ := hE.cons
  rw [isP, Bool.and_eq_true, decide_eq_true_iff, sEq_iff] at h
  exact ⟨t, r, rfl, h.1, h.2⟩
theorem takesP_ok {s : ByteArray} {l : List Tok} (h : takesP s l = true) (hE : ToksOk l) : ∃ t r, l = t :: r ∧ l.tail = r ∧ t.text = s ∧ ToksOk r := by
  rw [takesP, Bool.and_eq_true, decide_eq_true_iff] at h
  obtain ⟨t, r, rfl, h1, h2⟩ := isP_ok h.1 hE
  exact ⟨t, r, rfl, rfl, h1, hE.tail h.2⟩
theorem mustP_ok {s : ByteArray} {l l' : List Tok} {u : Unit} (h : mustP s l = .ok (u, l')) (hE : ToksOk l) : (∀ c, wt c l = c + s.size + wt c l') ∧ ToksOk l' := by
  by_cases hc : takesP s l = true
  · rw [mustP, if_pos hc] at h
    cases h
    obtain ⟨t, r, rfl, _, rfl, h3⟩ := takesP_ok hc hE
    exact ⟨fun c => wt_cons c t r, h3⟩
  · rw [mustP, if_neg hc] at h
    cases h
theorem takesP_wt {s : ByteArray} {l : List Tok} (h : takesP s l = true) (hE : ToksOk l) : (∀ c, wt c l = c + s.size + wt c l.tail) ∧ ToksOk l.tail := by
  obtain ⟨t, r, rfl, _, rfl, h3⟩ := takesP_ok h hE
  exact ⟨fun c => wt_cons c t r, h3⟩
theorem anyP_ok {k : Int} {l l' : List Tok} {s : ByteArray} (h : anyP k l = .ok (s, l')) (hk : k ≠ 5) (hE : ToksOk l) : ∃ t, l = t :: l' ∧ t.text = s ∧ t.kind = k ∧ ToksOk l' := by
  obtain ⟨t, r, rfl⟩ := hE.cons
  by_cases hc : t.kind = k
  · have : anyP k (t :: r) = .ok (t.text, r) := if_pos hc
    rw [this] at h
    cases h
    exact ⟨t, rfl, rfl, hc, hE.tail (by rw [hc]; exact hk)⟩
  · have : anyP k (t :: r) = failP 3 (t :: r) := if_neg hc
    rw [this] at h
    cases h
theorem nameP_wt {l l' : List Tok} {s : ByteArray} (h : nameP l = .ok (s, l')) (hE : ToksOk l) : nameF s = true ∧ (∀ c, wt c l = c + s.size + wt c l') ∧ ToksOk l' := by
  obtain ⟨t, r, rfl⟩ := hE.cons
  obtain ⟨h1, h2⟩ := nameP_is h
  have h3 := nameP_ok h h2
  cases h1
  exact ⟨h3, fun c => wt_cons c t _, hE.tail (by omega)⟩
theorem digs_lt : ∀ (l : List UInt8) (acc : Nat), (∀ b ∈ l, digB b = true) → ∃ n : Nat, l.foldl (fun (n : Int) c => n * 10 + ((c.toNat : Int) - 48)) (acc : Int) = n ∧ n < (acc + 1) * 10 ^ l.length
  | [], acc, _ => ⟨acc, rfl, by simp⟩
  | c :: r, acc, h => by
    have hc := dig_sub (h c List.mem_cons_self)
    obtain ⟨n, h1, h2⟩ := digs_lt r (acc * 10 + (c.toNat - 48)) (fun b hb => h b (List.mem_cons_of_mem _ hb))
    refine ⟨n, ?_, ?_⟩
    · rw [← h1, List.foldl_cons]
      congr 1
      omega
    · refine Nat.lt_of_lt_of_le h2 ?_
      rw [List.length_cons, Nat.pow_succ, Nat.mul_comm (10 ^ r.length) 10, ← Nat.mul_assoc]
      exact Nat.mul_le_mul_right _ (by omega)
theorem nDig_le : ∀ (k u : Nat), 1 ≤ k → u < 10 ^ k → Lib.nDigits u ≤ k
  | 0, _, h, _ => absurd h (by omega)
  | 1, u, _, h => by rw [Lib.nDigits_small (by simpa using h)]; exact Nat.le_refl _
  | k + 2, u, _, h => by
    by_cases h1 : u < 10
    · rw [Lib.nDigits_small h1]; omega
    · rw [Lib.nDigits_big h1]
      have := nDig_le (k + 1) (u / 10) (by omega) (by rw [Nat.pow_succ] at h; omega)
      omega
theorem itoa_len {n : Int} (h0 : 0 ≤ n) {k : Nat} (hk : 1 ≤ k) (h : n < (10 ^ k : Nat)) : (Lib.itoa n).length ≤ k := by
  rw [Lib.itoa, if_neg (by omega), Lib.decDigits_length]
  exact nDig_le k _ hk (by omega)
theorem num_wt {t : Tok} (h : t.Ok) (hk : t.kind = 2) : (Lib.itoa (numT t.text)).length ≤ t.text.size ∧ 1 ≤ t.text.size := by
  obtain ⟨h1, h2, _⟩ := num_tok h hk
  rcases h with (⟨h, _⟩ | ⟨_, g1, g2, g3⟩ | ⟨h, _⟩ | ⟨h, _⟩) | ⟨h, _⟩
  · omega
  · have hs : t.text.data.toList.length = t.text.size := by simp
    have hp : 1 ≤ t.text.size := by
      rw [← hs]
      cases hh : t.text.data.toList with
      | nil => exact absurd hh g1
      | cons c r => simp
    obtain ⟨n, e1, e2⟩ := digs_lt t.text.data.toList 0 g3
    have e : numT t.text = (n : Int) := e1
    refine ⟨itoa_len h2 hp ?_, hp⟩
    rw [e, ← hs]
    omega
  · omega
  · omega
  · omega
theorem numberP_ok {most n : Int} {l l' : List Tok} (h : numberP most l = .ok (n, l')) (hE : ToksOk l) :
    0 ≤ n ∧ n < 1000000000000000000 ∧ n ≤ most ∧ (∀ c, c + (Lib.itoa n).length + wt c l' ≤ wt c l ∧ c + 1 + wt c l' ≤ wt c l) ∧ ToksOk l' := by
  rw [numberP] at h
  by_cases hc : (hdT l).kind = 2 ∧ most < numT (hdT l).text
  · rw [if_pos hc] at h; cases h
  rw [if_neg hc] at h
  cases ha : anyP 2 l with
  | error e => rw [ha] at h; cases h
  | ok r =>
    obtain ⟨s, l2⟩ := r
    rw [ha] at h
    cases h
    obtain ⟨t, rfl, rfl, hk, hE2⟩ := anyP_ok ha (by decide) hE
    have ht := (hE.each t List.mem_cons_self).1
    obtain ⟨_, g1, g2⟩ := num_tok ht hk
    obtain ⟨g3, g4⟩ := num_wt ht hk
    refine ⟨g1, g2, ?_, fun c => ⟨?_, ?_⟩, hE2⟩
    · exact Int.not_lt.1 fun hh => hc ⟨hk, hh⟩
    · rw [wt_cons]; omega
    · rw [wt_cons]; omega
theorem opsL_four : opsL.length = 4 := rfl
theorem find_isP {L : List ByteArray} {l : List Tok} {k : Nat} (h : (L.findIdx? fun s => isP s l) = some k) : k < L.length ∧ isP (L.getD k ⟨#[]⟩) l = true := by
  obtain ⟨h1, h2, _⟩ := List.findIdx?_eq_some_iff_getElem.1 h
  refine ⟨h1, ?_⟩
  rw [List.getD_eq_getElem?_getD, List.getElem?_eq_getElem h1]
  exact h2
theorem matcherP_ok {l l' : List Tok} {m : Mt} (h : matcherP l = .ok (m, l')) (hE : ToksOk l) : MOk m ∧ (∀ c, wx c (mtX m) + wt c l' ≤ wt c l) ∧ ToksOk l' := by
  rw [matcherP] at h
  cases h1 : nameP l with
  | error e => rw [h1] at h; cases h
  | ok r =>
    obtain ⟨n, l1⟩ := r
    rw [h1] at h
    simp only at h
    obtain ⟨hn, w1, hE1⟩ := nameP_wt h1 hE
    cases h2 : opsL.findIdx? fun s => isP s l1 with
    | none => rw [h2] at h; cases h
    | some k =>
      rw [h2] at h
      simp only at h
      obtain ⟨hk, _⟩ := find_isP h2
      rw [opsL_four] at hk
      cases h3 : mustP (opsL.getD k ⟨#[]⟩) l1 with
      | error e => rw [h3] at h; cases h
      | ok r =>
        obtain ⟨u, l2⟩ := r
        rw [h3] at h
        simp only at h
        obtain ⟨w2, hE2⟩ := mustP_ok h3 hE1
        cases h4 : anyP 3 l2 with
        | error e => rw [h4] at h; cases h
        | ok r =>
          obtain ⟨s, l3⟩ := r
          rw [h4] at h
          simp only at h
          obtain ⟨t, rfl, rfl, hk3, hE3⟩ := anyP_ok h4 (by decide) hE2
          by_cases hv : valueF (t.text.extract 1 (t.text.size - 1)) = true
          · rw [if_pos hv] at h
            cases h
            refine ⟨⟨hn, hv, by show (0 : Int) ≤ k; omega, by show (k : Int) ≤ 3; omega⟩, fun c => ?_, hE3⟩
            have h5 := quo_size (hE2.each t List.mem_cons_self).1 hk3
            have h6 := w1 c
            have h7 := w2 c
            rw [wt_cons] at h7
            have h8 : ((k : Int).toNat) = k := by omega
            have h9 : (t.text.extract 1 (t.text.size - 1)).size = t.text.size - 2 := by
              rw [ByteArray.size_extract]
              omega
            simp only [mtX, wx_cons, wx_nil, wL, mL, qL, bL_len, List.length_cons, List.length_append, List.length_nil, h8]
            rw [h9]
            omega
          · rw [if_neg hv] at h; cases h
theorem sep_wx (c : Nat) (y : Lx) (l : List (List Lx)) (x : List Lx) : wx c (sepX y (l ++ [x])) = wx c (sepX y l) + (if l.length = 0 then 0 else c + y.text.length) + wx c x := by
  rw [sepX_snoc]
  by_cases h : l = []
  · subst h; simp [sepX, wx_nil]
  · have : l.length ≠ 0 := by cases l with | nil => exact absurd rfl h | cons a r => simp
    rw [if_neg h, if_neg this, wx_append, wx_cons]
    omega
theorem matchersL_ok : ∀ (f : Nat) (acc : List Mt) (l : List Tok) (ms : List Mt) (l' : List Tok), matchersL f acc l = .ok (ms, l') → MsOk acc → ToksOk l →
    MsOk ms ∧ (∀ c, wx c (sepX (mL [44]) (ms.map mtX)) + (c + 1) + wt c l' ≤ wx c (sepX (mL [44]) (acc.map mtX)) + wt c l) ∧ ToksOk l'
  | 0, _, _, _, _, h, _, _ => by cases h
  | f + 1, acc, l, ms, l', h, ha, hE => by
    rw [matchersL] at h
    by_cases h1 : takesP (bS [125]) l = true
    · rw [if_pos h1] at h
      cases h
      obtain ⟨w, hE2⟩ := takesP_wt h1 hE
      refine ⟨ha, fun c => ?_, hE2⟩
      have h2 := w c
      have : (bS [125]).size = 1 := rfl
      omega
    rw [if_neg h1] at h
    obtain ⟨l1, hl1, w1, hE1⟩ : ∃ l1, (if acc.length = 0 then (.ok ((), l) : PRes Unit) else mustP (bS [44]) l) = .ok ((), l1) ∧ (∀ c, (if acc.length = 0 then 0 else c + 1) + wt c l1 ≤ wt c l) ∧ ToksOk l1 := by
      by_cases h2 : acc.length = 0
      · rw [if_pos h2]
        exact ⟨l, rfl, fun c => by simp [h2], hE⟩
      · rw [if_neg h2] at h ⊢
        cases h3 : mustP (bS [44]) l with
        | error e => rw [h3] at h; cases h
        | ok r =>
          obtain ⟨u, l1⟩ := r
          obtain ⟨w, hE1⟩ := mustP_ok h3 hE
          exact ⟨l1, rfl, fun c => by rw [if_neg h2, w c]; exact Nat.le_refl _, hE1⟩
    rw [hl1] at h
    simp only at h
    by_cases h4 : 8 ≤ acc.length
    · rw [if_pos h4] at h; cases h
    rw [if_neg h4] at h
    cases h5 : matcherP l1 with
    | error e => rw [h5] at h; cases h
    | ok r =>
      obtain ⟨m, l2⟩ := r
      rw [h5] at h
      simp only at h
      obtain ⟨hm, w2, hE2⟩ := matcherP_ok h5 hE1
      obtain ⟨g1, g2, g3⟩ := matchersL_ok f (acc ++ [m]) l2 ms l' h ⟨fun x hx => by
        rcases List.mem_append.1 hx with hx | hx
        · exact ha.1 x hx
        · rw [List.mem_singleton.1 hx]; exact hm, by simp; omega⟩ hE2
      refine ⟨g1, fun c => ?_, g3⟩
      have e1 := g2 c
      have e2 := w2 c
      have e3 := w1 c
      rw [List.map_append, List.map_singleton, sep_wx, List.length_map] at e1
      have : (mL [44]).text.length = 1 := rfl
      rw [this] at e1
      omega
theorem matchersP_ok {l l' : List Tok} {ms : List Mt} (h : matchersP l = .ok (ms, l')) (hE : ToksOk l) : MsOk ms ∧ (∀ c, wx c (msX ms) + wt c l' ≤ wt c l) ∧ ToksOk l' := by
  rw [matchersP] at h
  cases h1 : mustP (bS [123]) l with
  | error e => rw [h1] at h; cases h
  | ok r =>
    obtain ⟨u, l1⟩ := r
    rw [h1] at h
    simp only at h
    obtain ⟨w1, hE1⟩ := mustP_ok h1 hE
    obtain ⟨g1, g2, g3⟩ := matchersL_ok _ [] l1 ms l' h ⟨fun x hx => (by cases hx), Nat.zero_le _⟩ hE1
    refine ⟨g1, fun c => ?_, g3⟩
    have e1 := g2 c
    have e2 := w1 c
    have : (bS [123]).size = 1 := rfl
    simp only [msX, wx_cons, wx_append, wx_nil, mL, List.length_cons, List.length_nil, List.map_nil, sepX] at e1 ⊢
    omega
theorem namesL_ok : ∀ (f : Nat) (acc : List ByteArray) (l : List Tok) (ns : List ByteArray) (l' : List Tok), namesL f acc l = .ok (ns, l') → (∀ s ∈ acc, nameF s = true) → ToksOk l →
    (∀ s ∈ ns, nameF s = true) ∧ ns.length ≤ 8 ∧ ns ≠ [] ∧ (∀ c, wx c (byX ns) + wt c l' ≤ wx c (byX acc) + (if acc.length = 0 then 0 else c + 1) + wt c l) ∧ ToksOk l'
  | 0, _, _, _, _, h, _, _ => by cases h
  | f + 1, acc, l, ns, l', h, ha, hE => by
    rw [namesL] at h
    by_cases h1 : 8 ≤ acc.length
    · rw [if_pos h1] at h; cases h
    rw [if_neg h1] at h
    cases h2 : nameP l with
    | error e => rw [h2] at h; cases h
    | ok r =>
      obtain ⟨s, l1⟩ := r
      rw [h2] at h
      simp only at h
      obtain ⟨hn, w1, hE1⟩ := nameP_wt h2 hE
      have ha' : ∀ x ∈ acc ++ [s], nameF x = true := fun x hx => by
        rcases List.mem_append.1 hx with hx | hx
        · exact ha x hx
        · rw [List.mem_singleton.1 hx]; exact hn
      have hw : ∀ c, wx c (byX (acc ++ [s])) = wx c (byX acc) + (if acc.length = 0 then 0 else c + 1) + (c + s.size) := fun c => by
        rw [byX, List.map_append, List.map_singleton, sep_wx, List.length_map]
        simp only [wx_cons, wx_nil, wL, bL_len]
        rfl
      by_cases h3 : takesP (bS [44]) l1 = true
      · rw [if_pos h3] at h
        obtain ⟨w2, hE2⟩ := takesP_wt h3 hE1
        obtain ⟨g1, g2, g3, g4, g5⟩ := namesL_ok f (acc ++ [s]) l1.tail ns l' h ha' hE2
        refine ⟨g1, g2, g3, fun c => ?_, g5⟩
        have e1 := g4 c
        have e2 := w1 c
        have e3 := w2 c
        rw [hw c, if_neg (show ¬ ((acc ++ [s]).length = 0) by simp)] at e1
        have : (bS [44]).size = 1 := rfl
        omega
      · rw [if_neg h3] at h
        cases h
        refine ⟨ha', by simp; omega, by simp, fun c => ?_, hE1⟩
        rw [hw c, w1 c]
        omega
def SOk (n least : Nat) (l : List Tok) (r : PRes Qn) : Prop := ∀ q l', r = .ok (q, l') → ToksOk l → Wf q ∧ n + dep q least ≤ 8 ∧ (∀ c, wx c (atX q least) + wt c l' ≤ wt c l) ∧ ToksOk l'
def LOk (n least : Nat) (q0 : Qn) (l : List Tok) (r : PRes Qn) : Prop := ∀ q l', r = .ok (q, l') → ToksOk l → Wf q0 → n + dep q0 least ≤ 8 → Wf q ∧ n + dep q least ≤ 8 ∧ (∀ c, wx c (atX q least) + wt c l' ≤ wx c (atX q0 least) + wt c l) ∧ ToksOk l'
structure BinC (c : Int) (sym : List UInt8) (lv : Nat) : Prop where
  wf : ∀ l r, Wf l → Wf r → Wf (.mk c 0 [] 0 [] l r)
  at_ : ∀ l r, atX (.mk c 0 [] 0 [] l r) lv = atX l lv ++ binX c :: atX r (lv + 1)
  dep : ∀ l r, dep (.mk c 0 [] 0 [] l r) lv = max (dep l lv) (dep r (lv + 1))
  len : sym.length = 1
  sy : symX c = sym
theorem binC13 : BinC 13 [43] 0 := ⟨fun l r h1 h2 => .add 0 (by decide) l r h1 h2, fun l r => atX_add 0 (by decide) l r 0, fun l r => (dep_add 0 (by decide) l r 0).trans (Nat.zero_add _), rfl, rfl⟩
theorem binC14 : BinC 14 [45] 0 := ⟨fun l r h1 h2 => .add 1 (by decide) l r h1 h2, fun l r => atX_add 1 (by decide) l r 0, fun l r => (dep_add 1 (by decide) l r 0).trans (Nat.zero_add _), rfl, rfl⟩
theorem binC15 : BinC 15 [42] 1 := ⟨fun l r h1 h2 => .mul 0 (by decide) l r h1 h2, fun l r => atX_mul 0 (by decide) l r 1, fun l r => (dep_mul 0 (by decide) l r 1).trans (Nat.zero_add _), rfl, rfl⟩
theorem binC16 : BinC 16 [47] 1 := ⟨fun l r h1 h2 => .mul 1 (by decide) l r h1 h2, fun l r => atX_mul 1 (by decide) l r 1, fun l r => (dep_mul 1 (by decide) l r 1).trans (Nat.zero_add _), rfl, rfl⟩
theorem loop_step {c : Int} {sym : List UInt8} {lv n : Nat} (hc : BinC c sym lv) {q0 q : Qn} {l l' : List Tok} {x : PRes Qn} (hx : SOk n (lv + 1) l.tail x) {y : Qn → List Tok → PRes Qn}
    (hy : ∀ q1 l1, LOk n lv (.mk c 0 [] 0 [] q0 q1) l1 (y q1 l1)) (ht : takesP (bS sym) l = true)
    (h : (match x with | .error e => (.error e : PRes Qn) | .ok (r, l) => y r l) = .ok (q, l')) (hE : ToksOk l) (hw : Wf q0) (hd : n + dep q0 lv ≤ 8) :
    Wf q ∧ n + dep q lv ≤ 8 ∧ (∀ c, wx c (atX q lv) + wt c l' ≤ wx c (atX q0 lv) + wt c l) ∧ ToksOk l' := by
  obtain ⟨w1, hE1⟩ := takesP_wt ht hE
  cases x with
  | error e => cases h
  | ok r =>
    obtain ⟨q1, l1⟩ := r
    obtain ⟨g1, g2, g3, g4⟩ := hx _ _ rfl hE1
    obtain ⟨k1, k2, k3, k4⟩ := hy q1 l1 _ _ h g4 (hc.wf _ _ hw g1) (by rw [hc.dep]; omega)
    refine ⟨k1, k2, fun w => ?_, k4⟩
    have e1 := w1 w
    have e2 := g3 w
    have e3 := k3 w
    rw [hc.at_, wx_append, wx_cons] at e3
    have e4 : (bS sym).size = 1 := by
      have : (bS sym).size = sym.length := by show sym.toArray.size = _; simp
      rw [this, hc.len]
    have e5 : (binX c).text.length = 1 := by
      show (symX c).length = 1
      rw [hc.sy, hc.len]
    rw [e4] at e1
    rw [e5] at e3
    omega
theorem overs_len : oversL.length = 5 := rfl
theorem alls_len : allsL.length = 4 := rfl
theorem sound (f : Nat) : (∀ n l, SOk n 2 l (oneP f n l)) ∧ (∀ n q l, LOk n 1 q l (productL f n q l)) ∧ (∀ n l, SOk n 1 l (productP f n l)) ∧ (∀ n q l, LOk n 0 q l (sumL f n q l)) ∧ (∀ n l, SOk n 0 l (sumP f n l)) := by
  induction f with
  | zero =>
    refine ⟨?_, ?_, ?_, ?_, ?_⟩
    · intro n l q l' h; rw [oneP] at h; cases h
    · intro n q0 l q l' h; rw [productL] at h; cases h
    · intro n l q l' h; rw [productP] at h; cases h
    · intro n q0 l q l' h; rw [sumL] at h; cases h
    · intro n l q l' h; rw [sumP] at h; cases h
  | succ f ih =>
    obtain ⟨ih1, ih2, ih3, ih4, ih5⟩ := ih
    have z1 : ∀ b : UInt8, (bS [b]).size = 1 := fun b => rfl
    refine ⟨?_, ?_, ?_, ?_, ?_⟩
    · intro n l q l' h hE
      rw [oneP] at h
      by_cases h1 : 8 < n
      · rw [if_pos h1] at h; cases h
      rw [if_neg h1] at h
      by_cases h2 : takesP (bS [45]) l = true
      · rw [if_pos h2] at h
        obtain ⟨w1, hE1⟩ := takesP_wt h2 hE
        cases h3 : oneP f (n + 1) l.tail with
        | error e => rw [h3] at h; cases h
        | ok r =>
          obtain ⟨q1, l1⟩ := r
          rw [h3] at h
          cases h
          obtain ⟨g1, g2, g3, g4⟩ := ih1 _ _ _ _ h3 hE1
          refine ⟨.neg _ g1, ?_, fun c => ?_, g4⟩
          · rw [dep_neg _ _ (Nat.le_refl _)]; omega
          · have e1 := w1 c
            have e2 := g3 c
            rw [z1] at e1
            rw [atX_neg _ _ (Nat.le_refl _), wx_cons]
            show c + 1 + _ + _ ≤ _
            omega
      rw [if_neg h2] at h
      by_cases h3 : takesP (bS [40]) l = true
      · rw [if_pos h3] at h
        obtain ⟨w1, hE1⟩ := takesP_wt h3 hE
        cases h4 : sumP f (n + 1) l.tail with
        | error e => rw [h4] at h; cases h
        | ok r =>
          obtain ⟨q1, l1⟩ := r
          rw [h4] at h
          simp only at h
          obtain ⟨g1, g2, g3, g4⟩ := ih5 _ _ _ _ h4 hE1
          cases h5 : mustP (bS [41]) l1 with
          | error e => rw [h5] at h; cases h
          | ok r =>
            obtain ⟨u, l2⟩ := r
            rw [h5] at h
            cases h
            obtain ⟨w2, hE2⟩ := mustP_ok h5 g4
            obtain ⟨d1, d2⟩ : dep q 2 ≤ 1 + dep q 0 ∧ ∀ c, wx c (atX q 2) ≤ 2 * c + 2 + wx c (atX q 0) := by
              cases q with
              | nil => exact ⟨by simp [dep], fun c => by simp [atX, wx]⟩
              | mk a b c d e f g =>
                refine ⟨?_, fun w => ?_⟩
                · unfold dep
                  split <;> omega
                · unfold atX
                  rw [show decide (lvl a < 0) = false from rfl]
                  simp only [ifP, Bool.false_eq_true, if_false]
                  split
                  · rw [wx_parX]; exact Nat.le_refl _
                  · omega
            refine ⟨g1, by omega, fun c => ?_, hE2⟩
            have e1 := w1 c
            have e2 := g3 c
            have e3 := w2 c
            have e4 := d2 c
            rw [z1] at e1 e3
            omega
      rw [if_neg h3] at h
      by_cases h4 : (hdT l).kind = 2
      · rw [if_pos h4] at h
        cases h5 : numberP 9223372036854775807 l with
        | error e => rw [h5] at h; cases h
        | ok r =>
          obtain ⟨k, l1⟩ := r
          rw [h5] at h
          cases h
          obtain ⟨g1, g2, _, g4, g5⟩ := numberP_ok h5 hE
          refine ⟨.num _ g1 g2, ?_, fun c => ?_, g5⟩
          · rw [dep_num _ _ (Nat.le_refl _)]; omega
          · rw [atX_num _ _ (Nat.le_refl _), wx_cons, wx_nil]
            exact (g4 c).1
      rw [if_neg h4] at h
      by_cases h5 : isP (bS [123]) l = true
      · rw [if_pos h5] at h
        cases h6 : matchersP l with
        | error e => rw [h6] at h; cases h
        | ok r =>
          obtain ⟨m, l1⟩ := r
          rw [h6] at h
          cases h
          obtain ⟨g1, g2, g3⟩ := matchersP_ok h6 hE
          refine ⟨.pick _ g1, ?_, fun c => ?_, g3⟩
          · rw [dep_pick _ _ (Nat.le_refl _)]; omega
          · rw [atX_pick _ _ (Nat.le_refl _)]
            exact g2 c
      rw [if_neg h5] at h
      cases h6 : oversL.findIdx? fun s => isP s l with
      | some k =>
        rw [h6] at h
        simp only at h
        obtain ⟨hk, _⟩ := find_isP h6
        rw [overs_len] at hk
        cases a1 : mustP (oversL.getD k ⟨#[]⟩) l with
        | error e => rw [a1] at h; cases h
        | ok r =>
        obtain ⟨u1, l1⟩ := r
        rw [a1] at h
        simp only at h
        obtain ⟨w1, hE1⟩ := mustP_ok a1 hE
        cases a2 : mustP (bS [40]) l1 with
        | error e => rw [a2] at h; cases h
        | ok r =>
        obtain ⟨u2, l2⟩ := r
        rw [a2] at h
        simp only at h
        obtain ⟨w2, hE2⟩ := mustP_ok a2 hE1
        cases a3 : matchersP l2 with
        | error e => rw [a3] at h; cases h
        | ok r =>
        obtain ⟨m, l3⟩ := r
        rw [a3] at h
        simp only at h
        obtain ⟨hm, w3, hE3⟩ := matchersP_ok a3 hE2
        cases a4 : mustP (bS [91]) l3 with
        | error e => rw [a4] at h; cases h
        | ok r =>
        obtain ⟨u4, l4⟩ := r
        rw [a4] at h
        simp only at h
        obtain ⟨w4, hE4⟩ := mustP_ok a4 hE3
        cases a5 : numberP 1099511627776 l4 with
        | error e => rw [a5] at h; cases h
        | ok r =>
        obtain ⟨sp, l5⟩ := r
        rw [a5] at h
        simp only at h
        obtain ⟨n1, n2, n3, n4, hE5⟩ := numberP_ok a5 hE4
        cases a6 : mustP (bS [93]) l5 with
        | error e => rw [a6] at h; cases h
        | ok r =>
        obtain ⟨u6, l6⟩ := r
        rw [a6] at h
        simp only at h
        obtain ⟨w6, hE6⟩ := mustP_ok a6 hE5
        cases a7 : mustP (bS [41]) l6 with
        | error e => rw [a7] at h; cases h
        | ok r =>
        obtain ⟨u7, l7⟩ := r
        rw [a7] at h
        cases h
        obtain ⟨w7, hE7⟩ := mustP_ok a7 hE6
        have hw := Wf.over k hk m hm (if sp < 1 then 1 else sp) (by split <;> omega) (by split <;> omega)
        refine ⟨hw, ?_, fun c => ?_, hE7⟩
        · rw [dep_over k hk _ _ _ (Nat.le_refl _)]; omega
        · have e1 := w1 c
          have e2 := w2 c
          have e3 := w3 c
          have e4 := w4 c
          have e5 := n4 c
          have e6 := w6 c
          have e7 := w7 c
          rw [z1] at e2 e4 e6 e7
          have e8 : c + (Lib.itoa (if sp < 1 then 1 else sp)).length + wt c l5 ≤ wt c l4 := by
            split
            · have : (Lib.itoa 1).length = 1 := by rw [Lib.itoa, if_neg (by decide), Lib.decDigits_length]; rw [Lib.nDigits_small (by decide)]
              omega
            · exact e5.1
          rw [atX_over k hk _ _ _ (Nat.le_refl _), wx_cons, wx_parX, wx_append]
          simp only [wx_cons, wx_nil, wL, mL, dL, bL_len, List.length_cons, List.length_nil]
          omega
      | none =>
        rw [h6] at h
        simp only at h
        cases h7 : allsL.findIdx? fun s => isP s l with
        | none => rw [h7] at h; cases h
        | some k =>
        rw [h7] at h
        simp only at h
        obtain ⟨hk, _⟩ := find_isP h7
        rw [alls_len] at hk
        cases a1 : mustP (allsL.getD k ⟨#[]⟩) l with
        | error e => rw [a1] at h; cases h
        | ok r =>
        obtain ⟨u1, l1⟩ := r
        rw [a1] at h
        simp only at h
        obtain ⟨w1, hE1⟩ := mustP_ok a1 hE
        cases a2 : mustP (bS [40]) l1 with
        | error e => rw [a2] at h; cases h
        | ok r =>
        obtain ⟨u2, l2⟩ := r
        rw [a2] at h
        simp only at h
        obtain ⟨w2, hE2⟩ := mustP_ok a2 hE1
        cases a3 : sumP f (n + 1) l2 with
        | error e => rw [a3] at h; cases h
        | ok r =>
        obtain ⟨q1, l3⟩ := r
        rw [a3] at h
        simp only at h
        obtain ⟨g1, g2, g3, hE3⟩ := ih5 _ _ _ _ a3 hE2
        cases a4 : mustP (bS [41]) l3 with
        | error e => rw [a4] at h; cases h
        | ok r =>
        obtain ⟨u4, l4⟩ := r
        rw [a4] at h
        simp only at h
        obtain ⟨w4, hE4⟩ := mustP_ok a4 hE3
        by_cases h8 : takesP (bS [98, 121]) l4 = true
        · rw [if_pos h8] at h
          obtain ⟨w5, hE5⟩ := takesP_wt h8 hE4
          cases a6 : mustP (bS [40]) l4.tail with
          | error e => rw [a6] at h; cases h
          | ok r =>
          obtain ⟨u6, l6⟩ := r
          rw [a6] at h
          simp only at h
          obtain ⟨w6, hE6⟩ := mustP_ok a6 hE5
          cases a7 : namesL (l6.length + 1) [] l6 with
          | error e => rw [a7] at h; cases h
          | ok r =>
          obtain ⟨ns, l7⟩ := r
          rw [a7] at h
          simp only at h
          obtain ⟨m1, m2, m3, m4, hE7⟩ := namesL_ok _ _ _ _ _ a7 (fun s hs => by cases hs) hE6
          cases a8 : mustP (bS [41]) l7 with
          | error e => rw [a8] at h; cases h
          | ok r =>
          obtain ⟨u8, l8⟩ := r
          rw [a8] at h
          cases h
          obtain ⟨w8, hE8⟩ := mustP_ok a8 hE7
          refine ⟨.all k hk ns m1 m2 _ g1, ?_, fun c => ?_, hE8⟩
          · rw [dep_all k hk _ _ _ (Nat.le_refl _)]; omega
          · have e1 := w1 c
            have e2 := w2 c
            have e3 := g3 c
            have e4 := w4 c
            have e5 := w5 c
            have e6 := w6 c
            have e7 := m4 c
            have e8 := w8 c
            rw [z1] at e2 e4 e6 e8
            have e9 : (bS [98, 121]).size = 2 := rfl
            have hb : bysX ns = ⟨1, [98, 121], 1, 1⟩ :: parX (byX ns) := by
              cases ns with
              | nil => exact absurd rfl m3
              | cons a b => rfl
            rw [atX_all k hk _ _ _ (Nat.le_refl _), wx_cons, wx_append, wx_parX, hb, wx_cons, wx_parX]
            simp only [wL, bL_len, List.length_cons, List.length_nil]
            have : wx c (byX []) = 0 := rfl
            rw [this, if_pos (show ([] : List ByteArray).length = 0 from rfl)] at e7
            omega
        · rw [if_neg h8] at h
          cases h
          refine ⟨.all k hk [] (fun s hs => by cases hs) (Nat.zero_le _) _ g1, ?_, fun c => ?_, hE4⟩
          · rw [dep_all k hk _ _ _ (Nat.le_refl _)]; omega
          · have e1 := w1 c
            have e2 := w2 c
            have e3 := g3 c
            have e4 := w4 c
            rw [z1] at e2 e4
            rw [atX_all k hk _ _ _ (Nat.le_refl _), wx_cons, wx_append, wx_parX]
            simp only [wL, bL_len, bysX, wx_nil]
            omega
    · intro n q0 l q l' h hE hw hd
      rw [productL] at h
      by_cases h1 : takesP (bS [42]) l = true
      · rw [if_pos h1] at h
        exact loop_step binC15 (ih1 n l.tail) (fun q1 l1 => ih2 n _ l1) h1 h hE hw hd
      rw [if_neg h1] at h
      by_cases h2 : takesP (bS [47]) l = true
      · rw [if_pos h2] at h
        exact loop_step binC16 (ih1 n l.tail) (fun q1 l1 => ih2 n _ l1) h2 h hE hw hd
      rw [if_neg h2] at h
      cases h
      exact ⟨hw, hd, fun c => Nat.le_refl _, hE⟩
    · intro n l q l' h hE
      rw [productP] at h
      cases h1 : oneP f n l with
      | error e => rw [h1] at h; cases h
      | ok r =>
        obtain ⟨q1, l1⟩ := r
        rw [h1] at h
        obtain ⟨g1, g2, g3, g4⟩ := ih1 _ _ _ _ h1 hE
        obtain ⟨d1, d2⟩ := at_le q1 1 2 (by decide)
        obtain ⟨k1, k2, k3, k4⟩ := ih2 _ _ _ _ _ h g4 g1 (by omega)
        refine ⟨k1, k2, fun c => ?_, k4⟩
        have e1 := g3 c
        have e2 := k3 c
        have e3 := d2 c
        omega
    · intro n q0 l q l' h hE hw hd
      rw [sumL] at h
      by_cases h1 : takesP (bS [43]) l = true
      · rw [if_pos h1] at h
        exact loop_step binC13 (ih3 n l.tail) (fun q1 l1 => ih4 n _ l1) h1 h hE hw hd
      rw [if_neg h1] at h
      by_cases h2 : takesP (bS [45]) l = true
      · rw [if_pos h2] at h
        exact loop_step binC14 (ih3 n l.tail) (fun q1 l1 => ih4 n _ l1) h2 h hE hw hd
      rw [if_neg h2] at h
      cases h
      exact ⟨hw, hd, fun c => Nat.le_refl _, hE⟩
    · intro n l q l' h hE
      rw [sumP] at h
      cases h1 : productP f n l with
      | error e => rw [h1] at h; cases h
      | ok r =>
        obtain ⟨q1, l1⟩ := r
        rw [h1] at h
        obtain ⟨g1, g2, g3, g4⟩ := ih3 _ _ _ _ h1 hE
        obtain ⟨d1, d2⟩ := at_le q1 0 1 (by decide)
        obtain ⟨k1, k2, k3, k4⟩ := ih4 _ _ _ _ _ h g4 g1 (by omega)
        refine ⟨k1, k2, fun c => ?_, k4⟩
        have e1 := g3 c
        have e2 := k3 c
        have e3 := d2 c
        omega
theorem tok_wt (s : List UInt8) : ∀ (f i cnt : Nat) (l : List Tok), tokF s f i cnt = .ok l → ∀ c, wt c l ≤ c * l.length + (s.length - i)
  | 0, _, _, _, h, _ => by simp [tokF] at h
  | f + 1, i, cnt, l, h, c => by
    rw [tokF] at h
    simp only at h
    generalize hk : ((s.drop i).takeWhile (· == 32)).length = k at h
    by_cases he : s.length ≤ i + k
    · rw [if_pos he] at h
      cases h
      rw [wt_cons]
      show c + (ByteArray.mk #[]).size + 0 ≤ c * 1 + _
      rw [show (ByteArray.mk #[]).size = 0 from rfl]
      omega
    rw [if_neg he] at h
    have hle := lexF_le (s.drop (i + k))
    generalize lexF (s.drop (i + k)) = nk at h hle
    obtain ⟨n, kd⟩ := nk
    simp only at h hle
    by_cases hn : n = 0
    · rw [if_pos hn] at h; cases h
    rw [if_neg hn] at h
    by_cases hl : (kd = 2 ∧ 18 < n) ∨ 120 ≤ cnt
    · rw [if_pos hl] at h; cases h
    rw [if_neg hl] at h
    cases hr : tokF s f (i + k + n) (cnt + 1) with
    | error e => rw [hr] at h; cases h
    | ok l2 =>
      rw [hr] at h
      cases h
      have h1 := tok_wt s f _ _ l2 hr c
      rw [wt_cons, List.length_cons, Nat.mul_succ]
      show c + (ByteArray.mk ((s.drop (i + k)).take n).toArray).size + wt c l2 ≤ _
      have h2 : (ByteArray.mk ((s.drop (i + k)).take n).toArray).size ≤ n := by
        show ((s.drop (i + k)).take n).toArray.size ≤ n
        simp
        omega
      simp only [List.length_drop] at hle
      omega
end Go.PL
/-
  Contracts: the document's reader of questions: its small methods.
-/
namespace Go.Proofs.YtihakhdinkkdmaaGreatDoor
open Go.GK Go.RowKit Go.PL
set_option maxRecDepth 100000
abbrev rs (r : Rd) : Heap := [(0, .blk 49 [tks r.l, gi r.e, gi r.p])]
theorem tks_cons {r : Rd} (h : RdOk r) : ∃ t l, r.l = t :: l := h.toks.cons
theorem rok_hf (r : Rd) : Hf pg 18 1 [.p 0 0] (rs r) (fun g σ n => g = .b r.ok ∧ σ = rs r ∧ n = 1) := by
  refine Hf.eqG (R := fun σ n => σ = rs r ∧ n = 1) ?_
  refine Hf.of pg_ok Tryz.func18 rfl Tryz.ntmps18 rfl Tryz.results18 Tryz.call18 fun H0 S0 w0 h0 g0 => ?_
  exact ⟨rfl, rfl, rfl⟩
theorem rok_b {r : Rd} {c : Bool} (h : r.ok = c) : Hf pg 18 1 [.p 0 0] (rs r) (fun g σ n => g = .v (.bool c) ∧ σ = rs r ∧ n = 1) :=
  Hf.eqG (R := fun σ n => σ = rs r ∧ n = 1) ((rok_hf r).imp fun _ _ _ ⟨e, q⟩ => ⟨by rw [e]; exact h, q⟩)
theorem rfails_hf (r : Rd) (hr : RdOk r) (e : Int) : Hf pg 17 1 [.p 0 0, gi e] (rs r) (fun g σ n => g = .tup [] ∧ σ = rs (rfail e r) ∧ n = 1) := by
  obtain ⟨t, l, hl⟩ := tks_cons hr
  obtain ⟨ll, re, rp⟩ := r
  simp only at hl
  subst hl
  refine Hf.of pg_ok Tryz.func17 rfl Tryz.ntmps17 rfl Tryz.results17 Tryz.call17 fun H0 S0 w0 h0 g0 => ?_
  refine V ?_
  rcases tf (Rd.ok ⟨t :: l, re, rp⟩) with h | h
  · refine GOH (rok_b h) id rfl rfl ⟨rfl, trivial⟩ rfl (id_lt rfl) ?_
    rintro g σ' n' ⟨rfl, rfl, rfl⟩
    refine ⟨tokR t, by decide, rfl, ?_⟩
    refine ⟨rfl, ?_, rfl⟩
    rw [rfail, if_pos h]
    rfl
  · refine GOH (rok_b h) id rfl rfl ⟨rfl, trivial⟩ rfl (id_lt rfl) ?_
    rintro g σ' n' ⟨rfl, rfl, rfl⟩
    exact ⟨rfl, by rw [rfail_bad h], rfl⟩
theorem rs_n {f : FuncId} {args : List GV} {r r' : Rd} {G : GV} (hG : idb 1 G = true) (h : Hf pg f 1 args (rs r) (fun g σ' n => g = G ∧ Nat.ble 1 n = true ∧ leσ id (rs r') σ')) : Hf pg f 1 args (rs r) (fun g σ n => g = G ∧ σ = rs r' ∧ n = 1) :=
  h.weak fun g σ' n' ⟨h1, h2, h3⟩ => ⟨id, G, rs r', 1, ⟨rfl, rfl, rfl⟩, by rw [h1, ren_id], h3, by rw [hG]; rfl⟩
theorem see_hf (r : Rd) (hr : RdOk r) (s : ByteArray) : Hf pg 63 1 [.p 0 0, gs s] (rs r) (fun g σ n => g = .b (rsee s r) ∧ σ = rs r ∧ n = 1) := by
  obtain ⟨t, l, hl⟩ := tks_cons hr
  obtain ⟨ll, re, rp⟩ := r
  simp only at hl
  subst hl
  refine rs_n rfl ?_
  refine Hf.eqG (R := fun σ' n => Nat.ble 1 n = true ∧ leσ id (rs ⟨t :: l, re, rp⟩) σ') ?_
  refine Hf.of pg_ok Tryz.func63 rfl Tryz.ntmps63 rfl Tryz.results63 Tryz.call63 fun H0 S0 w0 h0 g0 => ?_
  refine ⟨tokR t, by decide, rfl, ?_⟩
  rcases tf (Rd.ok ⟨t :: l, re, rp⟩) with h | h
  · refine GOH (rok_b h) id rfl rfl ⟨rfl, trivial⟩ rfl (id_lt rfl) ?_
    rintro g σ' n' ⟨rfl, rfl, rfl⟩
    rcases tf (sEq t.text s) with h1 | h1
    · refine p1 ?_ h1
      rcases tf (t.kind == 1) with k1 | k1
      · refine p3 ?_ k1
        repeat (first | refine p1 ?_ | refine p2 ?_ | refine p3 ?_ | refine p4 ?_)
        refine ⟨?_, rfl, ⟨rfl, trivial⟩⟩
        show _ = rsee _ _
        rw [rsee_eq, h, h1, k1]
        rfl
      · refine p4 ?_ k1
        rcases tf (t.kind == 2) with k2 | k2
        · repeat (first | refine p1 ?_ | refine p2 ?_ | refine p3 ?_ | refine p4 ?_)
          refine ⟨?_, rfl, ⟨rfl, trivial⟩⟩
          show _ = rsee _ _
          rw [rsee_eq, h, h1, k1, k2]
          rfl
        · repeat (first | refine p1 ?_ | refine p2 ?_ | refine p3 ?_ | refine p4 ?_)
          refine ⟨?_, rfl, ⟨rfl, trivial⟩⟩
          show _ = rsee _ _
          rw [rsee_eq, h, h1, k1, k2]
          rfl
    · refine p2 ?_ h1
      refine ⟨?_, rfl, ⟨rfl, trivial⟩⟩
      show _ = rsee _ _
      rw [rsee_eq, h, h1]
      rfl
  · refine GOH (rok_b h) id rfl rfl ⟨rfl, trivial⟩ rfl (id_lt rfl) ?_
    rintro g σ' n' ⟨rfl, rfl, rfl⟩
    refine ⟨?_, rfl, ⟨rfl, trivial⟩⟩
    show _ = rsee _ _
    rw [rsee_eq, h]
    rfl
theorem see_b {r : Rd} (hr : RdOk r) {s : ByteArray} {c : Bool} (h : rsee s r = c) : Hf pg 63 1 [.p 0 0, gs s] (rs r) (fun g σ n => g = .v (.bool c) ∧ σ = rs r ∧ n = 1) :=
  Hf.eqG (R := fun σ n => σ = rs r ∧ n = 1) ((see_hf r hr s).imp fun _ _ _ ⟨e, q⟩ => ⟨by rw [e]; exact h, q⟩)
theorem rtl_eq (t : Tok) (l : List Tok) (e p : Int) : ([(0, .blk 49 [.sl 3 ((((t :: l).map tokR).take (((t :: l).map tokR).length : Int).toNat).drop (1 : Int).toNat), gi e, gi p])] : Heap) = rs ⟨l, e, p⟩ :=
  congrArg (fun g => match g with | some g => ([(0, .blk 49 [g, gi e, gi p])] : Heap) | none => []) (tail_map 3 tokR t l)
theorem take_yes {r : Rd} (hr : RdOk r) {s : ByteArray} (h : rsee s r = true) : Hf pg 51 1 [.p 0 0, gs s] (rs r) (fun g σ n => g = .v (.bool true) ∧ σ = rs (rtail r) ∧ n = 1) := by
  obtain ⟨t, l, hl⟩ := tks_cons hr
  obtain ⟨ll, re, rp⟩ := r
  simp only at hl
  subst hl
  refine Hf.of pg_ok Tryz.func51 rfl Tryz.ntmps51 rfl Tryz.results51 Tryz.call51 fun H0 S0 w0 h0 g0 => ?_
  refine GOH (see_b hr h) id rfl rfl ⟨rfl, trivial⟩ rfl (id_lt rfl) ?_
  rintro g σ' n' ⟨rfl, rfl, rfl⟩
  refine ⟨by decide, by simp; omega, by simp, ?_⟩
  exact ⟨rfl, rtl_eq t l re rp, rfl⟩
theorem take_no {r : Rd} (hr : RdOk r) {s : ByteArray} (h : rsee s r = false) : Hf pg 51 1 [.p 0 0, gs s] (rs r) (fun g σ n => g = .v (.bool false) ∧ σ = rs r ∧ n = 1) := by
  refine Hf.of pg_ok Tryz.func51 rfl Tryz.ntmps51 rfl Tryz.results51 Tryz.call51 fun H0 S0 w0 h0 g0 => ?_
  refine GOH (see_b hr h) id rfl rfl ⟨rfl, trivial⟩ rfl (id_lt rfl) ?_
  rintro g σ' n' ⟨rfl, rfl, rfl⟩
  exact ⟨rfl, rfl, rfl⟩
theorem rmust_hf {r : Rd} (hr : RdOk r) (s : ByteArray) : Hf pg 50 1 [.p 0 0, gs s] (rs r) (fun g σ n => g = .tup [] ∧ σ = rs (rmust s r) ∧ n = 1) := by
  refine Hf.of pg_ok Tryz.func50 rfl Tryz.ntmps50 rfl Tryz.results50 Tryz.call50 fun H0 S0 w0 h0 g0 => ?_
  rcases tf (rsee s r) with h | h
  · refine GOH (take_yes hr h) id rfl rfl ⟨rfl, trivial⟩ rfl (id_lt rfl) ?_
    rintro g σ' n' ⟨rfl, rfl, rfl⟩
    exact ⟨rfl, by rw [rmust, if_pos h], rfl⟩
  · refine GOH (take_no hr h) id rfl rfl ⟨rfl, trivial⟩ rfl (id_lt rfl) ?_
    rintro g σ' n' ⟨rfl, rfl, rfl⟩
    refine GOH (rfails_hf r hr 3) id rfl rfl ⟨rfl, trivial⟩ rfl (id_lt rfl) ?_
    rintro g σ' n' ⟨rfl, rfl, rfl⟩
    refine ⟨rfl, ?_, rfl⟩
    rw [rmust, if_neg (by rw [h]; exact Bool.false_ne_true)]
theorem rkind_hf {r : Rd} (hr : RdOk r) (k : Int) : Hf pg 53 1 [.p 0 0, gi k] (rs r) (fun g σ n => g = gs (rkind k r).1 ∧ σ = rs (rkind k r).2 ∧ n = 1) := by
  obtain ⟨t, l, hl⟩ := tks_cons hr
  obtain ⟨ll, re, rp⟩ := r
  simp only at hl
  subst hl
  refine Hf.of pg_ok Tryz.func53 rfl Tryz.ntmps53 rfl Tryz.results53 Tryz.call53 fun H0 S0 w0 h0 g0 => ?_
  refine ⟨tokR t, by decide, rfl, ?_⟩
  have hk1 : rkind1 k ⟨t :: l, re, rp⟩ = if t.kind = k then ⟨t :: l, re, rp⟩ else rfail 3 ⟨t :: l, re, rp⟩ := rfl
  by_cases hk : t.kind = k
  · refine p2 ?_ (by simp [hk])
    rw [if_pos hk] at hk1
    rw [rkind, hk1]
    rcases tf (Rd.ok ⟨t :: l, re, rp⟩) with h | h
    · refine GOH (rok_b h) id rfl rfl ⟨rfl, trivial⟩ rfl (id_lt rfl) ?_
      rintro g σ' n' ⟨rfl, rfl, rfl⟩
      refine ⟨tokR t, by decide, rfl, ?_⟩
      refine ⟨by decide, by simp; omega, by simp, ?_⟩
      rw [if_pos h]
      exact ⟨rfl, rtl_eq t l re rp, rfl⟩
    · refine GOH (rok_b h) id rfl rfl ⟨rfl, trivial⟩ rfl (id_lt rfl) ?_
      rintro g σ' n' ⟨rfl, rfl, rfl⟩
      rw [if_neg (by rw [h]; exact Bool.false_ne_true)]
      exact ⟨rfl, rfl, rfl⟩
  · refine p1 ?_ (by simp [hk])
    rw [if_neg hk] at hk1
    have hno : (rfail 3 ⟨t :: l, re, rp⟩).ok = false := by
      rcases tf (Rd.ok ⟨t :: l, re, rp⟩) with h | h
      · rw [rfail, if_pos h]; rfl
      · rw [rfail_bad h, h]
    rw [rkind, hk1, if_neg (by rw [hno]; exact Bool.false_ne_true)]
    refine GOH (rfails_hf _ hr 3) id rfl rfl ⟨rfl, trivial⟩ rfl (id_lt rfl) ?_
    rintro g σ' n' ⟨rfl, rfl, rfl⟩
    refine GOH (rok_b hno) id rfl rfl ⟨rfl, trivial⟩ rfl (id_lt rfl) ?_
    rintro g σ' n' ⟨rfl, rfl, rfl⟩
    exact ⟨rfl, rfl, rfl⟩
theorem rname_hf {r : Rd} (hr : RdOk r) : Hf pg 52 1 [.p 0 0] (rs r) (fun g σ n => g = gs (rname r).1 ∧ σ = rs (rname r).2 ∧ n = 1) := by
  obtain ⟨t, l, hl⟩ := tks_cons hr
  obtain ⟨ll, re, rp⟩ := r
  simp only at hl
  subst hl
  have hsz := (hr.toks.each t List.mem_cons_self).2
  refine rs_n rfl ?_
  refine Hf.of pg_ok Tryz.func52 rfl Tryz.ntmps52 rfl Tryz.results52 Tryz.call52 fun H0 S0 w0 h0 g0 => ?_
  refine ⟨tokR t, by decide, rfl, ?_⟩
  have hk1 : rname1 ⟨t :: l, re, rp⟩ = if t.kind = 1 ∧ nameF t.text = false then rfail 4 ⟨t :: l, re, rp⟩ else ⟨t :: l, re, rp⟩ := rfl
  have fin : ¬ (t.kind = 1 ∧ nameF t.text = false) → rname ⟨t :: l, re, rp⟩ = rkind 1 ⟨t :: l, re, rp⟩ := fun h => by rw [rname, hk1, if_neg h]
  rcases tf (t.kind == 1) with hk | hk
  · refine p1 ?_ hk
    refine GO (refName_rt t.text (by omega)) rfl ?_
    rcases tf (nameF t.text) with hn | hn
    · refine p2 ?_ (by rw [hn]; rfl)
      refine GOH (rkind_hf hr 1) id rfl rfl ⟨rfl, trivial⟩ rfl (id_lt rfl) ?_
      rintro g σ' n' ⟨rfl, rfl, rfl⟩
      rw [fin (by simp [hn])]
      exact ⟨rfl, rfl, ⟨rfl, trivial⟩⟩
    · refine p1 ?_ (by rw [hn]; rfl)
      have h1 : t.kind = 1 ∧ nameF t.text = false := ⟨by simpa using hk, hn⟩
      rw [if_pos h1] at hk1
      rw [rname, hk1]
      refine GOH (rfails_hf _ hr 4) id rfl rfl ⟨rfl, trivial⟩ rfl (id_lt rfl) ?_
      rintro g σ' n' ⟨rfl, rfl, rfl⟩
      refine GOH (rkind_hf (hr.fails (by decide)) 1) id rfl rfl ⟨rfl, trivial⟩ rfl (id_lt rfl) ?_
      rintro g σ' n' ⟨rfl, rfl, rfl⟩
      exact ⟨rfl, rfl, ⟨rfl, trivial⟩⟩
  · refine p2 ?_ hk
    refine V ?_
    refine GOH (rkind_hf hr 1) id rfl rfl ⟨rfl, trivial⟩ rfl (id_lt rfl) ?_
    rintro g σ' n' ⟨rfl, rfl, rfl⟩
    have hk' : t.kind ≠ 1 := by simpa using hk
    rw [fin (by simp [hk'])]
    exact ⟨rfl, rfl, ⟨rfl, trivial⟩⟩
def numI (s : ByteArray) (i : Nat) : Int := (s.data.toList.take i).foldl (fun n c => n * 10 + ((c.toNat : Int) - 48)) 0
theorem numI_all (s : ByteArray) {i : Nat} (h : s.size ≤ i) : numI s i = numT s := by
  rw [numI, List.take_of_length_le (by simpa using h), numT]
theorem numI_succ {s : ByteArray} {i : Nat} (h : i < s.size) : numI s (i + 1) = numI s i * 10 + ((s[i].toNat : Int) - 48) := by
  have h' : i < s.data.toList.length := by simpa using h
  rw [numI, numI, List.take_succ_eq_append_getElem h', List.foldl_append]
  rfl
theorem tok_digs {t : Tok} (h : t.Ok) (hk : t.kind = 2) : (∀ b ∈ t.text.data.toList, digB b = true) ∧ t.text.size ≤ 18 := by
  rcases h with (⟨h, _⟩ | ⟨_, _, h2, h3⟩ | ⟨h, _⟩ | ⟨h, _⟩) | ⟨h, _⟩
  · omega
  · exact ⟨h3, by simpa using h2⟩
  · omega
  · omega
  · omega
theorem numI_lt {t : Tok} (h : t.Ok) (hk : t.kind = 2) (i : Nat) (hi : i ≤ t.text.size) : 0 ≤ numI t.text i ∧ numI t.text i < 1000000000000000000 := by
  obtain ⟨h1, h2⟩ := tok_digs h hk
  obtain ⟨n, e1, e2⟩ := digs_lt (t.text.data.toList.take i) 0 (fun b hb => h1 b (List.mem_of_mem_take hb))
  have e : numI t.text i = n := e1
  have hl : (t.text.data.toList.take i).length ≤ 18 := by simp; omega
  have : 10 ^ (t.text.data.toList.take i).length ≤ 10 ^ 18 := Nat.pow_le_pow_right (by decide) hl
  rw [e]
  omega
theorem rnumber_hf {r : Rd} (hr : RdOk r) (most : Int) : Hf pg 62 1 [.p 0 0, gi most] (rs r) (fun g σ n => g = gi (rnum r) ∧ σ = rs (rnumber most r) ∧ n = 1) := by
  obtain ⟨t, l, hl⟩ := tks_cons hr
  obtain ⟨ll, re, rp⟩ := r
  simp only at hl
  subst hl
  have ht := hr.toks.each t List.mem_cons_self
  have hsz := ht.2
  refine rs_n rfl ?_
  refine Hf.of pg_ok Tryz.func62 rfl Tryz.ntmps62 rfl Tryz.results62 Tryz.call62 fun H0 S0 w0 h0 g0 => ?_
  refine ⟨tokR t, by decide, rfl, ?_⟩
  refine JK.loopE (α := Nat) (β := Unit) (fun i => ⟨[(0, .p 0 0), (1, gi most), (5, .p 1 0), (6, gi (if t.kind = 2 then numI t.text i else 0)), (7, gi i)], [(0, .blk 49 [tks (t :: l), gi re, gi rp]), (1, .blk 52 (tokR t))], 2⟩) (fun i => i ≤ t.text.size) (fun i => t.text.size - i)
    (fun _ => ⟨[(0, .p 0 0), (1, gi most), (5, .p 1 0), (6, gi (rnum ⟨t :: l, re, rp⟩))], [(0, .blk 49 [tks (t :: l), gi re, gi rp]), (1, .blk 52 (tokR t))], 2⟩) (fun _ => True) 0 id ?_ (Nat.zero_le _) ?_ ?_
  · refine ⟨⟨rfl, rfl, rfl, ?_, rfl, trivial⟩, ⟨rfl, rfl, trivial⟩, rfl⟩
    show some (gi 0) = some (gi (if t.kind = 2 then numI t.text 0 else 0))
    split <;> rfl
  · rintro i hi
    refine V ?_
    rcases tf (t.kind == 2) with hk | hk
    · have hk' : t.kind = 2 := by simpa using hk
      refine p1 ?_ hk
      by_cases hlt : i < t.text.size
      · refine p1 ?_ (decide_eq_true (by omega))
        refine sx (h := ?_)
        have hd := dig_sub ((tok_digs ht.1 hk').1 t.text[i] (by
          have : t.text[i] = t.text.data[i]'hlt := rfl
          rw [this]
          simp))
        have h1 := numI_lt ht.1 hk' i (by omega)
        have h2 := numI_lt ht.1 hk' (i + 1) hlt
        have h3 := numI_succ hlt
        refine ⟨i + 1, id, ⟨⟨rfl, rfl, rfl, ?_, succ_gi (by omega), trivial⟩, ⟨rfl, rfl, trivial⟩, rfl⟩, hlt, by show t.text.size - (i + 1) < t.text.size - i; omega⟩
        show some (gi (IntKind.i64.wrap (IntKind.i64.wrap ((if t.kind = 2 then numI t.text i else 0) * 10) + IntKind.i64.wrap (IntKind.u8.wrap ((t.text[i].toNat : Int) - 48))))) = some (gi (if t.kind = 2 then numI t.text (i + 1) else 0))
        rw [if_pos hk', if_pos hk', h3]
        rw [h3] at h2
        have hw : IntKind.u8.wrap ((t.text[i].toNat : Int) - 48) = (t.text[i].toNat : Int) - 48 := by rw [IntKind.wrap_u8]; omega
        rw [hw, wrap_id (x := (t.text[i].toNat : Int) - 48) (by omega) (by omega), wrap_id (x := numI t.text i * 10) (by omega) (by omega), wrap_id (by omega) (by omega)]
      · refine p2 ?_ (decide_eq_false (by omega))
        refine ⟨(), id, ⟨⟨rfl, rfl, rfl, ?_, trivial⟩, ⟨rfl, rfl, trivial⟩, rfl⟩, trivial⟩
        show some (gi (if t.kind = 2 then numI t.text i else 0)) = some (gi (if t.kind = 2 then numT t.text else 0))
        rw [numI_all t.text (by omega)]
    · have hk' : t.kind ≠ 2 := by simpa using hk
      refine p2 ?_ hk
      refine ⟨(), id, ⟨⟨rfl, rfl, rfl, ?_, trivial⟩, ⟨rfl, rfl, trivial⟩, rfl⟩, trivial⟩
      show some (gi (if t.kind = 2 then numI t.text i else 0)) = some (gi (if t.kind = 2 then numT t.text else 0))
      rw [if_neg hk', if_neg hk']
  · rintro _ _
    refine V ?_
    have hk1 : rnumber1 most ⟨t :: l, re, rp⟩ = if t.kind = 2 ∧ most < rnum ⟨t :: l, re, rp⟩ then rfail 4 ⟨t :: l, re, rp⟩ else ⟨t :: l, re, rp⟩ := rfl
    have fin : ¬ (t.kind = 2 ∧ most < rnum ⟨t :: l, re, rp⟩) → rnumber most ⟨t :: l, re, rp⟩ = (rkind 2 ⟨t :: l, re, rp⟩).2 := fun h => by rw [rnumber, hk1, if_neg h]
    generalize rnum ⟨t :: l, re, rp⟩ = nn at hk1 fin ⊢
    rcases tf (t.kind == 2) with hk | hk
    · have hk' : t.kind = 2 := by simpa using hk
      refine p1 ?_ hk
      by_cases hm : most < nn
      · refine p1 ?_ (decide_eq_true hm)
        rw [if_pos ⟨hk', hm⟩] at hk1
        rw [rnumber, hk1]
        refine GOH (rfails_hf _ hr 4) id rfl rfl ⟨rfl, trivial⟩ rfl (id_lt rfl) ?_
        rintro g σ' n' ⟨rfl, rfl, rfl⟩
        refine GOH (rkind_hf (hr.fails (by decide)) 2) id rfl rfl ⟨rfl, trivial⟩ rfl (id_lt rfl) ?_
        rintro g σ' n' ⟨rfl, rfl, rfl⟩
        exact ⟨rfl, rfl, ⟨rfl, trivial⟩⟩
      · refine p2 ?_ (decide_eq_false hm)
        refine GOH (rkind_hf hr 2) id rfl rfl ⟨rfl, trivial⟩ rfl (id_lt rfl) ?_
        rintro g σ' n' ⟨rfl, rfl, rfl⟩
        rw [fin (by simp [hm])]
        exact ⟨rfl, rfl, ⟨rfl, trivial⟩⟩
    · have hk' : t.kind ≠ 2 := by simpa using hk
      refine p2 ?_ hk
      refine V ?_
      refine GOH (rkind_hf hr 2) id rfl rfl ⟨rfl, trivial⟩ rfl (id_lt rfl) ?_
      rintro g σ' n' ⟨rfl, rfl, rfl⟩
      rw [fin (by simp [hk'])]
      exact ⟨rfl, rfl, ⟨rfl, trivial⟩⟩
end Go.Proofs.YtihakhdinkkdmaaGreatDoor
/-
  Plain laws: the document's reader of questions: matchers. No program is in sight.
-/
namespace Go.PL
open Go Go.GK

theorem isP_takes {l : List Tok} (hE : ToksOk l) {s : ByteArray} (hs : s ≠ ⟨#[]⟩) : isP s l = takesP s l := by
  obtain ⟨t, r, rfl⟩ := hE.cons
  rw [takesP]
  cases h : isP s (t :: r) with
  | false => rfl
  | true =>
    have h5 : t.kind ≠ 5 := by
      intro h5
      rw [isP, Bool.and_eq_true, sEq_iff] at h
      rcases (hE.each t List.mem_cons_self).1 with h' | ⟨_, h'⟩
      · rcases h' with ⟨h', _⟩ | ⟨h', _⟩ | ⟨h', _⟩ | ⟨h', _⟩ <;> omega
      · exact hs (by rw [← h.1]; exact h')
    show true = (true && decide (t.kind ≠ 5))
    rw [decide_eq_true h5]
    rfl
theorem find_takes {l : List Tok} (hE : ToksOk l) : ∀ {L : List ByteArray}, (∀ s ∈ L, s ≠ ⟨#[]⟩) → (L.findIdx? fun s => isP s l) = L.findIdx? fun s => takesP s l
  | [], _ => rfl
  | s :: L, h => by
    rw [List.findIdx?_cons, List.findIdx?_cons, isP_takes hE (h s List.mem_cons_self), find_takes hE fun x hx => h x (List.mem_cons_of_mem _ hx)]
theorem find_see {l : List Tok} (hE : ToksOk l) {L : List ByteArray} (h : ∀ s ∈ L, s ≠ ⟨#[]⟩) : (L.findIdx? fun s => rsee s (goodR l)) = L.findIdx? fun s => isP s l := by
  rw [find_takes hE h]
  congr 1
  exact funext fun s => rsee_good hE s
theorem ops_some : ∀ s ∈ opsL, s ≠ ⟨#[]⟩ := by decide
theorem overs_some : ∀ s ∈ oversL, s ≠ ⟨#[]⟩ := by decide
theorem alls_some : ∀ s ∈ allsL, s ≠ ⟨#[]⟩ := by decide
theorem find_bad {r : Rd} (h : r.ok = false) (L : List ByteArray) : (L.findIdx? fun s => rsee s r) = none := by
  rw [List.findIdx?_eq_none_iff]
  exact fun s _ => rsee_bad h s
theorem rkind_ok {k : Int} {r : Rd} (h : (rkind k r).2.ok = true) : (hdT r.l).kind = k ∧ (rkind k r).1 = (hdT r.l).text := by
  by_cases h1 : (rkind1 k r).ok = true
  · refine ⟨?_, by rw [rkind, if_pos h1]⟩
    refine Classical.byContradiction fun hk => ?_
    rw [rkind1, if_neg hk] at h1
    unfold rfail at h1
    cases hr : r.ok with
    | true => rw [hr, if_pos rfl] at h1; simp [Rd.ok] at h1
    | false => rw [hr, if_neg Bool.false_ne_true, hr] at h1; cases h1
  · rw [rkind, if_neg h1] at h
    exact absurd h h1
def rops (r : Rd) : Int × Rd := match opsL.findIdx? (fun s => rsee s r) with
  | some k => (k, rtail r)
  | none => (-1, r)
def rop5 (r : Rd) : Rd := if (rops r).1 < 0 then rfail 3 (rops r).2 else (rops r).2
def rsays (s : ByteArray) : ByteArray := s.extract 1 (s.size - 1)
def rval (p : Int) (s : ByteArray) (r : Rd) : Rd := if valueF (rsays s) then r else ⟨r.l, 4, p⟩
def rrest (n : ByteArray) (r : Rd) : Mt × Rd :=
  if (rkind 3 (rop5 r)).2.ok then (⟨n, (rops r).1, rsays (rkind 3 (rop5 r)).1⟩, rval (hdT (rop5 r).l).pos (rkind 3 (rop5 r)).1 (rkind 3 (rop5 r)).2)
  else (⟨n, (rops r).1, ⟨#[]⟩⟩, (rkind 3 (rop5 r)).2)
def rmatcher (r : Rd) : Mt × Rd := rrest (rname r).1 (rname r).2
theorem rops_bad {r : Rd} (h : r.ok = false) : rops r = (-1, r) := by rw [rops, find_bad h]
theorem rop5_bad {r : Rd} (h : r.ok = false) : rop5 r = r := by rw [rop5, rops_bad h]; exact rfail_bad h 3
theorem rrest_bad {r : Rd} (h : r.ok = false) (n : ByteArray) : (rrest n r).2 = r := by
  rw [rrest, rop5_bad h, rkind_bad h, if_neg (by rw [h]; exact Bool.false_ne_true)]
theorem rmatcher_bad {r : Rd} (h : r.ok = false) : (rmatcher r).2 = r := by rw [rmatcher, rname_bad h, rrest_bad h]
theorem Agr.bad {α : Type} {e p : Int} {a : α} {r : Rd} (h : Agr (.error (e, p)) a r) : r.ok = false := h.2.2
theorem rmatcher_good {l : List Tok} (hE : ToksOk l) : Agr (matcherP l) (rmatcher (goodR l)).1 (rmatcher (goodR l)).2 := by
  have h1 := rname_good l
  rw [matcherP, rmatcher]
  cases hn : nameP l with
  | error ep =>
    rw [hn] at h1
    rw [rrest_bad h1.bad]
    exact h1
  | ok v =>
    obtain ⟨n, l1⟩ := v
    rw [hn] at h1
    obtain ⟨hE1⟩ : True := trivial
    obtain ⟨_, _, hE1⟩ := nameP_wt hn hE
    simp only
    rw [h1.1, h1.2, rrest]
    have hf := find_see hE1 ops_some
    have hro : rops (goodR l1) = match opsL.findIdx? (fun s => isP s l1) with | some k => ((k : Int), rtail (goodR l1)) | none => (-1, goodR l1) := by rw [rops, hf]
    cases hk : opsL.findIdx? fun s => isP s l1 with
    | none =>
      rw [hk] at hro
      simp only at hro
      have h5 : rop5 (goodR l1) = rfail 3 (goodR l1) := by rw [rop5, hro]; rfl
      have hno := rfail_not (e := 3) (by decide) l1
      simp only
      rw [h5, rkind_bad hno, if_neg (by rw [hno]; exact Bool.false_ne_true)]
      exact Agr.fail (by decide) l1 _
    | some k =>
      rw [hk] at hro
      simp only at hro
      have h5 : rop5 (goodR l1) = rtail (goodR l1) := by rw [rop5, hro]; exact if_neg (by show ¬ (k : Int) < 0; omega)
      simp only
      obtain ⟨hk1, hk2⟩ := find_isP hk
      have ht : takesP (opsL.getD k ⟨#[]⟩) l1 = true := by
        rw [← isP_takes hE1 (by
          rw [List.getD_eq_getElem?_getD, List.getElem?_eq_getElem hk1]
          exact ops_some _ (List.getElem_mem hk1))]
        exact hk2
      rw [mustP, if_pos ht, h5]
      obtain ⟨t, l2, rfl, _, _, hE2⟩ := takesP_ok ht hE1
      have hg : rtail (goodR (t :: l2)) = goodR l2 := rfl
      rw [hg]
      simp only [List.tail_cons]
      have h6 := rkind_good l2 3
      cases ha : anyP 3 l2 with
      | error ep =>
        rw [ha] at h6
        rw [if_neg (by rw [h6.bad]; exact Bool.false_ne_true)]
        exact h6
      | ok v =>
        obtain ⟨s, l3⟩ := v
        rw [ha] at h6
        rw [h6.2, if_pos (ok_good l3), h6.1, hro]
        simp only
        rw [rval, rsays]
        cases hv : valueF (s.extract 1 (s.size - 1)) with
        | true =>
          rw [if_pos rfl, if_pos rfl]
          exact ⟨rfl, rfl⟩
        | false =>
          rw [if_neg Bool.false_ne_true, if_neg Bool.false_ne_true]
          exact ⟨rfl, rfl, rfl⟩
theorem RdOk.op5 {r : Rd} (h : RdOk r) : RdOk (rop5 r) ∧ RdOk (rops r).2 := by
  have h1 : RdOk (rops r).2 := by
    rw [rops]
    cases hk : opsL.findIdx? (fun s => rsee s r) with
    | none => exact h
    | some k =>
      obtain ⟨h1, h2, _⟩ := List.findIdx?_eq_some_iff_getElem.1 hk
      exact h.tl (see_k h2)
  refine ⟨?_, h1⟩
  rw [rop5]
  split
  · exact h1.fails (by decide)
  · exact h1
theorem rrest_two (n : ByteArray) (r : Rd) : (rrest n r).2 = (rkind 3 (rop5 r)).2 ∨ ∃ p s, (rrest n r).2 = rval p s (rkind 3 (rop5 r)).2 := by
  by_cases h : (rkind 3 (rop5 r)).2.ok = true
  · exact .inr ⟨(hdT (rop5 r).l).pos, (rkind 3 (rop5 r)).1, by rw [rrest, if_pos h]⟩
  · exact .inl (by rw [rrest, if_neg h])
theorem rval_two (p : Int) (s : ByteArray) (r : Rd) : rval p s r = r ∨ rval p s r = ⟨r.l, 4, p⟩ := by
  unfold rval
  cases valueF (rsays s) with
  | true => exact .inl rfl
  | false => exact .inr rfl
theorem RdOk.matcher {r : Rd} (h : RdOk r) : RdOk (rmatcher r).2 := by
  have h1 := (h.name.op5.1).kind (k := 3) (by decide)
  rw [rmatcher]
  rcases rrest_two (rname r).1 (rname r).2 with e | ⟨p, s, e⟩
  · rw [e]; exact h1
  · rw [e]
    rcases rval_two p s (rkind 3 (rop5 (rname r).2)).2 with e | e
    · rw [e]; exact h1
    · rw [e]; exact ⟨h1.toks, fun h' => by simp [Rd.ok] at h'⟩
theorem rops_len (r : Rd) : (rops r).2.l.length ≤ r.l.length := by
  rw [rops]
  cases opsL.findIdx? (fun s => rsee s r) with
  | none => exact Nat.le_refl _
  | some k => show (rtail r).l.length ≤ _; rw [rtail_len]; omega
theorem rop5_len (r : Rd) : (rop5 r).l.length ≤ r.l.length := by
  rw [rop5]
  split
  · rw [rfail_l]; exact rops_len r
  · exact rops_len r
theorem rmatcher_len (r : Rd) : (rmatcher r).2.l.length ≤ r.l.length := by
  have h1 := rname_len r
  have h2 := rop5_len (rname r).2
  have h3 := rkind_len 3 (rop5 (rname r).2)
  rw [rmatcher]
  rcases rrest_two (rname r).1 (rname r).2 with e | ⟨p, s, e⟩
  · rw [e]; omega
  · rw [e]
    rcases rval_two p s (rkind 3 (rop5 (rname r).2)).2 with e | e
    · rw [e]; omega
    · rw [e]
      show (rkind 3 (rop5 (rname r).2)).2.l.length ≤ _
      omega
theorem matcherP_less {l l' : List Tok} {m : Mt} (hE : ToksOk l) (h : matcherP l = .ok (m, l')) : l'.length < l.length := by
  obtain ⟨t, r, rfl⟩ := hE.cons
  rw [matcherP] at h
  cases h1 : nameP (t :: r) with
  | error e => rw [h1] at h; cases h
  | ok v =>
    obtain ⟨n, l1⟩ := v
    rw [h1] at h
    simp only at h
    obtain ⟨e1, hk⟩ := nameP_is h1
    cases e1
    have hE1 := hE.tail (by omega)
    cases h2 : opsL.findIdx? fun s => isP s r with
    | none => rw [h2] at h; cases h
    | some k =>
      rw [h2] at h
      simp only at h
      cases h3 : mustP (opsL.getD k ⟨#[]⟩) r with
      | error e => rw [h3] at h; cases h
      | ok v =>
        obtain ⟨u, l2⟩ := v
        rw [h3] at h
        simp only at h
        have hl2 : l2.length ≤ r.length := by
          by_cases hc : takesP (opsL.getD k ⟨#[]⟩) r = true
          · rw [mustP, if_pos hc] at h3; cases h3; simp
          · rw [mustP, if_neg hc] at h3; cases h3
        have hE2 := (mustP_ok h3 hE1).2
        cases h4 : anyP 3 l2 with
        | error e => rw [h4] at h; cases h
        | ok v =>
          obtain ⟨s, l3⟩ := v
          rw [h4] at h
          simp only at h
          obtain ⟨t3, rfl, _, _, _⟩ := anyP_ok h4 (by decide) hE2
          by_cases hv : valueF (s.extract 1 (s.size - 1)) = true
          · rw [if_pos hv] at h
            cases h
            simp only [List.length_cons] at hl2 ⊢
            omega
          · rw [if_neg hv] at h; cases h
def rcomma (k : Nat) (r : Rd) : Rd := if k = 0 then r else rmust (bS [44]) r
def rlim (k : Nat) (r : Rd) : Rd := if k = 8 then rfail 4 r else r
theorem RdOk.comma {r : Rd} (h : RdOk r) (k : Nat) : RdOk (rcomma k r) := by
  rw [rcomma]; split
  · exact h
  · exact h.must _
theorem RdOk.lim {r : Rd} (h : RdOk r) (k : Nat) : RdOk (rlim k r) := by
  rw [rlim]; split
  · exact h.fails (by decide)
  · exact h
theorem rcomma_len (k : Nat) (r : Rd) : (rcomma k r).l.length ≤ r.l.length := by
  rw [rcomma]; split
  · exact Nat.le_refl _
  · exact rmust_len _ _
theorem rlim_len (k : Nat) (r : Rd) : (rlim k r).l.length ≤ r.l.length := by
  rw [rlim]; split
  · rw [rfail_l]; exact Nat.le_refl _
  · exact Nat.le_refl _
def rround (acc : List Mt) (r : Rd) : Mt × Rd := rmatcher (rlim acc.length (rcomma acc.length r))
theorem round_good {acc : List Mt} {l : List Tok} (hE : ToksOk l) (h8 : acc.length ≤ 8) (hn : takesP (bS [125]) l = false) (f : Nat) :
    if (rround acc (goodR l)).2.ok = true then ∃ l', (rround acc (goodR l)).2 = goodR l' ∧ ToksOk l' ∧ l'.length < l.length ∧ matchersL (f + 1) acc l = matchersL f (acc ++ [(rround acc (goodR l)).1]) l'
    else matchersL (f + 1) acc l = .error ((rround acc (goodR l)).2.e, (rround acc (goodR l)).2.p) := by
  have hM : matchersL (f + 1) acc l = (match (if acc.length = 0 then .ok ((), l) else mustP (bS [44]) l : PRes Unit) with
      | .error e => .error e
      | .ok (_, l) => if 8 ≤ acc.length then failP 4 l else match matcherP l with
        | .error e => .error e
        | .ok (m, l) => matchersL f (acc ++ [m]) l) := by
    rw [matchersL, if_neg (by rw [hn]; exact Bool.false_ne_true)]
    rfl
  rw [hM]
  have hc : Agr (if acc.length = 0 then .ok ((), l) else mustP (bS [44]) l : PRes Unit) () (rcomma acc.length (goodR l)) := by
    rw [rcomma]
    split
    · exact ⟨rfl, rfl⟩
    · exact rmust_good hE _
  have hl := rcomma_len acc.length (goodR l)
  have hEc := (show RdOk (goodR l) from ⟨hE, fun _ => rfl⟩).comma acc.length
  generalize (if acc.length = 0 then .ok ((), l) else mustP (bS [44]) l : PRes Unit) = X at hc
  cases X with
  | error ep =>
    have hb := hc.bad
    have e : (rround acc (goodR l)).2 = rcomma acc.length (goodR l) := by
      have e1 : rlim acc.length (rcomma acc.length (goodR l)) = rcomma acc.length (goodR l) := by
        rw [rlim]; split
        · exact rfail_bad hb 4
        · rfl
      rw [rround, e1, rmatcher_bad hb]
    rw [e, if_neg (by rw [hb]; exact Bool.false_ne_true)]
    obtain ⟨h1, h2, _⟩ := hc
    show Except.error _ = _
    rw [h1, h2]
  | ok v =>
    obtain ⟨u, l1⟩ := v
    simp only
    have e1 : rcomma acc.length (goodR l) = goodR l1 := hc.2
    rw [e1] at hl hEc
    replace hl : l1.length ≤ l.length := hl
    rw [rround, e1]
    by_cases h88 : 8 ≤ acc.length
    · rw [if_pos h88]
      have e2 : rlim acc.length (goodR l1) = rfail 4 (goodR l1) := by rw [rlim, if_pos (by omega)]
      have hno := rfail_not (e := 4) (by decide) l1
      rw [e2, rmatcher_bad hno, if_neg (by rw [hno]; exact Bool.false_ne_true)]
      rfl
    · rw [if_neg h88]
      have e2 : rlim acc.length (goodR l1) = goodR l1 := by rw [rlim, if_neg (by omega)]
      rw [e2]
      have h3 : Agr (matcherP l1) (rmatcher (goodR l1)).1 (rmatcher (goodR l1)).2 := rmatcher_good hEc.toks
      have hEm := hEc.matcher
      cases hm : matcherP l1 with
      | error ep =>
        rw [hm] at h3
        obtain ⟨h4, h5, hb⟩ := h3
        rw [if_neg (by rw [hb]; exact Bool.false_ne_true), h4, h5]
      | ok v =>
        obtain ⟨m, l2⟩ := v
        rw [hm] at h3
        rw [h3.2, if_pos (ok_good l2), h3.1]
        rw [h3.2] at hEm
        have h6 : l2.length < l1.length := matcherP_less hEc.toks hm
        exact ⟨l2, rfl, hEm.toks, by omega, rfl⟩
def rfindN (L : List ByteArray) (j : Nat) (r : Rd) : Int × Rd := match (L.take j).findIdx? (fun s => rsee s r) with
  | some k => (k, rtail r)
  | none => (-1, r)
theorem rfindN_zero (L : List ByteArray) (r : Rd) : rfindN L 0 r = (-1, r) := rfl
theorem rfindN_all (r : Rd) : rfindN opsL 4 r = rops r := by
  unfold rfindN rops
  rw [List.take_of_length_le (by decide)]
theorem rfindN_step {L : List ByteArray} {j : Nat} (hj : j < L.length) (r : Rd) : rfindN L (j + 1) r = if (rfindN L j r).1 < 0 then (if rsee L[j] r then ((j : Int), rtail r) else (-1, r)) else rfindN L j r := by
  unfold rfindN
  rw [List.take_succ_eq_append_getElem hj, List.findIdx?_append]
  cases h : (L.take j).findIdx? (fun s => rsee s r) with
  | some k =>
    rw [if_neg (by show ¬ (k : Int) < 0; omega)]
    rfl
  | none =>
    rw [if_pos (show (-1 : Int) < 0 by decide)]
    have hl : (L.take j).length = j := by simp; omega
    rw [hl]
    cases hs : rsee L[j] r with
    | true => simp [List.findIdx?_cons, hs]
    | false => simp [List.findIdx?_cons, hs]
theorem rfindN_lt {L : List ByteArray} {j : Nat} {r : Rd} (h : (rfindN L j r).1 < 0) : rfindN L j r = (-1, r) := by
  unfold rfindN at h ⊢
  cases hh : (L.take j).findIdx? (fun s => rsee s r) with
  | some k => rw [hh] at h; simp only at h; omega
  | none => rfl
end Go.PL
/-
  Contracts: the document's reader of questions: matchers.
-/
namespace Go.Proofs.YtihakhdinkkdmaaGreatDoor
open Go.GK Go.RowKit Go.PL
set_option maxRecDepth 100000
structure Rel {α : Type} (P : List Tok → PRes α) (r : Rd) (a : α) (r' : Rd) : Prop where
  ok : RdOk r'
  len : r'.l.length ≤ r.l.length
  good : r.ok = true → Agr (P r.l) a r'
  less : r.ok = true → r'.ok = true → r'.l.length < r.l.length
  bad : r.ok = false → r' = r
theorem rsx_n {α : Type} {f : FuncId} {args : List GV} {r : Rd} {P : α → Rd → Prop} {G : α → GV} (hG : ∀ a, idb 1 (G a) = true) (h : Hf pg f 1 args (rs r) (fun g σ' n => ∃ a r', P a r' ∧ g = G a ∧ Nat.ble 1 n = true ∧ leσ id (rs r') σ')) : Hf pg f 1 args (rs r) (fun g σ n => ∃ a r', P a r' ∧ g = G a ∧ σ = rs r' ∧ n = 1) :=
  h.weak fun g σ' n' ⟨a, r', h0, h1, h2, h3⟩ => ⟨id, G a, rs r', 1, ⟨a, r', h0, rfl, rfl, rfl⟩, by rw [h1, ren_id], h3, by rw [hG]; rfl⟩
theorem some_hf {r : Rd} (hr : RdOk r) (hlen : r.l.length ≤ 1000) : Hf pg 29 1 [.p 0 0] (rs r) (fun g σ n => ∃ m r', Rel matchersP r m r' ∧ g = .sl 3 (m.map mt) ∧ σ = rs r' ∧ n = 1) := by
  refine rsx_n (fun _ => rfl) ?_
  refine Hf.of pg_ok Tryz.func29 rfl Tryz.ntmps29 rfl Tryz.results29 Tryz.call29 fun H0 S0 w0 h0 g0 => ?_
  refine GOH (rmust_hf hr (bS [123])) id rfl rfl ⟨rfl, trivial⟩ rfl (id_lt rfl) ?_
  rintro g σ' n' ⟨rfl, rfl, rfl⟩
  refine VM 3 ?_
  have hR1 := hr.must (bS [123])
  have hl1 := rmust_len (bS [123]) r
  refine JK.ownNil 3 77 3 rfl ?_
  refine JK.loopE (α := List Mt × Rd × Nat) (β := List Mt × Rd) (fun x => ⟨[(0, .p 0 0), (3, .o 1)], [(0, .blk 49 [tks x.2.1.l, gi x.2.1.e, gi x.2.1.p]), (1, .row 77 3 (x.1.map mt))], 2⟩)
    (fun x => RdOk x.2.1 ∧ x.2.1.l.length ≤ r.l.length ∧ x.1.length ≤ 9 ∧ (x.2.1.ok = true → x.1.length ≤ 8) ∧ (r.ok = true → if x.2.1.ok = true then x.2.1.l.length < x.2.2 ∧ x.2.1.l.length < r.l.length ∧ matchersL x.2.2 x.1 x.2.1.l = matchersP r.l else matchersP r.l = .error (x.2.1.e, x.2.1.p)) ∧ (r.ok = false → x.2.1 = r))
    (fun x => if x.2.1.ok = true then x.2.1.l.length + 1 else 0)
    (fun y => ⟨[(3, .o 1)], [(0, .blk 49 [tks y.2.l, gi y.2.e, gi y.2.p]), (1, .row 77 3 (y.1.map mt))], 2⟩) (fun y => Rel matchersP r y.1 y.2) ([], rmust (bS [123]) r, (rmust (bS [123]) r).l.length + 1) id ?_ ?_ ?_ ?_
  · exact ⟨⟨rfl, rfl, trivial⟩, ⟨rfl, rfl, trivial⟩, rfl⟩
  · refine ⟨hR1, hl1, Nat.zero_le _, fun _ => Nat.zero_le _, fun ho => ?_, fun ho => rmust_bad ho _⟩
    have hg := hr.good ho
    have h1 := rmust_good hr.toks (bS [123])
    rw [← hg] at h1
    have hP : matchersP r.l = match mustP (bS [123]) r.l with | .error e => .error e | .ok (_, l) => matchersL (l.length + 1) [] l := rfl
    rw [hP]
    cases hm : mustP (bS [123]) r.l with
    | error ep =>
      rw [hm] at h1
      obtain ⟨e1, e2, e3⟩ := h1
      rw [if_neg (by rw [e3]; exact Bool.false_ne_true)]
      show Except.error _ = _
      rw [e1, e2]
    | ok v =>
      obtain ⟨u, l1⟩ := v
      rw [hm] at h1
      have e1 : rmust (bS [123]) r = goodR l1 := h1.2
      have hlt : l1.length < r.l.length := by
        by_cases hc : takesP (bS [123]) r.l = true
        · rw [mustP, if_pos hc] at hm
          cases hm
          obtain ⟨t, l, e⟩ := tks_cons hr
          rw [e]; simp
        · rw [mustP, if_neg hc] at hm; cases hm
      rw [e1, if_pos (ok_good l1)]
      exact ⟨Nat.lt_succ_self _, hlt, rfl⟩
  · rintro ⟨acc, r1, f⟩ ⟨hR, hl, h9, h8, hg, hb⟩
    replace hR : RdOk r1 := hR
    replace hl : r1.l.length ≤ r.l.length := hl
    replace h9 : acc.length ≤ 9 := h9
    replace h8 : r1.ok = true → acc.length ≤ 8 := h8
    replace hg : r.ok = true → if r1.ok = true then r1.l.length < f ∧ r1.l.length < r.l.length ∧ matchersL f acc r1.l = matchersP r.l else matchersP r.l = .error (r1.e, r1.p) := hg
    replace hb : r.ok = false → r1 = r := hb
    have fin : r1.ok = true → takesP (bS [125]) r1.l = false → ∀ m r7, rround acc r1 = (m, r7) → (RdOk r7 ∧ r7.l.length ≤ r.l.length ∧ (acc ++ [m]).length ≤ 9 ∧ (r7.ok = true → (acc ++ [m]).length ≤ 8) ∧ (r.ok = true → if r7.ok = true then r7.l.length < f - 1 ∧ r7.l.length < r.l.length ∧ matchersL (f - 1) (acc ++ [m]) r7.l = matchersP r.l else matchersP r.l = .error (r7.e, r7.p)) ∧ (r.ok = false → r7 = r)) ∧ (if r7.ok = true then r7.l.length + 1 else 0) < r1.l.length + 1 := by
      intro ho hn m r7 hrr
      have e7 : (rround acc r1).2 = r7 := by rw [hrr]
      have em : (rround acc r1).1 = m := by rw [hrr]
      have ha := h8 ho
      have hlen7 : r7.l.length ≤ r1.l.length := by
        rw [← e7, rround]
        exact Nat.le_trans (rmatcher_len _) (Nat.le_trans (rlim_len _ _) (rcomma_len _ _))
      have hro : r.ok = true := by
        rcases tf r.ok with h | h
        · exact h
        · rw [hb h] at ho; rw [ho] at h; cases h
      have hg1 := hg hro
      rw [if_pos ho] at hg1
      obtain ⟨g1, g2, g3⟩ := hg1
      obtain ⟨f, rfl⟩ : ∃ f', f = f' + 1 := ⟨f - 1, by omega⟩
      have hrd := round_good hR.toks ha hn f
      rw [← hR.good ho, e7, em, g3] at hrd
      refine ⟨⟨?_, by omega, by simp; omega, fun h7 => ?_, fun _ => ?_, fun h => absurd hro (by rw [h]; exact Bool.false_ne_true)⟩, ?_⟩
      · rw [← e7, rround]
        exact ((hR.comma _).lim _).matcher
      · rcases Nat.lt_or_ge acc.length 8 with h | h
        · simp; omega
        · exfalso
          have e8 : rlim acc.length (rcomma acc.length r1) = rfail 4 (rcomma acc.length r1) := by rw [rlim, if_pos (by omega)]
          have hno : (rfail 4 (rcomma acc.length r1)).ok = false := by
            rcases tf (rcomma acc.length r1).ok with hc | hc
            · rw [rfail, if_pos hc]; rfl
            · rw [rfail_bad hc, hc]
          rw [rround, e8, rmatcher_bad hno] at e7
          rw [← e7, hno] at h7
          cases h7
      · by_cases h7 : r7.ok = true
        · rw [if_pos h7] at hrd ⊢
          obtain ⟨l', q1, q2, q3, q4⟩ := hrd
          rw [q1]
          exact ⟨by show l'.length < f; omega, by show l'.length < _; omega, q4.symm⟩
        · rw [if_neg h7] at hrd ⊢
          exact hrd
      · by_cases h7 : r7.ok = true
        · rw [if_pos h7] at hrd ⊢
          obtain ⟨l', q1, q2, q3, q4⟩ := hrd
          rw [q1]
          show l'.length + 1 < _
          omega
        · rw [if_neg h7]; omega
    refine V ?_
    rcases tf r1.ok with ho | ho
    · refine GOH (rok_b ho) id rfl rfl ⟨rfl, trivial⟩ rfl (id_lt rfl) ?_
      rintro g σ' n' ⟨rfl, rfl, rfl⟩
      rcases tf (rsee (bS [125]) r1) with hs | hs
      · refine GOH (take_yes hR hs) id rfl rfl ⟨rfl, trivial⟩ rfl (id_lt rfl) ?_
        rintro g σ' n' ⟨rfl, rfl, rfl⟩
        have hro : r.ok = true := by
          rcases tf r.ok with h | h
          · exact h
          · rw [hb h] at ho; rw [ho] at h; cases h
        have hg1 := hg hro
        rw [if_pos ho] at hg1
        obtain ⟨g1, g2, g3⟩ := hg1
        refine ⟨(acc, rtail r1), id, ⟨⟨rfl, trivial⟩, ⟨rfl, rfl, trivial⟩, rfl⟩, ⟨hR.tl (see_k hs), by show (rtail r1).l.length ≤ _; rw [rtail_len]; omega, fun _ => ?_, fun _ _ => by show (rtail r1).l.length < _; rw [rtail_len]; omega, fun h => absurd hro (by rw [h]; exact Bool.false_ne_true)⟩⟩
        have ht : takesP (bS [125]) r1.l = true := by rw [← rsee_good hR.toks, ← hR.good ho]; exact hs
        obtain ⟨f, rfl⟩ : ∃ f', f = f' + 1 := ⟨f - 1, by omega⟩
        rw [matchersL, if_pos ht] at g3
        rw [← g3]
        exact ⟨rfl, by rw [hR.good ho]; rfl⟩
      · have fin := fin ho (by rw [← rsee_good hR.toks, ← hR.good ho]; exact hs)
        refine GOJ (take_no hR hs) id rfl rfl ⟨rfl, trivial⟩ rfl (id_lt rfl) ?_
        rintro g σ' n' ⟨rfl, rfl, rfl⟩
        refine VM 13 ?_
        have hk8 := h8 ho
        refine JK.cut (α := Unit) (fun _ => ⟨[(0, .p 0 0), (3, .o 1)], [(0, .blk 49 [tks (rcomma acc.length r1).l, gi (rcomma acc.length r1).e, gi (rcomma acc.length r1).p]), (1, .row 77 3 (acc.map mt))], 2⟩) (fun _ => True) ?_ ?_
        · refine V ?_
          by_cases ha : acc.length = 0
          · refine p2 ?_ (decide_eq_false (by show ¬ ((((acc.map mt).length : Nat) : Int) > 0); rw [List.length_map]; omega))
            exact ⟨(), id, ⟨⟨rfl, rfl, trivial⟩, ⟨by rw [rcomma, if_pos ha]; rfl, rfl, trivial⟩, rfl⟩, trivial⟩
          · refine p1 ?_ (decide_eq_true (by show ((((acc.map mt).length : Nat) : Int) > 0); rw [List.length_map]; omega))
            refine GOH (rmust_hf hR (bS [44])) id rfl rfl ⟨rfl, trivial⟩ rfl (id_lt rfl) ?_
            rintro g σ' n' ⟨rfl, rfl, rfl⟩
            exact ⟨(), id, ⟨⟨rfl, rfl, trivial⟩, ⟨by rw [rcomma, if_neg ha]; rfl, rfl, trivial⟩, rfl⟩, trivial⟩
        rintro _ _
        have hRc := hR.comma acc.length
        refine VM 7 ?_
        refine JK.cut (α := Unit) (fun _ => ⟨[(0, .p 0 0), (3, .o 1)], [(0, .blk 49 [tks (rlim acc.length (rcomma acc.length r1)).l, gi (rlim acc.length (rcomma acc.length r1)).e, gi (rlim acc.length (rcomma acc.length r1)).p]), (1, .row 77 3 (acc.map mt))], 2⟩) (fun _ => True) ?_ ?_
        · refine V ?_
          by_cases ha : acc.length = 8
          · have c8 : (((acc.map mt).length : Int) == 8) = true := by simp; omega
            refine p1 ?_ c8
            refine GOH (rfails_hf _ hRc 4) id rfl rfl ⟨rfl, trivial⟩ rfl (id_lt rfl) ?_
            rintro g σ' n' ⟨rfl, rfl, rfl⟩
            exact ⟨(), id, ⟨⟨rfl, rfl, trivial⟩, ⟨by rw [rlim, if_pos ha]; rfl, rfl, trivial⟩, rfl⟩, trivial⟩
          · have c8 : (((acc.map mt).length : Int) == 8) = false := by simp; omega
            refine p2 ?_ c8
            exact ⟨(), id, ⟨⟨rfl, rfl, trivial⟩, ⟨by rw [rlim, if_neg ha]; rfl, rfl, trivial⟩, rfl⟩, trivial⟩
        rintro _ _
        have hRl := hRc.lim acc.length
        generalize hr2 : rlim acc.length (rcomma acc.length r1) = r2 at hRl
        refine V ?_
        refine GOJ (rname_hf hRl) id rfl rfl ⟨rfl, trivial⟩ rfl (id_lt rfl) ?_
        rintro g σ' n' ⟨rfl, rfl, rfl⟩
        generalize hnm : (rname r2).1 = nm
        have hRn := hRl.name
        generalize hr3 : (rname r2).2 = r3 at hRn
        refine VM 10 ?_
        refine FRZ 3 rfl ?_
        show JK _ _ _ _
        refine JK.loopE (α := Nat) (β := Unit) (fun j => ⟨[(0, .p 0 0), (3, .o 1), (4, .p 2 0), (31, .sl 1 (opsL.map fun s => [gs s])), (32, gi 4), (33, gi j)], [(0, .blk 49 [tks (rfindN opsL j r3).2.l, gi (rfindN opsL j r3).2.e, gi (rfindN opsL j r3).2.p]), (1, .row 77 3 (acc.map mt)), (2, .blk 77 [gs nm, gi (rfindN opsL j r3).1, gs ⟨#[]⟩])], 4⟩) (fun j => j ≤ 4) (fun j => 4 - j)
          (fun _ => ⟨[(0, .p 0 0), (3, .o 1), (4, .p 2 0)], [(0, .blk 49 [tks (rops r3).2.l, gi (rops r3).2.e, gi (rops r3).2.p]), (1, .row 77 3 (acc.map mt)), (2, .blk 77 [gs nm, gi (rops r3).1, gs ⟨#[]⟩])], 4⟩) (fun _ => True) 0 id ?_ (Nat.zero_le _) ?_ ?_
        · exact ⟨⟨rfl, rfl, rfl, rfl, rfl, rfl, trivial⟩, ⟨rfl, rfl, rfl, trivial⟩, rfl⟩
        · rintro j hj
          refine V ?_
          by_cases hlt : j < 4
          · refine p1 ?_ (decide_eq_true (by omega))
            have hjl : j < opsL.length := hlt
            refine ix (hk := hjl) (h := ?_)
            have hst := rfindN_step hjl r3
            by_cases hop : (rfindN opsL j r3).1 < 0
            · refine p1 ?_ (decide_eq_true hop)
              rw [if_pos hop] at hst
              have e0 := rfindN_lt hop
              rw [e0]
              rcases tf (rsee opsL[j] r3) with hs | hs
              · rw [if_pos hs] at hst
                refine GOH (take_yes hRn hs) id rfl rfl ⟨rfl, trivial⟩ rfl (id_lt rfl) ?_
                rintro g σ' n' ⟨rfl, rfl, rfl⟩
                exact ⟨j + 1, id, ⟨⟨rfl, rfl, rfl, rfl, rfl, succ_gi (by omega), trivial⟩, ⟨by rw [hst]; rfl, rfl, by rw [hst]; rfl, trivial⟩, rfl⟩, hlt, by show 4 - (j + 1) < 4 - j; omega⟩
              · rw [if_neg (by rw [hs]; exact Bool.false_ne_true)] at hst
                refine GOH (take_no hRn hs) id rfl rfl ⟨rfl, trivial⟩ rfl (id_lt rfl) ?_
                rintro g σ' n' ⟨rfl, rfl, rfl⟩
                exact ⟨j + 1, id, ⟨⟨rfl, rfl, rfl, rfl, rfl, succ_gi (by omega), trivial⟩, ⟨by rw [hst]; rfl, rfl, by rw [hst]; rfl, trivial⟩, rfl⟩, hlt, by show 4 - (j + 1) < 4 - j; omega⟩
            · refine p2 ?_ (decide_eq_false hop)
              rw [if_neg hop] at hst
              exact ⟨j + 1, id, ⟨⟨rfl, rfl, rfl, rfl, rfl, succ_gi (by omega), trivial⟩, ⟨by rw [hst]; rfl, rfl, by rw [hst]; rfl, trivial⟩, rfl⟩, hlt, by show 4 - (j + 1) < 4 - j; omega⟩
          · refine p2 ?_ (decide_eq_false (by omega))
            obtain rfl : j = 4 := by omega
            rw [rfindN_all]
            exact ⟨(), id, ⟨⟨rfl, rfl, rfl, trivial⟩, ⟨rfl, rfl, rfl, trivial⟩, rfl⟩, trivial⟩
        rintro _ _
        obtain ⟨hR5, hR4⟩ := hRn.op5
        refine VM 7 ?_
        refine JK.cut (α := Unit) (fun _ => ⟨[(0, .p 0 0), (3, .o 1), (4, .p 2 0)], [(0, .blk 49 [tks (rop5 r3).l, gi (rop5 r3).e, gi (rop5 r3).p]), (1, .row 77 3 (acc.map mt)), (2, .blk 77 [gs nm, gi (rops r3).1, gs ⟨#[]⟩])], 4⟩) (fun _ => True) ?_ ?_
        · refine V ?_
          by_cases hop : (rops r3).1 < 0
          · refine p1 ?_ (decide_eq_true hop)
            refine GOH (rfails_hf _ hR4 3) id rfl rfl ⟨rfl, trivial⟩ rfl (id_lt rfl) ?_
            rintro g σ' n' ⟨rfl, rfl, rfl⟩
            exact ⟨(), id, ⟨⟨rfl, rfl, rfl, trivial⟩, ⟨by rw [rop5, if_pos hop]; rfl, rfl, rfl, trivial⟩, rfl⟩, trivial⟩
          · refine p2 ?_ (decide_eq_false hop)
            exact ⟨(), id, ⟨⟨rfl, rfl, rfl, trivial⟩, ⟨by rw [rop5, if_neg hop]; rfl, rfl, rfl, trivial⟩, rfl⟩, trivial⟩
        rintro _ _
        have hrr : rround acc r1 = rrest nm r3 := by rw [rround, rmatcher, hr2, hnm, hr3]
        rw [rrest] at hrr
        generalize hr5 : rop5 r3 = r5 at hR5 hrr
        generalize (rops r3).1 = op at hrr
        obtain ⟨t5, l5, hl5⟩ := tks_cons hR5
        obtain ⟨ll5, e5, p5⟩ := r5
        simp only at hl5
        subst hl5
        refine V ?_
        refine ⟨tokR t5, by decide, rfl, ?_⟩
        refine GOH (rkind_hf hR5 3) id rfl rfl ⟨rfl, trivial⟩ rfl (id_lt rfl) ?_
        rintro g σ' n' ⟨rfl, rfl, rfl⟩
        have hRk := hR5.kind (k := 3) (by decide)
        have hsz := hR5.toks.each t5 List.mem_cons_self
        have hko := rkind_ok (k := 3) (r := ⟨t5 :: l5, e5, p5⟩)
        generalize hr6 : (rkind 3 ⟨t5 :: l5, e5, p5⟩).2 = r6 at hRk hrr hko
        generalize hss : (rkind 3 ⟨t5 :: l5, e5, p5⟩).1 = ss at hrr hko
        rcases tf r6.ok with h6 | h6
        · rw [if_pos h6] at hrr
          obtain ⟨hk3, hs3⟩ := hko h6
          replace hk3 : t5.kind = 3 := hk3
          replace hs3 : ss = t5.text := hs3
          have hq2 := quo_size hsz.1 hk3
          rw [← hs3] at hq2
          have hsz2 := hsz.2
          rw [← hs3] at hsz2
          refine GOH (rok_b h6) id rfl rfl ⟨rfl, trivial⟩ rfl (id_lt rfl) ?_
          rintro g σ' n' ⟨rfl, rfl, rfl⟩
          have hw : IntKind.i64.wrap ((ss.size : Int) - 1) = ((ss.size - 1 : Nat) : Int) := by rw [wrap_id (by omega) (by omega)]; omega
          have hv : ss.extract (1 : Int).toNat (IntKind.i64.wrap ((ss.size : Int) - 1)).toNat = rsays ss := by rw [hw]; rfl
          have hvs : (ss.extract (1 : Int).toNat (IntKind.i64.wrap ((ss.size : Int) - 1)).toNat).size < 4611686018427387904 := by rw [hv, rsays, ByteArray.size_extract]; omega
          rw [rval, ← hv] at hrr
          refine ⟨by decide, by rw [hw]; omega, by rw [hw]; omega, ?_⟩
          rcases tf (valueF (ss.extract (1 : Int).toNat (IntKind.i64.wrap ((ss.size : Int) - 1)).toNat)) with hvf | hvf
          · rw [if_pos hvf] at hrr
            refine GO ((says_rt _ hvs).bt hvf) rfl ?_
            refine ⟨by simp; omega, ?_⟩
            obtain ⟨f1, f2⟩ := fin _ _ hrr
            refine ⟨(acc ++ [⟨nm, op, ss.extract (1 : Int).toNat (IntKind.i64.wrap ((ss.size : Int) - 1)).toNat⟩], r6, f - 1), fun i => bif Nat.beq i 1 then 6 else i, ⟨⟨rfl, rfl, trivial⟩, ⟨rfl, ?_, trivial⟩, rfl⟩, f1, ?_⟩
            · exact congrArg (fun x => some (Res.row 77 3 x)) (List.map_append (l₁ := acc) (l₂ := [⟨nm, op, ss.extract (1 : Int).toNat (IntKind.i64.wrap ((ss.size : Int) - 1)).toNat⟩]) (f := mt)).symm
            · show (if Rd.ok _ = true then _ else 0) < (if Rd.ok r1 = true then _ else 0)
              rw [if_pos ho]
              exact f2
          · rw [if_neg (by rw [hvf]; exact Bool.false_ne_true)] at hrr
            replace hrr : rround acc r1 = (⟨nm, op, ss.extract (1 : Int).toNat (IntKind.i64.wrap ((ss.size : Int) - 1)).toNat⟩, ⟨r6.l, 4, t5.pos⟩) := hrr
            refine GO ((says_rt _ hvs).bt hvf) rfl ?_
            refine ⟨by simp; omega, ?_⟩
            obtain ⟨f1, f2⟩ := fin _ _ hrr
            refine ⟨(acc ++ [⟨nm, op, ss.extract (1 : Int).toNat (IntKind.i64.wrap ((ss.size : Int) - 1)).toNat⟩], ⟨r6.l, 4, t5.pos⟩, f - 1), fun i => bif Nat.beq i 1 then 6 else i, ⟨⟨rfl, rfl, trivial⟩, ⟨rfl, ?_, trivial⟩, rfl⟩, f1, ?_⟩
            · exact congrArg (fun x => some (Res.row 77 3 x)) (List.map_append (l₁ := acc) (l₂ := [⟨nm, op, ss.extract (1 : Int).toNat (IntKind.i64.wrap ((ss.size : Int) - 1)).toNat⟩]) (f := mt)).symm
            · show (if Rd.ok _ = true then _ else 0) < (if Rd.ok r1 = true then _ else 0)
              rw [if_pos ho]
              exact f2
        · rw [if_neg (by rw [h6]; exact Bool.false_ne_true)] at hrr
          refine GOH (rok_b h6) id rfl rfl ⟨rfl, trivial⟩ rfl (id_lt rfl) ?_
          rintro g σ' n' ⟨rfl, rfl, rfl⟩
          refine ⟨by simp; omega, ?_⟩
          obtain ⟨f1, f2⟩ := fin _ _ hrr
          refine ⟨(acc ++ [⟨nm, op, ⟨#[]⟩⟩], r6, f - 1), fun i => bif Nat.beq i 1 then 6 else i, ⟨⟨rfl, rfl, trivial⟩, ⟨rfl, ?_, trivial⟩, rfl⟩, f1, ?_⟩
          · exact congrArg (fun x => some (Res.row 77 3 x)) (List.map_append (l₁ := acc) (l₂ := [⟨nm, op, ⟨#[]⟩⟩]) (f := mt)).symm
          · show (if Rd.ok _ = true then _ else 0) < (if Rd.ok r1 = true then _ else 0)
            rw [if_pos ho]
            exact f2
    · refine GOH (rok_b ho) id rfl rfl ⟨rfl, trivial⟩ rfl (id_lt rfl) ?_
      rintro g σ' n' ⟨rfl, rfl, rfl⟩
      refine ⟨(acc, r1), id, ⟨⟨rfl, trivial⟩, ⟨rfl, rfl, trivial⟩, rfl⟩, ⟨hR, hl, fun h => ?_, fun _ h => ?_, hb⟩⟩
      · have := hg h
        rw [if_neg (by rw [ho]; exact Bool.false_ne_true)] at this
        show Agr (matchersP r.l) acc r1
        rw [this]
        exact ⟨rfl, rfl, ho⟩
      · rw [show r1.ok = true from h] at ho; cases ho
  · rintro ⟨m, r'⟩ hq
    refine FRZ 1 rfl ?_
    exact ⟨m, r', hq, rfl, rfl, ⟨rfl, trivial⟩⟩
end Go.Proofs.YtihakhdinkkdmaaGreatDoor
