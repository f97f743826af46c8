/-
  Plain laws: questions: what is read is a question that stands no deeper, and is printed no longer, than the text. No program is in sight.
-/
import Derived.Test.YtkoalgjlkcaonaaGreatDoorK08
import Derived.Test.YtkoalgjlkcaonaaGreatDoorK10
import Derived.Test.YtkoalgjlkcaonaaGreatDoorK07
import Derived.Test.YtkoalgjlkcaonaaGreatDoorK06
set_option linter.unusedSimpArgs false
namespace Go.PL
open Go Go.GK

theorem isP_ok {s : ByteArray} {l : List Tok} (h : isP s l = true) (hE : ToksOk l) : ∃ t r, l = t :: r ∧ t.text = s ∧ t.kind ≠ 3 := by
  obtain ⟨t, r, rfl⟩ := hE.cons
  rw [isP, Bool.and_eq_true, decide_eq_true_iff, sEq_iff] at h
  exact ⟨t, r, rfl, h.1, h.2⟩
theorem takesP_ok {s : ByteArray} {l : List Tok} (h : takesP s l = true) (hE : ToksOk l) : ∃ t r, l = t :: r ∧ l.tail = r ∧ t.text = s ∧ ToksOk r := by
  rw [takesP, Bool.and_eq_true, decide_eq_true_iff] at h
  obtain ⟨t, r, rfl, h1, h2⟩ := isP_ok h.1 hE
  exact ⟨t, r, rfl, rfl, h1, hE.tail h.2⟩
theorem mustP_ok {s : ByteArray} {l l' : List Tok} {u : Unit} (h : mustP s l = .ok (u, l')) (hE : ToksOk l) : (∀ c, wt c l = c + s.size + wt c l') ∧ ToksOk l' := by
  by_cases hc : takesP s l = true
  · rw [mustP, if_pos hc] at h
    cases h
    obtain ⟨t, r, rfl, _, rfl, h3⟩ := takesP_ok hc hE
    exact ⟨fun c => wt_cons c t r, h3⟩
  · rw [mustP, if_neg hc] at h
    cases h
theorem takesP_wt {s : ByteArray} {l : List Tok} (h : takesP s l = true) (hE : ToksOk l) : (∀ c, wt c l = c + s.size + wt c l.tail) ∧ ToksOk l.tail := by
  obtain ⟨t, r, rfl, _, rfl, h3⟩ := takesP_ok h hE
  exact ⟨fun c => wt_cons c t r, h3⟩
theorem anyP_ok {k : Int} {l l' : List Tok} {s : ByteArray} (h : anyP k l = .ok (s, l')) (hk : k ≠ 5) (hE : ToksOk l) : ∃ t, l = t :: l' ∧ t.text = s ∧ t.kind = k ∧ ToksOk l' := by
  obtain ⟨t, r, rfl⟩ := hE.cons
  by_cases hc : t.kind = k
  · have : anyP k (t :: r) = .ok (t.text, r) := if_pos hc
    rw [this] at h
    cases h
    exact ⟨t, rfl, rfl, hc, hE.tail (by rw [hc]; exact hk)⟩
  · have : anyP k (t :: r) = failP 3 (t :: r) := if_neg hc
    rw [this] at h
    cases h
theorem nameP_wt {l l' : List Tok} {s : ByteArray} (h : nameP l = .ok (s, l')) (hE : ToksOk l) : nameF s = true ∧ (∀ c, wt c l = c + s.size + wt c l') ∧ ToksOk l' := by
  obtain ⟨t, r, rfl⟩ := hE.cons
  obtain ⟨h1, h2⟩ := nameP_is h
  have h3 := nameP_ok h h2
  cases h1
  exact ⟨h3, fun c => wt_cons c t _, hE.tail (by omega)⟩
theorem digs_lt : ∀ (l : List UInt8) (acc : Nat), (∀ b ∈ l, digB b = true) → ∃ n : Nat, l.foldl (fun (n : Int) c => n * 10 + ((c.toNat : Int) - 48)) (acc : Int) = n ∧ n < (acc + 1) * 10 ^ l.length
  | [], acc, _ => ⟨acc, rfl, by simp⟩
  | c :: r, acc, h => by
    have hc := dig_sub (h c List.mem_cons_self)
    obtain ⟨n, h1, h2⟩ := digs_lt r (acc * 10 + (c.toNat - 48)) (fun b hb => h b (List.mem_cons_of_mem _ hb))
    refine ⟨n, ?_, ?_⟩
    · rw [← h1, List.foldl_cons]
      congr 1
      omega
    · refine Nat.lt_of_lt_of_le h2 ?_
      rw [List.length_cons, Nat.pow_succ, Nat.mul_comm (10 ^ r.length) 10, ← Nat.mul_assoc]
      exact Nat.mul_le_mul_right _ (by omega)
theorem nDig_le : ∀ (k u : Nat), 1 ≤ k → u < 10 ^ k → Lib.nDigits u ≤ k
  | 0, _, h, _ => absurd h (by omega)
  | 1, u, _, h => by rw [Lib.nDigits_small (by simpa using h)]; exact Nat.le_refl _
  | k + 2, u, _, h => by
    by_cases h1 : u < 10
    · rw [Lib.nDigits_small h1]; omega
    · rw [Lib.nDigits_big h1]
      have := nDig_le (k + 1) (u / 10) (by omega) (by rw [Nat.pow_succ] at h; omega)
      omega
theorem itoa_len {n : Int} (h0 : 0 ≤ n) {k : Nat} (hk : 1 ≤ k) (h : n < (10 ^ k : Nat)) : (Lib.itoa n).length ≤ k := by
  rw [Lib.itoa, if_neg (by omega), Lib.decDigits_length]
  exact nDig_le k _ hk (by omega)
theorem num_wt {t : Tok} (h : t.Ok) (hk : t.kind = 2) : (Lib.itoa (numT t.text)).length ≤ t.text.size ∧ 1 ≤ t.text.size := by
  obtain ⟨h1, h2, _⟩ := num_tok h hk
  rcases h with (⟨h, _⟩ | ⟨_, g1, g2, g3⟩ | ⟨h, _⟩ | ⟨h, _⟩) | ⟨h, _⟩
  · omega
  · have hs : t.text.data.toList.length = t.text.size := by simp
    have hp : 1 ≤ t.text.size := by
      rw [← hs]
      cases hh : t.text.data.toList with
      | nil => exact absurd hh g1
      | cons c r => simp
    obtain ⟨n, e1, e2⟩ := digs_lt t.text.data.toList 0 g3
    have e : numT t.text = (n : Int) := e1
    refine ⟨itoa_len h2 hp ?_, hp⟩
    rw [e, ← hs]
    omega
  · omega
  · omega
  · omega
theorem numberP_ok {most n : Int} {l l' : List Tok} (h : numberP most l = .ok (n, l')) (hE : ToksOk l) :
    0 ≤ n ∧ n < 1000000000000000000 ∧ n ≤ most ∧ (∀ c, c + (Lib.itoa n).length + wt c l' ≤ wt c l ∧ c + 1 + wt c l' ≤ wt c l) ∧ ToksOk l' := by
  rw [numberP] at h
  by_cases hc : (hdT l).kind = 2 ∧ most < numT (hdT l).text
  · rw [if_pos hc] at h; cases h
  rw [if_neg hc] at h
  cases ha : anyP 2 l with
  | error e => rw [ha] at h; cases h
  | ok r =>
    obtain ⟨s, l2⟩ := r
    rw [ha] at h
    cases h
    obtain ⟨t, rfl, rfl, hk, hE2⟩ := anyP_ok ha (by decide) hE
    have ht := (hE.each t List.mem_cons_self).1
    obtain ⟨_, g1, g2⟩ := num_tok ht hk
    obtain ⟨g3, g4⟩ := num_wt ht hk
    refine ⟨g1, g2, ?_, fun c => ⟨?_, ?_⟩, hE2⟩
    · exact Int.not_lt.1 fun hh => hc ⟨hk, hh⟩
    · rw [wt_cons]; omega
    · rw [wt_cons]; omega
theorem opsL_four : opsL.length = 4 := rfl
theorem find_isP {L : List ByteArray} {l : List Tok} {k : Nat} (h : (L.findIdx? fun s => isP s l) = some k) : k < L.length ∧ isP (L.getD k ⟨#[]⟩) l = true := by
  obtain ⟨h1, h2, _⟩ := List.findIdx?_eq_some_iff_getElem.1 h
  refine ⟨h1, ?_⟩
  rw [List.getD_eq_getElem?_getD, List.getElem?_eq_getElem h1]
  exact h2
theorem matcherP_ok {l l' : List Tok} {m : Mt} (h : matcherP l = .ok (m, l')) (hE : ToksOk l) : MOk m ∧ (∀ c, wx c (mtX m) + wt c l' ≤ wt c l) ∧ ToksOk l' := by
  rw [matcherP] at h
  cases h1 : nameP l with
  | error e => rw [h1] at h; cases h
  | ok r =>
    obtain ⟨n, l1⟩ := r
    rw [h1] at h
    simp only at h
    obtain ⟨hn, w1, hE1⟩ := nameP_wt h1 hE
    cases h2 : opsL.findIdx? fun s => isP s l1 with
    | none => rw [h2] at h; cases h
    | some k =>
      rw [h2] at h
      simp only at h
      obtain ⟨hk, _⟩ := find_isP h2
      rw [opsL_four] at hk
      cases h3 : mustP (opsL.getD k ⟨#[]⟩) l1 with
      | error e => rw [h3] at h; cases h
      | ok r =>
        obtain ⟨u, l2⟩ := r
        rw [h3] at h
        simp only at h
        obtain ⟨w2, hE2⟩ := mustP_ok h3 hE1
        cases h4 : anyP 3 l2 with
        | error e => rw [h4] at h; cases h
        | ok r =>
          obtain ⟨s, l3⟩ := r
          rw [h4] at h
          simp only at h
          obtain ⟨t, rfl, rfl, hk3, hE3⟩ := anyP_ok h4 (by decide) hE2
          by_cases hv : valueF (t.text.extract 1 (t.text.size - 1)) = true
          · rw [if_pos hv] at h
            cases h
            refine ⟨⟨hn, hv, by show (0 : Int) ≤ k; omega, by show (k : Int) ≤ 3; omega⟩, fun c => ?_, hE3⟩
            have h5 := quo_size (hE2.each t List.mem_cons_self).1 hk3
            have h6 := w1 c
            have h7 := w2 c
            rw [wt_cons] at h7
            have h8 : ((k : Int).toNat) = k := by omega
            have h9 : (t.text.extract 1 (t.text.size - 1)).size = t.text.size - 2 := by
              rw [ByteArray.size_extract]
              omega
            simp only [mtX, wx_cons, wx_nil, wL, mL, qL, bL_len, List.length_cons, List.length_append, List.length_nil, h8]
            rw [h9]
            omega
          · rw [if_neg hv] at h; cases h
theorem sep_wx (c : Nat) (y : Lx) (l : List (List Lx)) (x : List Lx) : wx c (sepX y (l ++ [x])) = wx c (sepX y l) + (if l.length = 0 then 0 else c + y.text.length) + wx c x := by
  rw [sepX_snoc]
  by_cases h : l = []
  · subst h; simp [sepX, wx_nil]
  · have : l.length ≠ 0 := by cases l with | nil => exact absurd rfl h | cons a r => simp
    rw [if_neg h, if_neg this, wx_append, wx_cons]
    omega
theorem matchersL_ok : ∀ (f : Nat) (acc : List Mt) (l : List Tok) (ms : List Mt) (l' : List Tok), matchersL f acc l = .ok (ms, l') → MsOk acc → ToksOk l →
    MsOk ms ∧ (∀ c, wx c (sepX (mL [44]) (ms.map mtX)) + (c + 1) + wt c l' ≤ wx c (sepX (mL [44]) (acc.map mtX)) + wt c l) ∧ ToksOk l'
  | 0, _, _, _, _, h, _, _ => by cases h
  | f + 1, acc, l, ms, l', h, ha, hE => by
    rw [matchersL] at h
    by_cases h1 : takesP (bS [125]) l = true
    · rw [if_pos h1] at h
      cases h
      obtain ⟨w, hE2⟩ := takesP_wt h1 hE
      refine ⟨ha, fun c => ?_, hE2⟩
      have h2 := w c
      have : (bS [125]).size = 1 := rfl
      omega
    rw [if_neg h1] at h
    obtain ⟨l1, hl1, w1, hE1⟩ : ∃ l1, (if acc.length = 0 then (.ok ((), l) : PRes Unit) else mustP (bS [44]) l) = .ok ((), l1) ∧ (∀ c, (if acc.length = 0 then 0 else c + 1) + wt c l1 ≤ wt c l) ∧ ToksOk l1 := by
      by_cases h2 : acc.length = 0
      · rw [if_pos h2]
        exact ⟨l, rfl, fun c => by simp [h2], hE⟩
      · rw [if_neg h2] at h ⊢
        cases h3 : mustP (bS [44]) l with
        | error e => rw [h3] at h; cases h
        | ok r =>
          obtain ⟨u, l1⟩ := r
          obtain ⟨w, hE1⟩ := mustP_ok h3 hE
          exact ⟨l1, rfl, fun c => by rw [if_neg h2, w c]; exact Nat.le_refl _, hE1⟩
    rw [hl1] at h
    simp only at h
    by_cases h4 : 8 ≤ acc.length
    · rw [if_pos h4] at h; cases h
    rw [if_neg h4] at h
    cases h5 : matcherP l1 with
    | error e => rw [h5] at h; cases h
    | ok r =>
      obtain ⟨m, l2⟩ := r
      rw [h5] at h
      simp only at h
      obtain ⟨hm, w2, hE2⟩ := matcherP_ok h5 hE1
      obtain ⟨g1, g2, g3⟩ := matchersL_ok f (acc ++ [m]) l2 ms l' h ⟨fun x hx => by
        rcases List.mem_append.1 hx with hx | hx
        · exact ha.1 x hx
        · rw [List.mem_singleton.1 hx]; exact hm, by simp; omega⟩ hE2
      refine ⟨g1, fun c => ?_, g3⟩
      have e1 := g2 c
      have e2 := w2 c
      have e3 := w1 c
      rw [List.map_append, List.map_singleton, sep_wx, List.length_map] at e1
      have : (mL [44]).text.length = 1 := rfl
      rw [this] at e1
      omega
theorem matchersP_ok {l l' : List Tok} {ms : List Mt} (h : matchersP l = .ok (ms, l')) (hE : ToksOk l) : MsOk ms ∧ (∀ c, wx c (msX ms) + wt c l' ≤ wt c l) ∧ ToksOk l' := by
  rw [matchersP] at h
  cases h1 : mustP (bS [123]) l with
  | error e => rw [h1] at h; cases h
  | ok r =>
    obtain ⟨u, l1⟩ := r
    rw [h1] at h
    simp only at h
    obtain ⟨w1, hE1⟩ := mustP_ok h1 hE
    obtain ⟨g1, g2, g3⟩ := matchersL_ok _ [] l1 ms l' h ⟨fun x hx => (by cases hx), Nat.zero_le _⟩ hE1
    refine ⟨g1, fun c => ?_, g3⟩
    have e1 := g2 c
    have e2 := w1 c
    have : (bS [123]).size = 1 := rfl
    simp only [msX, wx_cons, wx_append, wx_nil, mL, List.length_cons, List.length_nil, List.map_nil, sepX] at e1 ⊢
    omega
theorem namesL_ok : ∀ (f : Nat) (acc : List ByteArray) (l : List Tok) (ns : List ByteArray) (l' : List Tok), namesL f acc l = .ok (ns, l') → (∀ s ∈ acc, nameF s = true) → ToksOk l →
    (∀ s ∈ ns, nameF s = true) ∧ ns.length ≤ 8 ∧ ns ≠ [] ∧ (∀ c, wx c (byX ns) + wt c l' ≤ wx c (byX acc) + (if acc.length = 0 then 0 else c + 1) + wt c l) ∧ ToksOk l'
  | 0, _, _, _, _, h, _, _ => by cases h
  | f + 1, acc, l, ns, l', h, ha, hE => by
    rw [namesL] at h
    by_cases h1 : 8 ≤ acc.length
    · rw [if_pos h1] at h; cases h
    rw [if_neg h1] at h
    cases h2 : nameP l with
    | error e => rw [h2] at h; cases h
    | ok r =>
      obtain ⟨s, l1⟩ := r
      rw [h2] at h
      simp only at h
      obtain ⟨hn, w1, hE1⟩ := nameP_wt h2 hE
      have ha' : ∀ x ∈ acc ++ [s], nameF x = true := fun x hx => by
        rcases List.mem_append.1 hx with hx | hx
        · exact ha x hx
        · rw [List.mem_singleton.1 hx]; exact hn
      have hw : ∀ c, wx c (byX (acc ++ [s])) = wx c (byX acc) + (if acc.length = 0 then 0 else c + 1) + (c + s.size) := fun c => by
        rw [byX, List.map_append, List.map_singleton, sep_wx, List.length_map]
        simp only [wx_cons, wx_nil, wL, bL_len]
        rfl
      by_cases h3 : takesP (bS [44]) l1 = true
      · rw [if_pos h3] at h
        obtain ⟨w2, hE2⟩ := takesP_wt h3 hE1
        obtain ⟨g1, g2, g3, g4, g5⟩ := namesL_ok f (acc ++ [s]) l1.tail ns l' h ha' hE2
        refine ⟨g1, g2, g3, fun c => ?_, g5⟩
        have e1 := g4 c
        have e2 := w1 c
        have e3 := w2 c
        rw [hw c, if_neg (show ¬ ((acc ++ [s]).length = 0) by simp)] at e1
        have : (bS [44]).size = 1 := rfl
        omega
      · rw [if_neg h3] at h
        cases h
        refine ⟨ha', by simp; omega, by simp, fun c => ?_, hE1⟩
        rw [hw c, w1 c]
        omega
def SOk (n least : Nat) (l : List Tok) (r : PRes Qn) : Prop := ∀ q l', r = .ok (q, l') → ToksOk l → Wf q ∧ n + dep q least ≤ 8 ∧ (∀ c, wx c (atX q least) + wt c l' ≤ wt c l) ∧ ToksOk l'
def LOk (n least : Nat) (q0 : Qn) (l : List Tok) (r : PRes Qn) : Prop := ∀ q l', r = .ok (q, l') → ToksOk l → Wf q0 → n + dep q0 least ≤ 8 → Wf q ∧ n + dep q least ≤ 8 ∧ (∀ c, wx c (atX q least) + wt c l' ≤ wx c (atX q0 least) + wt c l) ∧ ToksOk l'
structure BinC (c : Int) (sym : List UInt8) (lv : Nat) : Prop where
  wf : ∀ l r, Wf l → Wf r → Wf (.mk c 0 [] 0 [] l r)
  at_ : ∀ l r, atX (.mk c 0 [] 0 [] l r) lv = atX l lv ++ binX c :: atX r (lv + 1)
  dep : ∀ l r, dep (.mk c 0 [] 0 [] l r) lv = max (dep l lv) (dep r (lv + 1))
  len : sym.length = 1
  sy : symX c = sym
theorem binC13 : BinC 13 [43] 0 := ⟨fun l r h1 h2 => .add 0 (by decide) l r h1 h2, fun l r => atX_add 0 (by decide) l r 0, fun l r => (dep_add 0 (by decide) l r 0).trans (Nat.zero_add _), rfl, rfl⟩
theorem binC14 : BinC 14 [45] 0 := ⟨fun l r h1 h2 => .add 1 (by decide) l r h1 h2, fun l r => atX_add 1 (by decide) l r 0, fun l r => (dep_add 1 (by decide) l r 0).trans (Nat.zero_add _), rfl, rfl⟩
theorem binC15 : BinC 15 [42] 1 := ⟨fun l r h1 h2 => .mul 0 (by decide) l r h1 h2, fun l r => atX_mul 0 (by decide) l r 1, fun l r => (dep_mul 0 (by decide) l r 1).trans (Nat.zero_add _), rfl, rfl⟩
theorem binC16 : BinC 16 [47] 1 := ⟨fun l r h1 h2 => .mul 1 (by decide) l r h1 h2, fun l r => atX_mul 1 (by decide) l r 1, fun l r => (dep_mul 1 (by decide) l r 1).trans (Nat.zero_add _), rfl, rfl⟩
theorem loop_step {c : Int} {sym : List UInt8} {lv n : Nat} (hc : BinC c sym lv) {q0 q : Qn} {l l' : List Tok} {x : PRes Qn} (hx : SOk n (lv + 1) l.tail x) {y : Qn → List Tok → PRes Qn}
    (hy : ∀ q1 l1, LOk n lv (.mk c 0 [] 0 [] q0 q1) l1 (y q1 l1)) (ht : takesP (bS sym) l = true)
    (h : (match x with | .error e => (.error e : PRes Qn) | .ok (r, l) => y r l) = .ok (q, l')) (hE : ToksOk l) (hw : Wf q0) (hd : n + dep q0 lv ≤ 8) :
    Wf q ∧ n + dep q lv ≤ 8 ∧ (∀ c, wx c (atX q lv) + wt c l' ≤ wx c (atX q0 lv) + wt c l) ∧ ToksOk l' := by
  obtain ⟨w1, hE1⟩ := takesP_wt ht hE
  cases x with
  | error e => cases h
  | ok r =>
    obtain ⟨q1, l1⟩ := r
    obtain ⟨g1, g2, g3, g4⟩ := hx _ _ rfl hE1
    obtain ⟨k1, k2, k3, k4⟩ := hy q1 l1 _ _ h g4 (hc.wf _ _ hw g1) (by rw [hc.dep]; omega)
    refine ⟨k1, k2, fun w => ?_, k4⟩
    have e1 := w1 w
    have e2 := g3 w
    have e3 := k3 w
    rw [hc.at_, wx_append, wx_cons] at e3
    have e4 : (bS sym).size = 1 := by
      have : (bS sym).size = sym.length := by show sym.toArray.size = _; simp
      rw [this, hc.len]
    have e5 : (binX c).text.length = 1 := by
      show (symX c).length = 1
      rw [hc.sy, hc.len]
    rw [e4] at e1
    rw [e5] at e3
    omega
theorem overs_len : oversL.length = 5 := rfl
theorem alls_len : allsL.length = 4 := rfl
theorem sound (f : Nat) : (∀ n l, SOk n 2 l (oneP f n l)) ∧ (∀ n q l, LOk n 1 q l (productL f n q l)) ∧ (∀ n l, SOk n 1 l (productP f n l)) ∧ (∀ n q l, LOk n 0 q l (sumL f n q l)) ∧ (∀ n l, SOk n 0 l (sumP f n l)) := by
  induction f with
  | zero =>
    refine ⟨?_, ?_, ?_, ?_, ?_⟩
    · intro n l q l' h; rw [oneP] at h; cases h
    · intro n q0 l q l' h; rw [productL] at h; cases h
    · intro n l q l' h; rw [productP] at h; cases h
    · intro n q0 l q l' h; rw [sumL] at h; cases h
    · intro n l q l' h; rw [sumP] at h; cases h
  | succ f ih =>
    obtain ⟨ih1, ih2, ih3, ih4, ih5⟩ := ih
    have z1 : ∀ b : UInt8, (bS [b]).size = 1 := fun b => rfl
    refine ⟨?_, ?_, ?_, ?_, ?_⟩
    · intro n l q l' h hE
      rw [oneP] at h
      by_cases h1 : 8 < n
      · rw [if_pos h1] at h; cases h
      rw [if_neg h1] at h
      by_cases h2 : takesP (bS [45]) l = true
      · rw [if_pos h2] at h
        obtain ⟨w1, hE1⟩ := takesP_wt h2 hE
        cases h3 : oneP f (n + 1) l.tail with
        | error e => rw [h3] at h; cases h
        | ok r =>
          obtain ⟨q1, l1⟩ := r
          rw [h3] at h
          cases h
          obtain ⟨g1, g2, g3, g4⟩ := ih1 _ _ _ _ h3 hE1
          refine ⟨.neg _ g1, ?_, fun c => ?_, g4⟩
          · rw [dep_neg _ _ (Nat.le_refl _)]; omega
          · have e1 := w1 c
            have e2 := g3 c
            rw [z1] at e1
            rw [atX_neg _ _ (Nat.le_refl _), wx_cons]
            show c + 1 + _ + _ ≤ _
            omega
      rw [if_neg h2] at h
      by_cases h3 : takesP (bS [40]) l = true
      · rw [if_pos h3] at h
        obtain ⟨w1, hE1⟩ := takesP_wt h3 hE
        cases h4 : sumP f (n + 1) l.tail with
        | error e => rw [h4] at h; cases h
        | ok r =>
          obtain ⟨q1, l1⟩ := r
          rw [h4] at h
          simp only at h
          obtain ⟨g1, g2, g3, g4⟩ := ih5 _ _ _ _ h4 hE1
          cases h5 : mustP (bS [41]) l1 with
          | error e => rw [h5] at h; cases h
          | ok r =>
            obtain ⟨u, l2⟩ := r
            rw [h5] at h
            cases h
            obtain ⟨w2, hE2⟩ := mustP_ok h5 g4
            obtain ⟨d1, d2⟩ : dep q 2 ≤ 1 + dep q 0 ∧ ∀ c, wx c (atX q 2) ≤ 2 * c + 2 + wx c (atX q 0) := by
              cases q with
              | nil => exact ⟨by simp [dep], fun c => by simp [atX, wx]⟩
              | mk a b c d e f g =>
                refine ⟨?_, fun w => ?_⟩
                · unfold dep
                  split <;> omega
                · unfold atX
                  rw [show decide (lvl a < 0) = false from rfl]
                  simp only [ifP, Bool.false_eq_true, if_false]
                  split
                  · rw [wx_parX]; exact Nat.le_refl _
                  · omega
            refine ⟨g1, by omega, fun c => ?_, hE2⟩
            have e1 := w1 c
            have e2 := g3 c
            have e3 := w2 c
            have e4 := d2 c
            rw [z1] at e1 e3
            omega
      rw [if_neg h3] at h
      by_cases h4 : (hdT l).kind = 2
      · rw [if_pos h4] at h
        cases h5 : numberP 9223372036854775807 l with
        | error e => rw [h5] at h; cases h
        | ok r =>
          obtain ⟨k, l1⟩ := r
          rw [h5] at h
          cases h
          obtain ⟨g1, g2, _, g4, g5⟩ := numberP_ok h5 hE
          refine ⟨.num _ g1 g2, ?_, fun c => ?_, g5⟩
          · rw [dep_num _ _ (Nat.le_refl _)]; omega
          · rw [atX_num _ _ (Nat.le_refl _), wx_cons, wx_nil]
            exact (g4 c).1
      rw [if_neg h4] at h
      by_cases h5 : isP (bS [123]) l = true
      · rw [if_pos h5] at h
        cases h6 : matchersP l with
        | error e => rw [h6] at h; cases h
        | ok r =>
          obtain ⟨m, l1⟩ := r
          rw [h6] at h
          cases h
          obtain ⟨g1, g2, g3⟩ := matchersP_ok h6 hE
          refine ⟨.pick _ g1, ?_, fun c => ?_, g3⟩
          · rw [dep_pick _ _ (Nat.le_refl _)]; omega
          · rw [atX_pick _ _ (Nat.le_refl _)]
            exact g2 c
      rw [if_neg h5] at h
      cases h6 : oversL.findIdx? fun s => isP s l with
      | some k =>
        rw [h6] at h
        simp only at h
        obtain ⟨hk, _⟩ := find_isP h6
        rw [overs_len] at hk
        cases a1 : mustP (oversL.getD k ⟨#[]⟩) l with
        | error e => rw [a1] at h; cases h
        | ok r =>
        obtain ⟨u1, l1⟩ := r
        rw [a1] at h
        simp only at h
        obtain ⟨w1, hE1⟩ := mustP_ok a1 hE
        cases a2 : mustP (bS [40]) l1 with
        | error e => rw [a2] at h; cases h
        | ok r =>
        obtain ⟨u2, l2⟩ := r
        rw [a2] at h
        simp only at h
        obtain ⟨w2, hE2⟩ := mustP_ok a2 hE1
        cases a3 : matchersP l2 with
        | error e => rw [a3] at h; cases h
        | ok r =>
        obtain ⟨m, l3⟩ := r
        rw [a3] at h
        simp only at h
        obtain ⟨hm, w3, hE3⟩ := matchersP_ok a3 hE2
        cases a4 : mustP (bS [91]) l3 with
        | error e => rw [a4] at h; cases h
        | ok r =>
        obtain ⟨u4, l4⟩ := r
        rw [a4] at h
        simp only at h
        obtain ⟨w4, hE4⟩ := mustP_ok a4 hE3
        cases a5 : numberP 1099511627776 l4 with
        | error e => rw [a5] at h; cases h
        | ok r =>
        obtain ⟨sp, l5⟩ := r
        rw [a5] at h
        simp only at h
        obtain ⟨n1, n2, n3, n4, hE5⟩ := numberP_ok a5 hE4
        cases a6 : mustP (bS [93]) l5 with
        | error e => rw [a6] at h; cases h
        | ok r =>
        obtain ⟨u6, l6⟩ := r
        rw [a6] at h
        simp only at h
        obtain ⟨w6, hE6⟩ := mustP_ok a6 hE5
        cases a7 : mustP (bS [41]) l6 with
        | error e => rw [a7] at h; cases h
        | ok r =>
        obtain ⟨u7, l7⟩ := r
        rw [a7] at h
        cases h
        obtain ⟨w7, hE7⟩ := mustP_ok a7 hE6
        have hw := Wf.over k hk m hm (if sp < 1 then 1 else sp) (by split <;> omega) (by split <;> omega)
        refine ⟨hw, ?_, fun c => ?_, hE7⟩
        · rw [dep_over k hk _ _ _ (Nat.le_refl _)]; omega
        · have e1 := w1 c
          have e2 := w2 c
          have e3 := w3 c
          have e4 := w4 c
          have e5 := n4 c
          have e6 := w6 c
          have e7 := w7 c
          rw [z1] at e2 e4 e6 e7
          have e8 : c + (Lib.itoa (if sp < 1 then 1 else sp)).length + wt c l5 ≤ wt c l4 := by
            split
            · have : (Lib.itoa 1).length = 1 := by rw [Lib.itoa, if_neg (by decide), Lib.decDigits_length]; rw [Lib.nDigits_small (by decide)]
              omega
            · exact e5.1
          rw [atX_over k hk _ _ _ (Nat.le_refl _), wx_cons, wx_parX, wx_append]
          simp only [wx_cons, wx_nil, wL, mL, dL, bL_len, List.length_cons, List.length_nil]
          omega
      | none =>
        rw [h6] at h
        simp only at h
        cases h7 : allsL.findIdx? fun s => isP s l with
        | none => rw [h7] at h; cases h
        | some k =>
        rw [h7] at h
        simp only at h
        obtain ⟨hk, _⟩ := find_isP h7
        rw [alls_len] at hk
        cases a1 : mustP (allsL.getD k ⟨#[]⟩) l with
        | error e => rw [a1] at h; cases h
        | ok r =>
        obtain ⟨u1, l1⟩ := r
        rw [a1] at h
        simp only at h
        obtain ⟨w1, hE1⟩ := mustP_ok a1 hE
        cases a2 : mustP (bS [40]) l1 with
        | error e => rw [a2] at h; cases h
        | ok r =>
        obtain ⟨u2, l2⟩ := r
        rw [a2] at h
        simp only at h
        obtain ⟨w2, hE2⟩ := mustP_ok a2 hE1
        cases a3 : sumP f (n + 1) l2 with
        | error e => rw [a3] at h; cases h
        | ok r =>
        obtain ⟨q1, l3⟩ := r
        rw [a3] at h
        simp only at h
        obtain ⟨g1, g2, g3, hE3⟩ := ih5 _ _ _ _ a3 hE2
        cases a4 : mustP (bS [41]) l3 with
        | error e => rw [a4] at h; cases h
        | ok r =>
        obtain ⟨u4, l4⟩ := r
        rw [a4] at h
        simp only at h
        obtain ⟨w4, hE4⟩ := mustP_ok a4 hE3
        by_cases h8 : takesP (bS [98, 121]) l4 = true
        · rw [if_pos h8] at h
          obtain ⟨w5, hE5⟩ := takesP_wt h8 hE4
          cases a6 : mustP (bS [40]) l4.tail with
          | error e => rw [a6] at h; cases h
          | ok r =>
          obtain ⟨u6, l6⟩ := r
          rw [a6] at h
          simp only at h
          obtain ⟨w6, hE6⟩ := mustP_ok a6 hE5
          cases a7 : namesL (l6.length + 1) [] l6 with
          | error e => rw [a7] at h; cases h
          | ok r =>
          obtain ⟨ns, l7⟩ := r
          rw [a7] at h
          simp only at h
          obtain ⟨m1, m2, m3, m4, hE7⟩ := namesL_ok _ _ _ _ _ a7 (fun s hs => by cases hs) hE6
          cases a8 : mustP (bS [41]) l7 with
          | error e => rw [a8] at h; cases h
          | ok r =>
          obtain ⟨u8, l8⟩ := r
          rw [a8] at h
          cases h
          obtain ⟨w8, hE8⟩ := mustP_ok a8 hE7
          refine ⟨.all k hk ns m1 m2 _ g1, ?_, fun c => ?_, hE8⟩
          · rw [dep_all k hk _ _ _ (Nat.le_refl _)]; omega
          · have e1 := w1 c
            have e2 := w2 c
            have e3 := g3 c
            have e4 := w4 c
            have e5 := w5 c
            have e6 := w6 c
            have e7 := m4 c
            have e8 := w8 c
            rw [z1] at e2 e4 e6 e8
            have e9 : (bS [98, 121]).size = 2 := rfl
            have hb : bysX ns = ⟨1, [98, 121], 1, 1⟩ :: parX (byX ns) := by
              cases ns with
              | nil => exact absurd rfl m3
              | cons a b => rfl
            rw [atX_all k hk _ _ _ (Nat.le_refl _), wx_cons, wx_append, wx_parX, hb, wx_cons, wx_parX]
            simp only [wL, bL_len, List.length_cons, List.length_nil]
            have : wx c (byX []) = 0 := rfl
            rw [this, if_pos (show ([] : List ByteArray).length = 0 from rfl)] at e7
            omega
        · rw [if_neg h8] at h
          cases h
          refine ⟨.all k hk [] (fun s hs => by cases hs) (Nat.zero_le _) _ g1, ?_, fun c => ?_, hE4⟩
          · rw [dep_all k hk _ _ _ (Nat.le_refl _)]; omega
          · have e1 := w1 c
            have e2 := w2 c
            have e3 := g3 c
            have e4 := w4 c
            rw [z1] at e2 e4
            rw [atX_all k hk _ _ _ (Nat.le_refl _), wx_cons, wx_append, wx_parX]
            simp only [wL, bL_len, bysX, wx_nil]
            omega
    · intro n q0 l q l' h hE hw hd
      rw [productL] at h
      by_cases h1 : takesP (bS [42]) l = true
      · rw [if_pos h1] at h
        exact loop_step binC15 (ih1 n l.tail) (fun q1 l1 => ih2 n _ l1) h1 h hE hw hd
      rw [if_neg h1] at h
      by_cases h2 : takesP (bS [47]) l = true
      · rw [if_pos h2] at h
        exact loop_step binC16 (ih1 n l.tail) (fun q1 l1 => ih2 n _ l1) h2 h hE hw hd
      rw [if_neg h2] at h
      cases h
      exact ⟨hw, hd, fun c => Nat.le_refl _, hE⟩
    · intro n l q l' h hE
      rw [productP] at h
      cases h1 : oneP f n l with
      | error e => rw [h1] at h; cases h
      | ok r =>
        obtain ⟨q1, l1⟩ := r
        rw [h1] at h
        obtain ⟨g1, g2, g3, g4⟩ := ih1 _ _ _ _ h1 hE
        obtain ⟨d1, d2⟩ := at_le q1 1 2 (by decide)
        obtain ⟨k1, k2, k3, k4⟩ := ih2 _ _ _ _ _ h g4 g1 (by omega)
        refine ⟨k1, k2, fun c => ?_, k4⟩
        have e1 := g3 c
        have e2 := k3 c
        have e3 := d2 c
        omega
    · intro n q0 l q l' h hE hw hd
      rw [sumL] at h
      by_cases h1 : takesP (bS [43]) l = true
      · rw [if_pos h1] at h
        exact loop_step binC13 (ih3 n l.tail) (fun q1 l1 => ih4 n _ l1) h1 h hE hw hd
      rw [if_neg h1] at h
      by_cases h2 : takesP (bS [45]) l = true
      · rw [if_pos h2] at h
        exact loop_step binC14 (ih3 n l.tail) (fun q1 l1 => ih4 n _ l1) h2 h hE hw hd
      rw [if_neg h2] at h
      cases h
      exact ⟨hw, hd, fun c => Nat.le_refl _, hE⟩
    · intro n l q l' h hE
      rw [sumP] at h
      cases h1 : productP f n l with
      | error e => rw [h1] at h; cases h
      | ok r =>
        obtain ⟨q1, l1⟩ := r
        rw [h1] at h
        obtain ⟨g1, g2, g3, g4⟩ := ih3 _ _ _ _ h1 hE
        obtain ⟨d1, d2⟩ := at_le q1 0 1 (by decide)
        obtain ⟨k1, k2, k3, k4⟩ := ih4 _ _ _ _ _ h g4 g1 (by omega)
        refine ⟨k1, k2, fun c => ?_, k4⟩
        have e1 := g3 c
        have e2 := k3 c
        have e3 := d2 c
        omega
theorem tok_wt (s : List UInt8) : ∀ (f i cnt : Nat) (l : List Tok), tokF s f i cnt = .ok l → ∀ c, wt c l ≤ c * l.length + (s.length - i)
  | 0, _, _, _, h, _ => by simp [tokF] at h
  | f + 1, i, cnt, l, h, c => by
    rw [tokF] at h
    simp only at h
    generalize hk : ((s.drop i).takeWhile (· == 32)).length = k at h
    by_cases he : s.length ≤ i + k
    · rw [if_pos he] at h
      cases h
      rw [wt_cons]
      show c + (ByteArray.mk #[]).size + 0 ≤ c * 1 + _
      rw [show (ByteArray.mk #[]).size = 0 from rfl]
      omega
    rw [if_neg he] at h
    have hle := lexF_le (s.drop (i + k))
    generalize lexF (s.drop (i + k)) = nk at h hle
    obtain ⟨n, kd⟩ := nk
    simp only at h hle
    by_cases hn : n = 0
    · rw [if_pos hn] at h; cases h
    rw [if_neg hn] at h
    by_cases hl : (kd = 2 ∧ 18 < n) ∨ 120 ≤ cnt
    · rw [if_pos hl] at h; cases h
    rw [if_neg hl] at h
    cases hr : tokF s f (i + k + n) (cnt + 1) with
    | error e => rw [hr] at h; cases h
    | ok l2 =>
      rw [hr] at h
      cases h
      have h1 := tok_wt s f _ _ l2 hr c
      rw [wt_cons, List.length_cons, Nat.mul_succ]
      show c + (ByteArray.mk ((s.drop (i + k)).take n).toArray).size + wt c l2 ≤ _
      have h2 : (ByteArray.mk ((s.drop (i + k)).take n).toArray).size ≤ n := by
        show ((s.drop (i + k)).take n).toArray.size ≤ n
        simp
        omega
      simp only [List.length_drop] at hle
      omega
end Go.PL
/-
  Plain laws: questions: what is printed is read as just that question. No program is in sight.
-/
namespace Go.PL
open Go Go.GK

theorem bS_size (l : List UInt8) : (bS l).size = l.length := by show l.toArray.size = _; simp
theorem isP_yes {t : Tok} {s : ByteArray} (r : List Tok) (h : t.text = s) (hk : t.kind ≠ 3) : isP s (t :: r) = true := by
  rw [isP, Bool.and_eq_true, decide_eq_true_iff, sEq_iff]
  exact ⟨h, hk⟩
theorem isP_no {t : Tok} {s : ByteArray} (r : List Tok) (h : t.text ≠ s) : isP s (t :: r) = false := by
  rw [isP, Bool.and_eq_false_iff]
  left
  rw [← Bool.not_eq_true, sEq_iff]
  exact h
theorem takesP_yes {t : Tok} {s : ByteArray} (r : List Tok) (h : t.text = s) (hk : t.kind ≠ 3) (hk5 : t.kind ≠ 5) : takesP s (t :: r) = true := by
  rw [takesP, isP_yes r h hk, Bool.true_and, decide_eq_true_iff]
  exact hk5
theorem takesP_no {t : Tok} {s : ByteArray} (r : List Tok) (h : t.text ≠ s) : takesP s (t :: r) = false := by
  rw [takesP, isP_no r h, Bool.false_and]
theorem mustP_yes {t : Tok} {s : ByteArray} (r : List Tok) (h : t.text = s) (hk : t.kind ≠ 3) (hk5 : t.kind ≠ 5) : mustP s (t :: r) = .ok ((), r) := by
  rw [mustP, if_pos (takesP_yes r h hk hk5)]
  rfl
theorem st_mk {t : Tok} {x : Lx} (h : t.st = x.st) : t.kind = x.kind ∧ t.text = bS x.text := ⟨congrArg Prod.fst h, congrArg Prod.snd h⟩
def isT (t : Tok) (s : List UInt8) : Prop := t.text = bS s ∧ t.kind ≠ 3 ∧ t.kind ≠ 5
theorem isT_mL {t : Tok} {s : List UInt8} (h : t.st = (mL s).st) : isT t s := ⟨(st_mk h).2, by rw [(st_mk h).1]; exact (by decide : (4 : Int) ≠ 3), by rw [(st_mk h).1]; exact (by decide : (4 : Int) ≠ 5)⟩
theorem isT_wL {t : Tok} {s : List UInt8} (h : t.st = (wL s).st) : isT t s := ⟨(st_mk h).2, by rw [(st_mk h).1]; exact (by decide : (1 : Int) ≠ 3), by rw [(st_mk h).1]; exact (by decide : (1 : Int) ≠ 5)⟩
theorem isT.must {t : Tok} {s : List UInt8} (h : isT t s) (r : List Tok) : mustP (bS s) (t :: r) = .ok ((), r) := mustP_yes r h.1 h.2.1 h.2.2
theorem isT.takes {t : Tok} {s : List UInt8} (h : isT t s) (r : List Tok) : takesP (bS s) (t :: r) = true := takesP_yes r h.1 h.2.1 h.2.2
theorem isT.not {t : Tok} {s w : List UInt8} (h : isT t s) (r : List Tok) (hne : s ≠ w) : takesP (bS w) (t :: r) = false := takesP_no r (by rw [h.1]; exact fun e => hne (bS_inj e))
theorem isT.noti {t : Tok} {s w : List UInt8} (h : isT t s) (r : List Tok) (hne : s ≠ w) : isP (bS w) (t :: r) = false := isP_no r (by rw [h.1]; exact fun e => hne (bS_inj e))
theorem find_yes {L : List ByteArray} (hL : ∀ i j, i < j → j < L.length → L.getD i ⟨#[]⟩ ≠ L.getD j ⟨#[]⟩) {t : Tok} (r : List Tok) {k : Nat} (hk : k < L.length) (h : t.text = L.getD k ⟨#[]⟩) (h3 : t.kind ≠ 3) :
    (L.findIdx? fun s => isP s (t :: r)) = some k := by
  rw [List.findIdx?_eq_some_iff_getElem]
  have e : ∀ i (hi : i < L.length), L.getD i ⟨#[]⟩ = L[i] := fun i hi => by rw [List.getD_eq_getElem?_getD, List.getElem?_eq_getElem hi]; rfl
  refine ⟨hk, isP_yes r (by rw [h, e k hk]) h3, fun j hj => ?_⟩
  rw [isP_no r (by rw [h, ← e j (by omega)]; exact (hL j k hj hk).symm)]
  exact Bool.false_ne_true
theorem find_no {L : List ByteArray} {t : Tok} (r : List Tok) (h : ∀ s ∈ L, t.text ≠ s) : (L.findIdx? fun s => isP s (t :: r)) = none := by
  rw [List.findIdx?_eq_none_iff]
  exact fun s hs => isP_no r (h s hs)
theorem ops_ne : ∀ i j, i < j → j < opsL.length → opsL.getD i ⟨#[]⟩ ≠ opsL.getD j ⟨#[]⟩ := by
  intro i j h1 h2
  have : j < 4 := h2
  have hh : ∀ j : Fin 4, ∀ i : Fin 4, i.val < j.val → opsL.getD i.val ⟨#[]⟩ ≠ opsL.getD j.val ⟨#[]⟩ := by decide
  exact hh ⟨j, by omega⟩ ⟨i, by omega⟩ h1
theorem overs_ne : ∀ i j, i < j → j < oversL.length → oversL.getD i ⟨#[]⟩ ≠ oversL.getD j ⟨#[]⟩ := by
  intro i j h1 h2
  have : j < 5 := h2
  have hh : ∀ j : Fin 5, ∀ i : Fin 5, i.val < j.val → oversL.getD i.val ⟨#[]⟩ ≠ oversL.getD j.val ⟨#[]⟩ := by decide
  exact hh ⟨j, by omega⟩ ⟨i, by omega⟩ h1
theorem alls_ne : ∀ i j, i < j → j < allsL.length → allsL.getD i ⟨#[]⟩ ≠ allsL.getD j ⟨#[]⟩ := by
  intro i j h1 h2
  have : j < 4 := h2
  have hh : ∀ j : Fin 4, ∀ i : Fin 4, i.val < j.val → allsL.getD i.val ⟨#[]⟩ ≠ allsL.getD j.val ⟨#[]⟩ := by decide
  exact hh ⟨j, by omega⟩ ⟨i, by omega⟩ h1
theorem alls_overs {k : Nat} (hk : k < 4) : ∀ s ∈ oversL, allsL.getD k ⟨#[]⟩ ≠ s := by
  have hh : ∀ k : Fin 4, ∀ s ∈ oversL, allsL.getD k.val ⟨#[]⟩ ≠ s := by decide
  exact hh ⟨k, hk⟩
theorem overs_mark {k : Nat} (hk : k < 5) : ∀ b : UInt8, bL (oversL.getD k ⟨#[]⟩) ≠ [b] := by
  intro b
  have hh : ∀ k : Fin 5, (bL (oversL.getD k.val ⟨#[]⟩)).length ≠ 1 := by decide
  exact fun e => hh ⟨k, hk⟩ (by rw [e]; rfl)
theorem alls_mark {k : Nat} (hk : k < 4) : ∀ b : UInt8, bL (allsL.getD k ⟨#[]⟩) ≠ [b] := by
  intro b
  have hh : ∀ k : Fin 4, (bL (allsL.getD k.val ⟨#[]⟩)).length ≠ 1 := by decide
  exact fun e => hh ⟨k, hk⟩ (by rw [e]; rfl)

theorem itoa_dig {n : Int} (h : 0 ≤ n) : (∀ b ∈ Lib.itoa n, digB b = true) ∧ Lib.itoa n ≠ [] := by
  rw [Lib.itoa, if_neg (by omega)]
  generalize n.toNat = u
  induction u using Nat.strongRecOn with
  | _ u ih =>
    have hd : ∀ d, d < 10 → digB (UInt8.ofNat (48 + d)) = true := by
      intro d hd
      have hh : ∀ d : Fin 10, digB (UInt8.ofNat (48 + d.val)) = true := by decide
      exact hh ⟨d, hd⟩
    rw [Lib.decDigits]
    by_cases h : u < 10
    · rw [dif_pos h]
      exact ⟨fun b hb => by rw [List.mem_singleton.1 hb]; exact hd u h, by simp⟩
    · rw [dif_neg h]
      refine ⟨fun b hb => ?_, by simp⟩
      rcases List.mem_append.1 hb with hb | hb
      · exact (ih (u / 10) (by omega)).1 b hb
      · rw [List.mem_singleton.1 hb]
        exact hd _ (Nat.mod_lt _ (by decide))
theorem numT_itoa {n : Int} (h : 0 ≤ n) : numT (bS (Lib.itoa n)) = n := by
  unfold numT
  rw [show (bS (Lib.itoa n)).data.toList = Lib.itoa n from bL_bS _, Lib.itoa, if_neg (by omega)]
  have : ∀ u : Nat, (Lib.decDigits u).foldl (fun (n : Int) c => n * 10 + ((c.toNat : Int) - 48)) 0 = u := by
    intro u
    induction u using Nat.strongRecOn with
    | _ u ih =>
      have hd : ∀ d, d < 10 → ((UInt8.ofNat (48 + d)).toNat : Int) - 48 = d := by
        intro d hd
        have hh : ∀ d : Fin 10, ((UInt8.ofNat (48 + d.val)).toNat : Int) - 48 = d.val := by decide
        exact hh ⟨d, hd⟩
      rw [Lib.decDigits]
      by_cases h : u < 10
      · rw [dif_pos h, List.foldl_cons, List.foldl_nil, hd u h]
        omega
      · rw [dif_neg h, List.foldl_append, ih (u / 10) (by omega), List.foldl_cons, List.foldl_nil, hd _ (Nat.mod_lt _ (by decide))]
        omega
  rw [this]
  omega
theorem numberP_yes {t : Tok} (r : List Tok) {n most : Int} (h0 : 0 ≤ n) (h1 : n ≤ most) (h : t.st = (dL (Lib.itoa n)).st) : numberP most (t :: r) = .ok (n, r) := by
  obtain ⟨hk, ht⟩ := st_mk h
  have hk : t.kind = 2 := hk
  have ht : t.text = bS (Lib.itoa n) := ht
  have hn : numT (hdT (t :: r)).text = n := by
    show numT t.text = n
    rw [ht, numT_itoa h0]
  rw [numberP, hn, if_neg (by rintro ⟨_, h⟩; omega)]
  have : anyP 2 (t :: r) = .ok (t.text, r) := if_pos hk
  rw [this]
  show Except.ok (numT t.text, r) = _
  rw [show numT t.text = n from hn]
theorem nameP_yes {t : Tok} (r : List Tok) {s : ByteArray} (hs : nameF s = true) (h : t.st = (wL (bL s)).st) : nameP (t :: r) = .ok (s, r) := by
  obtain ⟨hk, ht⟩ := st_mk h
  have hk : t.kind = 1 := hk
  have ht : t.text = s := by rw [ht]; exact bS_bL s
  have h1 : nameP (t :: r) = anyP 1 (t :: r) := if_neg (by rintro ⟨_, h⟩; rw [show (hdT (t :: r)).text = s from ht, hs] at h; cases h)
  have h2 : anyP 1 (t :: r) = .ok (t.text, r) := if_pos hk
  rw [h1, h2, ht]

theorem matcherP_yes {m : Mt} (hm : MOk m) (T rest : List Tok) (hT : T.map Tok.st = (mtX m).map Lx.st) : matcherP (T ++ rest) = .ok (m, rest) := by
  obtain ⟨t1, T, rfl, h1, hT⟩ := List.map_eq_cons_iff.1 hT
  obtain ⟨t2, T, rfl, h2, hT⟩ := List.map_eq_cons_iff.1 hT
  obtain ⟨t3, T, rfl, h3, hT⟩ := List.map_eq_cons_iff.1 hT
  rw [List.map_nil, List.map_eq_nil_iff] at hT
  subst hT
  obtain ⟨g1, g2, g3, g4⟩ := hm
  have hk : m.op.toNat < opsL.length := by rw [opsL_four]; omega
  have i2 := isT_mL h2
  have e2 : t2.text = opsL.getD m.op.toNat ⟨#[]⟩ := by rw [i2.1, bS_bL]
  rw [show [t1, t2, t3] ++ rest = t1 :: t2 :: t3 :: rest from rfl, matcherP, nameP_yes _ g1 h1]
  simp only
  rw [find_yes ops_ne _ hk e2 i2.2.1]
  simp only
  rw [mustP_yes _ e2 i2.2.1 i2.2.2]
  simp only
  obtain ⟨k3, x3⟩ := st_mk h3
  have k3 : t3.kind = 3 := k3
  have x3 : t3.text = bS (34 :: bL m.value ++ [34]) := x3
  have h4 : anyP 3 (t3 :: rest) = .ok (t3.text, rest) := if_pos k3
  rw [h4]
  simp only
  have h5 : t3.text.extract 1 (t3.text.size - 1) = m.value := by
    rw [x3, bS_size]
    apply ByteArray.ext
    apply Array.ext'
    rw [ByteArray.data_extract, Array.toList_extract]
    show List.extract (34 :: bL m.value ++ [34]) _ _ = _
    simp [bL]
  rw [h5, if_pos g2]
  obtain ⟨n, o, v⟩ := m
  have : ((o.toNat : Nat) : Int) = o := by simp only at g3; omega
  simp only [this]
theorem sepX_flat (y : Lx) (x : List Lx) (r : List (List Lx)) : sepX y (x :: r) = x ++ r.flatMap (y :: ·) := by
  induction r generalizing x with
  | nil => simp [sepX]
  | cons b r ih =>
    have : sepX y (x :: b :: r) = x ++ y :: sepX y (b :: r) := rfl
    rw [this, ih]
    simp
theorem app_map {T : List Tok} {a b : List Lx} (h : T.map Tok.st = (a ++ b).map Lx.st) : ∃ T1 T2, T = T1 ++ T2 ∧ T1.map Tok.st = a.map Lx.st ∧ T2.map Tok.st = b.map Lx.st := by
  rw [List.map_append] at h
  obtain ⟨T1, T2, h1, h2, h3⟩ := List.map_eq_append_iff.1 h
  exact ⟨T1, T2, h1, h2, h3⟩
theorem cons_map {T : List Tok} {a : Lx} {b : List Lx} (h : T.map Tok.st = (a :: b).map Lx.st) : ∃ t T2, T = t :: T2 ∧ t.st = a.st ∧ T2.map Tok.st = b.map Lx.st := by
  obtain ⟨t, T2, h1, h2, h3⟩ := List.map_eq_cons_iff.1 h
  exact ⟨t, T2, h1, h2, h3⟩
theorem nil_map {T : List Tok} (h : T.map Tok.st = ([] : List Lx).map Lx.st) : T = [] := List.map_eq_nil_iff.1 h
theorem len_map {T : List Tok} {X : List Lx} (h : T.map Tok.st = X.map Lx.st) : T.length = X.length := by
  have := congrArg List.length h
  simpa using this
theorem matchersL_more : ∀ (ms acc : List Mt) (f : Nat) (T rest : List Tok), (∀ m ∈ ms, MOk m) → acc ≠ [] → acc.length + ms.length ≤ 8 → ms.length < f → T.map Tok.st = ((ms.map mtX).flatMap (mL [44] :: ·) ++ [mL [125]]).map Lx.st →
    matchersL f acc (T ++ rest) = .ok (acc ++ ms, rest)
  | ms, acc, 0, _, _, _, _, _, hf, _ => by omega
  | [], acc, f + 1, T, rest, _, _, _, _, hT => by
    obtain ⟨t, T, rfl, h1, hT⟩ := cons_map hT
    cases nil_map hT
    rw [show [t] ++ rest = t :: rest from rfl, matchersL, if_pos ((isT_mL h1).takes rest), List.append_nil]
    rfl
  | m :: ms, acc, f + 1, T, rest, hm, ha, hl, hf, hT => by
    have ha0 : acc.length ≠ 0 := by cases acc with | nil => exact absurd rfl ha | cons a b => simp
    rw [List.map_cons, List.flatMap_cons, List.append_assoc] at hT
    obtain ⟨t, T, rfl, h1, hT⟩ := cons_map hT
    obtain ⟨T1, T2, rfl, hT1, hT2⟩ := app_map hT
    rw [show t :: (T1 ++ T2) ++ rest = t :: (T1 ++ T2 ++ rest) from rfl, matchersL, if_neg (by rw [(isT_mL h1).not _ (by decide)]; exact Bool.false_ne_true), if_neg ha0, (isT_mL h1).must]
    simp only [List.length_cons] at hl hf ⊢
    rw [if_neg (by omega), List.append_assoc, matcherP_yes (hm m List.mem_cons_self) T1 _ hT1]
    simp only
    rw [matchersL_more ms (acc ++ [m]) f T2 rest (fun x hx => hm x (List.mem_cons_of_mem _ hx)) (by simp) (by simp; omega) (by omega) hT2]
    simp
theorem flat_len : ∀ ms : List Mt, ms.length ≤ ((ms.map mtX).flatMap (mL [44] :: ·)).length
  | [] => Nat.le_refl _
  | a :: b => by
    have := flat_len b
    rw [List.map_cons, List.flatMap_cons, List.length_append, List.length_cons, List.length_cons]
    omega
theorem matchersP_yes {ms : List Mt} (hm : MsOk ms) (T rest : List Tok) (hT : T.map Tok.st = (msX ms).map Lx.st) : matchersP (T ++ rest) = .ok (ms, rest) := by
  obtain ⟨t, T, rfl, h1, hT⟩ := cons_map hT
  have hlen := len_map hT
  rw [show t :: T ++ rest = t :: (T ++ rest) from rfl, matchersP, (isT_mL h1).must]
  simp only
  cases ms with
  | nil =>
    obtain ⟨t2, T, rfl, h2, hT⟩ := cons_map hT
    cases nil_map hT
    rw [show [t2] ++ rest = t2 :: rest from rfl, matchersL, if_pos ((isT_mL h2).takes rest)]
    rfl
  | cons m ms =>
    rw [List.map_cons, sepX_flat, List.append_assoc] at hT hlen
    obtain ⟨T1, T2, rfl, hT1, hT2⟩ := app_map hT
    have hT1' := hT1
    obtain ⟨t1, T1', e, h2, _⟩ := cons_map hT1
    rw [matchersL]
    have hnt : takesP (bS [125]) (T1 ++ T2 ++ rest) = false := by
      subst e
      show takesP (bS [125]) (t1 :: _) = false
      refine takesP_no _ ?_
      obtain ⟨_, hx⟩ := st_mk h2
      rw [hx]
      intro e
      have hn := (hm.1 m List.mem_cons_self).1
      have e := bS_inj e
      have e : bL m.name = [125] := e
      have : m.name = bS [125] := by rw [← e, bS_bL]
      rw [this] at hn
      revert hn
      decide
    rw [if_neg (by rw [hnt]; exact Bool.false_ne_true)]
    rw [List.append_assoc]
    simp only [List.length_nil, if_true]
    rw [if_neg (by omega), matcherP_yes (hm.1 m List.mem_cons_self) T1 _ hT1']
    simp only
    have hf := flat_len ms
    have hh := hm.2
    simp only [List.length_cons] at hh
    show matchersL _ [m] (T2 ++ rest) = _
    rw [matchersL_more ms [m] _ T2 rest (fun x hx => hm.1 x (List.mem_cons_of_mem _ hx)) (by simp) (by simp; omega) (by
      have := len_map hT2
      simp only [List.length_append, List.length_cons] at this ⊢
      omega) hT2]
    rfl
theorem namesL_yes : ∀ (b acc : List ByteArray) (f : Nat) (T rest : List Tok), b ≠ [] → (∀ s ∈ b, nameF s = true) → acc.length + b.length ≤ 8 → b.length ≤ f → T.map Tok.st = (byX b).map Lx.st → takesP (bS [44]) rest = false →
    namesL f acc (T ++ rest) = .ok (acc ++ b, rest)
  | [], _, _, _, _, hb, _, _, _, _, _ => absurd rfl hb
  | s :: b, acc, 0, _, _, _, _, _, hf, _, _ => by simp at hf
  | [s], acc, f + 1, T, rest, _, hs, hl, _, hT, hr => by
    obtain ⟨t, T, rfl, h1, hT⟩ := cons_map hT
    cases nil_map hT
    simp only [List.length_cons, List.length_nil] at hl
    rw [show [t] ++ rest = t :: rest from rfl, namesL, if_neg (by omega), nameP_yes rest (hs s List.mem_cons_self) h1]
    simp only
    rw [if_neg (by rw [hr]; exact Bool.false_ne_true)]
  | s :: s2 :: b, acc, f + 1, T, rest, _, hs, hl, hf, hT, hr => by
    have : byX (s :: s2 :: b) = wL (bL s) :: ⟨0, [44], 4, 1⟩ :: byX (s2 :: b) := rfl
    rw [this] at hT
    obtain ⟨t, T, rfl, h1, hT⟩ := cons_map hT
    obtain ⟨t2, T, rfl, h2, hT⟩ := cons_map hT
    simp only [List.length_cons] at hl hf
    rw [show t :: t2 :: T ++ rest = t :: t2 :: (T ++ rest) from rfl, namesL, if_neg (by omega), nameP_yes _ (hs s List.mem_cons_self) h1]
    simp only
    have i2 : isT t2 [44] := isT_mL h2
    rw [if_pos (i2.takes _)]
    show namesL f (acc ++ [s]) (T ++ rest) = _
    rw [namesL_yes (s2 :: b) (acc ++ [s]) f T rest (by simp) (fun x hx => hs x (List.mem_cons_of_mem _ hx)) (by simp only [List.length_append, List.length_cons, List.length_nil]; omega) (by simp only [List.length_cons]; omega) hT hr]
    simp

def R2 (l : List Tok) : Prop := takesP (bS [98, 121]) l = false
def R1 (l : List Tok) : Prop := R2 l ∧ takesP (bS [42]) l = false ∧ takesP (bS [47]) l = false
def R0 (l : List Tok) : Prop := R1 l ∧ takesP (bS [43]) l = false ∧ takesP (bS [45]) l = false
theorem isT.r2 {t : Tok} {b : UInt8} (h : isT t [b]) (r : List Tok) : R2 (t :: r) := h.not r (by simp)
theorem isT.r1 {t : Tok} {b : UInt8} (h : isT t [b]) (r : List Tok) (h1 : b ≠ 42) (h2 : b ≠ 47) : R1 (t :: r) := ⟨h.r2 r, h.not r (by simpa using h1), h.not r (by simpa using h2)⟩
theorem isT.r0 {t : Tok} {b : UInt8} (h : isT t [b]) (r : List Tok) (h1 : b ≠ 42) (h2 : b ≠ 47) (h3 : b ≠ 43) (h4 : b ≠ 45) : R0 (t :: r) := ⟨h.r1 r h1 h2, h.not r (by simpa using h3), h.not r (by simpa using h4)⟩
def k1 : Qn → Nat
  | .nil => 0
  | .mk c _ _ _ _ l _ => if lvl c = 1 then k1 l + 1 else 0
def k0 : Qn → Nat
  | .nil => 0
  | .mk c _ _ _ _ l _ => if lvl c = 0 then k0 l + 1 else 0
def C1 (q : Qn) : Prop := ∀ f n T rest, 3 * (atX q 2).length ≤ f → n + dep q 2 ≤ 8 → T.map Tok.st = (atX q 2).map Lx.st → R2 rest → oneP f n (T ++ rest) = .ok (q, rest)
def C2 (q : Qn) : Prop := ∀ f n T rest, 3 * (atX q 1).length + 1 ≤ f → n + dep q 1 ≤ 8 → T.map Tok.st = (atX q 1).map Lx.st → R2 rest → productP f n (T ++ rest) = productL (f - 1 - k1 q) n q rest
def C3 (q : Qn) : Prop := ∀ f n T rest, 3 * (atX q 0).length + 2 ≤ f → n + dep q 0 ≤ 8 → T.map Tok.st = (atX q 0).map Lx.st → R1 rest → sumP f n (T ++ rest) = sumL (f - 1 - k0 q) n q rest
theorem productL_end {f n : Nat} {q : Qn} {l : List Tok} (hf : 1 ≤ f) (h : R1 l) : productL f n q l = .ok (q, l) := by
  cases f with
  | zero => omega
  | succ f => rw [productL, if_neg (by rw [h.2.1]; exact Bool.false_ne_true), if_neg (by rw [h.2.2]; exact Bool.false_ne_true)]
theorem sumL_end {f n : Nat} {q : Qn} {l : List Tok} (hf : 1 ≤ f) (h : R0 l) : sumL f n q l = .ok (q, l) := by
  cases f with
  | zero => omega
  | succ f => rw [sumL, if_neg (by rw [h.2.1]; exact Bool.false_ne_true), if_neg (by rw [h.2.2]; exact Bool.false_ne_true)]
theorem k_le {q : Qn} (hq : Wf q) : k1 q ≤ (atX q 1).length ∧ k0 q ≤ (atX q 0).length ∧ 1 ≤ (atX q 0).length := by
  induction hq with
  | num n h0 h1 => simp [k1, k0, lvl, atX_num]
  | pick m h => simp [k1, k0, lvl, atX_pick, msX]
  | over k hk m h sp h1 h2 =>
    have : lvl (3 + k) = 2 := by rw [lvl, if_neg (by omega), if_neg (by omega)]
    rw [atX_over k hk _ _ _ (by decide), atX_over k hk _ _ _ (by decide), k1, k0, this]
    simp
  | all k hk b hb hl q hq ih =>
    have : lvl (8 + k) = 2 := by rw [lvl, if_neg (by omega), if_neg (by omega)]
    rw [atX_all k hk _ _ _ (by decide), atX_all k hk _ _ _ (by decide), k1, k0, this]
    simp
  | neg q hq ih =>
    rw [atX_neg _ _ (by decide), atX_neg _ _ (by decide), k1, k0, show lvl 12 = 2 from rfl]
    simp
  | add k hk l r hl hr ih1 ih2 =>
    rw [atX_add k hk, atX_add k hk, k1, k0, lvl_add k hk]
    simp [ifP]
    omega
  | mul k hk l r hl hr ih1 ih2 =>
    rw [atX_mul k hk, atX_mul k hk, k1, k0, lvl_mul k hk]
    simp [ifP]
    omega
theorem par_map {T : List Tok} {x : List Lx} (h : T.map Tok.st = (parX x).map Lx.st) : ∃ a T1 b, T = a :: (T1 ++ [b]) ∧ isT a [40] ∧ isT b [41] ∧ T1.map Tok.st = x.map Lx.st := by
  obtain ⟨a, T, rfl, h1, hT⟩ := cons_map h
  obtain ⟨T1, T2, rfl, hT1, hT2⟩ := app_map hT
  obtain ⟨b, T3, rfl, h2, hT3⟩ := cons_map hT2
  cases nil_map hT3
  exact ⟨a, T1, b, rfl, isT_mL h1, isT_mL h2, hT1⟩
theorem C3.sum {q : Qn} (h : C3 q) (hq : Wf q) {f n : Nat} {T rest : List Tok} (hf : 3 * (atX q 0).length + 2 ≤ f) (hd : n + dep q 0 ≤ 8) (hT : T.map Tok.st = (atX q 0).map Lx.st) (hr : R0 rest) : sumP f n (T ++ rest) = .ok (q, rest) := by
  obtain ⟨_, g2, g3⟩ := k_le hq
  rw [h f n T rest hf hd hT hr.1]
  exact sumL_end (by omega) hr
theorem C2.prod {q : Qn} (h : C2 q) (hq : Wf q) {f n : Nat} {T rest : List Tok} (hf : 3 * (atX q 1).length + 1 ≤ f) (hd : n + dep q 1 ≤ 8) (hT : T.map Tok.st = (atX q 1).map Lx.st) (hr : R1 rest) : productP f n (T ++ rest) = .ok (q, rest) := by
  obtain ⟨g1, g2, g3⟩ := k_le hq
  have : 1 ≤ (atX q 1).length := by
    have := (at_le q 0 1 (by decide)).2 1000
    rcases h0 : atX q 1 with _ | ⟨a, b⟩
    · rw [h0] at this
      rcases h1 : atX q 0 with _ | ⟨c, d⟩
      · rw [h1] at g3; simp at g3
      · rw [h1, wx_cons, wx_nil] at this; omega
    · simp
  rw [h f n T rest hf hd hT hr.1]
  exact productL_end (by omega) hr
theorem C1_par {q : Qn} (hq : Wf q) (h3 : C3 q) (hx : atX q 2 = parX (atX q 0)) (hd2 : dep q 2 = 1 + dep q 0) : C1 q := by
  intro f n T rest hf hd hT hr
  rw [hx] at hT hf
  obtain ⟨a, T1, b, rfl, ha, hb, hT1⟩ := par_map hT
  rw [hd2] at hd
  simp only [parX, List.length_cons, List.length_append, List.length_nil] at hf
  cases f with
  | zero => omega
  | succ f =>
    have e0 : a :: (T1 ++ [b]) ++ rest = a :: (T1 ++ (b :: rest)) := by simp
    rw [e0, oneP, if_neg (by omega)]
    rw [if_neg (by rw [ha.not _ (by decide)]; exact Bool.false_ne_true)]
    rw [if_pos (ha.takes _), List.tail_cons]
    rw [h3.sum hq (by omega) (by omega) hT1 (hb.r0 _ (by decide) (by decide) (by decide) (by decide))]
    simp only
    rw [hb.must]
theorem C2_of {q : Qn} (h1 : C1 q) (hx : atX q 1 = atX q 2) (hd1 : dep q 1 = dep q 2) (hk : k1 q = 0) : C2 q := by
  intro f n T rest hf hd hT hr
  rw [hx] at hf hT
  rw [hd1] at hd
  cases f with
  | zero => omega
  | succ f =>
    rw [productP, h1 f n T rest (by omega) hd hT hr, hk]
    rfl
theorem C3_of {q : Qn} (hq : Wf q) (h2 : C2 q) (hx : atX q 0 = atX q 1) (hd1 : dep q 0 = dep q 1) (hk : k0 q = 0) : C3 q := by
  intro f n T rest hf hd hT hr
  rw [hx] at hf hT
  rw [hd1] at hd
  cases f with
  | zero => omega
  | succ f =>
    rw [sumP, h2.prod hq (by omega) hd hT hr, hk]
    rfl
theorem C3_bin {c : Int} {b : UInt8} (hc : BinC c [b] 0) {l r : Qn} (hl : Wf l) (hr : Wf r) (h3 : C3 l) (h2 : C2 r) (hk : k0 (.mk c 0 [] 0 [] l r) = k0 l + 1)
    (hs : ∀ f n q t rest, isT t [b] → sumL (f + 1) n q (t :: rest) = match productP f n rest with | .error e => (.error e : PRes Qn) | .ok (r, l) => sumL f n (.mk c 0 [] 0 [] q r) l) (hb1 : b ≠ 42) (hb2 : b ≠ 47) : C3 (.mk c 0 [] 0 [] l r) := by
  intro f n T rest hf hd hT hR
  rw [hc.at_] at hT hf
  rw [hc.dep] at hd
  simp only [Nat.reduceAdd] at hT hf hd
  obtain ⟨T1, T2, rfl, hT1, hT2⟩ := app_map hT
  obtain ⟨t, T2, rfl, ht, hT2⟩ := cons_map hT2
  have it : isT t [b] := by
    obtain ⟨e1, e2⟩ := st_mk ht
    exact ⟨by rw [e2]; show bS (symX c) = _; rw [hc.sy], by rw [e1]; show (4 : Int) ≠ 3; decide, by rw [e1]; show (4 : Int) ≠ 5; decide⟩
  simp only [List.length_append, List.length_cons] at hf
  obtain ⟨_, g2, _⟩ := k_le hl
  rw [List.append_assoc, List.cons_append, h3 f n T1 _ (by omega) (by omega) hT1 (it.r1 _ hb1 hb2)]
  obtain ⟨g, hg⟩ : ∃ g, f - 1 - k0 l = g + 1 := ⟨f - 2 - k0 l, by omega⟩
  rw [hg]
  show sumL (g + 1) n l (t :: (T2 ++ rest)) = _
  rw [hs g n l t _ it, h2.prod hr (by omega) (by omega) hT2 hR, hk]
  have : f - 1 - (k0 l + 1) = g := by omega
  rw [this]
theorem C2_bin {c : Int} {b : UInt8} (hc : BinC c [b] 1) {l r : Qn} (hl : Wf l) (h2 : C2 l) (h1 : C1 r) (hk : k1 (.mk c 0 [] 0 [] l r) = k1 l + 1)
    (hs : ∀ f n q t rest, isT t [b] → productL (f + 1) n q (t :: rest) = match oneP f n rest with | .error e => (.error e : PRes Qn) | .ok (r, l) => productL f n (.mk c 0 [] 0 [] q r) l) : C2 (.mk c 0 [] 0 [] l r) := by
  intro f n T rest hf hd hT hR
  rw [hc.at_] at hT hf
  rw [hc.dep] at hd
  simp only [Nat.reduceAdd] at hT hf hd
  obtain ⟨T1, T2, rfl, hT1, hT2⟩ := app_map hT
  obtain ⟨t, T2, rfl, ht, hT2⟩ := cons_map hT2
  have it : isT t [b] := by
    obtain ⟨e1, e2⟩ := st_mk ht
    exact ⟨by rw [e2]; show bS (symX c) = _; rw [hc.sy], by rw [e1]; show (4 : Int) ≠ 3; decide, by rw [e1]; show (4 : Int) ≠ 5; decide⟩
  simp only [List.length_append, List.length_cons] at hf
  obtain ⟨g1, _, _⟩ := k_le hl
  rw [List.append_assoc, List.cons_append, h2 f n T1 _ (by omega) (by omega) hT1 (it.r2 _)]
  obtain ⟨g, hg⟩ : ∃ g, f - 1 - k1 l = g + 1 := ⟨f - 2 - k1 l, by omega⟩
  rw [hg]
  show productL (g + 1) n l (t :: (T2 ++ rest)) = _
  rw [hs g n l t _ it, h1 g n T2 rest (by omega) (by omega) hT2 hR, hk]
  have : f - 1 - (k1 l + 1) = g := by omega
  rw [this]
theorem sumL_13 : ∀ f n q t rest, isT t [43] → sumL (f + 1) n q (t :: rest) = match productP f n rest with | .error e => (.error e : PRes Qn) | .ok (r, l) => sumL f n (.mk 13 0 [] 0 [] q r) l := fun f n q t rest h => by
  rw [sumL, if_pos (h.takes _)]; rfl
theorem sumL_14 : ∀ f n q t rest, isT t [45] → sumL (f + 1) n q (t :: rest) = match productP f n rest with | .error e => (.error e : PRes Qn) | .ok (r, l) => sumL f n (.mk 14 0 [] 0 [] q r) l := fun f n q t rest h => by
  rw [sumL, if_neg (by rw [h.not _ (by decide)]; exact Bool.false_ne_true), if_pos (h.takes _)]; rfl
theorem prodL_15 : ∀ f n q t rest, isT t [42] → productL (f + 1) n q (t :: rest) = match oneP f n rest with | .error e => (.error e : PRes Qn) | .ok (r, l) => productL f n (.mk 15 0 [] 0 [] q r) l := fun f n q t rest h => by
  rw [productL, if_pos (h.takes _)]; rfl
theorem prodL_16 : ∀ f n q t rest, isT t [47] → productL (f + 1) n q (t :: rest) = match oneP f n rest with | .error e => (.error e : PRes Qn) | .ok (r, l) => productL f n (.mk 16 0 [] 0 [] q r) l := fun f n q t rest h => by
  rw [productL, if_neg (by rw [h.not _ (by decide)]; exact Bool.false_ne_true), if_pos (h.takes _)]; rfl
theorem C1_num (n : Int) (h0 : 0 ≤ n) (h1 : n < 1000000000000000000) : C1 (.mk 1 n [] 0 [] .nil .nil) := by
  intro f k T rest hf hd hT hr
  rw [atX_num _ _ (Nat.le_refl _)] at hT hf
  obtain ⟨t, T, rfl, ht, hT⟩ := cons_map hT
  cases nil_map hT
  obtain ⟨hk, hx⟩ := st_mk ht
  have hk : t.kind = 2 := hk
  have hx : t.text = bS (Lib.itoa n) := hx
  have hne : ∀ b : UInt8, digB b = false → t.text ≠ bS [b] := by
    intro b hb e
    rw [hx] at e
    have := (itoa_dig h0).1 b (by rw [bS_inj e]; exact List.mem_cons_self)
    rw [hb] at this
    cases this
  simp only [List.length_cons, List.length_nil] at hf
  cases f with
  | zero => omega
  | succ f =>
    rw [dep_num _ _ (Nat.le_refl _)] at hd
    rw [show [t] ++ rest = t :: rest from rfl, oneP, if_neg (by omega)]
    rw [if_neg (by rw [takesP_no rest (hne 45 (by decide))]; exact Bool.false_ne_true)]
    rw [if_neg (by rw [takesP_no rest (hne 40 (by decide))]; exact Bool.false_ne_true)]
    rw [if_pos (show (hdT (t :: rest)).kind = 2 from hk)]
    rw [numberP_yes rest h0 (by omega) ht]
theorem C1_pick (m : List Mt) (hm : MsOk m) : C1 (.mk 2 0 m 300 [] .nil .nil) := by
  intro f k T rest hf hd hT hr
  rw [atX_pick _ _ (Nat.le_refl _)] at hT hf
  obtain ⟨t, T', e, ht, _⟩ := cons_map hT
  have it := isT_mL ht
  rw [dep_pick _ _ (Nat.le_refl _)] at hd
  simp only [msX, List.length_cons] at hf
  cases f with
  | zero => omega
  | succ f =>
    rw [oneP, if_neg (by omega), matchersP_yes hm T rest hT]
    subst e
    rw [List.cons_append]
    rw [if_neg (by rw [it.not _ (by decide)]; exact Bool.false_ne_true)]
    rw [if_neg (by rw [it.not _ (by decide)]; exact Bool.false_ne_true)]
    rw [if_neg (by show ¬ t.kind = 2; rw [(st_mk ht).1]; exact (by decide : (4 : Int) ≠ 2))]
    rw [if_pos (isP_yes _ it.1 it.2.1)]
theorem C1_over (k : Nat) (hk : k < 5) (m : List Mt) (hm : MsOk m) (sp : Int) (h1 : 1 ≤ sp) (h2 : sp ≤ 1099511627776) : C1 (.mk (3 + k) 0 m sp [] .nil .nil) := by
  intro f n T rest hf hd hT hr
  rw [atX_over k hk _ _ _ (Nat.le_refl _)] at hT hf
  obtain ⟨t, T, rfl, ht, hT⟩ := cons_map hT
  have it := isT_wL ht
  obtain ⟨a, T1, b, rfl, ha, hb, hT1⟩ := par_map hT
  obtain ⟨T1, T2, rfl, hT1, hT2⟩ := app_map (a := msX m) hT1
  obtain ⟨t3, T2, rfl, ht3, hT2⟩ := cons_map hT2
  obtain ⟨t4, T2, rfl, ht4, hT2⟩ := cons_map hT2
  obtain ⟨t5, T2, rfl, ht5, hT2⟩ := cons_map hT2
  cases nil_map hT2
  rw [dep_over k hk _ _ _ (Nat.le_refl _)] at hd
  simp only [List.length_cons] at hf
  cases f with
  | zero => omega
  | succ f =>
    have hm1 := overs_mark hk
    have et : t.text = oversL.getD k ⟨#[]⟩ := by rw [it.1, bS_bL]
    have e0 : t :: a :: (T1 ++ [t3, t4, t5] ++ [b]) ++ rest = t :: a :: (T1 ++ (t3 :: t4 :: t5 :: b :: rest)) := by simp
    rw [e0, oneP, if_neg (by omega)]
    rw [if_neg (by rw [it.not _ (hm1 _)]; exact Bool.false_ne_true)]
    rw [if_neg (by rw [it.not _ (hm1 _)]; exact Bool.false_ne_true)]
    rw [if_neg (by show ¬ t.kind = 2; rw [(st_mk ht).1]; exact (by decide : (1 : Int) ≠ 2))]
    rw [if_neg (by rw [it.noti _ (hm1 _)]; exact Bool.false_ne_true)]
    rw [find_yes overs_ne _ (by rw [overs_len]; exact hk) et it.2.1]
    simp only
    rw [mustP_yes _ et it.2.1 it.2.2]
    simp only
    rw [ha.must]
    simp only
    rw [matchersP_yes hm T1 _ ‹_›]
    simp only
    rw [(isT_mL ht3).must]
    simp only
    rw [numberP_yes _ (by omega) h2 ht4]
    simp only
    rw [(isT_mL ht5).must]
    simp only
    rw [hb.must]
    simp only
    rw [if_neg (by omega)]
theorem C1_neg (q : Qn) (h : C1 q) : C1 (.mk 12 0 [] 0 [] q .nil) := by
  intro f n T rest hf hd hT hr
  rw [atX_neg _ _ (Nat.le_refl _)] at hT hf
  obtain ⟨t, T, rfl, ht, hT⟩ := cons_map hT
  have it := isT_mL ht
  rw [dep_neg _ _ (Nat.le_refl _)] at hd
  simp only [List.length_cons] at hf
  cases f with
  | zero => omega
  | succ f =>
    rw [show t :: T ++ rest = t :: (T ++ rest) from rfl, oneP, if_neg (by omega)]
    rw [if_pos (it.takes _), List.tail_cons, h f (n + 1) T rest (by omega) (by omega) hT hr]
theorem C1_all (k : Nat) (hk : k < 4) (b : List ByteArray) (hb : ∀ s ∈ b, nameF s = true) (hl : b.length ≤ 8) (q : Qn) (hq : Wf q) (h : C3 q) : C1 (.mk (8 + k) 0 [] 0 b q .nil) := by
  intro f n T rest hf hd hT hr
  rw [atX_all k hk _ _ _ (Nat.le_refl _)] at hT hf
  obtain ⟨t, T, rfl, ht, hT⟩ := cons_map hT
  have it := isT_wL ht
  obtain ⟨T1, T2, rfl, hT1, hT2⟩ := app_map hT
  obtain ⟨a, T1, z, rfl, ha, hz, hT1⟩ := par_map hT1
  rw [dep_all k hk _ _ _ (Nat.le_refl _)] at hd
  simp only [List.length_cons, List.length_append, parX, List.length_nil] at hf
  cases f with
  | zero => omega
  | succ f =>
    have hm1 := alls_mark hk
    have et : t.text = allsL.getD k ⟨#[]⟩ := by rw [it.1, bS_bL]
    have e0 : t :: (a :: (T1 ++ [z]) ++ T2) ++ rest = t :: a :: (T1 ++ (z :: (T2 ++ rest))) := by simp
    rw [e0, oneP, if_neg (by omega)]
    rw [if_neg (by rw [it.not _ (hm1 _)]; exact Bool.false_ne_true)]
    rw [if_neg (by rw [it.not _ (hm1 _)]; exact Bool.false_ne_true)]
    rw [if_neg (by show ¬ t.kind = 2; rw [(st_mk ht).1]; exact (by decide : (1 : Int) ≠ 2))]
    rw [if_neg (by rw [it.noti _ (hm1 _)]; exact Bool.false_ne_true)]
    rw [find_no _ (fun s hs => by rw [et]; exact alls_overs hk s hs)]
    simp only
    rw [find_yes alls_ne _ (by rw [alls_len]; exact hk) et it.2.1]
    simp only
    rw [mustP_yes _ et it.2.1 it.2.2]
    simp only
    rw [ha.must]
    simp only
    rw [h.sum hq (by omega) (by omega) hT1 (hz.r0 _ (by decide) (by decide) (by decide) (by decide))]
    simp only
    rw [hz.must]
    simp only
    cases b with
    | nil =>
      cases nil_map hT2
      rw [List.nil_append, if_neg (by rw [hr]; exact Bool.false_ne_true)]
    | cons s b =>
      have : bysX (s :: b) = ⟨1, [98, 121], 1, 1⟩ :: parX (byX (s :: b)) := rfl
      rw [this] at hT2
      obtain ⟨y, T2, rfl, hy, hT2⟩ := cons_map hT2
      have iy : isT y [98, 121] := isT_wL hy
      obtain ⟨a2, T3, z2, rfl, ha2, hz2, hT3⟩ := par_map hT2
      have e1 : y :: a2 :: (T3 ++ [z2]) ++ rest = y :: a2 :: (T3 ++ (z2 :: rest)) := by simp
      rw [e1, if_pos (iy.takes _), List.tail_cons, ha2.must]
      simp only
      rw [namesL_yes (s :: b) [] _ T3 (z2 :: rest) (by simp) hb (by simpa using hl) (by
        have : T3.length = (byX (s :: b)).length := len_map hT3
        have h8 : ∀ (b : List ByteArray) s, (s :: b).length ≤ (byX (s :: b)).length := by
          intro b
          induction b with
          | nil => intro s; exact Nat.le_refl _
          | cons x b ih =>
            intro s
            have e : byX (s :: x :: b) = wL (bL s) :: ⟨0, [44], 4, 1⟩ :: byX (x :: b) := rfl
            have := ih x
            rw [e]
            simp only [List.length_cons] at this ⊢
            omega
        have := h8 b s
        simp only [List.length_append]
        omega) hT3 (hz2.not _ (by decide))]
      simp only [List.nil_append]
      rw [hz2.must]
theorem complete {q : Qn} (hq : Wf q) : C1 q ∧ C2 q ∧ C3 q := by
  have up : ∀ {q : Qn}, Wf q → lvl q.code = 2 → C1 q → C1 q ∧ C2 q ∧ C3 q := by
    intro q hq hl h1
    cases q with
    | nil => cases hq
    | mk c n m s b l r =>
      have hl : lvl c = 2 := hl
      have hk1 : k1 (.mk c n m s b l r) = 0 := by rw [k1, hl]; rfl
      have hk0 : k0 (.mk c n m s b l r) = 0 := by rw [k0, hl]; rfl
      have hx : ∀ a d, a ≤ 2 → d ≤ 2 → atX (.mk c n m s b l r) a = atX (.mk c n m s b l r) d := fun a d ha hd => by
        rw [atX, atX, hl, decide_eq_false (by omega), decide_eq_false (by omega)]
      have hd : ∀ a d, a ≤ 2 → d ≤ 2 → dep (.mk c n m s b l r) a = dep (.mk c n m s b l r) d := fun a d ha hd => by
        rw [dep, dep, hl, if_neg (show ¬ 2 < a by omega), if_neg (show ¬ 2 < d by omega)]
      have h2 := C2_of h1 (hx _ _ (by decide) (by decide)) (hd _ _ (by decide) (by decide)) hk1
      exact ⟨h1, h2, C3_of hq h2 (hx _ _ (by decide) (by decide)) (hd _ _ (by decide) (by decide)) hk0⟩
  induction hq with
  | num n h0 h1 => exact up (.num n h0 h1) rfl (C1_num n h0 h1)
  | pick m h => exact up (.pick m h) rfl (C1_pick m h)
  | over k hk m h sp h1 h2 => exact up (.over k hk m h sp h1 h2) (by show lvl (3 + k) = 2; rw [lvl, if_neg (by omega), if_neg (by omega)]) (C1_over k hk m h sp h1 h2)
  | all k hk b hb hl q hq ih => exact up (.all k hk b hb hl q hq) (by show lvl (8 + k) = 2; rw [lvl, if_neg (by omega), if_neg (by omega)]) (C1_all k hk b hb hl q hq ih.2.2)
  | neg q hq ih => exact up (.neg q hq) rfl (C1_neg q ih.1)
  | add k hk l r hl hr ih1 ih2 =>
    have hw := Wf.add k hk l r hl hr
    have hk0 : k0 (.mk (13 + k) 0 [] 0 [] l r) = k0 l + 1 := by rw [k0, lvl_add k hk]; rfl
    have hk1 : k1 (.mk (13 + k) 0 [] 0 [] l r) = 0 := by rw [k1, lvl_add k hk]; rfl
    have h3 : C3 (.mk (13 + k) 0 [] 0 [] l r) := by
      rcases (show k = 0 ∨ k = 1 by omega) with rfl | rfl
      · exact C3_bin binC13 hl hr ih1.2.2 ih2.2.1 hk0 sumL_13 (by decide) (by decide)
      · exact C3_bin binC14 hl hr ih1.2.2 ih2.2.1 hk0 sumL_14 (by decide) (by decide)
    have h1 := C1_par hw h3 (by rw [atX_add k hk, atX_add k hk]; rfl) (by rw [dep_add k hk, dep_add k hk, if_pos (by decide), if_neg (by decide), Nat.zero_add])
    exact ⟨h1, C2_of h1 (by rw [atX_add k hk, atX_add k hk]; rfl) (by rw [dep_add k hk, dep_add k hk]; rfl) hk1, h3⟩
  | mul k hk l r hl hr ih1 ih2 =>
    have hw := Wf.mul k hk l r hl hr
    have hk0 : k0 (.mk (15 + k) 0 [] 0 [] l r) = 0 := by rw [k0, lvl_mul k hk]; rfl
    have hk1 : k1 (.mk (15 + k) 0 [] 0 [] l r) = k1 l + 1 := by rw [k1, lvl_mul k hk]; rfl
    have h2 : C2 (.mk (15 + k) 0 [] 0 [] l r) := by
      rcases (show k = 0 ∨ k = 1 by omega) with rfl | rfl
      · exact C2_bin binC15 hl ih1.2.1 ih2.1 hk1 prodL_15
      · exact C2_bin binC16 hl ih1.2.1 ih2.1 hk1 prodL_16
    have h3 := C3_of hw h2 (by rw [atX_mul k hk, atX_mul k hk]; rfl) (by rw [dep_mul k hk, dep_mul k hk]; rfl) hk0
    exact ⟨C1_par hw h3 (by rw [atX_mul k hk, atX_mul k hk]; rfl) (by rw [dep_mul k hk, dep_mul k hk, if_pos (by decide), if_neg (by decide), Nat.zero_add]), h2, h3⟩
end Go.PL
/-
  Plain laws: questions: what is read of a text is read just so of what is printed. No program is in sight.
-/
namespace Go.PL
open Go Go.GK

theorem bget (s : ByteArray) (i : Nat) : s[i]? = (bL s)[i]? := by
  by_cases h : i < s.size
  · rw [getElem?_pos s i h, List.getElem?_eq_getElem (by rw [bL_len]; exact h)]
    obtain ⟨d⟩ := s
    simp [bL]
    rfl
  · rw [getElem?_neg s i h, List.getElem?_eq_none (by rw [bL_len]; omega)]
theorem anyB_no {n : Nat} {p : Nat → Bool} (h : anyB n p = false) {i : Nat} (hi : i < n) : p i = false := by
  cases hp : p i with
  | false => rfl
  | true => rw [anyB_true hi hp] at h; cases h
theorem name_tx {s : ByteArray} (h : nameF s = true) : TxOk 1 (bL s) := by
  rw [nameF, Bool.and_eq_true, decide_eq_true_iff, Bool.not_eq_true'] at h
  obtain ⟨h1, h2, _⟩ := h
  have hb : ∀ (i : Nat) (c : UInt8), (bL s)[i]? = some c → letB c = true ∨ (i ≠ 0 ∧ digB c = true) := by
    intro i c hc
    have hi : i < s.size := by
      rw [← bL_len]
      exact (List.getElem?_eq_some_iff.1 hc).1
    have := anyB_no h1 hi
    rw [nbad, bget, hc] at this
    simp only [Bool.and_eq_false_iff, Bool.or_eq_false_iff, Bool.not_eq_false', beq_eq_false_iff_ne] at this
    exact this
  refine .inl ⟨rfl, ?_⟩
  cases hl : bL s with
  | nil =>
    have := bL_len s
    rw [hl] at this
    simp at this
    omega
  | cons c r =>
    refine ⟨c, r, rfl, ?_, fun b hb' => ?_⟩
    · rcases hb 0 c (by rw [hl]; rfl) with h | h
      · exact h
      · exact absurd rfl h.1
    · obtain ⟨i, hi, e⟩ := List.getElem_of_mem hb'
      rcases hb (i + 1) b (by rw [hl, List.getElem?_cons_succ, List.getElem?_eq_getElem hi, e]) with h | h
      · rw [h]; rfl
      · rw [h.2, Bool.or_true]
theorem value_tx {s : ByteArray} (h : valueF s = true) : TxOk 3 (34 :: bL s ++ [34]) := by
  rw [valueF, Bool.and_eq_true, decide_eq_true_iff, Bool.not_eq_true'] at h
  refine .inr (.inr (.inl ⟨rfl, bL s, rfl, fun b hb => ?_⟩))
  obtain ⟨i, hi, e⟩ := List.getElem_of_mem hb
  have := anyB_no h.1 (i := i) (by rw [← bL_len]; exact hi)
  rw [vbad, bget, List.getElem?_eq_getElem hi, e] at this
  simp only [Bool.or_eq_false_iff, decide_eq_false_iff_not] at this
  exact this.2.2.1
theorem itoa_tx {n : Int} (h0 : 0 ≤ n) (h1 : n < 1000000000000000000) : TxOk 2 (Lib.itoa n) :=
  .inr (.inl ⟨rfl, (itoa_dig h0).2, itoa_len h0 (by decide) (by simpa using h1), (itoa_dig h0).1⟩)
theorem ops_tx {k : Nat} (hk : k < 4) : bL (opsL.getD k ⟨#[]⟩) ∈ marksL := by
  have hh : ∀ k : Fin 4, bL (opsL.getD k.val ⟨#[]⟩) ∈ marksL := by decide
  exact hh ⟨k, hk⟩
theorem overs_tx {k : Nat} (hk : k < 5) : TxOk 1 (bL (oversL.getD k ⟨#[]⟩)) := by
  have hh : ∀ k : Fin 5, nameF (oversL.getD k.val ⟨#[]⟩) = true := by decide
  exact name_tx (hh ⟨k, hk⟩)
theorem alls_tx {k : Nat} (hk : k < 4) : TxOk 1 (bL (allsL.getD k ⟨#[]⟩)) := by
  have hh : ∀ k : Fin 4, nameF (allsL.getD k.val ⟨#[]⟩) = true := by decide
  exact name_tx (hh ⟨k, hk⟩)
def XOk (l : List Lx) : Prop := (∀ x ∈ l, x.Ok) ∧ chn l
theorem XOk.nil : XOk [] := ⟨fun _ h => (by cases h), trivial⟩
theorem XOk.cons {x : Lx} {l : List Lx} (h : x.Ok) (hx : x.kind = 4 ∨ x.kind = 3 ∨ x.post ≠ 0) (hl : XOk l) : XOk (x :: l) :=
  ⟨fun y hy => by
    rcases List.mem_cons.1 hy with rfl | hy
    · exact h
    · exact hl.1 y hy, chn_cons hx hl.2⟩
theorem XOk.one {x : Lx} (h : x.Ok) : XOk [x] := ⟨fun y hy => by rw [List.mem_singleton.1 hy]; exact h, trivial⟩
theorem XOk.app {a : List Lx} {y : Lx} {b : List Lx} (ha : XOk a) (h : y.kind = 4 ∨ y.pre ≠ 0) (hb : XOk (y :: b)) : XOk (a ++ y :: b) :=
  ⟨fun z hz => by
    rcases List.mem_append.1 hz with hz | hz
    · exact ha.1 z hz
    · exact hb.1 z hz, chn_app ha.2 h hb.2⟩
theorem XOk.word {x y : Lx} {l : List Lx} (h : x.Ok) (hy : y.kind = 4 ∨ y.pre ≠ 0) (hl : XOk (y :: l)) : XOk (x :: y :: l) := XOk.app (a := [x]) (.one h) hy hl
theorem mark_ok {l : List UInt8} (h : l ∈ marksL) : (mL l).Ok := .inr (.inr (.inr ⟨rfl, h⟩))
theorem XOk.par {x : List Lx} (h : XOk x) : XOk (parX x) := .cons (mark_ok (by decide)) (.inl rfl) (.app h (.inl rfl) (.one (mark_ok (by decide))))
theorem mtX_ok {m : Mt} (h : MOk m) : XOk (mtX m) := by
  obtain ⟨h1, h2, h3, h4⟩ := h
  exact .word (name_tx h1) (.inl rfl) (.cons (mark_ok (ops_tx (by omega))) (.inl rfl) (.one (value_tx h2)))
theorem sepX_ok {y : Lx} (hy : y.Ok) (hk : y.kind = 4) : ∀ {l : List (List Lx)}, (∀ x ∈ l, XOk x) → XOk (sepX y l)
  | [], _ => .nil
  | [x], h => h x List.mem_cons_self
  | x :: z :: r, h => .app (h x List.mem_cons_self) (.inl hk) (.cons hy (.inl hk) (sepX_ok hy hk fun a ha => h a (List.mem_cons_of_mem _ ha)))
theorem msX_ok {l : List Mt} (h : MsOk l) : XOk (msX l) := by
  refine .cons (mark_ok (by decide)) (.inl rfl) (.app (sepX_ok (mark_ok (by decide)) rfl fun x hx => ?_) (.inl rfl) (.one (mark_ok (by decide))))
  obtain ⟨m, hm, rfl⟩ := List.mem_map.1 hx
  exact mtX_ok (h.1 m hm)
theorem byX_ok {b : List ByteArray} (h : ∀ s ∈ b, nameF s = true) : XOk (byX b) := by
  refine sepX_ok (y := ⟨0, [44], 4, 1⟩) (.inr (.inr (.inr ⟨rfl, by decide⟩))) rfl fun x hx => ?_
  obtain ⟨s, hs, rfl⟩ := List.mem_map.1 hx
  exact .one (name_tx (h s hs))
theorem by_tx : TxOk 1 [98, 121] := name_tx (s := bS [98, 121]) (by decide)
theorem ifP_ok {b : Bool} {x : List Lx} (h : XOk x) : XOk (ifP b x) := by
  cases b with
  | false => exact h
  | true => exact h.par
theorem bin_ok (c : Int) : (binX c).Ok := by
  refine .inr (.inr (.inr ⟨rfl, ?_⟩))
  show symX c ∈ marksL
  unfold symX
  split
  · decide
  · split
    · decide
    · split <;> decide
theorem atX_ok {q : Qn} (hq : Wf q) : ∀ least, least ≤ 2 → XOk (atX q least) := by
  induction hq with
  | num n h0 h1 => exact fun a ha => by rw [atX_num n a ha]; exact .one (itoa_tx h0 h1)
  | pick m h => exact fun a ha => by rw [atX_pick m a ha]; exact msX_ok h
  | over k hk m h sp h1 h2 =>
    intro a ha
    rw [atX_over k hk m sp a ha]
    exact .word (overs_tx hk) (.inl rfl) (.par (.app (msX_ok h) (.inl rfl) (.cons (mark_ok (by decide)) (.inl rfl) (.word (itoa_tx (by omega) (by omega)) (.inl rfl) (.one (mark_ok (by decide)))))))
  | all k hk b hb hl q hq ih =>
    intro a ha
    rw [atX_all k hk b q a ha]
    refine .word (l := atX q 0 ++ [mL [41]] ++ bysX b) (alls_tx hk) (.inl rfl) ?_
    have hp := (ih 0 (by decide)).par
    cases b with
    | nil => simpa [bysX, parX] using hp
    | cons s b =>
      have := XOk.app hp (.inr (show (⟨1, [98, 121], 1, 1⟩ : Lx).pre ≠ 0 by decide)) (.cons (x := ⟨1, [98, 121], 1, 1⟩) by_tx (.inr (.inr (by decide))) (byX_ok hb).par)
      simpa [bysX, parX] using this
  | neg q hq ih => exact fun a ha => by rw [atX_neg q a ha]; exact .cons (mark_ok (by decide)) (.inl rfl) (ih 2 (by decide))
  | add k hk l r hl hr ih1 ih2 => exact fun a ha => by rw [atX_add k hk]; exact ifP_ok (.app (ih1 0 (by decide)) (.inl rfl) (.cons (bin_ok _) (.inl rfl) (ih2 1 (by decide))))
  | mul k hk l r hl hr ih1 ih2 => exact fun a ha => by rw [atX_mul k hk]; exact ifP_ok (.app (ih1 1 (by decide)) (.inl rfl) (.cons (bin_ok _) (.inl rfl) (ih2 2 (by decide))))

def slim (l : List Lx) : Prop := ∀ x ∈ l, x.pre + x.post ≤ 2
theorem slim_bytes : ∀ {l : List Lx}, slim l → (bytesL l).length ≤ wx 2 l
  | [], _ => Nat.le_refl _
  | x :: l, h => by
    have h1 := h x List.mem_cons_self
    have h2 := slim_bytes fun y hy => h y (List.mem_cons_of_mem _ hy)
    rw [bytesL_cons, wx_cons, List.length_append, Lx.bytes]
    simp only [List.length_append, spc, List.length_replicate]
    omega
theorem slim_app {a b : List Lx} (ha : slim a) (hb : slim b) : slim (a ++ b) := fun x hx => by
  rcases List.mem_append.1 hx with hx | hx
  · exact ha x hx
  · exact hb x hx
theorem slim_cons {a : Lx} {b : List Lx} (ha : a.pre + a.post ≤ 2) (hb : slim b) : slim (a :: b) := fun x hx => by
  rcases List.mem_cons.1 hx with rfl | hx
  · exact ha
  · exact hb x hx
theorem slim_nil : slim [] := fun _ h => by cases h
theorem slim_par {x : List Lx} (h : slim x) : slim (parX x) := slim_cons (by decide) (slim_app h (slim_cons (by decide) slim_nil))
theorem slim_sep {y : Lx} (hy : y.pre + y.post ≤ 2) : ∀ {l : List (List Lx)}, (∀ x ∈ l, slim x) → slim (sepX y l)
  | [], _ => slim_nil
  | [x], h => h x List.mem_cons_self
  | x :: z :: r, h => slim_app (h x List.mem_cons_self) (slim_cons hy (slim_sep hy fun a ha => h a (List.mem_cons_of_mem _ ha)))
theorem slim_ms (l : List Mt) : slim (msX l) := by
  refine slim_cons (by decide) (slim_app (slim_sep (by decide) fun x hx => ?_) (slim_cons (by decide) slim_nil))
  obtain ⟨m, _, rfl⟩ := List.mem_map.1 hx
  exact slim_cons (Nat.zero_le _) (slim_cons (Nat.zero_le _) (slim_cons (Nat.zero_le _) slim_nil))
theorem slim_bys (b : List ByteArray) : slim (bysX b) := by
  cases b with
  | nil => exact slim_nil
  | cons s b =>
    refine slim_cons (by decide) (slim_par (slim_sep (by decide) fun x hx => ?_))
    obtain ⟨m, _, rfl⟩ := List.mem_map.1 hx
    exact slim_cons (Nat.zero_le _) slim_nil
theorem slim_if {b : Bool} {x : List Lx} (h : slim x) : slim (ifP b x) := by
  cases b with
  | false => exact h
  | true => exact slim_par h
theorem slim_at (q : Qn) : ∀ a, slim (atX q a) := by
  induction q with
  | nil => exact fun a => slim_nil
  | mk c n m s b l r ih1 ih2 =>
    intro a
    unfold atX
    refine slim_if ?_
    split
    · exact slim_cons (Nat.zero_le _) slim_nil
    split
    · exact slim_ms m
    split
    · exact slim_cons (Nat.zero_le _) (slim_par (slim_app (slim_ms m) (slim_cons (Nat.zero_le _) (slim_cons (Nat.zero_le _) (slim_cons (Nat.zero_le _) slim_nil)))))
    split
    · exact slim_cons (Nat.zero_le _) (slim_app (slim_par (ih1 0)) (slim_bys b))
    split
    · exact slim_cons (Nat.zero_le _) (ih1 2)
    split
    · exact slim_app (ih1 _) (slim_cons (Nat.le_refl _) (ih2 _))
    · exact slim_nil

theorem lex_all {X : List Lx} (h : XOk X) (hn : X.length ≤ 120) : ∃ l e, tokF (bytesL X) ((bytesL X).length + 1) 0 0 = .ok (l ++ [e]) ∧ l.map Tok.st = X.map Lx.st ∧ e.kind = 5 ∧ e.text = bS [] := by
  have hlen : X.length ≤ (bytesL X).length := by
    have : ∀ X : List Lx, (∀ x ∈ X, x.Ok) → X.length ≤ (bytesL X).length := by
      intro X
      induction X with
      | nil => intro _; exact Nat.le_refl _
      | cons x X ih =>
        intro hx
        have h1 := ih fun y hy => hx y (List.mem_cons_of_mem _ hy)
        have h2 := (lex_ok (hx x List.mem_cons_self) [] (fun _ _ h => (by cases h)) (fun _ _ h => (by cases h))).2.1
        have h3 : 0 < x.text.length := by cases ht : x.text with | nil => exact absurd ht h2 | cons c t => simp
        rw [bytesL_cons, List.length_append, Lx.bytes]
        simp only [List.length_append, List.length_cons]
        omega
    exact this X h.1
  obtain ⟨l, h1, h2⟩ := tok_ok (bytesL X) X ((bytesL X).length + 1) 0 0 0 h.1 h.2 (by simp [spc]) (Nat.zero_le _) (by omega) (by omega)
  obtain ⟨l1, l2, rfl, h3, h4⟩ := List.map_eq_append_iff.1 h2
  obtain ⟨e, l2, rfl, h5, h6⟩ := List.map_eq_cons_iff.1 h4
  rw [List.map_eq_nil_iff] at h6
  subst h6
  exact ⟨l1, e, h1, h3, congrArg Prod.fst h5, congrArg Prod.snd h5⟩
theorem end_r0 {e : Tok} (h : e.text = bS []) : R0 [e] := by
  have : ∀ b l, takesP (bS (b :: l)) [e] = false := fun b l => takesP_no _ (by rw [h]; exact fun h => by cases bS_inj h)
  exact ⟨⟨this _ _, this _ _, this _ _⟩, this _ _, this _ _⟩
theorem print_parse {s : List UInt8} (hs : s.length ≤ 600) {q : Qn} (h : parseF s = .ok q) : Wf q ∧ parseF (bytesL (atX q 0)) = .ok q ∧ (bytesL (atX q 0)).length ≤ 1000 := by
  rw [parseF] at h
  cases hT : tokF s (s.length + 1) 0 0 with
  | error e => rw [hT] at h; cases h
  | ok l =>
    rw [hT] at h
    simp only at h
    obtain ⟨hE, hl⟩ := tok_toks s (by omega) _ _ _ _ hT (by omega)
    have hw := tok_wt s _ _ _ _ hT
    cases hP : sumP (3 * l.length + 3) 0 l with
    | error e => rw [hP] at h; cases h
    | ok r =>
      obtain ⟨q1, l'⟩ := r
      rw [hP] at h
      simp only at h
      by_cases hk : (hdT l').kind ≠ 5
      · rw [if_pos hk] at h; cases h
      rw [if_neg hk] at h
      cases h
      obtain ⟨g1, g2, g3, g4⟩ := (sound _).2.2.2.2 0 l q l' hP hE
      obtain ⟨e, l', rfl⟩ := g4.cons
      have w1 : (atX q 0).length ≤ 120 := by
        have a1 := g3 1000
        have a2 := hw 1000
        rw [wt_cons] at a1
        have a3 : 1000 * (atX q 0).length ≤ wx 1000 (atX q 0) := by
          have : ∀ X : List Lx, 1000 * X.length ≤ wx 1000 X := by
            intro X
            induction X with
            | nil => exact Nat.le_refl _
            | cons x X ih => rw [wx_cons, List.length_cons]; omega
          exact this _
        omega
      have w2 : (bytesL (atX q 0)).length ≤ 1000 := by
        have a1 := g3 2
        have a2 := hw 2
        have a3 := slim_bytes (slim_at q 0)
        omega
      refine ⟨g1, ?_, w2⟩
      obtain ⟨T, e, h1, h2, h3, h4⟩ := lex_all (atX_ok g1 0 (by decide)) w1
      rw [parseF, h1]
      simp only
      rw [(complete g1).2.2.sum g1 (by
        have := len_map h2
        rw [List.length_append, this]
        omega) g2 h2 (end_r0 h4)]
      simp only
      rw [if_neg (by
        show ¬ e.kind ≠ 5
        rw [h3]
        decide)]
end Go.PL
/-
  Plain laws: a text of matchers within a greater question. No program is in sight.
-/
namespace Go.PL
open Go Go.GK
theorem lex_of (s : List UInt8) : ∀ (f i cnt : Nat) (l : List Tok), tokF s f i cnt = .ok l →
    ∃ a L T e, s.drop i = spc a ++ bytesL L ∧ (∀ x ∈ L, x.Ok ∧ x.pre = 0) ∧ l = T ++ [e] ∧ e.kind = 5 ∧ e.text = bS [] ∧ T.map Tok.st = L.map Lx.st
  | 0, _, _, _, h => by cases h
  | f + 1, i, cnt, l, h => by
    rw [tokF] at h
    simp only at h
    have hsp : (s.drop i).take ((s.drop i).takeWhile (· == 32)).length = spc ((s.drop i).takeWhile (· == 32)).length := by
      rw [tw_take]
      exact List.eq_replicate_iff.2 ⟨rfl, fun b hb => by simpa using tw_mem b hb⟩
    generalize hk : ((s.drop i).takeWhile (· == 32)).length = k at h hsp
    by_cases he : s.length ≤ i + k
    · rw [if_pos he] at h
      cases h
      refine ⟨k, [], [], _, ?_, fun x hx => (by cases hx), rfl, rfl, rfl, rfl⟩
      rw [← hsp, List.take_of_length_le (by simp; omega)]
      simp [bytesL]
    rw [if_neg he] at h
    have hx := lexF_tx (s.drop (i + k))
    have hle := lexF_le (s.drop (i + k))
    generalize lexF (s.drop (i + k)) = nk at h hx hle
    obtain ⟨n, kd⟩ := nk
    simp only at h hx hle
    by_cases hn : n = 0
    · rw [if_pos hn] at h; cases h
    rw [if_neg hn] at h
    by_cases hl : (kd = 2 ∧ 18 < n) ∨ 120 ≤ cnt
    · rw [if_pos hl] at h; cases h
    rw [if_neg hl] at h
    cases hr : tokF s f (i + k + n) (cnt + 1) with
    | error e => rw [hr] at h; cases h
    | ok l2 =>
      rw [hr] at h
      cases h
      obtain ⟨a, L, T, e, h1, h2, h3, h4, h4', h5⟩ := lex_of s f _ _ l2 hr
      refine ⟨k, ⟨0, (s.drop (i + k)).take n, kd, a⟩ :: L, ⟨kd, ⟨((s.drop (i + k)).take n).toArray⟩, (i + k : Nat)⟩ :: T, e, ?_, ?_, by rw [h3]; rfl, h4, h4', by rw [List.map_cons, List.map_cons, h5]; rfl⟩
      · rw [bytesL_cons]
        show _ = spc k ++ ((spc 0 ++ (s.drop (i + k)).take n ++ spc a) ++ bytesL L)
        rw [← hsp, List.append_assoc, ← h1]
        have e1 := List.take_append_drop k (s.drop i)
        have e2 := List.take_append_drop n (s.drop (i + k))
        rw [List.drop_drop] at e1 e2
        conv => lhs; rw [← e1, ← e2]
        simp [spc]
      · intro x hm
        rcases List.mem_cons.1 hm with rfl | hm
        · exact ⟨hx hn (fun h => hl (.inl h)), rfl⟩
        · exact h2 x hm
theorem chn_of : ∀ (L M : List Lx), (∀ x ∈ M, x.pre = 0 ∧ x.post = 0) → chn M → L.map Lx.st = M.map Lx.st → chn L
  | [], _, _, _, _ => trivial
  | [_], _, _, _, _ => trivial
  | x :: y :: r, M, h0, hM, h => by
    obtain ⟨u, M, rfl⟩ : ∃ u M', M = u :: M' := by cases M with | nil => cases h | cons u M => exact ⟨u, M, rfl⟩
    have h : x.st = u.st ∧ (y :: r).map Lx.st = M.map Lx.st := by simpa only [List.map_cons, List.cons.injEq] using h
    obtain ⟨e1, h⟩ := h
    obtain ⟨v, M, rfl⟩ : ∃ u M', M = u :: M' := by cases M with | nil => simp at h | cons u M => exact ⟨u, M, rfl⟩
    have e2 : y.st = v.st := (show y.st = v.st ∧ _ by simpa only [List.map_cons, List.cons.injEq] using h).1
    have k1 : x.kind = u.kind := congrArg Prod.fst e1
    have k2 : y.kind = v.kind := congrArg Prod.fst e2
    refine ⟨fun hx => ?_, chn_of (y :: r) (v :: M) (fun z hz => h0 z (List.mem_cons_of_mem _ hz)) hM.2 h⟩
    rcases hM.1 (by rw [← k1]; exact hx) with hp | hp | hp
    · exact absurd (h0 u (by simp)).2 hp
    · exact absurd (h0 v (by simp)).1 hp
    · exact .inr (.inr (by rw [k2]; exact hp))
theorem sepX_mem {y : Lx} {z : Lx} : ∀ {l : List (List Lx)}, z ∈ sepX y l → z = y ∨ ∃ x ∈ l, z ∈ x
  | [], h => by cases h
  | [x], h => .inr ⟨x, by simp, h⟩
  | x :: w :: r, h => by
    have h : z ∈ x ++ y :: sepX y (w :: r) := h
    rcases List.mem_append.1 h with h | h
    · exact .inr ⟨x, by simp, h⟩
    · rcases List.mem_cons.1 h with h | h
      · exact .inl h
      · exact (sepX_mem h).imp id fun ⟨x, hx, hz⟩ => ⟨x, List.mem_cons_of_mem _ hx, hz⟩
theorem msX_bare (ms : List Mt) : ∀ x ∈ msX ms, x.pre = 0 ∧ x.post = 0 := by
  intro x hx
  rcases List.mem_cons.1 hx with rfl | hx
  · exact ⟨rfl, rfl⟩
  rcases List.mem_append.1 hx with hx | hx
  · rcases sepX_mem hx with rfl | ⟨y, hy, hz⟩
    · exact ⟨rfl, rfl⟩
    · obtain ⟨m, _, rfl⟩ := List.mem_map.1 hy
      simp only [mtX, List.mem_cons, List.not_mem_nil, or_false] at hz
      rcases hz with rfl | rfl | rfl <;> exact ⟨rfl, rfl⟩
  · rw [List.mem_singleton.1 hx]
    exact ⟨rfl, rfl⟩
theorem mark_kind {t : Tok} (h : t.Ok) {m : List UInt8} (hm : m ∈ marksL) (ht : t.text = bS m) : t.kind = 4 := by
  have e : t.text.data.toList = m := by rw [ht]; exact bL_bS m
  obtain ⟨c, r, hr, h1, h2, _, _, h3⟩ := marks_ne hm
  rcases h with (⟨_, c', r', h, hl, _⟩ | ⟨_, _, _, h⟩ | ⟨_, v, h, _⟩ | ⟨h, _⟩) | ⟨_, h⟩
  · rw [e, hr] at h
    injection h with h _
    rw [h, hl] at h1
    cases h1
  · rw [e, hr] at h
    rw [h c (by simp)] at h2
    cases h2
  · rw [e, hr] at h
    injection h with h _
    exact absurd (by rw [h]; rfl) h3
  · exact h
  · rw [h] at e
    rw [← e] at hr
    cases hr
theorem takesP_st {m : List UInt8} {l : List Tok} (h : takesP (bS m) l = true) (hE : ToksOk l) (hm : m ∈ marksL) : ∃ t r, l = t :: r ∧ l.tail = r ∧ t.st = (mL m).st ∧ ToksOk r := by
  obtain ⟨t, r, rfl, h2, h3, h4⟩ := takesP_ok h hE
  refine ⟨t, r, rfl, h2, ?_, h4⟩
  show (t.kind, t.text) = (4, bS m)
  rw [mark_kind (hE.each t List.mem_cons_self).1 hm h3, h3]
theorem mustP_st {m : List UInt8} {l l' : List Tok} {u : Unit} (h : mustP (bS m) l = .ok (u, l')) (hE : ToksOk l) (hm : m ∈ marksL) : ∃ t, l = t :: l' ∧ t.st = (mL m).st ∧ ToksOk l' := by
  by_cases hc : takesP (bS m) l = true
  · rw [mustP, if_pos hc] at h
    obtain ⟨t, r, rfl, h2, h3, h4⟩ := takesP_st hc hE hm
    cases h
    exact ⟨t, rfl, h3, h4⟩
  · rw [mustP, if_neg hc] at h
    cases h
theorem quo_is {t : Tok} (h : t.Ok) (hk : t.kind = 3) : t.text = bS (34 :: bL (t.text.extract 1 (t.text.size - 1)) ++ [34]) := by
  obtain ⟨v, h1, _⟩ := quo_tok h hk
  have e : bL t.text = 34 :: v ++ [34] := h1
  have : bL (t.text.extract 1 (t.text.size - 1)) = v := by
    have : bL (t.text.extract 1 (t.text.size - 1)) = ((bL t.text).take (t.text.size - 1)).drop 1 := by simp [bL, List.drop_take]
    rw [this, ← bL_len, e]
    simp
  rw [this, ← e, bS_bL]
theorem matcherP_st {l l' : List Tok} {m : Mt} (h : matcherP l = .ok (m, l')) (hE : ToksOk l) : ∃ T, l = T ++ l' ∧ T.map Tok.st = (mtX m).map Lx.st := by
  rw [matcherP] at h
  cases h1 : nameP l with
  | error e => rw [h1] at h; cases h
  | ok r =>
    obtain ⟨n, l1⟩ := r
    rw [h1] at h
    simp only at h
    obtain ⟨_, _, hE1⟩ := nameP_wt h1 hE
    obtain ⟨t0, r0, rfl⟩ := hE.cons
    obtain ⟨g1, g2⟩ := nameP_is h1
    cases g1
    cases h2 : opsL.findIdx? fun s => isP s l1 with
    | none => rw [h2] at h; cases h
    | some k =>
      rw [h2] at h
      simp only at h
      obtain ⟨hk, _⟩ := find_isP h2
      rw [opsL_four] at hk
      cases h3 : mustP (opsL.getD k ⟨#[]⟩) l1 with
      | error e => rw [h3] at h; cases h
      | ok r =>
        obtain ⟨u, l2⟩ := r
        rw [h3] at h
        simp only at h
        rw [← bS_bL (opsL.getD k ⟨#[]⟩)] at h3
        obtain ⟨t1, rfl, g3, hE2⟩ := mustP_st h3 hE1 (ops_tx hk)
        cases h4 : anyP 3 l2 with
        | error e => rw [h4] at h; cases h
        | ok r =>
          obtain ⟨s, l3⟩ := r
          rw [h4] at h
          simp only at h
          obtain ⟨t, rfl, rfl, hk3, hE3⟩ := anyP_ok h4 (by decide) hE2
          by_cases hv : valueF (t.text.extract 1 (t.text.size - 1)) = true
          · rw [if_pos hv] at h
            cases h
            refine ⟨[t0, t1, t], rfl, ?_⟩
            have e0 : t0.st = (wL (bL t0.text)).st := by
              show (t0.kind, t0.text) = (1, bS (bL t0.text))
              rw [g2, bS_bL]
            have e2 : t.st = (qL (bL (t.text.extract 1 (t.text.size - 1)))).st := by
              show (t.kind, t.text) = (3, bS (34 :: bL (t.text.extract 1 (t.text.size - 1)) ++ [34]))
              rw [← quo_is (hE2.each t List.mem_cons_self).1 hk3, hk3]
            have e8 : ((k : Int).toNat) = k := by omega
            simp only [List.map_cons, List.map_nil, mtX, e8]
            rw [← e0, ← g3, ← e2]
          · rw [if_neg hv] at h; cases h
theorem sepX_app (y : Lx) (l : List (List Lx)) (x : List Lx) : sepX y (l ++ [x]) = sepX y l ++ (if l = [] then [] else [y]) ++ x := by
  rw [sepX_snoc]
  by_cases h : l = []
  · subst h; rfl
  · rw [if_neg h, if_neg h]; simp
theorem matchersL_st : ∀ (f : Nat) (acc : List Mt) (l : List Tok) (ms : List Mt) (l' : List Tok) (A : List Tok), matchersL f acc l = .ok (ms, l') → ToksOk l → A.map Tok.st = (sepX (mL [44]) (acc.map mtX)).map Lx.st →
    ∃ T, l = T ++ l' ∧ (A ++ T).map Tok.st = (sepX (mL [44]) (ms.map mtX) ++ [mL [125]]).map Lx.st
  | 0, _, _, _, _, _, h, _, _ => by cases h
  | f + 1, acc, l, ms, l', A, h, hE, hA => by
    rw [matchersL] at h
    by_cases h1 : takesP (bS [125]) l = true
    · rw [if_pos h1] at h
      obtain ⟨t, r, rfl, h2, h3, _⟩ := takesP_st h1 hE (by decide)
      cases h
      exact ⟨[t], rfl, by rw [List.map_append, List.map_append, hA, List.map_singleton, List.map_singleton, h3]⟩
    rw [if_neg h1] at h
    obtain ⟨l1, C, hl1, hlC, hC, hE1⟩ : ∃ l1 C, (if acc.length = 0 then (.ok ((), l) : PRes Unit) else mustP (bS [44]) l) = .ok ((), l1) ∧ l = C ++ l1 ∧ C.map Tok.st = (if acc.map mtX = [] then [] else [mL [44]]).map Lx.st ∧ ToksOk l1 := by
      by_cases h2 : acc.length = 0
      · have : acc = [] := by simpa using h2
        subst this
        exact ⟨l, [], rfl, rfl, rfl, hE⟩
      · rw [if_neg h2] at h ⊢
        cases h3 : mustP (bS [44]) l with
        | error e => rw [h3] at h; cases h
        | ok r =>
          obtain ⟨u, l1⟩ := r
          obtain ⟨t, rfl, h4, hE1⟩ := mustP_st h3 hE (by decide)
          refine ⟨l1, [t], rfl, rfl, ?_, hE1⟩
          rw [if_neg (by simpa using h2), List.map_singleton, List.map_singleton, h4]
    rw [hl1] at h
    simp only at h
    by_cases h4 : 8 ≤ acc.length
    · rw [if_pos h4] at h; cases h
    rw [if_neg h4] at h
    cases h5 : matcherP l1 with
    | error e => rw [h5] at h; cases h
    | ok r =>
      obtain ⟨m, l2⟩ := r
      rw [h5] at h
      simp only at h
      obtain ⟨_, _, hE2⟩ := matcherP_ok h5 hE1
      obtain ⟨T1, rfl, hT1⟩ := matcherP_st h5 hE1
      obtain ⟨T2, rfl, hT2⟩ := matchersL_st f (acc ++ [m]) l2 ms l' (A ++ C ++ T1) h hE2 (by
        rw [List.map_append (l₁ := acc), List.map_singleton, sepX_app, List.map_append, List.map_append, List.map_append, List.map_append, hA, hC, hT1])
      exact ⟨C ++ T1 ++ T2, by rw [hlC]; simp, by rw [← hT2]; simp⟩
theorem matchersP_st {l l' : List Tok} {ms : List Mt} (h : matchersP l = .ok (ms, l')) (hE : ToksOk l) : ∃ T, l = T ++ l' ∧ T.map Tok.st = (msX ms).map Lx.st := by
  rw [matchersP] at h
  cases h1 : mustP (bS [123]) l with
  | error e => rw [h1] at h; cases h
  | ok r =>
    obtain ⟨u, l1⟩ := r
    rw [h1] at h
    simp only at h
    obtain ⟨t, rfl, h3, hE1⟩ := mustP_st h1 hE (by decide)
    obtain ⟨T, rfl, hT⟩ := matchersL_st _ [] l1 ms l' [] h hE1 rfl
    exact ⟨t :: T, rfl, by rw [msX, List.map_cons, List.map_cons, h3, ← hT]; rfl⟩
theorem parse_lex {X : List Lx} {q : Qn} (hq : Wf q) (hd : dep q 0 ≤ 8) (hX : XOk X) (hst : X.map Lx.st = (atX q 0).map Lx.st) (hn : X.length ≤ 120) : parseF (bytesL X) = .ok q := by
  obtain ⟨T, e, h1, h2, h3, h4⟩ := lex_all hX hn
  rw [parseF, h1]
  simp only
  have hT := h2.trans hst
  rw [(complete hq).2.2.sum hq (by
    have := len_map hT
    rw [List.length_append, this]
    omega) (by omega) hT (end_r0 h4)]
  simp only
  rw [if_neg (by
    show ¬ e.kind ≠ 5
    rw [h3]
    decide)]
def pickQ (ms : List Mt) : Qn := .mk 2 0 ms 300 [] .nil .nil
def allQ (k : Nat) (b : List ByteArray) (q : Qn) : Qn := .mk (8 + k) 0 [] 0 b q .nil
theorem allQ_wf {k : Nat} (hk : k < 4) {q : Qn} (hq : Wf q) : Wf (allQ k [] q) := .all k hk [] (fun _ h => (by cases h)) (Nat.zero_le _) q hq
theorem parts_parse {s : List UInt8} (hs : s.length ≤ 60) {ms : List Mt} (h : matchF s = .ok ms) : MsOk ms ∧ parseF s = .ok (pickQ ms) ∧
    (∀ k, k < 4 → parseF (bL (allsL.getD k ⟨#[]⟩) ++ 40 :: (s ++ [41])) = .ok (allQ k [] (pickQ ms))) ∧
    ∀ k, k < 4 → ∀ k2, k2 < 4 → ∀ b : ByteArray, nameF b = true →
      parseF (bL (allsL.getD k ⟨#[]⟩) ++ 40 :: (bL (allsL.getD k2 ⟨#[]⟩) ++ 40 :: (s ++ 41 :: 32 :: 98 :: 121 :: 32 :: 40 :: (bL b ++ [41, 41])))) = .ok (allQ k [] (allQ k2 [b] (pickQ ms))) := by
  rw [matchF] at h
  cases hT : tokF s (s.length + 1) 0 0 with
  | error e => rw [hT] at h; cases h
  | ok l =>
    rw [hT] at h
    simp only at h
    obtain ⟨hE, hl⟩ := tok_toks s (by omega) _ _ _ _ hT (by omega)
    obtain ⟨a, L, T, e, hb, hL, rfl, he, he', hst⟩ := lex_of s _ _ _ _ hT
    cases hP : matchersP (T ++ [e]) with
    | error e => rw [hP] at h; cases h
    | ok r =>
      obtain ⟨q1, l'⟩ := r
      rw [hP] at h
      simp only at h
      by_cases hk : (hdT l').kind ≠ 5
      · rw [if_pos hk] at h; cases h
      rw [if_neg hk] at h
      cases h
      obtain ⟨g1, _, g4⟩ := matchersP_ok hP hE
      obtain ⟨T', hT', hst'⟩ := matchersP_st hP hE
      obtain ⟨e', r', rfl⟩ := g4.cons
      have hk5 : e'.kind = 5 := Classical.not_not.1 hk
      have hTk : ∀ t ∈ T, t.kind ≠ 5 := by
        intro t ht hk
        obtain ⟨x, hx, hxe⟩ := List.mem_map.1 (show t.st ∈ L.map Lx.st by rw [← hst]; exact List.mem_map_of_mem ht)
        have : x.kind = 5 := (congrArg Prod.fst hxe).trans hk
        rcases (hL x hx).1 with ⟨h, _⟩ | ⟨h, _⟩ | ⟨h, _⟩ | ⟨h, _⟩ <;> omega
      have hTT : T = T' := by
        rcases List.eq_nil_or_concat r' with rfl | ⟨r2, z, rfl⟩
        · have := List.append_inj' hT' rfl
          exact this.1
        · have h1 : T ++ [e] = (T' ++ e' :: r2) ++ [z] := by rw [hT']; simp
          have := (List.append_inj' h1 rfl).1
          exact absurd hk5 (hTk e' (by rw [this]; simp))
      subst hTT
      have hLm : L.map Lx.st = (msX ms).map Lx.st := hst.symm.trans hst'
      have hLX : XOk L := ⟨fun x hx => (hL x hx).1, chn_of L (msX ms) (msX_bare ms) (msX_ok g1).2 hLm⟩
      have hs0 : s = spc a ++ bytesL L := by simpa using hb
      have hlen : L.length ≤ 60 := by
        have h1 : L.length ≤ (bytesL L).length := by
          have : ∀ X : List Lx, (∀ x ∈ X, x.Ok) → X.length ≤ (bytesL X).length := by
            intro X
            induction X with
            | nil => intro _; exact Nat.le_refl _
            | cons x X ih =>
              intro hx
              have h1 := ih fun y hy => hx y (List.mem_cons_of_mem _ hy)
              have h2 := (lex_ok (hx x List.mem_cons_self) [] (fun _ _ h => (by cases h)) (fun _ _ h => (by cases h))).2.1
              have h3 : 0 < x.text.length := by cases ht : x.text with | nil => exact absurd ht h2 | cons c t => simp
              rw [bytesL_cons, List.length_append, Lx.bytes]
              simp only [List.length_append, List.length_cons]
              omega
          exact this L hLX.1
        have h2 := congrArg List.length hs0
        rw [List.length_append] at h2
        omega
      have hw : Wf (pickQ ms) := .pick ms g1
      have hpar : XOk (⟨0, [40], 4, a⟩ :: (L ++ [mL [41]])) := .cons (.inr (.inr (.inr ⟨rfl, (by decide : ([40] : List UInt8) ∈ marksL)⟩))) (.inl rfl) (.app hLX (.inl rfl) (.one (mark_ok (by decide))))
      have hpst : (⟨0, [40], 4, a⟩ :: (L ++ [mL [41]]) : List Lx).map Lx.st = (parX (atX (pickQ ms) 0)).map Lx.st := by
        rw [parX, pickQ, atX_pick ms 0 (by decide), List.map_cons, List.map_cons, List.map_append, List.map_append, hLm]
        rfl
      have hpb : bytesL (⟨0, [40], 4, a⟩ :: (L ++ [mL [41]])) = 40 :: (s ++ [41]) := by
        rw [bytesL_cons, bytesL_append, hs0]
        simp [Lx.bytes, spc, bytesL, mL]
      refine ⟨g1, ?_, fun k hk => ?_, fun k hk k2 hk2 b hbn => ?_⟩
      · rw [parseF, hT]
        simp only
        have hT2 : T.map Tok.st = (atX (pickQ ms) 0).map Lx.st := by rw [pickQ, atX_pick ms 0 (by decide)]; exact hst'
        rw [(complete hw).2.2.sum hw (by
          have := len_map hT2
          rw [List.length_append, this]
          omega) (by rw [pickQ, dep_pick ms 0 (by decide)]; decide) hT2 (end_r0 he')]
        simp only
        rw [if_neg (by
          show ¬ e.kind ≠ 5
          rw [he]
          decide)]
      · have := parse_lex (X := wL (bL (allsL.getD k ⟨#[]⟩)) :: ⟨0, [40], 4, a⟩ :: (L ++ [mL [41]])) (q := allQ k [] (pickQ ms)) (allQ_wf hk hw)
          (by rw [allQ, dep_all k hk [] _ 0 (by decide), pickQ, dep_pick ms 0 (by decide)]; decide) (.word (alls_tx hk) (.inl rfl) hpar)
          (by rw [List.map_cons, hpst, allQ, atX_all k hk [] _ 0 (by decide), List.map_cons]; simp [bysX]) (by simp; omega)
        rw [bytesL_cons, hpb] at this
        simpa [Lx.bytes, spc, wL] using this
      · have hin : XOk ((wL (bL (allsL.getD k2 ⟨#[]⟩)) :: ⟨0, [40], 4, a⟩ :: (L ++ [mL [41]])) ++ bysX [b]) :=
          .app (.word (alls_tx hk2) (.inl rfl) hpar) (.inr (by decide)) (.cons by_tx (.inr (.inr (by decide))) (XOk.par (byX_ok fun s hs => by rw [List.mem_singleton.1 hs]; exact hbn)))
        have hinst : ((wL (bL (allsL.getD k2 ⟨#[]⟩)) :: ⟨0, [40], 4, a⟩ :: (L ++ [mL [41]])) ++ bysX [b]).map Lx.st = (atX (allQ k2 [b] (pickQ ms)) 0).map Lx.st := by
          rw [List.map_append, List.map_cons, hpst, allQ, atX_all k2 hk2 [b] _ 0 (by decide), List.map_cons, List.map_append]
          rfl
        have := parse_lex (X := wL (bL (allsL.getD k ⟨#[]⟩)) :: parX ((wL (bL (allsL.getD k2 ⟨#[]⟩)) :: ⟨0, [40], 4, a⟩ :: (L ++ [mL [41]])) ++ bysX [b])) (q := allQ k [] (allQ k2 [b] (pickQ ms)))
          (allQ_wf hk (.all k2 hk2 [b] (fun s hs => by rw [List.mem_singleton.1 hs]; exact hbn) (Nat.le_of_ble_eq_true rfl) _ hw))
          (by rw [allQ, dep_all k hk [] _ 0 (by decide), allQ, dep_all k2 hk2 [b] _ 0 (by decide), pickQ, dep_pick ms 0 (by decide)]; decide) (.word (alls_tx hk) (.inl rfl) hin.par)
          (by rw [List.map_cons, parX, List.map_cons, List.map_append, hinst, show allQ k [] (allQ k2 [b] (pickQ ms)) = .mk (8 + k) 0 [] 0 [] (allQ k2 [b] (pickQ ms)) .nil from rfl, atX_all k hk [] _ 0 (by decide), List.map_cons]; simp [bysX, parX]) (by simp [parX, bysX, byX, sepX]; omega)
        rw [bytesL_cons, parX, bytesL_cons, bytesL_append, bytesL_append, bytesL_cons, hpb] at this
        simpa [Lx.bytes, spc, wL, mL, bysX, byX, sepX, parX, bytesL] using this
end Go.PL
/-
  Plain laws: a source of right series; answers at another time; how many points there are. No program is in sight.
-/
namespace Go.PL
open Go Go.GK
structure SerOk (l : List Ser) : Prop where
  ris : RisS l
  len : l.length ≤ 100
  val : ∀ x ∈ l, ∀ y ∈ x.samples, I64 y.value
  small : ∀ x ∈ l, x.labels.length ≤ 1000000 ∧ x.samples.length ≤ 100000
theorem src_mem {l : List Ser} {m : List Mt} {f t : Int} {z : Ser} (h : z ∈ srcF l m f t) : ∃ x ∈ l, z = ⟨x.labels, x.samples.filter (inT f t)⟩ := by
  obtain ⟨x, hx, h⟩ := List.mem_filterMap.1 h
  split at h
  · cases h; exact ⟨x, hx, rfl⟩
  · cases h
theorem src_b {l : List Ser} (h : SerOk l) : SrcB (srcF l) := by
  refine ⟨⟨fun m f t => ?_, fun m f t => Nat.le_trans (List.length_filterMap_le _ _) h.len, fun m f t z hz y hy => ?_⟩, fun m f t z hz => ?_⟩
  · refine List.Pairwise.filterMap _ (fun x y hxy u hu v hv => ?_) h.ris
    have e1 : u.labels = x.labels := by split at hu <;> cases hu; rfl
    have e2 : v.labels = y.labels := by split at hv <;> cases hv; rfl
    rw [e1, e2]
    exact hxy
  · obtain ⟨x, hx, rfl⟩ := src_mem hz
    exact h.val x hx y (List.mem_filter.1 hy).1
  · obtain ⟨x, hx, rfl⟩ := src_mem hz
    have := h.small x hx
    exact ⟨this.1, Nat.le_trans (List.length_filter_le _ _) this.2⟩
def asksF (S : List Ser) (s : List UInt8) (t : Int) : Option (List Pt) := match parseF s with
  | .error _ => none
  | .ok q => match evalF (srcF S) t q with
    | .error _ => none
    | .ok a => some a.1
end Go.PL
/-
  Contracts: a source of series (package raingaugekeep), and what is asked of it.
-/
namespace Go.Proofs.YtkoalgjlkcaonaaGreatDoor
open Go.GK Go.PL Go.RowKit
set_option maxRecDepth 100000
theorem src_snoc (S : List Ser) (m : List Mt) (f t : Int) (i : Nat) (h : i < S.length) : srcF (S.take (i + 1)) m f t = srcF (S.take i) m f t ++ (if S[i].samples.filter (inT f t) ≠ [] ∧ allF S[i].labels m = true then [⟨S[i].labels, S[i].samples.filter (inT f t)⟩] else []) := by
  unfold srcF
  rw [List.take_add_one, List.getElem?_eq_getElem h, List.filterMap_append]
  congr 1
  by_cases h0 : S[i].samples.filter (inT f t) ≠ [] ∧ allF S[i].labels m = true
  · rw [if_pos h0]
    show List.filterMap _ [S[i]] = _
    rw [List.filterMap_cons, if_pos h0]
    rfl
  · rw [if_neg h0]
    show List.filterMap _ [S[i]] = _
    rw [List.filterMap_cons, if_neg h0]
    rfl
theorem source1_rt (S : List Ser) (hl : S.length ≤ 100) (hs : ∀ x ∈ S, x.samples.length ≤ 100000) (m : List Mt) (f t : Int) (hm : m.length ≤ 8) :
    Rt pg 63 [.sl 3 (m.map mt), gi f, gi t, .r [ses S]] (.tup [ses (srcF S m f t), .v .nilIface]) := by
  refine Rt.of pg_ok Tryz.func63 rfl Tryz.ntmps63 rfl Tryz.results63 Tryz.call63 fun H0 S0 w0 h0 g0 => ?_
  have hll : (S.map se).length = S.length := by simp
  refine JK.ownNil 9 31 2 rfl ?_
  refine JK.loopE (α := Nat) (β := Unit) (fun i => ⟨[(0, .sl 3 (m.map mt)), (1, gi f), (2, gi t), (3, .r [ses S]), (9, .o 0), (10, gi i)], [(0, .row 31 2 ((srcF (S.take i) m f t).map se))], 1⟩) (fun i => i ≤ S.length) (fun i => S.length - i)
    (fun _ => ⟨[(9, .o 0)], [(0, .row 31 2 ((srcF S m f t).map se))], 1⟩) (fun _ => True) 0 id ?_ (Nat.zero_le _) ?_ ?_
  · exact ⟨⟨rfl, rfl, rfl, rfl, rfl, rfl, trivial⟩, ⟨rfl, trivial⟩, rfl⟩
  · intro i hi
    refine V ?_
    by_cases hlt : i < S.length
    · have hst := src_snoc S m f t i hlt
      have hAl : (srcF (S.take i) m f t).length ≤ i := Nat.le_trans (List.length_filterMap_le _ _) (by rw [List.length_take]; omega)
      generalize srcF (S.take i) m f t = A at hst hAl ⊢
      have hbt := between_rt S[i].samples f t (hs _ (List.getElem_mem hlt))
      generalize hX : S[i].samples.filter (inS f t) = X at hbt
      have hX' : S[i].samples.filter (inT f t) = X := hX
      rw [hX'] at hst
      have hXl : (X.map sm).length = X.length := by simp
      have hall := lall_rt S[i].labels m (by omega)
      refine p1 ?_ (decide_eq_true (by omega))
      refine ix (h := ?_)
      refine GO hbt rfl ?_
      by_cases h0 : X = []
      · subst h0
        refine p2 ?_ (decide_eq_false (by decide))
        refine ⟨i + 1, id, ⟨⟨rfl, rfl, rfl, rfl, rfl, succ_gi (by omega), trivial⟩, ⟨?_, trivial⟩, rfl⟩, hlt, by show S.length - (i + 1) < S.length - i; omega⟩
        rw [hst, if_neg (fun h => h.1 rfl), List.append_nil]
        rfl
      · have hpos : 0 < X.length := List.length_pos_iff.2 h0
        refine p1 ?_ (decide_eq_true (by rw [hXl]; omega))
        refine ix (h := ?_)
        rcases tf (allF S[i].labels m) with h1 | h1
        · refine GO (hall.bt h1) rfl ?_
          repeat (first | refine p1 ?_ | refine p2 ?_ | refine p3 ?_ | refine p4 ?_)
          refine ix (h := ?_)
          refine ⟨by simp only [List.length_map, List.length_cons, List.length_nil]; omega, ?_⟩
          refine ⟨i + 1, fun _ => 2, ⟨⟨rfl, rfl, rfl, rfl, rfl, succ_gi (by omega), trivial⟩, ⟨?_, trivial⟩, rfl⟩, hlt, by show S.length - (i + 1) < S.length - i; omega⟩
          rw [hst, if_pos ⟨h0, h1⟩, List.map_append]
          rfl
        · refine GO (hall.bt h1) rfl ?_
          repeat (first | refine p1 ?_ | refine p2 ?_ | refine p3 ?_ | refine p4 ?_)
          refine ⟨i + 1, id, ⟨⟨rfl, rfl, rfl, rfl, rfl, succ_gi (by omega), trivial⟩, ⟨?_, trivial⟩, rfl⟩, hlt, by show S.length - (i + 1) < S.length - i; omega⟩
          rw [hst, if_neg (fun h => by rw [h1] at h; cases h.2), List.append_nil]
          rfl
    · refine p2 ?_ (decide_eq_false (by omega))
      obtain rfl : i = S.length := by omega
      rw [List.take_length]
      exact ⟨(), id, ⟨⟨rfl, trivial⟩, ⟨rfl, trivial⟩, rfl⟩, trivial⟩
  · rintro _ _
    refine FRZ 0 rfl ?_
    exact ⟨⟨rfl, rfl, trivial⟩, rfl⟩
theorem source_c {S : List Ser} (h : SerOk S) : SrcC 63 S (srcF S) :=
  ⟨fun m lo hi hm => source1_rt S h.len (fun x hx => (h.small x hx).2) m lo hi hm, (src_b h).ok, (src_b h).small⟩
theorem source_rt (S : List Ser) : Rt pg 29 [ses S] (srcG 63 S) := by
  refine Rt.ofJ pg_ok Tryz.func29 rfl Tryz.ntmps29 rfl Tryz.results29 Tryz.call29 fun H0 S0 w0 h0 g0 => ?_
  refine VM 8 ?_
  refine FZB 0 rfl rfl ?_
  exact ⟨rfl, rfl⟩
theorem samePK_rt (l : List Pt) : Rt pg 10 [pts l, pts l] (.b true) := by
  refine Rt.of pg_ok Tryz.func10 rfl Tryz.ntmps10 rfl Tryz.results10 Tryz.call10 fun H0 S0 w0 h0 g0 => ?_
  refine p2 ?_ (by simp)
  refine JK.len 0 rfl fun hlen _ => ?_
  have hlen' : l.length ≤ 9223372036854775807 := by simpa [maxLen] using hlen
  refine JK.loop (α := Nat) (fun i => ⟨[(0, pts l), (1, pts l), (5, gi i)], [], 0⟩) (fun i => i ≤ l.length) (fun i => l.length - i) 0 id ?_ (Nat.zero_le _) ?_
  · exact ⟨⟨rfl, rfl, rfl, trivial⟩, trivial, rfl⟩
  · intro i hi
    refine V ?_
    by_cases h : i < l.length
    · refine p1 ?_ (decide_eq_true (by simp only [List.length_map]; omega))
      have hc := lcompare_rt l[i].labels l[i].labels
      rw [show cmpF l[i].labels l[i].labels = 0 from (cmpF_is.eq0 _ _).2 rfl] at hc
      refine DRAW [] false (tk [0, 1, 2, 3, 4, 5, 6, 7, 8, 9, 10, 11, 12, 13, 14, 15, 16, 17, 18, 19, 20, 21]) (by kernel_rfl) ?_
      refine ix (h := ?_)
      refine ix (h := ?_)
      have hne : (l[i].value != l[i].value) = false := by simp
      refine p4 ?_ hne
      refine ix (h := ?_)
      refine ix (h := ?_)
      refine RGO 22 true (tk [23, 24]) hc rfl (congrArg (fun c => bif (c == false) then some (13, [lbs l[i].labels, lbs l[i].labels]) else none) hne) (by kernel_rfl) ?_
      refine V ?_
      refine p2 ?_
      exact ⟨i + 1, id, ⟨⟨rfl, rfl, succ_gi (by omega), trivial⟩, trivial, rfl⟩, h, by show l.length - (i + 1) < l.length - i; omega⟩
    · refine p2 ?_ (decide_eq_false (by simp only [List.length_map]; omega))
      refine V ?_
      exact ⟨rfl, rfl⟩
def asksG : Option (List Pt) → GV
  | some l => .tup [pts l, .v (.bool true)]
  | none => .tup [.v (.slice none 0 0), .v (.bool false)]
theorem asks_rt {S : List Ser} (hS : SerOk S) (s : ByteArray) (hs : s.size ≤ 600) (t : Int) (h1 : -1099511627776 ≤ t) (h2 : t ≤ 1099511627776) :
    Rt pg 9 [ses S, gs s, gi t] (asksG (asksF S s.data.toList t)) := by
  have hss : s.data.toList.length ≤ 600 := by simpa using hs
  have hp := parse_rt s (by omega)
  unfold asksF
  refine Rt.of pg_ok Tryz.func9 rfl Tryz.ntmps9 rfl Tryz.results9 Tryz.call9 fun H0 S0 w0 h0 g0 => ?_
  cases hP : parseF s.data.toList with
  | error ep =>
    obtain ⟨e, p⟩ := ep
    rw [hP] at hp
    refine GO hp rfl ?_
    refine p1 ?_ rfl
    exact ⟨⟨rfl, rfl, trivial⟩, rfl⟩
  | ok q =>
    rw [hP] at hp
    obtain ⟨hw, _, _⟩ := print_parse hss hP
    have hc := comes_rt (source_c hS) t hw h1 h2
    obtain ⟨c, n, m, sp, b, l, r, rfl⟩ : ∃ c n m sp b l r, q = .mk c n m sp b l r := by cases hw <;> exact ⟨_, _, _, _, _, _, _, rfl⟩
    refine GO hp rfl ?_
    refine p2 ?_ rfl
    refine GO (source_rt S) rfl ?_
    simp only
    cases hE : evalF (srcF S) t (.mk c n m sp b l r) with
    | error e =>
      rw [hE] at hc
      refine GO hc rfl ?_
      refine ⟨by kernel_rfl, ?_⟩
      exact ⟨⟨rfl, rfl, trivial⟩, rfl⟩
    | ok a =>
      obtain ⟨pl, a2⟩ := a
      rw [hE] at hc
      refine GO hc rfl ?_
      refine ⟨by kernel_rfl, ?_⟩
      exact ⟨⟨rfl, rfl, trivial⟩, rfl⟩
end Go.Proofs.YtkoalgjlkcaonaaGreatDoor
/-
  The ghost machine: what is known when a region that draws its order is under way: all that is told, also what came of calls.
-/
namespace Go.GK
open Go.RowKit
theorem wpAnyH_mono {P : Program} {md : Region.Mode} {ops : Array Oper} {Q : Exit → Act → World → Prop} {S S' : World → Prop} (hS : ∀ w, S w → S' w) :
    ∀ (fuel : Nat) (listed : Array Bool) (a : Act) (w : World), wpAnyH P md ops Q S fuel listed a w → wpAnyH P md ops Q S' fuel listed a w
  | 0, _, _, _, h => h
  | fuel + 1, _, _, _, h => ⟨h.1, fun i hi => wpOp_mono (fun a' w' h' => ⟨hS w' h'.1, wpAnyH_mono hS fuel _ a' w' h'.2⟩) (h.2 i hi)⟩
theorem Fr.trans {H0 H1 H2 : Hid} {S0 S1 S2 : List Nat} {w0 w1 w2 : World} (h : Fr H0 S0 w0 H1 S1 w1) (h' : Fr H1 S1 w1 H2 S2 w2) : Fr H0 S0 w0 H2 S2 w2 := by
  refine ⟨h'.os.trans h.os, h'.tape.trans h.tape, h'.output.trans h.output, Nat.le_trans h.size h'.size, fun b hb hn => ?_, fun b hb => ?_, fun b h0 h2 => ?_, h.le.trans h'.le⟩
  · rw [h'.keep b (Nat.lt_of_lt_of_le hb h.size) fun hc => ?_, h.keep b hb hn]
    rcases h.own b hc with h1 | h1
    · exact hn h1
    · omega
  · rcases h'.own b hb with h1 | h1
    · exact h.own b h1
    · exact .inr (Nat.le_trans h.size h1)
  · by_cases h1 : H1.ro b = none
    · rcases h'.fro b h1 h2 with h3 | h3
      · exact h.own b h3
      · exact .inr (Nat.le_trans h.size h3)
    · exact h.fro b h0 h1
section
variable {cx : Cx} {T : Post}
theorem RA.known {ops : List Oper} {k : List It} {σs : Heap} {ρq : Env} {fuel : Nat} {listed : List Bool} {s : St} (h : RA cx T ops k σs s.ρ fuel listed s) : RA cx T ops k σs ρq fuel listed s := by
  intro n0 H0 S0 w0 h0 g0 hσ hap hfree hlink H a w hs ha hq
  have hs1 := hlink H s w hs
  have hg : GlOk cx.pg H := cx.g0.mono hs1.fr.le
  have hnd : (blks H (s.σ ++ σs)).Nodup := hs1.sat.nodup
  rw [blks_append] at hnd
  obtain ⟨_, hn2, hn3⟩ := List.nodup_append.1 hnd
  have hσ' : Sat H σs w := hs1.sat.sub (fun x hx => List.mem_append.2 (.inr hx)) hn2
  have h' := h s.n H (blks H s.σ) w hs.n hg hσ' (fun b hb hc => hn3 b hc b hb rfl) hs.sat.free (fun H' s' w' hs' => hlink H' s' w' ⟨hs'.n, hs'.sat, hs.fr.trans hs'.fr⟩) H a w ⟨hs.n, hs.sat, Fr.refl _ _ _⟩ ha (fun t g hl => ha.env t g hl)
  refine wpAnyH_mono (fun w' hw' b hb hn => ?_) fuel listed.toArray a w h'
  rw [hw' b (Nat.lt_of_lt_of_le hb hs.fr.size) fun hc => ?_, hs.fr.keep b hb hn]
  rcases hs.fr.own b hc with h1 | h1
  · exact hn h1
  · have h1 : w0.heap.size ≤ b := h1
    omega
end
end Go.GK
/-
  Rules: in a region that draws its order, what came of calls is known, too.
-/
namespace Go.Proofs.YtkoalgjlkcaonaaGreatDoor
open Go.GK Go.RowKit
theorem KTK {N n0 : Nat} {H0 : Hid} {S0 : List Nat} {w0 : World} {h0 : H0.n = n0} {g0 : GlOk pg H0} {T : Post} {k : List It} {s : St} {ops : List Oper} {σs : Heap} {ρq : Env} {fuel : Nat} {listed : List Bool} (e : Bool) (order : List (Nat × Bool))
    (hB : (Region.noSelect ops.toArray && ordB ops e order listed) = true)
    (h : rvc ⟨pg, N, n0, H0, S0, w0, h0, g0⟩ T ops k σs e order fuel listed s.ρ s) (hT : ∀ ch s, ¬ T (.panic ch) s := by intro _ _ h; exact h) : RA ⟨pg, N, n0, H0, S0, w0, h0, g0⟩ T ops k σs ρq fuel listed s := by
  simp only [Bool.and_eq_true] at hB
  exact RA.known (RA.run pg_ok hB.1 hT order hB.2 h)
end Go.Proofs.YtkoalgjlkcaonaaGreatDoor
/-
  Contracts: a fact of questions (raingaugekeep.asked).
-/
namespace Go.Proofs.YtkoalgjlkcaonaaGreatDoor
open Go.GK Go.PL Go.RowKit
set_option maxRecDepth 100000
def oneE (v : ByteArray) (t n : Int) : Ser := ⟨[⟨⟨#[110]⟩, v⟩], [⟨t, n⟩]⟩
theorem oneE_rt (v : ByteArray) (t n : Int) : Rt pg 30 [gs v, gi t, gi n] (ses [oneE v t n]) := by
  refine Rt.ofJ pg_ok Tryz.func30 rfl Tryz.ntmps30 rfl Tryz.results30 Tryz.call30 fun H0 S0 w0 h0 g0 => ?_
  refine VM 14 ?_
  refine JK.freeze 0 rfl ?_
  refine JK.freeze 1 rfl ?_
  refine VM 3 ?_
  refine FRZ 2 rfl ?_
  exact ⟨rfl, rfl⟩
def factS2 : List Ser := [oneE ⟨#[97]⟩ 5 3, oneE ⟨#[98]⟩ 6 4]
theorem fact_ok : SerOk factS2 := by
  refine ⟨?_, by decide, ?_, ?_⟩
  · refine List.pairwise_cons.2 ⟨fun y hy => ?_, List.pairwise_singleton _ _⟩
    rw [List.mem_singleton.1 hy]
    decide +kernel
  · intro x hx y hy
    simp only [factS2, List.mem_cons, List.not_mem_nil, or_false] at hx
    rcases hx with rfl | rfl <;> (simp only [oneE, List.mem_singleton] at hy; subst hy; exact ⟨by decide, by decide⟩)
  · intro x hx
    simp only [factS2, List.mem_cons, List.not_mem_nil, or_false] at hx
    rcases hx with rfl | rfl <;> decide
def factT2 : ByteArray := ⟨#[116, 111, 116, 97, 108, 40, 123, 125, 41, 32, 45, 32, 49]⟩
def factQ2 : Qn := .mk 14 0 [] 0 [] (.mk 8 0 [] 0 [] (.mk 2 0 [] 300 [] .nil .nil) .nil) (.mk 1 1 [] 0 [] .nil .nil)
theorem fact2_parse : parseF factT2.data.toList = .ok factQ2 := by kernel_rfl
theorem fact2_eval : evalF (srcF factS2) 7 factQ2 = .ok ([⟨[], 6⟩], false) := by kernel_rfl
theorem asked_rt : Rt pg 7 [] (.b true) := by
  have hp := parse_rt factT2 (by decide)
  rw [fact2_parse] at hp
  obtain ⟨hw, _, _⟩ := print_parse (s := factT2.data.toList) (by decide) fact2_parse
  have hc := comes_rt (source_c fact_ok) 7 hw (by decide) (by decide)
  rw [fact2_eval] at hc
  refine Rt.of pg_ok Tryz.func7 rfl Tryz.ntmps7 rfl Tryz.results7 Tryz.call7 fun H0 S0 w0 h0 g0 => ?_
  refine GO hp rfl ?_
  refine p2 ?_ rfl
  refine DRAW [] false (tk [0]) (by kernel_rfl) ?_
  refine RGO 1 false ([]) (oneE_rt ⟨#[97]⟩ 5 3) rfl rfl (by kernel_rfl) ?_
  refine KTK false (tk [2, 3]) (by kernel_rfl) ?_
  refine idx (f := se) (l := [oneE ⟨#[97]⟩ 5 3]) 0 rfl (Nat.zero_lt_succ _) ?_
  refine RGO 4 false ([]) (oneE_rt ⟨#[98]⟩ 6 4) rfl rfl (by kernel_rfl) ?_
  refine KTK false (tk [5, 6] ++ al [7]) (by kernel_rfl) ?_
  refine idx (f := se) (l := [oneE ⟨#[98]⟩ 6 4]) 0 rfl (Nat.zero_lt_succ _) ?_
  refine RA.freeze 0 rfl ?_
  refine RGO 8 false ([]) (source_rt factS2) rfl rfl (by kernel_rfl) ?_
  refine RGO 9 false ([]) hc rfl rfl (by kernel_rfl) ?_
  refine KTK true (tk [10, 11, 12, 13, 14, 15, 16]) (by kernel_rfl) ?_
  refine V ?_
  repeat (first | refine p1 ?_ | refine p2 ?_ | refine p3 ?_ | refine p4 ?_)
  refine idx (f := ptc) (l := [⟨[], 6⟩]) 0 rfl (Nat.zero_lt_succ _) ?_
  exact ⟨rfl, rfl⟩
end Go.Proofs.YtkoalgjlkcaonaaGreatDoor
/-
  Contracts: a reader of bytes (code.Reader): a number, a size, a text, labels.
-/
namespace Go.Proofs.YtkoalgjlkcaonaaGreatDoor
open Go.GK Go.PL Go.RowKit
set_option maxRecDepth 100000
section
variable {α : Type}
end
end Go.Proofs.YtkoalgjlkcaonaaGreatDoor
