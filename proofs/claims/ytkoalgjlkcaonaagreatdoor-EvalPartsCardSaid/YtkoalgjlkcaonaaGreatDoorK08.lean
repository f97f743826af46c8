/-
  Plain laws: questions: what tokens are right; numbers of digits; matchers. No program is in sight.
-/
import Derived.Test.YtkoalgjlkcaonaaGreatDoorK07
import Derived.Lib.ParseIntB
import Derived.Test.YtkoalgjlkcaonaaGreatDoorK06
import Derived.Lib.SlTrimSet
set_option linter.unusedSimpArgs false
namespace Go.PL
open Go Go.GK

def Tok.Okk (t : Tok) : Prop := t.Ok ∧ t.text.size ≤ 1000
structure ToksOk (l : List Tok) : Prop where
  each : ∀ t ∈ l, t.Okk
  last : ∃ a e, l = a ++ [e] ∧ e.kind = 5
theorem ToksOk.cons {l : List Tok} (h : ToksOk l) : ∃ t r, l = t :: r := by
  obtain ⟨a, e, rfl, _⟩ := h.last
  cases a with
  | nil => exact ⟨e, [], rfl⟩
  | cons t r => exact ⟨t, r ++ [e], rfl⟩
theorem ToksOk.tail {t : Tok} {l : List Tok} (h : ToksOk (t :: l)) (hk : t.kind ≠ 5) : ToksOk l := by
  refine ⟨fun x hx => h.each x (List.mem_cons_of_mem _ hx), ?_⟩
  obtain ⟨a, e, he, hk'⟩ := h.last
  cases a with
  | nil =>
    simp at he
    exact absurd (he.1 ▸ hk') hk
  | cons x r =>
    simp at he
    exact ⟨r, e, he.2, hk'⟩
theorem dig_sub {b : UInt8} (h : digB b = true) : 48 ≤ b.toNat ∧ b.toNat ≤ 57 := by simpa [digB] using h
theorem parse_digits : ∀ (l : List UInt8) (acc : Nat), (∀ b ∈ l, digB b = true) → l.length ≤ 18 → acc < 10 ^ (18 - l.length) →
    ∃ n : Nat, Lib.parseUintM (2 ^ 64 - 1) acc l = .ok n ∧ n < 10 ^ 18 ∧ l.foldl (fun (n : Int) c => n * 10 + ((c.toNat : Int) - 48)) (acc : Int) = n
  | [], acc, _, _, ha => ⟨acc, rfl, by simpa using ha, rfl⟩
  | c :: r, acc, hl, h18, ha => by
    have hc := dig_sub (hl c List.mem_cons_self)
    have h18' : r.length + 1 ≤ 18 := by simpa using h18
    have hp : 10 ^ (18 - r.length) = 10 ^ (18 - (r.length + 1)) * 10 := by rw [← Nat.pow_succ]; congr 1; omega
    have hle : 10 ^ (18 - r.length) ≤ 10 ^ 18 := Nat.pow_le_pow_right (by decide) (by omega)
    simp only [List.length_cons] at ha
    have hb : acc * 10 + (c.toNat - 48) < 10 ^ (18 - r.length) := by omega
    obtain ⟨n, h1, h2, h3⟩ := parse_digits r (acc * 10 + (c.toNat - 48)) (fun b hb => hl b (List.mem_cons_of_mem _ hb)) (by omega) hb
    refine ⟨n, ?_, h2, ?_⟩
    · rw [Lib.parseUintM, if_pos hc, if_neg (by omega), if_neg (by omega), h1]
    · rw [← h3, List.foldl_cons]
      congr 1
      omega
theorem num_tok {t : Tok} (h : t.Ok) (hk : t.kind = 2) : Lib.parseIntB 64 t.text.data.toList = .ok (numT t.text) ∧ 0 ≤ numT t.text ∧ numT t.text < 1000000000000000000 := by
  rcases h with (⟨h, _⟩ | ⟨_, h1, h2, h3⟩ | ⟨h, _⟩ | ⟨h, _⟩) | ⟨h, _⟩
  · omega
  · cases hl : t.text.data.toList with
    | nil => exact absurd hl h1
    | cons c r =>
      have hc := dig_sub (h3 c (by rw [hl]; exact List.mem_cons_self))
      obtain ⟨n, e1, e2, e3⟩ := parse_digits (c :: r) 0 (by rw [← hl]; exact h3) (by rw [← hl]; exact h2) (Nat.pow_pos (by decide))
      have e : numT t.text = (n : Int) := by
        unfold numT
        rw [hl]
        exact e3
      refine ⟨?_, by omega, by omega⟩
      simp only [Lib.parseIntB]
      rw [if_neg (by omega), Lib.parseUintB, if_neg (by simp), e1]
      simp only
      rw [if_neg (by omega), if_neg (by omega), if_neg (by omega), e]
  · omega
  · omega
  · omega
theorem quo_tok {t : Tok} (h : t.Ok) (hk : t.kind = 3) : ∃ v : List UInt8, t.text.data.toList = 34 :: v ++ [34] ∧ ∀ b ∈ v, b.toNat ≠ 34 := by
  rcases h with (⟨h, _⟩ | ⟨h, _⟩ | ⟨_, h⟩ | ⟨h, _⟩) | ⟨h, _⟩
  · omega
  · omega
  · exact h
  · omega
  · omega
theorem quo_size {t : Tok} (h : t.Ok) (hk : t.kind = 3) : 2 ≤ t.text.size := by
  obtain ⟨v, e, _⟩ := quo_tok h hk
  have := congrArg List.length e
  simp at this
  have h2 : t.text.size = t.text.data.size := rfl
  omega
theorem asked_one {m : Mt} (hn : nameF m.name = true) (h0 : 0 ≤ m.op) (h1 : m.op ≤ 3) : askedF [m] = valueF m.value := by
  have : askedF [m] = !mbad m := by simp [askedF, anyB, List.range_succ]
  rw [this, mbad, hn]
  cases h : valueF m.value <;> simp <;> omega
theorem nameP_ok {t : Tok} {l : List Tok} {r : ByteArray × List Tok} (h : nameP (t :: l) = .ok r) (hk : t.kind = 1) : nameF t.text = true := by
  cases h2 : nameF t.text with
  | true => rfl
  | false =>
    have : nameP (t :: l) = failP 4 (t :: l) := if_pos ⟨hk, h2⟩
    rw [this] at h
    cases h
theorem nameP_is {t : Tok} {l : List Tok} {r : ByteArray × List Tok} (h : nameP (t :: l) = .ok r) : r = (t.text, l) ∧ t.kind = 1 := by
  by_cases hc : t.kind = 1 ∧ nameF t.text = false
  · have : nameP (t :: l) = failP 4 (t :: l) := if_pos hc
    rw [this] at h
    cases h
  · have : nameP (t :: l) = anyP 1 (t :: l) := if_neg hc
    rw [this] at h
    by_cases hk : t.kind = 1
    · have : anyP 1 (t :: l) = .ok (t.text, l) := if_pos hk
      rw [this] at h
      cases h
      exact ⟨rfl, hk⟩
    · have : anyP 1 (t :: l) = failP 3 (t :: l) := if_neg hk
      rw [this] at h
      cases h
end Go.PL
/-
  Plain laws: questions: what the steps of splitting a text come to. No program is in sight.
-/
namespace Go.PL
open Go Go.GK

theorem dig_iff (c : UInt8) : decide (0 ≤ Lib.indexByte digL c) = digB c := by
  have := u8_all (p := fun c => decide (0 ≤ Lib.indexByte digL c) == digB c) (by decide +kernel) c
  simpa using this
theorem digs_iff (c : UInt8) : digL.contains c = digB c := by
  have := u8_all (p := fun c => digL.contains c == digB c) (by decide +kernel) c
  simpa using this
theorem find_byte (c : UInt8) : ∀ l : List UInt8, Lib.indexByte l c = match l.findIdx? (· == c) with | some j => (j : Int) | none => -1
  | [] => rfl
  | b :: l => by
    rw [Lib.indexByte, List.findIdx?_cons, find_byte c l]
    cases h : b == c with
    | true => simp
    | false =>
      cases h2 : l.findIdx? (· == c) with
      | none => simp
      | some j => simp
theorem tw_dw {p : UInt8 → Bool} (l : List UInt8) : (l.takeWhile p).length + (l.dropWhile p).length = l.length := by
  rw [← List.length_append, List.takeWhile_append_dropWhile]
theorem tw_congr {p q : UInt8 → Bool} (h : ∀ b, p b = q b) (l : List UInt8) : l.takeWhile p = l.takeWhile q := by
  have : p = q := funext h
  rw [this]
theorem prefF_is (s : ByteArray) (p : List UInt8) : prefF s (bS p) = p.isPrefixOf s.data.toList := by
  have h0 : (bS p).size = p.length := by show p.toArray.size = _; simp
  have h1 : s.size = s.data.toList.length := by simp
  rw [Bool.eq_iff_iff, List.isPrefixOf_iff_prefix, prefF, Bool.and_eq_true, decide_eq_true_iff, sEq_iff, h0, h1]
  constructor
  · rintro ⟨h2, h3⟩
    have h4 := congrArg (fun b : ByteArray => b.data.toList) h3
    simp only [data_take] at h4
    rw [List.prefix_iff_eq_take]
    exact h4.symm
  · intro h
    refine ⟨h.length_le, ?_⟩
    have h4 := data_take s p.length
    rw [← List.prefix_iff_eq_take.1 h] at h4
    have : ∀ b : ByteArray, b = ⟨b.data.toList.toArray⟩ := fun b => by cases b; simp
    rw [this (s.extract 0 p.length), h4]
    rfl
theorem find_first {α : Type} {p : α → Bool} : ∀ {l : List α} {n : Nat}, n ≤ l.length → (∀ i (h : i < l.length), i < n → p l[i] = false) → (∀ h : n < l.length, p l[n] = true) → l.find? p = l[n]?
  | [], n, _, _, _ => by simp
  | a :: l, 0, _, _, h2 => by
    have h3 : p a = true := h2 (by simp)
    simp [h3]
  | a :: l, n + 1, hn, h1, h2 => by
    have h3 : p a = false := h1 0 (by simp) (by omega)
    rw [List.find?_cons, h3]
    exact find_first (by simpa using hn) (fun i h hh => h1 (i + 1) (by simpa using h) (by omega)) (fun h => h2 (by simpa using h))
theorem lexF_le (l : List UInt8) : (lexF l).1 ≤ l.length := by
  cases l with
  | nil => simp [lexF]
  | cons c r =>
    simp only [lexF]
    by_cases h1 : letB c = true
    · rw [if_pos h1]
      exact (List.takeWhile_sublist _).length_le
    rw [if_neg h1]
    by_cases h2 : digB c = true
    · rw [if_pos h2]
      exact (List.takeWhile_sublist _).length_le
    rw [if_neg h2]
    by_cases h3 : c.toNat = 34
    · rw [if_pos h3]
      cases h : r.findIdx? (· == 34) with
      | none => simp
      | some j =>
        have := (List.findIdx?_eq_some_iff_getElem.1 h).1
        simp
        omega
    · rw [if_neg h3]
      cases h : marksL.find? (fun m => m.isPrefixOf (c :: r)) with
      | none => simp
      | some m => exact (List.isPrefixOf_iff_prefix.1 (List.find?_some (p := fun m : List UInt8 => m.isPrefixOf (c :: r)) h)).length_le
theorem byte0 {b : ByteArray} {c : UInt8} {r : List UInt8} (h : b.data.toList = c :: r) : b[0]? = some c := by
  obtain ⟨d⟩ := b
  have h1 : d.toList[0]? = some c := by rw [show d.toList = c :: r from h]; rfl
  have hs : 0 < d.size := by
    have := congrArg List.length (show d.toList = c :: r from h)
    simp at this
    omega
  rw [getElem?_pos (ByteArray.mk d) 0 hs]
  show some d[0] = some c
  simpa [hs] using h1
end Go.PL
/-
  Plain laws: questions: which tokens come of a text; what a text asks. No program is in sight.
-/
namespace Go.PL
open Go Go.GK

theorem tw_take {p : UInt8 → Bool} (l : List UInt8) : l.take (l.takeWhile p).length = l.takeWhile p :=
  (List.prefix_iff_eq_take.1 (List.takeWhile_prefix p)).symm
theorem tw_mem {p : UInt8 → Bool} {l : List UInt8} : ∀ b ∈ l.takeWhile p, p b = true := fun b hb => List.all_eq_true.1 (List.all_takeWhile (p := p) (l := l)) b hb
theorem lexF_tx (l : List UInt8) (h0 : (lexF l).1 ≠ 0) (h18 : ¬ ((lexF l).2 = 2 ∧ 18 < (lexF l).1)) : TxOk (lexF l).2 (l.take (lexF l).1) := by
  cases l with
  | nil => exact absurd rfl h0
  | cons c r =>
    by_cases h1 : letB c = true
    · have e : lexF (c :: r) = (((c :: r).takeWhile fun b => letB b || digB b).length, 1) := by simp only [lexF, h1, if_true]
      rw [e, tw_take]
      refine .inl ⟨rfl, c, r.takeWhile fun b => letB b || digB b, by simp [h1], h1, tw_mem⟩
    by_cases h2 : digB c = true
    · have e : lexF (c :: r) = (((c :: r).takeWhile digB).length, 2) := by simp only [lexF, h1, h2, if_true, Bool.false_eq_true, if_false]
      rw [e] at h18
      rw [e, tw_take]
      refine .inr (.inl ⟨rfl, by simp [h2], ?_, tw_mem⟩)
      exact Nat.le_of_not_lt fun h => h18 ⟨rfl, h⟩
    by_cases h3 : c.toNat = 34
    · have e : lexF (c :: r) = (match r.findIdx? (· == 34) with | some j => j + 2 | none => 0, 3) := by
        unfold lexF
        simp only [h1, h2, Bool.false_eq_true, if_false]
        rw [if_pos h3]
        rfl
      rw [e] at h0
      rw [e]
      cases h : r.findIdx? (· == 34) with
      | none => rw [h] at h0; exact absurd rfl h0
      | some j =>
        obtain ⟨hj, hp, hn⟩ := List.findIdx?_eq_some_iff_getElem.1 h
        have hc : c = 34 := UInt8.toNat_inj.1 h3
        refine .inr (.inr (.inl ⟨rfl, r.take j, ?_, ?_⟩))
        · show (c :: r).take (j + 2) = _
          have h5 : r[j] = 34 := by simpa using hp
          rw [hc, List.take_succ_cons, List.take_succ_eq_append_getElem hj, h5]
          rfl
        · intro b hb
          obtain ⟨i, hi, he⟩ := List.getElem_of_mem hb
          have hij : i < j := by simp at hi; omega
          have h6 := hn i hij
          have h7 : r[i]'(by omega) = b := by simpa using he
          rw [h7] at h6
          intro hb34
          have : b = 34 := UInt8.toNat_inj.1 hb34
          rw [this] at h6
          simp at h6
    · have e : lexF (c :: r) = (match marksL.find? (fun m => m.isPrefixOf (c :: r)) with | some m => m.length | none => 0, 4) := by
        unfold lexF
        simp only [h1, h2, Bool.false_eq_true, if_false]
        rw [if_neg h3]
        rfl
      rw [e] at h0
      rw [e]
      cases h : marksL.find? (fun m => m.isPrefixOf (c :: r)) with
      | none => rw [h] at h0; exact absurd rfl h0
      | some m =>
        refine .inr (.inr (.inr ⟨rfl, ?_⟩))
        show (c :: r).take m.length ∈ marksL
        rw [← List.prefix_iff_eq_take.1 (List.isPrefixOf_iff_prefix.1 (List.find?_some (p := fun m : List UInt8 => m.isPrefixOf (c :: r)) h))]
        exact List.mem_of_find?_eq_some h
theorem tok_toks (s : List UInt8) (hs : s.length ≤ 1000) : ∀ (f i cnt : Nat) (l : List Tok), tokF s f i cnt = .ok l → cnt ≤ 120 → ToksOk l ∧ cnt + l.length ≤ 121
  | 0, _, _, _, h, _ => by simp [tokF] at h
  | f + 1, i, cnt, l, h, hc => by
    rw [tokF] at h
    simp only at h
    generalize hk : ((s.drop i).takeWhile (· == 32)).length = k at h
    by_cases he : s.length ≤ i + k
    · rw [if_pos he] at h
      cases h
      refine ⟨⟨fun t ht => ?_, [], _, rfl, rfl⟩, by simp; omega⟩
      rw [List.mem_singleton.1 ht]
      exact ⟨.inr ⟨rfl, rfl⟩, show (ByteArray.mk #[]).size ≤ 1000 by decide⟩
    rw [if_neg he] at h
    have hx := lexF_tx (s.drop (i + k))
    have hle := lexF_le (s.drop (i + k))
    generalize lexF (s.drop (i + k)) = nk at h hx hle
    obtain ⟨n, kd⟩ := nk
    simp only at h hx hle
    by_cases hn : n = 0
    · rw [if_pos hn] at h; cases h
    rw [if_neg hn] at h
    by_cases hl : (kd = 2 ∧ 18 < n) ∨ 120 ≤ cnt
    · rw [if_pos hl] at h; cases h
    rw [if_neg hl] at h
    cases hr : tokF s f (i + k + n) (cnt + 1) with
    | error e => rw [hr] at h; cases h
    | ok l2 =>
      rw [hr] at h
      cases h
      obtain ⟨h1, h2⟩ := tok_toks s hs f _ _ l2 hr (by omega)
      obtain ⟨a, e, h3, h4⟩ := h1.last
      refine ⟨⟨fun t ht => ?_, _ :: a, e, by rw [h3]; rfl, h4⟩, by simp; omega⟩
      rcases List.mem_cons.1 ht with rfl | ht
      · refine ⟨.inl ?_, ?_⟩
        · simpa using hx hn (fun h => hl (.inl h))
        · show ((s.drop (i + k)).take n).toArray.size ≤ 1000
          simp
          omega
      · exact h1.each t ht
def parseF (s : List UInt8) : Except (Int × Int) Qn := match tokF s (s.length + 1) 0 0 with
  | .error e => .error e
  | .ok l => match sumP (3 * l.length + 3) 0 l with
    | .error e => .error e
    | .ok (q, l') => if (hdT l').kind ≠ 5 then .error (3, (hdT l').pos) else .ok q
def matchF (s : List UInt8) : Except (Int × Int) (List Mt) := match tokF s (s.length + 1) 0 0 with
  | .error e => .error e
  | .ok l => match matchersP l with
    | .error e => .error e
    | .ok (m, l') => if (hdT l').kind ≠ 5 then .error (3, (hdT l').pos) else .ok m
end Go.PL
/-
  Plain laws: questions: how they are printed. No program is in sight.
-/
namespace Go.PL
open Go Go.GK
def lvl (c : Int) : Nat := if c = 13 ∨ c = 14 then 0 else if c = 15 ∨ c = 16 then 1 else 2
def bL (s : ByteArray) : List UInt8 := s.data.toList
theorem bS_bL (s : ByteArray) : bS (bL s) = s := by cases s; simp [bS, bL]
theorem bL_bS (l : List UInt8) : bL (bS l) = l := by simp [bS, bL]
theorem bS_inj {a b : List UInt8} (h : bS a = bS b) : a = b := by rw [← bL_bS a, ← bL_bS b, h]
theorem bL_len (s : ByteArray) : (bL s).length = s.size := by simp [bL]
def sepX (y : Lx) : List (List Lx) → List Lx
  | [] => []
  | [x] => x
  | x :: r => x ++ y :: sepX y r
def mtX (m : Mt) : List Lx := [wL (bL m.name), mL (bL (opsL.getD m.op.toNat ⟨#[]⟩)), qL (bL m.value)]
def msX (l : List Mt) : List Lx := mL [123] :: (sepX (mL [44]) (l.map mtX) ++ [mL [125]])
def byX (l : List ByteArray) : List Lx := sepX ⟨0, [44], 4, 1⟩ (l.map fun s => [wL (bL s)])
def parX (x : List Lx) : List Lx := mL [40] :: (x ++ [mL [41]])
def symX (c : Int) : List UInt8 := if c = 13 then [43] else if c = 14 then [45] else if c = 15 then [42] else [47]
def binX (c : Int) : Lx := ⟨1, symX c, 4, 1⟩
def bysX (b : List ByteArray) : List Lx := match b with
  | [] => []
  | s :: r => ⟨1, [98, 121], 1, 1⟩ :: parX (byX (s :: r))
def ifP (b : Bool) (x : List Lx) : List Lx := if b then parX x else x
def atX : Qn → Nat → List Lx
  | .nil, _ => []
  | .mk c num m span b l r, least => ifP (decide (lvl c < least))
    (if c = 1 then [dL (Lib.itoa num)]
     else if c = 2 then msX m
     else if 3 ≤ c ∧ c ≤ 7 then wL (bL (oversL.getD (c - 3).toNat ⟨#[]⟩)) :: parX (msX m ++ [mL [91], dL (Lib.itoa span), mL [93]])
     else if 8 ≤ c ∧ c ≤ 11 then wL (bL (allsL.getD (c - 8).toNat ⟨#[]⟩)) :: (parX (atX l 0) ++ bysX b)
     else if c = 12 then mL [45] :: atX l 2
     else if lvl c < 2 then atX l (lvl c) ++ binX c :: atX r (lvl c + 1)
     else [])
def MOk (m : Mt) : Prop := nameF m.name = true ∧ valueF m.value = true ∧ 0 ≤ m.op ∧ m.op ≤ 3
def MsOk (l : List Mt) : Prop := (∀ m ∈ l, MOk m) ∧ l.length ≤ 8
inductive Wf : Qn → Prop
  | num (n : Int) (h0 : 0 ≤ n) (h1 : n < 1000000000000000000) : Wf (.mk 1 n [] 0 [] .nil .nil)
  | pick (m : List Mt) (h : MsOk m) : Wf (.mk 2 0 m 300 [] .nil .nil)
  | over (k : Nat) (hk : k < 5) (m : List Mt) (h : MsOk m) (sp : Int) (h1 : 1 ≤ sp) (h2 : sp ≤ 1099511627776) : Wf (.mk (3 + k) 0 m sp [] .nil .nil)
  | all (k : Nat) (hk : k < 4) (b : List ByteArray) (hb : ∀ s ∈ b, nameF s = true) (hl : b.length ≤ 8) (q : Qn) (hq : Wf q) : Wf (.mk (8 + k) 0 [] 0 b q .nil)
  | neg (q : Qn) (hq : Wf q) : Wf (.mk 12 0 [] 0 [] q .nil)
  | add (k : Nat) (hk : k < 2) (l r : Qn) (hl : Wf l) (hr : Wf r) : Wf (.mk (13 + k) 0 [] 0 [] l r)
  | mul (k : Nat) (hk : k < 2) (l r : Qn) (hl : Wf l) (hr : Wf r) : Wf (.mk (15 + k) 0 [] 0 [] l r)
def Qn.code : Qn → Int
  | .nil => 0
  | .mk c .. => c
def dep : Qn → Nat → Nat
  | .nil, _ => 0
  | .mk c _ _ _ _ l r, least => (if lvl c < least then 1 else 0) +
    (if 8 ≤ c ∧ c ≤ 11 then 1 + dep l 0 else if c = 12 then 1 + dep l 2 else if lvl c < 2 then max (dep l (lvl c)) (dep r (lvl c + 1)) else 0)

theorem atX_num (n : Int) (least : Nat) (h : least ≤ 2) : atX (.mk 1 n [] 0 [] .nil .nil) least = [dL (Lib.itoa n)] := by
  have : ¬ (2 < least) := by omega
  simp [atX, lvl, ifP, this]
theorem atX_pick (m : List Mt) (least : Nat) (h : least ≤ 2) : atX (.mk 2 0 m 300 [] .nil .nil) least = msX m := by
  have : ¬ (2 < least) := by omega
  simp [atX, lvl, ifP, this]
theorem atX_over (k : Nat) (hk : k < 5) (m : List Mt) (sp : Int) (least : Nat) (h : least ≤ 2) : atX (.mk (3 + k) 0 m sp [] .nil .nil) least = wL (bL (oversL.getD k ⟨#[]⟩)) :: parX (msX m ++ [mL [91], dL (Lib.itoa sp), mL [93]]) := by
  have h1 : ¬ (lvl (3 + k) < least) := by
    have : lvl (3 + k) = 2 := by rw [lvl, if_neg (by omega), if_neg (by omega)]
    omega
  have h2 : ((3 + k : Int) - 3).toNat = k := by omega
  rw [atX, if_neg (by omega), if_neg (by omega), if_pos (by omega), h2, decide_eq_false h1]
  rfl
theorem atX_all (k : Nat) (hk : k < 4) (b : List ByteArray) (q : Qn) (least : Nat) (h : least ≤ 2) : atX (.mk (8 + k) 0 [] 0 b q .nil) least = wL (bL (allsL.getD k ⟨#[]⟩)) :: (parX (atX q 0) ++ bysX b) := by
  have h1 : ¬ (lvl (8 + k) < least) := by
    have : lvl (8 + k) = 2 := by rw [lvl, if_neg (by omega), if_neg (by omega)]
    omega
  have h2 : ((8 + k : Int) - 8).toNat = k := by omega
  rw [atX, if_neg (by omega), if_neg (by omega), if_neg (by omega), if_pos (by omega), h2, decide_eq_false h1]
  rfl
theorem atX_neg (q : Qn) (least : Nat) (h : least ≤ 2) : atX (.mk 12 0 [] 0 [] q .nil) least = mL [45] :: atX q 2 := by
  have h1 : ¬ (lvl 12 < least) := by
    have : lvl 12 = 2 := rfl
    omega
  rw [atX, if_neg (by omega), if_neg (by omega), if_neg (by omega), if_neg (by omega), if_pos rfl, decide_eq_false h1]
  rfl
theorem lvl_add (k : Nat) (hk : k < 2) : lvl (13 + k) = 0 := by rw [lvl, if_pos (by omega)]
theorem lvl_mul (k : Nat) (hk : k < 2) : lvl (15 + k) = 1 := by rw [lvl, if_neg (by omega), if_pos (by omega)]
theorem atX_add (k : Nat) (hk : k < 2) (l r : Qn) (least : Nat) : atX (.mk (13 + k) 0 [] 0 [] l r) least = ifP (decide (0 < least)) (atX l 0 ++ binX (13 + k) :: atX r 1) := by
  have h1 := lvl_add k hk
  rw [atX, if_neg (by omega), if_neg (by omega), if_neg (by omega), if_neg (by omega), if_neg (by omega), if_pos (by omega), h1]
theorem atX_mul (k : Nat) (hk : k < 2) (l r : Qn) (least : Nat) : atX (.mk (15 + k) 0 [] 0 [] l r) least = ifP (decide (1 < least)) (atX l 1 ++ binX (15 + k) :: atX r 2) := by
  have h1 := lvl_mul k hk
  rw [atX, if_neg (by omega), if_neg (by omega), if_neg (by omega), if_neg (by omega), if_neg (by omega), if_pos (by omega), h1]
theorem dep_num (n : Int) (least : Nat) (h : least ≤ 2) : dep (.mk 1 n [] 0 [] .nil .nil) least = 0 := by
  have : ¬ (2 < least) := by omega
  simp [dep, lvl, this]
theorem dep_pick (m : List Mt) (least : Nat) (h : least ≤ 2) : dep (.mk 2 0 m 300 [] .nil .nil) least = 0 := by
  have : ¬ (2 < least) := by omega
  simp [dep, lvl, this]
theorem dep_over (k : Nat) (hk : k < 5) (m : List Mt) (sp : Int) (least : Nat) (h : least ≤ 2) : dep (.mk (3 + k) 0 m sp [] .nil .nil) least = 0 := by
  have h1 : lvl (3 + k) = 2 := by rw [lvl, if_neg (by omega), if_neg (by omega)]
  rw [dep, if_neg (by omega), if_neg (by omega), if_neg (by omega), if_neg (by omega)]
theorem dep_all (k : Nat) (hk : k < 4) (b : List ByteArray) (q : Qn) (least : Nat) (h : least ≤ 2) : dep (.mk (8 + k) 0 [] 0 b q .nil) least = 1 + dep q 0 := by
  have h1 : lvl (8 + k) = 2 := by rw [lvl, if_neg (by omega), if_neg (by omega)]
  rw [dep, if_neg (by omega), if_pos (by omega), Nat.zero_add]
theorem dep_neg (q : Qn) (least : Nat) (h : least ≤ 2) : dep (.mk 12 0 [] 0 [] q .nil) least = 1 + dep q 2 := by
  have h1 : lvl 12 = 2 := rfl
  rw [dep, if_neg (by omega), if_neg (by omega), if_pos rfl, Nat.zero_add]
theorem dep_add (k : Nat) (hk : k < 2) (l r : Qn) (least : Nat) : dep (.mk (13 + k) 0 [] 0 [] l r) least = (if 0 < least then 1 else 0) + max (dep l 0) (dep r 1) := by
  have h1 := lvl_add k hk
  rw [dep, if_neg (show ¬ (8 ≤ (13 + k : Int) ∧ (13 + k : Int) ≤ 11) by omega), if_neg (show ¬ ((13 + k : Int) = 12) by omega), h1, if_pos (show 0 < 2 by omega)]
theorem dep_mul (k : Nat) (hk : k < 2) (l r : Qn) (least : Nat) : dep (.mk (15 + k) 0 [] 0 [] l r) least = (if 1 < least then 1 else 0) + max (dep l 1) (dep r 2) := by
  have h1 := lvl_mul k hk
  rw [dep, if_neg (show ¬ (8 ≤ (15 + k : Int) ∧ (15 + k : Int) ≤ 11) by omega), if_neg (show ¬ ((15 + k : Int) = 12) by omega), h1, if_pos (show 1 < 2 by omega)]

def wx (c : Nat) (l : List Lx) : Nat := (l.map fun x => c + x.text.length).sum
def wt (c : Nat) (l : List Tok) : Nat := (l.map fun t => c + t.text.size).sum
theorem wx_cons (c : Nat) (x : Lx) (l : List Lx) : wx c (x :: l) = c + x.text.length + wx c l := by simp [wx]
theorem wx_append (c : Nat) (a b : List Lx) : wx c (a ++ b) = wx c a + wx c b := by simp [wx]
theorem wx_nil (c : Nat) : wx c [] = 0 := rfl
theorem wt_cons (c : Nat) (x : Tok) (l : List Tok) : wt c (x :: l) = c + x.text.size + wt c l := by simp [wt]
theorem wx_parX (c : Nat) (x : List Lx) : wx c (parX x) = 2 * c + 2 + wx c x := by
  simp only [parX, wx_cons, wx_append, wx_nil, mL, List.length_cons, List.length_nil]
  omega
theorem sepX_snoc (y : Lx) (l : List (List Lx)) (x : List Lx) : sepX y (l ++ [x]) = if l = [] then x else sepX y l ++ y :: x := by
  induction l with
  | nil => rfl
  | cons a r ih =>
    rw [if_neg (by simp)]
    cases r with
    | nil => rfl
    | cons b r =>
      have : sepX y (a :: b :: r ++ [x]) = a ++ y :: sepX y (b :: r ++ [x]) := rfl
      rw [this, ih, if_neg (by simp)]
      simp [sepX]
theorem at_le (q : Qn) (a b : Nat) (h : a ≤ b) : dep q a ≤ dep q b ∧ ∀ c, wx c (atX q a) ≤ wx c (atX q b) := by
  cases q with
  | nil => exact ⟨Nat.le_refl _, fun _ => Nat.le_refl _⟩
  | mk c n m s bb l r =>
    have hh : ∀ x y : Nat, (if lvl c < a then 1 else 0) + x ≤ (if lvl c < b then 1 else 0) + x := fun x _ => by
      by_cases h1 : lvl c < a
      · rw [if_pos h1, if_pos (by omega)]; exact Nat.le_refl _
      · rw [if_neg h1]; omega
    have hp : ∀ (w : Nat) (x : List Lx), wx w (ifP (decide (lvl c < a)) x) ≤ wx w (ifP (decide (lvl c < b)) x) := fun w x => by
      by_cases h1 : lvl c < a
      · rw [decide_eq_true h1, decide_eq_true (by omega)]; exact Nat.le_refl _
      · rw [decide_eq_false h1]
        by_cases h2 : lvl c < b
        · rw [decide_eq_true h2]
          show wx w x ≤ wx w (parX x)
          rw [wx_parX]; omega
        · rw [decide_eq_false h2]; exact Nat.le_refl _
    exact ⟨hh _ 0, fun w => hp w _⟩
end Go.PL
/-
  Plain laws: what questions come to: points, and a number alone. No program is in sight.
-/
namespace Go.PL
open Go Go.GK

structure Pt where
  labels : List Lb
  value : Int
instance : Inhabited Pt := ⟨⟨[], 0⟩⟩
def wr64 (x : Int) : Int := IntKind.i64.wrap x
abbrev inT (f t : Int) (x : Sm) : Bool := decide (f ≤ x.time ∧ x.time ≤ t)
def overV (code : Int) (l : List Int) : Int :=
  if code = 2 then l.getLastD 0 else if code = 3 then l.length else if code = 7 then wr64 (l.getLastD 0 - l.headD 0)
  else l.tail.foldl (fun n x => if code = 4 then wr64 (n + x) else if code = 5 then min n x else max n x) (l.headD 0)
def overF (code : Int) (l : List Sm) : Int := overV code (l.map (·.value))
def srcF (l : List Ser) (m : List Mt) (f t : Int) : List Ser := l.filterMap fun x : Ser =>
  if (x.samples.filter (inT f t)) ≠ [] ∧ allF x.labels m = true then some ⟨x.labels, x.samples.filter (inT f t)⟩ else none
def ptsF (code : Int) (l : List Ser) : List Pt := (l.filter fun x => decide (x.samples ≠ [])).map fun x => ⟨x.labels, overF code x.samples⟩
def combF (code a b : Int) : Int := if code = 9 then min a b else if code = 10 then max a b else wr64 (a + b)
def insP (code : Int) : List Pt → Pt → List Pt
  | [], x => [x]
  | y :: r, x => if cmpF y.labels x.labels < 0 then y :: insP code r x else if cmpF y.labels x.labels = 0 then ⟨y.labels, combF code y.value x.value⟩ :: r else x :: y :: r
def grp (code : Int) (by_ : List ByteArray) (p : Pt) : Pt := ⟨onlyF p.labels by_, if code = 11 then 1 else p.value⟩
def togF (code : Int) (by_ : List ByteArray) (l : List Pt) : List Pt := (l.map (grp code by_)).foldl (insP code) []
def countF (code a b : Int) : Option Int :=
  if code = 13 then some (wr64 (a + b)) else if code = 14 then some (wr64 (a - b)) else if code = 15 then some (wr64 (a * b))
  else if b = 0 then none else if b = -1 then some (wr64 (-a)) else some (wr64 (a.tdiv b))
abbrev Came := List Pt × Bool
def bothQ (code : Int) (a b : Came) : Came :=
  (a.1.flatMap fun p => b.1.filterMap fun q =>
    if a.2 then (countF code p.value q.value).map fun n => ⟨q.labels, n⟩
    else if b.2 ∨ cmpF p.labels q.labels = 0 then (countF code p.value q.value).map fun n => ⟨p.labels, n⟩ else none, a.2 && b.2)
def evalF (src : List Mt → Int → Int → List Ser) (t : Int) : Qn → Except Int Came
  | .nil => .error 3
  | .mk c num m sp b l r =>
    if c = 1 then .ok ([⟨[], num⟩], true)
    else if 2 ≤ c ∧ c ≤ 7 then .ok (ptsF c (src m (wr64 (wr64 (t - sp) + 1)) t), false)
    else match evalF src t l with
      | .error e => .error e
      | .ok a =>
        if 8 ≤ c ∧ c ≤ 11 then (if a.2 then .error 1 else .ok (togF c b a.1, false))
        else if c = 12 then .ok (bothQ 14 ([⟨[], 0⟩], true) a)
        else match evalF src t r with
          | .error e => .error e
          | .ok b => .ok (bothQ c a b)
theorem wr_id {x : Int} (h1 : -9223372036854775808 ≤ x) (h2 : x ≤ 9223372036854775807) : wr64 x = x := by
  rw [wr64, IntKind.wrap_i64]
  omega
end Go.PL
/-
  Plain laws: points put together: in order of labels, or one by one and sorted then; in parts, or at once. No program is in sight.
-/
namespace Go.PL
open Go Go.GK
def posP (ls : List Lb) : List Pt → Nat
  | [] => 0
  | x :: r => if cmpF x.labels ls < 0 then posP ls r + 1 else 0
def RisP (l : List Pt) : Prop := l.Pairwise fun x y => cmpF x.labels y.labels < 0
theorem posP_le (ls : List Lb) : ∀ l : List Pt, posP ls l ≤ l.length
  | [] => Nat.le_refl _
  | x :: r => by
    unfold posP
    split
    · simpa using posP_le ls r
    · simp
theorem posP_lt (ls : List Lb) : ∀ (l : List Pt) (i : Nat) (h : i < l.length), i < posP ls l → cmpF l[i].labels ls < 0
  | x :: r, i, h, hi => by
    unfold posP at hi
    split at hi
    · rename_i hc
      cases i with
      | zero => exact hc
      | succ i => exact posP_lt ls r i (by simpa using h) (by omega)
    · omega
theorem posP_at (ls : List Lb) : ∀ (l : List Pt) (h : posP ls l < l.length), ¬ cmpF l[posP ls l].labels ls < 0
  | x :: r, h => by
    by_cases hc : cmpF x.labels ls < 0
    · have e : posP ls (x :: r) = posP ls r + 1 := by rw [posP, if_pos hc]
      have := posP_at ls r (by rw [e] at h; simpa using h)
      simpa [e] using this
    · have e : posP ls (x :: r) = 0 := by rw [posP, if_neg hc]
      simpa [e] using hc
theorem posP_ge {ls : List Lb} {l : List Pt} (hr : RisP l) (i : Nat) (h : i < l.length) (hi : posP ls l ≤ i) : ¬ cmpF l[i].labels ls < 0 := by
  have h0 : posP ls l < l.length := by omega
  have := posP_at ls l h0
  rcases Nat.eq_or_lt_of_le hi with e | e
  · simpa [← e] using this
  · intro hc
    have hp : cmpF l[posP ls l].labels l[i].labels < 0 := List.pairwise_iff_getElem.1 hr _ _ h0 h e
    exact this (cmpF_lt_trans hp hc)
theorem insP_yes {c : Int} {x : Pt} : ∀ {l : List Pt} (hn : posP x.labels l < l.length), cmpF l[posP x.labels l].labels x.labels = 0 → insP c l x = l.set (posP x.labels l) ⟨l[posP x.labels l].labels, combF c l[posP x.labels l].value x.value⟩
  | z :: r, hn, h => by
    unfold insP
    by_cases hc : cmpF z.labels x.labels < 0
    · have e : posP x.labels (z :: r) = posP x.labels r + 1 := by rw [posP, if_pos hc]
      simp only [e, List.getElem_cons_succ] at h ⊢
      rw [if_pos hc, List.set_cons_succ, insP_yes (l := r) (by rw [e] at hn; simpa using hn) h]
    · have e : posP x.labels (z :: r) = 0 := by rw [posP, if_neg hc]
      simp only [e, List.getElem_cons_zero] at h ⊢
      rw [if_neg hc, if_pos h]
      rfl
theorem insP_no {c : Int} {x : Pt} : ∀ {l : List Pt}, (∀ hn : posP x.labels l < l.length, cmpF l[posP x.labels l].labels x.labels ≠ 0) → insP c l x = l.take (posP x.labels l) ++ x :: l.drop (posP x.labels l)
  | [], _ => rfl
  | z :: r, h => by
    unfold insP
    by_cases hc : cmpF z.labels x.labels < 0
    · have e : posP x.labels (z :: r) = posP x.labels r + 1 := by rw [posP, if_pos hc]
      rw [if_pos hc, e, List.take_succ_cons, List.drop_succ_cons, insP_no (l := r) fun hn => by
        have := h (by rw [e]; simpa using hn)
        simpa only [e, List.getElem_cons_succ] using this]
      rfl
    · have e : posP x.labels (z :: r) = 0 := by rw [posP, if_neg hc]
      have h1 := h (by rw [e]; simp)
      simp only [e, List.getElem_cons_zero] at h1
      rw [if_neg hc, if_neg h1, e]
      rfl
theorem insP_len (c : Int) (x : Pt) : ∀ l : List Pt, (insP c l x).length ≤ l.length + 1
  | [] => by simp [insP]
  | y :: r => by
    unfold insP
    repeat' split
    · have := insP_len c x r; simp; omega
    · simp
    · simp
def Pt.s (p : Pt) : Ser := ⟨p.labels, [⟨0, p.value⟩]⟩
def hv (l : List Sm) : Int := match l with | x :: _ => x.value | [] => 0
def mgC (c : Int) (a b : List Sm) : List Sm := [⟨0, combF c (hv a) (hv b)⟩]
theorem ris_s {l : List Pt} : RisS (l.map Pt.s) ↔ RisP l := by
  unfold RisS RisP
  rw [List.pairwise_map]
  exact Iff.rfl
theorem insP_s (c : Int) (x : Pt) : ∀ l : List Pt, (insP c l x).map Pt.s = mergeL (mgC c) (l.map Pt.s) [x.s]
  | [] => by rw [List.map_nil, mergeL_nil']; rfl
  | y :: r => by
    rw [List.map_cons, mergeL_cons, mergeL_nil, mergeL_nil]
    unfold insP
    show List.map Pt.s (if cmpF y.labels x.labels < 0 then _ else if cmpF y.labels x.labels = 0 then _ else _) = (if cmpF y.labels x.labels < 0 then _ else if cmpF y.labels x.labels = 0 then _ else _)
    split
    · rw [List.map_cons, insP_s c x r]
    · split
      · rename_i h0
        rw [List.map_cons]
        congr 1
        show (⟨y.labels, _⟩ : Ser) = ⟨x.labels, _⟩
        rw [(cmpF_is.eq0 _ _).1 h0]
        rfl
      · rfl
theorem insP_ris {c : Int} {x : Pt} {l : List Pt} (h : RisP l) : RisP (insP c l x) := by
  rw [← ris_s, insP_s]
  exact mergeL_ris _ _ (ris_s.2 h) (List.pairwise_singleton _ _)
theorem fold_ris (c : Int) : ∀ (b l : List Pt), RisP l → RisP (b.foldl (insP c) l)
  | [], _, h => h
  | x :: b, l, h => fold_ris c b _ (insP_ris h)
theorem tog_ris (c : Int) (by_ : List ByteArray) (l : List Pt) : RisP (togF c by_ l) := fold_ris c _ _ .nil
theorem fold_len (c : Int) : ∀ (b l : List Pt), (b.foldl (insP c) l).length ≤ l.length + b.length
  | [], l => by simp
  | x :: b, l => by
    have h1 := fold_len c b (insP c l x)
    have h2 := insP_len c x l
    simp only [List.foldl_cons, List.length_cons]
    omega
theorem tog_len (c : Int) (by_ : List ByteArray) (l : List Pt) : (togF c by_ l).length ≤ l.length := by
  have := fold_len c (l.map (grp c by_)) []
  simpa [togF] using this
theorem wr_wr (a b : Int) : wr64 (wr64 a + b) = wr64 (a + b) := by
  simp only [wr64, IntKind.wrap_i64]
  omega
theorem wr_wr' (a b : Int) : wr64 (a + wr64 b) = wr64 (a + b) := by
  simp only [wr64, IntKind.wrap_i64]
  omega
theorem comb_comm (c a b : Int) : combF c a b = combF c b a := by
  unfold combF
  split
  · exact Int.min_comm a b
  · split
    · exact Int.max_comm a b
    · rw [Int.add_comm]
theorem comb_assoc (c x y z : Int) : combF c (combF c x y) z = combF c x (combF c y z) := by
  unfold combF
  split
  · exact Int.min_assoc x y z
  · split
    · exact Int.max_assoc x y z
    · rw [wr_wr, wr_wr', Int.add_assoc]
def cmb (c : Int) : Option Int → Int → Option Int
  | none, x => some x
  | some v, x => some (combF c v x)
def allP (c : Int) (l : List Pt) : Option Int := (l.map (·.value)).foldl (cmb c) none
theorem cmb_swap (c : Int) (o : Option Int) (x y : Int) : cmb c (cmb c o x) y = cmb c (cmb c o y) x := by
  cases o with
  | none => exact congrArg some (comb_comm c x y)
  | some v =>
    show some _ = some _
    rw [comb_assoc, comb_comm c x y, ← comb_assoc]
theorem cmb_two (c : Int) (o : Option Int) (x y : Int) : cmb c (cmb c o x) y = cmb c o (combF c x y) := by
  cases o with
  | none => rfl
  | some v => exact congrArg some (comb_assoc c v x y)
theorem cmb_fold (c : Int) : ∀ (l : List Int) (o : Option Int) (x : Int), l.foldl (cmb c) (cmb c o x) = cmb c (l.foldl (cmb c) o) x
  | [], _, _ => rfl
  | y :: l, o, x => by simp only [List.foldl_cons]; rw [cmb_swap, cmb_fold c l]
theorem ins_all (c k : Int) (hk : ∀ a b, combF c a b = combF k a b) (x : Pt) : ∀ (l : List Pt) (o : Option Int), ((insP c l x).map (·.value)).foldl (cmb k) o = cmb k ((l.map (·.value)).foldl (cmb k) o) x.value
  | [], o => rfl
  | y :: r, o => by
    unfold insP
    split
    · simp only [List.map_cons, List.foldl_cons]
      exact ins_all c k hk x r _
    · split
      · simp only [List.map_cons, List.foldl_cons]
        rw [hk, ← cmb_two, cmb_fold]
      · simp only [List.map_cons, List.foldl_cons]
        rw [cmb_swap, cmb_fold]
theorem fold_all (c k : Int) (hk : ∀ a b, combF c a b = combF k a b) : ∀ (b l : List Pt), allP k (b.foldl (insP c) l) = (b.map (·.value)).foldl (cmb k) (allP k l)
  | [], _ => rfl
  | x :: b, l => by
    simp only [List.foldl_cons, List.map_cons]
    rw [fold_all c k hk b]
    exact congrArg (fun o => (b.map (·.value)).foldl (cmb k) o) (ins_all c k hk x l none)
theorem fold_one (c : Int) : ∀ (b : List Pt) (v : Int), (∀ p ∈ b, p.labels = []) → ∃ n, b.foldl (insP c) [⟨[], v⟩] = [⟨[], n⟩] ∧ (b.map (·.value)).foldl (cmb c) (some v) = some n
  | [], v, _ => ⟨v, rfl, rfl⟩
  | x :: b, v, h => by
    obtain ⟨n, h1, h2⟩ := fold_one c b (combF c v x.value) fun p hp => h p (by simp [hp])
    refine ⟨n, ?_, h2⟩
    rw [List.foldl_cons, ← h1]
    congr 1
    have e : cmpF [] x.labels = 0 := by rw [h x (by simp)]; exact (cmpF_is.eq0 _ _).2 rfl
    unfold insP
    rw [if_neg (by rw [e]; omega), if_pos e]
theorem grp_nil (c : Int) (p : Pt) : (grp c [] p).labels = [] := by
  unfold grp onlyF
  simp
theorem tog_nil (c : Int) (l : List Pt) : togF c [] l = match ((l.map (grp c [])).map (·.value)).foldl (cmb c) none with | none => [] | some v => [⟨[], v⟩] := by
  unfold togF
  cases l with
  | nil => rfl
  | cons x l =>
    have hx : grp c [] x = ⟨[], (grp c [] x).value⟩ := by rw [← grp_nil c x]
    simp only [List.map_cons, List.foldl_cons]
    obtain ⟨n, h1, h2⟩ := fold_one c (l.map (grp c [])) (grp c [] x).value (by intro p hp; obtain ⟨q, _, rfl⟩ := List.mem_map.1 hp; exact grp_nil c q)
    rw [show insP c [] (grp c [] x) = [⟨[], (grp c [] x).value⟩] from congrArg (fun z => [z]) hx, h1, show cmb c none (grp c [] x).value = some (grp c [] x).value from rfl, h2]
theorem grp_val {c : Int} (hc : c ≠ 11) (b : List ByteArray) (l : List Pt) : ((l.map (grp c b)).map (·.value)) = l.map (·.value) := by
  rw [List.map_map]
  refine List.map_congr_left fun p _ => ?_
  show (if c = 11 then 1 else p.value) = p.value
  rw [if_neg hc]
theorem parts_same {c : Int} (hc : c ≠ 11) (b : List ByteArray) (l : List Pt) : togF c [] (togF c b l) = togF c [] l := by
  rw [tog_nil, tog_nil, grp_val hc, grp_val hc]
  have : allP c (togF c b l) = (l.map (·.value)).foldl (cmb c) none := by
    unfold togF
    rw [fold_all c c (fun _ _ => rfl), grp_val hc]
    rfl
  rw [← this]
  rfl
theorem parts_many (b : List ByteArray) (l : List Pt) : togF 8 [] (togF 11 b l) = togF 11 [] l := by
  rw [tog_nil, tog_nil, grp_val (by decide)]
  have e : ∀ x : Option Int, ((l.map (grp 11 b)).map (·.value)) = ((l.map (grp 11 [])).map (·.value)) := fun _ => by
    rw [List.map_map, List.map_map]
    rfl
  have : allP 8 (togF 11 b l) = ((l.map (grp 11 [])).map (·.value)).foldl (cmb 8) none := by
    unfold togF
    rw [fold_all 11 8 (fun _ _ => rfl), e none]
    rfl
  have e2 : ((l.map (grp 11 [])).map (·.value)).foldl (cmb 11) none = ((l.map (grp 11 [])).map (·.value)).foldl (cmb 8) none := by
    have : ∀ (z : List Int) (o : Option Int), z.foldl (cmb 11) o = z.foldl (cmb 8) o := by
      intro z
      induction z with
      | nil => intro o; rfl
      | cons x z ih => intro o; simp only [List.foldl_cons]; rw [ih]; cases o <;> rfl
    exact this _ _
  rw [e2, ← this]
  rfl
theorem many_len {l : List Pt} (hl : l.length ≤ 1000000) (h0 : l ≠ []) : togF 11 [] l = [⟨[], l.length⟩] := by
  rw [tog_nil]
  have key : ∀ (z : List Pt) (n : Nat), n + z.length ≤ 1000000 → ((z.map (grp 11 [])).map (·.value)).foldl (cmb 11) (some (n : Int)) = some ((n + z.length : Nat) : Int) := by
    intro z
    induction z with
    | nil => intro n _; rfl
    | cons x z ih =>
      intro n hn
      simp only [List.length_cons] at hn
      simp only [List.map_cons, List.foldl_cons, List.length_cons]
      have e : cmb 11 (some (n : Int)) (grp 11 [] x).value = some ((n + 1 : Nat) : Int) := by
        show some (wr64 ((n : Int) + 1)) = _
        rw [wr_id (by omega) (by omega)]
        rfl
      rw [e, ih (n + 1) (by omega)]
      congr 2
      omega
  cases l with
  | nil => exact absurd rfl h0
  | cons x l =>
    simp only [List.map_cons, List.foldl_cons, List.length_cons] at hl ⊢
    rw [show cmb 11 none (grp 11 [] x).value = some ((1 : Nat) : Int) from rfl, key l 1 (by omega)]
    show [(⟨[], ((1 + l.length : Nat) : Int)⟩ : Pt)] = _
    rw [Nat.add_comm]
end Go.PL
/-
  Plain laws: what the document's questions come to; what many questions come to stays small, and in order. No program is in sight.
-/
namespace Go.PL
open Go Go.GK
def I64 (x : Int) : Prop := -9223372036854775808 ≤ x ∧ x ≤ 9223372036854775807
theorem I64_wr (x : Int) : I64 (wr64 x) := by
  unfold I64 wr64
  rw [IntKind.wrap_i64]
  omega
structure CameOk (n : Nat) (a : Came) : Prop where
  ris : RisP a.1
  len : a.1.length ≤ n
  one : a.2 = true → a.1.length ≤ 1
  val : ∀ p ∈ a.1, I64 p.value
theorem ris_flat {α β : Type} {R : β → β → Prop} (f : α → List β) (l : List α) (h1 : ∀ x ∈ l, (f x).Pairwise R) (h2 : l.Pairwise fun x y => ∀ u ∈ f x, ∀ v ∈ f y, R u v) : (l.flatMap f).Pairwise R := by
  induction l with
  | nil => exact .nil
  | cons x l ih =>
    rw [List.flatMap_cons]
    obtain ⟨a, b⟩ := List.pairwise_cons.1 h2
    refine List.pairwise_append.2 ⟨h1 x (by simp), ih (fun y hy => h1 y (by simp [hy])) b, fun u hu v hv => ?_⟩
    obtain ⟨y, hy, hv⟩ := List.mem_flatMap.1 hv
    exact a y hy u hu v hv
theorem len_flat {α β : Type} (f : α → List β) (l : List α) (h : ∀ x ∈ l, (f x).length ≤ 1) : (l.flatMap f).length ≤ l.length := by
  induction l with
  | nil => exact Nat.le_refl _
  | cons x l ih =>
    rw [List.flatMap_cons, List.length_append, List.length_cons]
    have h1 := h x (by simp)
    have h2 := ih fun y hy => h y (by simp [hy])
    omega
theorem pw_one {β : Type} {R : β → β → Prop} : ∀ {l : List β}, l.length ≤ 1 → l.Pairwise R
  | [], _ => .nil
  | [x], _ => List.pairwise_singleton _ _
  | x :: y :: l, h => by simp at h
theorem fmap_one {α β : Type} (f : α → Option β) {l : List α} (h : l.length ≤ 1) : (l.filterMap f).length ≤ 1 := Nat.le_trans (List.length_filterMap_le f l) h
theorem one_same {ls : List Lb} (g : Pt → Option Pt) : ∀ {l : List Pt}, RisP l → (l.filterMap fun q => if cmpF ls q.labels = 0 then g q else none).length ≤ 1
  | [], _ => Nat.zero_le _
  | x :: l, h => by
    obtain ⟨h1, h2⟩ := List.pairwise_cons.1 h
    rw [List.filterMap_cons]
    by_cases hx : cmpF ls x.labels = 0
    · have : (l.filterMap fun q => if cmpF ls q.labels = 0 then g q else none) = [] := by
        rw [List.filterMap_eq_nil_iff]
        intro y hy
        refine if_neg fun e => ?_
        have := h1 y hy
        rw [← (cmpF_is.eq0 _ _).1 hx, e] at this
        omega
      rw [this]
      split <;> simp
    · rw [if_neg hx]
      exact one_same g h2
def pairQ (code : Int) (a b : Came) (p q : Pt) : Option Pt :=
    if a.2 then (countF code p.value q.value).map fun n => ⟨q.labels, n⟩
    else if b.2 ∨ cmpF p.labels q.labels = 0 then (countF code p.value q.value).map fun n => ⟨p.labels, n⟩ else none
theorem bothQ_is (code : Int) (a b : Came) : bothQ code a b = (a.1.flatMap fun p => b.1.filterMap (pairQ code a b p), a.2 && b.2) := rfl
theorem count_I64 {c x y n : Int} (h : countF c x y = some n) : I64 n := by
  unfold countF at h
  split at h
  · cases h; exact I64_wr _
  split at h
  · cases h; exact I64_wr _
  split at h
  · cases h; exact I64_wr _
  split at h
  · cases h
  split at h <;> (cases h; exact I64_wr _)
theorem pair_labels {c : Int} {a b : Came} {p q z : Pt} (h : pairQ c a b p q = some z) : z.labels = if a.2 then q.labels else p.labels := by
  unfold pairQ at h
  split at h
  · rename_i ha
    rw [if_pos ha]
    obtain ⟨n, _, rfl⟩ := Option.map_eq_some_iff.1 h
    rfl
  · rename_i ha
    rw [if_neg ha]
    split at h
    · obtain ⟨n, _, rfl⟩ := Option.map_eq_some_iff.1 h
      rfl
    · cases h
theorem pair_val {c : Int} {a b : Came} {p q z : Pt} (h : pairQ c a b p q = some z) : I64 z.value := by
  unfold pairQ at h
  repeat' split at h
  · obtain ⟨n, hn, rfl⟩ := Option.map_eq_some_iff.1 h
    exact count_I64 hn
  · obtain ⟨n, hn, rfl⟩ := Option.map_eq_some_iff.1 h
    exact count_I64 hn
  · cases h
theorem both_ok {n : Nat} (c : Int) {a b : Came} (ha : CameOk n a) (hb : CameOk n b) : CameOk n (bothQ c a b) := by
  rw [bothQ_is]
  have hv : ∀ z ∈ (a.1.flatMap fun p => b.1.filterMap (pairQ c a b p)), I64 z.value := by
    intro z hz
    obtain ⟨p, _, hz⟩ := List.mem_flatMap.1 hz
    obtain ⟨q, _, hz⟩ := List.mem_filterMap.1 hz
    exact pair_val hz
  by_cases h1 : a.2 = true
  · have hl := ha.one h1
    have key : ∀ p, (b.1.filterMap (pairQ c a b p)).Pairwise (fun x y => cmpF x.labels y.labels < 0) := by
      intro p
      refine List.Pairwise.filterMap _ (fun x y hxy u hu v hv => ?_) hb.ris
      rw [pair_labels hu, pair_labels hv, if_pos h1, if_pos h1]
      exact hxy
    obtain ⟨al, a2⟩ := a
    cases al with
    | nil => exact ⟨.nil, Nat.zero_le _, fun _ => Nat.zero_le _, fun z hz => by cases hz⟩
    | cons p r =>
      have : r = [] := by cases r with | nil => rfl | cons _ _ => simp at hl
      subst this
      have e : ([p].flatMap fun p_1 => b.1.filterMap (pairQ c ([p], a2) b p_1)) = b.1.filterMap (pairQ c ([p], a2) b p) := by simp
      show CameOk n ([p].flatMap (fun p_1 => b.1.filterMap (pairQ c ([p], a2) b p_1)), a2 && b.2)
      have hv' : ∀ z ∈ ([p].flatMap fun p_1 => b.1.filterMap (pairQ c ([p], a2) b p_1)), I64 z.value := hv
      rw [e] at hv' ⊢
      refine ⟨key p, Nat.le_trans (List.length_filterMap_le _ _) hb.len, fun h => ?_, hv'⟩
      have h : (a2 && b.2) = true := h
      rw [Bool.and_eq_true] at h
      exact fmap_one _ (hb.one h.2)
  · have one : ∀ p, (b.1.filterMap (pairQ c a b p)).length ≤ 1 := by
      intro p
      by_cases h2 : b.2 = true
      · exact fmap_one _ (hb.one h2)
      · have : pairQ c a b p = fun q => if cmpF p.labels q.labels = 0 then (countF c p.value q.value).map fun n => (⟨p.labels, n⟩ : Pt) else none := by
          funext q
          unfold pairQ
          rw [if_neg h1]
          simp [h2]
        rw [this]
        exact one_same _ hb.ris
    refine ⟨ris_flat _ _ (fun p _ => pw_one (one p)) ?_, Nat.le_trans (len_flat _ _ fun p _ => one p) ha.len, fun h => ?_, hv⟩
    · refine ha.ris.imp fun {x y} hxy u hu v hv => ?_
      obtain ⟨q, _, hu⟩ := List.mem_filterMap.1 hu
      obtain ⟨q', _, hv⟩ := List.mem_filterMap.1 hv
      rw [pair_labels hu, pair_labels hv, if_neg h1, if_neg h1]
      exact hxy
    · have h : (a.2 && b.2) = true := h
      rw [Bool.and_eq_true] at h
      exact absurd h.1 h1
structure SrcOk (n : Nat) (src : List Mt → Int → Int → List Ser) : Prop where
  ris : ∀ m f t, RisS (src m f t)
  len : ∀ m f t, (src m f t).length ≤ n
  val : ∀ m f t, ∀ x ∈ src m f t, ∀ y ∈ x.samples, I64 y.value
theorem fold_I64 (g : Int → Int → Int) (hg : ∀ a b, I64 a → I64 b → I64 (g a b)) : ∀ (l : List Int) (n : Int), I64 n → (∀ x ∈ l, I64 x) → I64 (l.foldl g n)
  | [], _, h, _ => h
  | x :: l, n, h, hl => fold_I64 g hg l _ (hg _ _ h (hl x (by simp))) fun y hy => hl y (by simp [hy])
theorem over_I64 (c : Int) {l : List Int} (hn : l.length ≤ 1000000) (h : ∀ x ∈ l, I64 x) : I64 (overV c l) := by
  have h0 : I64 0 := by unfold I64; omega
  have hd : I64 (l.headD 0) := by cases l with | nil => exact h0 | cons x r => exact h x (by simp)
  unfold overV
  split
  · cases hl : l.getLast? with
    | none => rw [List.getLastD_eq_getLast?, hl]; exact h0
    | some x => rw [List.getLastD_eq_getLast?, hl]; exact h x (List.mem_of_getLast? hl)
  split
  · unfold I64; omega
  split
  · exact I64_wr _
  refine fold_I64 _ (fun a b ha hb => ?_) _ _ hd fun x hx => h x (List.mem_of_mem_tail hx)
  unfold I64 at ha hb
  split
  · exact I64_wr _
  split <;> (unfold I64; omega)
theorem comb_I64 (c : Int) {a b : Int} (ha : I64 a) (hb : I64 b) : I64 (combF c a b) := by
  unfold I64 at ha hb
  unfold combF
  split
  · unfold I64; omega
  split
  · unfold I64; omega
  · exact I64_wr _
theorem ins_I64 {c : Int} {x : Pt} (hx : I64 x.value) : ∀ {l : List Pt}, (∀ p ∈ l, I64 p.value) → ∀ p ∈ insP c l x, I64 p.value
  | [], _, p, hp => by rw [List.mem_singleton.1 hp]; exact hx
  | y :: r, h, p, hp => by
    unfold insP at hp
    split at hp
    · rcases List.mem_cons.1 hp with rfl | hp
      · exact h _ (by simp)
      · exact ins_I64 hx (fun q hq => h q (by simp [hq])) p hp
    split at hp
    · rcases List.mem_cons.1 hp with rfl | hp
      · exact comb_I64 c (h y (by simp)) hx
      · exact h p (by simp [hp])
    · rcases List.mem_cons.1 hp with rfl | hp
      · exact hx
      · exact h p hp
theorem fold_pI64 {c : Int} : ∀ (b l : List Pt), (∀ p ∈ b, I64 p.value) → (∀ p ∈ l, I64 p.value) → ∀ p ∈ b.foldl (insP c) l, I64 p.value
  | [], _, _, h => h
  | x :: b, l, hb, h => fold_pI64 b _ (fun p hp => hb p (by simp [hp])) (ins_I64 (hb x (by simp)) h)
theorem tog_I64 (c : Int) (by_ : List ByteArray) {l : List Pt} (h : ∀ p ∈ l, I64 p.value) : ∀ p ∈ togF c by_ l, I64 p.value := by
  refine fold_pI64 _ _ (fun p hp => ?_) (fun p hp => by cases hp)
  obtain ⟨q, hq, rfl⟩ := List.mem_map.1 hp
  show I64 (if c = 11 then 1 else q.value)
  split
  · unfold I64; omega
  · exact h q hq
theorem pts_ok (c : Int) {n : Nat} {l : List Ser} (hr : RisS l) (hl : l.length ≤ n) (hn : ∀ x ∈ l, x.samples.length ≤ 1000000) (hv : ∀ x ∈ l, ∀ y ∈ x.samples, I64 y.value) : CameOk n (ptsF c l, false) := by
  refine ⟨?_, ?_, fun h => (by cases h), fun p hp => ?_⟩
  · show List.Pairwise _ (ptsF c l)
    unfold ptsF
    rw [List.pairwise_map]
    exact hr.filter _
  · show (ptsF c l).length ≤ n
    unfold ptsF
    rw [List.length_map]
    exact Nat.le_trans (List.length_filter_le _ _) hl
  · obtain ⟨x, hx, rfl⟩ := List.mem_map.1 hp
    have hx := (List.mem_filter.1 hx).1
    refine over_I64 c (by simpa using hn x hx) fun v hv' => ?_
    obtain ⟨y, hy, rfl⟩ := List.mem_map.1 hv'
    exact hv x hx y hy
theorem tog_ok (c : Int) (by_ : List ByteArray) {n : Nat} {a : Came} (h : CameOk n a) : CameOk n (togF c by_ a.1, false) :=
  ⟨tog_ris _ _ _, Nat.le_trans (tog_len _ _ _) h.len, fun h => (by cases h), tog_I64 _ _ h.val⟩
theorem num_ok {n : Nat} (hn : 1 ≤ n) {v : Int} (hv : I64 v) : CameOk n ([⟨[], v⟩], true) :=
  ⟨List.pairwise_singleton _ _, hn, fun _ => Nat.le_refl _, fun p hp => by rw [List.mem_singleton.1 hp]; exact hv⟩
end Go.PL
/-
  Contracts: what questions come to: what samples, and what two numbers come to; where points stand.
-/
namespace Go.Proofs.YtkoalgjlkcaonaaGreatDoor
open Go.GK Go.PL Go.RowKit
set_option maxRecDepth 100000
abbrev ptc (p : Pt) : List GV := [lbs p.labels, gi p.value]
abbrev pts (l : List Pt) : GV := .sl 2 (l.map ptc)
abbrev cameG (a : Came) : GV := .agg [pts a.1, .v (.bool a.2)]
def countG (r : Option Int) : GV := match r with | some n => .tup [gi n, .v (.bool true)] | none => .tup [gi 0, .v (.bool false)]
theorem count_rt (c a b : Int) : Rt pg 132 [gi c, gi a, gi b] (countG (countF c a b)) := by
  refine Rt.of pg_ok Tryz.func132 rfl Tryz.ntmps132 rfl Tryz.results132 Tryz.call132 fun H0 S0 w0 h0 g0 => ?_
  unfold countF
  by_cases h1 : c = 13
  · rw [if_pos h1]
    refine p1 ?_ (decide_eq_true h1)
    exact ⟨⟨rfl, rfl, trivial⟩, rfl⟩
  rw [if_neg h1]
  refine p2 ?_ (decide_eq_false h1)
  by_cases h2 : c = 14
  · rw [if_pos h2]
    refine p1 ?_ (decide_eq_true h2)
    exact ⟨⟨rfl, rfl, trivial⟩, rfl⟩
  rw [if_neg h2]
  refine p2 ?_ (decide_eq_false h2)
  by_cases h3 : c = 15
  · rw [if_pos h3]
    refine p1 ?_ (decide_eq_true h3)
    exact ⟨⟨rfl, rfl, trivial⟩, rfl⟩
  rw [if_neg h3]
  refine p2 ?_ (decide_eq_false h3)
  by_cases h4 : b = 0
  · rw [if_pos h4]
    refine p1 ?_ (decide_eq_true h4)
    exact ⟨⟨rfl, rfl, trivial⟩, rfl⟩
  rw [if_neg h4]
  refine p2 ?_ (decide_eq_false h4)
  by_cases h5 : b = -1
  · rw [if_pos h5]
    refine p1 ?_ (decide_eq_true h5)
    exact ⟨⟨congrArg (fun z => gi (IntKind.i64.wrap z)) (Int.zero_sub a), rfl, trivial⟩, rfl⟩
  rw [if_neg h5]
  refine p2 ?_ (decide_eq_false h5)
  refine ⟨h4, ?_⟩
  exact ⟨⟨rfl, rfl, trivial⟩, rfl⟩
theorem last_val (l : List Sm) (h : l.length - 1 < l.length) : (l.map (·.value)).getLastD 0 = l[l.length - 1].value := by
  rw [List.getLastD_eq_getLast?, List.getLast?_map, List.getLast?_eq_getElem?, List.getElem?_eq_getElem h]
  rfl
theorem over_rt (c : Int) (l : List Sm) (h0 : l ≠ []) (hl : l.length ≤ 100000) : Rt pg 126 [gi c, sms l] (gi (overF c l)) := by
  refine Rt.of pg_ok Tryz.func126 rfl Tryz.ntmps126 rfl Tryz.results126 Tryz.call126 fun H0 S0 w0 h0' g0 => ?_
  have hll : (l.map sm).length = l.length := by simp
  have hpos : 0 < l.length := List.length_pos_iff.2 h0
  have hw : IntKind.i64.wrap ((l.map sm).length - 1 : Int) = ((l.length - 1 : Nat) : Int) := by rw [hll, wrap_id (by omega) (by omega)]; omega
  refine idx (l.length - 1) hw (by omega) ?_
  unfold overF overV
  rw [last_val l (by omega)]
  by_cases h2 : c = 2
  · rw [if_pos h2]
    refine p1 ?_ (decide_eq_true h2)
    exact ⟨rfl, rfl⟩
  rw [if_neg h2]
  refine p2 ?_ (decide_eq_false h2)
  by_cases h3 : c = 3
  · rw [if_pos h3]
    refine p1 ?_ (decide_eq_true h3)
    exact ⟨congrArg (fun n : Nat => gi (n : Int)) (by simp), rfl⟩
  rw [if_neg h3]
  refine p2 ?_ (decide_eq_false h3)
  obtain ⟨x, r, rfl⟩ : ∃ x r, l = x :: r := by cases l with | nil => exact absurd rfl h0 | cons x r => exact ⟨x, r, rfl⟩
  by_cases h7 : c = 7
  · rw [if_pos h7]
    refine p1 ?_ (decide_eq_true h7)
    refine ix (i := 0) (hk := Nat.zero_lt_succ _) (h := ?_)
    exact ⟨rfl, rfl⟩
  rw [if_neg h7]
  refine p2 ?_ (decide_eq_false h7)
  refine ix (i := 0) (hk := Nat.zero_lt_succ _) (h := ?_)
  refine ⟨by omega, by rw [hll]; omega, Int.le_refl _, ?_⟩
  have hrl : (r.map sm).length = r.length := by simp
  have hrr : r.length ≤ 100000 := by simp only [List.length_cons] at hl; omega
  refine JK.loopE (α := Nat) (β := Unit) (fun i => ⟨[(0, gi c), (6, gi (((r.take i).map (·.value)).foldl (fun n x => if c = 4 then wr64 (n + x) else if c = 5 then min n x else max n x) x.value)), (37, .sl 2 (r.map sm)), (38, gi (r.map sm).length), (39, gi i)], [], 0⟩) (fun i => i ≤ r.length) (fun i => r.length - i)
    (fun _ => ⟨[(6, gi ((r.map (·.value)).foldl (fun n x => if c = 4 then wr64 (n + x) else if c = 5 then min n x else max n x) x.value))], [], 0⟩) (fun _ => True) 0 id ?_ (Nat.zero_le _) ?_ ?_
  · have hsl : List.drop (Int.toNat 1) (List.take ((List.map sm (x :: r)).length : Int).toNat (List.map sm (x :: r))) = r.map sm := by rw [Int.toNat_natCast, List.take_length]; rfl
    exact ⟨⟨rfl, rfl, congrArg (fun l => some (GV.sl 2 l)) hsl, congrArg (fun l : List (List GV) => some (gi l.length)) hsl, rfl, trivial⟩, trivial, rfl⟩
  · intro i hi
    refine V ?_
    by_cases hlt : i < r.length
    · refine p1 ?_ (decide_eq_true (by omega))
      refine ix (h := ?_)
      have hst : (r.take (i + 1)).map (·.value) = (r.take i).map (·.value) ++ [r[i].value] := by rw [List.take_succ_eq_append_getElem hlt, List.map_append]; rfl
      by_cases h4 : c = 4
      · refine p1 ?_ (decide_eq_true h4)
        refine ⟨i + 1, id, ⟨⟨rfl, ?_, rfl, rfl, succ_gi (by omega), trivial⟩, trivial, rfl⟩, hlt, by show r.length - (i + 1) < r.length - i; omega⟩
        rw [hst, List.foldl_append, List.foldl_cons, List.foldl_nil, if_pos h4]
        rfl
      refine p2 ?_ (decide_eq_false h4)
      by_cases h5 : c = 5
      · refine p1 ?_ (decide_eq_true h5)
        refine ⟨i + 1, id, ⟨⟨rfl, ?_, rfl, rfl, succ_gi (by omega), trivial⟩, trivial, rfl⟩, hlt, by show r.length - (i + 1) < r.length - i; omega⟩
        rw [hst, List.foldl_append, List.foldl_cons, List.foldl_nil, if_neg h4, if_pos h5]
        exact congrArg (fun z => some (gi z)) (by split <;> omega)
      refine p2 ?_ (decide_eq_false h5)
      refine ⟨i + 1, id, ⟨⟨rfl, ?_, rfl, rfl, succ_gi (by omega), trivial⟩, trivial, rfl⟩, hlt, by show r.length - (i + 1) < r.length - i; omega⟩
      rw [hst, List.foldl_append, List.foldl_cons, List.foldl_nil, if_neg h4, if_neg h5]
      exact congrArg (fun z => some (gi z)) (by split <;> omega)
    · refine p2 ?_ (decide_eq_false (by omega))
      obtain rfl : i = r.length := by omega
      rw [List.take_length]
      exact ⟨(), id, ⟨⟨rfl, trivial⟩, trivial, rfl⟩, trivial⟩
  · rintro _ _
    refine V ?_
    exact ⟨rfl, rfl⟩
theorem tog1_rt (x y : Pt) : Rt pg 129 [.agg (ptc x), .agg (ptc y)] (gi (cmpF x.labels y.labels)) := by
  refine Rt.of pg_ok Tryz.func129 rfl Tryz.ntmps129 rfl Tryz.results129 Tryz.call129 fun H0 S0 w0 h0 g0 => ?_
  refine GO (lcompare_rt x.labels y.labels) rfl ?_
  exact ⟨rfl, rfl⟩
def hasP (ls : List Lb) (l : List Pt) : Bool := match l[posP ls l]? with | some y => decide (cmpF y.labels ls = 0) | none => false
theorem bsp_rt (l : List Pt) (x : Pt) (hr : RisP l) (hl : l.length ≤ 1000000) :
    Rt pg 128 [pts l, .agg (ptc x), .fn (.func 129) [] []] (.tup [gi (posP x.labels l), .v (.bool (hasP x.labels l))]) := by
  refine Rt.of pg_ok Tryz.func128 rfl Tryz.ntmps128 rfl Tryz.results128 Tryz.call128 fun H0 S0 w0 h0 g0 => ?_
  have hll : (l.map ptc).length = l.length := by simp
  have hp := posP_le x.labels l
  refine FZB 0 rfl rfl ?_
  refine JK.loopE (α := Nat × Nat) (β := Unit) (fun z => ⟨[(0, pts l), (2, .fn (.func 129) [] []), (4, .r (ptc x)), (8, gi (l.map ptc).length), (9, gi z.1), (10, gi z.2)], [], 1⟩) (fun z => z.1 ≤ posP x.labels l ∧ posP x.labels l ≤ z.2 ∧ z.2 ≤ l.length) (fun z => z.2 - z.1)
    (fun _ => ⟨[(0, pts l), (2, .fn (.func 129) [] []), (4, .r (ptc x)), (8, gi (l.map ptc).length), (9, gi (posP x.labels l))], [], 1⟩) (fun _ => True) (0, l.length) id ?_ ⟨Nat.zero_le _, hp, Nat.le_refl _⟩ ?_ ?_
  · exact ⟨⟨rfl, rfl, rfl, rfl, rfl, congrArg (fun i : Nat => some (gi (i : Int))) hll, trivial⟩, trivial, rfl⟩
  · rintro ⟨i, j⟩ ⟨hi, hj, hjl⟩
    simp only at hi hj hjl
    refine V ?_
    by_cases hlt : i < j
    · refine p1 ?_ (decide_eq_true (by dsimp only; omega))
      have hmid := midE (s := (i : Int) + (j : Int)) (i + j) (by omega) (by omega)
      have hm : (i + j) / 2 < l.length := by omega
      refine ⟨by omega, ?_⟩
      refine DRAW [] false (tk [0, 1, 2, 3, 4, 5]) (by kernel_rfl) ?_
      refine idx ((i + j) / 2) hmid hm ?_
      refine RGO 6 true (tk [7]) (tog1_rt l[(i + j) / 2] x) rfl rfl (by kernel_rfl) ?_
      refine V ?_
      by_cases hlo : (i + j) / 2 < posP x.labels l
      · refine p1 ?_ (decide_eq_true (posP_lt x.labels l _ hm hlo))
        refine ⟨((i + j) / 2 + 1, j), id, ⟨⟨rfl, rfl, rfl, rfl, ?_, rfl, trivial⟩, trivial, rfl⟩, ⟨by dsimp only; omega, hj, hjl⟩, by dsimp only; omega⟩
        exact congrArg (fun i => some (gi i)) (by dsimp only; rw [hmid, wrap_id (by omega) (by omega)]; omega)
      · refine p2 ?_ (decide_eq_false (posP_ge hr _ hm (by omega)))
        refine ⟨(i, (i + j) / 2), id, ⟨⟨rfl, rfl, rfl, rfl, rfl, ?_, trivial⟩, trivial, rfl⟩, ⟨hi, by dsimp only; omega, by dsimp only; omega⟩, by dsimp only; omega⟩
        exact congrArg (fun i => some (gi i)) hmid
    · refine p2 ?_ (decide_eq_false (by dsimp only; omega))
      obtain rfl : i = j := by omega
      obtain rfl : i = posP x.labels l := by omega
      exact ⟨(), id, ⟨⟨rfl, rfl, rfl, rfl, rfl, trivial⟩, trivial, rfl⟩, trivial⟩
  · rintro _ _
    by_cases hlt : posP x.labels l < l.length
    · have hlt' : decide ((posP x.labels l : Int) < ((l.map ptc).length : Nat)) = true := decide_eq_true (by omega)
      refine V ?_
      refine DRAW [] false (tk [0, 1, 2, 3, 4, 5, 6, 7, 8, 9, 10]) (by kernel_rfl) ?_
      refine ⟨fun hc => ?_, fun h => absurd (hlt'.symm.trans h) (by decide)⟩
      refine ix (h := ?_)
      refine RGO 11 true (tk [12, 13, 14, 15]) (tog1_rt l[posP x.labels l] x) rfl (congrArg (fun c => bif (c == true) then some (129, [GV.agg (ptc l[posP x.labels l]), GV.agg (ptc x)]) else none) hc) (by kernel_rfl) ?_
      refine V ?_
      refine ⟨?_, rfl⟩
      have : hasP x.labels l = decide (cmpF l[posP x.labels l].labels x.labels = 0) := by
        unfold hasP
        rw [List.getElem?_eq_getElem hlt]
      rw [this]
      exact ⟨rfl, show (cmpF l[posP x.labels l].labels x.labels == 0) = decide (cmpF l[posP x.labels l].labels x.labels = 0) by rw [Bool.eq_iff_iff]; simp, trivial⟩
    · refine V ?_
      refine DRAW [] false (tk [0, 1, 2, 3, 4, 5, 6, 7, 8, 9, 10]) (by kernel_rfl) ?_
      refine ⟨fun h => absurd (of_decide_eq_true h) (by omega), fun hc => ?_⟩
      refine RSKIP 11 true (tk [12, 13, 14, 15]) rfl (congrArg (fun c => c == !true) hc) (by kernel_rfl) ?_
      refine V ?_
      refine ⟨?_, rfl⟩
      have : hasP x.labels l = false := by
        unfold hasP
        rw [List.getElem?_eq_none (by omega)]
      rw [this]
      exact ⟨rfl, rfl, trivial⟩
end Go.Proofs.YtkoalgjlkcaonaaGreatDoor
/-
  The ghost machine: a region that draws its order: of two operations that may come up at once, one may be a call of values, or may read own things.
-/
namespace Go.GK
open Go.RowKit
section
variable {cx : Cx} {T : Post}
theorem Stp.read {ops : List Oper} {k : List It} {σs : Heap} {ρq : Env} {fuel : Nat} {listed : List Bool} {s : St} (i : Nat) {o : Oper} (hp : cx.pg.Ok) (hi : ops[i]? = some o) (hgd : gdOk ops s.ρ o.guard = true)
    (h : pv cx.pg s.ρ (s.σ ++ σs) o.op fun g => nf g fun g => dput cx.N s.ρ o.dst g fun ρ' => nfE (qput ρq o.dst g) fun ρq => RA cx T ops k σs ρq fuel (listed.set i true) ⟨ρ', s.σ, s.n⟩) : Stp cx T ops k σs ρq fuel listed s i o := by
  refine ⟨hi, hgd, fun n0 H0 S0 w0 h0 g0 H a w K Q' hg hs ha hsat hK => ?_⟩
  obtain ⟨u, g, hrun, hiu, hk⟩ := pv_sound hp hg ha.env hsat h
  simp only [nf_eq, nfE_eq] at hk
  have hlt := dput_lt hk
  refine upon_value_wp (u := u) (.inl (hrun w (Agr.refl hsat) o rfl)) ?_
  obtain ⟨ρ', ha', hra⟩ := ha.dput hiu hk
  exact hK H u g w s ρ' (Hid.le.refl H) hiu (hs.ρ _) ha' hlt hra
theorem Stp.rt {ops : List Oper} {k : List It} {σs : Heap} {ρq : Env} {fuel : Nat} {listed : List Bool} {s : St} (i : Nat) {o : Oper} {f : FuncId} {cargs : List GV} {G : GV} (hr : Rt cx.pg f cargs G) (hi : ops[i]? = some o) (hk : callG cx.pg ops s.ρ o = some (f, cargs)) (hb : idbL 0 cargs = true)
    (h : dputV cx.N s.ρ o.dst G fun ρ' => nfE (qput ρq o.dst G) fun ρq => RA cx T ops k σs ρq fuel (listed.set i true) ⟨ρ', s.σ, s.n⟩) : Stp cx T ops k σs ρq fuel listed s i o := by
  obtain ⟨fo, args, ts, first, caps, gs, ho', hgd, hf, he, hargs⟩ := callG_spec hk
  refine ⟨hi, hgd, fun m0 H0 S0 w0 h0 g0 H a w K Q' hg hs ha _ hK => ?_⟩
  refine call_wp (cx := ⟨cx.pg, cx.N, m0, H0, S0, w0, h0, g0⟩) hr.ct hr.call id ho' hf he (by rw [renL_id]; exact hargs) (σc := []) trivial (by simp [hb, idbH, hids, distB]) (by simp) hg hs ha.env fun H'' u g σ' n' w' hle hiu hQ hsim => ?_
  obtain ⟨⟨rfl, hidb⟩, rfl, rfl⟩ := hQ
  have e1 : renH (sh id 0 s.n) [] ++ hrest (hids id []) s.σ = s.σ := by rw [show hids id [] = [] from rfl, hrest_nil]; rfl
  rw [ren_none _ hidb] at hiu
  rw [e1] at hsim
  rw [dputV_eq] at h
  simp only [nfE_eq] at h
  have hlt := dput_lt h
  obtain ⟨ρ', ha', hra⟩ := (ha.mono hle).dput hiu h
  exact hK H'' u _ w' ⟨ρ', _, _⟩ ρ' hle hiu (hsim ρ') ha' hlt hra
end
end Go.GK
/-
  The ghost machine: an own row is written no more, in a region that draws.
-/
namespace Go.GK
open Go.RowKit
section
variable {cx : Cx} {T : Post}
theorem Sim.freeze {s : St} {H : Hid} {a : Act} {w : World} (id : Nat) {ty sz : Nat} {rows : List (List GV)} (hl : hlook s.σ id = some (.row ty sz rows)) (hg : GlOk cx.pg H) (hs : Sim cx H s w) (ha : ActOk cx H s.ρ a) :
    ∃ ro' : Nat → Option Obj, GlOk cx.pg { H with ro := ro' } ∧ Sim cx { H with ro := ro' } ⟨frzE id sz rows s.ρ, frzH id sz rows (hdel s.σ id), s.n⟩ w ∧ ActOk cx { H with ro := ro' } (frzE id sz rows s.ρ) a := by
  obtain ⟨l1, l2, e1, e2, _⟩ := hlook_split hl
  have hmem := hlook_mem hl
  obtain ⟨xs, hown, hrow⟩ := hs.sat.holds _ hmem
  let ro' : Nat → Option Obj := fun b => if (H.sv id).ownBlock = some b then w.heap[b]? else H.ro b
  have hfree : ∀ b, (H.sv id).ownBlock = some b → H.ro b = none := fun b hb => hs.sat.free b (List.mem_flatMap.2 ⟨_, hmem, by simp [blocks, hb]⟩)
  have hro : ∀ b o, H.ro b = some o → ro' b = some o := by
    intro b o ho
    show (if _ then _ else _) = _
    rw [if_neg (fun hb => by rw [hfree b hb] at ho; cases ho)]
    exact ho
  let H' : Hid := { H with ro := ro' }
  have hle : H.le H' := ⟨Nat.le_refl _, hro, fun _ _ => rfl, fun _ _ => rfl⟩
  have hsl : IsR ro' (.sl sz rows) (H.sv id) := hrow.sl hro hown (fun b hb => by show (if _ then _ else _) = _; rw [if_pos hb])
  have hfz : ∀ {g : GV} {u : Value}, Is H g u → Is H' (frz id sz rows g) u := fun hi => Is.frz (H' := H') hro rfl rfl rfl hsl hi
  have hfr := hs.fr
  have hnd := hs.sat.nodup
  have hbl : blks H' (frzH id sz rows (hdel s.σ id)) = blks H (l1 ++ l2) := by rw [e2]; exact frzH_blks rfl rfl _
  rw [e1, blks_append, blks_cons] at hnd
  have n1 := List.nodup_append.1 hnd
  have n2 := List.nodup_append.1 n1.2.1
  have hin : ∀ b ∈ blks H (l1 ++ l2), b ∈ blks H s.σ := fun b hb => by
    rw [e1, blks_append, blks_cons]
    rw [blks_append] at hb
    rcases List.mem_append.1 hb with h1 | h1 <;> simp [h1]
  have hnin : ∀ b ∈ blks H (l1 ++ l2), (H.sv id).ownBlock ≠ some b := fun b hb hc => by
    have hc' : b ∈ blocks H (id, .row ty sz rows) := by simp [blocks, hc]
    rw [blks_append] at hb
    rcases List.mem_append.1 hb with h1 | h1
    · exact n1.2.2 b h1 b (by simp [hc']) rfl
    · exact n2.2.2 b hc' b h1 rfl
  refine ⟨ro', hg.up hro, ⟨hs.n, ⟨fun b o ho => ?_, fun x hx => ?_, ?_, fun b hb => ?_, fun x hx => ?_⟩, ?_⟩, ⟨fun t g hlk => ?_, ha.size, ha.defers⟩⟩
  · have ho' : (if (H.sv id).ownBlock = some b then w.heap[b]? else H.ro b) = some o := ho
    split at ho'
    · exact ho'
    · exact hs.sat.ro b o ho'
  · obtain ⟨y, hy, rfl⟩ := frzH_mem hx
    rw [e2] at hy
    have hy' : y ∈ s.σ := by
      rw [e1]
      rcases List.mem_append.1 hy with h1 | h1 <;> simp [h1]
    have hh := hs.sat.holds y hy'
    obtain ⟨j, r⟩ := y
    cases r with
    | blk ty cs =>
      obtain ⟨us, hw, hlen, hi⟩ := hh
      refine ⟨us, hw, by rw [frzL_len]; exact hlen, fun j g hj => ?_⟩
      rw [frzL_get] at hj
      cases hc : cs[j]? with
      | none => rw [hc] at hj; cases hj
      | some x => rw [hc] at hj; simp at hj; subst hj; exact hfz (hi j x hc)
    | row ty z rs => obtain ⟨ys, h1, h2⟩ := hh; exact ⟨ys, h1, h2.mono hro⟩
    | ob o => exact hh
    | ln z n => exact hh
    | sub i z lo n => exact hh
    | mp kd es =>
      obtain ⟨b, arr, clock, h1, h2, h3⟩ := hh
      exact ⟨b, arr, clock, h1, h2, h3.frz hfz⟩
    | mr kd es left cur =>
      obtain ⟨b, arr, clock, seen, h1, h2, h3, h4, h5⟩ := hh
      exact ⟨b, arr, clock, seen, h1, h2, h3, h4.frz hfz, h5⟩
    | itr m => exact hh
    | me kd es k st =>
      obtain ⟨h0, b, arr, clock, h1, h2, h3, h4⟩ := hh
      exact ⟨h0, b, arr, clock, h1, h2, h3.frz hfz, h4⟩
    | ab A => exact A.mono _ _ _ _ _ hro hh
    | mre kd es left cur k st =>
      obtain ⟨h0, b, arr, clock, seen, h1, h2, h3, h4, h5⟩ := hh
      exact ⟨h0, b, arr, clock, seen, h1, h2, h3, h4.frz hfz, h5⟩
  · rw [hbl, blks_append]
    exact List.nodup_append.2 ⟨n1.1, n2.2.1, fun b hb c hc e => n1.2.2 b hb c (by simp [hc]) e⟩
  · rw [hbl] at hb
    show (if _ then _ else _) = _
    rw [if_neg (hnin b hb)]
    exact hs.sat.free b (hin b hb)
  · obtain ⟨y, hy, rfl⟩ := frzH_mem hx
    rw [e2] at hy
    refine hs.sat.ids y ?_
    rw [e1]
    rcases List.mem_append.1 hy with h1 | h1 <;> simp [h1]
  · refine ⟨hfr.os, hfr.tape, hfr.output, hfr.size, hfr.keep, fun b hb => ?_, fun b h1 h2 => ?_, hfr.le.trans hle⟩
    · rw [hbl] at hb
      exact hfr.own b (hin b hb)
    · have h2' : (if (H.sv id).ownBlock = some b then w.heap[b]? else H.ro b) ≠ none := h2
      split at h2'
      · rename_i hb
        exact hfr.own b (List.mem_flatMap.2 ⟨_, hmem, by simp [blocks, hb]⟩)
      · exact hfr.fro b h1 h2'
  · rw [frzE_look] at hlk
    cases hc : look s.ρ t with
    | none => rw [hc] at hlk; cases hlk
    | some x => rw [hc] at hlk; simp at hlk; subst hlk; exact hfz (ha.env t x hc)
theorem RA.freeze {ops : List Oper} {k : List It} {σs : Heap} {ρq : Env} {fuel : Nat} {listed : List Bool} {s : St} (id : Nat) {ty sz : Nat} {rows : List (List GV)} (hl : hlook s.σ id = some (.row ty sz rows))
    (h : nfH (frzH id sz rows (hdel s.σ id)) fun σ => nfE (frzE id sz rows s.ρ) fun ρ => RA cx T ops k σs ρq fuel listed ⟨ρ, σ, s.n⟩) : RA cx T ops k σs ρq fuel listed s := by
  rw [nfH_eq, nfE_eq] at h
  intro n0 H0 S0 w0 h0 g0 hσ hap hfree hlink H a w hs ha hq
  have hg : GlOk cx.pg H := cx.g0.mono (hlink H s w hs).fr.le
  obtain ⟨ro', _, hs', ha'⟩ := Sim.freeze (cx := ⟨cx.pg, cx.N, n0, H0, S0, w0, h0, g0⟩) id hl hg hs ⟨ha.env, ha.size, ha.defers⟩
  exact h n0 H0 S0 w0 h0 g0 hσ hap hfree hlink { H with ro := ro' } a w hs' ⟨ha'.env, ha'.size, ha'.defers⟩ hq
end
end Go.GK
/-
  The ghost machine: a region that draws its order: three operations may come up at once.
-/
namespace Go.GK
open Go.RowKit
section
variable {cx : Cx} {T : Post}
end
end Go.GK
/-
  The ghost machine: cells of an own block that are told otherwise (a nil slice as an empty one).
-/
namespace Go.GK
open Go.RowKit
inductive SubV : List GV → List GV → Prop
  | nil : SubV [] []
  | cons {x y : GV} {xs ys : List GV} (h : Sub x y) (t : SubV xs ys) : SubV (x :: xs) (y :: ys)
theorem SubV.is {H : Hid} {F : Nat → Value} : ∀ {xs ys : List GV}, SubV xs ys → (∀ j g, ys[j]? = some g → Is H g (F j)) → xs.length = ys.length ∧ ∀ j g, xs[j]? = some g → Is H g (F j)
  | [], [], _, _ => ⟨_root_.rfl, fun j x h => by simp at h⟩
  | _ :: _, _ :: _, .cons h t, hF => by
    obtain ⟨h1, h2⟩ := SubV.is (F := fun j => F (j + 1)) t fun j g hj => hF (j + 1) g (by simpa using hj)
    refine ⟨by simp [h1], fun j x hx => ?_⟩
    cases j with
    | zero => simp at hx; subst hx; exact h (hF 0 _ (by simp))
    | succ j => exact h2 j x (by simpa using hx)
section
variable {cx : Cx} {T : Post}
theorem JK.subBlk {k : List It} {s : St} (id : Nat) {ty : Nat} {cs : List GV} (cs' : List GV) (hl : hlook s.σ id = some (.blk ty cs)) (he : SubV cs' cs) (h : nfH (hset s.σ id (.blk ty cs')) fun σ => JK cx T k ⟨s.ρ, σ, s.n⟩) : JK cx T k s := by
  rw [nfH_eq] at h
  refine JK.upd ⟨s.ρ, hset s.σ id (.blk ty cs'), s.n⟩ (fun H a w hg hs ha => ⟨H, hg, ?_, ha⟩) h
  obtain ⟨us', hw, hlen, his⟩ := hs.sat.holds _ (hlook_mem hl)
  obtain ⟨e4, e5⟩ := he.is (F := fun j => us'.getD j undef) his
  exact hs.put (y := .blk ty cs') (w' := w) hl rfl rfl rfl rfl (Nat.le_refl _) (fun _ _ _ => rfl) ⟨us', hw, by rw [e4]; exact hlen, e5⟩ s.ρ
theorem Stp.hf {ops : List Oper} {k : List It} {σs : Heap} {ρq : Env} {fuel : Nat} {listed : List Bool} {s : St} (i : Nat) {o : Oper} {f : FuncId} {m : Nat} {cargs gs : List GV} {σc : Heap} {Q : GV → Heap → Nat → Prop} (hr : Hf cx.pg f m cargs σc Q) (r : Nat → Nat) (hi : ops[i]? = some o) (hk : callG cx.pg ops s.ρ o = some (f, gs)) (hargs : gs = renL r cargs) (hσ : leσ r σc s.σ)
    (chk : (idbL m cargs && idbH m σc && distB (hids r σc)) = true) (hrn : ∀ i, i < m → r i < s.n)
    (h : ∀ g σ' n', Q g σ' n' → nf (ren (sh r m s.n) g) fun g => nfH (renH (sh r m s.n) σ' ++ hrest (hids r σc) s.σ) fun σ => nfN (s.n + (n' - m)) fun n => dputV cx.N s.ρ o.dst g fun ρ' => nfE (qput ρq o.dst g) fun ρq => RA cx T ops k σs ρq fuel (listed.set i true) ⟨ρ', σ, n⟩) : Stp cx T ops k σs ρq fuel listed s i o := by
  obtain ⟨fo, args, ts, first, caps, gs', ho', hgd, hf, he, hargs'⟩ := callG_spec hk
  refine ⟨hi, hgd, fun m0 H0 S0 w0 h0 g0 H a w K Q' hg hs ha _ hK => ?_⟩
  refine call_wp (cx := ⟨cx.pg, cx.N, m0, H0, S0, w0, h0, g0⟩) hr.ct hr.call r ho' hf he (hargs'.trans hargs) (σc := σc) hσ chk hrn hg hs ha.env fun H'' u g σ' n' w' hle hiu hQ hsim => ?_
  have h := h g σ' n' hQ
  simp only [nf_eq, nfH_eq, nfN_eq] at h
  rw [dputV_eq] at h
  simp only [nfE_eq] at h
  have hlt := dput_lt h
  obtain ⟨ρ', ha', hra⟩ := (ha.mono hle).dput hiu h
  exact hK H'' u _ w' ⟨ρ', _, _⟩ ρ' hle hiu (hsim ρ') ha' hlt hra
end
end Go.GK
/-
  The ghost machine: own maps of own things, in a number that is not fixed: one is taken out, and given back; all are written no more.
-/
namespace Go.GK
open Go.RowKit

structure Fam (α : Type) where
  D : α → List Nat → Abs
  fpE : ∀ a f, (D a f).fp = f
  ow : ∀ a f ro b v w, (D a f).P ro b v w → GK.ow v = true
section
variable {α : Type} {F : Fam α} {ro ro' : Nat → Option Obj} {w w' : World}
end
abbrev kv {α : Type} (x : Value × α × Value) : Value × Value := (x.1, x.2.2)
abbrev mE {α : Type} (l : List (Value × α × Value)) : List (Value × GV) := l.map fun x => (x.1, GV.v x.2.2)
section
variable {cx : Cx} {T : Post} {k : List It} {s : St}
theorem Sim.swap {H : Hid} {w : World} (hs : Sim cx H s w) (H' : Hid) (hle : H.le H') (hro : H'.ro = H.ro) {old keep : Heap} (new : Heap) (hp : s.σ.Perm (old ++ keep)) (hh : ∀ x ∈ new, holds H' w x) (hid : ∀ x ∈ new, x.1 < H'.n) (hb : (blks H' new).Perm (blks H old)) (ρ' : Env) : Sim cx H' ⟨ρ', new ++ keep, H'.n⟩ w := by
  have hk : ∀ x ∈ keep, x ∈ s.σ := fun x hx => hp.mem_iff.2 (by simp [hx])
  have hkb : blks H' keep = blks H keep := blks_le hle fun x hx => hs.sat.ids x (hk x hx)
  have hall : (blks H' (new ++ keep)).Perm (blks H s.σ) := by
    rw [blks_append, hkb]
    refine (hb.append_right _).trans ?_
    rw [← blks_append]
    exact (List.Perm.flatMap_right (blocks H) hp).symm
  refine ⟨rfl, ⟨?_, fun x hx => ?_, hall.nodup_iff.2 hs.sat.nodup, fun b hb => ?_, fun x hx => ?_⟩, ?_⟩
  · rw [hro]; exact hs.sat.ro
  · rcases List.mem_append.1 hx with hx | hx
    · exact hh x hx
    · exact holds_le hle (hs.sat.ids x (hk x hx)) (hs.sat.holds x (hk x hx))
  · rw [hro]; exact hs.sat.free b (hall.mem_iff.1 hb)
  · rcases List.mem_append.1 hx with hx | hx
    · exact hid x hx
    · exact Nat.lt_of_lt_of_le (hs.sat.ids x (hk x hx)) hle.n
  · have hf := hs.fr
    exact ⟨hf.os, hf.tape, hf.output, hf.size, hf.keep, fun c hc => hf.own c (hall.mem_iff.1 hc), fun b h1 h2 => hf.fro b h1 (by rw [hro] at h2; exact h2), hf.le.trans hle⟩
def Hid.plus (H : Hid) (n : Nat) (bl : Nat → Nat) (sv : Nat → Value) : Hid := ⟨H.ro, fun i => if i < H.n then H.bl i else bl (i - H.n), fun i => if i < H.n then H.sv i else sv (i - H.n), H.n + n⟩
theorem Hid.plus_le (H : Hid) (n : Nat) (bl : Nat → Nat) (sv : Nat → Value) : H.le (H.plus n bl sv) := ⟨by show H.n ≤ H.n + n; omega, fun _ _ h => h, fun i hi => if_pos hi, fun i hi => if_pos hi⟩
end
end Go.GK
/-
  The ghost machine: own maps of own maps of own rows; all of them written no more.
-/
namespace Go.GK
open Go.RowKit

section
variable {cx : Cx} {T : Post} {k : List It} {s : St}
end
end Go.GK
/-
  The ghost machine: maps whose entries lie as they lie: what is found, and put.
-/
namespace Go.GK
open Go.RowKit
theorem vkey_str {a b : ByteArray} : vkey (.string a) (.string b) = true ↔ a = b := by
  constructor
  · intro h
    have := vkey_eq (kd := none) rfl rfl h
    injection this
  · rintro rfl
    exact vkey_refl (kd := none) rfl
theorem vkey_no {a b : ByteArray} (h : a ≠ b) : vkey (.string a) (.string b) = false := by
  cases hv : vkey (.string a) (.string b) with
  | false => rfl
  | true => exact absurd (vkey_str.1 hv) h
theorem mfind_skip {k : Value} {b : List (Value × GV)} : ∀ {a : List (Value × GV)}, (∀ y ∈ a, vkey k y.1 = false) → mfind k (a ++ b) = mfind k b
  | [], _ => rfl
  | (k', g) :: r, h => by
    show mfind k ((k', g) :: (r ++ b)) = _
    rw [mfind, if_neg (by rw [h (k', g) (by simp)]; decide), mfind_skip (a := r) fun y hy => h y (by simp [hy])]
section
variable {α : Type} {s : ByteArray} {m m1 m2 : List (Value × α × Value)} {g g' : GV}
def NoKey {α : Type} (s : ByteArray) (m : List (Value × α × Value)) : Prop := ∀ x ∈ m, ∃ t, x.1 = .string t ∧ s ≠ t
theorem NoKey.vk (h : NoKey s m) : ∀ y ∈ mE m, vkey (.string s) y.1 = false := fun y hy => by
  obtain ⟨x, hx, rfl⟩ := List.mem_map.1 hy
  obtain ⟨t, e, hn⟩ := h x hx
  show vkey _ x.1 = false
  rw [e]
  exact vkey_no hn
theorem find_no (h : NoKey s m) : mfind (.string s) (mE m) = none := by
  have := mfind_skip (b := []) h.vk
  rw [List.append_nil] at this
  rw [this]
  rfl
end
section
variable {cx : Cx} {T : Post} {k : List It} {s : St}
end
end Go.GK
/-
  The ghost machine: functions that may throw: contracts, calls, the throw itself; a piece of code that does not.
-/
namespace Go.GK
open Go.RowKit

def panA (v : Value) (g : GV) : Abs where
  P := fun ro _ _ _ => IsR ro g v
  fp := []
  ex := fun _ _ _ _ _ c hc => by cases hc
  congr := fun _ _ _ _ _ _ h => h
  mono := fun _ _ _ _ _ hro h => h.mono hro
abbrev thrown (v : Value) : Exit := .panic [{ v := v, recovered := false }]
theorem isR_of {H : Hid} {g : GV} {u : Value} (h : Is H g u) : idb 0 g = true → IsR H.ro g u := by
  have hget : ∀ {cs : List GV} {j : Nat} {g : GV}, idbL 0 cs = true → cs[j]? = some g → idb 0 g = true := by
    intro cs
    induction cs with
    | nil => intro j g _ hj; simp at hj
    | cons x r ih =>
      intro j g hb hj
      simp only [idbL, Bool.and_eq_true] at hb
      cases j with
      | zero => simp at hj; subst hj; exact hb.1
      | succ j => exact ih hb.2 (by simpa using hj)
  induction h with
  | ro h => exact fun _ => h
  | p h => intro hb; simp [idb] at hb
  | e h hs => intro hb; simp [idb] at hb
  | o h hs h1 => intro hb; simp [idb] at hb
  | agg hl h ih => intro hb; simp only [idb] at hb; exact .agg hl fun j g hj => ih j g hj (hget hb hj)
  | tup hl h ih => intro hb; simp only [idb] at hb; exact .tup hl fun j g hj => ih j g hj (hget hb hj)
  | fn hl h hl' h' ih ih' => intro hb; simp only [idb, Bool.and_eq_true] at hb; exact .fn hl (fun j g hj => ih j g hj (hget hb.1 hj)) hl' fun j g hj => ih' j g hj (hget hb.2 hj)
  | ifc h ih => intro hb; simp only [idb] at hb; exact .ifc (ih hb)

def Ctp (p : Pg) (f : FuncId) (n0 : Nat) (args : List GV) (σ : Heap) (Q : GV → Heap → Nat → Prop) (R : GV → Prop) : Prop :=
  ∀ H us w, H.n = n0 → GlOk p H → Cells H args us → Sat H σ w → Calls p.P f us w fun e w' =>
    (∃ u g H' σ', e = .returned u ∧ Is H' g u ∧ Sat H' σ' w' ∧ Fr H (blks H σ) w H' (blks H' σ') w' ∧ Q g σ' H'.n) ∨
    (∃ v g H', e = .panicked [{ v := v, recovered := false }] ∧ Is H' g v ∧ Sat H' [] w' ∧ Fr H (blks H σ) w H' [] w' ∧ R g ∧ idb 0 g = true)
structure Hx (p : Pg) (f : FuncId) (n0 : Nat) (args : List GV) (σ : Heap) (Q : GV → Heap → Nat → Prop) (R : GV → Prop) : Prop where
  call : ∀ aas w, (callFunc f aas).run p.P w = .ok (.enter f aas) w
  ct : Ctp p f n0 args σ Q R
theorem Hf.x {p : Pg} {f : FuncId} {n0 : Nat} {args : List GV} {σ : Heap} {Q : GV → Heap → Nat → Prop} {R : GV → Prop} (h : Hf p f n0 args σ Q) : Hx p f n0 args σ Q R :=
  ⟨h.call, fun H us w a b c d => (h.ct H us w a b c d).mono fun _ _ h => .inl h⟩
def retX (p : Pg) (rs : List ResultVar) (Q : GV → Heap → Nat → Prop) (R : GV → Prop) : Post := fun e s =>
  match e with
  | .panic ch => ∃ v g X, ch = [{ v := v, recovered := false }] ∧ hlook s.σ X = some (.ab (panA v g)) ∧ R g ∧ idb 0 g = true
  | .ret | .normal => (match resAll p s rs with | some gs => Q (resG gs) s.σ s.n | none => False)
  | _ => False
theorem Hx.ofJ {p : Pg} {f : FuncId} {fn : Func} {c : Code} {n0 N : Nat} {args : List GV} {σ : Heap} {Q : GV → Heap → Nat → Prop} {R : GV → Prop} (hp : p.Ok) (hf : p.P.funcs[f]? = some fn) (hb : fn.body = some c) (hN : fn.ntmps = N) (hl : Nat.ble args.length N = true) {rs : Array ResultVar} (hr : fn.results = rs)
    (hc : ∀ aas w, (callFunc f aas).run p.P w = .ok (.enter f aas) w)
    (h : ∀ (H0 : Hid) (S0 : List Nat) (w0 : World) (h0 : H0.n = n0) (g0 : GlOk p H0), JK ⟨p, N, n0, H0, S0, w0, h0, g0⟩ (retX p rs.toList Q R) [.code c] ⟨argEnv 0 args, σ, n0⟩) : Hx p f n0 args σ Q R := by
  refine ⟨hc, fun H us w hn hg hcs hs => ?_⟩
  have hl' := Nat.le_of_ble_eq_true hl
  have hus : us.size = args.length := hcs.1.symm
  refine calls_of_wp hf hb ?_
  have hJ := h H (blks H σ) w hn hg H { tmps := us ++ Array.replicate (fn.ntmps - us.size) undef, defers := [] } w hg ⟨hn, hs, Fr.refl _ _ _⟩ ⟨fun t g hlk => ?_, by simp [hN, hus]; omega, rfl⟩
  · refine Code.wp_mono (fun e a w' hq => ?_) hJ
    obtain ⟨H', s', hs', ha', hT⟩ := hq
    have key : (match resAll p s' rs.toList with | some gs => Q (resG gs) s'.σ s'.n | none => False) → a.defers = [] ∧ ∃ v, (results fn a.tmps).run p.P w' = .ok v w' ∧ ((∃ u g H' σ', Ending.returned v = .returned u ∧ Is H' g u ∧ Sat H' σ' w' ∧ Fr H (blks H σ) w H' (blks H' σ') w' ∧ Q g σ' H'.n) ∨ (∃ v' g H', Ending.returned v = .panicked [{ v := v', recovered := false }] ∧ Is H' g v' ∧ Sat H' [] w' ∧ Fr H (blks H σ) w H' [] w' ∧ R g ∧ idb 0 g = true)) := by
      intro hk
      cases hra : resAll p s' rs.toList with
      | none => rw [hra] at hk; exact hk.elim
      | some gs =>
        rw [hra] at hk
        obtain ⟨vs, hvs, hcv⟩ := resAll_run hp hs'.sat ha'.env hra
        have hvs : (rs.toList.mapM (fun | .tmp t => pure (a.tmps.getD t undef) | .cell c t => do loadVar t (← asAddr (a.tmps.getD c undef)) : ResultVar → Sem Value)).run p.P w' = .ok vs w' := hvs
        refine ⟨ha'.defers, _, ?_, .inl ⟨(if h : vs.toArray.size = 1 then vs.toArray[0] else .tuple vs.toArray), resG gs, H', s'.σ, rfl, ?_, hs'.sat, hs'.fr, by rw [hs'.n]; exact hk⟩⟩
        · have : (fn.results.mapM (fun | .tmp t => pure (a.tmps.getD t undef) | .cell c t => do loadVar t (← asAddr (a.tmps.getD c undef)) : ResultVar → Sem Value)).run p.P w' = .ok vs.toArray w' := by
            rw [hr, Array.mapM_eq_mapM_toList, Sem.run_map, hvs]
            rfl
          have e : results fn a.tmps = (fn.results.mapM (fun | .tmp t => pure (a.tmps.getD t undef) | .cell c t => do loadVar t (← asAddr (a.tmps.getD c undef)) : ResultVar → Sem Value) >>= fun vs => pure (if h : vs.size = 1 then vs[0] else .tuple vs)) := rfl
          rw [e, Sem.run_bind, this]
          rfl
        · have hlen := hcv.1
          simp at hlen
          by_cases h1 : vs.toArray.size = 1
          · rw [dif_pos h1]
            match gs, hcv, hlen with
            | [g], hcv, _ =>
              have := hcv.2 0 g rfl
              simp at h1
              match vs, h1 with
              | [v], _ => simpa [resG] using this
            | [], _, hlen => simp at h1 hlen; omega
            | _ :: _ :: _, _, hlen => simp at h1 hlen; omega
          · rw [dif_neg h1]
            match gs, hcv, hlen with
            | [g], hcv, hlen => simp at h1 hlen; omega
            | [], hcv, _ => exact .tup hcv.1 hcv.2
            | _ :: _ :: _, hcv, _ => exact .tup hcv.1 hcv.2
    cases e with
    | normal => exact key hT
    | ret => exact key hT
    | exit id => exact hT.elim
    | goto l => exact hT.elim
    | panic ch =>
      obtain ⟨v, g, X, rfl, hX, hR, hid⟩ := hT
      have hv : IsR H'.ro g v := hs'.sat.holds _ (hlook_mem hX)
      have hfr := hs'.fr
      exact ⟨ha'.defers, .inr ⟨v, g, H', rfl, .ro hv, ⟨hs'.sat.ro, by simp, by simp [blks], by simp [blks], by simp⟩, ⟨hfr.os, hfr.tape, hfr.output, hfr.size, hfr.keep, by simp, hfr.fro, hfr.le⟩, hR, hid⟩⟩
    | outgrown => exact hT.elim
  · obtain ⟨h1, h2⟩ := argEnv_look (H := H) (us := us) (args := args) (i := 0) (fun j g hj => by simpa using hcs.2 j g hj) t g hlk
    have : (us ++ Array.replicate (fn.ntmps - us.size) undef).getD t undef = us.getD t undef := by
      have hlt : t < us.size := by omega
      simp only [Array.getD_eq_getD_getElem?]
      rw [Array.getElem?_append_left hlt]
    rw [this]
    exact h1
section
variable {cx : Cx} {T : Post}
theorem post_thrown {s : St} {H : Hid} {a : Act} {w : World} (hs : Sim cx H s w) (ha : ActOk cx H s.ρ a) {v : Value} {g : GV} (hv : IsR H.ro g v) (hT : T (thrown v) ⟨s.ρ, (s.n, .ab (panA v g)) :: s.σ, s.n + 1⟩) : post cx T (thrown v) a w := by
  have hle := H.plus_le 1 (fun _ => 0) (fun _ => undef)
  have hn := hs.n
  have hnn : (H.plus 1 (fun _ => 0) (fun _ => undef)).n = s.n + 1 := by rw [← hn]; rfl
  have hrr : (H.plus 1 (fun _ => 0) (fun _ => undef)).ro = H.ro := rfl
  generalize H.plus 1 (fun _ => 0) (fun _ => undef) = H' at hle hnn hrr
  have hsw := Sim.swap hs H' hle hrr [(s.n, .ab (panA v g))] (old := []) (.refl _) (fun x hx => by
    rw [List.mem_singleton.1 hx]
    show IsR H'.ro g v
    rw [hrr]
    exact hv) (fun x hx => by
    rw [List.mem_singleton.1 hx]
    show s.n < H'.n
    omega) (.refl _) s.ρ
  rw [hnn] at hsw
  exact ⟨H', _, hsw, ha.mono hle, hT⟩
theorem JK.throw {all : List Oper} {o : Oper} {rest : List Oper} {k : List It} {s : St} {x : Operand} {t : TypeId} {g : GV} (ho : o.op = .panic x) (hgd : gdOk all s.ρ o.guard = true) (hx : ev cx.pg s.ρ x = some (.ifc t g)) (hb : idb 0 g = true)
    (hT : ∀ v X σ n, hlook σ X = some (.ab (panA v (.ifc t g))) → T (thrown v) ⟨s.ρ, σ, n⟩) : JK cx T (.ops false all (o :: rest) :: k) s := by
  intro H a w hg hs ha
  have hw := gdOk_wanted (o := o) ha.env hgd
  have hu0 := ev_is hg ha.env hx
  obtain ⟨u, hu, hi⟩ := hu0.inv_ifc
  have hr : IsR H.ro (.ifc t g) (.iface t u) := .ifc (isR_of hi hb)
  show wpList _ _ _ _ _ _
  unfold wpList
  rw [if_pos hw]
  refine .inl ?_
  unfold Oper.wp
  have hrun : (execOp a.eval o).run cx.pg.P w = .halt (.panic (.iface t u)) w := by
    simp only [execOp, ho, hu, Instr.panic]
    rfl
  rw [hrun, Oper.upon_panic, cont_panic]
  exact post_thrown hs ha hr (hT _ s.n _ _ (by unfold hlook; rw [Nat.beq_refl]; rfl))
theorem JK.callX {all : List Oper} {o : Oper} {rest : List Oper} {k : List It} {s : St} {f : FuncId} {m : Nat} {cargs gs : List GV} {σc : Heap} {Q : GV → Heap → Nat → Prop} {R : GV → Prop} (hr : Hx cx.pg f m cargs σc Q R) (r : Nat → Nat) (hk : callG cx.pg all s.ρ o = some (f, gs)) (hargs : gs = renL r cargs) (hσ : leσ r σc s.σ)
    (chk : (idbL m cargs && idbH m σc && distB (hids r σc)) = true) (hrn : ∀ i, i < m → r i < s.n)
    (hT : ∀ g v X σ n, R g → idb 0 g = true → hlook σ X = some (.ab (panA v g)) → T (thrown v) ⟨s.ρ, σ, n⟩)
    (h : ∀ g σ' n', Q g σ' n' → nf (ren (sh r m s.n) g) fun g => nfH (renH (sh r m s.n) σ' ++ hrest (hids r σc) s.σ) fun σ => nfN (s.n + (n' - m)) fun n => dputV cx.N s.ρ o.dst g fun ρ' => JK cx T (.ops false all rest :: k) ⟨ρ', σ, n⟩) :
    JK cx T (.ops false all (o :: rest) :: k) s := by
  obtain ⟨fo, args, ts, first, caps, gs', ho, hgd, hf, he, hargs'⟩ := callG_spec hk
  intro H a w hg hs ha
  have hw := gdOk_wanted (o := o) ha.env hgd
  show wpList _ _ _ _ _ _
  unfold wpList
  rw [if_pos hw]
  refine .inl ?_
  simp only [Bool.and_eq_true] at chk
  obtain ⟨⟨h1, h2⟩, h3⟩ := chk
  obtain ⟨us, hc, hex⟩ := execOp_call (ts := ts) hg ha.env hf he hr.call
  rw [hargs', hargs] at hc
  have hpart := (hs.sat.part hσ h2 h3).1
  have hC := hr.ct (H.via r m) us w rfl hg.re (cells_back hc h1) hpart
  unfold Oper.wp
  rw [hex o ho w, Oper.upon_enter]
  refine hC.mono ?_
  rintro e w' (⟨u, g, H', σ', rfl, hi, hs', hfr, hQ⟩ | ⟨v, g, H', rfl, hi, hs', hfr, hR, hid⟩)
  · obtain ⟨H'', hle, hren, hsim⟩ := hs.call hσ h2 h3 hrn hs' hfr s.ρ
    have hd := h g σ' H'.n hQ
    simp only [nf_eq, nfH_eq, nfN_eq, dputV_eq] at hd
    obtain ⟨ρ', ha', hJ⟩ := (ha.mono hle).dput (hren g u hi) hd
    exact hJ H'' (a.put o.dst u) w' (hg.mono hle) (hsim.ρ ρ') ha'
  · obtain ⟨H'', hle, hren, hsim⟩ := hs.call hσ h2 h3 hrn hs' hfr s.ρ
    have hg2 := hren g v hi
    rw [ren_none _ hid] at hg2
    show cont cx.pg.P (post cx T) _ (thrown v) a w'
    rw [cont_panic]
    exact post_thrown hsim (ha.mono hle) (isR_of hg2 hid) (hT g v _ _ _ hR hid (by unfold hlook; rw [Nat.beq_refl]; rfl))
end
end Go.GK
/-
  The ghost machine: regions that draw, with calls that may throw; contracts that throw, told otherwise; slices of arrays that are only read.
-/
namespace Go.GK
open Go.RowKit
theorem Act.put_size' (a : Act) (d : Option Nat) (v : Value) : (a.put d v).tmps.size = a.tmps.size := by cases d <;> simp [Act.put]
theorem Act.put_defers' (a : Act) (d : Option Nat) (v : Value) : (a.put d v).defers = a.defers := by cases d <;> simp [Act.put]
theorem Hx.weak {p : Pg} {f : FuncId} {n0 : Nat} {args : List GV} {σ : Heap} {Q Q' : GV → Heap → Nat → Prop} {R R' : GV → Prop} (h : Hx p f n0 args σ Q R) (hR : ∀ g, R g → R' g)
    (hQ : ∀ g σ' n', Q g σ' n' → ∃ (r : Nat → Nat) (g0 : GV) (τ : Heap) (m : Nat), Q' g0 τ m ∧ g = ren r g0 ∧ leσ r τ σ' ∧ (idb m g0 && idbH m τ && distB (hids r τ) && fixB r n0 && Nat.ble n0 m) = true) : Hx p f n0 args σ Q' R' := by
  refine ⟨h.call, fun H us w hn hg hc hs => ?_⟩
  refine Calls.mono (h.ct H us w hn hg hc hs) (fun e w' he => ?_)
  rcases he with ⟨u, g, H', σ', rfl, hi, hs', hfr, hq⟩ | ⟨v, g, H', rfl, hi, hs', hfr, hr, hb⟩
  · obtain ⟨r, g0, τ, m, hq', rfl, hl, hchk⟩ := hQ g σ' _ hq
    obtain ⟨h1, h2, h3, h4, h5⟩ := and5 hchk
    obtain ⟨hsat, hbl⟩ := hs'.part hl h2 h3
    have hfix := fixB_fix h4
    have hm := Nat.le_of_ble_eq_true h5
    refine .inl ⟨u, g0, H'.via r m, τ, rfl, ren_back hi h1, hsat, ?_, hq'⟩
    refine ⟨hfr.os, hfr.tape, hfr.output, hfr.size, hfr.keep, fun b hb => ?_, hfr.fro, ⟨by rw [hn]; exact hm, hfr.le.ro, fun i hi => ?_, fun i hi => ?_⟩⟩
    · obtain ⟨x, hx, _, hbx⟩ := hbl b hb
      exact hfr.own b (List.mem_flatMap.2 ⟨x, hx, hbx⟩)
    · show H'.bl (r i) = _
      rw [hfix i (by omega)]
      exact hfr.le.bl i hi
    · show H'.sv (r i) = _
      rw [hfix i (by omega)]
      exact hfr.le.sv i hi
  · exact .inr ⟨v, g, H', rfl, hi, hs', hfr, hR g hr, hb⟩
theorem Hx.imp {p : Pg} {f : FuncId} {n0 : Nat} {args : List GV} {σ : Heap} {Q Q' : GV → Heap → Nat → Prop} {R R' : GV → Prop} (h : Hx p f n0 args σ Q R) (hR : ∀ g, R g → R' g) (hQ : ∀ g σ' n', Q g σ' n' → Q' g σ' n') : Hx p f n0 args σ Q' R' := by
  refine ⟨h.call, fun H us w hn hg hc hs => ?_⟩
  refine Calls.mono (h.ct H us w hn hg hc hs) (fun e w' he => ?_)
  rcases he with ⟨u, g, H', σ', rfl, hi, hs', hfr, hq⟩ | ⟨v, g, H', rfl, hi, hs', hfr, hr, hb⟩
  · exact .inl ⟨u, g, H', σ', rfl, hi, hs', hfr, hQ _ _ _ hq⟩
  · exact .inr ⟨v, g, H', rfl, hi, hs', hfr, hR g hr, hb⟩
theorem Hx.hf {p : Pg} {f : FuncId} {n0 : Nat} {args : List GV} {σ : Heap} {Q : GV → Heap → Nat → Prop} (h : Hx p f n0 args σ Q fun _ => False) : Hf p f n0 args σ Q := by
  refine ⟨h.call, fun H us w hn hg hc hs => ?_⟩
  refine Calls.mono (h.ct H us w hn hg hc hs) (fun e w' he => ?_)
  rcases he with h | ⟨v, g, H', rfl, hi, hs', hfr, hr, hb⟩
  · exact h
  · exact hr.elim
theorem Hx.eqG {p : Pg} {f : FuncId} {n0 : Nat} {args : List GV} {σ : Heap} {g : GV} {Q : Heap → Nat → Prop} {R : GV → Prop} (h : Hx p f n0 args σ (fun g' σ' n' => GK.eqG g g' ∧ Q σ' n') R) : Hx p f n0 args σ (fun g' σ' n' => g' = g ∧ Q σ' n') R := by
  refine ⟨h.call, fun H us w hn hg hc hs => ?_⟩
  refine Calls.mono (h.ct H us w hn hg hc hs) (fun e w' he => ?_)
  rcases he with ⟨u, g', H', σ', rfl, hi, hs', hfr, he, hR⟩ | h
  · exact .inl ⟨u, g, H', σ', rfl, eqG_is he hi, hs', hfr, rfl, hR⟩
  · exact .inr h
section
variable {cx : Cx} {T : Post}
theorem RA.takeX {ops : List Oper} {k : List It} {σs : Heap} {ρq : Env} {fuel : Nat} {listed : List Bool} {s : St} (i : Nat) {o : Oper} (hp : cx.pg.Ok) (hi : ops[i]? = some o) (hsel : Region.noSelect ops.toArray = true) (hf : Region.free .any ops.toArray listed.toArray i = true)
    (hr : (Region.ready .any ops.toArray listed.toArray).contains i = true) (hT : ∀ ch ρ σ n, T (.panic ch) ⟨ρ, σ, n⟩ → T (.panic ch) ⟨[], σ, n⟩)
    {N : Env → St → Prop} (hN : ∀ ρq s', N ρq s' → RA cx T ops k σs ρq fuel (listed.set i true) s')
    (h : guardVC ops ρq o.guard (fun ρq' => pv cx.pg ρq' σs o.op fun g => dput cx.N s.ρ o.dst g fun ρ' => N (eput ρq' o.dst g) { s with ρ := ρ' })
      (fun ρq' => dput cx.N s.ρ o.dst (.v undef) fun ρ' => N (eput ρq' o.dst (.v undef)) { s with ρ := ρ' })) : RA cx T ops k σs ρq (fuel + 1) listed s := by
  intro n0 H0 S0 w0 h0 g0 hσ hap hfree hlink H a w hs ha hq
  obtain ⟨hrs, hagr⟩ := readSat hσ hap hfree hs
  have hpan : ∀ c a w v, cont cx.pg.P (post cx T) k (.panic c) (a.put o.dst v) w → cont cx.pg.P (post cx T) k (.panic c) a w := fun c a w v hc => by
    rw [cont_panic] at hc ⊢
    obtain ⟨H', s', hs', ha', ht⟩ := hc
    obtain ⟨ρ', σ', n'⟩ := s'
    exact ⟨H', ⟨[], σ', n'⟩, hs'.ρ [], ⟨fun t g h => (by cases h), by have := ha'.size; simpa [Act.put_size'] using this, by have := ha'.defers; simpa [Act.put_defers'] using this⟩, hT c ρ' σ' n' ht⟩
  have hgo : ∀ ρq', EnvOk (H.at H0.ro) ρq' a → Region.wanted o (yielded ops.toArray a.tmps) = true → (pv cx.pg ρq' σs o.op fun g => dput cx.N s.ρ o.dst g fun ρ' => N (eput ρq' o.dst g) { s with ρ := ρ' }) →
      wpAnyH cx.pg.P .any ops.toArray (cont cx.pg.P (post cx T) k) (Held S0 w0) (fuel + 1) listed.toArray a w := by
    intro ρq' hq' hw hpv
    obtain ⟨u, g, hrun, hiu, hk⟩ := pv_sound hp (GlOk.at g0) hq' hrs hpv
    have hiu' : Is H g u := hiu.mono (show (H.at H0.ro).le H from ⟨Nat.le_refl _, fun b o ho => hs.fr.le.ro b o ho, fun _ _ => rfl, fun _ _ => rfl⟩)
    have hlt := dput_lt hk
    obtain ⟨ρ', ha', hra⟩ := ha.dput hiu' hk
    refine wpAnyH_take (by simpa using hi) hsel hf hr (fun c a w => hpan c a w u) (.inl ⟨hw, fun w' hh => hrun w' (hagr w' hh) o rfl⟩) hs.keeps ?_
    rw [set_list]
    refine hN _ _ hra n0 H0 S0 w0 h0 g0 hσ hap hfree hlink H (a.put o.dst u) w (hs.ρ ρ') ha' ?_
    exact EnvOk.at_eput hq' (fun d hd => by rw [ha.size]; exact hlt d hd) hiu
  have hskip : ∀ ρq', EnvOk (H.at H0.ro) ρq' a → Region.wanted o (yielded ops.toArray a.tmps) = false → (dput cx.N s.ρ o.dst (.v undef) fun ρ' => N (eput ρq' o.dst (.v undef)) { s with ρ := ρ' }) →
      wpAnyH cx.pg.P .any ops.toArray (cont cx.pg.P (post cx T) k) (Held S0 w0) (fuel + 1) listed.toArray a w := by
    intro ρq' hq' hw hk
    have hlt := dput_lt hk
    obtain ⟨ρ', ha', hra⟩ := ha.dput (u := undef) (.ro (.v undef)) hk
    refine wpAnyH_take (by simpa using hi) hsel hf hr (fun c a w => hpan c a w undef) (.inr ⟨hw, rfl⟩) hs.keeps ?_
    rw [set_list]
    refine hN _ _ hra n0 H0 S0 w0 h0 g0 hσ hap hfree hlink H (a.put o.dst undef) w (hs.ρ ρ') ha' ?_
    exact EnvOk.at_eput hq' (fun d hd => by rw [ha.size]; exact hlt d hd) (.ro (.v undef))
  unfold guardVC at h
  split at h
  · rename_i hgd
    exact hgo ρq hq (wanted_none hgd) h
  · rename_i j want hgd
    split at h
    · rename_i oj hj
      split at h
      · rename_i d hd
        split at h
        · rename_i t hl
          have hv := (hq d _ hl).inv_v
          have hw := wanted_at hgd hj hd hv
          cases hb : (t == want) with
          | true => rw [hb] at h hw; exact hgo ρq hq hw h
          | false => rw [hb] at h hw; exact hskip ρq hq hw h
        · rename_i t hl
          have hv := (hq d _ hl).inv_b
          have hw := wanted_at hgd hj hd hv
          have hput : ∀ c, t = c → EnvOk (H.at H0.ro) ((d, .v (.bool c)) :: ρq) a := by
            intro c hc x g hx
            unfold look at hx
            cases hb : Nat.beq d x with
            | true =>
              rw [hb] at hx
              simp at hx
              subst hx
              rw [← beq_eq hb, hv, hc]
              exact .ro (.v _)
            | false => rw [hb] at hx; exact hq x g (by simpa using hx)
          by_cases e : t = want
          · rw [e] at hw
            exact hgo _ (hput want e) (by simpa using hw) (h.1 e)
          · have e' : t = !want := by cases t <;> cases want <;> simp_all
            rw [e'] at hw
            exact hskip _ (hput _ e') (by simpa using hw) (h.2 e')
        · rename_i vs hl
          exact hskip ρq hq (wanted_not hgd hj hd (hq d _ hl).inv_v) h
        · exact h.elim
      · exact h.elim
    · exact h.elim

theorem RA.runX {ops : List Oper} {k : List It} {σs : Heap} {e : Bool} (hp : cx.pg.Ok) (hsel : Region.noSelect ops.toArray = true) (hT : ∀ ch ρ σ n, T (.panic ch) ⟨ρ, σ, n⟩ → T (.panic ch) ⟨[], σ, n⟩) : ∀ (order : List (Nat × Bool)) {fuel : Nat} {listed : List Bool} {ρq : Env} {s : St}, ordB ops e order listed = true → rvc cx T ops k σs e order fuel listed ρq s → RA cx T ops k σs ρq fuel listed s
  | [], fuel, listed, ρq, s, hB, h => by
    simp only [rvc] at h
    cases e with
    | true =>
      simp only [ordB, cond_true, List.isEmpty_iff] at hB
      simp only [cond_true, nfH_eq] at h
      exact RA.done hB h
    | false => exact h
  | (i, l) :: r, 0, _, _, _, _, h => by simp only [rvc] at h
  | (i, l) :: r, fuel + 1, listed, ρq, s, hB, h => by
    obtain ⟨ρ, σ, m⟩ := s
    simp only [rvc, nfE_eq, nf_eq] at h
    simp only [ordB] at hB
    cases hi : ops[i]? with
    | none => rw [hi] at h; exact h.elim
    | some o =>
      rw [hi] at h hB
      simp only [Bool.and_eq_true] at hB h
      obtain ⟨hB1, hB2⟩ := hB
      have ih : ∀ ρq' s', rvc cx T ops k σs e r fuel (listed.set i true) ρq' s' → RA cx T ops k σs ρq' fuel (listed.set i true) s' := fun ρq' s' h' => RA.runX hp hsel hT r hB2 h'
      cases hpu : (isPure o.op && !l) with
      | true =>
        rw [hpu] at h hB1
        simp only [cond_true, Bool.and_eq_true] at h hB1
        exact RA.takeX i hp hi hsel hB1.2 hB1.1 hT ih h
      | false =>
        rw [hpu] at h hB1
        simp only [cond_false] at h hB1
        cases hgd : gdOk ops ρ o.guard with
        | false =>
          rw [hgd] at h
          cases hgn : gdNo ops ρ o.guard with
          | false => rw [hgn] at h; exact h.elim
          | true =>
            rw [hgn] at h
            refine RA.skip i hi (eqB_eq hB1) hgn ?_
            revert h
            cases o.dst with
            | none => exact fun h => ih _ _ h
            | some d =>
              simp only [dput, cond_true, cond_false]
              cases Nat.blt d cx.N with
              | false => exact fun h => h
              | true => simp only [cond_true, nf_eq]; exact fun h => ih _ _ h
        | true =>
          rw [hgd] at h
          cases hpp : isPure o.op with
          | true =>
            rw [hpp] at h
            exact RA.read i hp hi (eqB_eq hB1) hgd ih h
          | false =>
            rw [hpp] at h
            exact RA.mem i hp hi (eqB_eq hB1) hgd hpp ih h
theorem RA.callX {ops : List Oper} {k : List It} {σs : Heap} {ρq : Env} {fuel : Nat} {listed : List Bool} {s : St} (i : Nat) {o : Oper} {f : FuncId} {m : Nat} {cargs gs : List GV} {σc : Heap} {Q : GV → Heap → Nat → Prop} {R : GV → Prop} (hr : Hx cx.pg f m cargs σc Q R) (r : Nat → Nat) (hi : ops[i]? = some o) (hrd : Region.ready .any ops.toArray listed.toArray = [i]) (hk : callG cx.pg ops s.ρ o = some (f, gs)) (hargs : gs = renL r cargs) (hσ : leσ r σc s.σ)
    (chk : (idbL m cargs && idbH m σc && distB (hids r σc)) = true) (hrn : ∀ i, i < m → r i < s.n)
    (hT : ∀ g v X σ n, R g → idb 0 g = true → hlook σ X = some (.ab (panA v g)) → T (thrown v) ⟨s.ρ, σ, n⟩)
    (h : ∀ g σ' n', Q g σ' n' → nf (ren (sh r m s.n) g) fun g => nfH (renH (sh r m s.n) σ' ++ hrest (hids r σc) s.σ) fun σ => nfN (s.n + (n' - m)) fun n => nfE (qput ρq o.dst g) fun ρq => dput cx.N s.ρ o.dst g fun ρ' => RA cx T ops k σs ρq fuel (listed.set i true) ⟨ρ', σ, n⟩) :
    RA cx T ops k σs ρq (fuel + 1) listed s := by
  obtain ⟨fo, args, ts, first, caps, gs', ho, hgd, hf, he, hargs'⟩ := callG_spec hk
  intro n0 H0 S0 w0 h0 g0 hσ' hap hfree hlink H a w hs ha hq
  have hg : GlOk cx.pg H := g0.mono hs.fr.le
  refine wpAnyH_all hrd (by simp) (fun j hj => ?_)
  have hji : j = i := by simpa using hj
  subst hji
  unfold wpOp
  have hi' : ops.toArray[j]? = some o := by simpa using hi
  rw [hi']
  simp only
  have hw := gdOk_wanted (o := o) ha.env hgd
  rw [if_pos hw]
  refine .inl ?_
  simp only [Bool.and_eq_true] at chk
  obtain ⟨⟨h1, h2⟩, h3⟩ := chk
  obtain ⟨us, hc, hex⟩ := execOp_call (ts := ts) hg ha.env hf he hr.call
  rw [hargs', hargs] at hc
  have hpart := (hs.sat.part hσ h2 h3).1
  have hC := hr.ct (H.via r m) us w rfl hg.re (cells_back hc h1) hpart
  unfold Oper.wp
  rw [hex o ho w, Oper.upon_enter]
  refine hC.mono ?_
  rintro e w' (⟨u, g, H', σ', rfl, hi, hs', hfr, hQ⟩ | ⟨v, g, H', rfl, hi, hs', hfr, hR, hid⟩)
  · obtain ⟨H'', hle, hren, hsim⟩ := hs.call hσ h2 h3 hrn hs' hfr s.ρ
    have hd := h g σ' H'.n hQ
    rw [nf_eq, nfH_eq, nfN_eq, nfE_eq] at hd
    have hlt := dput_lt hd
    obtain ⟨ρ', ha', hra⟩ := (ha.mono hle).dput (hren g u hi) hd
    rw [set_list]
    refine ⟨(hsim.ρ ρ').keeps, hra n0 H0 S0 w0 h0 g0 hσ' hap hfree hlink H'' (a.put o.dst u) w' (hsim.ρ ρ') ha' ?_⟩
    exact EnvOk.at_put (H := H) hq hle (fun d hdd => by rw [ha.size]; exact hlt d hdd) (hren g u hi)
  · obtain ⟨H'', hle, hren, hsim⟩ := hs.call hσ h2 h3 hrn hs' hfr s.ρ
    have hg2 := hren g v hi
    rw [ren_none _ hid] at hg2
    show cont cx.pg.P (post cx T) _ (thrown v) a w'
    rw [cont_panic]
    exact post_thrown (hlink H'' _ w' hsim) (ha.mono hle) (isR_of hg2 hid) (hT g v _ _ _ hR hid (by unfold hlook; rw [Nat.beq_refl]; rfl))
theorem JK.sliceArr {all : List Oper} {o : Oper} {rest : List Oper} {k : List It} {s : St} {t e n : Nat} {x : Operand} {ti tie : TI} {vs : List Value} (hp : cx.pg.Ok) (ho : o.op = .slice t x none none none) (hgd : gdOk all s.ρ o.guard = true) (ht : tget cx.pg.tt t = some ti) (htd : ti.d = .array n e) (hte : tget cx.pg.tt e = some tie) (hsz : tie.sz = 1) (hx : ev cx.pg s.ρ x = some (.r (vs.map .v))) (hn : vs.length = n) (hne : Nat.ble 1 n = true) (hm : Nat.ble n maxLen = true) (h1 : vs.all (·.oneCell') = true)
    (h : dput cx.N s.ρ o.dst (.sl 1 (vs.map fun v => [.v v])) fun ρ' => JK cx T (.ops false all rest :: k) ⟨ρ', s.σ, s.n⟩) : JK cx T (.ops false all (o :: rest) :: k) s := by
  intro H a w hg hs ha
  have hw := gdOk_wanted (o := o) ha.env hgd
  have hu : cx.pg.P.underlying t = some (.array n e) := by have := (hp.tt _ _ ht).d; rw [htd] at this; exact this
  have hes := (hp.tt _ _ hte).size
  obtain ⟨ad, us, hv, hc, his⟩ := (ev_is hg ha.env hx).inv_r
  have hb := run_bounds (p := cx.pg) (isS := false) (lo := none) (hi := none) (len := n) (cap := n) (l := 0) (h := n) hg ha.env rfl rfl (by omega) (by omega) (by omega) (by omega) w
  have hne := Nat.le_of_ble_eq_true hne
  have hm := Nat.le_of_ble_eq_true hm
  have had : ad.add 0 = ad := by cases ad; simp [Addr.add]
  have hrun : (execOp a.eval o).run cx.pg.P w = .ok (.value (.slice (some ad) n n)) w := by
    have hn0 : ¬ n = 0 := by omega
    simp only [Option.map_none, Int.toNat_zero, Int.toNat_natCast] at hb
    simp only [execOp, ho, Instr.sliceAt, Sem.run_bind, run_under hu, Result.andThen_ok, hv, Option.map_none, Instr.sureAddr, Sem.run_pure, hb, hes]
    simp [hn0, had]
  have hval : ∀ (j : Nat) (v : Value), vs[j]? = some v → us j = v ∧ v.oneCell' = true := fun j v hj => by
    have h2 := his j (.v v) (by rw [List.getElem?_map, hj]; rfl)
    cases h2
    exact ⟨rfl, by
      have := List.all_eq_true.1 h1 (us j) (List.mem_of_getElem? hj)
      simpa using this⟩
  have hI : IsR H.ro (.sl 1 (vs.map fun v => [.v v])) (.slice (some ad) n n) := by
    have hlen : (vs.map fun v => [GV.v v]).length = n := by simp [hn]
    have : IsR H.ro (.sl 1 (vs.map fun v => [.v v])) (.slice (some ad) (vs.map fun v => [GV.v v]).length n) := by
      refine .sl (fun i j => if j = 0 then (vs[i]?).getD (.bool false) else .bool false) (by simp) (by omega) hm ?_ ?_ ?_
      · intro i row hi j g hj
        simp only [List.getElem?_map, Option.map_eq_some_iff] at hi
        obtain ⟨v, hvi, rfl⟩ := hi
        cases j with
        | succ j => simp at hj
        | zero =>
          have := hc i (.v v) (by rw [List.getElem?_map, hvi]; rfl)
          rw [(hval i v hvi).1] at this
          simpa [hvi] using this
      · intro i row hi j g hj
        simp only [List.getElem?_map, Option.map_eq_some_iff] at hi
        obtain ⟨v, hvi, rfl⟩ := hi
        cases j with
        | succ j => simp at hj
        | zero => simp at hj; subst hj; simpa [hvi] using IsR.v (ro := H.ro) v
      · intro i j
        by_cases hj : j = 0
        · rw [if_pos hj]
          cases hvi : vs[i]? with
          | none => rfl
          | some v => exact (hval i v hvi).2
        · rw [if_neg hj]; rfl
    rwa [hlen] at this
  obtain ⟨ρ', ha', hJ⟩ := ha.dput (.ro hI) h
  exact wpList_run hw hrun (hJ H (a.put o.dst _) w hg (hs.ρ ρ') ha')
end
end Go.GK
