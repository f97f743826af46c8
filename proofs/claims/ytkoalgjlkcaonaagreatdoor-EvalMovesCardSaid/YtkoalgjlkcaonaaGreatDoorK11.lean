/-
  Plain laws: questions: what is printed is read as just that question. No program is in sight.
-/
import Derived.Test.YtkoalgjlkcaonaaGreatDoorK10
import Derived.Test.YtkoalgjlkcaonaaGreatDoorK07
import Derived.Test.YtkoalgjlkcaonaaGreatDoorK08
import Derived.Test.YtkoalgjlkcaonaaGreatDoorK06
import Derived.Test.YtkoalgjlkcaonaaGreatDoorK09
import Derived.Test.YtkoalgjlkcaonaaGreatDoorK05
import Derived.LaidMore
import Derived.Stop.LaidErr
set_option linter.unusedSimpArgs false
namespace Go.PL
open Go Go.GK

theorem bS_size (l : List UInt8) : (bS l).size = l.length := by show l.toArray.size = _; simp
theorem isP_yes {t : Tok} {s : ByteArray} (r : List Tok) (h : t.text = s) (hk : t.kind ≠ 3) : isP s (t :: r) = true := by
  rw [isP, Bool.and_eq_true, decide_eq_true_iff, sEq_iff]
  exact ⟨h, hk⟩
theorem isP_no {t : Tok} {s : ByteArray} (r : List Tok) (h : t.text ≠ s) : isP s (t :: r) = false := by
  rw [isP, Bool.and_eq_false_iff]
  left
  rw [← Bool.not_eq_true, sEq_iff]
  exact h
theorem takesP_yes {t : Tok} {s : ByteArray} (r : List Tok) (h : t.text = s) (hk : t.kind ≠ 3) (hk5 : t.kind ≠ 5) : takesP s (t :: r) = true := by
  rw [takesP, isP_yes r h hk, Bool.true_and, decide_eq_true_iff]
  exact hk5
theorem takesP_no {t : Tok} {s : ByteArray} (r : List Tok) (h : t.text ≠ s) : takesP s (t :: r) = false := by
  rw [takesP, isP_no r h, Bool.false_and]
theorem mustP_yes {t : Tok} {s : ByteArray} (r : List Tok) (h : t.text = s) (hk : t.kind ≠ 3) (hk5 : t.kind ≠ 5) : mustP s (t :: r) = .ok ((), r) := by
  rw [mustP, if_pos (takesP_yes r h hk hk5)]
  rfl
theorem st_mk {t : Tok} {x : Lx} (h : t.st = x.st) : t.kind = x.kind ∧ t.text = bS x.text := ⟨congrArg Prod.fst h, congrArg Prod.snd h⟩
def isT (t : Tok) (s : List UInt8) : Prop := t.text = bS s ∧ t.kind ≠ 3 ∧ t.kind ≠ 5
theorem isT_mL {t : Tok} {s : List UInt8} (h : t.st = (mL s).st) : isT t s := ⟨(st_mk h).2, by rw [(st_mk h).1]; exact (by decide : (4 : Int) ≠ 3), by rw [(st_mk h).1]; exact (by decide : (4 : Int) ≠ 5)⟩
theorem isT_wL {t : Tok} {s : List UInt8} (h : t.st = (wL s).st) : isT t s := ⟨(st_mk h).2, by rw [(st_mk h).1]; exact (by decide : (1 : Int) ≠ 3), by rw [(st_mk h).1]; exact (by decide : (1 : Int) ≠ 5)⟩
theorem isT.must {t : Tok} {s : List UInt8} (h : isT t s) (r : List Tok) : mustP (bS s) (t :: r) = .ok ((), r) := mustP_yes r h.1 h.2.1 h.2.2
theorem isT.takes {t : Tok} {s : List UInt8} (h : isT t s) (r : List Tok) : takesP (bS s) (t :: r) = true := takesP_yes r h.1 h.2.1 h.2.2
theorem isT.not {t : Tok} {s w : List UInt8} (h : isT t s) (r : List Tok) (hne : s ≠ w) : takesP (bS w) (t :: r) = false := takesP_no r (by rw [h.1]; exact fun e => hne (bS_inj e))
theorem isT.noti {t : Tok} {s w : List UInt8} (h : isT t s) (r : List Tok) (hne : s ≠ w) : isP (bS w) (t :: r) = false := isP_no r (by rw [h.1]; exact fun e => hne (bS_inj e))
theorem find_yes {L : List ByteArray} (hL : ∀ i j, i < j → j < L.length → L.getD i ⟨#[]⟩ ≠ L.getD j ⟨#[]⟩) {t : Tok} (r : List Tok) {k : Nat} (hk : k < L.length) (h : t.text = L.getD k ⟨#[]⟩) (h3 : t.kind ≠ 3) :
    (L.findIdx? fun s => isP s (t :: r)) = some k := by
  rw [List.findIdx?_eq_some_iff_getElem]
  have e : ∀ i (hi : i < L.length), L.getD i ⟨#[]⟩ = L[i] := fun i hi => by rw [List.getD_eq_getElem?_getD, List.getElem?_eq_getElem hi]; rfl
  refine ⟨hk, isP_yes r (by rw [h, e k hk]) h3, fun j hj => ?_⟩
  rw [isP_no r (by rw [h, ← e j (by omega)]; exact (hL j k hj hk).symm)]
  exact Bool.false_ne_true
theorem find_no {L : List ByteArray} {t : Tok} (r : List Tok) (h : ∀ s ∈ L, t.text ≠ s) : (L.findIdx? fun s => isP s (t :: r)) = none := by
  rw [List.findIdx?_eq_none_iff]
  exact fun s hs => isP_no r (h s hs)
theorem ops_ne : ∀ i j, i < j → j < opsL.length → opsL.getD i ⟨#[]⟩ ≠ opsL.getD j ⟨#[]⟩ := by
  intro i j h1 h2
  have : j < 4 := h2
  have hh : ∀ j : Fin 4, ∀ i : Fin 4, i.val < j.val → opsL.getD i.val ⟨#[]⟩ ≠ opsL.getD j.val ⟨#[]⟩ := by decide
  exact hh ⟨j, by omega⟩ ⟨i, by omega⟩ h1
theorem overs_ne : ∀ i j, i < j → j < oversL.length → oversL.getD i ⟨#[]⟩ ≠ oversL.getD j ⟨#[]⟩ := by
  intro i j h1 h2
  have : j < 5 := h2
  have hh : ∀ j : Fin 5, ∀ i : Fin 5, i.val < j.val → oversL.getD i.val ⟨#[]⟩ ≠ oversL.getD j.val ⟨#[]⟩ := by decide
  exact hh ⟨j, by omega⟩ ⟨i, by omega⟩ h1
theorem alls_ne : ∀ i j, i < j → j < allsL.length → allsL.getD i ⟨#[]⟩ ≠ allsL.getD j ⟨#[]⟩ := by
  intro i j h1 h2
  have : j < 4 := h2
  have hh : ∀ j : Fin 4, ∀ i : Fin 4, i.val < j.val → allsL.getD i.val ⟨#[]⟩ ≠ allsL.getD j.val ⟨#[]⟩ := by decide
  exact hh ⟨j, by omega⟩ ⟨i, by omega⟩ h1
theorem alls_overs {k : Nat} (hk : k < 4) : ∀ s ∈ oversL, allsL.getD k ⟨#[]⟩ ≠ s := by
  have hh : ∀ k : Fin 4, ∀ s ∈ oversL, allsL.getD k.val ⟨#[]⟩ ≠ s := by decide
  exact hh ⟨k, hk⟩
theorem overs_mark {k : Nat} (hk : k < 5) : ∀ b : UInt8, bL (oversL.getD k ⟨#[]⟩) ≠ [b] := by
  intro b
  have hh : ∀ k : Fin 5, (bL (oversL.getD k.val ⟨#[]⟩)).length ≠ 1 := by decide
  exact fun e => hh ⟨k, hk⟩ (by rw [e]; rfl)
theorem alls_mark {k : Nat} (hk : k < 4) : ∀ b : UInt8, bL (allsL.getD k ⟨#[]⟩) ≠ [b] := by
  intro b
  have hh : ∀ k : Fin 4, (bL (allsL.getD k.val ⟨#[]⟩)).length ≠ 1 := by decide
  exact fun e => hh ⟨k, hk⟩ (by rw [e]; rfl)

theorem itoa_dig {n : Int} (h : 0 ≤ n) : (∀ b ∈ Lib.itoa n, digB b = true) ∧ Lib.itoa n ≠ [] := by
  rw [Lib.itoa, if_neg (by omega)]
  generalize n.toNat = u
  induction u using Nat.strongRecOn with
  | _ u ih =>
    have hd : ∀ d, d < 10 → digB (UInt8.ofNat (48 + d)) = true := by
      intro d hd
      have hh : ∀ d : Fin 10, digB (UInt8.ofNat (48 + d.val)) = true := by decide
      exact hh ⟨d, hd⟩
    rw [Lib.decDigits]
    by_cases h : u < 10
    · rw [dif_pos h]
      exact ⟨fun b hb => by rw [List.mem_singleton.1 hb]; exact hd u h, by simp⟩
    · rw [dif_neg h]
      refine ⟨fun b hb => ?_, by simp⟩
      rcases List.mem_append.1 hb with hb | hb
      · exact (ih (u / 10) (by omega)).1 b hb
      · rw [List.mem_singleton.1 hb]
        exact hd _ (Nat.mod_lt _ (by decide))
theorem numT_itoa {n : Int} (h : 0 ≤ n) : numT (bS (Lib.itoa n)) = n := by
  unfold numT
  rw [show (bS (Lib.itoa n)).data.toList = Lib.itoa n from bL_bS _, Lib.itoa, if_neg (by omega)]
  have : ∀ u : Nat, (Lib.decDigits u).foldl (fun (n : Int) c => n * 10 + ((c.toNat : Int) - 48)) 0 = u := by
    intro u
    induction u using Nat.strongRecOn with
    | _ u ih =>
      have hd : ∀ d, d < 10 → ((UInt8.ofNat (48 + d)).toNat : Int) - 48 = d := by
        intro d hd
        have hh : ∀ d : Fin 10, ((UInt8.ofNat (48 + d.val)).toNat : Int) - 48 = d.val := by decide
        exact hh ⟨d, hd⟩
      rw [Lib.decDigits]
      by_cases h : u < 10
      · rw [dif_pos h, List.foldl_cons, List.foldl_nil, hd u h]
        omega
      · rw [dif_neg h, List.foldl_append, ih (u / 10) (by omega), List.foldl_cons, List.foldl_nil, hd _ (Nat.mod_lt _ (by decide))]
        omega
  rw [this]
  omega
theorem numberP_yes {t : Tok} (r : List Tok) {n most : Int} (h0 : 0 ≤ n) (h1 : n ≤ most) (h : t.st = (dL (Lib.itoa n)).st) : numberP most (t :: r) = .ok (n, r) := by
  obtain ⟨hk, ht⟩ := st_mk h
  have hk : t.kind = 2 := hk
  have ht : t.text = bS (Lib.itoa n) := ht
  have hn : numT (hdT (t :: r)).text = n := by
    show numT t.text = n
    rw [ht, numT_itoa h0]
  rw [numberP, hn, if_neg (by rintro ⟨_, h⟩; omega)]
  have : anyP 2 (t :: r) = .ok (t.text, r) := if_pos hk
  rw [this]
  show Except.ok (numT t.text, r) = _
  rw [show numT t.text = n from hn]
theorem nameP_yes {t : Tok} (r : List Tok) {s : ByteArray} (hs : nameF s = true) (h : t.st = (wL (bL s)).st) : nameP (t :: r) = .ok (s, r) := by
  obtain ⟨hk, ht⟩ := st_mk h
  have hk : t.kind = 1 := hk
  have ht : t.text = s := by rw [ht]; exact bS_bL s
  have h1 : nameP (t :: r) = anyP 1 (t :: r) := if_neg (by rintro ⟨_, h⟩; rw [show (hdT (t :: r)).text = s from ht, hs] at h; cases h)
  have h2 : anyP 1 (t :: r) = .ok (t.text, r) := if_pos hk
  rw [h1, h2, ht]

theorem matcherP_yes {m : Mt} (hm : MOk m) (T rest : List Tok) (hT : T.map Tok.st = (mtX m).map Lx.st) : matcherP (T ++ rest) = .ok (m, rest) := by
  obtain ⟨t1, T, rfl, h1, hT⟩ := List.map_eq_cons_iff.1 hT
  obtain ⟨t2, T, rfl, h2, hT⟩ := List.map_eq_cons_iff.1 hT
  obtain ⟨t3, T, rfl, h3, hT⟩ := List.map_eq_cons_iff.1 hT
  rw [List.map_nil, List.map_eq_nil_iff] at hT
  subst hT
  obtain ⟨g1, g2, g3, g4⟩ := hm
  have hk : m.op.toNat < opsL.length := by rw [opsL_four]; omega
  have i2 := isT_mL h2
  have e2 : t2.text = opsL.getD m.op.toNat ⟨#[]⟩ := by rw [i2.1, bS_bL]
  rw [show [t1, t2, t3] ++ rest = t1 :: t2 :: t3 :: rest from rfl, matcherP, nameP_yes _ g1 h1]
  simp only
  rw [find_yes ops_ne _ hk e2 i2.2.1]
  simp only
  rw [mustP_yes _ e2 i2.2.1 i2.2.2]
  simp only
  obtain ⟨k3, x3⟩ := st_mk h3
  have k3 : t3.kind = 3 := k3
  have x3 : t3.text = bS (34 :: bL m.value ++ [34]) := x3
  have h4 : anyP 3 (t3 :: rest) = .ok (t3.text, rest) := if_pos k3
  rw [h4]
  simp only
  have h5 : t3.text.extract 1 (t3.text.size - 1) = m.value := by
    rw [x3, bS_size]
    apply ByteArray.ext
    apply Array.ext'
    rw [ByteArray.data_extract, Array.toList_extract]
    show List.extract (34 :: bL m.value ++ [34]) _ _ = _
    simp [bL]
  rw [h5, if_pos g2]
  obtain ⟨n, o, v⟩ := m
  have : ((o.toNat : Nat) : Int) = o := by simp only at g3; omega
  simp only [this]
theorem sepX_flat (y : Lx) (x : List Lx) (r : List (List Lx)) : sepX y (x :: r) = x ++ r.flatMap (y :: ·) := by
  induction r generalizing x with
  | nil => simp [sepX]
  | cons b r ih =>
    have : sepX y (x :: b :: r) = x ++ y :: sepX y (b :: r) := rfl
    rw [this, ih]
    simp
theorem app_map {T : List Tok} {a b : List Lx} (h : T.map Tok.st = (a ++ b).map Lx.st) : ∃ T1 T2, T = T1 ++ T2 ∧ T1.map Tok.st = a.map Lx.st ∧ T2.map Tok.st = b.map Lx.st := by
  rw [List.map_append] at h
  obtain ⟨T1, T2, h1, h2, h3⟩ := List.map_eq_append_iff.1 h
  exact ⟨T1, T2, h1, h2, h3⟩
theorem cons_map {T : List Tok} {a : Lx} {b : List Lx} (h : T.map Tok.st = (a :: b).map Lx.st) : ∃ t T2, T = t :: T2 ∧ t.st = a.st ∧ T2.map Tok.st = b.map Lx.st := by
  obtain ⟨t, T2, h1, h2, h3⟩ := List.map_eq_cons_iff.1 h
  exact ⟨t, T2, h1, h2, h3⟩
theorem nil_map {T : List Tok} (h : T.map Tok.st = ([] : List Lx).map Lx.st) : T = [] := List.map_eq_nil_iff.1 h
theorem len_map {T : List Tok} {X : List Lx} (h : T.map Tok.st = X.map Lx.st) : T.length = X.length := by
  have := congrArg List.length h
  simpa using this
theorem matchersL_more : ∀ (ms acc : List Mt) (f : Nat) (T rest : List Tok), (∀ m ∈ ms, MOk m) → acc ≠ [] → acc.length + ms.length ≤ 8 → ms.length < f → T.map Tok.st = ((ms.map mtX).flatMap (mL [44] :: ·) ++ [mL [125]]).map Lx.st →
    matchersL f acc (T ++ rest) = .ok (acc ++ ms, rest)
  | ms, acc, 0, _, _, _, _, _, hf, _ => by omega
  | [], acc, f + 1, T, rest, _, _, _, _, hT => by
    obtain ⟨t, T, rfl, h1, hT⟩ := cons_map hT
    cases nil_map hT
    rw [show [t] ++ rest = t :: rest from rfl, matchersL, if_pos ((isT_mL h1).takes rest), List.append_nil]
    rfl
  | m :: ms, acc, f + 1, T, rest, hm, ha, hl, hf, hT => by
    have ha0 : acc.length ≠ 0 := by cases acc with | nil => exact absurd rfl ha | cons a b => simp
    rw [List.map_cons, List.flatMap_cons, List.append_assoc] at hT
    obtain ⟨t, T, rfl, h1, hT⟩ := cons_map hT
    obtain ⟨T1, T2, rfl, hT1, hT2⟩ := app_map hT
    rw [show t :: (T1 ++ T2) ++ rest = t :: (T1 ++ T2 ++ rest) from rfl, matchersL, if_neg (by rw [(isT_mL h1).not _ (by decide)]; exact Bool.false_ne_true), if_neg ha0, (isT_mL h1).must]
    simp only [List.length_cons] at hl hf ⊢
    rw [if_neg (by omega), List.append_assoc, matcherP_yes (hm m List.mem_cons_self) T1 _ hT1]
    simp only
    rw [matchersL_more ms (acc ++ [m]) f T2 rest (fun x hx => hm x (List.mem_cons_of_mem _ hx)) (by simp) (by simp; omega) (by omega) hT2]
    simp
theorem flat_len : ∀ ms : List Mt, ms.length ≤ ((ms.map mtX).flatMap (mL [44] :: ·)).length
  | [] => Nat.le_refl _
  | a :: b => by
    have := flat_len b
    rw [List.map_cons, List.flatMap_cons, List.length_append, List.length_cons, List.length_cons]
    omega
theorem matchersP_yes {ms : List Mt} (hm : MsOk ms) (T rest : List Tok) (hT : T.map Tok.st = (msX ms).map Lx.st) : matchersP (T ++ rest) = .ok (ms, rest) := by
  obtain ⟨t, T, rfl, h1, hT⟩ := cons_map hT
  have hlen := len_map hT
  rw [show t :: T ++ rest = t :: (T ++ rest) from rfl, matchersP, (isT_mL h1).must]
  simp only
  cases ms with
  | nil =>
    obtain ⟨t2, T, rfl, h2, hT⟩ := cons_map hT
    cases nil_map hT
    rw [show [t2] ++ rest = t2 :: rest from rfl, matchersL, if_pos ((isT_mL h2).takes rest)]
    rfl
  | cons m ms =>
    rw [List.map_cons, sepX_flat, List.append_assoc] at hT hlen
    obtain ⟨T1, T2, rfl, hT1, hT2⟩ := app_map hT
    have hT1' := hT1
    obtain ⟨t1, T1', e, h2, _⟩ := cons_map hT1
    rw [matchersL]
    have hnt : takesP (bS [125]) (T1 ++ T2 ++ rest) = false := by
      subst e
      show takesP (bS [125]) (t1 :: _) = false
      refine takesP_no _ ?_
      obtain ⟨_, hx⟩ := st_mk h2
      rw [hx]
      intro e
      have hn := (hm.1 m List.mem_cons_self).1
      have e := bS_inj e
      have e : bL m.name = [125] := e
      have : m.name = bS [125] := by rw [← e, bS_bL]
      rw [this] at hn
      revert hn
      decide
    rw [if_neg (by rw [hnt]; exact Bool.false_ne_true)]
    rw [List.append_assoc]
    simp only [List.length_nil, if_true]
    rw [if_neg (by omega), matcherP_yes (hm.1 m List.mem_cons_self) T1 _ hT1']
    simp only
    have hf := flat_len ms
    have hh := hm.2
    simp only [List.length_cons] at hh
    show matchersL _ [m] (T2 ++ rest) = _
    rw [matchersL_more ms [m] _ T2 rest (fun x hx => hm.1 x (List.mem_cons_of_mem _ hx)) (by simp) (by simp; omega) (by
      have := len_map hT2
      simp only [List.length_append, List.length_cons] at this ⊢
      omega) hT2]
    rfl
theorem namesL_yes : ∀ (b acc : List ByteArray) (f : Nat) (T rest : List Tok), b ≠ [] → (∀ s ∈ b, nameF s = true) → acc.length + b.length ≤ 8 → b.length ≤ f → T.map Tok.st = (byX b).map Lx.st → takesP (bS [44]) rest = false →
    namesL f acc (T ++ rest) = .ok (acc ++ b, rest)
  | [], _, _, _, _, hb, _, _, _, _, _ => absurd rfl hb
  | s :: b, acc, 0, _, _, _, _, _, hf, _, _ => by simp at hf
  | [s], acc, f + 1, T, rest, _, hs, hl, _, hT, hr => by
    obtain ⟨t, T, rfl, h1, hT⟩ := cons_map hT
    cases nil_map hT
    simp only [List.length_cons, List.length_nil] at hl
    rw [show [t] ++ rest = t :: rest from rfl, namesL, if_neg (by omega), nameP_yes rest (hs s List.mem_cons_self) h1]
    simp only
    rw [if_neg (by rw [hr]; exact Bool.false_ne_true)]
  | s :: s2 :: b, acc, f + 1, T, rest, _, hs, hl, hf, hT, hr => by
    have : byX (s :: s2 :: b) = wL (bL s) :: ⟨0, [44], 4, 1⟩ :: byX (s2 :: b) := rfl
    rw [this] at hT
    obtain ⟨t, T, rfl, h1, hT⟩ := cons_map hT
    obtain ⟨t2, T, rfl, h2, hT⟩ := cons_map hT
    simp only [List.length_cons] at hl hf
    rw [show t :: t2 :: T ++ rest = t :: t2 :: (T ++ rest) from rfl, namesL, if_neg (by omega), nameP_yes _ (hs s List.mem_cons_self) h1]
    simp only
    have i2 : isT t2 [44] := isT_mL h2
    rw [if_pos (i2.takes _)]
    show namesL f (acc ++ [s]) (T ++ rest) = _
    rw [namesL_yes (s2 :: b) (acc ++ [s]) f T rest (by simp) (fun x hx => hs x (List.mem_cons_of_mem _ hx)) (by simp only [List.length_append, List.length_cons, List.length_nil]; omega) (by simp only [List.length_cons]; omega) hT hr]
    simp

def R2 (l : List Tok) : Prop := takesP (bS [98, 121]) l = false
def R1 (l : List Tok) : Prop := R2 l ∧ takesP (bS [42]) l = false ∧ takesP (bS [47]) l = false
def R0 (l : List Tok) : Prop := R1 l ∧ takesP (bS [43]) l = false ∧ takesP (bS [45]) l = false
theorem isT.r2 {t : Tok} {b : UInt8} (h : isT t [b]) (r : List Tok) : R2 (t :: r) := h.not r (by simp)
theorem isT.r1 {t : Tok} {b : UInt8} (h : isT t [b]) (r : List Tok) (h1 : b ≠ 42) (h2 : b ≠ 47) : R1 (t :: r) := ⟨h.r2 r, h.not r (by simpa using h1), h.not r (by simpa using h2)⟩
theorem isT.r0 {t : Tok} {b : UInt8} (h : isT t [b]) (r : List Tok) (h1 : b ≠ 42) (h2 : b ≠ 47) (h3 : b ≠ 43) (h4 : b ≠ 45) : R0 (t :: r) := ⟨h.r1 r h1 h2, h.not r (by simpa using h3), h.not r (by simpa using h4)⟩
def k1 : Qn → Nat
  | .nil => 0
  | .mk c _ _ _ _ l _ => if lvl c = 1 then k1 l + 1 else 0
def k0 : Qn → Nat
  | .nil => 0
  | .mk c _ _ _ _ l _ => if lvl c = 0 then k0 l + 1 else 0
def C1 (q : Qn) : Prop := ∀ f n T rest, 3 * (atX q 2).length ≤ f → n + dep q 2 ≤ 8 → T.map Tok.st = (atX q 2).map Lx.st → R2 rest → oneP f n (T ++ rest) = .ok (q, rest)
def C2 (q : Qn) : Prop := ∀ f n T rest, 3 * (atX q 1).length + 1 ≤ f → n + dep q 1 ≤ 8 → T.map Tok.st = (atX q 1).map Lx.st → R2 rest → productP f n (T ++ rest) = productL (f - 1 - k1 q) n q rest
def C3 (q : Qn) : Prop := ∀ f n T rest, 3 * (atX q 0).length + 2 ≤ f → n + dep q 0 ≤ 8 → T.map Tok.st = (atX q 0).map Lx.st → R1 rest → sumP f n (T ++ rest) = sumL (f - 1 - k0 q) n q rest
theorem productL_end {f n : Nat} {q : Qn} {l : List Tok} (hf : 1 ≤ f) (h : R1 l) : productL f n q l = .ok (q, l) := by
  cases f with
  | zero => omega
  | succ f => rw [productL, if_neg (by rw [h.2.1]; exact Bool.false_ne_true), if_neg (by rw [h.2.2]; exact Bool.false_ne_true)]
theorem sumL_end {f n : Nat} {q : Qn} {l : List Tok} (hf : 1 ≤ f) (h : R0 l) : sumL f n q l = .ok (q, l) := by
  cases f with
  | zero => omega
  | succ f => rw [sumL, if_neg (by rw [h.2.1]; exact Bool.false_ne_true), if_neg (by rw [h.2.2]; exact Bool.false_ne_true)]
theorem k_le {q : Qn} (hq : Wf q) : k1 q ≤ (atX q 1).length ∧ k0 q ≤ (atX q 0).length ∧ 1 ≤ (atX q 0).length := by
  induction hq with
  | num n h0 h1 => simp [k1, k0, lvl, atX_num]
  | pick m h => simp [k1, k0, lvl, atX_pick, msX]
  | over k hk m h sp h1 h2 =>
    have : lvl (3 + k) = 2 := by rw [lvl, if_neg (by omega), if_neg (by omega)]
    rw [atX_over k hk _ _ _ (by decide), atX_over k hk _ _ _ (by decide), k1, k0, this]
    simp
  | all k hk b hb hl q hq ih =>
    have : lvl (8 + k) = 2 := by rw [lvl, if_neg (by omega), if_neg (by omega)]
    rw [atX_all k hk _ _ _ (by decide), atX_all k hk _ _ _ (by decide), k1, k0, this]
    simp
  | neg q hq ih =>
    rw [atX_neg _ _ (by decide), atX_neg _ _ (by decide), k1, k0, show lvl 12 = 2 from rfl]
    simp
  | add k hk l r hl hr ih1 ih2 =>
    rw [atX_add k hk, atX_add k hk, k1, k0, lvl_add k hk]
    simp [ifP]
    omega
  | mul k hk l r hl hr ih1 ih2 =>
    rw [atX_mul k hk, atX_mul k hk, k1, k0, lvl_mul k hk]
    simp [ifP]
    omega
theorem par_map {T : List Tok} {x : List Lx} (h : T.map Tok.st = (parX x).map Lx.st) : ∃ a T1 b, T = a :: (T1 ++ [b]) ∧ isT a [40] ∧ isT b [41] ∧ T1.map Tok.st = x.map Lx.st := by
  obtain ⟨a, T, rfl, h1, hT⟩ := cons_map h
  obtain ⟨T1, T2, rfl, hT1, hT2⟩ := app_map hT
  obtain ⟨b, T3, rfl, h2, hT3⟩ := cons_map hT2
  cases nil_map hT3
  exact ⟨a, T1, b, rfl, isT_mL h1, isT_mL h2, hT1⟩
theorem C3.sum {q : Qn} (h : C3 q) (hq : Wf q) {f n : Nat} {T rest : List Tok} (hf : 3 * (atX q 0).length + 2 ≤ f) (hd : n + dep q 0 ≤ 8) (hT : T.map Tok.st = (atX q 0).map Lx.st) (hr : R0 rest) : sumP f n (T ++ rest) = .ok (q, rest) := by
  obtain ⟨_, g2, g3⟩ := k_le hq
  rw [h f n T rest hf hd hT hr.1]
  exact sumL_end (by omega) hr
theorem C2.prod {q : Qn} (h : C2 q) (hq : Wf q) {f n : Nat} {T rest : List Tok} (hf : 3 * (atX q 1).length + 1 ≤ f) (hd : n + dep q 1 ≤ 8) (hT : T.map Tok.st = (atX q 1).map Lx.st) (hr : R1 rest) : productP f n (T ++ rest) = .ok (q, rest) := by
  obtain ⟨g1, g2, g3⟩ := k_le hq
  have : 1 ≤ (atX q 1).length := by
    have := (at_le q 0 1 (by decide)).2 1000
    rcases h0 : atX q 1 with _ | ⟨a, b⟩
    · rw [h0] at this
      rcases h1 : atX q 0 with _ | ⟨c, d⟩
      · rw [h1] at g3; simp at g3
      · rw [h1, wx_cons, wx_nil] at this; omega
    · simp
  rw [h f n T rest hf hd hT hr.1]
  exact productL_end (by omega) hr
theorem C1_par {q : Qn} (hq : Wf q) (h3 : C3 q) (hx : atX q 2 = parX (atX q 0)) (hd2 : dep q 2 = 1 + dep q 0) : C1 q := by
  intro f n T rest hf hd hT hr
  rw [hx] at hT hf
  obtain ⟨a, T1, b, rfl, ha, hb, hT1⟩ := par_map hT
  rw [hd2] at hd
  simp only [parX, List.length_cons, List.length_append, List.length_nil] at hf
  cases f with
  | zero => omega
  | succ f =>
    have e0 : a :: (T1 ++ [b]) ++ rest = a :: (T1 ++ (b :: rest)) := by simp
    rw [e0, oneP, if_neg (by omega)]
    rw [if_neg (by rw [ha.not _ (by decide)]; exact Bool.false_ne_true)]
    rw [if_pos (ha.takes _), List.tail_cons]
    rw [h3.sum hq (by omega) (by omega) hT1 (hb.r0 _ (by decide) (by decide) (by decide) (by decide))]
    simp only
    rw [hb.must]
theorem C2_of {q : Qn} (h1 : C1 q) (hx : atX q 1 = atX q 2) (hd1 : dep q 1 = dep q 2) (hk : k1 q = 0) : C2 q := by
  intro f n T rest hf hd hT hr
  rw [hx] at hf hT
  rw [hd1] at hd
  cases f with
  | zero => omega
  | succ f =>
    rw [productP, h1 f n T rest (by omega) hd hT hr, hk]
    rfl
theorem C3_of {q : Qn} (hq : Wf q) (h2 : C2 q) (hx : atX q 0 = atX q 1) (hd1 : dep q 0 = dep q 1) (hk : k0 q = 0) : C3 q := by
  intro f n T rest hf hd hT hr
  rw [hx] at hf hT
  rw [hd1] at hd
  cases f with
  | zero => omega
  | succ f =>
    rw [sumP, h2.prod hq (by omega) hd hT hr, hk]
    rfl
theorem C3_bin {c : Int} {b : UInt8} (hc : BinC c [b] 0) {l r : Qn} (hl : Wf l) (hr : Wf r) (h3 : C3 l) (h2 : C2 r) (hk : k0 (.mk c 0 [] 0 [] l r) = k0 l + 1)
    (hs : ∀ f n q t rest, isT t [b] → sumL (f + 1) n q (t :: rest) = match productP f n rest with | .error e => (.error e : PRes Qn) | .ok (r, l) => sumL f n (.mk c 0 [] 0 [] q r) l) (hb1 : b ≠ 42) (hb2 : b ≠ 47) : C3 (.mk c 0 [] 0 [] l r) := by
  intro f n T rest hf hd hT hR
  rw [hc.at_] at hT hf
  rw [hc.dep] at hd
  simp only [Nat.reduceAdd] at hT hf hd
  obtain ⟨T1, T2, rfl, hT1, hT2⟩ := app_map hT
  obtain ⟨t, T2, rfl, ht, hT2⟩ := cons_map hT2
  have it : isT t [b] := by
    obtain ⟨e1, e2⟩ := st_mk ht
    exact ⟨by rw [e2]; show bS (symX c) = _; rw [hc.sy], by rw [e1]; show (4 : Int) ≠ 3; decide, by rw [e1]; show (4 : Int) ≠ 5; decide⟩
  simp only [List.length_append, List.length_cons] at hf
  obtain ⟨_, g2, _⟩ := k_le hl
  rw [List.append_assoc, List.cons_append, h3 f n T1 _ (by omega) (by omega) hT1 (it.r1 _ hb1 hb2)]
  obtain ⟨g, hg⟩ : ∃ g, f - 1 - k0 l = g + 1 := ⟨f - 2 - k0 l, by omega⟩
  rw [hg]
  show sumL (g + 1) n l (t :: (T2 ++ rest)) = _
  rw [hs g n l t _ it, h2.prod hr (by omega) (by omega) hT2 hR, hk]
  have : f - 1 - (k0 l + 1) = g := by omega
  rw [this]
theorem C2_bin {c : Int} {b : UInt8} (hc : BinC c [b] 1) {l r : Qn} (hl : Wf l) (h2 : C2 l) (h1 : C1 r) (hk : k1 (.mk c 0 [] 0 [] l r) = k1 l + 1)
    (hs : ∀ f n q t rest, isT t [b] → productL (f + 1) n q (t :: rest) = match oneP f n rest with | .error e => (.error e : PRes Qn) | .ok (r, l) => productL f n (.mk c 0 [] 0 [] q r) l) : C2 (.mk c 0 [] 0 [] l r) := by
  intro f n T rest hf hd hT hR
  rw [hc.at_] at hT hf
  rw [hc.dep] at hd
  simp only [Nat.reduceAdd] at hT hf hd
  obtain ⟨T1, T2, rfl, hT1, hT2⟩ := app_map hT
  obtain ⟨t, T2, rfl, ht, hT2⟩ := cons_map hT2
  have it : isT t [b] := by
    obtain ⟨e1, e2⟩ := st_mk ht
    exact ⟨by rw [e2]; show bS (symX c) = _; rw [hc.sy], by rw [e1]; show (4 : Int) ≠ 3; decide, by rw [e1]; show (4 : Int) ≠ 5; decide⟩
  simp only [List.length_append, List.length_cons] at hf
  obtain ⟨g1, _, _⟩ := k_le hl
  rw [List.append_assoc, List.cons_append, h2 f n T1 _ (by omega) (by omega) hT1 (it.r2 _)]
  obtain ⟨g, hg⟩ : ∃ g, f - 1 - k1 l = g + 1 := ⟨f - 2 - k1 l, by omega⟩
  rw [hg]
  show productL (g + 1) n l (t :: (T2 ++ rest)) = _
  rw [hs g n l t _ it, h1 g n T2 rest (by omega) (by omega) hT2 hR, hk]
  have : f - 1 - (k1 l + 1) = g := by omega
  rw [this]
theorem sumL_13 : ∀ f n q t rest, isT t [43] → sumL (f + 1) n q (t :: rest) = match productP f n rest with | .error e => (.error e : PRes Qn) | .ok (r, l) => sumL f n (.mk 13 0 [] 0 [] q r) l := fun f n q t rest h => by
  rw [sumL, if_pos (h.takes _)]; rfl
theorem sumL_14 : ∀ f n q t rest, isT t [45] → sumL (f + 1) n q (t :: rest) = match productP f n rest with | .error e => (.error e : PRes Qn) | .ok (r, l) => sumL f n (.mk 14 0 [] 0 [] q r) l := fun f n q t rest h => by
  rw [sumL, if_neg (by rw [h.not _ (by decide)]; exact Bool.false_ne_true), if_pos (h.takes _)]; rfl
theorem prodL_15 : ∀ f n q t rest, isT t [42] → productL (f + 1) n q (t :: rest) = match oneP f n rest with | .error e => (.error e : PRes Qn) | .ok (r, l) => productL f n (.mk 15 0 [] 0 [] q r) l := fun f n q t rest h => by
  rw [productL, if_pos (h.takes _)]; rfl
theorem prodL_16 : ∀ f n q t rest, isT t [47] → productL (f + 1) n q (t :: rest) = match oneP f n rest with | .error e => (.error e : PRes Qn) | .ok (r, l) => productL f n (.mk 16 0 [] 0 [] q r) l := fun f n q t rest h => by
  rw [productL, if_neg (by rw [h.not _ (by decide)]; exact Bool.false_ne_true), if_pos (h.takes _)]; rfl
theorem C1_num (n : Int) (h0 : 0 ≤ n) (h1 : n < 1000000000000000000) : C1 (.mk 1 n [] 0 [] .nil .nil) := by
  intro f k T rest hf hd hT hr
  rw [atX_num _ _ (Nat.le_refl _)] at hT hf
  obtain ⟨t, T, rfl, ht, hT⟩ := cons_map hT
  cases nil_map hT
  obtain ⟨hk, hx⟩ := st_mk ht
  have hk : t.kind = 2 := hk
  have hx : t.text = bS (Lib.itoa n) := hx
  have hne : ∀ b : UInt8, digB b = false → t.text ≠ bS [b] := by
    intro b hb e
    rw [hx] at e
    have := (itoa_dig h0).1 b (by rw [bS_inj e]; exact List.mem_cons_self)
    rw [hb] at this
    cases this
  simp only [List.length_cons, List.length_nil] at hf
  cases f with
  | zero => omega
  | succ f =>
    rw [dep_num _ _ (Nat.le_refl _)] at hd
    rw [show [t] ++ rest = t :: rest from rfl, oneP, if_neg (by omega)]
    rw [if_neg (by rw [takesP_no rest (hne 45 (by decide))]; exact Bool.false_ne_true)]
    rw [if_neg (by rw [takesP_no rest (hne 40 (by decide))]; exact Bool.false_ne_true)]
    rw [if_pos (show (hdT (t :: rest)).kind = 2 from hk)]
    rw [numberP_yes rest h0 (by omega) ht]
theorem C1_pick (m : List Mt) (hm : MsOk m) : C1 (.mk 2 0 m 300 [] .nil .nil) := by
  intro f k T rest hf hd hT hr
  rw [atX_pick _ _ (Nat.le_refl _)] at hT hf
  obtain ⟨t, T', e, ht, _⟩ := cons_map hT
  have it := isT_mL ht
  rw [dep_pick _ _ (Nat.le_refl _)] at hd
  simp only [msX, List.length_cons] at hf
  cases f with
  | zero => omega
  | succ f =>
    rw [oneP, if_neg (by omega), matchersP_yes hm T rest hT]
    subst e
    rw [List.cons_append]
    rw [if_neg (by rw [it.not _ (by decide)]; exact Bool.false_ne_true)]
    rw [if_neg (by rw [it.not _ (by decide)]; exact Bool.false_ne_true)]
    rw [if_neg (by show ¬ t.kind = 2; rw [(st_mk ht).1]; exact (by decide : (4 : Int) ≠ 2))]
    rw [if_pos (isP_yes _ it.1 it.2.1)]
theorem C1_over (k : Nat) (hk : k < 5) (m : List Mt) (hm : MsOk m) (sp : Int) (h1 : 1 ≤ sp) (h2 : sp ≤ 1099511627776) : C1 (.mk (3 + k) 0 m sp [] .nil .nil) := by
  intro f n T rest hf hd hT hr
  rw [atX_over k hk _ _ _ (Nat.le_refl _)] at hT hf
  obtain ⟨t, T, rfl, ht, hT⟩ := cons_map hT
  have it := isT_wL ht
  obtain ⟨a, T1, b, rfl, ha, hb, hT1⟩ := par_map hT
  obtain ⟨T1, T2, rfl, hT1, hT2⟩ := app_map (a := msX m) hT1
  obtain ⟨t3, T2, rfl, ht3, hT2⟩ := cons_map hT2
  obtain ⟨t4, T2, rfl, ht4, hT2⟩ := cons_map hT2
  obtain ⟨t5, T2, rfl, ht5, hT2⟩ := cons_map hT2
  cases nil_map hT2
  rw [dep_over k hk _ _ _ (Nat.le_refl _)] at hd
  simp only [List.length_cons] at hf
  cases f with
  | zero => omega
  | succ f =>
    have hm1 := overs_mark hk
    have et : t.text = oversL.getD k ⟨#[]⟩ := by rw [it.1, bS_bL]
    have e0 : t :: a :: (T1 ++ [t3, t4, t5] ++ [b]) ++ rest = t :: a :: (T1 ++ (t3 :: t4 :: t5 :: b :: rest)) := by simp
    rw [e0, oneP, if_neg (by omega)]
    rw [if_neg (by rw [it.not _ (hm1 _)]; exact Bool.false_ne_true)]
    rw [if_neg (by rw [it.not _ (hm1 _)]; exact Bool.false_ne_true)]
    rw [if_neg (by show ¬ t.kind = 2; rw [(st_mk ht).1]; exact (by decide : (1 : Int) ≠ 2))]
    rw [if_neg (by rw [it.noti _ (hm1 _)]; exact Bool.false_ne_true)]
    rw [find_yes overs_ne _ (by rw [overs_len]; exact hk) et it.2.1]
    simp only
    rw [mustP_yes _ et it.2.1 it.2.2]
    simp only
    rw [ha.must]
    simp only
    rw [matchersP_yes hm T1 _ ‹_›]
    simp only
    rw [(isT_mL ht3).must]
    simp only
    rw [numberP_yes _ (by omega) h2 ht4]
    simp only
    rw [(isT_mL ht5).must]
    simp only
    rw [hb.must]
    simp only
    rw [if_neg (by omega)]
theorem C1_neg (q : Qn) (h : C1 q) : C1 (.mk 12 0 [] 0 [] q .nil) := by
  intro f n T rest hf hd hT hr
  rw [atX_neg _ _ (Nat.le_refl _)] at hT hf
  obtain ⟨t, T, rfl, ht, hT⟩ := cons_map hT
  have it := isT_mL ht
  rw [dep_neg _ _ (Nat.le_refl _)] at hd
  simp only [List.length_cons] at hf
  cases f with
  | zero => omega
  | succ f =>
    rw [show t :: T ++ rest = t :: (T ++ rest) from rfl, oneP, if_neg (by omega)]
    rw [if_pos (it.takes _), List.tail_cons, h f (n + 1) T rest (by omega) (by omega) hT hr]
theorem C1_all (k : Nat) (hk : k < 4) (b : List ByteArray) (hb : ∀ s ∈ b, nameF s = true) (hl : b.length ≤ 8) (q : Qn) (hq : Wf q) (h : C3 q) : C1 (.mk (8 + k) 0 [] 0 b q .nil) := by
  intro f n T rest hf hd hT hr
  rw [atX_all k hk _ _ _ (Nat.le_refl _)] at hT hf
  obtain ⟨t, T, rfl, ht, hT⟩ := cons_map hT
  have it := isT_wL ht
  obtain ⟨T1, T2, rfl, hT1, hT2⟩ := app_map hT
  obtain ⟨a, T1, z, rfl, ha, hz, hT1⟩ := par_map hT1
  rw [dep_all k hk _ _ _ (Nat.le_refl _)] at hd
  simp only [List.length_cons, List.length_append, parX, List.length_nil] at hf
  cases f with
  | zero => omega
  | succ f =>
    have hm1 := alls_mark hk
    have et : t.text = allsL.getD k ⟨#[]⟩ := by rw [it.1, bS_bL]
    have e0 : t :: (a :: (T1 ++ [z]) ++ T2) ++ rest = t :: a :: (T1 ++ (z :: (T2 ++ rest))) := by simp
    rw [e0, oneP, if_neg (by omega)]
    rw [if_neg (by rw [it.not _ (hm1 _)]; exact Bool.false_ne_true)]
    rw [if_neg (by rw [it.not _ (hm1 _)]; exact Bool.false_ne_true)]
    rw [if_neg (by show ¬ t.kind = 2; rw [(st_mk ht).1]; exact (by decide : (1 : Int) ≠ 2))]
    rw [if_neg (by rw [it.noti _ (hm1 _)]; exact Bool.false_ne_true)]
    rw [find_no _ (fun s hs => by rw [et]; exact alls_overs hk s hs)]
    simp only
    rw [find_yes alls_ne _ (by rw [alls_len]; exact hk) et it.2.1]
    simp only
    rw [mustP_yes _ et it.2.1 it.2.2]
    simp only
    rw [ha.must]
    simp only
    rw [h.sum hq (by omega) (by omega) hT1 (hz.r0 _ (by decide) (by decide) (by decide) (by decide))]
    simp only
    rw [hz.must]
    simp only
    cases b with
    | nil =>
      cases nil_map hT2
      rw [List.nil_append, if_neg (by rw [hr]; exact Bool.false_ne_true)]
    | cons s b =>
      have : bysX (s :: b) = ⟨1, [98, 121], 1, 1⟩ :: parX (byX (s :: b)) := rfl
      rw [this] at hT2
      obtain ⟨y, T2, rfl, hy, hT2⟩ := cons_map hT2
      have iy : isT y [98, 121] := isT_wL hy
      obtain ⟨a2, T3, z2, rfl, ha2, hz2, hT3⟩ := par_map hT2
      have e1 : y :: a2 :: (T3 ++ [z2]) ++ rest = y :: a2 :: (T3 ++ (z2 :: rest)) := by simp
      rw [e1, if_pos (iy.takes _), List.tail_cons, ha2.must]
      simp only
      rw [namesL_yes (s :: b) [] _ T3 (z2 :: rest) (by simp) hb (by simpa using hl) (by
        have : T3.length = (byX (s :: b)).length := len_map hT3
        have h8 : ∀ (b : List ByteArray) s, (s :: b).length ≤ (byX (s :: b)).length := by
          intro b
          induction b with
          | nil => intro s; exact Nat.le_refl _
          | cons x b ih =>
            intro s
            have e : byX (s :: x :: b) = wL (bL s) :: ⟨0, [44], 4, 1⟩ :: byX (x :: b) := rfl
            have := ih x
            rw [e]
            simp only [List.length_cons] at this ⊢
            omega
        have := h8 b s
        simp only [List.length_append]
        omega) hT3 (hz2.not _ (by decide))]
      simp only [List.nil_append]
      rw [hz2.must]
theorem complete {q : Qn} (hq : Wf q) : C1 q ∧ C2 q ∧ C3 q := by
  have up : ∀ {q : Qn}, Wf q → lvl q.code = 2 → C1 q → C1 q ∧ C2 q ∧ C3 q := by
    intro q hq hl h1
    cases q with
    | nil => cases hq
    | mk c n m s b l r =>
      have hl : lvl c = 2 := hl
      have hk1 : k1 (.mk c n m s b l r) = 0 := by rw [k1, hl]; rfl
      have hk0 : k0 (.mk c n m s b l r) = 0 := by rw [k0, hl]; rfl
      have hx : ∀ a d, a ≤ 2 → d ≤ 2 → atX (.mk c n m s b l r) a = atX (.mk c n m s b l r) d := fun a d ha hd => by
        rw [atX, atX, hl, decide_eq_false (by omega), decide_eq_false (by omega)]
      have hd : ∀ a d, a ≤ 2 → d ≤ 2 → dep (.mk c n m s b l r) a = dep (.mk c n m s b l r) d := fun a d ha hd => by
        rw [dep, dep, hl, if_neg (show ¬ 2 < a by omega), if_neg (show ¬ 2 < d by omega)]
      have h2 := C2_of h1 (hx _ _ (by decide) (by decide)) (hd _ _ (by decide) (by decide)) hk1
      exact ⟨h1, h2, C3_of hq h2 (hx _ _ (by decide) (by decide)) (hd _ _ (by decide) (by decide)) hk0⟩
  induction hq with
  | num n h0 h1 => exact up (.num n h0 h1) rfl (C1_num n h0 h1)
  | pick m h => exact up (.pick m h) rfl (C1_pick m h)
  | over k hk m h sp h1 h2 => exact up (.over k hk m h sp h1 h2) (by show lvl (3 + k) = 2; rw [lvl, if_neg (by omega), if_neg (by omega)]) (C1_over k hk m h sp h1 h2)
  | all k hk b hb hl q hq ih => exact up (.all k hk b hb hl q hq) (by show lvl (8 + k) = 2; rw [lvl, if_neg (by omega), if_neg (by omega)]) (C1_all k hk b hb hl q hq ih.2.2)
  | neg q hq ih => exact up (.neg q hq) rfl (C1_neg q ih.1)
  | add k hk l r hl hr ih1 ih2 =>
    have hw := Wf.add k hk l r hl hr
    have hk0 : k0 (.mk (13 + k) 0 [] 0 [] l r) = k0 l + 1 := by rw [k0, lvl_add k hk]; rfl
    have hk1 : k1 (.mk (13 + k) 0 [] 0 [] l r) = 0 := by rw [k1, lvl_add k hk]; rfl
    have h3 : C3 (.mk (13 + k) 0 [] 0 [] l r) := by
      rcases (show k = 0 ∨ k = 1 by omega) with rfl | rfl
      · exact C3_bin binC13 hl hr ih1.2.2 ih2.2.1 hk0 sumL_13 (by decide) (by decide)
      · exact C3_bin binC14 hl hr ih1.2.2 ih2.2.1 hk0 sumL_14 (by decide) (by decide)
    have h1 := C1_par hw h3 (by rw [atX_add k hk, atX_add k hk]; rfl) (by rw [dep_add k hk, dep_add k hk, if_pos (by decide), if_neg (by decide), Nat.zero_add])
    exact ⟨h1, C2_of h1 (by rw [atX_add k hk, atX_add k hk]; rfl) (by rw [dep_add k hk, dep_add k hk]; rfl) hk1, h3⟩
  | mul k hk l r hl hr ih1 ih2 =>
    have hw := Wf.mul k hk l r hl hr
    have hk0 : k0 (.mk (15 + k) 0 [] 0 [] l r) = 0 := by rw [k0, lvl_mul k hk]; rfl
    have hk1 : k1 (.mk (15 + k) 0 [] 0 [] l r) = k1 l + 1 := by rw [k1, lvl_mul k hk]; rfl
    have h2 : C2 (.mk (15 + k) 0 [] 0 [] l r) := by
      rcases (show k = 0 ∨ k = 1 by omega) with rfl | rfl
      · exact C2_bin binC15 hl ih1.2.1 ih2.1 hk1 prodL_15
      · exact C2_bin binC16 hl ih1.2.1 ih2.1 hk1 prodL_16
    have h3 := C3_of hw h2 (by rw [atX_mul k hk, atX_mul k hk]; rfl) (by rw [dep_mul k hk, dep_mul k hk]; rfl) hk0
    exact ⟨C1_par hw h3 (by rw [atX_mul k hk, atX_mul k hk]; rfl) (by rw [dep_mul k hk, dep_mul k hk, if_pos (by decide), if_neg (by decide), Nat.zero_add]), h2, h3⟩
end Go.PL
/-
  Plain laws: questions: what is read of a text is read just so of what is printed. No program is in sight.
-/
namespace Go.PL
open Go Go.GK

theorem bget (s : ByteArray) (i : Nat) : s[i]? = (bL s)[i]? := by
  by_cases h : i < s.size
  · rw [getElem?_pos s i h, List.getElem?_eq_getElem (by rw [bL_len]; exact h)]
    obtain ⟨d⟩ := s
    simp [bL]
    rfl
  · rw [getElem?_neg s i h, List.getElem?_eq_none (by rw [bL_len]; omega)]
theorem anyB_no {n : Nat} {p : Nat → Bool} (h : anyB n p = false) {i : Nat} (hi : i < n) : p i = false := by
  cases hp : p i with
  | false => rfl
  | true => rw [anyB_true hi hp] at h; cases h
theorem name_tx {s : ByteArray} (h : nameF s = true) : TxOk 1 (bL s) := by
  rw [nameF, Bool.and_eq_true, decide_eq_true_iff, Bool.not_eq_true'] at h
  obtain ⟨h1, h2, _⟩ := h
  have hb : ∀ (i : Nat) (c : UInt8), (bL s)[i]? = some c → letB c = true ∨ (i ≠ 0 ∧ digB c = true) := by
    intro i c hc
    have hi : i < s.size := by
      rw [← bL_len]
      exact (List.getElem?_eq_some_iff.1 hc).1
    have := anyB_no h1 hi
    rw [nbad, bget, hc] at this
    simp only [Bool.and_eq_false_iff, Bool.or_eq_false_iff, Bool.not_eq_false', beq_eq_false_iff_ne] at this
    exact this
  refine .inl ⟨rfl, ?_⟩
  cases hl : bL s with
  | nil =>
    have := bL_len s
    rw [hl] at this
    simp at this
    omega
  | cons c r =>
    refine ⟨c, r, rfl, ?_, fun b hb' => ?_⟩
    · rcases hb 0 c (by rw [hl]; rfl) with h | h
      · exact h
      · exact absurd rfl h.1
    · obtain ⟨i, hi, e⟩ := List.getElem_of_mem hb'
      rcases hb (i + 1) b (by rw [hl, List.getElem?_cons_succ, List.getElem?_eq_getElem hi, e]) with h | h
      · rw [h]; rfl
      · rw [h.2, Bool.or_true]
theorem value_tx {s : ByteArray} (h : valueF s = true) : TxOk 3 (34 :: bL s ++ [34]) := by
  rw [valueF, Bool.and_eq_true, decide_eq_true_iff, Bool.not_eq_true'] at h
  refine .inr (.inr (.inl ⟨rfl, bL s, rfl, fun b hb => ?_⟩))
  obtain ⟨i, hi, e⟩ := List.getElem_of_mem hb
  have := anyB_no h.1 (i := i) (by rw [← bL_len]; exact hi)
  rw [vbad, bget, List.getElem?_eq_getElem hi, e] at this
  simp only [Bool.or_eq_false_iff, decide_eq_false_iff_not] at this
  exact this.2.2.1
theorem itoa_tx {n : Int} (h0 : 0 ≤ n) (h1 : n < 1000000000000000000) : TxOk 2 (Lib.itoa n) :=
  .inr (.inl ⟨rfl, (itoa_dig h0).2, itoa_len h0 (by decide) (by simpa using h1), (itoa_dig h0).1⟩)
theorem ops_tx {k : Nat} (hk : k < 4) : bL (opsL.getD k ⟨#[]⟩) ∈ marksL := by
  have hh : ∀ k : Fin 4, bL (opsL.getD k.val ⟨#[]⟩) ∈ marksL := by decide
  exact hh ⟨k, hk⟩
theorem overs_tx {k : Nat} (hk : k < 5) : TxOk 1 (bL (oversL.getD k ⟨#[]⟩)) := by
  have hh : ∀ k : Fin 5, nameF (oversL.getD k.val ⟨#[]⟩) = true := by decide
  exact name_tx (hh ⟨k, hk⟩)
theorem alls_tx {k : Nat} (hk : k < 4) : TxOk 1 (bL (allsL.getD k ⟨#[]⟩)) := by
  have hh : ∀ k : Fin 4, nameF (allsL.getD k.val ⟨#[]⟩) = true := by decide
  exact name_tx (hh ⟨k, hk⟩)
def XOk (l : List Lx) : Prop := (∀ x ∈ l, x.Ok) ∧ chn l
theorem XOk.nil : XOk [] := ⟨fun _ h => (by cases h), trivial⟩
theorem XOk.cons {x : Lx} {l : List Lx} (h : x.Ok) (hx : x.kind = 4 ∨ x.kind = 3 ∨ x.post ≠ 0) (hl : XOk l) : XOk (x :: l) :=
  ⟨fun y hy => by
    rcases List.mem_cons.1 hy with rfl | hy
    · exact h
    · exact hl.1 y hy, chn_cons hx hl.2⟩
theorem XOk.one {x : Lx} (h : x.Ok) : XOk [x] := ⟨fun y hy => by rw [List.mem_singleton.1 hy]; exact h, trivial⟩
theorem XOk.app {a : List Lx} {y : Lx} {b : List Lx} (ha : XOk a) (h : y.kind = 4 ∨ y.pre ≠ 0) (hb : XOk (y :: b)) : XOk (a ++ y :: b) :=
  ⟨fun z hz => by
    rcases List.mem_append.1 hz with hz | hz
    · exact ha.1 z hz
    · exact hb.1 z hz, chn_app ha.2 h hb.2⟩
theorem XOk.word {x y : Lx} {l : List Lx} (h : x.Ok) (hy : y.kind = 4 ∨ y.pre ≠ 0) (hl : XOk (y :: l)) : XOk (x :: y :: l) := XOk.app (a := [x]) (.one h) hy hl
theorem mark_ok {l : List UInt8} (h : l ∈ marksL) : (mL l).Ok := .inr (.inr (.inr ⟨rfl, h⟩))
theorem XOk.par {x : List Lx} (h : XOk x) : XOk (parX x) := .cons (mark_ok (by decide)) (.inl rfl) (.app h (.inl rfl) (.one (mark_ok (by decide))))
theorem mtX_ok {m : Mt} (h : MOk m) : XOk (mtX m) := by
  obtain ⟨h1, h2, h3, h4⟩ := h
  exact .word (name_tx h1) (.inl rfl) (.cons (mark_ok (ops_tx (by omega))) (.inl rfl) (.one (value_tx h2)))
theorem sepX_ok {y : Lx} (hy : y.Ok) (hk : y.kind = 4) : ∀ {l : List (List Lx)}, (∀ x ∈ l, XOk x) → XOk (sepX y l)
  | [], _ => .nil
  | [x], h => h x List.mem_cons_self
  | x :: z :: r, h => .app (h x List.mem_cons_self) (.inl hk) (.cons hy (.inl hk) (sepX_ok hy hk fun a ha => h a (List.mem_cons_of_mem _ ha)))
theorem msX_ok {l : List Mt} (h : MsOk l) : XOk (msX l) := by
  refine .cons (mark_ok (by decide)) (.inl rfl) (.app (sepX_ok (mark_ok (by decide)) rfl fun x hx => ?_) (.inl rfl) (.one (mark_ok (by decide))))
  obtain ⟨m, hm, rfl⟩ := List.mem_map.1 hx
  exact mtX_ok (h.1 m hm)
theorem byX_ok {b : List ByteArray} (h : ∀ s ∈ b, nameF s = true) : XOk (byX b) := by
  refine sepX_ok (y := ⟨0, [44], 4, 1⟩) (.inr (.inr (.inr ⟨rfl, by decide⟩))) rfl fun x hx => ?_
  obtain ⟨s, hs, rfl⟩ := List.mem_map.1 hx
  exact .one (name_tx (h s hs))
theorem by_tx : TxOk 1 [98, 121] := name_tx (s := bS [98, 121]) (by decide)
theorem ifP_ok {b : Bool} {x : List Lx} (h : XOk x) : XOk (ifP b x) := by
  cases b with
  | false => exact h
  | true => exact h.par
theorem bin_ok (c : Int) : (binX c).Ok := by
  refine .inr (.inr (.inr ⟨rfl, ?_⟩))
  show symX c ∈ marksL
  unfold symX
  split
  · decide
  · split
    · decide
    · split <;> decide
theorem atX_ok {q : Qn} (hq : Wf q) : ∀ least, least ≤ 2 → XOk (atX q least) := by
  induction hq with
  | num n h0 h1 => exact fun a ha => by rw [atX_num n a ha]; exact .one (itoa_tx h0 h1)
  | pick m h => exact fun a ha => by rw [atX_pick m a ha]; exact msX_ok h
  | over k hk m h sp h1 h2 =>
    intro a ha
    rw [atX_over k hk m sp a ha]
    exact .word (overs_tx hk) (.inl rfl) (.par (.app (msX_ok h) (.inl rfl) (.cons (mark_ok (by decide)) (.inl rfl) (.word (itoa_tx (by omega) (by omega)) (.inl rfl) (.one (mark_ok (by decide)))))))
  | all k hk b hb hl q hq ih =>
    intro a ha
    rw [atX_all k hk b q a ha]
    refine .word (l := atX q 0 ++ [mL [41]] ++ bysX b) (alls_tx hk) (.inl rfl) ?_
    have hp := (ih 0 (by decide)).par
    cases b with
    | nil => simpa [bysX, parX] using hp
    | cons s b =>
      have := XOk.app hp (.inr (show (⟨1, [98, 121], 1, 1⟩ : Lx).pre ≠ 0 by decide)) (.cons (x := ⟨1, [98, 121], 1, 1⟩) by_tx (.inr (.inr (by decide))) (byX_ok hb).par)
      simpa [bysX, parX] using this
  | neg q hq ih => exact fun a ha => by rw [atX_neg q a ha]; exact .cons (mark_ok (by decide)) (.inl rfl) (ih 2 (by decide))
  | add k hk l r hl hr ih1 ih2 => exact fun a ha => by rw [atX_add k hk]; exact ifP_ok (.app (ih1 0 (by decide)) (.inl rfl) (.cons (bin_ok _) (.inl rfl) (ih2 1 (by decide))))
  | mul k hk l r hl hr ih1 ih2 => exact fun a ha => by rw [atX_mul k hk]; exact ifP_ok (.app (ih1 1 (by decide)) (.inl rfl) (.cons (bin_ok _) (.inl rfl) (ih2 2 (by decide))))

def slim (l : List Lx) : Prop := ∀ x ∈ l, x.pre + x.post ≤ 2
theorem slim_bytes : ∀ {l : List Lx}, slim l → (bytesL l).length ≤ wx 2 l
  | [], _ => Nat.le_refl _
  | x :: l, h => by
    have h1 := h x List.mem_cons_self
    have h2 := slim_bytes fun y hy => h y (List.mem_cons_of_mem _ hy)
    rw [bytesL_cons, wx_cons, List.length_append, Lx.bytes]
    simp only [List.length_append, spc, List.length_replicate]
    omega
theorem slim_app {a b : List Lx} (ha : slim a) (hb : slim b) : slim (a ++ b) := fun x hx => by
  rcases List.mem_append.1 hx with hx | hx
  · exact ha x hx
  · exact hb x hx
theorem slim_cons {a : Lx} {b : List Lx} (ha : a.pre + a.post ≤ 2) (hb : slim b) : slim (a :: b) := fun x hx => by
  rcases List.mem_cons.1 hx with rfl | hx
  · exact ha
  · exact hb x hx
theorem slim_nil : slim [] := fun _ h => by cases h
theorem slim_par {x : List Lx} (h : slim x) : slim (parX x) := slim_cons (by decide) (slim_app h (slim_cons (by decide) slim_nil))
theorem slim_sep {y : Lx} (hy : y.pre + y.post ≤ 2) : ∀ {l : List (List Lx)}, (∀ x ∈ l, slim x) → slim (sepX y l)
  | [], _ => slim_nil
  | [x], h => h x List.mem_cons_self
  | x :: z :: r, h => slim_app (h x List.mem_cons_self) (slim_cons hy (slim_sep hy fun a ha => h a (List.mem_cons_of_mem _ ha)))
theorem slim_ms (l : List Mt) : slim (msX l) := by
  refine slim_cons (by decide) (slim_app (slim_sep (by decide) fun x hx => ?_) (slim_cons (by decide) slim_nil))
  obtain ⟨m, _, rfl⟩ := List.mem_map.1 hx
  exact slim_cons (Nat.zero_le _) (slim_cons (Nat.zero_le _) (slim_cons (Nat.zero_le _) slim_nil))
theorem slim_bys (b : List ByteArray) : slim (bysX b) := by
  cases b with
  | nil => exact slim_nil
  | cons s b =>
    refine slim_cons (by decide) (slim_par (slim_sep (by decide) fun x hx => ?_))
    obtain ⟨m, _, rfl⟩ := List.mem_map.1 hx
    exact slim_cons (Nat.zero_le _) slim_nil
theorem slim_if {b : Bool} {x : List Lx} (h : slim x) : slim (ifP b x) := by
  cases b with
  | false => exact h
  | true => exact slim_par h
theorem slim_at (q : Qn) : ∀ a, slim (atX q a) := by
  induction q with
  | nil => exact fun a => slim_nil
  | mk c n m s b l r ih1 ih2 =>
    intro a
    unfold atX
    refine slim_if ?_
    split
    · exact slim_cons (Nat.zero_le _) slim_nil
    split
    · exact slim_ms m
    split
    · exact slim_cons (Nat.zero_le _) (slim_par (slim_app (slim_ms m) (slim_cons (Nat.zero_le _) (slim_cons (Nat.zero_le _) (slim_cons (Nat.zero_le _) slim_nil)))))
    split
    · exact slim_cons (Nat.zero_le _) (slim_app (slim_par (ih1 0)) (slim_bys b))
    split
    · exact slim_cons (Nat.zero_le _) (ih1 2)
    split
    · exact slim_app (ih1 _) (slim_cons (Nat.le_refl _) (ih2 _))
    · exact slim_nil

theorem lex_all {X : List Lx} (h : XOk X) (hn : X.length ≤ 120) : ∃ l e, tokF (bytesL X) ((bytesL X).length + 1) 0 0 = .ok (l ++ [e]) ∧ l.map Tok.st = X.map Lx.st ∧ e.kind = 5 ∧ e.text = bS [] := by
  have hlen : X.length ≤ (bytesL X).length := by
    have : ∀ X : List Lx, (∀ x ∈ X, x.Ok) → X.length ≤ (bytesL X).length := by
      intro X
      induction X with
      | nil => intro _; exact Nat.le_refl _
      | cons x X ih =>
        intro hx
        have h1 := ih fun y hy => hx y (List.mem_cons_of_mem _ hy)
        have h2 := (lex_ok (hx x List.mem_cons_self) [] (fun _ _ h => (by cases h)) (fun _ _ h => (by cases h))).2.1
        have h3 : 0 < x.text.length := by cases ht : x.text with | nil => exact absurd ht h2 | cons c t => simp
        rw [bytesL_cons, List.length_append, Lx.bytes]
        simp only [List.length_append, List.length_cons]
        omega
    exact this X h.1
  obtain ⟨l, h1, h2⟩ := tok_ok (bytesL X) X ((bytesL X).length + 1) 0 0 0 h.1 h.2 (by simp [spc]) (Nat.zero_le _) (by omega) (by omega)
  obtain ⟨l1, l2, rfl, h3, h4⟩ := List.map_eq_append_iff.1 h2
  obtain ⟨e, l2, rfl, h5, h6⟩ := List.map_eq_cons_iff.1 h4
  rw [List.map_eq_nil_iff] at h6
  subst h6
  exact ⟨l1, e, h1, h3, congrArg Prod.fst h5, congrArg Prod.snd h5⟩
theorem end_r0 {e : Tok} (h : e.text = bS []) : R0 [e] := by
  have : ∀ b l, takesP (bS (b :: l)) [e] = false := fun b l => takesP_no _ (by rw [h]; exact fun h => by cases bS_inj h)
  exact ⟨⟨this _ _, this _ _, this _ _⟩, this _ _, this _ _⟩
theorem print_parse {s : List UInt8} (hs : s.length ≤ 600) {q : Qn} (h : parseF s = .ok q) : Wf q ∧ parseF (bytesL (atX q 0)) = .ok q ∧ (bytesL (atX q 0)).length ≤ 1000 := by
  rw [parseF] at h
  cases hT : tokF s (s.length + 1) 0 0 with
  | error e => rw [hT] at h; cases h
  | ok l =>
    rw [hT] at h
    simp only at h
    obtain ⟨hE, hl⟩ := tok_toks s (by omega) _ _ _ _ hT (by omega)
    have hw := tok_wt s _ _ _ _ hT
    cases hP : sumP (3 * l.length + 3) 0 l with
    | error e => rw [hP] at h; cases h
    | ok r =>
      obtain ⟨q1, l'⟩ := r
      rw [hP] at h
      simp only at h
      by_cases hk : (hdT l').kind ≠ 5
      · rw [if_pos hk] at h; cases h
      rw [if_neg hk] at h
      cases h
      obtain ⟨g1, g2, g3, g4⟩ := (sound _).2.2.2.2 0 l q l' hP hE
      obtain ⟨e, l', rfl⟩ := g4.cons
      have w1 : (atX q 0).length ≤ 120 := by
        have a1 := g3 1000
        have a2 := hw 1000
        rw [wt_cons] at a1
        have a3 : 1000 * (atX q 0).length ≤ wx 1000 (atX q 0) := by
          have : ∀ X : List Lx, 1000 * X.length ≤ wx 1000 X := by
            intro X
            induction X with
            | nil => exact Nat.le_refl _
            | cons x X ih => rw [wx_cons, List.length_cons]; omega
          exact this _
        omega
      have w2 : (bytesL (atX q 0)).length ≤ 1000 := by
        have a1 := g3 2
        have a2 := hw 2
        have a3 := slim_bytes (slim_at q 0)
        omega
      refine ⟨g1, ?_, w2⟩
      obtain ⟨T, e, h1, h2, h3, h4⟩ := lex_all (atX_ok g1 0 (by decide)) w1
      rw [parseF, h1]
      simp only
      rw [(complete g1).2.2.sum g1 (by
        have := len_map h2
        rw [List.length_append, this]
        omega) g2 h2 (end_r0 h4)]
      simp only
      rw [if_neg (by
        show ¬ e.kind ≠ 5
        rw [h3]
        decide)]
end Go.PL
/-
  Plain laws: a text of matchers within a greater question. No program is in sight.
-/
namespace Go.PL
open Go Go.GK
end Go.PL
/-
  Plain laws: a source of right series; answers at another time; how many points there are. No program is in sight.
-/
namespace Go.PL
open Go Go.GK
structure SerOk (l : List Ser) : Prop where
  ris : RisS l
  len : l.length ≤ 100
  val : ∀ x ∈ l, ∀ y ∈ x.samples, I64 y.value
  small : ∀ x ∈ l, x.labels.length ≤ 1000000 ∧ x.samples.length ≤ 100000
theorem src_mem {l : List Ser} {m : List Mt} {f t : Int} {z : Ser} (h : z ∈ srcF l m f t) : ∃ x ∈ l, z = ⟨x.labels, x.samples.filter (inT f t)⟩ := by
  obtain ⟨x, hx, h⟩ := List.mem_filterMap.1 h
  split at h
  · cases h; exact ⟨x, hx, rfl⟩
  · cases h
theorem src_b {l : List Ser} (h : SerOk l) : SrcB (srcF l) := by
  refine ⟨⟨fun m f t => ?_, fun m f t => Nat.le_trans (List.length_filterMap_le _ _) h.len, fun m f t z hz y hy => ?_⟩, fun m f t z hz => ?_⟩
  · refine List.Pairwise.filterMap _ (fun x y hxy u hu v hv => ?_) h.ris
    have e1 : u.labels = x.labels := by split at hu <;> cases hu; rfl
    have e2 : v.labels = y.labels := by split at hv <;> cases hv; rfl
    rw [e1, e2]
    exact hxy
  · obtain ⟨x, hx, rfl⟩ := src_mem hz
    exact h.val x hx y (List.mem_filter.1 hy).1
  · obtain ⟨x, hx, rfl⟩ := src_mem hz
    have := h.small x hx
    exact ⟨this.1, Nat.le_trans (List.length_filter_le _ _) this.2⟩
theorem later_ok {l : List Ser} (d : Int) (h : SerOk l) : SerOk (laterF d l) := by
  unfold laterF
  refine ⟨?_, by rw [List.length_map]; exact h.len, fun x hx y hy => ?_, fun x hx => ?_⟩
  · show List.Pairwise _ _
    rw [List.pairwise_map]
    exact h.ris
  · obtain ⟨z, hz, rfl⟩ := List.mem_map.1 hx
    obtain ⟨w, hw, rfl⟩ := List.mem_map.1 hy
    exact h.val z hz w hw
  · obtain ⟨z, hz, rfl⟩ := List.mem_map.1 hx
    have := h.small z hz
    exact ⟨this.1, by show (laterS d z.samples).length ≤ _; unfold laterS; rw [List.length_map]; exact this.2⟩
def asksF (S : List Ser) (s : List UInt8) (t : Int) : Option (List Pt) := match parseF s with
  | .error _ => none
  | .ok q => match evalF (srcF S) t q with
    | .error _ => none
    | .ok a => some a.1
end Go.PL
/-
  Contracts: a source of series (package raingaugekeep), and what is asked of it.
-/
namespace Go.Proofs.YtkoalgjlkcaonaaGreatDoor
open Go.GK Go.PL Go.RowKit
set_option maxRecDepth 100000
theorem src_snoc (S : List Ser) (m : List Mt) (f t : Int) (i : Nat) (h : i < S.length) : srcF (S.take (i + 1)) m f t = srcF (S.take i) m f t ++ (if S[i].samples.filter (inT f t) ≠ [] ∧ allF S[i].labels m = true then [⟨S[i].labels, S[i].samples.filter (inT f t)⟩] else []) := by
  unfold srcF
  rw [List.take_add_one, List.getElem?_eq_getElem h, List.filterMap_append]
  congr 1
  by_cases h0 : S[i].samples.filter (inT f t) ≠ [] ∧ allF S[i].labels m = true
  · rw [if_pos h0]
    show List.filterMap _ [S[i]] = _
    rw [List.filterMap_cons, if_pos h0]
    rfl
  · rw [if_neg h0]
    show List.filterMap _ [S[i]] = _
    rw [List.filterMap_cons, if_neg h0]
    rfl
theorem source1_rt (S : List Ser) (hl : S.length ≤ 100) (hs : ∀ x ∈ S, x.samples.length ≤ 100000) (m : List Mt) (f t : Int) (hm : m.length ≤ 8) :
    Rt pg 63 [.sl 3 (m.map mt), gi f, gi t, .r [ses S]] (.tup [ses (srcF S m f t), .v .nilIface]) := by
  refine Rt.of pg_ok Tryz.func63 rfl Tryz.ntmps63 rfl Tryz.results63 Tryz.call63 fun H0 S0 w0 h0 g0 => ?_
  have hll : (S.map se).length = S.length := by simp
  refine JK.ownNil 9 31 2 rfl ?_
  refine JK.loopE (α := Nat) (β := Unit) (fun i => ⟨[(0, .sl 3 (m.map mt)), (1, gi f), (2, gi t), (3, .r [ses S]), (9, .o 0), (10, gi i)], [(0, .row 31 2 ((srcF (S.take i) m f t).map se))], 1⟩) (fun i => i ≤ S.length) (fun i => S.length - i)
    (fun _ => ⟨[(9, .o 0)], [(0, .row 31 2 ((srcF S m f t).map se))], 1⟩) (fun _ => True) 0 id ?_ (Nat.zero_le _) ?_ ?_
  · exact ⟨⟨rfl, rfl, rfl, rfl, rfl, rfl, trivial⟩, ⟨rfl, trivial⟩, rfl⟩
  · intro i hi
    refine V ?_
    by_cases hlt : i < S.length
    · have hst := src_snoc S m f t i hlt
      have hAl : (srcF (S.take i) m f t).length ≤ i := Nat.le_trans (List.length_filterMap_le _ _) (by rw [List.length_take]; omega)
      generalize srcF (S.take i) m f t = A at hst hAl ⊢
      have hbt := between_rt S[i].samples f t (hs _ (List.getElem_mem hlt))
      generalize hX : S[i].samples.filter (inS f t) = X at hbt
      have hX' : S[i].samples.filter (inT f t) = X := hX
      rw [hX'] at hst
      have hXl : (X.map sm).length = X.length := by simp
      have hall := lall_rt S[i].labels m (by omega)
      refine p1 ?_ (decide_eq_true (by omega))
      refine ix (h := ?_)
      refine GO hbt rfl ?_
      by_cases h0 : X = []
      · subst h0
        refine p2 ?_ (decide_eq_false (by decide))
        refine ⟨i + 1, id, ⟨⟨rfl, rfl, rfl, rfl, rfl, succ_gi (by omega), trivial⟩, ⟨?_, trivial⟩, rfl⟩, hlt, by show S.length - (i + 1) < S.length - i; omega⟩
        rw [hst, if_neg (fun h => h.1 rfl), List.append_nil]
        rfl
      · have hpos : 0 < X.length := List.length_pos_iff.2 h0
        refine p1 ?_ (decide_eq_true (by rw [hXl]; omega))
        refine ix (h := ?_)
        rcases tf (allF S[i].labels m) with h1 | h1
        · refine GO (hall.bt h1) rfl ?_
          repeat (first | refine p1 ?_ | refine p2 ?_ | refine p3 ?_ | refine p4 ?_)
          refine ix (h := ?_)
          refine ⟨by simp only [List.length_map, List.length_cons, List.length_nil]; omega, ?_⟩
          refine ⟨i + 1, fun _ => 2, ⟨⟨rfl, rfl, rfl, rfl, rfl, succ_gi (by omega), trivial⟩, ⟨?_, trivial⟩, rfl⟩, hlt, by show S.length - (i + 1) < S.length - i; omega⟩
          rw [hst, if_pos ⟨h0, h1⟩, List.map_append]
          rfl
        · refine GO (hall.bt h1) rfl ?_
          repeat (first | refine p1 ?_ | refine p2 ?_ | refine p3 ?_ | refine p4 ?_)
          refine ⟨i + 1, id, ⟨⟨rfl, rfl, rfl, rfl, rfl, succ_gi (by omega), trivial⟩, ⟨?_, trivial⟩, rfl⟩, hlt, by show S.length - (i + 1) < S.length - i; omega⟩
          rw [hst, if_neg (fun h => by rw [h1] at h; cases h.2), List.append_nil]
          rfl
    · refine p2 ?_ (decide_eq_false (by omega))
      obtain rfl : i = S.length := by omega
      rw [List.take_length]
      exact ⟨(), id, ⟨⟨rfl, trivial⟩, ⟨rfl, trivial⟩, rfl⟩, trivial⟩
  · rintro _ _
    refine FRZ 0 rfl ?_
    exact ⟨⟨rfl, rfl, trivial⟩, rfl⟩
theorem source_c {S : List Ser} (h : SerOk S) : SrcC 63 S (srcF S) :=
  ⟨fun m lo hi hm => source1_rt S h.len (fun x hx => (h.small x hx).2) m lo hi hm, (src_b h).ok, (src_b h).small⟩
theorem source_rt (S : List Ser) : Rt pg 29 [ses S] (srcG 63 S) := by
  refine Rt.ofJ pg_ok Tryz.func29 rfl Tryz.ntmps29 rfl Tryz.results29 Tryz.call29 fun H0 S0 w0 h0 g0 => ?_
  refine VM 8 ?_
  refine FZB 0 rfl rfl ?_
  exact ⟨rfl, rfl⟩
theorem samePK_rt (l : List Pt) : Rt pg 10 [pts l, pts l] (.b true) := by
  refine Rt.of pg_ok Tryz.func10 rfl Tryz.ntmps10 rfl Tryz.results10 Tryz.call10 fun H0 S0 w0 h0 g0 => ?_
  refine p2 ?_ (by simp)
  refine JK.len 0 rfl fun hlen _ => ?_
  have hlen' : l.length ≤ 9223372036854775807 := by simpa [maxLen] using hlen
  refine JK.loop (α := Nat) (fun i => ⟨[(0, pts l), (1, pts l), (5, gi i)], [], 0⟩) (fun i => i ≤ l.length) (fun i => l.length - i) 0 id ?_ (Nat.zero_le _) ?_
  · exact ⟨⟨rfl, rfl, rfl, trivial⟩, trivial, rfl⟩
  · intro i hi
    refine V ?_
    by_cases h : i < l.length
    · refine p1 ?_ (decide_eq_true (by simp only [List.length_map]; omega))
      have hc := lcompare_rt l[i].labels l[i].labels
      rw [show cmpF l[i].labels l[i].labels = 0 from (cmpF_is.eq0 _ _).2 rfl] at hc
      refine DRAW [] false (tk [0, 1, 2, 3, 4, 5, 6, 7, 8, 9, 10, 11, 12, 13, 14, 15, 16, 17, 18, 19, 20, 21]) (by kernel_rfl) ?_
      refine ix (h := ?_)
      refine ix (h := ?_)
      have hne : (l[i].value != l[i].value) = false := by simp
      refine p4 ?_ hne
      refine ix (h := ?_)
      refine ix (h := ?_)
      refine RGO 22 true (tk [23, 24]) hc rfl (congrArg (fun c => bif (c == false) then some (13, [lbs l[i].labels, lbs l[i].labels]) else none) hne) (by kernel_rfl) ?_
      refine V ?_
      refine p2 ?_
      exact ⟨i + 1, id, ⟨⟨rfl, rfl, succ_gi (by omega), trivial⟩, trivial, rfl⟩, h, by show l.length - (i + 1) < l.length - i; omega⟩
    · refine p2 ?_ (decide_eq_false (by simp only [List.length_map]; omega))
      refine V ?_
      exact ⟨rfl, rfl⟩
def asksG : Option (List Pt) → GV
  | some l => .tup [pts l, .v (.bool true)]
  | none => .tup [.v (.slice none 0 0), .v (.bool false)]
theorem asks_rt {S : List Ser} (hS : SerOk S) (s : ByteArray) (hs : s.size ≤ 600) (t : Int) (h1 : -1099511627776 ≤ t) (h2 : t ≤ 1099511627776) :
    Rt pg 9 [ses S, gs s, gi t] (asksG (asksF S s.data.toList t)) := by
  have hss : s.data.toList.length ≤ 600 := by simpa using hs
  have hp := parse_rt s (by omega)
  unfold asksF
  refine Rt.of pg_ok Tryz.func9 rfl Tryz.ntmps9 rfl Tryz.results9 Tryz.call9 fun H0 S0 w0 h0 g0 => ?_
  cases hP : parseF s.data.toList with
  | error ep =>
    obtain ⟨e, p⟩ := ep
    rw [hP] at hp
    refine GO hp rfl ?_
    refine p1 ?_ rfl
    exact ⟨⟨rfl, rfl, trivial⟩, rfl⟩
  | ok q =>
    rw [hP] at hp
    obtain ⟨hw, _, _⟩ := print_parse hss hP
    have hc := comes_rt (source_c hS) t hw h1 h2
    obtain ⟨c, n, m, sp, b, l, r, rfl⟩ : ∃ c n m sp b l r, q = .mk c n m sp b l r := by cases hw <;> exact ⟨_, _, _, _, _, _, _, rfl⟩
    refine GO hp rfl ?_
    refine p2 ?_ rfl
    refine GO (source_rt S) rfl ?_
    simp only
    cases hE : evalF (srcF S) t (.mk c n m sp b l r) with
    | error e =>
      rw [hE] at hc
      refine GO hc rfl ?_
      refine ⟨by kernel_rfl, ?_⟩
      exact ⟨⟨rfl, rfl, trivial⟩, rfl⟩
    | ok a =>
      obtain ⟨pl, a2⟩ := a
      rw [hE] at hc
      refine GO hc rfl ?_
      refine ⟨by kernel_rfl, ?_⟩
      exact ⟨⟨rfl, rfl, trivial⟩, rfl⟩
end Go.Proofs.YtkoalgjlkcaonaaGreatDoor
/-
  The ghost machine: what is known when a region that draws its order is under way: all that is told, also what came of calls.
-/
namespace Go.GK
open Go.RowKit
theorem wpAnyH_mono {P : Program} {md : Region.Mode} {ops : Array Oper} {Q : Exit → Act → World → Prop} {S S' : World → Prop} (hS : ∀ w, S w → S' w) :
    ∀ (fuel : Nat) (listed : Array Bool) (a : Act) (w : World), wpAnyH P md ops Q S fuel listed a w → wpAnyH P md ops Q S' fuel listed a w
  | 0, _, _, _, h => h
  | fuel + 1, _, _, _, h => ⟨h.1, fun i hi => wpOp_mono (fun a' w' h' => ⟨hS w' h'.1, wpAnyH_mono hS fuel _ a' w' h'.2⟩) (h.2 i hi)⟩
theorem Fr.trans {H0 H1 H2 : Hid} {S0 S1 S2 : List Nat} {w0 w1 w2 : World} (h : Fr H0 S0 w0 H1 S1 w1) (h' : Fr H1 S1 w1 H2 S2 w2) : Fr H0 S0 w0 H2 S2 w2 := by
  refine ⟨h'.os.trans h.os, h'.tape.trans h.tape, h'.output.trans h.output, Nat.le_trans h.size h'.size, fun b hb hn => ?_, fun b hb => ?_, fun b h0 h2 => ?_, h.le.trans h'.le⟩
  · rw [h'.keep b (Nat.lt_of_lt_of_le hb h.size) fun hc => ?_, h.keep b hb hn]
    rcases h.own b hc with h1 | h1
    · exact hn h1
    · omega
  · rcases h'.own b hb with h1 | h1
    · exact h.own b h1
    · exact .inr (Nat.le_trans h.size h1)
  · by_cases h1 : H1.ro b = none
    · rcases h'.fro b h1 h2 with h3 | h3
      · exact h.own b h3
      · exact .inr (Nat.le_trans h.size h3)
    · exact h.fro b h0 h1
section
variable {cx : Cx} {T : Post}
theorem RA.known {ops : List Oper} {k : List It} {σs : Heap} {ρq : Env} {fuel : Nat} {listed : List Bool} {s : St} (h : RA cx T ops k σs s.ρ fuel listed s) : RA cx T ops k σs ρq fuel listed s := by
  intro n0 H0 S0 w0 h0 g0 hσ hap hfree hlink H a w hs ha hq
  have hs1 := hlink H s w hs
  have hg : GlOk cx.pg H := cx.g0.mono hs1.fr.le
  have hnd : (blks H (s.σ ++ σs)).Nodup := hs1.sat.nodup
  rw [blks_append] at hnd
  obtain ⟨_, hn2, hn3⟩ := List.nodup_append.1 hnd
  have hσ' : Sat H σs w := hs1.sat.sub (fun x hx => List.mem_append.2 (.inr hx)) hn2
  have h' := h s.n H (blks H s.σ) w hs.n hg hσ' (fun b hb hc => hn3 b hc b hb rfl) hs.sat.free (fun H' s' w' hs' => hlink H' s' w' ⟨hs'.n, hs'.sat, hs.fr.trans hs'.fr⟩) H a w ⟨hs.n, hs.sat, Fr.refl _ _ _⟩ ha (fun t g hl => ha.env t g hl)
  refine wpAnyH_mono (fun w' hw' b hb hn => ?_) fuel listed.toArray a w h'
  rw [hw' b (Nat.lt_of_lt_of_le hb hs.fr.size) fun hc => ?_, hs.fr.keep b hb hn]
  rcases hs.fr.own b hc with h1 | h1
  · exact hn h1
  · have h1 : w0.heap.size ≤ b := h1
    omega
end
end Go.GK
/-
  Rules: in a region that draws its order, what came of calls is known, too.
-/
namespace Go.Proofs.YtkoalgjlkcaonaaGreatDoor
open Go.GK Go.RowKit
theorem KTK {N n0 : Nat} {H0 : Hid} {S0 : List Nat} {w0 : World} {h0 : H0.n = n0} {g0 : GlOk pg H0} {T : Post} {k : List It} {s : St} {ops : List Oper} {σs : Heap} {ρq : Env} {fuel : Nat} {listed : List Bool} (e : Bool) (order : List (Nat × Bool))
    (hB : (Region.noSelect ops.toArray && ordB ops e order listed) = true)
    (h : rvc ⟨pg, N, n0, H0, S0, w0, h0, g0⟩ T ops k σs e order fuel listed s.ρ s) (hT : ∀ ch s, ¬ T (.panic ch) s := by intro _ _ h; exact h) : RA ⟨pg, N, n0, H0, S0, w0, h0, g0⟩ T ops k σs ρq fuel listed s := by
  simp only [Bool.and_eq_true] at hB
  exact RA.known (RA.run pg_ok hB.1 hT order hB.2 h)
end Go.Proofs.YtkoalgjlkcaonaaGreatDoor
/-
  Contracts: a fact of questions (raingaugekeep.asked).
-/
namespace Go.Proofs.YtkoalgjlkcaonaaGreatDoor
open Go.GK Go.PL Go.RowKit
set_option maxRecDepth 100000
def oneE (v : ByteArray) (t n : Int) : Ser := ⟨[⟨⟨#[110]⟩, v⟩], [⟨t, n⟩]⟩
theorem oneE_rt (v : ByteArray) (t n : Int) : Rt pg 30 [gs v, gi t, gi n] (ses [oneE v t n]) := by
  refine Rt.ofJ pg_ok Tryz.func30 rfl Tryz.ntmps30 rfl Tryz.results30 Tryz.call30 fun H0 S0 w0 h0 g0 => ?_
  refine VM 14 ?_
  refine JK.freeze 0 rfl ?_
  refine JK.freeze 1 rfl ?_
  refine VM 3 ?_
  refine FRZ 2 rfl ?_
  exact ⟨rfl, rfl⟩
def factS2 : List Ser := [oneE ⟨#[97]⟩ 5 3, oneE ⟨#[98]⟩ 6 4]
theorem fact_ok : SerOk factS2 := by
  refine ⟨?_, by decide, ?_, ?_⟩
  · refine List.pairwise_cons.2 ⟨fun y hy => ?_, List.pairwise_singleton _ _⟩
    rw [List.mem_singleton.1 hy]
    decide +kernel
  · intro x hx y hy
    simp only [factS2, List.mem_cons, List.not_mem_nil, or_false] at hx
    rcases hx with rfl | rfl <;> (simp only [oneE, List.mem_singleton] at hy; subst hy; exact ⟨by decide, by decide⟩)
  · intro x hx
    simp only [factS2, List.mem_cons, List.not_mem_nil, or_false] at hx
    rcases hx with rfl | rfl <;> decide
def factT2 : ByteArray := ⟨#[116, 111, 116, 97, 108, 40, 123, 125, 41, 32, 45, 32, 49]⟩
def factQ2 : Qn := .mk 14 0 [] 0 [] (.mk 8 0 [] 0 [] (.mk 2 0 [] 300 [] .nil .nil) .nil) (.mk 1 1 [] 0 [] .nil .nil)
theorem fact2_parse : parseF factT2.data.toList = .ok factQ2 := by kernel_rfl
theorem fact2_eval : evalF (srcF factS2) 7 factQ2 = .ok ([⟨[], 6⟩], false) := by kernel_rfl
theorem asked_rt : Rt pg 7 [] (.b true) := by
  have hp := parse_rt factT2 (by decide)
  rw [fact2_parse] at hp
  obtain ⟨hw, _, _⟩ := print_parse (s := factT2.data.toList) (by decide) fact2_parse
  have hc := comes_rt (source_c fact_ok) 7 hw (by decide) (by decide)
  rw [fact2_eval] at hc
  refine Rt.of pg_ok Tryz.func7 rfl Tryz.ntmps7 rfl Tryz.results7 Tryz.call7 fun H0 S0 w0 h0 g0 => ?_
  refine GO hp rfl ?_
  refine p2 ?_ rfl
  refine DRAW [] false (tk [0]) (by kernel_rfl) ?_
  refine RGO 1 false ([]) (oneE_rt ⟨#[97]⟩ 5 3) rfl rfl (by kernel_rfl) ?_
  refine KTK false (tk [2, 3]) (by kernel_rfl) ?_
  refine idx (f := se) (l := [oneE ⟨#[97]⟩ 5 3]) 0 rfl (Nat.zero_lt_succ _) ?_
  refine RGO 4 false ([]) (oneE_rt ⟨#[98]⟩ 6 4) rfl rfl (by kernel_rfl) ?_
  refine KTK false (tk [5, 6] ++ al [7]) (by kernel_rfl) ?_
  refine idx (f := se) (l := [oneE ⟨#[98]⟩ 6 4]) 0 rfl (Nat.zero_lt_succ _) ?_
  refine RA.freeze 0 rfl ?_
  refine RGO 8 false ([]) (source_rt factS2) rfl rfl (by kernel_rfl) ?_
  refine RGO 9 false ([]) hc rfl rfl (by kernel_rfl) ?_
  refine KTK true (tk [10, 11, 12, 13, 14, 15, 16]) (by kernel_rfl) ?_
  refine V ?_
  repeat (first | refine p1 ?_ | refine p2 ?_ | refine p3 ?_ | refine p4 ?_)
  refine idx (f := ptc) (l := [⟨[], 6⟩]) 0 rfl (Nat.zero_lt_succ _) ?_
  exact ⟨rfl, rfl⟩
end Go.Proofs.YtkoalgjlkcaonaaGreatDoor
/-
  Contracts: a reader of bytes (code.Reader): a number, a size, a text, labels.
-/
namespace Go.Proofs.YtkoalgjlkcaonaaGreatDoor
open Go.GK Go.PL Go.RowKit
set_option maxRecDepth 100000
section
variable {α : Type}
end
end Go.Proofs.YtkoalgjlkcaonaaGreatDoor
/-
  Contracts: a reader of bytes (code.Reader): a size, a text, labels; whether it is bad, whether it is done.
-/
namespace Go.Proofs.YtkoalgjlkcaonaaGreatDoor
open Go.GK Go.PL Go.RowKit
set_option maxRecDepth 100000
end Go.Proofs.YtkoalgjlkcaonaaGreatDoor
/-
  Contracts: a reader of bytes (code.Reader): labels.
-/
namespace Go.Proofs.YtkoalgjlkcaonaaGreatDoor
open Go.GK Go.PL Go.RowKit
set_option maxRecDepth 100000
end Go.Proofs.YtkoalgjlkcaonaaGreatDoor
/-
  Contracts: package bits.
-/
namespace Go.Proofs.YtkoalgjlkcaonaaGreatDoor
open Go.GK Go.PL
set_option maxRecDepth 100000
end Go.Proofs.YtkoalgjlkcaonaaGreatDoor
/-
  Contracts: package roll.
-/
namespace Go.Proofs.YtkoalgjlkcaonaaGreatDoor
open Go.GK Go.PL
set_option maxRecDepth 100000

end Go.Proofs.YtkoalgjlkcaonaaGreatDoor
/-
  Contracts: which samples may be.
-/
namespace Go.Proofs.YtkoalgjlkcaonaaGreatDoor
open Go.GK Go.PL
set_option maxRecDepth 100000
theorem right_ct (l : List Sm) : Ct pg 32 0 [.sl 2 (l.map sm)] [] (Val fun g => g = .b (okS l)) := by
  refine Ct.len 0 rfl fun hlen _ => ?_
  have hlen' : l.length ≤ 9223372036854775807 := by simpa [maxLen] using hlen
  refine Ct.bool (Ct.of_JK pg_ok Tryz.func32 rfl Tryz.ntmps32 rfl Tryz.results32 fun H0 S0 w0 h0 g0 => ?_)
  refine vc_sound pg_ok 200 _ _ ?_
  refine JK.loop (α := Nat) (fun i => ⟨[(0, .sl 2 (l.map sm)), (5, .sl 2 (l.map sm)), (6, gi (l.map sm).length), (7, gi i)], [], 0⟩) (fun i => i ≤ l.length ∧ ∀ j x, j < i → l[j]? = some x → ¬ badAt l j x) (fun i => l.length - i) 0 id ?_ ⟨Nat.zero_le _, fun j x hj => absurd hj (by omega)⟩ ?_
  · exact ⟨⟨rfl, rfl, rfl, rfl, trivial⟩, trivial, rfl⟩
  · rintro i ⟨hi, hgood⟩
    refine vc_sound pg_ok 200 _ _ ?_
    refine ⟨fun hb => ?_, fun hb => ?_⟩
    · have hlt : i < l.length := by simpa using hb
      refine idx i rfl hlt ?_
      refine ⟨by kernel_rfl, ?_⟩
      have hfalse : badAt l i l[i] → false = okS l := fun hb => by
        cases h : okS l with
        | false => rfl
        | true => exact ((okS_bad l).1 h |>.1 i l[i] (List.getElem?_eq_getElem hlt) hb).elim
      have hnext : ¬ badAt l i l[i] → i + 1 ≤ l.length ∧ ∀ j x, j < i + 1 → l[j]? = some x → ¬ badAt l j x := fun hn => ⟨hlt, fun j x hj hx => by
        rcases Nat.lt_succ_iff_lt_or_eq.1 hj with h1 | h1
        · exact hgood j x h1 hx
        · subst h1
          rw [List.getElem?_eq_getElem hlt] at hx
          cases hx
          exact hn⟩
      have e18 : some (gi (IntKind.i64.wrap (i + 1 : Int))) = some (gi ((i + 1 : Nat) : Int)) := by rw [wrap_id (by omega) (by omega)]; rfl
      refine ⟨fun ha => ?_, fun ha => ?_⟩
      · have ha' : ¬ l[i].time < -1099511627776 := by simpa using ha
        refine ⟨fun hc => ?_, fun hc => ?_⟩
        · have hc' : ¬ l[i].time > 1099511627776 := by simpa using hc
          refine ⟨fun hd => ?_, fun hd => ?_⟩
          · have hd' : 0 < i := by simpa using hd
            have ew : IntKind.i64.wrap ((i : Int) - 1) = ((i - 1 : Nat) : Int) := by rw [wrap_id (by omega) (by omega)]; omega
            refine idx (i - 1) ew (by omega) ?_
            refine ⟨fun he => ?_, fun he => ?_⟩
            · exact .inl (congrArg (fun c => GV.v (.bool c)) (hfalse (.inr (.inr ⟨hd', _, List.getElem?_eq_getElem (by omega), by simpa using he⟩))))
            · refine ⟨i + 1, id, ⟨⟨rfl, rfl, rfl, e18, trivial⟩, trivial, rfl⟩, hnext ?_, by show l.length - (i + 1) < l.length - i; omega⟩
              rintro (h | h | ⟨_, y, hy, h⟩)
              · exact ha' h
              · exact hc' h
              · rw [List.getElem?_eq_getElem (by omega)] at hy
                rw [Option.some.injEq] at hy
                rw [← hy] at h
                simp at he
                omega
          · have hd' : ¬ 0 < i := by simpa using hd
            refine ⟨i + 1, id, ⟨⟨rfl, rfl, rfl, e18, trivial⟩, trivial, rfl⟩, hnext ?_, by show l.length - (i + 1) < l.length - i; omega⟩
            rintro (h | h | ⟨h, _⟩)
            · exact ha' h
            · exact hc' h
            · exact hd' h
        · exact .inl (congrArg (fun c => GV.v (.bool c)) (hfalse (.inr (.inl (by simpa using hc)))))
      · exact .inl (congrArg (fun c => GV.v (.bool c)) (hfalse (.inl (by simpa using ha))))
    · have hge : i = l.length := by simp at hb; omega
      refine vc_sound pg_ok 200 _ _ ?_
      refine .inr (congrArg GV.b ?_)
      rw [Bool.eq_iff_iff, okS_bad, decide_eq_true_iff, List.length_map]
      exact ⟨fun h => ⟨fun j x hj => hgood j x (by rw [hge]; exact (List.getElem?_eq_some_iff.1 hj).1) hj, by omega⟩, fun h => by omega⟩
end Go.Proofs.YtkoalgjlkcaonaaGreatDoor
/-
  Contracts: package chunk, writing.
-/
namespace Go.Proofs.YtkoalgjlkcaonaaGreatDoor
open Go.GK Go.PL
set_option maxRecDepth 100000
end Go.Proofs.YtkoalgjlkcaonaaGreatDoor
/-
  Contracts: package chunk, reading.
-/
namespace Go.Proofs.YtkoalgjlkcaonaaGreatDoor
open Go.GK Go.PL
set_option maxRecDepth 100000
def ReadQ (s : ByteArray) (g : GV) : Prop :=
  (∃ l, okS l = true ∧ V64 l ∧ s = enc l ∧ g = .tup [.sl 2 (l.map sm), .v .nilIface]) ∨
  ((∀ l, okS l = true → V64 l → s ≠ enc l) ∧ g = .tup [.v (.slice none 0 0), .ifc 53 (gi 3)])
end Go.Proofs.YtkoalgjlkcaonaaGreatDoor
/-
  Contracts: a reader of bytes (code.Reader): series.
-/
namespace Go.Proofs.YtkoalgjlkcaonaaGreatDoor
open Go.GK Go.PL Go.RowKit
set_option maxRecDepth 100000
theorem ReadQ.id {t : ByteArray} {g : GV} (h : ReadQ t g) : idb 0 g = true := by
  rcases h with ⟨l, _, _, _, rfl⟩ | ⟨_, rfl⟩ <;> rfl
end Go.Proofs.YtkoalgjlkcaonaaGreatDoor
/-
  Contracts: a writer of bytes (code.Writer).
-/
namespace Go.Proofs.YtkoalgjlkcaonaaGreatDoor
open Go.GK Go.PL Go.RowKit
set_option maxRecDepth 100000
end Go.Proofs.YtkoalgjlkcaonaaGreatDoor
/-
  Contracts: series written (code.Series).
-/
namespace Go.Proofs.YtkoalgjlkcaonaaGreatDoor
open Go.GK Go.PL Go.RowKit
set_option maxRecDepth 100000
end Go.Proofs.YtkoalgjlkcaonaaGreatDoor
/-
  Contracts: the document's answer on labels and matchers (chapter 4).
-/
namespace Go.Proofs.YtkoalgjlkcaonaaGreatDoor
open Go.GK Go.PL Go.RowKit
set_option maxRecDepth 100000
end Go.Proofs.YtkoalgjlkcaonaaGreatDoor
/-
  Contracts: the document's answer on labels: order, text, Only, Fits; short labels, the same labels.
-/
namespace Go.Proofs.YtkoalgjlkcaonaaGreatDoor
open Go.GK Go.PL Go.RowKit
set_option maxRecDepth 100000
def shL (l : List Lb) : Bool := decide (l.length ≤ 20) && !anyB l.length (fun i => decide (60 < (l.getD i default).name.size) || decide (60 < (l.getD i default).value.size))
theorem Hl.sh {l : List Lb} (h : Hl l) : Sh l := fun x hx => by have := h.value x hx; omega
end Go.Proofs.YtkoalgjlkcaonaaGreatDoor
/-
  Series that are short; what code.Series says of good ones and of others.
-/
namespace Go.Proofs.YtkoalgjlkcaonaaGreatDoor
open Go.GK Go.PL Go.RowKit
set_option maxRecDepth 100000
theorem shL_small {l : List Lb} (h : shL l = true) : l.length ≤ 20 ∧ ∀ x ∈ l, x.name.size ≤ 60 ∧ x.value.size ≤ 60 := by
  unfold shL at h
  rw [Bool.and_eq_true, decide_eq_true_iff, Bool.not_eq_true'] at h
  refine ⟨h.1, fun x hx => ?_⟩
  obtain ⟨i, hi, rfl⟩ := List.getElem_of_mem hx
  have := anyB_get h.2 i hi
  rw [show l.getD i default = l[i] by simp [hi], Bool.or_eq_false_iff, decide_eq_false_iff_not, decide_eq_false_iff_not] at this
  omega
def badS (l : List Ser) (i : Nat) : Bool := match l[i]? with | some x => !shL x.labels || decide (60 < x.samples.length) | none => false
theorem badS_at {l : List Ser} {i : Nat} (h : i < l.length) : badS l i = (!shL l[i].labels || decide (60 < l[i].samples.length)) := by unfold badS; rw [List.getElem?_eq_getElem h]
def shS (l : List Ser) : Bool := decide (l.length ≤ 20) && !anyB l.length (badS l)
theorem shS_small {l : List Ser} (h : shS l = true) : l.length ≤ 20 ∧ ∀ x ∈ l, shL x.labels = true ∧ x.samples.length ≤ 60 := by
  unfold shS at h
  rw [Bool.and_eq_true, decide_eq_true_iff, Bool.not_eq_true'] at h
  refine ⟨h.1, fun x hx => ?_⟩
  obtain ⟨i, hi, rfl⟩ := List.getElem_of_mem hx
  have := anyB_get h.2 i hi
  rw [badS_at hi] at this
  simp only [Bool.or_eq_false_iff, Bool.not_eq_false', decide_eq_false_iff_not] at this
  exact ⟨this.1, by omega⟩
end Go.Proofs.YtkoalgjlkcaonaaGreatDoor
/-
  Contracts: package block: which may be, written, read.
-/
namespace Go.Proofs.YtkoalgjlkcaonaaGreatDoor
open Go.GK Go.PL Go.RowKit
set_option maxRecDepth 100000
abbrev bkG (to_ old : Int) (l : List Ser) : GV := .agg [gi to_, gi old, ses l]
end Go.Proofs.YtkoalgjlkcaonaaGreatDoor
/-
  Contracts: the document's reader (ref.Taker): a number, a text.
-/
namespace Go.Proofs.YtkoalgjlkcaonaaGreatDoor
open Go.GK Go.PL Go.RowKit
set_option maxRecDepth 100000
end Go.Proofs.YtkoalgjlkcaonaaGreatDoor
/-
  Contracts: which blocks may be.
-/
namespace Go.Proofs.YtkoalgjlkcaonaaGreatDoor
open Go.GK Go.PL Go.RowKit
set_option maxRecDepth 100000
def Short1 (x : Ser) : Prop := x.labels.length ≤ 1000000 ∧ x.samples.length ≤ 1000000 ∧ ∀ y ∈ x.labels, y.name.size < 4611686018427387904 ∧ y.value.size < 4611686018427387904
theorem bright_rt (to_ old : Int) (l : List Ser) (hlab : ∀ x ∈ l, Short1 x) : Rt pg 8 [bkG to_ old l] (.b (blkR to_ old l)) := by
  refine Rt.of pg_ok Tryz.func8 rfl Tryz.ntmps8 rfl Tryz.results8 Tryz.call8 fun H0 S0 w0 h0 g0 => ?_
  have hll : (l.map se).length = l.length := by simp
  refine JK.len 7 rfl fun hlen _ => ?_
  have hlen' : l.length ≤ 9223372036854775807 := by simpa [maxLen] using hlen
  refine JK.loop (α := Nat) (fun i => ⟨[(1, .p 0 0), (7, ses l), (8, gi (l.map se).length), (9, gi i)], [(0, .blk 27 [gi to_, gi old, ses l])], 1⟩) (fun i => i ≤ l.length ∧ ∀ j, j < i → blkBad to_ l j = false) (fun i => l.length - i) 0 id ?_ ⟨Nat.zero_le _, fun j hj => absurd hj (by omega)⟩ ?_
  · exact ⟨⟨rfl, rfl, rfl, rfl, trivial⟩, ⟨rfl, trivial⟩, rfl⟩
  · rintro i ⟨hi, hgood⟩
    replace hi : i ≤ l.length := hi
    refine V ?_
    by_cases hlt : i < l.length
    · have hat := blkBad_at (to_ := to_) hlt
      have hbad : blkBad to_ l i = true → blkR to_ old l = false := fun h => by unfold blkR; rw [anyB_true hlt h]; rfl
      have hnext : blkBad to_ l i = false → ∀ j, j < i + 1 → blkBad to_ l j = false := fun h j hj => by
        rcases Nat.lt_succ_iff_lt_or_eq.1 hj with h1 | h1
        · exact hgood j h1
        · subst h1; exact h
      obtain ⟨q1, q2, q3⟩ := hlab l[i] (List.getElem_mem hlt)
      have hr1 := right_rt l[i].labels (fun y hy => (q3 y hy).2)
      have hr2 := Rq.old Tryz.call32 (right_ct l[i].samples)
      have hsl : (l[i].samples.map sm).length = l[i].samples.length := by simp
      refine p1 ?_ (decide_eq_true (by omega))
      refine ix (h := ?_)
      rcases tf (rightF l[i].labels) with h1 | h1
      · refine DRAW [] false (tk [0, 1]) (by kernel_rfl) ?_
        refine RGO 2 false (tk [3, 4, 5, 6]) (hr1.bt h1) rfl rfl (by kernel_rfl) ?_
        repeat (first | refine p1 ?_ | refine p2 ?_ | refine p3 ?_ | refine p4 ?_)
        rcases tf (okS l[i].samples) with h2 | h2
        · refine RGO 7 false (tk [8, 9, 10, 11, 12, 13, 14, 15, 16, 17, 18, 19, 20, 21, 22, 23, 24, 25, 26, 27, 28, 29, 30, 31, 32, 33, 34, 35, 36, 37, 38]) (hr2.bt h2) rfl rfl (by kernel_rfl) ?_
          repeat (first | refine p1 ?_ | refine p2 ?_ | refine p3 ?_ | refine p4 ?_)
          by_cases h3 : l[i].samples.length = 0
          · refine p3 ?_ (by simp [h3])
            repeat (first | refine p1 ?_ | refine p2 ?_ | refine p3 ?_ | refine p4 ?_)
            refine RSKIP 39 true (tk [40, 41, 42]) rfl rfl (by kernel_rfl) ?_
            repeat (first | refine p1 ?_ | refine p2 ?_ | refine p3 ?_ | refine p4 ?_)
            refine V ?_
            repeat (first | refine p1 ?_ | refine p2 ?_ | refine p3 ?_ | refine p4 ?_)
            rw [hbad (by rw [hat, h1, h2, decide_eq_true h3]; rfl)]
            exact ⟨rfl, rfl⟩
          · have h3' : l[i].samples.length - 1 < l[i].samples.length := by omega
            have hla := lastB_at (to_ := to_) h3'
            refine p4 ?_ (by rw [beq_eq_false_iff_ne]; omega)
            repeat (first | refine p1 ?_ | refine p2 ?_ | refine p3 ?_ | refine p4 ?_)
            refine idx (l[i].samples.length - 1) (by rw [hsl, wrap_id (by omega) (by omega)]; omega) h3' ?_
            by_cases h4 : to_ < l[i].samples[l[i].samples.length - 1].time
            · refine p3 ?_ (decide_eq_true h4)
              repeat (first | refine p1 ?_ | refine p2 ?_ | refine p3 ?_ | refine p4 ?_)
              refine RSKIP 39 true (tk [40, 41, 42]) rfl rfl (by kernel_rfl) ?_
              repeat (first | refine p1 ?_ | refine p2 ?_ | refine p3 ?_ | refine p4 ?_)
              refine V ?_
              repeat (first | refine p1 ?_ | refine p2 ?_ | refine p3 ?_ | refine p4 ?_)
              rw [hbad (by rw [hat, h1, h2, decide_eq_false h3, hla, decide_eq_true h4]; rfl)]
              exact ⟨rfl, rfl⟩
            · refine p4 ?_ (decide_eq_false h4)
              by_cases h5 : 0 < i
              · repeat (first | refine p1 ?_ | refine p2 ?_ | refine p3 ?_ | refine p4 ?_)
                refine idx (i - 1) (by rw [wrap_id (by omega) (by omega)]; omega) (by omega) ?_
                have hpv := prevB_at (l := l) (x := l[i]) (by omega : i - 1 < l.length) h5
                refine RGO 39 true (tk [40, 41, 42]) (lcompare_rt l[i - 1].labels l[i].labels) rfl (congrArg (fun c => bif (c == true) then some (13, [lbs l[i - 1].labels, lbs l[i].labels]) else none) (decide_eq_true (show (i : Int) > 0 by omega))) (by kernel_rfl) ?_
                refine V ?_
                by_cases h6 : 0 ≤ cmpF l[i - 1].labels l[i].labels
                · refine p1 ?_ (decide_eq_true h6)
                  rw [hbad (by rw [hat, h1, h2, decide_eq_false h3, hla, decide_eq_false h4, hpv, decide_eq_true h6]; rfl)]
                  exact ⟨rfl, rfl⟩
                · refine p2 ?_ (decide_eq_false h6)
                  exact ⟨i + 1, id, ⟨⟨rfl, rfl, rfl, succ_gi (by omega), trivial⟩, ⟨rfl, trivial⟩, rfl⟩, ⟨hlt, hnext (by rw [hat, h1, h2, decide_eq_false h3, hla, decide_eq_false h4, hpv, decide_eq_false h6]; rfl)⟩, by show l.length - (i + 1) < l.length - i; omega⟩
              · have hi0 : i = 0 := by omega
                repeat (first | refine p1 ?_ | refine p2 ?_ | refine p3 ?_ | refine p4 ?_)
                refine RSKIP 39 true (tk [40, 41, 42]) rfl (congrArg (fun c => c == !true) (decide_eq_false (show ¬ (i : Int) > 0 by omega))) (by kernel_rfl) ?_
                refine V ?_
                have hp0 : prevB l i l[i] = false := by unfold prevB; rw [decide_eq_false h5]; rfl
                exact ⟨i + 1, id, ⟨⟨rfl, rfl, rfl, succ_gi (by omega), trivial⟩, ⟨rfl, trivial⟩, rfl⟩, ⟨hlt, hnext (by rw [hat, h1, h2, decide_eq_false h3, hla, decide_eq_false h4, hp0]; rfl)⟩, by show l.length - (i + 1) < l.length - i; omega⟩
        · refine RGO 7 false (tk [8, 9, 10, 11, 12, 13, 14, 15, 16, 17, 18, 19, 20, 21, 22, 23, 24, 25, 26, 27, 28, 29, 30, 31, 32, 33, 34, 35, 36, 37, 38]) (hr2.bt h2) rfl rfl (by kernel_rfl) ?_
          repeat (first | refine p1 ?_ | refine p2 ?_ | refine p3 ?_ | refine p4 ?_)
          refine RSKIP 39 true (tk [40, 41, 42]) rfl rfl (by kernel_rfl) ?_
          repeat (first | refine p1 ?_ | refine p2 ?_ | refine p3 ?_ | refine p4 ?_)
          refine V ?_
          repeat (first | refine p1 ?_ | refine p2 ?_ | refine p3 ?_ | refine p4 ?_)
          rw [hbad (by rw [hat, h1, h2]; rfl)]
          exact ⟨rfl, rfl⟩
      · refine DRAW [] false (tk [0, 1]) (by kernel_rfl) ?_
        refine RGO 2 false (tk [3, 4, 5, 6]) (hr1.bt h1) rfl rfl (by kernel_rfl) ?_
        repeat (first | refine p1 ?_ | refine p2 ?_ | refine p3 ?_ | refine p4 ?_)
        refine RSKIP 7 false (tk [8, 9, 10, 11, 12, 13, 14, 15, 16, 17, 18, 19, 20, 21, 22, 23, 24, 25, 26, 27, 28, 29, 30, 31, 32, 33, 34, 35, 36, 37, 38]) rfl rfl (by kernel_rfl) ?_
        repeat (first | refine p1 ?_ | refine p2 ?_ | refine p3 ?_ | refine p4 ?_)
        refine RSKIP 39 true (tk [40, 41, 42]) rfl rfl (by kernel_rfl) ?_
        repeat (first | refine p1 ?_ | refine p2 ?_ | refine p3 ?_ | refine p4 ?_)
        refine V ?_
        repeat (first | refine p1 ?_ | refine p2 ?_ | refine p3 ?_ | refine p4 ?_)
        rw [hbad (by rw [hat, h1]; rfl)]
        exact ⟨rfl, rfl⟩
    · obtain rfl : i = l.length := by omega
      refine p2 ?_ (decide_eq_false (by omega))
      refine V ?_
      have hR : blkR to_ old l = (decide (-1099511627776 ≤ to_ ∧ to_ ≤ 1099511627776) && decide (-1 ≤ old)) := by unfold blkR; rw [anyB_false hgood]; rfl
      rw [hR]
      by_cases t1 : -1099511627776 ≤ to_
      · by_cases t2 : to_ ≤ 1099511627776
        · repeat (first | refine p1 ?_ | refine p2 ?_ | refine p3 ?_ | refine p4 ?_)
          exact ⟨by rw [decide_eq_true (show -1099511627776 ≤ to_ ∧ to_ ≤ 1099511627776 from ⟨t1, t2⟩)]; rfl, rfl⟩
        · repeat (first | refine p1 ?_ | refine p2 ?_ | refine p3 ?_ | refine p4 ?_)
          exact ⟨by rw [decide_eq_false (show ¬(-1099511627776 ≤ to_ ∧ to_ ≤ 1099511627776) from fun h => t2 h.2)]; rfl, rfl⟩
      · repeat (first | refine p1 ?_ | refine p2 ?_ | refine p3 ?_ | refine p4 ?_)
        exact ⟨by rw [decide_eq_false (show ¬(-1099511627776 ≤ to_ ∧ to_ ≤ 1099511627776) from fun h => t1 h.1)]; rfl, rfl⟩
end Go.Proofs.YtkoalgjlkcaonaaGreatDoor
/-
  Contracts: the laws LabelOrder, LabelNot.
-/
namespace Go.Proofs.YtkoalgjlkcaonaaGreatDoor
open Go.GK Go.PL Go.RowKit
set_option maxRecDepth 100000
theorem kshortL_rt (l : List Lb) : Rt pg 28 [.sl 2 (l.map lb)] (.b (shL l)) := by
  refine Rt.of pg_ok Tryz.func28 rfl Tryz.ntmps28 rfl Tryz.results28 Tryz.call28 fun H0 S0 w0 h0 g0 => ?_
  have hll : (l.map lb).length = l.length := by simp
  unfold shL
  by_cases hl : l.length ≤ 20
  · refine p2 ?_
    refine JK.loop (α := Nat) (fun i => ⟨[(0, .sl 2 (l.map lb)), (3, gi i)], [], 0⟩) (fun i => i ≤ l.length ∧ ∀ j, j < i → (decide (60 < (l.getD j default).name.size) || decide (60 < (l.getD j default).value.size)) = false) (fun i => l.length - i) 0 id ?_ ⟨Nat.zero_le _, fun j hj => absurd hj (by omega)⟩ ?_
    · exact ⟨⟨rfl, rfl, trivial⟩, trivial, rfl⟩
    · rintro i ⟨hi, hgood⟩
      refine V ?_
      by_cases hlt : i < l.length
      · have hg : l.getD i default = l[i] := by simp [hlt]
        have hbad : (decide (60 < l[i].name.size) || decide (60 < l[i].value.size)) = true → (decide (l.length ≤ 20) && !anyB l.length (fun i => decide (60 < (l.getD i default).name.size) || decide (60 < (l.getD i default).value.size))) = false := fun h => by rw [anyB_true hlt (by rw [hg]; exact h)]; simp
        have hnext : (decide (60 < l[i].name.size) || decide (60 < l[i].value.size)) = false → ∀ j, j < i + 1 → (decide (60 < (l.getD j default).name.size) || decide (60 < (l.getD j default).value.size)) = false := fun h j hj => by
          rcases Nat.lt_succ_iff_lt_or_eq.1 hj with h1 | h1
          · exact hgood j h1
          · subst h1; rw [hg]; exact h
        by_cases h1 : 60 < l[i].name.size
        · repeat (first | refine p1 ?_ | refine p2 ?_ | refine p3 ?_ | refine p4 ?_ | refine ix (h := ?_))
          exact ⟨(hbad (by rw [decide_eq_true h1]; rfl)).symm, rfl⟩
        · by_cases h2 : 60 < l[i].value.size
          · repeat (first | refine p1 ?_ | refine p2 ?_ | refine p3 ?_ | refine p4 ?_ | refine ix (h := ?_))
            exact ⟨(hbad (by rw [decide_eq_true h2, Bool.or_true])).symm, rfl⟩
          · repeat (first | refine p1 ?_ | refine p2 ?_ | refine p3 ?_ | refine p4 ?_ | refine ix (h := ?_))
            exact ⟨i + 1, id, ⟨⟨rfl, succ_gi (by omega), trivial⟩, trivial, rfl⟩, ⟨hlt, hnext (by rw [decide_eq_false h1, decide_eq_false h2]; rfl)⟩, by show l.length - (i + 1) < l.length - i; omega⟩
      · refine p2 ?_
        refine V ?_
        obtain rfl : i = l.length := by omega
        exact ⟨by rw [anyB_false hgood, decide_eq_true hl]; rfl, rfl⟩
  · refine p1 ?_
    exact ⟨by rw [decide_eq_false hl]; rfl, rfl⟩
end Go.Proofs.YtkoalgjlkcaonaaGreatDoor
/-
  Contracts: a number within bounds.
-/
namespace Go.Proofs.YtkoalgjlkcaonaaGreatDoor
open Go.GK
set_option maxRecDepth 100000
end Go.Proofs.YtkoalgjlkcaonaaGreatDoor
/-
  Contracts: series that are short, and the same; a number that is picked (package raingaugekeep).
-/
namespace Go.Proofs.YtkoalgjlkcaonaaGreatDoor
open Go.GK Go.PL Go.RowKit
set_option maxRecDepth 100000
theorem shortS_rt (l : List Ser) : Rt pg 6 [ses l] (.b (shS l)) := by
  refine Rt.of pg_ok Tryz.func6 rfl Tryz.ntmps6 rfl Tryz.results6 Tryz.call6 fun H0 S0 w0 h0 g0 => ?_
  have hll : (l.map se).length = l.length := by simp
  unfold shS
  by_cases hl : l.length ≤ 20
  · refine p2 ?_
    refine JK.loop (α := Nat) (fun i => ⟨[(0, ses l), (3, gi i)], [], 0⟩) (fun i => i ≤ l.length ∧ ∀ j, j < i → badS l j = false) (fun i => l.length - i) 0 id ?_ ⟨Nat.zero_le _, fun j hj => absurd hj (by omega)⟩ ?_
    · exact ⟨⟨rfl, rfl, trivial⟩, trivial, rfl⟩
    · rintro i ⟨hi, hgood⟩
      refine V ?_
      by_cases hlt : i < l.length
      · have hg := badS_at hlt
        have hbad : (!shL l[i].labels || decide (60 < l[i].samples.length)) = true → (decide (l.length ≤ 20) && !anyB l.length (badS l)) = false := fun h => by rw [anyB_true hlt (by rw [hg]; exact h)]; simp
        have hnext : (!shL l[i].labels || decide (60 < l[i].samples.length)) = false → ∀ j, j < i + 1 → badS l j = false := fun h j hj => by
          rcases Nat.lt_succ_iff_lt_or_eq.1 hj with h1 | h1
          · exact hgood j h1
          · subst h1; rw [hg]; exact h
        refine p1 ?_ (decide_eq_true (by omega))
        refine ix (h := ?_)
        have hsm : (l[i].samples.map sm).length = l[i].samples.length := by simp
        rcases tf (shL l[i].labels) with h1 | h1
        · refine GO ((kshortL_rt l[i].labels).bt h1) rfl ?_
          repeat (first | refine p1 ?_ | refine p2 ?_ | refine p3 ?_ | refine p4 ?_)
          refine ix (h := ?_)
          by_cases h2 : 60 < l[i].samples.length
          · refine p1 ?_ (decide_eq_true (by omega))
            exact ⟨(hbad (by rw [decide_eq_true h2, Bool.or_true])).symm, rfl⟩
          · refine p2 ?_ (decide_eq_false (by omega))
            exact ⟨i + 1, id, ⟨⟨rfl, succ_gi (by omega), trivial⟩, trivial, rfl⟩, ⟨hlt, hnext (by rw [decide_eq_false h2, h1]; rfl)⟩, by show l.length - (i + 1) < l.length - i; omega⟩
        · refine GO ((kshortL_rt l[i].labels).bt h1) rfl ?_
          repeat (first | refine p1 ?_ | refine p2 ?_ | refine p3 ?_ | refine p4 ?_)
          exact ⟨(hbad (by rw [h1]; rfl)).symm, rfl⟩
      · refine p2 ?_ (decide_eq_false (by omega))
        refine V ?_
        obtain rfl : i = l.length := by omega
        exact ⟨by rw [anyB_false hgood, decide_eq_true hl]; rfl, rfl⟩
  · refine p1 ?_
    exact ⟨by rw [decide_eq_false hl]; rfl, rfl⟩
end Go.Proofs.YtkoalgjlkcaonaaGreatDoor
/-
  EvalMoves: the law's walk.
-/
namespace Go.Proofs.YtkoalgjlkcaonaaGreatDoor
open Go.GK Go.PL Go.RowKit
set_option maxRecDepth 100000
theorem ser_ok {to_ old : Int} {l : List Ser} (h1 : shS l = true) (h2 : blkR to_ old l = true) (hv : ∀ x ∈ l, V64 x.samples) : SerOk l := by
  obtain ⟨h3, h4⟩ := shS_small h1
  refine ⟨(blkR_ris h2).1, by omega, fun x hx y hy => hv x hx y hy, fun x hx => ?_⟩
  obtain ⟨h5, h6⟩ := h4 x hx
  have := (shL_small h5).1
  exact ⟨by omega, by omega⟩
theorem shS_short {l : List Ser} (h1 : shS l = true) : ∀ x ∈ l, Short1 x := fun x hx => by
  obtain ⟨h5, h6⟩ := (shS_small h1).2 x hx
  obtain ⟨h7, h8⟩ := shL_small h5
  exact ⟨by omega, by omega, fun y hy => by have := h8 y hy; omega⟩
theorem asks_later {l : List Ser} (s : ByteArray) (hs : s.size ≤ 600) (t d : Int) (ht : -1099511627776 ≤ t ∧ t ≤ 1099511627776) (hd : -1099511627776 ≤ d ∧ d ≤ 1099511627776) : asksF (laterF d l) s.data.toList (t + d) = asksF l s.data.toList t := by
  unfold asksF
  cases hP : parseF s.data.toList with
  | error e => rfl
  | ok q =>
    obtain ⟨hw, _, _⟩ := print_parse (s := s.data.toList) (by simpa using hs) hP
    simp only
    rw [eval_later l t d ht hd q (wf_span hw)]
theorem laterS_snoc (d : Int) (l : List Sm) (k : Nat) (h : k < l.length) : laterS d (l.take (k + 1)) = laterS d (l.take k) ++ [⟨l[k].time + d, l[k].value⟩] := by
  unfold laterS
  rw [List.take_succ_eq_append_getElem h, List.map_append]
  rfl
theorem laterF_snoc (d : Int) (l : List Ser) (i : Nat) (h : i < l.length) : laterF d (l.take (i + 1)) = laterF d (l.take i) ++ [⟨l[i].labels, laterS d l[i].samples⟩] := by
  unfold laterF
  rw [List.take_succ_eq_append_getElem h, List.map_append]
  rfl
theorem sameNilK_rt : Rt pg 10 [.v (.slice none 0 0), .v (.slice none 0 0)] (.b true) :=
  Rq.nl (pre := []) (suf := [.v (.slice none 0 0)]) (z := 2) (Rq.nl (pre := [.sl 2 []]) (suf := []) (z := 2) (samePK_rt []))
theorem evalMoves_rt (l : List Ser) (hv : ∀ x ∈ l, V64 x.samples) (s : ByteArray) (t d : Int) : Rt pg 3 [ses l, gs s, gi t, gi d] (.b true) := by
  refine Rt.of pg_ok Tryz.func3 rfl Tryz.ntmps3 rfl Tryz.results3 Tryz.call3 fun H0 S0 w0 h0 g0 => ?_
  have hll : (l.map se).length = l.length := by simp
  rcases tf (shS l) with h1 | h1
  rotate_left
  · refine GO ((shortS_rt l).bt h1) rfl ?_
    repeat (first | refine p1 ?_ | refine p2 ?_ | refine p3 ?_ | refine p4 ?_)
    exact ⟨rfl, rfl⟩
  have hsh := shS_small h1
  refine GO ((shortS_rt l).bt h1) rfl ?_
  by_cases hb : s.size ≤ 300 ∧ -1073741824 ≤ t ∧ t ≤ 1073741824 ∧ -1073741824 ≤ d ∧ d ≤ 1073741824
  rotate_left
  · by_cases c1 : 300 < s.size
    · repeat (first | refine p1 ?_ | refine p2 ?_ | refine p3 ?_ | refine p4 ?_)
      exact ⟨rfl, rfl⟩
    by_cases c2 : t < -1073741824
    · repeat (first | refine p1 ?_ | refine p2 ?_ | refine p3 ?_ | refine p4 ?_)
      exact ⟨rfl, rfl⟩
    by_cases c3 : 1073741824 < t
    · repeat (first | refine p1 ?_ | refine p2 ?_ | refine p3 ?_ | refine p4 ?_)
      exact ⟨rfl, rfl⟩
    by_cases c4 : d < -1073741824
    · repeat (first | refine p1 ?_ | refine p2 ?_ | refine p3 ?_ | refine p4 ?_)
      exact ⟨rfl, rfl⟩
    have c5 : 1073741824 < d := by omega
    repeat (first | refine p1 ?_ | refine p2 ?_ | refine p3 ?_ | refine p4 ?_)
    exact ⟨rfl, rfl⟩
  obtain ⟨b1, b2, b3, b4, b5⟩ := hb
  repeat (first | refine p1 ?_ | refine p2 ?_ | refine p3 ?_ | refine p4 ?_)
  refine GO (asked_rt.bt rfl) rfl ?_
  rcases tf (blkR 1099511627776 0 l) with h2 | h2
  rotate_left
  · refine GO ((bright_rt 1099511627776 0 l (shS_short h1)).bt h2) rfl ?_
    repeat (first | refine p1 ?_ | refine p2 ?_ | refine p3 ?_ | refine p4 ?_)
    exact ⟨rfl, rfl⟩
  have hok := ser_ok h1 h2 hv
  refine GO ((bright_rt 1099511627776 0 l (shS_short h1)).bt h2) rfl ?_
  refine JK.ownNil 9 31 2 rfl ?_
  refine JK.loopE (α := Nat) (β := Unit) (fun i => ⟨[(0, ses l), (1, gs s), (2, gi t), (3, gi d), (9, .o 0), (10, gi i)], [(0, .row 31 2 ((laterF d (l.take i)).map se))], 1⟩) (fun i => i ≤ l.length) (fun i => l.length - i)
    (fun _ => ⟨[(0, ses l), (1, gs s), (2, gi t), (3, gi d), (9, .o 0)], [(0, .row 31 2 ((laterF d l).map se))], 1⟩) (fun _ => True) 0 id ?_ (Nat.zero_le _) ?_ ?_
  · exact ⟨⟨rfl, rfl, rfl, rfl, rfl, rfl, trivial⟩, ⟨rfl, trivial⟩, rfl⟩
  · intro i hi
    refine V ?_
    by_cases hlt : i < l.length
    · have hst := laterF_snoc d l i hlt
      have hAl : (laterF d (l.take i)).length ≤ i := by unfold laterF; rw [List.length_map, List.length_take]; omega
      generalize laterF d (l.take i) = A at hst hAl ⊢
      have hx := (hsh.2 l[i] (List.getElem_mem hlt)).2
      have hsl : (l[i].samples.map sm).length = l[i].samples.length := by simp
      refine p1 ?_ (decide_eq_true (by omega))
      refine ix (h := ?_)
      refine JK.ownNilB 1 1 33 2 rfl rfl ?_
      refine JK.loopE (α := Nat) (β := Unit) (fun k => ⟨[(0, ses l), (1, gs s), (2, gi t), (3, gi d), (9, .o 0), (10, gi i), (11, .p 1 0), (12, gi k)], [(0, .row 31 2 (A.map se)), (1, .blk 31 [lbs l[i].labels, .o 2]), (2, .row 33 2 ((laterS d (l[i].samples.take k)).map sm))], 3⟩) (fun k => k ≤ l[i].samples.length) (fun k => l[i].samples.length - k)
        (fun _ => ⟨[(0, ses l), (1, gs s), (2, gi t), (3, gi d), (9, .o 0), (10, gi i), (11, .p 1 0)], [(0, .row 31 2 (A.map se)), (1, .blk 31 [lbs l[i].labels, .o 2]), (2, .row 33 2 ((laterS d l[i].samples).map sm))], 3⟩) (fun _ => True) 0 id ?_ (Nat.zero_le _) ?_ ?_
      · exact ⟨⟨rfl, rfl, rfl, rfl, rfl, rfl, rfl, rfl, trivial⟩, ⟨rfl, rfl, rfl, trivial⟩, rfl⟩
      · intro k hk
        refine V ?_
        refine ix (h := ?_)
        by_cases hkt : k < l[i].samples.length
        · have hst2 := laterS_snoc d l[i].samples k hkt
          have hBl : (laterS d (l[i].samples.take k)).length ≤ k := by unfold laterS; rw [List.length_map, List.length_take]; omega
          generalize laterS d (l[i].samples.take k) = B at hst2 hBl ⊢
          refine p1 ?_ (decide_eq_true (by omega))
          refine ix (h := ?_)
          refine ix (h := ?_)
          by_cases c1 : l[i].samples[k].time < -1073741824
          · repeat (first | refine p1 ?_ | refine p2 ?_ | refine p3 ?_ | refine p4 ?_)
            exact ⟨rfl, rfl⟩
          by_cases c2 : 1073741824 < l[i].samples[k].time
          · repeat (first | refine p1 ?_ | refine p2 ?_ | refine p3 ?_ | refine p4 ?_)
            exact ⟨rfl, rfl⟩
          repeat (first | refine p1 ?_ | refine p2 ?_ | refine p3 ?_ | refine p4 ?_)
          refine ⟨by simp only [List.length_map, List.length_cons, List.length_nil]; omega, ?_⟩
          refine ⟨k + 1, r1 2 5, ⟨⟨rfl, rfl, rfl, rfl, rfl, rfl, rfl, succ_gi (by omega), trivial⟩, ⟨rfl, rfl, ?_, trivial⟩, rfl⟩, hkt, by show l[i].samples.length - (k + 1) < l[i].samples.length - k; omega⟩
          have ew : IntKind.i64.wrap (l[i].samples[k].time + d) = l[i].samples[k].time + d := wrap_id (by omega) (by omega)
          rw [hst2, List.map_append]
          exact congrArg (a₁ := IntKind.i64.wrap (l[i].samples[k].time + d)) (fun z => some (Res.row 33 2 (B.map sm ++ [[gi z, gi l[i].samples[k].value]]))) ew
        · refine p2 ?_ (decide_eq_false (by omega))
          obtain rfl : k = l[i].samples.length := by omega
          rw [List.take_length]
          exact ⟨(), id, ⟨⟨rfl, rfl, rfl, rfl, rfl, rfl, rfl, trivial⟩, ⟨rfl, rfl, rfl, trivial⟩, rfl⟩, trivial⟩
      · rintro _ _
        refine FRZ 2 rfl ?_
        refine ⟨by simp only [List.length_map, List.length_cons, List.length_nil]; omega, ?_⟩
        refine ⟨i + 1, fun _ => 4, ⟨⟨rfl, rfl, rfl, rfl, rfl, succ_gi (by omega), trivial⟩, ⟨?_, trivial⟩, rfl⟩, hlt, by show l.length - (i + 1) < l.length - i; omega⟩
        rw [hst, List.map_append]
        rfl
    · refine p2 ?_ (decide_eq_false (by omega))
      obtain rfl : i = l.length := by omega
      rw [List.take_length]
      exact ⟨(), id, ⟨⟨rfl, rfl, rfl, rfl, rfl, trivial⟩, ⟨rfl, trivial⟩, rfl⟩, trivial⟩
  · rintro _ _
    refine FRZ 0 rfl ?_
    have e := asks_later (l := l) s (by omega) t d (by omega) (by omega)
    have ha := asks_rt hok s (by omega) t (by omega) (by omega)
    have hb := asks_rt (later_ok d hok) s (by omega) (t + d) (by omega) (by omega)
    rw [e] at hb
    have ew : gi (IntKind.i64.wrap (t + d)) = gi (t + d) := congrArg gi (wrap_id (by omega) (by omega))
    rw [← ew] at hb
    cases hR : asksF l s.data.toList t with
    | none =>
      rw [hR] at ha hb
      refine GO ha rfl ?_
      refine GO hb rfl ?_
      repeat (first | refine p1 ?_ | refine p2 ?_ | refine p3 ?_ | refine p4 ?_)
      refine GO sameNilK_rt rfl ?_
      exact ⟨rfl, rfl⟩
    | some pl =>
      rw [hR] at ha hb
      refine GO ha rfl ?_
      refine GO hb rfl ?_
      repeat (first | refine p1 ?_ | refine p2 ?_ | refine p3 ?_ | refine p4 ?_)
      refine GO (samePK_rt pl) rfl ?_
      exact ⟨rfl, rfl⟩
end Go.Proofs.YtkoalgjlkcaonaaGreatDoor
/-
  Arguments by their shapes: series.
-/
namespace Go.Proofs.YtkoalgjlkcaonaaGreatDoor
open Go.GK Go.PL
theorem lbl_list : ∀ (rows : List (List GV)), (∀ row ∈ rows, fitsL [.str, .str] row) → ∃ l : List Lb, rows = l.map lb
  | [], _ => ⟨[], rfl⟩
  | row :: rows, h => by
    obtain ⟨l, rfl⟩ := lbl_list rows (fun r hr => h r (by simp [hr]))
    have h0 := h row (by simp)
    simp only [fitsL, fits] at h0
    obtain ⟨_, _, rfl, ⟨a, rfl, _⟩, _, _, rfl, ⟨b, rfl, _⟩, rfl⟩ := h0
    exact ⟨⟨a, b⟩ :: l, rfl⟩
theorem sml_list : ∀ (rows : List (List GV)), (∀ row ∈ rows, fitsL [.int .i64, .int .i64] row) → ∃ l : List Sm, rows = l.map sm ∧ V64 l
  | [], _ => ⟨[], rfl, fun _ h => by cases h⟩
  | row :: rows, h => by
    obtain ⟨l, rfl, hl⟩ := sml_list rows (fun r hr => h r (by simp [hr]))
    have h0 := h row (by simp)
    simp only [fitsL, fits] at h0
    obtain ⟨_, _, rfl, ⟨a, rfl, _⟩, _, _, rfl, ⟨b, rfl, hb⟩, rfl⟩ := h0
    refine ⟨⟨a, b⟩ :: l, rfl, fun x hx => ?_⟩
    rcases List.mem_cons.1 hx with rfl | hx
    · have hb' : -9223372036854775808 ≤ b ∧ b ≤ 9223372036854775807 := by simpa [Lit.wf, IntKind.min, IntKind.max, IntKind.signed, IntKind.bits] using hb
      exact hb'
    · exact hl x hx
theorem ser_list : ∀ (rows : List (List GV)), (∀ row ∈ rows, fitsL [.slice [.str, .str], .slice [.int .i64, .int .i64]] row) → ∃ l : List Ser, rows = l.map se ∧ ∀ x ∈ l, V64 x.samples
  | [], _ => ⟨[], rfl, fun _ h => by cases h⟩
  | row :: rows, h => by
    obtain ⟨l, rfl, hl⟩ := ser_list rows (fun r hr => h r (by simp [hr]))
    have h0 := h row (by simp)
    simp only [fitsL, fits] at h0
    obtain ⟨_, _, rfl, ⟨a, rfl, ha⟩, _, _, rfl, ⟨b, rfl, hb⟩, rfl⟩ := h0
    obtain ⟨la, rfl⟩ := lbl_list a ha
    obtain ⟨lb', rfl, hV⟩ := sml_list b hb
    refine ⟨⟨la, lb'⟩ :: l, rfl, fun x hx => ?_⟩
    rcases List.mem_cons.1 hx with rfl | hx
    · exact hV
    · exact hl x hx
end Go.Proofs.YtkoalgjlkcaonaaGreatDoor
/-
  A law's contract, as the row asks for it.
-/
namespace Go.Proofs.YtkoalgjlkcaonaaGreatDoor
open Go.GK
theorem of_rt {f : FuncId} {gs : List GV} (h : Rt pg f gs (.b true)) : Ct pg f 0 gs [] (Val fun g => g = .b true) := by
  exact h.ct.weak fun g σ' n' hq => ⟨id, g, [], 0, ⟨hq.1.1, rfl, rfl⟩, (ren_id g).symm, trivial, by simp [hq.1.2, idbH, hids, distB, fixB]⟩
end Go.Proofs.YtkoalgjlkcaonaaGreatDoor
/-
  Package-level variables as rows list them: tables of integers and of texts, errors, each by what is laid.
-/
namespace Go.GK
open Go.ChangeShapes Go.WideShapes
def VarOk (W : World) (g : Nat) (gv : GV) : Prop := ∀ H : Hid, H.ro = roOf W → IsR H.ro gv (.pointer (some ⟨g, 0, none⟩)) ∧ ∀ cs, gv = .r cs → ∃ c ty fz, H.ro g = some (.cells c ty fz) ∧ c.size = cs.length
theorem look_mem : ∀ {l : Env} {g : Nat} {gv : GV}, look l g = some gv → (g, gv) ∈ l
  | [], _, _, h => by simp [look] at h
  | (g', x) :: l, g, gv, h => by
    unfold look at h
    cases hb : Nat.beq g' g with
    | true =>
      rw [hb] at h
      simp only [cond_true, Option.some.injEq] at h
      subst h
      have := Nat.eq_of_beq_eq_true hb
      subst this
      exact List.mem_cons_self
    | false =>
      rw [hb] at h
      exact List.mem_cons_of_mem _ (look_mem h)
theorem GlOk.of_vars {p : Pg} {W : World} (h : ∀ x ∈ p.gl, VarOk W x.1 x.2) : ∀ H : Hid, H.ro = roOf W → GlOk p H := fun H hro =>
  ⟨fun g gv hl => (h _ (look_mem hl) H hro).1, fun g cs hl => (h _ (look_mem hl) H hro).2 cs rfl⟩
theorem VarOk.of_vals {P : Program} {W : World} {n : String} {g : Nat} {cs : Array Value} {vs : List Value} (hg : P.globalNamed n = some g) (hv : W.var? P n = some cs) (h : cs.toList = vs) : VarOk W g (.r (vs.map .v)) := by
  intro H hro
  have hc : ∀ i, W.cell? ⟨g, i, none⟩ = vs[i]? := fun i => by
    rw [World.var?_cell hg hv i, ← h]
    simp
  refine ⟨?_, fun cs' he => ?_⟩
  · refine .r (fun j => (vs[j]?).getD undef) (fun j gv hj => ?_) (fun j gv hj => ?_)
    · rw [hro, addr_add_none, Nat.zero_add]
      have hj' : j < vs.length := by have := (List.getElem?_eq_some_iff.1 hj).1; simpa using this
      have := hc j
      rw [List.getElem?_eq_getElem hj'] at this ⊢
      exact this
    · have hj' : j < vs.length := by have := (List.getElem?_eq_some_iff.1 hj).1; simpa using this
      rw [List.getElem?_map, List.getElem?_eq_getElem hj'] at hj
      simp only [Option.map_some, Option.some.injEq] at hj
      subst hj
      rw [List.getElem?_eq_getElem hj']
      exact .v _
  · cases he
    have hv' := hv
    simp only [World.var?, hg, Option.bind_some] at hv'
    rw [hro]
    unfold roOf
    cases ho : W.heap[g]? with
    | none => rw [ho] at hv'; cases hv'
    | some o =>
      rw [ho] at hv'
      cases o with
      | cells c ty fz =>
        simp only [Option.some.injEq] at hv'
        subst hv'
        exact ⟨_, ty, fz, rfl, by rw [List.length_map, ← h]; simp⟩
      | _ => cases hv'
theorem arr_strs {Hh : Type} {enc : TypeId × Value → Hh} {P : Program} {w : World} {base : Nat} {spare : Nat → Bool} {held : Bool} {n : Nat} {t e : TypeId} (ht : P.underlying t = some (.array n e)) (he : P.underlying e = some .string) (hc : P.cellsOf e = 1) {zs : List (List UInt8)} (hz : zs.length = n) (hct : P.cellsOf t = n) {fuel : Nat} {cs : List Value} {ps : List MemPlace}
    (h : DataW.trod enc P w base spare held fuel t cs = some (.agg (zs.map fun z => .lit (.string z)), ps)) : cs = zs.map fun z => Value.string ⟨z.toArray⟩ := by
  obtain ⟨xs, m1, _, hx, hlen, hn, hel⟩ := DataW.trod_array ht h
  simp only [Prod.mk.injEq, DataW.agg.injEq] at hx
  rw [hct] at hlen
  refine List.ext_getElem (by simp; omega) fun i h1 h2 => ?_
  have hi : i < xs.length := by omega
  have := hel i (by omega)
  rw [hc, Nat.mul_one, List.getElem?_eq_getElem hi] at this
  obtain ⟨m, e1, e2, _⟩ := DataW.trod_string he this
  have e3 : (cs.drop i).take 1 = [cs[i]] := by rw [List.drop_eq_getElem_cons h1]; rfl
  rw [e3] at e1
  have e4 : (zs.map fun z => DataW.lit (H := Hh) (.string z))[i]? = (xs.map (·.1))[i]? := by rw [hx.1]
  rw [List.getElem?_map, List.getElem?_map, List.getElem?_eq_getElem hi, List.getElem?_eq_getElem (by omega), e2] at e4
  simp only [Option.map_some, Option.some.injEq, DataW.lit.injEq, Lit.string.injEq] at e4
  rw [List.getElem_map, e4]
  have e5 : (⟨m.data.toList.toArray⟩ : ByteArray) = m := by cases m; simp
  rw [e5]
  simpa using e1
section
variable {P : Program} {W : World} {n : String} {g : Nat} {t : TypeId}
theorem VarOk.ints {k : IntKind} {e : TypeId} {zs : List Int} (h : laidMet P [(n, .agg (zs.map fun z => .lit (.int k z)))] W) (hg : P.globalNamed n = some g) (hty : (P.globals[g]?).map (·.type) = some t) (ht : P.underlying t = some (.array zs.length e)) (he : P.underlying e = some (.int k)) (hc : P.cellsOf e = 1) (hct : P.cellsOf t = zs.length) :
    VarOk W g (.r ((zs.map (Value.int k)).map .v)) := by
  obtain ⟨ps, ⟨g0, t0, cs0, f0, p0, q0, hg0, ht0, hv0, hd0, _, _⟩, _, _⟩ := h
  obtain rfl := Option.some.inj (hg.symm.trans hg0)
  obtain rfl := Option.some.inj (hty.symm.trans ht0)
  exact .of_vals hg hv0 (arr_ints ht he hc rfl hct hd0)
theorem VarOk.strs {e : TypeId} {zs : List (List UInt8)} (h : laidMet P [(n, .agg (zs.map fun z => .lit (.string z)))] W) (hg : P.globalNamed n = some g) (hty : (P.globals[g]?).map (·.type) = some t) (ht : P.underlying t = some (.array zs.length e)) (he : P.underlying e = some .string) (hc : P.cellsOf e = 1) (hct : P.cellsOf t = zs.length) :
    VarOk W g (.r ((zs.map fun z => Value.string ⟨z.toArray⟩).map .v)) := by
  obtain ⟨ps, ⟨g0, t0, cs0, f0, p0, q0, hg0, ht0, hv0, hd0, _, _⟩, _, _⟩ := h
  obtain rfl := Option.some.inj (hg.symm.trans hg0)
  obtain rfl := Option.some.inj (hty.symm.trans ht0)
  exact .of_vals hg hv0 (arr_strs ht he hc rfl hct hd0)
theorem VarOk.err {ms : Array (String × TypeId)} {tp te ts : TypeId} {f : Field} {nm : String} {text : List UInt8} (h : laidMet P [(n, .iface nm (.ptr (.agg [.lit (.string text)])))] W) (hg : P.globalNamed n = some g) (hty : (P.globals[g]?).map (·.type) = some t) (hi : P.underlying t = some (.interface ms)) (hrow : ∀ u, P.typeName? 3 u = some nm → u = tp)
    (hp : P.underlying tp = some (.pointer te)) (he : P.underlying te = some (.struct #[f])) (hft : f.type = ts) (hfo : f.offset = 0) (hs : P.underlying ts = some .string) (hc : P.cellsOf te = 1) (hcs : P.cellsOf ts = 1) :
    VarOk W g (.r [.ifc tp (.r [.v (.string ⟨text.toArray⟩)])]) := by
  obtain ⟨a, s, hv, hcell, htx, _⟩ := laid_sentinel h hg hty hi hrow hp he hft hfo hs hc hcs
  have hsx : (⟨text.toArray⟩ : ByteArray) = s := by rw [← htx]
  rw [hsx]
  intro H hro
  refine ⟨?_, fun cs' hcs' => ?_⟩
  · refine .r (fun _ => .iface tp (.pointer (some a))) (fun j gv hj => ?_) (fun j gv hj => ?_)
    · cases j with
      | zero =>
        rw [hro]
        have := World.var?_cell hg hv 0
        exact this
      | succ j => simp at hj
    · cases j with
      | zero =>
        simp at hj
        subst hj
        refine .ifc (.r (fun _ => .string s) (fun j gv hj => ?_) (fun j gv hj => ?_))
        · cases j with
          | zero =>
            rw [hro]
            exact hcell
          | succ j => simp at hj
        · cases j with
          | zero => simp at hj; subst hj; exact .v _
          | succ j => simp at hj
      | succ j => simp at hj
  · cases hcs'
    have := (VarOk.of_vals hg hv rfl H hro).2 _ rfl
    simpa using this
end
end Go.GK
