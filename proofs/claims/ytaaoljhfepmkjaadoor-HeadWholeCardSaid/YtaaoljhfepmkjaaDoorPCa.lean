/-
  Plain laws: numbers, texts, labels, series as bytes; no program is in sight.
-/
import Derived.Test.YtaaoljhfepmkjaaDoorPLb
import Derived.Test.YtaaoljhfepmkjaaDoorPBa
namespace Go.PL
/-- A number's bytes, the greatest first. -/
def beN (l : List UInt8) : Nat := l.foldl (fun u b => u * 256 + b.toNat) 0
theorem beN_snoc (l : List UInt8) (b : UInt8) : beN (l ++ [b]) = beN l * 256 + b.toNat := by
  unfold beN
  rw [List.foldl_append]
  rfl
theorem beN_lt (l : List UInt8) : beN l < 256 ^ l.length := by
  have h : ∀ (l : List UInt8) (u k : Nat), u < 256 ^ k → l.foldl (fun u b => u * 256 + b.toNat) u < 256 ^ (k + l.length) := by
    intro l
    induction l with
    | nil => intro u k h; exact h
    | cons b l ih =>
      intro u k h
      have := b.toNat_lt
      have h2 : u * 256 + b.toNat < 256 ^ (k + 1) := by
        rw [Nat.pow_succ]
        omega
      have := ih _ _ h2
      rw [List.foldl_cons, List.length_cons]
      rw [show k + (l.length + 1) = k + 1 + l.length by omega]
      exact this
  have := h l 0 0 Nat.one_pos
  rwa [Nat.zero_add] at this
def numF (s : ByteArray) : Int := IntKind.i64.wrap (beN (s.data.toList.take 8) : Int)
def rest8 (s : ByteArray) : ByteArray := s.extract 8 s.size
def numP (s : ByteArray) : Option (Int × ByteArray) := if s.size < 8 then none else some (numF s, rest8 s)
def textP (s : ByteArray) : Option (ByteArray × ByteArray) :=
  match numP s with
  | none => none
  | some (n, r) => if 0 ≤ n ∧ n ≤ r.size then some (r.extract 0 n.toNat, r.extract n.toNat r.size) else none
def pairsP : Nat → ByteArray → Option (List Lb × ByteArray)
  | 0, s => some ([], s)
  | j + 1, s => match pairsP j s with
    | none => none
    | some (l, r) => match textP r with
      | none => none
      | some (a, r1) => match textP r1 with
        | none => none
        | some (b, r2) => some (l ++ [⟨a, b⟩], r2)
def labelsP (s : ByteArray) : Option (List Lb × ByteArray) :=
  match numP s with
  | none => none
  | some (k, r) => if 0 ≤ k ∧ k ≤ 8 then pairsP k.toNat r else none
open Classical in
/-- The samples that bytes are. -/
noncomputable def decS (t : ByteArray) : Option (List Sm) := if h : ∃ l, okS l = true ∧ V64 l ∧ t = enc l then some h.choose else none
theorem decS_of {t : ByteArray} {l : List Sm} (h1 : okS l = true) (h2 : V64 l) (h3 : t = enc l) : decS t = some l := by
  have h : ∃ l, okS l = true ∧ V64 l ∧ t = enc l := ⟨l, h1, h2, h3⟩
  unfold decS
  rw [dif_pos h]
  obtain ⟨a1, a2, a3⟩ := h.choose_spec
  have r1 := (okS_iff l).1 h1
  have r2 := (okS_iff _).1 a1
  exact congrArg some (enc_inj r2.1 r1.1 r2.2 r1.2 a2 h2 (a3.symm.trans h3))
theorem decS_no {t : ByteArray} (h : ∀ l, okS l = true → V64 l → t ≠ enc l) : decS t = none := by
  unfold decS
  rw [dif_neg]
  rintro ⟨l, h1, h2, h3⟩
  exact h l h1 h2 h3
structure Ser where
  labels : List Lb
  samples : List Sm
noncomputable def oneP (s : ByteArray) : Option (Ser × ByteArray) :=
  match labelsP s with
  | none => none
  | some (l, r) => if rightF l = true then (match textP r with
    | none => none
    | some (t, r2) => match decS t with
      | none => none
      | some xs => some (⟨l, xs⟩, r2)) else none
noncomputable def sersP : Nat → ByteArray → Option (List Ser × ByteArray)
  | 0, s => some ([], s)
  | i + 1, s => match sersP i s with
    | none => none
    | some (l, r) => match oneP r with
      | none => none
      | some (x, r2) => some (l ++ [x], r2)
noncomputable def seriesP (s : ByteArray) : Option (List Ser × ByteArray) :=
  match numP s with
  | none => none
  | some (n, r) => if 0 ≤ n ∧ n ≤ r.size then sersP n.toNat r else none
theorem numP_size {s r : ByteArray} {n : Int} (h : numP s = some (n, r)) : r.size + 8 = s.size ∧ n = numF s ∧ r = rest8 s := by
  unfold numP at h
  split at h
  · cases h
  · cases h
    refine ⟨?_, rfl, rfl⟩
    unfold rest8
    rw [ByteArray.size_extract]
    omega
theorem textP_size {s t r : ByteArray} (h : textP s = some (t, r)) : t.size + r.size + 8 = s.size := by
  unfold textP at h
  cases hn : numP s with
  | none => rw [hn] at h; cases h
  | some x =>
    obtain ⟨n, r0⟩ := x
    rw [hn] at h
    have h0 := (numP_size hn).1
    simp only at h
    split at h
    · cases h
      rw [ByteArray.size_extract, ByteArray.size_extract]
      omega
    · cases h
theorem pairsP_size : ∀ {j : Nat} {s r : ByteArray} {l : List Lb}, pairsP j s = some (l, r) → r.size + 16 * j ≤ s.size ∧ l.length = j ∧ ∀ x ∈ l, x.name.size ≤ s.size ∧ x.value.size ≤ s.size
  | 0, s, r, l, h => by cases h; exact ⟨Nat.le_refl _, rfl, by simp⟩
  | j + 1, s, r, l, h => by
    unfold pairsP at h
    cases h1 : pairsP j s with
    | none => rw [h1] at h; cases h
    | some y =>
      obtain ⟨l1, r1⟩ := y
      rw [h1] at h
      simp only at h
      cases h2 : textP r1 with
      | none => rw [h2] at h; cases h
      | some y =>
        obtain ⟨a, r2⟩ := y
        rw [h2] at h
        simp only at h
        cases h3 : textP r2 with
        | none => rw [h3] at h; cases h
        | some y =>
          obtain ⟨b, r3⟩ := y
          rw [h3] at h
          cases h
          obtain ⟨i1, i2, i3⟩ := pairsP_size h1
          have s2 := textP_size h2
          have s3 := textP_size h3
          refine ⟨by omega, by simp [i2], fun x hx => ?_⟩
          rcases List.mem_append.1 hx with hx | hx
          · exact i3 x hx
          · rw [List.mem_singleton.1 hx]
            exact ⟨by show a.size ≤ _; omega, by show b.size ≤ _; omega⟩
theorem labelsP_size {s r : ByteArray} {l : List Lb} (h : labelsP s = some (l, r)) : r.size + 8 ≤ s.size ∧ l.length ≤ 8 ∧ ∀ x ∈ l, x.name.size ≤ s.size ∧ x.value.size ≤ s.size := by
  unfold labelsP at h
  cases hn : numP s with
  | none => rw [hn] at h; cases h
  | some x =>
    obtain ⟨k, r0⟩ := x
    rw [hn] at h
    have h0 := (numP_size hn).1
    simp only at h
    split at h
    · obtain ⟨i1, i2, i3⟩ := pairsP_size h
      refine ⟨by omega, by omega, fun x hx => ?_⟩
      have := i3 x hx
      omega
    · cases h
theorem oneP_size {s r : ByteArray} {x : Ser} (h : oneP s = some (x, r)) : r.size + 16 ≤ s.size := by
  unfold oneP at h
  cases hl : labelsP s with
  | none => rw [hl] at h; cases h
  | some y =>
    obtain ⟨l, r1⟩ := y
    rw [hl] at h
    have h1 := (labelsP_size hl).1
    simp only at h
    split at h
    · cases ht : textP r1 with
      | none => rw [ht] at h; cases h
      | some y =>
        obtain ⟨t, r2⟩ := y
        rw [ht] at h
        have h2 := textP_size ht
        simp only at h
        cases hd : decS t with
        | none => rw [hd] at h; cases h
        | some xs =>
          rw [hd] at h
          cases h
          omega
    · cases h
theorem sersP_size : ∀ {i : Nat} {s r : ByteArray} {l : List Ser}, sersP i s = some (l, r) → r.size + 16 * i ≤ s.size ∧ l.length = i
  | 0, s, r, l, h => by cases h; exact ⟨Nat.le_refl _, rfl⟩
  | i + 1, s, r, l, h => by
    unfold sersP at h
    cases h1 : sersP i s with
    | none => rw [h1] at h; cases h
    | some y =>
      obtain ⟨l1, r1⟩ := y
      rw [h1] at h
      simp only at h
      cases h2 : oneP r1 with
      | none => rw [h2] at h; cases h
      | some y =>
        obtain ⟨x, r2⟩ := y
        rw [h2] at h
        cases h
        obtain ⟨i1, i2⟩ := sersP_size h1
        have := oneP_size h2
        exact ⟨by omega, by simp [i2]⟩
/-- Series that do not fit are none. -/
theorem sersP_no {n : Nat} {s : ByteArray} (h : s.size < n) : sersP n s = none := by
  cases hs : sersP n s with
  | none => rfl
  | some y =>
    obtain ⟨l, r⟩ := y
    have := (sersP_size hs).1
    omega
theorem sersP_mono {s : ByteArray} : ∀ {i j : Nat}, i ≤ j → sersP i s = none → sersP j s = none := by
  intro i j hij h
  induction hij with
  | refl => exact h
  | step _ ih => unfold sersP; rw [ih]
theorem pairsP_mono {s : ByteArray} : ∀ {i j : Nat}, i ≤ j → pairsP i s = none → pairsP j s = none := by
  intro i j hij h
  induction hij with
  | refl => exact h
  | step _ ih => unfold pairsP; rw [ih]
end Go.PL


namespace Go.PL
open Go
def be8 (u : Nat) : List UInt8 := [UInt8.ofNat (u / 72057594037927936), UInt8.ofNat (u / 281474976710656), UInt8.ofNat (u / 1099511627776), UInt8.ofNat (u / 4294967296), UInt8.ofNat (u / 16777216), UInt8.ofNat (u / 65536), UInt8.ofNat (u / 256), UInt8.ofNat u]
theorem beN_be8 {u : Nat} (h : u < 18446744073709551616) : beN (be8 u) = u := by
  simp only [beN, be8, List.foldl_cons, List.foldl_nil, UInt8.toNat_ofNat']
  omega
theorem be8_beN {l : List UInt8} (h : l.length = 8) : be8 (beN l) = l := by
  match l, h with
  | [a, b, c, d, e, f, g, k], _ =>
    have ha := a.toNat_lt
    have hb := b.toNat_lt
    have hc := c.toNat_lt
    have hd := d.toNat_lt
    have he := e.toNat_lt
    have hf := f.toNat_lt
    have hg := g.toNat_lt
    have hk := k.toNat_lt
    have ext : ∀ {n : Nat} {x : UInt8}, n % 256 = x.toNat → UInt8.ofNat n = x := fun {n x} h => by
      apply UInt8.toNat_inj.1
      rw [UInt8.toNat_ofNat']
      exact h
    simp only [beN, be8, List.foldl_cons, List.foldl_nil]
    congr 1
    · exact ext (by omega)
    · congr 1
      · exact ext (by omega)
      · congr 1
        · exact ext (by omega)
        · congr 1
          · exact ext (by omega)
          · congr 1
            · exact ext (by omega)
            · congr 1
              · exact ext (by omega)
              · congr 1
                · exact ext (by omega)
                · congr 1
                  exact ext (by omega)
def uN (n : Int) : Nat := (n % 18446744073709551616).toNat
def wrN (n : Int) : ByteArray := ⟨(be8 (uN n)).toArray⟩
theorem wrN_size (n : Int) : (wrN n).size = 8 := rfl
def wrT (s : ByteArray) : ByteArray := wrN s.size ++ s
def wrP : List Lb → ByteArray
  | [] => ByteArray.empty
  | x :: l => wrT x.name ++ (wrT x.value ++ wrP l)
def wrL (l : List Lb) : ByteArray := wrN l.length ++ wrP l
def wr1 (x : Ser) : ByteArray := wrL x.labels ++ wrT (enc x.samples)
def wrR : List Ser → ByteArray
  | [] => ByteArray.empty
  | x :: l => wr1 x ++ wrR l
def wrS (l : List Ser) : ByteArray := wrN l.length ++ wrR l
theorem wrP_app (l m : List Lb) : wrP (l ++ m) = wrP l ++ wrP m := by
  induction l with
  | nil => exact (ByteArray.empty_append).symm
  | cons x l ih => simp only [List.cons_append, wrP, ih, ByteArray.append_assoc]
theorem wrR_app (l m : List Ser) : wrR (l ++ m) = wrR l ++ wrR m := by
  induction l with
  | nil => exact (ByteArray.empty_append).symm
  | cons x l ih => simp only [List.cons_append, wrR, ih, ByteArray.append_assoc]
theorem app_nil (s : ByteArray) : s ++ ByteArray.empty = s := ByteArray.append_empty
theorem ba_l (a b : ByteArray) : (a ++ b).extract 0 a.size = a := by
  rw [ByteArray.extract_append_eq_left rfl]
theorem ba_r (a b : ByteArray) : (a ++ b).extract a.size (a ++ b).size = b := by
  rw [ByteArray.extract_append_eq_right rfl ByteArray.size_append]
theorem numP_wr {n : Int} (h : In64 n) (r : ByteArray) : numP (wrN n ++ r) = some (n, r) := by
  unfold numP
  have hs : (wrN n ++ r).size = 8 + r.size := by rw [ByteArray.size_append, wrN_size]
  rw [if_neg (by omega)]
  refine congrArg some (Prod.ext ?_ (ba_r (wrN n) r))
  show IntKind.i64.wrap (beN ((wrN n ++ r).data.toList.take 8) : Int) = n
  have e : (wrN n ++ r).data.toList.take 8 = be8 (uN n) := by
    rw [show (wrN n ++ r).data = (wrN n).data ++ r.data from ByteArray.data_append, Array.toList_append]
    exact List.take_left' rfl
  have hu : uN n < 18446744073709551616 := by unfold uN; omega
  rw [e, beN_be8 hu]
  unfold uN
  rw [IntKind.wrap_i64]
  obtain ⟨h1, h2⟩ := h
  omega
theorem numF_in (s : ByteArray) : In64 (numF s) := by
  unfold numF
  rw [IntKind.wrap_i64]
  constructor <;> omega
theorem numP_inv {s r : ByteArray} {n : Int} (h : numP s = some (n, r)) : s = wrN n ++ r ∧ In64 n := by
  obtain ⟨h1, rfl, rfl⟩ := numP_size h
  refine ⟨?_, numF_in s⟩
  have hl : (s.data.toList.take 8).length = 8 := by
    rw [List.length_take]
    have : s.data.toList.length = s.size := rfl
    omega
  have hlt := beN_lt (s.data.toList.take 8)
  rw [hl] at hlt
  have hu : uN (numF s) = beN (s.data.toList.take 8) := by
    unfold uN numF
    rw [IntKind.wrap_i64]
    omega
  have e : wrN (numF s) = s.extract 0 8 := by
    unfold wrN
    rw [hu, be8_beN hl]
    apply ByteArray.ext
    rw [ByteArray.data_extract]
    apply Array.toList_inj.1
    rw [Array.toList_extract]
    simp
  rw [e]
  unfold rest8
  rw [ByteArray.extract_append_extract]
  simp
theorem textP_wr {t : ByteArray} (h : t.size < 9223372036854775808) (r : ByteArray) : textP (wrT t ++ r) = some (t, r) := by
  unfold textP wrT
  rw [ByteArray.append_assoc, numP_wr ⟨by omega, by omega⟩]
  have hs : (t ++ r).size = t.size + r.size := ByteArray.size_append
  simp only
  rw [if_pos ⟨by omega, by omega⟩]
  refine congrArg some (Prod.ext ?_ ?_)
  · exact ba_l t r
  · exact ba_r t r
theorem textP_inv {s t r : ByteArray} (h : textP s = some (t, r)) : s = wrT t ++ r := by
  unfold textP at h
  cases hn : numP s with
  | none => rw [hn] at h; cases h
  | some x =>
    obtain ⟨n, r0⟩ := x
    rw [hn] at h
    obtain ⟨h0, -⟩ := numP_inv hn
    simp only at h
    split at h
    · rename_i hc
      cases h
      have hsz : (r0.extract 0 n.toNat).size = n.toNat := by rw [ByteArray.size_extract]; omega
      unfold wrT
      rw [hsz, ByteArray.append_assoc, ByteArray.extract_append_extract, h0]
      have e1 : ((n.toNat : Nat) : Int) = n := by omega
      have e2 : r0.extract (min 0 n.toNat) (max n.toNat r0.size) = r0 := by
        rw [show min 0 n.toNat = 0 by omega, show max n.toNat r0.size = r0.size by omega]
        exact ByteArray.extract_zero_size
      rw [e1, e2]
    · cases h
theorem pairsP_wr (l : List Lb) (hl : ∀ x ∈ l, x.name.size < 9223372036854775808 ∧ x.value.size < 9223372036854775808) (r : ByteArray) : ∀ j, j ≤ l.length → pairsP j (wrP l ++ r) = some (l.take j, wrP (l.drop j) ++ r) := by
  intro j
  induction j with
  | zero => intro _; rfl
  | succ j ih =>
    intro hj
    unfold pairsP
    rw [ih (by omega), List.drop_eq_getElem_cons (by omega)]
    have hx := hl l[j] (List.getElem_mem (by omega))
    simp only [wrP, ByteArray.append_assoc]
    rw [textP_wr hx.1]
    simp only
    rw [textP_wr hx.2]
    simp only
    rw [List.take_add_one, List.getElem?_eq_getElem (by omega)]
    rfl
theorem pairsP_inv : ∀ {j : Nat} {s r : ByteArray} {l : List Lb}, pairsP j s = some (l, r) → s = wrP l ++ r
  | 0, s, r, l, h => by cases h; exact ByteArray.empty_append.symm
  | j + 1, s, r, l, h => by
    unfold pairsP at h
    cases h1 : pairsP j s with
    | none => rw [h1] at h; cases h
    | some y =>
      obtain ⟨l1, r1⟩ := y
      rw [h1] at h
      simp only at h
      cases h2 : textP r1 with
      | none => rw [h2] at h; cases h
      | some y =>
        obtain ⟨a, r2⟩ := y
        rw [h2] at h
        simp only at h
        cases h3 : textP r2 with
        | none => rw [h3] at h; cases h
        | some y =>
          obtain ⟨b, r3⟩ := y
          rw [h3] at h
          cases h
          rw [wrP_app]
          simp only [wrP, app_nil, ByteArray.append_assoc]
          rw [← textP_inv h3, ← textP_inv h2]
          exact pairsP_inv h1
theorem labelsP_wr {l : List Lb} (hl : ∀ x ∈ l, x.name.size < 9223372036854775808 ∧ x.value.size < 9223372036854775808) (h8 : l.length ≤ 8) (r : ByteArray) : labelsP (wrL l ++ r) = some (l, r) := by
  unfold labelsP wrL
  rw [ByteArray.append_assoc, numP_wr ⟨by omega, by omega⟩]
  simp only
  rw [if_pos ⟨by omega, by omega⟩, Int.toNat_natCast, pairsP_wr l hl r l.length (Nat.le_refl _), List.take_length, List.drop_length]
  exact congrArg (fun x => some (l, x)) ByteArray.empty_append
theorem labelsP_inv {s r : ByteArray} {l : List Lb} (h : labelsP s = some (l, r)) : s = wrL l ++ r := by
  unfold labelsP at h
  cases hn : numP s with
  | none => rw [hn] at h; cases h
  | some x =>
    obtain ⟨k, r0⟩ := x
    rw [hn] at h
    obtain ⟨h0, -⟩ := numP_inv hn
    simp only at h
    split at h
    · rename_i hk
      have h1 := (pairsP_size h).2.1
      unfold wrL
      rw [h1, ByteArray.append_assoc, ← pairsP_inv h, h0, show ((k.toNat : Nat) : Int) = k by omega]
    · cases h
/-- Series that may be. -/
def GoodS (x : Ser) : Prop := rightF x.labels = true ∧ okS x.samples = true ∧ V64 x.samples
theorem right_small {l : List Lb} (h : rightF l = true) : l.length ≤ 8 ∧ ∀ x ∈ l, x.name.size ≤ 24 ∧ x.value.size ≤ 24 := by
  unfold rightF at h
  simp only [Bool.and_eq_true, Bool.not_eq_true', decide_eq_true_eq] at h
  obtain ⟨h1, -, h3⟩ := h
  refine ⟨h3, fun x hx => ?_⟩
  obtain ⟨i, hi, rfl⟩ := List.mem_iff_getElem.1 hx
  have hb : lbad l i = false := by
    cases hc : lbad l i with
    | false => rfl
    | true =>
      have := anyB_true hi hc
      rw [h1] at this
      cases this
  unfold lbad at hb
  simp only [Bool.or_eq_false_iff, Bool.not_eq_false'] at hb
  have e : l.getD i default = l[i] := by rw [List.getD_eq_getElem?_getD, List.getElem?_eq_getElem hi]; rfl
  rw [e] at hb
  obtain ⟨n1, n2, -⟩ := hb
  unfold nameF at n1
  unfold valueF at n2
  simp only [Bool.and_eq_true, decide_eq_true_eq] at n1 n2
  exact ⟨n1.2.2, n2.2⟩
theorem enc_small {l : List Sm} (h : okS l = true) : (enc l).size ≤ 100000 := by
  have h1 := chunkF_len l
  have h2 := ((okS_iff l).1 h).2
  show (pack (chunkF l)).toArray.size ≤ _
  rw [List.size_toArray, pack_len]
  omega
theorem oneP_wr {x : Ser} (h : GoodS x) (r : ByteArray) : oneP (wr1 x ++ r) = some (x, r) := by
  obtain ⟨h1, h2, h3⟩ := h
  obtain ⟨r1, r2⟩ := right_small h1
  have h4 := enc_small h2
  unfold oneP wr1
  rw [ByteArray.append_assoc, labelsP_wr (fun y hy => by have := r2 y hy; omega) r1]
  simp only
  rw [if_pos h1, textP_wr (by omega)]
  simp only
  rw [decS_of h2 h3 rfl]
theorem decS_some {t : ByteArray} {l : List Sm} (h : decS t = some l) : okS l = true ∧ V64 l ∧ t = enc l := by
  unfold decS at h
  split at h
  · rename_i hc
    cases h
    exact hc.choose_spec
  · cases h
theorem oneP_inv {s r : ByteArray} {x : Ser} (h : oneP s = some (x, r)) : s = wr1 x ++ r ∧ GoodS x := by
  unfold oneP at h
  cases hl : labelsP s with
  | none => rw [hl] at h; cases h
  | some y =>
    obtain ⟨l, r1⟩ := y
    rw [hl] at h
    have h1 := labelsP_inv hl
    simp only at h
    split at h
    · rename_i hr
      cases ht : textP r1 with
      | none => rw [ht] at h; cases h
      | some y =>
        obtain ⟨t, r2⟩ := y
        rw [ht] at h
        have h2 := textP_inv ht
        simp only at h
        cases hd : decS t with
        | none => rw [hd] at h; cases h
        | some xs =>
          rw [hd] at h
          cases h
          obtain ⟨d1, d2, d3⟩ := decS_some hd
          refine ⟨?_, hr, d1, d2⟩
          unfold wr1
          rw [ByteArray.append_assoc, ← d3, ← h2, ← h1]
    · cases h
theorem sersP_wr (l : List Ser) (hl : ∀ x ∈ l, GoodS x) (r : ByteArray) : ∀ j, j ≤ l.length → sersP j (wrR l ++ r) = some (l.take j, wrR (l.drop j) ++ r) := by
  intro j
  induction j with
  | zero => intro _; rfl
  | succ j ih =>
    intro hj
    unfold sersP
    rw [ih (by omega), List.drop_eq_getElem_cons (by omega)]
    simp only [wrR, ByteArray.append_assoc]
    rw [oneP_wr (hl l[j] (List.getElem_mem (by omega)))]
    simp only
    rw [List.take_add_one, List.getElem?_eq_getElem (by omega)]
    rfl
theorem sersP_inv : ∀ {j : Nat} {s r : ByteArray} {l : List Ser}, sersP j s = some (l, r) → s = wrR l ++ r ∧ ∀ x ∈ l, GoodS x
  | 0, s, r, l, h => by cases h; exact ⟨ByteArray.empty_append.symm, by simp⟩
  | j + 1, s, r, l, h => by
    unfold sersP at h
    cases h1 : sersP j s with
    | none => rw [h1] at h; cases h
    | some y =>
      obtain ⟨l1, r1⟩ := y
      rw [h1] at h
      simp only at h
      cases h2 : oneP r1 with
      | none => rw [h2] at h; cases h
      | some y =>
        obtain ⟨a, r2⟩ := y
        rw [h2] at h
        cases h
        obtain ⟨i1, i2⟩ := sersP_inv h1
        obtain ⟨o1, o2⟩ := oneP_inv h2
        refine ⟨?_, fun x hx => ?_⟩
        · rw [wrR_app]
          simp only [wrR, app_nil, ByteArray.append_assoc]
          rw [← o1]
          exact i1
        · rcases List.mem_append.1 hx with hx | hx
          · exact i2 x hx
          · rw [List.mem_singleton.1 hx]; exact o2
theorem wr1_big (x : Ser) : 16 ≤ (wr1 x).size := by
  unfold wr1 wrL wrT
  simp only [ByteArray.size_append, wrN_size]
  omega
theorem wrR_big (l : List Ser) : 16 * l.length ≤ (wrR l).size := by
  induction l with
  | nil => exact Nat.le_refl _
  | cons x l ih =>
    have := wr1_big x
    simp only [wrR, ByteArray.size_append, List.length_cons]
    omega
theorem seriesP_wr {l : List Ser} (hl : ∀ x ∈ l, GoodS x) (hn : l.length < 9223372036854775808) (r : ByteArray) : seriesP (wrS l ++ r) = some (l, r) := by
  unfold seriesP wrS
  rw [ByteArray.append_assoc, numP_wr ⟨by omega, by omega⟩]
  have h1 := wrR_big l
  have h2 : (wrR l ++ r).size = (wrR l).size + r.size := ByteArray.size_append
  simp only
  rw [if_pos ⟨by omega, by omega⟩, Int.toNat_natCast, sersP_wr l hl r l.length (Nat.le_refl _), List.take_length, List.drop_length]
  exact congrArg (fun x => some (l, x)) ByteArray.empty_append
theorem seriesP_inv {s r : ByteArray} {l : List Ser} (h : seriesP s = some (l, r)) : s = wrS l ++ r ∧ ∀ x ∈ l, GoodS x := by
  unfold seriesP at h
  cases hn : numP s with
  | none => rw [hn] at h; cases h
  | some x =>
    obtain ⟨k, r0⟩ := x
    rw [hn] at h
    obtain ⟨h0, -⟩ := numP_inv hn
    simp only at h
    split at h
    · have h1 := (sersP_size h).2
      obtain ⟨i1, i2⟩ := sersP_inv h
      refine ⟨?_, i2⟩
      unfold wrS
      rw [h1, ByteArray.append_assoc, ← i1, h0, show ((k.toNat : Nat) : Int) = k by omega]
    · cases h
theorem seriesP_size {s r : ByteArray} {l : List Ser} (h : seriesP s = some (l, r)) : r.size ≤ s.size := by
  obtain ⟨h1, -⟩ := seriesP_inv h
  rw [h1, ByteArray.size_append]
  omega
/-- What the given program asks of the number ahead of series. -/
theorem seriesP_c (s : ByteArray) : seriesP s = (match numP s with
    | none => none
    | some (n, r) => if 0 ≤ n ∧ n ≤ s.size then sersP n.toNat r else none) := by
  unfold seriesP
  cases hn : numP s with
  | none => rfl
  | some x =>
    obtain ⟨n, r⟩ := x
    have h0 := (numP_size hn).1
    simp only
    by_cases h : 0 ≤ n ∧ n ≤ r.size
    · rw [if_pos h, if_pos ⟨h.1, by omega⟩]
    · rw [if_neg h]
      by_cases h' : 0 ≤ n ∧ n ≤ s.size
      · rw [if_pos h', sersP_no (by omega)]
      · rw [if_neg h']
end Go.PL


namespace Go.PL
open Go
/-- Whether the last sample lies above a time. -/
def lastB (to_ : Int) (xs : List Sm) : Bool := match xs[xs.length - 1]? with
  | some y => decide (to_ < y.time)
  | none => false
/-- Whether the series ahead of it is not ahead of it. -/
def prevB (l : List Ser) (i : Nat) (x : Ser) : Bool := decide (0 < i) && (match l[i - 1]? with
  | some p => decide (0 ≤ cmpF p.labels x.labels)
  | none => false)
/-- Whether series i, of a block up to a time, may not be there. -/
noncomputable def blkBad (to_ : Int) (l : List Ser) (i : Nat) : Bool := match l[i]? with
  | none => false
  | some x => !rightF x.labels || (!okS x.samples || (decide (x.samples.length = 0) || (lastB to_ x.samples || prevB l i x)))
theorem blkBad_at {to_ : Int} {l : List Ser} {i : Nat} (h : i < l.length) : blkBad to_ l i = (!rightF l[i].labels || (!okS l[i].samples || (decide (l[i].samples.length = 0) || (lastB to_ l[i].samples || prevB l i l[i])))) := by
  unfold blkBad
  rw [List.getElem?_eq_getElem h]
theorem lastB_at {to_ : Int} {xs : List Sm} (h : xs.length - 1 < xs.length) : lastB to_ xs = decide (to_ < xs[xs.length - 1].time) := by
  unfold lastB
  rw [List.getElem?_eq_getElem h]
theorem prevB_at {l : List Ser} {i : Nat} {x : Ser} (h : i - 1 < l.length) (h0 : 0 < i) : prevB l i x = decide (0 ≤ cmpF l[i - 1].labels x.labels) := by
  unfold prevB
  rw [List.getElem?_eq_getElem h, decide_eq_true h0]
  rfl
theorem prevB_0 {l : List Ser} {x : Ser} : prevB l 0 x = false := rfl
noncomputable def blkR (to_ old : Int) (l : List Ser) : Bool := !anyB l.length (blkBad to_ l) && (decide (-1099511627776 ≤ to_ ∧ to_ ≤ 1099511627776) && decide (-1 ≤ old))
theorem blkR_all {to_ old : Int} {l : List Ser} (h : blkR to_ old l = true) : ∀ x ∈ l, rightF x.labels = true ∧ okS x.samples = true := by
  unfold blkR at h
  rw [Bool.and_eq_true, Bool.not_eq_true'] at h
  intro x hx
  obtain ⟨i, hi, rfl⟩ := List.getElem_of_mem hx
  have := anyB_get h.1 i hi
  unfold blkBad at this
  rw [List.getElem?_eq_getElem hi] at this
  simp only [Bool.or_eq_false_iff, Bool.not_eq_false'] at this
  exact ⟨this.1, this.2.1⟩
def wrB (to_ old : Int) (l : List Ser) : ByteArray := wrN to_ ++ wrN old ++ wrS l
/-- What a block's bytes are read as, ahead of the question whether it may be. -/
noncomputable def blkP (s : ByteArray) : Option ((Int × Int × List Ser) × ByteArray) := match numP s with
  | none => none
  | some (a, r) => match numP r with
    | none => none
    | some (b, r2) => match seriesP r2 with
      | none => none
      | some (l, r3) => some ((a, b, l), r3)
end Go.PL
