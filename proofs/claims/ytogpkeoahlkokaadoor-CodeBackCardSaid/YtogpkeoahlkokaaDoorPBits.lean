/-
  Plain laws on bits: no program is in sight.
-/
import Derived.Test.YtogpkeoahlkokaaDoorPRoll
import Derived.Laws.Strings
namespace Go.PL
open Go Go.GK

/-! ### Eight bits as a byte -/

def val8 (f : Nat → Bool) : Nat := (f 0).toNat * 128 + (f 1).toNat * 64 + (f 2).toNat * 32 + (f 3).toNat * 16 + (f 4).toNat * 8 + (f 5).toNat * 4 + (f 6).toNat * 2 + (f 7).toNat

theorem val8_lt (f : Nat → Bool) : val8 f < 256 := by
  unfold val8
  have h : ∀ b : Bool, b.toNat ≤ 1 := fun b => by cases b <;> decide
  have := h (f 0); have := h (f 1); have := h (f 2); have := h (f 3); have := h (f 4); have := h (f 5); have := h (f 6); have := h (f 7)
  omega

theorem val8_congr {f g : Nat → Bool} (h : ∀ j, j < 8 → f j = g j) : val8 f = val8 g := by
  unfold val8
  rw [h 0 (by omega), h 1 (by omega), h 2 (by omega), h 3 (by omega), h 4 (by omega), h 5 (by omega), h 6 (by omega), h 7 (by omega)]

theorem val8_or (f : Nat → Bool) (r : Nat) (hr : r < 8) (hf : f r = false) : val8 (fun j => j == r || f j) = val8 f ||| (128 >>> r) := by
  unfold val8
  match r, hr with
  | 0, _ => simp only [hf]; generalize f 1 = b1; generalize f 2 = b2; generalize f 3 = b3; generalize f 4 = b4; generalize f 5 = b5; generalize f 6 = b6; generalize f 7 = b7; revert b1 b2 b3 b4 b5 b6 b7; decide +kernel
  | 1, _ => simp only [hf]; generalize f 0 = b1; generalize f 2 = b2; generalize f 3 = b3; generalize f 4 = b4; generalize f 5 = b5; generalize f 6 = b6; generalize f 7 = b7; revert b1 b2 b3 b4 b5 b6 b7; decide +kernel
  | 2, _ => simp only [hf]; generalize f 0 = b1; generalize f 1 = b2; generalize f 3 = b3; generalize f 4 = b4; generalize f 5 = b5; generalize f 6 = b6; generalize f 7 = b7; revert b1 b2 b3 b4 b5 b6 b7; decide +kernel
  | 3, _ => simp only [hf]; generalize f 0 = b1; generalize f 1 = b2; generalize f 2 = b3; generalize f 4 = b4; generalize f 5 = b5; generalize f 6 = b6; generalize f 7 = b7; revert b1 b2 b3 b4 b5 b6 b7; decide +kernel
  | 4, _ => simp only [hf]; generalize f 0 = b1; generalize f 1 = b2; generalize f 2 = b3; generalize f 3 = b4; generalize f 5 = b5; generalize f 6 = b6; generalize f 7 = b7; revert b1 b2 b3 b4 b5 b6 b7; decide +kernel
  | 5, _ => simp only [hf]; generalize f 0 = b1; generalize f 1 = b2; generalize f 2 = b3; generalize f 3 = b4; generalize f 4 = b5; generalize f 6 = b6; generalize f 7 = b7; revert b1 b2 b3 b4 b5 b6 b7; decide +kernel
  | 6, _ => simp only [hf]; generalize f 0 = b1; generalize f 1 = b2; generalize f 2 = b3; generalize f 3 = b4; generalize f 4 = b5; generalize f 5 = b6; generalize f 7 = b7; revert b1 b2 b3 b4 b5 b6 b7; decide +kernel
  | 7, _ => simp only [hf]; generalize f 0 = b1; generalize f 1 = b2; generalize f 2 = b3; generalize f 3 = b4; generalize f 4 = b5; generalize f 5 = b6; generalize f 6 = b7; revert b1 b2 b3 b4 b5 b6 b7; decide +kernel

theorem val8_bit (f : Nat → Bool) (r : Nat) (hr : r < 8) : (val8 f).testBit (7 - r) = f r := by
  unfold val8
  generalize h0 : f 0 = b0; generalize h1 : f 1 = b1; generalize h2 : f 2 = b2; generalize h3 : f 3 = b3; generalize h4 : f 4 = b4; generalize h5 : f 5 = b5; generalize h6 : f 6 = b6; generalize h7 : f 7 = b7
  match r, hr with
  | 0, _ => rw [h0]; clear h0 h1 h2 h3 h4 h5 h6 h7; revert b0 b1 b2 b3 b4 b5 b6 b7; decide +kernel
  | 1, _ => rw [h1]; clear h0 h1 h2 h3 h4 h5 h6 h7; revert b0 b1 b2 b3 b4 b5 b6 b7; decide +kernel
  | 2, _ => rw [h2]; clear h0 h1 h2 h3 h4 h5 h6 h7; revert b0 b1 b2 b3 b4 b5 b6 b7; decide +kernel
  | 3, _ => rw [h3]; clear h0 h1 h2 h3 h4 h5 h6 h7; revert b0 b1 b2 b3 b4 b5 b6 b7; decide +kernel
  | 4, _ => rw [h4]; clear h0 h1 h2 h3 h4 h5 h6 h7; revert b0 b1 b2 b3 b4 b5 b6 b7; decide +kernel
  | 5, _ => rw [h5]; clear h0 h1 h2 h3 h4 h5 h6 h7; revert b0 b1 b2 b3 b4 b5 b6 b7; decide +kernel
  | 6, _ => rw [h6]; clear h0 h1 h2 h3 h4 h5 h6 h7; revert b0 b1 b2 b3 b4 b5 b6 b7; decide +kernel
  | 7, _ => rw [h7]; clear h0 h1 h2 h3 h4 h5 h6 h7; revert b0 b1 b2 b3 b4 b5 b6 b7; decide +kernel

/-! ### Bits as bytes -/

def bitG (bs : List Bool) (k : Nat) : Bool := bs[k]?.getD false
def byteN (bs : List Bool) (i : Nat) : Nat := val8 fun j => bitG bs (8 * i + j)
def pack (bs : List Bool) : List UInt8 := (List.range ((bs.length + 7) / 8)).map fun i => UInt8.ofNat (byteN bs i)

theorem pack_len (bs : List Bool) : (pack bs).length = (bs.length + 7) / 8 := by simp [pack]
theorem pack_get (bs : List Bool) (i : Nat) : (pack bs)[i]? = if i < (bs.length + 7) / 8 then some (UInt8.ofNat (byteN bs i)) else none := by
  unfold pack
  rw [List.getElem?_map]
  by_cases h : i < (bs.length + 7) / 8
  · rw [if_pos h, List.getElem?_range h]; rfl
  · rw [if_neg h, List.getElem?_eq_none (by simpa using h)]; rfl

theorem bitG_snoc (bs : List Bool) (b : Bool) (k : Nat) : bitG (bs ++ [b]) k = if k = bs.length then b else bitG bs k := by
  unfold bitG
  by_cases h : k < bs.length
  · rw [List.getElem?_append_left h, if_neg (by omega)]
  · by_cases h2 : k = bs.length
    · subst h2; rw [if_pos rfl, List.getElem?_append_right (Nat.le_refl _)]; simp
    · rw [if_neg h2, List.getElem?_eq_none (by simp; omega), List.getElem?_eq_none (by omega)]
theorem bitG_ge (bs : List Bool) (k : Nat) (h : bs.length ≤ k) : bitG bs k = false := by
  unfold bitG; rw [List.getElem?_eq_none h]; rfl

theorem byteN_snocF (bs : List Bool) (i : Nat) : byteN (bs ++ [false]) i = byteN bs i := by
  unfold byteN
  refine val8_congr fun j _ => ?_
  rw [bitG_snoc]
  split
  · rename_i h; rw [bitG_ge bs _ (by omega)]
  · rfl
theorem byteN_snocT (bs : List Bool) (i : Nat) : byteN (bs ++ [true]) i = if i = bs.length / 8 then byteN bs i ||| (128 >>> (bs.length % 8)) else byteN bs i := by
  by_cases hi : i = bs.length / 8
  · rw [if_pos hi]
    unfold byteN
    rw [← val8_or (fun j => bitG bs (8 * i + j)) (bs.length % 8) (Nat.mod_lt _ (by omega)) (bitG_ge _ _ (by omega))]
    refine val8_congr fun j hj => ?_
    rw [bitG_snoc]
    by_cases h : j = bs.length % 8
    · rw [if_pos (by omega)]; simp [h]
    · rw [if_neg (by omega)]; simp [h]
  · rw [if_neg hi]
    unfold byteN
    refine val8_congr fun j hj => ?_
    rw [bitG_snoc, if_neg (by omega)]

theorem pack_F (bs : List Bool) : pack (bs ++ [false]) = if bs.length % 8 = 0 then pack bs ++ [0] else pack bs := by
  by_cases h : bs.length % 8 = 0
  · rw [if_pos h]
    refine List.ext_getElem? fun i => ?_
    rw [pack_get]
    by_cases h1 : i < (pack bs).length
    · rw [List.getElem?_append_left h1, pack_get]
      rw [pack_len] at h1
      rw [if_pos h1, if_pos (by simp; omega), byteN_snocF]
    · rw [List.getElem?_append_right (by omega)]
      rw [pack_len] at h1 ⊢
      by_cases h2 : i = (bs.length + 7) / 8
      · subst h2
        rw [if_pos (by simp; omega), Nat.sub_self, byteN_snocF]
        have : byteN bs ((bs.length + 7) / 8) = 0 := by
          unfold byteN
          rw [val8_congr (g := fun _ => false) (fun j _ => bitG_ge _ _ (by omega))]
          rfl
        rw [this]; rfl
      · rw [if_neg (by simp; omega), List.getElem?_eq_none (by simp; omega)]
  · rw [if_neg h]
    refine List.ext_getElem? fun i => ?_
    rw [pack_get, pack_get, byteN_snocF]
    have : (bs ++ [false]).length = bs.length + 1 := by simp
    rw [this, show (bs.length + 1 + 7) / 8 = (bs.length + 7) / 8 by omega]

theorem pack_T (bs : List Bool) : (pack (bs ++ [false])).set (bs.length / 8) (UInt8.ofNat (byteN bs (bs.length / 8) ||| (128 >>> (bs.length % 8)))) = pack (bs ++ [true]) := by
  refine List.ext_getElem? fun i => ?_
  have e1 : (bs ++ [false]).length = bs.length + 1 := by simp
  have e2 : (bs ++ [true]).length = bs.length + 1 := by simp
  rw [pack_get, byteN_snocT, e2]
  by_cases hi : bs.length / 8 = i
  · subst hi
    rw [List.getElem?_set_self (by rw [pack_len, e1]; omega), if_pos (by omega), if_pos rfl]
  · have hi' : ¬ i = bs.length / 8 := fun h => hi h.symm
    rw [List.getElem?_set_ne hi, pack_get, e1, byteN_snocF]
    simp only [if_neg hi']

theorem pack_at (bs : List Bool) : (pack (bs ++ [false]))[bs.length / 8]? = some (UInt8.ofNat (byteN bs (bs.length / 8))) := by
  rw [pack_get, byteN_snocF, if_pos (by simp; omega)]

/-! ### Bytes as bits -/

def byteBits (x : UInt8) : List Bool := (List.range 8).map fun j => x.toNat.testBit (7 - j)
def bitsOf (s : List UInt8) : List Bool := s.flatMap byteBits

theorem bitsOf_len (s : List UInt8) : (bitsOf s).length = 8 * s.length := by
  unfold bitsOf
  induction s with
  | nil => rfl
  | cons x s ih => simp only [List.flatMap_cons, List.length_append, ih, List.length_cons]; simp [byteBits]; omega

theorem bitsOf_get (s : List UInt8) (k : Nat) : (bitsOf s)[k]? = (s[k / 8]?).map fun x => x.toNat.testBit (7 - k % 8) := by
  unfold bitsOf
  induction s generalizing k with
  | nil => simp
  | cons x s ih =>
    have h8 : (byteBits x).length = 8 := by simp [byteBits]
    rw [List.flatMap_cons]
    by_cases h : k < 8
    · rw [List.getElem?_append_left (by omega), show k / 8 = 0 by omega, show k % 8 = k by omega]
      simp [byteBits, h]
    · rw [List.getElem?_append_right (by omega), h8, ih, show k / 8 = (k - 8) / 8 + 1 by omega, show (k - 8) % 8 = k % 8 by omega]
      rfl

theorem bitsOf_pack (bs : List Bool) : bitsOf (pack bs) = bs ++ List.replicate (8 * ((bs.length + 7) / 8) - bs.length) false := by
  refine List.ext_getElem? fun k => ?_
  rw [bitsOf_get, pack_get]
  by_cases h : k / 8 < (bs.length + 7) / 8
  · rw [if_pos h]
    simp only [Option.map_some]
    have hb : (UInt8.ofNat (byteN bs (k / 8))).toNat = byteN bs (k / 8) := by
      have := val8_lt (fun j => bitG bs (8 * (k / 8) + j))
      show (UInt8.ofNat (byteN bs (k / 8))).toNat = _
      simp only [UInt8.toNat_ofNat']
      exact Nat.mod_eq_of_lt this
    rw [hb]
    unfold byteN
    rw [val8_bit _ _ (Nat.mod_lt _ (by omega)), show 8 * (k / 8) + k % 8 = k by omega]
    by_cases h2 : k < bs.length
    · rw [List.getElem?_append_left h2]
      unfold bitG
      rw [List.getElem?_eq_getElem h2]; rfl
    · rw [List.getElem?_append_right (by omega), bitG_ge _ _ (by omega), List.getElem?_replicate, if_pos (by omega)]
  · rw [if_neg h, List.getElem?_eq_none (by simp; omega)]
    rfl

/-! ### Numbers -/

def valB (l : List Bool) : Nat := l.foldl (fun u b => 2 * u + b.toNat) 0
theorem valB_snoc (l : List Bool) (b : Bool) : valB (l ++ [b]) = 2 * valB l + b.toNat := by simp [valB]
theorem valB_lt (l : List Bool) : valB l < 2 ^ l.length := by
  refine snoc_ind (P := fun l => valB l < 2 ^ l.length) (by decide) (fun l b ih => ?_) l
  rw [valB_snoc, List.length_append, List.length_singleton, Nat.pow_succ]
  cases b <;> simp <;> omega

def lowBits (u k : Nat) : List Bool := ((List.range k).map fun i => u.testBit i).reverse
theorem lowBits_len (u k : Nat) : (lowBits u k).length = k := by simp [lowBits]
theorem lowBits_succ (u k : Nat) : lowBits u (k + 1) = u.testBit k :: lowBits u k := by
  unfold lowBits
  rw [List.range_succ]
  simp
theorem lowBits_get (u k i : Nat) (h : i < k) : (lowBits u k)[i]? = some (u.testBit (k - 1 - i)) := by
  unfold lowBits
  rw [List.getElem?_reverse (by simpa using h)]
  simp
  exact ⟨k - 1 - i, by rw [List.getElem?_range (by omega)], rfl⟩
theorem valB_app (a b : List Bool) : valB (a ++ b) = valB a * 2 ^ b.length + valB b := by
  refine snoc_ind (P := fun b => valB (a ++ b) = valB a * 2 ^ b.length + valB b) (by simp [valB]) (fun l x ih => ?_) b
  rw [← List.append_assoc, valB_snoc, valB_snoc, ih, List.length_append, List.length_singleton, Nat.pow_succ]
  rw [Nat.mul_add, ← Nat.mul_assoc, Nat.mul_comm 2, Nat.mul_assoc, Nat.mul_comm 2]
  omega
theorem valB_low (u k : Nat) : valB (lowBits u k) = u % 2 ^ k := by
  induction k with
  | zero => simp [lowBits, valB]; omega
  | succ k ih =>
    rw [lowBits_succ, show u.testBit k :: lowBits u k = [u.testBit k] ++ lowBits u k from rfl, valB_app, ih, lowBits_len]
    have h1 : valB [u.testBit k] = (u.testBit k).toNat := by simp [valB]
    have h2 : (u.testBit k).toNat = u / 2 ^ k % 2 := by
      rw [Nat.testBit_eq_decide_div_mod_eq]
      rcases Nat.mod_two_eq_zero_or_one (u / 2 ^ k) with h | h <;> rw [h] <;> rfl
    rw [h1, h2, Nat.mod_pow_succ, Nat.mul_comm]
    omega

def zigF (n : Int) : Nat := if n < 0 then (-2 * n - 1).toNat else (2 * n).toNat
def zagF (u : Nat) : Int := if u % 2 = 0 then (u / 2 : Nat) else -((u / 2 : Nat) : Int) - 1
theorem zag_zig (n : Int) : zagF (zigF n) = n := by
  unfold zagF zigF
  by_cases h : n < 0
  · rw [if_pos h, if_neg (by omega)]; omega
  · rw [if_neg h, if_pos (by omega)]; omega
theorem zig_zag (u : Nat) : zigF (zagF u) = u := by
  unfold zagF zigF
  by_cases h : u % 2 = 0
  · rw [if_pos h, if_neg (by omega)]; omega
  · rw [if_neg h, if_pos (by omega)]; omega
theorem zig_lt {n : Int} (h1 : -9223372036854775808 ≤ n) (h2 : n ≤ 9223372036854775807) : zigF n < 18446744073709551616 := by
  unfold zigF; split <;> omega

def sizeF (k : Nat) : Nat := [0, 4, 7, 12, 20, 32, 64].getD k 0
def clsF (u : Nat) : Nat := if u < 1 then 0 else if u < 16 then 1 else if u < 128 then 2 else if u < 4096 then 3 else if u < 1048576 then 4 else if u < 4294967296 then 5 else 6
theorem clsF_le (u : Nat) : clsF u ≤ 6 := by unfold clsF; repeat' split
                                             all_goals omega
theorem clsF_lt {u : Nat} (h : u < 18446744073709551616) : u < 2 ^ sizeF (clsF u) := by
  unfold clsF; repeat' split
  all_goals (simp [sizeF]; try omega)
theorem clsF_min {u k : Nat} (h : k < clsF u) : u >>> sizeF k ≠ 0 := by
  rw [Nat.shiftRight_eq_div_pow]
  have h6 : k < 6 := Nat.lt_of_lt_of_le h (clsF_le u)
  have hd : ∀ m, 0 < m → m ≤ u → u / m ≠ 0 := fun m hm hu => Nat.ne_of_gt (Nat.div_pos hu hm)
  unfold clsF at h
  match k, h6 with
  | 0, _ => refine hd _ (by decide) ?_; simp only [sizeF]; repeat' split at h
            all_goals (simp; omega)
  | 1, _ => refine hd _ (by decide) ?_; simp only [sizeF]; repeat' split at h
            all_goals (simp; omega)
  | 2, _ => refine hd _ (by decide) ?_; simp only [sizeF]; repeat' split at h
            all_goals (simp; omega)
  | 3, _ => refine hd _ (by decide) ?_; simp only [sizeF]; repeat' split at h
            all_goals (simp; omega)
  | 4, _ => refine hd _ (by decide) ?_; simp only [sizeF]; repeat' split at h
            all_goals (simp; omega)
  | 5, _ => refine hd _ (by decide) ?_; simp only [sizeF]; repeat' split at h
            all_goals (simp; omega)
theorem clsF_max {u k : Nat} (h : clsF u ≤ k) (hk : k < 6) : u >>> sizeF k = 0 := by
  rw [Nat.shiftRight_eq_div_pow]
  refine Nat.div_eq_of_lt ?_
  unfold clsF at h
  match k, hk with
  | 0, _ => simp only [sizeF]; repeat' split at h
            all_goals (simp; omega)
  | 1, _ => simp only [sizeF]; repeat' split at h
            all_goals (simp; omega)
  | 2, _ => simp only [sizeF]; repeat' split at h
            all_goals (simp; omega)
  | 3, _ => simp only [sizeF]; repeat' split at h
            all_goals (simp; omega)
  | 4, _ => simp only [sizeF]; repeat' split at h
            all_goals (simp; omega)
  | 5, _ => simp only [sizeF]; repeat' split at h
            all_goals (simp; omega)

/-- A number's bits. -/
def pre (k : Nat) : List Bool := List.replicate k true ++ (if k < 6 then [false] else [])
def putF (n : Int) : List Bool := pre (clsF (zigF n)) ++ lowBits (zigF n) (sizeF (clsF (zigF n)))

/-- How many 1 stand ahead; what is behind them. -/
def pfx : Nat → Nat → List Bool → Option (Nat × List Bool)
  | 0, k, bs => some (k, bs)
  | _ + 1, _, [] => none
  | n + 1, k, b :: bs => if b then pfx n (k + 1) bs else some (k, bs)

def getF (bs : List Bool) : Option (Int × List Bool) :=
  match pfx 6 0 bs with
  | none => none
  | some (k, r) => if r.length < sizeF k then none else if 0 < k ∧ valB (r.take (sizeF k)) >>> sizeF (k - 1) = 0 then none else some (zagF (valB (r.take (sizeF k))), r.drop (sizeF k))

theorem pfx_pre : ∀ (n k j : Nat) (r : List Bool), j ≤ n → k + n = 6 → pfx n k (List.replicate j true ++ (if k + j < 6 then [false] else []) ++ r) = some (k + j, r)
  | 0, k, j, r, h1, h2 => by
    have : j = 0 := by omega
    subst this
    simp [pfx, show ¬ k < 6 by omega]
  | n + 1, k, 0, r, h1, h2 => by simp [pfx, show k < 6 by omega]
  | n + 1, k, j + 1, r, h1, h2 => by
    have ih := pfx_pre n (k + 1) j r (by omega) (by omega)
    rw [show k + 1 + j = k + (j + 1) by omega] at ih
    rw [List.replicate_succ]
    simpa [pfx] using ih

theorem get_put (n : Int) (h1 : -9223372036854775808 ≤ n) (h2 : n ≤ 9223372036854775807) (r : List Bool) : getF (putF n ++ r) = some (n, r) := by
  have hz := zig_lt h1 h2
  have hl := clsF_lt hz
  have h6 := clsF_le (zigF n)
  unfold getF putF pre
  have := pfx_pre 6 0 (clsF (zigF n)) (lowBits (zigF n) (sizeF (clsF (zigF n))) ++ r) h6 rfl
  rw [Nat.zero_add] at this
  rw [List.append_assoc, this]
  simp only
  have hlen : (lowBits (zigF n) (sizeF (clsF (zigF n)))).length = sizeF (clsF (zigF n)) := lowBits_len _ _
  rw [if_neg (by simp [hlen])]
  have ht : (lowBits (zigF n) (sizeF (clsF (zigF n))) ++ r).take (sizeF (clsF (zigF n))) = lowBits (zigF n) (sizeF (clsF (zigF n))) := by
    rw [List.take_append_of_le_length (by omega), List.take_of_length_le (by omega)]
  have hd : (lowBits (zigF n) (sizeF (clsF (zigF n))) ++ r).drop (sizeF (clsF (zigF n))) = r := by
    rw [List.drop_append_of_le_length (by omega), List.drop_of_length_le (by omega)]
    rfl
  rw [ht, hd, valB_low, Nat.mod_eq_of_lt hl]
  rw [if_neg (fun h => clsF_min (by omega) h.2), zag_zig]

theorem putF_len (n : Int) : 1 ≤ (putF n).length ∧ (putF n).length ≤ 70 := by
  unfold putF pre
  have h6 := clsF_le (zigF n)
  rw [List.length_append, lowBits_len]
  generalize clsF (zigF n) = k at h6
  match k, h6 with
  | 0, _ => decide
  | 1, _ => decide
  | 2, _ => decide
  | 3, _ => decide
  | 4, _ => decide
  | 5, _ => decide
  | 6, _ => decide

/-! ### The machine's words -/

theorem wrap_u8_nat {x : Nat} (h : x < 256) : IntKind.u8.wrap (x : Int) = x := by rw [IntKind.wrap_u8]; omega
theorem wrap_u64_nat {x : Nat} (h : x < 18446744073709551616) : IntKind.u64.wrap (x : Int) = x := by rw [IntKind.wrap_u64]; omega
theorem bv8 {x : Nat} (h : x < 256) : (BitVec.ofInt IntKind.u8.bits (x : Int)).toNat = x := by
  show (BitVec.ofInt 8 (x : Int)).toNat = x
  rw [BitVec.ofInt_natCast, BitVec.toNat_ofNat]
  exact Nat.mod_eq_of_lt h
theorem bv64 {x : Nat} (h : x < 18446744073709551616) : (BitVec.ofInt IntKind.u64.bits (x : Int)).toNat = x := by
  show (BitVec.ofInt 64 (x : Int)).toNat = x
  rw [BitVec.ofInt_natCast, BitVec.toNat_ofNat]
  exact Nat.mod_eq_of_lt h
theorem or_u8 {x y : Nat} (hx : x < 256) (hy : y < 256) : bitsV .or .u8 (x : Int) (y : Int) = ((x ||| y : Nat) : Int) := by
  have h : x ||| y < 2 ^ 8 := Nat.or_lt_two_pow hx hy
  show IntKind.u8.wrap ((BitVec.ofInt IntKind.u8.bits (x : Int) ||| BitVec.ofInt IntKind.u8.bits (y : Int)).toNat : Int) = _
  rw [BitVec.toNat_or, bv8 hx, bv8 hy, wrap_u8_nat h]
theorem and_u8 {x y : Nat} (hx : x < 256) (hy : y < 256) : bitsV .and .u8 (x : Int) (y : Int) = ((x &&& y : Nat) : Int) := by
  have h : x &&& y < 256 := Nat.lt_of_le_of_lt Nat.and_le_left hx
  show IntKind.u8.wrap ((BitVec.ofInt IntKind.u8.bits (x : Int) &&& BitVec.ofInt IntKind.u8.bits (y : Int)).toNat : Int) = _
  rw [BitVec.toNat_and, bv8 hx, bv8 hy, wrap_u8_nat h]
theorem or_u64 {x y : Nat} (hx : x < 18446744073709551616) (hy : y < 18446744073709551616) : bitsV .or .u64 (x : Int) (y : Int) = ((x ||| y : Nat) : Int) := by
  have h : x ||| y < 2 ^ 64 := Nat.or_lt_two_pow hx hy
  show IntKind.u64.wrap ((BitVec.ofInt IntKind.u64.bits (x : Int) ||| BitVec.ofInt IntKind.u64.bits (y : Int)).toNat : Int) = _
  rw [BitVec.toNat_or, bv64 hx, bv64 hy, wrap_u64_nat h]
theorem and_u64 {x y : Nat} (hx : x < 18446744073709551616) (hy : y < 18446744073709551616) : bitsV .and .u64 (x : Int) (y : Int) = ((x &&& y : Nat) : Int) := by
  have h : x &&& y < 18446744073709551616 := Nat.lt_of_le_of_lt Nat.and_le_left hx
  show IntKind.u64.wrap ((BitVec.ofInt IntKind.u64.bits (x : Int) &&& BitVec.ofInt IntKind.u64.bits (y : Int)).toNat : Int) = _
  rw [BitVec.toNat_and, bv64 hx, bv64 hy, wrap_u64_nat h]
theorem fdiv_pow (x r m : Nat) (h : r ≤ m) : (x : Int).fdiv (2 ^ (min (r : Int).toNat m)) = ((x >>> r : Nat) : Int) := by
  rw [Int.toNat_natCast, Nat.min_eq_left h, Nat.shiftRight_eq_div_pow]
  have e : ((2 : Int) ^ r) = ((2 ^ r : Nat) : Int) := by simp
  rw [e, Int.fdiv_eq_ediv_of_nonneg _ (Int.natCast_nonneg _)]
  rfl
theorem ofNat_toNat8 {x : Nat} (h : x < 256) : (UInt8.ofNat x).toNat = x := by
  simp only [UInt8.toNat_ofNat']
  exact Nat.mod_eq_of_lt h
theorem bit_test {u i : Nat} : ((u >>> i &&& 1 : Nat) : Int) = (if u.testBit i then 1 else 0 : Nat) := by
  rw [Nat.and_one_is_mod, Nat.shiftRight_eq_div_pow, Nat.testBit_eq_decide_div_mod_eq]
  rcases Nat.mod_two_eq_zero_or_one (u / 2 ^ i) with h | h <;> rw [h] <;> rfl
theorem shr_lt {u i m : Nat} (hu : u < m) : u >>> i < m := by rw [Nat.shiftRight_eq_div_pow]; exact Nat.lt_of_le_of_lt (Nat.div_le_self _ _) hu
theorem low_next (u k j : Nat) (h : j < k) : (lowBits u k).take (k - (j + 1)) ++ [u.testBit j] = (lowBits u k).take (k - j) := by
  have hl := lowBits_len u k
  rw [show k - j = k - (j + 1) + 1 by omega, List.take_succ_eq_append_getElem (by omega)]
  have := lowBits_get u k (k - (j + 1)) (by omega)
  rw [List.getElem?_eq_getElem (by omega)] at this
  rw [Option.some.inj this]
  congr 3
  omega
theorem xor_zero {k : IntKind} {x : Int} : bitsV .xor k x 0 = k.wrap ((BitVec.ofInt k.bits x).toNat : Int) := by
  show k.wrap ((BitVec.ofInt k.bits x ^^^ BitVec.ofInt k.bits 0).toNat : Int) = _
  rw [BitVec.ofInt_ofNat]
  simp
theorem zig_word {n : Int} (h1 : -9223372036854775808 ≤ n) (h2 : n ≤ 9223372036854775807) : bitsV .xor .u64 (IntKind.u64.wrap (IntKind.u64.wrap n * 2 ^ (min (1 : Int).toNat 64))) (IntKind.u64.wrap (n.fdiv (2 ^ (min (63 : Int).toNat 64)))) = (zigF n : Int) := by
  have e1 : min (1 : Int).toNat 64 = 1 := by decide
  have e2 : min (63 : Int).toNat 64 = 63 := by decide
  have hx : ∃ x : Nat, x < 18446744073709551616 ∧ IntKind.u64.wrap (IntKind.u64.wrap n * 2 ^ 1) = (x : Int) := ⟨(IntKind.u64.wrap (IntKind.u64.wrap n * 2 ^ 1)).toNat, by rw [IntKind.wrap_u64]; omega, by rw [IntKind.wrap_u64]; omega⟩
  rw [e1, e2]
  obtain ⟨x, hx1, hx2⟩ := hx
  rw [hx2]
  simp only [IntKind.wrap_u64] at hx2
  rw [Int.fdiv_eq_ediv_of_nonneg _ (by decide)]
  unfold zigF
  by_cases hn : n < 0
  · have e3 : n / 2 ^ 63 = -1 := by omega
    rw [e3, if_pos hn]
    have e4 : BitVec.ofInt IntKind.u64.bits (IntKind.u64.wrap (-1)) = BitVec.allOnes 64 := by show BitVec.ofInt 64 _ = BitVec.allOnes 64; decide
    show IntKind.u64.wrap ((BitVec.ofInt IntKind.u64.bits (x : Int) ^^^ BitVec.ofInt IntKind.u64.bits (IntKind.u64.wrap (-1))).toNat : Int) = _
    rw [e4]
    show IntKind.u64.wrap ((BitVec.ofInt 64 (x : Int) ^^^ BitVec.allOnes 64).toNat : Int) = _
    rw [BitVec.xor_allOnes, BitVec.toNat_not]
    have := bv64 hx1
    rw [show IntKind.u64.bits = 64 from rfl] at this
    rw [this, IntKind.wrap_u64]
    omega
  · have e3 : n / 2 ^ 63 = 0 := by omega
    rw [e3, if_neg hn, show IntKind.u64.wrap 0 = 0 from by decide, xor_zero, bv64 hx1, wrap_u64_nat hx1]
    omega
theorem zag_word {u : Nat} (hu : u < 18446744073709551616) : bitsV .xor .i64 (IntKind.i64.wrap ((u : Int).fdiv (2 ^ (min (1 : Int).toNat 64)))) (IntKind.i64.wrap (0 - IntKind.i64.wrap (bitsV .and .u64 (u : Int) 1))) = zagF u := by
  have e1 : (u : Int).fdiv (2 ^ (min (1 : Int).toNat 64)) = ((u / 2 : Nat) : Int) := by
    have := fdiv_pow u 1 64 (by omega)
    rw [Nat.shiftRight_eq_div_pow] at this
    exact this
  have e2 : bitsV .and .u64 (u : Int) 1 = ((u % 2 : Nat) : Int) := by
    have := and_u64 (x := u) (y := 1) hu (by omega)
    rw [Nat.and_one_is_mod] at this
    exact this
  have hw : IntKind.i64.wrap ((u / 2 : Nat) : Int) = ((u / 2 : Nat) : Int) := w64_id (by omega) (by omega)
  have hbv : (BitVec.ofInt IntKind.i64.bits ((u / 2 : Nat) : Int)).toNat = u / 2 := by
    show (BitVec.ofInt 64 ((u / 2 : Nat) : Int)).toNat = u / 2
    rw [BitVec.ofInt_natCast, BitVec.toNat_ofNat]
    omega
  rw [e1, e2, hw]
  unfold zagF
  rcases Nat.mod_two_eq_zero_or_one u with h | h
  · rw [h, if_pos rfl, show IntKind.i64.wrap (0 - IntKind.i64.wrap ((0 : Nat) : Int)) = 0 from by decide, xor_zero, hbv]
    exact w64_id (by omega) (by omega)
  · rw [h, if_neg (by decide)]
    have e4 : BitVec.ofInt IntKind.i64.bits (IntKind.i64.wrap (0 - IntKind.i64.wrap ((1 : Nat) : Int))) = BitVec.allOnes 64 := by show BitVec.ofInt 64 _ = BitVec.allOnes 64; decide
    show IntKind.i64.wrap ((BitVec.ofInt IntKind.i64.bits ((u / 2 : Nat) : Int) ^^^ BitVec.ofInt IntKind.i64.bits (IntKind.i64.wrap (0 - IntKind.i64.wrap ((1 : Nat) : Int)))).toNat : Int) = _
    rw [e4]
    show IntKind.i64.wrap ((BitVec.ofInt 64 ((u / 2 : Nat) : Int) ^^^ BitVec.allOnes 64).toNat : Int) = _
    rw [BitVec.xor_allOnes, BitVec.toNat_not]
    rw [show IntKind.i64.bits = 64 from rfl] at hbv
    rw [hbv, IntKind.wrap_i64]
    omega
theorem two_or (u b : Nat) (h : b < 2) : 2 * u ||| b = 2 * u + b := by
  have := Nat.two_pow_add_eq_or_of_lt (i := 1) (b := b) (by omega) u
  simpa using this.symm
theorem rd_word (u : Nat) (x : UInt8) (r : Nat) (hr : r < 8) (hu : u < 9223372036854775808) : bitsV .or .u64 (IntKind.u64.wrap ((u : Int) * 2 ^ (min (1 : Int).toNat IntKind.u64.bits))) (IntKind.u64.wrap (bitsV .and .u8 ((x.toNat : Int).fdiv (2 ^ (min (IntKind.i64.wrap (7 - (r : Int))).toNat IntKind.u8.bits))) 1)) = ((2 * u + (x.toNat.testBit (7 - r)).toNat : Nat) : Int) := by
  have e1 : IntKind.u64.wrap ((u : Int) * 2 ^ (min (1 : Int).toNat IntKind.u64.bits)) = ((2 * u : Nat) : Int) := by
    rw [show min (1 : Int).toNat IntKind.u64.bits = 1 from rfl, show (u : Int) * 2 ^ 1 = ((2 * u : Nat) : Int) by omega]
    exact wrap_u64_nat (by omega)
  have e2 : IntKind.i64.wrap (7 - (r : Int)) = ((7 - r : Nat) : Int) := by
    have := w64_id (x := 7 - (r : Int)) (by omega) (by omega)
    show w64 _ = _
    rw [this]; omega
  have hx := x.toNat_lt
  have e3 : (x.toNat : Int).fdiv (2 ^ (min ((7 - r : Nat) : Int).toNat IntKind.u8.bits)) = ((x.toNat >>> (7 - r) : Nat) : Int) := fdiv_pow x.toNat (7 - r) 8 (by omega)
  have hb : x.toNat >>> (7 - r) &&& 1 = (x.toNat.testBit (7 - r)).toNat := by
    have h2 := Int.ofNat.inj (bit_test (u := x.toNat) (i := 7 - r))
    rw [h2]
    cases x.toNat.testBit (7 - r) <;> rfl
  have hb1 : (x.toNat.testBit (7 - r)).toNat < 2 := by cases x.toNat.testBit (7 - r) <;> decide
  rw [e1, e2, e3, show (1 : Int) = ((1 : Nat) : Int) from rfl, and_u8 (shr_lt hx) (by omega), hb, wrap_u64_nat (by omega), or_u64 (by omega) (by omega), two_or _ _ hb1]
/-- A text's bits. -/
def sb (s : ByteArray) : List Bool := bitsOf s.data.toList
theorem sb_len (s : ByteArray) : (sb s).length = 8 * s.size := by rw [sb, bitsOf_len]; rfl
theorem sb_get {s : ByteArray} {k : Nat} (h : k < 8 * s.size) : ∃ x : UInt8, s[k / 8]? = some x ∧ (sb s)[k]? = some (x.toNat.testBit (7 - k % 8)) := by
  have hk : k / 8 < s.data.size := by show k / 8 < s.size; omega
  have e : s.data.toList[k / 8]? = some (s.data[k / 8]) := by rw [Array.getElem?_toList, Array.getElem?_eq_getElem hk]
  refine ⟨s.data[k / 8], ?_, ?_⟩
  · have : k / 8 < s.size := hk
    simp [this]
    rfl
  · rw [sb, bitsOf_get, e]; rfl
theorem valB_low63 {l : List Bool} (h : l.length ≤ 63) : valB l < 9223372036854775808 := by
  have := valB_lt l
  have h2 : 2 ^ l.length ≤ 2 ^ 63 := Nat.pow_le_pow_right (by omega) h
  have : (2 : Nat) ^ 63 = 9223372036854775808 := by decide
  omega
theorem valB_low64 {l : List Bool} (h : l.length ≤ 64) : valB l < 18446744073709551616 := by
  have := valB_lt l
  have h2 : 2 ^ l.length ≤ 2 ^ 64 := Nat.pow_le_pow_right (by omega) h
  have : (2 : Nat) ^ 64 = 18446744073709551616 := by decide
  omega
theorem take_next {l : List Bool} {n i : Nat} {b : Bool} (h : l[n + i]? = some b) : (l.drop n).take (i + 1) = (l.drop n).take i ++ [b] := by
  obtain ⟨hlt, e⟩ := List.getElem?_eq_some_iff.1 h
  rw [List.take_succ_eq_append_getElem (by rw [List.length_drop]; omega)]
  congr 2
  rw [List.getElem_drop]
  exact e
/-- The bits of a text that bits were written into. -/
theorem sb_pack (bs : List Bool) : sb ⟨(pack bs).toArray⟩ = bs ++ List.replicate (8 * ((bs.length + 7) / 8) - bs.length) false := bitsOf_pack bs
theorem size_pack (bs : List Bool) : (⟨(pack bs).toArray⟩ : ByteArray).size = (bs.length + 7) / 8 := by
  show (pack bs).toArray.size = _
  rw [List.size_toArray, pack_len]
theorem valB_zero (n : Nat) : valB (List.replicate n false) = 0 := by
  induction n with
  | zero => rfl
  | succ n ih => rw [List.replicate_succ', valB_snoc, ih]; rfl
end Go.PL
