/-
  Contracts: a reader of bytes (code.Reader): a number, a size, a text, labels.
-/
import Derived.Test.YtcdnilijfnfkbaaDoorCGo
import Derived.Test.YtcdnilijfnfkbaaDoorCLab
import Derived.Test.YtcdnilijfnfkbaaDoorPCa
import Derived.Test.YtcdnilijfnfkbaaDoorCRead
namespace Go.Proofs.YtcdnilijfnfkbaaDoor
open Go.GK Go.PL Go.RowKit
set_option maxRecDepth 100000
section
variable {α : Type}
/-- What a reader (a block of type T: its bytes, and whether it is bad) hands back, and what it is behind it. -/
def rdQ (T : Nat) (P : Option (α × ByteArray)) (z : GV) (en : α → GV) : GV → Heap → Nat → Prop := fun g σ n => n = 1 ∧ match P with
  | some (a, r) => g = en a ∧ σ = [(0, .blk T [gs r, .b false])]
  | none => g = z ∧ ∃ s', σ = [(0, .blk T [gs s', .b true])]
def rdR (T : Nat) (P : Option (α × ByteArray)) (z : GV) (en : α → GV) : GV → Heap → Nat → Prop := fun g σ n => Nat.ble 1 n = true ∧ match P with
  | some (a, r) => g = en a ∧ hlook σ 0 = some (.blk T [gs r, .b false])
  | none => g = z ∧ ∃ s' c, hlook σ 0 = some (.blk T [gs s', c]) ∧ eqG (.b true) c
theorem ids1 {σ : Heap} {x : Res} (h : hlook σ 0 = some x) {g : GV} (hg : idb 1 g = true) (hx : idbH 1 [(0, x)] = true) (hr : renR id x = x) : ∃ (r : Nat → Nat) (g0 : GV) (τ : Heap) (m : Nat), (g0 = g ∧ τ = [(0, x)] ∧ m = 1) ∧ g = ren r g0 ∧ leσ r τ σ ∧ (idb m g0 && idbH m τ && distB (hids r τ) && fixB r 1 && Nat.ble 1 m) = true := by
  refine ⟨id, g, _, 1, ⟨rfl, rfl, rfl⟩, (ren_id g).symm, ⟨?_, trivial⟩, ?_⟩
  · rw [hr]; exact h
  · rw [hg, hx]; rfl
theorem rd_of {f : FuncId} {args : List GV} {σ : Heap} {T : Nat} {P : Option (α × ByteArray)} {z0 z : GV} {en : α → GV} (hz : Sub z z0) (hi : idb 1 z = true) (he : ∀ a, idb 1 (en a) = true) (h : Hf pg f 1 args σ (rdR T P z0 en)) : Hf pg f 1 args σ (rdQ T P z en) := by
  cases P with
  | none =>
    refine (Hf.recell ((Hf.sub (Q' := fun g σ n => g = z ∧ (∃ s' c, hlook σ 0 = some (.blk T [gs s', c]) ∧ eqG (.b true) c) ∧ Nat.ble 1 n = true) h fun g σ' n' hq => ⟨z, by rw [hq.2.1]; exact hz, rfl, hq.2.2, hq.1⟩)) 0 (Q' := fun g σ n => g = z ∧ (∃ s', hlook σ 0 = some (.blk T [gs s', .b true])) ∧ Nat.ble 1 n = true) ?_).weak ?_
    · rintro g σ' n' ⟨rfl, ⟨s', c, hl, hc⟩, hn⟩
      exact ⟨_, _, [gs s', .b true], hl, ⟨rfl, hc, trivial⟩, rfl, ⟨s', hset_look hl _⟩, hn⟩
    · rintro g σ' n' ⟨rfl, ⟨s', hl⟩, hn⟩
      obtain ⟨r, g0, τ, m, ⟨rfl, rfl, rfl⟩, h1⟩ := ids1 hl hi rfl rfl
      exact ⟨r, _, _, _, ⟨rfl, rfl, s', rfl⟩, h1⟩
  | some x =>
    refine h.weak ?_
    rintro g σ' n' ⟨hn, rfl, hl⟩
    obtain ⟨r, g0, τ, m, ⟨rfl, rfl, rfl⟩, h1⟩ := ids1 hl (he x.1) rfl rfl
    exact ⟨r, _, _, _, ⟨rfl, rfl, rfl⟩, h1⟩
theorem rdN {f : FuncId} {args : List GV} {σ : Heap} {T : Nat} {P : Option (α × ByteArray)} {z : GV} {en : α → GV} (h : Hf pg f 1 args σ (rdQ T P z en)) (hP : P = none) : Hf pg f 1 args σ fun g σ n => g = z ∧ (∃ s', σ = [(0, .blk T [gs s', .b true])]) ∧ n = 1 := by
  subst hP
  exact h.imp fun g σ' n' ⟨h1, h2, h3⟩ => ⟨h2, h3, h1⟩
theorem rdS {f : FuncId} {args : List GV} {σ : Heap} {T : Nat} {P : Option (α × ByteArray)} {z : GV} {en : α → GV} {x : α} {r : ByteArray} (h : Hf pg f 1 args σ (rdQ T P z en)) (hP : P = some (x, r)) : Hf pg f 1 args σ fun g σ n => g = en x ∧ σ = [(0, .blk T [gs r, .b false])] ∧ n = 1 := by
  subst hP
  exact h.imp fun g σ' n' ⟨h1, h2, h3⟩ => ⟨h2, h3, h1⟩
end
/-- A reader that is bad reads nothing. -/
def okP {α : Type} (b : Bool) (P : Option α) : Option α := bif b then none else P
abbrev rd (s : ByteArray) (b : Bool) : Nat × Res := (0, .blk 100 [gs s, .b b])
abbrev g64 (n : Nat) : GV := .v (.int .u64 (n : Int))
theorem take_step {s : ByteArray} {i : Nat} (h : i < s.size) : beN (s.data.toList.take (i + 1)) = beN (s.data.toList.take i) * 256 + s[i].toNat := by
  have hl : i < s.data.toList.length := h
  rw [List.take_add_one, List.getElem?_eq_getElem hl, Option.toList_some, beN_snoc]
  rfl
theorem be_lt (s : ByteArray) (i : Nat) (hi : i < 8) : beN (s.data.toList.take i) < 72057594037927936 := by
  have h := beN_lt (s.data.toList.take i)
  have h2 : (s.data.toList.take i).length ≤ 7 := by rw [List.length_take]; omega
  exact Nat.lt_of_lt_of_le h (Nat.le_trans (Nat.pow_le_pow_right (by decide) h2) (by decide))
theorem num_step {s : ByteArray} {i : Nat} (h : i < s.size) (hi : i < 8) : bitsV .or .u64 (IntKind.u64.wrap ((beN (s.data.toList.take i) : Int) * 2 ^ 8)) (IntKind.u64.wrap (s[i].toNat : Int)) = ((beN (s.data.toList.take (i + 1)) : Nat) : Int) := by
  have hb := s[i].toNat_lt
  have hu := be_lt s i hi
  rw [take_step h]
  generalize beN (s.data.toList.take i) = u at *
  generalize s[i].toNat = b at *
  have e1 : IntKind.u64.wrap ((u : Int) * 2 ^ 8) = ((u * 256 : Nat) : Int) := by rw [IntKind.wrap_u64]; omega
  have e2 : IntKind.u64.wrap (b : Int) = (b : Int) := by rw [IntKind.wrap_u64]; omega
  rw [e1, e2]
  show IntKind.u64.wrap (((BitVec.ofInt 64 ((u * 256 : Nat) : Int)) ||| (BitVec.ofInt 64 (b : Int))).toNat : Int) = _
  rw [BitVec.ofInt_natCast, BitVec.ofInt_natCast, BitVec.toNat_or, BitVec.toNat_ofNat, BitVec.toNat_ofNat, Nat.mod_eq_of_lt (by omega), Nat.mod_eq_of_lt (by omega)]
  have := Nat.two_pow_add_eq_or_of_lt (i := 8) (b := b) (by omega) u
  rw [show u * 256 = 2 ^ 8 * u by omega, ← this, IntKind.wrap_u64]
  omega
theorem rnum_hf (s : ByteArray) (b : Bool) : Hf pg 38 1 [.p 0 0] [rd s b] (rdQ 100 (okP b (numP s)) (gi 0) gi) := by
  refine rd_of Sub.rfl rfl (fun _ => rfl) ?_
  by_cases h8 : s.size < 8
  · have hP : okP b (numP s) = none := by cases b <;> simp [okP, numP, h8]
    rw [hP]
    refine Hf.of pg_ok Tryd.func38 rfl Tryd.ntmps38 rfl Tryd.results38 Tryd.call38 fun H0 S0 w0 h0 g0 => ?_
    repeat (first | refine p1 ?_ | refine p2 ?_ | refine p3 ?_ | refine p4 ?_)
    exact ⟨rfl, rfl, s, _, rfl, rfl⟩
  · cases b with
    | true =>
      refine Hf.of pg_ok Tryd.func38 rfl Tryd.ntmps38 rfl Tryd.results38 Tryd.call38 fun H0 S0 w0 h0 g0 => ?_
      repeat (first | refine p1 ?_ | refine p2 ?_ | refine p3 ?_ | refine p4 ?_)
      exact ⟨rfl, rfl, s, _, rfl, rfl⟩
    | false =>
      have hP : okP false (numP s) = some (numF s, rest8 s) := by simp [okP, numP, h8]
      rw [hP]
      refine Hf.of pg_ok Tryd.func38 rfl Tryd.ntmps38 rfl Tryd.results38 Tryd.call38 fun H0 S0 w0 h0 g0 => ?_
      repeat (first | refine p1 ?_ | refine p2 ?_ | refine p3 ?_ | refine p4 ?_)
      refine JK.loopE (α := Nat) (β := Unit) (fun i => ⟨[(0, .p 0 0), (3, g64 (beN (s.data.toList.take i))), (20, gi i)], [rd s false], 1⟩) (fun i => i ≤ 8) (fun i => 8 - i)
        (fun _ => ⟨[(0, .p 0 0), (3, g64 (beN (s.data.toList.take 8)))], [rd s false], 1⟩) (fun _ => True) 0 id ?_ (by decide) ?_ ?_
      · exact ⟨⟨rfl, rfl, rfl, trivial⟩, ⟨rfl, trivial⟩, rfl⟩
      · intro i hi
        refine V ?_
        by_cases hlt : i < 8
        · refine p1 ?_ (decide_eq_true (by omega))
          refine ⟨by decide, ?_⟩
          refine sx (h := ?_)
          refine ⟨i + 1, id, ⟨⟨rfl, ?_, succ_gi (by omega), trivial⟩, ⟨rfl, trivial⟩, rfl⟩, hlt, by show 8 - (i + 1) < 8 - i; omega⟩
          exact congrArg (fun x => some (GV.v (.int .u64 x))) (num_step (by omega) hlt)
        · obtain rfl : i = 8 := by omega
          refine p2 ?_ (decide_eq_false (by decide))
          exact ⟨(), id, ⟨⟨rfl, rfl, trivial⟩, ⟨rfl, trivial⟩, rfl⟩, trivial⟩
      · rintro _ _
        refine V ?_
        refine ⟨by decide, by omega, by omega, ?_⟩
        exact ⟨rfl, rfl, rfl⟩
end Go.Proofs.YtcdnilijfnfkbaaDoor


namespace Go.Proofs.YtcdnilijfnfkbaaDoor
open Go.GK Go.PL Go.RowKit
set_option maxRecDepth 100000
theorem okP_none {α β : Type} {b : Bool} {P : Option α} {Q : Option β} (h : okP b P = none) (hQ : P = none → Q = none) : okP b Q = none := by
  cases b with
  | true => rfl
  | false => exact hQ h
theorem okP_some {α : Type} {b : Bool} {P : Option α} {x : α} (h : okP b P = some x) : b = false ∧ P = some x := by
  cases b with
  | true => cases h
  | false => exact ⟨rfl, h⟩
def sizeP (m : Int) (s : ByteArray) : Option (Int × ByteArray) := match numP s with
  | none => none
  | some (n, r) => if 0 ≤ n ∧ n ≤ m then some (n, r) else none
theorem rsize_hf (s : ByteArray) (b : Bool) (m : Int) : Hf pg 54 1 [.p 0 0, gi m] [rd s b] (rdQ 100 (okP b (sizeP m s)) (gi 0) gi) := by
  refine rd_of Sub.rfl rfl (fun _ => rfl) ?_
  have h := rnum_hf s b
  cases hP : okP b (numP s) with
  | none =>
    have h := rdN h hP
    rw [okP_none (Q := sizeP m s) hP (fun e => by unfold sizeP; rw [e])]
    refine Hf.of pg_ok Tryd.func54 rfl Tryd.ntmps54 rfl Tryd.results54 Tryd.call54 fun H0 S0 w0 h0 g0 => ?_
    refine GOH h id rfl rfl ⟨rfl, trivial⟩ rfl (id_lt rfl) ?_
    rintro _ _ _ ⟨rfl, ⟨s', rfl⟩, rfl⟩
    by_cases hm : 0 > m
    · repeat (first | refine p1 ?_ | refine p2 ?_ | refine p3 ?_ | refine p4 ?_)
      exact ⟨rfl, rfl, s', _, rfl, rfl⟩
    · repeat (first | refine p1 ?_ | refine p2 ?_ | refine p3 ?_ | refine p4 ?_)
      exact ⟨rfl, rfl, s', _, rfl, rfl⟩
  | some x =>
    obtain ⟨n, r⟩ := x
    have h := rdS h hP
    obtain ⟨rfl, hn⟩ := okP_some hP
    by_cases hc : 0 ≤ n ∧ n ≤ m
    · rw [show okP false (sizeP m s) = some (n, r) by simp only [okP, cond_false]; unfold sizeP; rw [hn]; exact if_pos hc]
      refine Hf.of pg_ok Tryd.func54 rfl Tryd.ntmps54 rfl Tryd.results54 Tryd.call54 fun H0 S0 w0 h0 g0 => ?_
      refine GOH h id rfl rfl ⟨rfl, trivial⟩ rfl (id_lt rfl) ?_
      rintro _ _ _ ⟨rfl, rfl, rfl⟩
      repeat (first | refine p1 ?_ | refine p2 ?_ | refine p3 ?_ | refine p4 ?_)
      exact ⟨rfl, rfl, rfl⟩
    · rw [show okP false (sizeP m s) = none by simp only [okP, cond_false]; unfold sizeP; rw [hn]; exact if_neg hc]
      refine Hf.of pg_ok Tryd.func54 rfl Tryd.ntmps54 rfl Tryd.results54 Tryd.call54 fun H0 S0 w0 h0 g0 => ?_
      refine GOH h id rfl rfl ⟨rfl, trivial⟩ rfl (id_lt rfl) ?_
      rintro _ _ _ ⟨rfl, rfl, rfl⟩
      by_cases hm : n < 0
      · repeat (first | refine p1 ?_ | refine p2 ?_ | refine p3 ?_ | refine p4 ?_)
        exact ⟨rfl, rfl, r, _, rfl, rfl⟩
      · repeat (first | refine p1 ?_ | refine p2 ?_ | refine p3 ?_ | refine p4 ?_)
        exact ⟨rfl, rfl, r, _, rfl, rfl⟩
theorem sizeP_size {m n : Int} {s r : ByteArray} (h : sizeP m s = some (n, r)) : r.size + 8 = s.size ∧ 0 ≤ n ∧ n ≤ m ∧ numP s = some (n, r) := by
  unfold sizeP at h
  cases hn : numP s with
  | none => rw [hn] at h; cases h
  | some x =>
    obtain ⟨k, r0⟩ := x
    rw [hn] at h
    simp only at h
    split at h
    · rename_i hc
      cases h
      exact ⟨(numP_size hn).1, hc.1, hc.2, rfl⟩
    · cases h
theorem textP_none {s : ByteArray} (h : sizeP s.size s = none) : textP s = none := by
  unfold sizeP at h
  unfold textP
  cases hn : numP s with
  | none => rfl
  | some x =>
    obtain ⟨n, r⟩ := x
    rw [hn] at h
    have h0 := (numP_size hn).1
    simp only at h ⊢
    split at h
    · cases h
    · rename_i hc
      exact if_neg (by omega)
theorem cut0 (s : ByteArray) : s.extract 0 0 = ByteArray.empty := by
  apply ByteArray.ext
  simp
theorem rtext_hf (s : ByteArray) (b : Bool) : Hf pg 57 1 [.p 0 0] [rd s b] (rdQ 100 (okP b (textP s)) (gs ByteArray.empty) gs) := by
  refine rd_of Sub.rfl rfl (fun _ => rfl) ?_
  have h := rsize_hf s b s.size
  cases hP : okP b (sizeP s.size s) with
  | none =>
    have h := rdN h hP
    rw [okP_none (Q := textP s) hP textP_none]
    refine Hf.of pg_ok Tryd.func57 rfl Tryd.ntmps57 rfl Tryd.results57 Tryd.call57 fun H0 S0 w0 h0 g0 => ?_
    refine GOH h id rfl rfl ⟨rfl, trivial⟩ rfl (id_lt rfl) ?_
    rintro _ _ _ ⟨rfl, ⟨s', rfl⟩, rfl⟩
    refine p2 ?_ (decide_eq_false (by omega))
    refine ⟨by omega, by omega, by omega, ?_⟩
    refine ⟨by omega, by omega, by omega, ?_⟩
    exact ⟨rfl, congrArg gs (cut0 s'), _, _, rfl, rfl⟩
  | some x =>
    obtain ⟨n, r⟩ := x
    have h := rdS h hP
    obtain ⟨rfl, hn⟩ := okP_some hP
    obtain ⟨s1, s2, s3, s4⟩ := sizeP_size hn
    have ht : okP false (textP s) = if 0 ≤ n ∧ n ≤ r.size then some (r.extract 0 n.toNat, r.extract n.toNat r.size) else none := by simp only [okP, cond_false]; unfold textP; rw [s4]
    by_cases hc : n ≤ r.size
    · rw [ht, if_pos ⟨s2, hc⟩]
      refine Hf.of pg_ok Tryd.func57 rfl Tryd.ntmps57 rfl Tryd.results57 Tryd.call57 fun H0 S0 w0 h0 g0 => ?_
      refine GOH h id rfl rfl ⟨rfl, trivial⟩ rfl (id_lt rfl) ?_
      rintro _ _ _ ⟨rfl, rfl, rfl⟩
      refine p2 ?_ (decide_eq_false (by omega))
      refine ⟨by omega, by omega, by omega, ?_⟩
      refine ⟨by omega, by omega, by omega, ?_⟩
      exact ⟨rfl, rfl, rfl⟩
    · rw [ht, if_neg (by omega)]
      refine Hf.of pg_ok Tryd.func57 rfl Tryd.ntmps57 rfl Tryd.results57 Tryd.call57 fun H0 S0 w0 h0 g0 => ?_
      refine GOH h id rfl rfl ⟨rfl, trivial⟩ rfl (id_lt rfl) ?_
      rintro _ _ _ ⟨rfl, rfl, rfl⟩
      refine p1 ?_ (decide_eq_true (by omega))
      exact ⟨rfl, rfl, r, _, rfl, rfl⟩
theorem from_hf (s : ByteArray) : Hf pg 37 0 [gs s] [] (fun g σ n => g = .p 0 0 ∧ σ = [rd s false] ∧ n = 1) := by
  refine Hf.recell (Q := fun g σ n => g = .p 0 0 ∧ σ = [(0, .blk 100 [gs s, .v (.bool false)])] ∧ n = 1) ?_ 0 ?_
  · refine Hf.of pg_ok Tryd.func37 rfl Tryd.ntmps37 rfl Tryd.results37 Tryd.call37 fun H0 S0 w0 h0 g0 => ?_
    exact ⟨rfl, rfl, rfl⟩
  · rintro g σ n ⟨rfl, rfl, rfl⟩
    exact ⟨_, _, [gs s, .b false], rfl, ⟨rfl, rfl, trivial⟩, rfl, rfl, rfl⟩
def emptyB (s : ByteArray) : Bool := decide (s.size = 0)
theorem done_hf (s : ByteArray) (b : Bool) : Hf pg 40 1 [.p 0 0] [rd s b] (fun g σ n => g = .b (emptyB s && !b) ∧ σ = [rd s b] ∧ n = 1) := by
  refine Hf.eqG (R := fun σ n => σ = [rd s b] ∧ n = 1) ?_
  refine Hf.of pg_ok Tryd.func40 rfl Tryd.ntmps40 rfl Tryd.results40 Tryd.call40 fun H0 S0 w0 h0 g0 => ?_
  have he := empty_iff s
  unfold emptyB
  by_cases hs : s.size = 0
  · rw [decide_eq_true hs] at he ⊢
    refine p1 ?_ he
    exact ⟨by cases b <;> rfl, rfl, rfl⟩
  · rw [decide_eq_false hs] at he ⊢
    refine p2 ?_ he
    exact ⟨rfl, rfl, rfl⟩
end Go.Proofs.YtcdnilijfnfkbaaDoor


namespace Go.Proofs.YtcdnilijfnfkbaaDoor
open Go.GK Go.PL Go.RowKit
set_option maxRecDepth 100000
abbrev lbs (l : List Lb) : GV := .sl 2 (l.map lb)
theorem lb_snoc (l : List Lb) (x : Lb) : some (Res.row 69 2 (l.map lb ++ [lb x])) = some (Res.row 69 2 ((l ++ [x]).map lb)) := by rw [List.map_append]; rfl
def lrP (s : ByteArray) : Option (List Lb × ByteArray) := match labelsP s with
  | none => none
  | some (l, r) => if rightF l = true then some (l, r) else none
/-- What a size leaves: so many, and from where on. -/
theorem rcount_hf (s : ByteArray) (b : Bool) (m : Nat) : Hf pg 54 1 [.p 0 0, gi m] [rd s b] (fun g σ n => (∃ (k : Nat) (s0 : ByteArray) (b0 : Bool), g = gi k ∧ σ = [rd s0 b0] ∧ k ≤ m ∧ (b0 = true → k = 0 ∧ okP b (sizeP m s) = none) ∧ (b0 = false → b = false ∧ sizeP m s = some ((k : Int), s0))) ∧ n = 1) := by
  have h := rsize_hf s b m
  cases hP : okP b (sizeP m s) with
  | none =>
    exact (rdN h hP).imp fun g σ n ⟨h1, ⟨s', h2⟩, h3⟩ => ⟨⟨0, s', true, h1, h2, Nat.zero_le _, fun _ => ⟨rfl, rfl⟩, fun e => (by cases e)⟩, h3⟩
  | some x =>
    obtain ⟨k, r⟩ := x
    obtain ⟨hb, hs⟩ := okP_some hP
    obtain ⟨s1, s2, s3, s4⟩ := sizeP_size hs
    have hk : ((k.toNat : Nat) : Int) = k := by omega
    exact (rdS h hP).imp fun g σ n ⟨h1, h2, h3⟩ => ⟨⟨k.toNat, r, false, by rw [hk]; exact h1, h2, by omega, fun e => (by cases e), fun _ => ⟨hb, by rw [hk]; exact hs⟩⟩, h3⟩
theorem rlabels_hf (s : ByteArray) (b : Bool) (hs : s.size ≤ 1000000) : Hf pg 55 1 [.p 0 0] [rd s b] (rdQ 100 (okP b (lrP s)) (lbs []) lbs) := by
  refine rd_of (Sub.nil 2) rfl (fun _ => rfl) ?_
  have hc := rcount_hf s b 8
  refine Hf.of pg_ok Tryd.func55 rfl Tryd.ntmps55 rfl Tryd.results55 Tryd.call55 fun H0 S0 w0 h0 g0 => ?_
  refine GOH hc id rfl rfl ⟨rfl, trivial⟩ rfl (id_lt rfl) ?_
  rintro _ _ _ ⟨⟨k, s0, b0, rfl, rfl, hk8, hbt, hbf⟩, rfl⟩
  refine JK.ownNil 3 69 2 rfl ?_
  refine JK.loopE (α := Nat × List Lb × ByteArray × Bool) (β := List Lb × ByteArray × Bool) (fun a => ⟨[(0, .p 0 0), (3, .o 1), (5, gi k), (6, gi a.1)], [rd a.2.2.1 a.2.2.2, (1, .row 69 2 (a.2.1.map lb))], 2⟩)
    (fun a => a.1 ≤ k ∧ a.2.1.length = a.1 ∧ (a.2.2.2 = false → b0 = false ∧ pairsP a.1 s0 = some (a.2.1, a.2.2.1)) ∧ (a.2.2.2 = true → b0 = true ∨ pairsP a.1 s0 = none)) (fun a => k - a.1)
    (fun a => ⟨[(0, .p 0 0), (3, .o 1)], [rd a.2.1 a.2.2, (1, .row 69 2 (a.1.map lb))], 2⟩) (fun a => (a.2.2 = false → b0 = false ∧ pairsP k s0 = some (a.1, a.2.1)) ∧ (a.2.2 = true → b0 = true ∨ pairsP k s0 = none)) (0, [], s0, b0) id ?_ ?_ ?_ ?_
  · exact ⟨⟨rfl, rfl, rfl, rfl, trivial⟩, ⟨rfl, rfl, trivial⟩, rfl⟩
  · exact ⟨Nat.zero_le _, rfl, fun e => ⟨e, rfl⟩, fun e => .inl e⟩
  · rintro ⟨i, l, s1, b1⟩ ⟨hi, hl, hf, ht⟩
    replace hi : i ≤ k := hi
    replace hl : l.length = i := hl
    replace hf : b1 = false → b0 = false ∧ pairsP i s0 = some (l, s1) := hf
    replace ht : b1 = true → b0 = true ∨ pairsP i s0 = none := ht
    refine V ?_
    by_cases hlt : i < k
    · refine p1 ?_ (decide_eq_true (by omega))
      have hx1 := rtext_hf s1 b1
      cases hP : okP b1 (textP s1) with
      | none =>
        refine GOH (rdN hx1 hP) id rfl rfl ⟨rfl, trivial⟩ rfl (id_lt rfl) ?_
        rintro _ _ _ ⟨rfl, ⟨s2, rfl⟩, rfl⟩
        refine GOH (rdN (rtext_hf s2 true) rfl) id rfl rfl ⟨rfl, trivial⟩ rfl (id_lt rfl) ?_
        rintro _ _ _ ⟨rfl, ⟨s3, rfl⟩, rfl⟩
        refine ⟨by simp only [List.length_map, List.length_cons, List.length_nil]; omega, ?_⟩
        refine ⟨(i + 1, l ++ [⟨ByteArray.empty, ByteArray.empty⟩], s3, true), r1 1 3, ⟨⟨rfl, rfl, rfl, succ_gi (by omega), trivial⟩, ⟨rfl, ?_, trivial⟩, rfl⟩, ⟨hlt, by simp [hl], fun e => (by cases e), fun _ => ?_⟩, by show k - (i + 1) < k - i; omega⟩
        · exact lb_snoc l ⟨ByteArray.empty, ByteArray.empty⟩
        · cases b1 with
          | true => exact (ht rfl).imp id fun h => pairsP_mono (Nat.le_succ i) h
          | false =>
            have h1 := (hf rfl).2
            exact .inr (by unfold pairsP; rw [h1]; simp only; rw [show textP s1 = none from hP])
      | some x =>
        obtain ⟨a, s2⟩ := x
        obtain ⟨rfl, hP1⟩ := okP_some hP
        refine GOH (rdS hx1 hP) id rfl rfl ⟨rfl, trivial⟩ rfl (id_lt rfl) ?_
        rintro _ _ _ ⟨rfl, rfl, rfl⟩
        have hx2 := rtext_hf s2 false
        have h1 := hf rfl
        cases hP2 : textP s2 with
        | none =>
          refine GOH (rdN hx2 hP2) id rfl rfl ⟨rfl, trivial⟩ rfl (id_lt rfl) ?_
          rintro _ _ _ ⟨rfl, ⟨s3, rfl⟩, rfl⟩
          refine ⟨by simp only [List.length_map, List.length_cons, List.length_nil]; omega, ?_⟩
          refine ⟨(i + 1, l ++ [⟨a, ByteArray.empty⟩], s3, true), r1 1 3, ⟨⟨rfl, rfl, rfl, succ_gi (by omega), trivial⟩, ⟨rfl, ?_, trivial⟩, rfl⟩, ⟨hlt, by simp [hl], fun e => (by cases e), fun _ => ?_⟩, by show k - (i + 1) < k - i; omega⟩
          · exact lb_snoc l ⟨a, ByteArray.empty⟩
          · exact .inr (by unfold pairsP; rw [h1.2]; simp only; rw [hP1]; simp only; rw [hP2])
        | some x =>
          obtain ⟨c, s3⟩ := x
          refine GOH (rdS hx2 hP2) id rfl rfl ⟨rfl, trivial⟩ rfl (id_lt rfl) ?_
          rintro _ _ _ ⟨rfl, rfl, rfl⟩
          refine ⟨by simp only [List.length_map, List.length_cons, List.length_nil]; omega, ?_⟩
          refine ⟨(i + 1, l ++ [⟨a, c⟩], s3, false), r1 1 3, ⟨⟨rfl, rfl, rfl, succ_gi (by omega), trivial⟩, ⟨rfl, ?_, trivial⟩, rfl⟩, ⟨hlt, by simp [hl], fun _ => ⟨h1.1, ?_⟩, fun e => (by cases e)⟩, by show k - (i + 1) < k - i; omega⟩
          · exact lb_snoc l ⟨a, c⟩
          · unfold pairsP; rw [h1.2]; simp only; rw [hP1]; simp only; rw [hP2]
    · obtain rfl : i = k := by omega
      refine p2 ?_ (decide_eq_false (by omega))
      exact ⟨(l, s1, b1), id, ⟨⟨rfl, rfl, trivial⟩, ⟨rfl, rfl, trivial⟩, rfl⟩, hf, ht⟩
  · rintro ⟨l, s1, b1⟩ ⟨hf, ht⟩
    replace hf : b1 = false → b0 = false ∧ pairsP k s0 = some (l, s1) := hf
    replace ht : b1 = true → b0 = true ∨ pairsP k s0 = none := ht
    refine FRZ 1 rfl ?_
    cases b1 with
    | true =>
      have hno : okP b (lrP s) = none := by
        cases b0 with
        | true =>
          refine okP_none (hbt rfl).2 fun e => ?_
          unfold sizeP at e
          unfold lrP labelsP
          cases hn : numP s with
          | none => rfl
          | some x =>
            obtain ⟨n, r⟩ := x
            rw [hn] at e
            simp only at e ⊢
            split at e
            · cases e
            · rename_i hc
              rw [if_neg (show ¬(0 ≤ n ∧ n ≤ (8 : Int)) from hc)]
        | false =>
          obtain ⟨rfl, hz⟩ := hbf rfl
          obtain ⟨z1, z2, z3, z4⟩ := sizeP_size hz
          have hp : pairsP k s0 = none := (ht rfl).resolve_left (by decide)
          show lrP s = none
          unfold lrP labelsP
          rw [z4]
          simp only
          rw [if_pos ⟨z2, z3⟩, Int.toNat_natCast, hp]
      rw [hno]
      repeat (first | refine p1 ?_ | refine p2 ?_ | refine p3 ?_ | refine p4 ?_)
      exact ⟨rfl, rfl, s1, _, rfl, rfl⟩
    | false =>
      obtain ⟨rfl, hp⟩ := hf rfl
      obtain ⟨rfl, hz⟩ := hbf rfl
      obtain ⟨z1, z2, z3, z4⟩ := sizeP_size hz
      obtain ⟨q1, q2, q3⟩ := pairsP_size hp
      have hlr : okP false (lrP s) = if rightF l = true then some (l, s1) else none := by
        show lrP s = _
        unfold lrP labelsP
        rw [z4]
        simp only
        rw [if_pos ⟨z2, z3⟩, Int.toNat_natCast, hp]
      have hr := right_rt l (fun x hx => by have := (q3 x hx).2; omega)
      repeat (first | refine p1 ?_ | refine p2 ?_ | refine p3 ?_ | refine p4 ?_)
      rcases tf (rightF l) with hR | hR
      · rw [hlr, if_pos hR]
        refine GO (hr.bt hR) rfl ?_
        exact ⟨rfl, rfl, rfl⟩
      · rw [hlr, if_neg (by rw [hR]; decide)]
        refine GO (hr.bt hR) rfl ?_
        exact ⟨rfl, rfl, s1, _, rfl, rfl⟩
end Go.Proofs.YtcdnilijfnfkbaaDoor


namespace Go.Proofs.YtcdnilijfnfkbaaDoor
open Go.GK Go.PL Go.RowKit
set_option maxRecDepth 100000
abbrev sms (l : List Sm) : GV := .sl 2 (l.map sm)
abbrev se (x : Ser) : List GV := [lbs x.labels, sms x.samples]
abbrev ses (l : List Ser) : GV := .sl 2 (l.map se)
theorem Rq_ct {f : FuncId} {args : List GV} {Q : GV → Prop} (hc : ∀ a w, (callFunc f a).run pg.P w = .ok (.enter f a) w) (h : Ct pg f 0 args [] (Val Q)) (hi : ∀ g, Q g → idb 0 g = true) : Rq pg f args Q :=
  ⟨hc, fun H us w hn hg hcs hs => (h H us w hn hg hcs hs).mono fun _ _ ⟨u, g, H', σ', e', hi', hs', hfr, hv, r⟩ => ⟨u, g, H', σ', e', hi', hs', hfr, ⟨hv, hi g hv⟩, r⟩⟩
theorem ReadQ.id {t : ByteArray} {g : GV} (h : ReadQ t g) : idb 0 g = true := by
  rcases h with ⟨l, _, _, _, rfl⟩ | ⟨_, rfl⟩ <;> rfl
theorem cread_yes {t : ByteArray} {xs : List Sm} (ht : t.size ≤ 1000000) (h : decS t = some xs) : Rt pg 56 [gs t] (.tup [sms xs, .v .nilIface]) := by
  refine (Rq_ct Tryd.call56 (read_ct t ht) fun _ => ReadQ.id).sub fun g hg => ?_
  obtain ⟨h1, h2, h3⟩ := decS_some h
  rcases hg with ⟨l, e1, e2, e3, rfl⟩ | ⟨hno, _⟩
  · have := decS_of e1 e2 e3
    rw [h] at this
    cases this
    exact ⟨_, Sub.rfl, rfl, rfl⟩
  · exact absurd h3 (hno _ h1 h2)
theorem cread_no {t : ByteArray} (ht : t.size ≤ 1000000) (h : decS t = none) : Rt pg 56 [gs t] (.tup [sms [], .ifc 72 (gi 3)]) := by
  refine (Rq_ct Tryd.call56 (read_ct t ht) fun _ => ReadQ.id).sub fun g hg => ?_
  rcases hg with ⟨l, e1, e2, e3, rfl⟩ | ⟨hno, rfl⟩
  · have := decS_of e1 e2 e3
    rw [h] at this
    cases this
  · exact ⟨.tup [sms [], .ifc 72 (gi 3)], Sub.tup2 (Sub.nil 2) Sub.rfl, rfl, rfl⟩
theorem se_snoc (l : List Ser) (x : Ser) : some (Res.row 49 2 (l.map se ++ [se x])) = some (Res.row 49 2 ((l ++ [x]).map se)) := by rw [List.map_append]; rfl
theorem sersP_next {i : Nat} {s s1 : ByteArray} {l : List Ser} (h : sersP i s = some (l, s1)) : sersP (i + 1) s = (match oneP s1 with | none => none | some (x, r) => some (l ++ [x], r)) := by
  conv => lhs; unfold sersP
  rw [h]
  rfl
theorem oneP_lr (s : ByteArray) : oneP s = (match lrP s with | none => none | some (l, r) => (match textP r with | none => none | some (t, r2) => match decS t with | none => none | some xs => some (⟨l, xs⟩, r2))) := by
  unfold oneP lrP
  cases labelsP s with
  | none => rfl
  | some x =>
    obtain ⟨l, r⟩ := x
    simp only
    by_cases h : rightF l = true
    · rw [if_pos h, if_pos h]
      rfl
    · rw [if_neg h, if_neg h]
theorem lrP_size {s r : ByteArray} {l : List Lb} (h : lrP s = some (l, r)) : r.size ≤ s.size := by
  unfold lrP at h
  cases hl : labelsP s with
  | none => rw [hl] at h; cases h
  | some x =>
    obtain ⟨l0, r0⟩ := x
    rw [hl] at h
    have := (labelsP_size hl).1
    simp only at h
    split at h
    · cases h; omega
    · cases h
/-- A bool that is known, or told. -/
def cl (v b : Bool) : GV := bif v then .v (.bool b) else .b b
theorem cl_eq (v b : Bool) : eqG (.b b) (cl v b) := by cases v <;> rfl
theorem rseries_hf (s : ByteArray) (b : Bool) (hs : b = false → s.size ≤ 1000000) : Hf pg 39 1 [.p 0 0] [rd s b] (rdQ 100 (okP b (seriesP s)) (ses []) ses) := by
  refine rd_of (Sub.nil 2) rfl (fun _ => rfl) ?_
  have hc := rcount_hf s b s.size
  refine Hf.of pg_ok Tryd.func39 rfl Tryd.ntmps39 rfl Tryd.results39 Tryd.call39 fun H0 S0 w0 h0 g0 => ?_
  refine GOH hc id rfl rfl ⟨rfl, trivial⟩ rfl (id_lt rfl) ?_
  rintro _ _ _ ⟨⟨k, s0, b0, rfl, rfl, hk8, hbt, hbf⟩, rfl⟩
  have hno : (b0 = true ∨ ∃ i, i ≤ k ∧ sersP i s0 = none) → okP b (seriesP s) = none := by
    intro h
    cases b0 with
    | true =>
      refine okP_none (hbt rfl).2 fun e => ?_
      rw [seriesP_c]
      unfold sizeP at e
      cases hn : numP s with
      | none => rfl
      | some x =>
        obtain ⟨n, r⟩ := x
        rw [hn] at e
        simp only at e ⊢
        split at e
        · cases e
        · rename_i hc
          rw [if_neg hc]
    | false =>
      obtain ⟨i, hi, h2⟩ := h.resolve_left (by decide)
      obtain ⟨rfl, hz⟩ := hbf rfl
      obtain ⟨z1, z2, z3, z4⟩ := sizeP_size hz
      show seriesP s = none
      rw [seriesP_c, z4]
      simp only
      rw [if_pos ⟨z2, z3⟩, Int.toNat_natCast]
      exact sersP_mono hi h2
  have hyes : ∀ l r, b0 = false → sersP k s0 = some (l, r) → okP b (seriesP s) = some (l, r) := by
    intro l r e h
    obtain ⟨rfl, hz⟩ := hbf e
    obtain ⟨z1, z2, z3, z4⟩ := sizeP_size hz
    show seriesP s = _
    rw [seriesP_c, z4]
    simp only
    rw [if_pos ⟨z2, z3⟩, Int.toNat_natCast, h]
  have hsz : b0 = false → s0.size ≤ s.size := fun e => by
    obtain ⟨rfl, hz⟩ := hbf e
    have := (sizeP_size hz).1
    omega
  refine JK.ownNil 3 49 2 rfl ?_
  refine JK.loopE (α := Nat × List Ser × ByteArray × Bool × Bool) (β := List Ser × ByteArray × Bool × Bool) (fun a => ⟨[(0, .p 0 0), (3, .o 1), (12, gi k), (13, gi a.1)], [(0, .blk 100 [gs a.2.2.1, cl a.2.2.2.2 a.2.2.2.1]), (1, .row 49 2 (a.2.1.map se))], 2⟩)
    (fun a => a.1 ≤ k ∧ a.2.1.length = a.1 ∧ (a.2.2.2.1 = false → b0 = false ∧ sersP a.1 s0 = some (a.2.1, a.2.2.1)) ∧ (a.2.2.2.1 = true → b0 = true ∨ sersP a.1 s0 = none)) (fun a => k - a.1)
    (fun a => ⟨[(0, .p 0 0), (3, .o 1)], [(0, .blk 100 [gs a.2.1, cl a.2.2.2 a.2.2.1]), (1, .row 49 2 (a.1.map se))], 2⟩) (fun a => (a.2.2.1 = false → b0 = false ∧ sersP k s0 = some (a.1, a.2.1)) ∧ (a.2.2.1 = true → b0 = true ∨ sersP k s0 = none)) (0, [], s0, b0, false) id ?_ ?_ ?_ ?_
  · exact ⟨⟨rfl, rfl, rfl, rfl, trivial⟩, ⟨rfl, rfl, trivial⟩, rfl⟩
  · exact ⟨Nat.zero_le _, rfl, fun e => ⟨e, rfl⟩, fun e => .inl e⟩
  · rintro ⟨i, l, s1, b1, v1⟩ ⟨hi, hl, hf, ht⟩
    replace hi : i ≤ k := hi
    replace hl : l.length = i := hl
    replace hf : b1 = false → b0 = false ∧ sersP i s0 = some (l, s1) := hf
    replace ht : b1 = true → b0 = true ∨ sersP i s0 = none := ht
    refine JK.recell 0 [gs s1, .b b1] rfl ⟨rfl, cl_eq v1 b1, trivial⟩ ?_
    refine V ?_
    by_cases hlt : i < k
    · refine p1 ?_ (decide_eq_true (by omega))
      cases b1 with
      | true =>
        rw [hno ((ht rfl).imp id fun h => ⟨i, hi, h⟩)]
        refine p1 ?_
        exact ⟨rfl, rfl, s1, _, rfl, rfl⟩
      | false =>
        refine p2 ?_
        obtain ⟨hb0, h1⟩ := hf rfl
        have hs := hs (hbf hb0).1
        have hs1 : s1.size ≤ 1000000 := by
          have := (sersP_size h1).1
          have := hsz hb0
          omega
        have hnx := sersP_next h1
        rw [oneP_lr] at hnx
        have hla := rlabels_hf s1 false hs1
        have fin : ∀ (x : Ser) (s4 : ByteArray) (v : Bool), sersP (i + 1) s0 = none → i + 1 ≤ k ∧ (l ++ [x]).length = i + 1 ∧ (true = false → b0 = false ∧ sersP (i + 1) s0 = some (l ++ [x], s4)) ∧ (true = true → b0 = true ∨ sersP (i + 1) s0 = none) :=
          fun x s4 v h => ⟨hlt, by simp [hl], fun e => (by cases e), fun _ => .inr h⟩
        cases hP : lrP s1 with
        | none =>
          rw [hP] at hnx
          simp only at hnx
          refine GOH (rdN hla hP) id rfl rfl ⟨rfl, trivial⟩ rfl (id_lt rfl) ?_
          rintro _ _ _ ⟨rfl, ⟨s2, rfl⟩, rfl⟩
          refine GOH (rdN (rtext_hf s2 true) rfl) id rfl rfl ⟨rfl, trivial⟩ rfl (id_lt rfl) ?_
          rintro _ _ _ ⟨rfl, ⟨s3, rfl⟩, rfl⟩
          cases hd : decS ByteArray.empty with
          | none =>
            refine GO (cread_no (by decide) hd) rfl ?_
            repeat (first | refine p1 ?_ | refine p2 ?_ | refine p3 ?_ | refine p4 ?_)
            refine ⟨by simp only [List.length_map, List.length_cons, List.length_nil]; omega, ?_⟩
            refine ⟨(i + 1, l ++ [⟨[], []⟩], s3, true, true), r1 1 4, ⟨⟨rfl, rfl, rfl, succ_gi (by omega), trivial⟩, ⟨rfl, ?_, trivial⟩, rfl⟩, fin _ s3 true hnx, by show k - (i + 1) < k - i; omega⟩
            exact se_snoc l ⟨[], []⟩
          | some xs =>
            refine GO (cread_yes (by decide) hd) rfl ?_
            repeat (first | refine p1 ?_ | refine p2 ?_ | refine p3 ?_ | refine p4 ?_)
            refine ⟨by simp only [List.length_map, List.length_cons, List.length_nil]; omega, ?_⟩
            refine ⟨(i + 1, l ++ [⟨[], xs⟩], s3, true, false), r1 1 4, ⟨⟨rfl, rfl, rfl, succ_gi (by omega), trivial⟩, ⟨rfl, ?_, trivial⟩, rfl⟩, fin _ s3 true hnx, by show k - (i + 1) < k - i; omega⟩
            exact se_snoc l ⟨[], xs⟩
        | some x =>
          obtain ⟨ls, s2⟩ := x
          rw [hP] at hnx
          simp only at hnx
          refine GOH (rdS hla hP) id rfl rfl ⟨rfl, trivial⟩ rfl (id_lt rfl) ?_
          rintro _ _ _ ⟨rfl, rfl, rfl⟩
          have hs2 := lrP_size hP
          have htx := rtext_hf s2 false
          cases hP2 : textP s2 with
          | none =>
            rw [hP2] at hnx
            simp only at hnx
            refine GOH (rdN htx hP2) id rfl rfl ⟨rfl, trivial⟩ rfl (id_lt rfl) ?_
            rintro _ _ _ ⟨rfl, ⟨s3, rfl⟩, rfl⟩
            cases hd : decS ByteArray.empty with
            | none =>
              refine GO (cread_no (by decide) hd) rfl ?_
              repeat (first | refine p1 ?_ | refine p2 ?_ | refine p3 ?_ | refine p4 ?_)
              refine ⟨by simp only [List.length_map, List.length_cons, List.length_nil]; omega, ?_⟩
              refine ⟨(i + 1, l ++ [⟨ls, []⟩], s3, true, true), r1 1 4, ⟨⟨rfl, rfl, rfl, succ_gi (by omega), trivial⟩, ⟨rfl, ?_, trivial⟩, rfl⟩, fin _ s3 true hnx, by show k - (i + 1) < k - i; omega⟩
              exact se_snoc l ⟨ls, []⟩
            | some xs =>
              refine GO (cread_yes (by decide) hd) rfl ?_
              repeat (first | refine p1 ?_ | refine p2 ?_ | refine p3 ?_ | refine p4 ?_)
              refine ⟨by simp only [List.length_map, List.length_cons, List.length_nil]; omega, ?_⟩
              refine ⟨(i + 1, l ++ [⟨ls, xs⟩], s3, true, false), r1 1 4, ⟨⟨rfl, rfl, rfl, succ_gi (by omega), trivial⟩, ⟨rfl, ?_, trivial⟩, rfl⟩, fin _ s3 true hnx, by show k - (i + 1) < k - i; omega⟩
              exact se_snoc l ⟨ls, xs⟩
          | some x =>
            obtain ⟨t, s3⟩ := x
            rw [hP2] at hnx
            simp only at hnx
            have ht3 := textP_size hP2
            refine GOH (rdS htx hP2) id rfl rfl ⟨rfl, trivial⟩ rfl (id_lt rfl) ?_
            rintro _ _ _ ⟨rfl, rfl, rfl⟩
            cases hd : decS t with
            | none =>
              refine GO (cread_no (by omega) hd) rfl ?_
              rw [hd] at hnx
              simp only at hnx
              repeat (first | refine p1 ?_ | refine p2 ?_ | refine p3 ?_ | refine p4 ?_)
              refine ⟨by simp only [List.length_map, List.length_cons, List.length_nil]; omega, ?_⟩
              refine ⟨(i + 1, l ++ [⟨ls, []⟩], s3, true, true), r1 1 4, ⟨⟨rfl, rfl, rfl, succ_gi (by omega), trivial⟩, ⟨rfl, ?_, trivial⟩, rfl⟩, fin _ s3 true hnx, by show k - (i + 1) < k - i; omega⟩
              exact se_snoc l ⟨ls, []⟩
            | some xs =>
              refine GO (cread_yes (by omega) hd) rfl ?_
              rw [hd] at hnx
              simp only at hnx
              repeat (first | refine p1 ?_ | refine p2 ?_ | refine p3 ?_ | refine p4 ?_)
              refine ⟨by simp only [List.length_map, List.length_cons, List.length_nil]; omega, ?_⟩
              refine ⟨(i + 1, l ++ [⟨ls, xs⟩], s3, false, false), r1 1 4, ⟨⟨rfl, rfl, rfl, succ_gi (by omega), trivial⟩, ⟨rfl, ?_, trivial⟩, rfl⟩, ⟨hlt, by simp [hl], fun _ => ⟨hb0, hnx⟩, fun e => (by cases e)⟩, by show k - (i + 1) < k - i; omega⟩
              exact se_snoc l ⟨ls, xs⟩
    · obtain rfl : i = k := by omega
      refine p2 ?_ (decide_eq_false (by omega))
      exact ⟨(l, s1, b1, false), id, ⟨⟨rfl, rfl, trivial⟩, ⟨rfl, rfl, trivial⟩, rfl⟩, hf, ht⟩
  · rintro ⟨l, s1, b1, v1⟩ ⟨hf, ht⟩
    replace hf : b1 = false → b0 = false ∧ sersP k s0 = some (l, s1) := hf
    replace ht : b1 = true → b0 = true ∨ sersP k s0 = none := ht
    refine JK.recell 0 [gs s1, .b b1] rfl ⟨rfl, cl_eq v1 b1, trivial⟩ ?_
    refine FRZ 1 rfl ?_
    cases b1 with
    | true =>
      rw [hno ((ht rfl).imp id fun h => ⟨k, Nat.le_refl k, h⟩)]
      refine p1 ?_
      exact ⟨rfl, rfl, s1, _, rfl, rfl⟩
    | false =>
      rw [hyes l s1 (hf rfl).1 (hf rfl).2]
      refine p2 ?_
      exact ⟨rfl, rfl, rfl⟩
end Go.Proofs.YtcdnilijfnfkbaaDoor
