/-
  Contracts: a reader of bytes (code.Reader): a number, a size, a text, labels.
-/
import Derived.Test.YtaaoljhfepmkjaaDoorCGo
import Derived.Test.YtaaoljhfepmkjaaDoorCLab
import Derived.Test.YtaaoljhfepmkjaaDoorPCa
import Derived.Test.YtaaoljhfepmkjaaDoorCSe
import Derived.Test.YtaaoljhfepmkjaaDoorCRead
namespace Go.Proofs.YtaaoljhfepmkjaaDoor
open Go.GK Go.PL Go.RowKit
set_option maxRecDepth 100000
section
variable {α : Type}
/-- What a reader (a block of type T: its bytes, and whether it is bad) hands back, and what it is behind it. -/
def rdQ (T : Nat) (P : Option (α × ByteArray)) (z : GV) (en : α → GV) : GV → Heap → Nat → Prop := fun g σ n => n = 1 ∧ match P with
  | some (a, r) => g = en a ∧ σ = [(0, .blk T [gs r, .b false])]
  | none => g = z ∧ ∃ s', σ = [(0, .blk T [gs s', .b true])]
def rdR (T : Nat) (P : Option (α × ByteArray)) (z : GV) (en : α → GV) : GV → Heap → Nat → Prop := fun g σ n => Nat.ble 1 n = true ∧ match P with
  | some (a, r) => g = en a ∧ hlook σ 0 = some (.blk T [gs r, .b false])
  | none => g = z ∧ ∃ s' c, hlook σ 0 = some (.blk T [gs s', c]) ∧ eqG (.b true) c
theorem ids1 {σ : Heap} {x : Res} (h : hlook σ 0 = some x) {g : GV} (hg : idb 1 g = true) (hx : idbH 1 [(0, x)] = true) (hr : renR id x = x) : ∃ (r : Nat → Nat) (g0 : GV) (τ : Heap) (m : Nat), (g0 = g ∧ τ = [(0, x)] ∧ m = 1) ∧ g = ren r g0 ∧ leσ r τ σ ∧ (idb m g0 && idbH m τ && distB (hids r τ) && fixB r 1 && Nat.ble 1 m) = true := by
  refine ⟨id, g, _, 1, ⟨rfl, rfl, rfl⟩, (ren_id g).symm, ⟨?_, trivial⟩, ?_⟩
  · rw [hr]; exact h
  · rw [hg, hx]; rfl
theorem rd_of {f : FuncId} {args : List GV} {σ : Heap} {T : Nat} {P : Option (α × ByteArray)} {z0 z : GV} {en : α → GV} (hz : Sub z z0) (hi : idb 1 z = true) (he : ∀ a, idb 1 (en a) = true) (h : Hf pg f 1 args σ (rdR T P z0 en)) : Hf pg f 1 args σ (rdQ T P z en) := by
  cases P with
  | none =>
    refine (Hf.recell ((Hf.sub (Q' := fun g σ n => g = z ∧ (∃ s' c, hlook σ 0 = some (.blk T [gs s', c]) ∧ eqG (.b true) c) ∧ Nat.ble 1 n = true) h fun g σ' n' hq => ⟨z, by rw [hq.2.1]; exact hz, rfl, hq.2.2, hq.1⟩)) 0 (Q' := fun g σ n => g = z ∧ (∃ s', hlook σ 0 = some (.blk T [gs s', .b true])) ∧ Nat.ble 1 n = true) ?_).weak ?_
    · rintro g σ' n' ⟨rfl, ⟨s', c, hl, hc⟩, hn⟩
      exact ⟨_, _, [gs s', .b true], hl, ⟨rfl, hc, trivial⟩, rfl, ⟨s', hset_look hl _⟩, hn⟩
    · rintro g σ' n' ⟨rfl, ⟨s', hl⟩, hn⟩
      obtain ⟨r, g0, τ, m, ⟨rfl, rfl, rfl⟩, h1⟩ := ids1 hl hi rfl rfl
      exact ⟨r, _, _, _, ⟨rfl, rfl, s', rfl⟩, h1⟩
  | some x =>
    refine h.weak ?_
    rintro g σ' n' ⟨hn, rfl, hl⟩
    obtain ⟨r, g0, τ, m, ⟨rfl, rfl, rfl⟩, h1⟩ := ids1 hl (he x.1) rfl rfl
    exact ⟨r, _, _, _, ⟨rfl, rfl, rfl⟩, h1⟩
theorem rdN {f : FuncId} {args : List GV} {σ : Heap} {T : Nat} {P : Option (α × ByteArray)} {z : GV} {en : α → GV} (h : Hf pg f 1 args σ (rdQ T P z en)) (hP : P = none) : Hf pg f 1 args σ fun g σ n => g = z ∧ (∃ s', σ = [(0, .blk T [gs s', .b true])]) ∧ n = 1 := by
  subst hP
  exact h.imp fun g σ' n' ⟨h1, h2, h3⟩ => ⟨h2, h3, h1⟩
theorem rdS {f : FuncId} {args : List GV} {σ : Heap} {T : Nat} {P : Option (α × ByteArray)} {z : GV} {en : α → GV} {x : α} {r : ByteArray} (h : Hf pg f 1 args σ (rdQ T P z en)) (hP : P = some (x, r)) : Hf pg f 1 args σ fun g σ n => g = en x ∧ σ = [(0, .blk T [gs r, .b false])] ∧ n = 1 := by
  subst hP
  exact h.imp fun g σ' n' ⟨h1, h2, h3⟩ => ⟨h2, h3, h1⟩
end
/-- A reader that is bad reads nothing. -/
def okP {α : Type} (b : Bool) (P : Option α) : Option α := bif b then none else P
abbrev g64 (n : Nat) : GV := .v (.int .u64 (n : Int))
theorem take_step {s : ByteArray} {i : Nat} (h : i < s.size) : beN (s.data.toList.take (i + 1)) = beN (s.data.toList.take i) * 256 + s[i].toNat := by
  have hl : i < s.data.toList.length := h
  rw [List.take_add_one, List.getElem?_eq_getElem hl, Option.toList_some, beN_snoc]
  rfl
theorem be_lt (s : ByteArray) (i : Nat) (hi : i < 8) : beN (s.data.toList.take i) < 72057594037927936 := by
  have h := beN_lt (s.data.toList.take i)
  have h2 : (s.data.toList.take i).length ≤ 7 := by rw [List.length_take]; omega
  exact Nat.lt_of_lt_of_le h (Nat.le_trans (Nat.pow_le_pow_right (by decide) h2) (by decide))
theorem num_step {s : ByteArray} {i : Nat} (h : i < s.size) (hi : i < 8) : bitsV .or .u64 (IntKind.u64.wrap ((beN (s.data.toList.take i) : Int) * 2 ^ 8)) (IntKind.u64.wrap (s[i].toNat : Int)) = ((beN (s.data.toList.take (i + 1)) : Nat) : Int) := by
  have hb := s[i].toNat_lt
  have hu := be_lt s i hi
  rw [take_step h]
  generalize beN (s.data.toList.take i) = u at *
  generalize s[i].toNat = b at *
  have e1 : IntKind.u64.wrap ((u : Int) * 2 ^ 8) = ((u * 256 : Nat) : Int) := by rw [IntKind.wrap_u64]; omega
  have e2 : IntKind.u64.wrap (b : Int) = (b : Int) := by rw [IntKind.wrap_u64]; omega
  rw [e1, e2]
  show IntKind.u64.wrap (((BitVec.ofInt 64 ((u * 256 : Nat) : Int)) ||| (BitVec.ofInt 64 (b : Int))).toNat : Int) = _
  rw [BitVec.ofInt_natCast, BitVec.ofInt_natCast, BitVec.toNat_or, BitVec.toNat_ofNat, BitVec.toNat_ofNat, Nat.mod_eq_of_lt (by omega), Nat.mod_eq_of_lt (by omega)]
  have := Nat.two_pow_add_eq_or_of_lt (i := 8) (b := b) (by omega) u
  rw [show u * 256 = 2 ^ 8 * u by omega, ← this, IntKind.wrap_u64]
  omega
end Go.Proofs.YtaaoljhfepmkjaaDoor


namespace Go.Proofs.YtaaoljhfepmkjaaDoor
open Go.GK Go.PL Go.RowKit
set_option maxRecDepth 100000
theorem okP_none {α β : Type} {b : Bool} {P : Option α} {Q : Option β} (h : okP b P = none) (hQ : P = none → Q = none) : okP b Q = none := by
  cases b with
  | true => rfl
  | false => exact hQ h
theorem okP_some {α : Type} {b : Bool} {P : Option α} {x : α} (h : okP b P = some x) : b = false ∧ P = some x := by
  cases b with
  | true => cases h
  | false => exact ⟨rfl, h⟩
def sizeP (m : Int) (s : ByteArray) : Option (Int × ByteArray) := match numP s with
  | none => none
  | some (n, r) => if 0 ≤ n ∧ n ≤ m then some (n, r) else none
theorem sizeP_size {m n : Int} {s r : ByteArray} (h : sizeP m s = some (n, r)) : r.size + 8 = s.size ∧ 0 ≤ n ∧ n ≤ m ∧ numP s = some (n, r) := by
  unfold sizeP at h
  cases hn : numP s with
  | none => rw [hn] at h; cases h
  | some x =>
    obtain ⟨k, r0⟩ := x
    rw [hn] at h
    simp only at h
    split at h
    · rename_i hc
      cases h
      exact ⟨(numP_size hn).1, hc.1, hc.2, rfl⟩
    · cases h
theorem textP_none {s : ByteArray} (h : sizeP s.size s = none) : textP s = none := by
  unfold sizeP at h
  unfold textP
  cases hn : numP s with
  | none => rfl
  | some x =>
    obtain ⟨n, r⟩ := x
    rw [hn] at h
    have h0 := (numP_size hn).1
    simp only at h ⊢
    split at h
    · cases h
    · rename_i hc
      exact if_neg (by omega)
theorem cut0 (s : ByteArray) : s.extract 0 0 = ByteArray.empty := by
  apply ByteArray.ext
  simp
def emptyB (s : ByteArray) : Bool := decide (s.size = 0)
end Go.Proofs.YtaaoljhfepmkjaaDoor


namespace Go.Proofs.YtaaoljhfepmkjaaDoor
open Go.GK Go.PL Go.RowKit
set_option maxRecDepth 100000
theorem lb_snoc (l : List Lb) (x : Lb) : some (Res.row 54 2 (l.map lb ++ [lb x])) = some (Res.row 54 2 ((l ++ [x]).map lb)) := by rw [List.map_append]; rfl
def lrP (s : ByteArray) : Option (List Lb × ByteArray) := match labelsP s with
  | none => none
  | some (l, r) => if rightF l = true then some (l, r) else none
end Go.Proofs.YtaaoljhfepmkjaaDoor


namespace Go.Proofs.YtaaoljhfepmkjaaDoor
open Go.GK Go.PL Go.RowKit
set_option maxRecDepth 100000
theorem Rq_ct {f : FuncId} {args : List GV} {Q : GV → Prop} (hc : ∀ a w, (callFunc f a).run pg.P w = .ok (.enter f a) w) (h : Ct pg f 0 args [] (Val Q)) (hi : ∀ g, Q g → idb 0 g = true) : Rq pg f args Q :=
  ⟨hc, fun H us w hn hg hcs hs => (h H us w hn hg hcs hs).mono fun _ _ ⟨u, g, H', σ', e', hi', hs', hfr, hv, r⟩ => ⟨u, g, H', σ', e', hi', hs', hfr, ⟨hv, hi g hv⟩, r⟩⟩
theorem ReadQ.id {t : ByteArray} {g : GV} (h : ReadQ t g) : idb 0 g = true := by
  rcases h with ⟨l, _, _, _, rfl⟩ | ⟨_, rfl⟩ <;> rfl
theorem sersP_next {i : Nat} {s s1 : ByteArray} {l : List Ser} (h : sersP i s = some (l, s1)) : sersP (i + 1) s = (match oneP s1 with | none => none | some (x, r) => some (l ++ [x], r)) := by
  conv => lhs; unfold sersP
  rw [h]
  rfl
theorem oneP_lr (s : ByteArray) : oneP s = (match lrP s with | none => none | some (l, r) => (match textP r with | none => none | some (t, r2) => match decS t with | none => none | some xs => some (⟨l, xs⟩, r2))) := by
  unfold oneP lrP
  cases labelsP s with
  | none => rfl
  | some x =>
    obtain ⟨l, r⟩ := x
    simp only
    by_cases h : rightF l = true
    · rw [if_pos h, if_pos h]
      rfl
    · rw [if_neg h, if_neg h]
theorem lrP_size {s r : ByteArray} {l : List Lb} (h : lrP s = some (l, r)) : r.size ≤ s.size := by
  unfold lrP at h
  cases hl : labelsP s with
  | none => rw [hl] at h; cases h
  | some x =>
    obtain ⟨l0, r0⟩ := x
    rw [hl] at h
    have := (labelsP_size hl).1
    simp only at h
    split at h
    · cases h; omega
    · cases h
/-- A bool that is known, or told. -/
def cl (v b : Bool) : GV := bif v then .v (.bool b) else .b b
theorem cl_eq (v b : Bool) : eqG (.b b) (cl v b) := by cases v <;> rfl
end Go.Proofs.YtaaoljhfepmkjaaDoor
