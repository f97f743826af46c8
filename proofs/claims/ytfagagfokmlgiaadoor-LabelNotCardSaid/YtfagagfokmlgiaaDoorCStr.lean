/-
  Contracts of Go's library on strings: IndexByte, Trim, Compare, Join, HasPrefix; cmp.Compare, cmp.Or of ints; slices.Index, Contains of strings.
-/
import Derived.Test.YtfagagfokmlgiaaDoorCPg
import Derived.Test.YtfagagfokmlgiaaDoorGK21
import Derived.Test.YtfagagfokmlgiaaDoorPLab
import Derived.Test.YtfagagfokmlgiaaDoorSLab
import Derived.Shelf.Strings.SlTrimAscii
import Derived.Shelf.Strings.Prefix
namespace Go.Proofs.YtfagagfokmlgiaaDoor
open Go.GK Go.PL Go.RowKit
set_option maxRecDepth 100000
abbrev gs (s : ByteArray) : GV := .v (.string s)
abbrev gb (c : UInt8) : GV := .v (.int .u8 (c.toNat : Int))

theorem indexByte_rt (s : ByteArray) (c : UInt8) : Rt pg 82 [gs s, gb c] (gi (Lib.indexByte s.data.toList c)) :=
  Rt.calls Tryd.call82 [.string s, .int .u8 c.toNat] _ fun w => (Tryd.strings_IndexByte s c.toNat w).mono fun e w' ⟨he, hw⟩ => ⟨by rw [he]; simp, by rw [hw]; exact Below.refl _ _⟩
theorem compare_rt (a b : ByteArray) : Rt pg 60 [gs a, gs b] (gi (cmpS a b)) :=
  Rt.calls Tryd.call60 [.string a, .string b] _ fun w => (Tryd.strings_Compare a b w).mono fun e w' ⟨he, hw⟩ => ⟨by rw [he, cmpBytes]; rfl, by rw [hw]; exact Below.refl _ _⟩
theorem trim_rt (s t : ByteArray) (hs : s.size ≤ 1000000) (ht : t.size ≤ 1000) (ha : t.data.toList.all (fun b => decide (b.toNat < 128)) = true) : Rt pg 83 [gs s, gs t] (gs (bs (Lib.trimS s.data.toList t.data.toList))) :=
  Rt.calls Tryd.call83 [.string s, .string t] _ fun w => (Any.strings_Trim_laid Tryd.lays160 (by kernel_rfl) s t w (by omega) (by omega) (fun _ b hb => of_decide_eq_true (List.all_eq_true.1 ha b (List.mem_of_getElem? hb)))).mono fun e w' ⟨he, hw⟩ => ⟨he, hw⟩
theorem join_rt (xs : List ByteArray) (sep : ByteArray) (hlen : (Lib.join (xs.map (·.data.toList)) sep.data.toList).length ≤ 140737488355328) (hx : xs.length ≤ 140737488355328) : Rt pg 62 [.sl 1 (xs.map fun x => [gs x]), gs sep] (gs (bs (Lib.join (xs.map (·.data.toList)) sep.data.toList))) := by
  have := Rt.slice (p := pg) Tryd.call62 (xs.map .string) [.string sep] (.string (bs (Lib.join (xs.map (·.data.toList)) sep.data.toList))) fun A c w hat => by
    rw [List.length_map]
    rcases hat.at_ with h | ⟨b, o, rfl, hb, hc⟩
    · have : xs = [] := List.map_eq_nil_iff.1 h
      subst this
      exact (Tryd.strings_Join_none A c sep w).mono fun e w' ⟨he, hw⟩ => ⟨by rw [he]; rfl, by rw [hw]; exact Below.refl _ _⟩
    · exact (Tryd.strings_Join b o c xs sep w (fun j x hj => hc j _ (by rw [List.getElem?_map, hj]; rfl)) hb hx (by have := hat.cap; rwa [List.length_map] at this) hlen)
  rw [List.map_map] at this
  exact this
theorem slitePrefix_rt (s p : ByteArray) : Rt pg 84 [gs s, gs p] (.b (prefF s p)) := by
  refine Rt.of pg_ok Tryd.func84 rfl Tryd.ntmps84 rfl Tryd.results84 Tryd.call84 fun H0 S0 w0 h0 g0 => ?_
  unfold prefF
  by_cases h : p.size ≤ s.size
  · refine p1 ?_
    refine ⟨by omega, by omega, by omega, ?_⟩
    exact ⟨by simp [h]; rfl, rfl⟩
  · refine p2 ?_
    exact ⟨by simp [h]; rfl, rfl⟩
theorem hasPrefix_rt (s p : ByteArray) : Rt pg 57 [gs s, gs p] (.b (prefF s p)) := by
  refine Rt.of pg_ok Tryd.func57 rfl Tryd.ntmps57 rfl Tryd.results57 Tryd.call57 fun H0 S0 w0 h0 g0 => ?_
  refine GO (slitePrefix_rt s p) rfl ?_
  exact ⟨rfl, rfl⟩
theorem isNaN_rt (x : Int) : Rt pg 86 [gi x] (.v (.bool false)) := by
  refine Rt.of pg_ok Tryd.func86 rfl Tryd.ntmps86 rfl Tryd.results86 Tryd.call86 fun H0 S0 w0 h0 g0 => ?_
  exact ⟨by simp; rfl, rfl⟩
def sgnF (x y : Int) : Int := if x < y then -1 else if y < x then 1 else 0
theorem cmpInt_rt (x y : Int) : Rt pg 61 [gi x, gi y] (gi (sgnF x y)) := by
  refine Rt.of pg_ok Tryd.func61 rfl Tryd.ntmps61 rfl Tryd.results61 Tryd.call61 fun H0 S0 w0 h0 g0 => ?_
  refine GO (isNaN_rt x) rfl ?_
  refine GO (isNaN_rt y) rfl ?_
  unfold sgnF
  by_cases h1 : x < y
  · refine p1 ?_
    exact ⟨by simp [h1]; rfl, rfl⟩
  · refine p2 ?_
    by_cases h2 : y < x
    · refine p1 ?_
      exact ⟨by simp [h1, h2]; rfl, rfl⟩
    · refine p2 ?_
      exact ⟨by simp [h1, h2]; rfl, rfl⟩
theorem idx_str_rt (l : List ByteArray) (x : ByteArray) (n : Nat) (hn : n ≤ l.length) (h1 : ∀ i, i < n → sEq x (l.getD i ⟨#[]⟩) = false) (h2 : n < l.length → sEq x (l.getD n ⟨#[]⟩) = true) (hl : l.length < 4611686018427387904) :
    Rt pg 90 [.sl 1 (l.map fun x => [gs x]), gs x] (gi (if n < l.length then n else -1)) := by
  refine Rt.of pg_ok Tryd.func90 rfl Tryd.ntmps90 rfl Tryd.results90 Tryd.call90 fun H0 S0 w0 h0 g0 => ?_
  refine JK.loop (α := Nat) (fun i => ⟨[(0, .sl 1 (l.map fun x => [gs x])), (1, gs x), (7, gi (l.map fun x => [gs x]).length), (8, gi i)], [], 0⟩) (fun i => i ≤ n) (fun i => n - i) 0 id ?_ (Nat.zero_le _) ?_
  · exact ⟨⟨rfl, rfl, rfl, rfl, trivial⟩, trivial, rfl⟩
  · intro i hi
    refine V ?_
    have hlen : (l.map fun x => [gs x]).length = l.length := by simp
    by_cases hlt : i < l.length
    · have hg : l.getD i ⟨#[]⟩ = l[i] := by simp [hlt]
      refine p1 ?_
      refine ix (h := ?_)
      by_cases hin : i < n
      · have := h1 i hin
        rw [hg] at this
        refine p2 ?_
        exact ⟨i + 1, id, ⟨⟨rfl, rfl, rfl, succ_gi (by omega), trivial⟩, trivial, rfl⟩, hin, by show n - (i + 1) < n - i; omega⟩
      · have hin' : i = n := by omega
        subst hin'
        have := h2 hlt
        rw [hg] at this
        refine p1 ?_
        exact ⟨by rw [if_pos hlt]; rfl, rfl⟩
    · refine p2 ?_
      refine V ?_
      exact ⟨by rw [if_neg (by omega)]; rfl, rfl⟩
def conS (l : List ByteArray) (x : ByteArray) : Bool := l.any fun y => sEq x y
theorem conS_rt (l : List ByteArray) (x : ByteArray) (hl : l.length < 4611686018427387904) : Rt pg 65 [.sl 1 (l.map fun x => [gs x]), gs x] (.b (conS l x)) := by
  refine Rt.of pg_ok Tryd.func65 rfl Tryd.ntmps65 rfl Tryd.results65 Tryd.call65 fun H0 S0 w0 h0 g0 => ?_
  by_cases h : ∃ n, n < l.length ∧ sEq x (l.getD n ⟨#[]⟩) = true
  · obtain ⟨m, hm⟩ := h
    have hw : ∃ n, (n < l.length ∧ sEq x (l.getD n ⟨#[]⟩) = true) ∧ ∀ i, i < n → ¬ (i < l.length ∧ sEq x (l.getD i ⟨#[]⟩) = true) := by
      induction m using Nat.strongRecOn with
      | ind m ih =>
        by_cases hex : ∃ i, i < m ∧ i < l.length ∧ sEq x (l.getD i ⟨#[]⟩) = true
        · obtain ⟨i, h1, h2⟩ := hex; exact ih i h1 h2
        · exact ⟨m, hm, fun i hi hc => hex ⟨i, hi, hc⟩⟩
    obtain ⟨n, ⟨h1, h2⟩, h3⟩ := hw
    refine GO (idx_str_rt l x n (by omega) (fun i hi => by have := h3 i hi; cases hc : sEq x (l.getD i ⟨#[]⟩) with | false => rfl | true => exact (this ⟨by omega, hc⟩).elim) (fun _ => h2) hl) rfl ?_
    refine ⟨?_, rfl⟩
    have hc : conS l x = true := by
      unfold conS
      rw [List.any_eq_true]
      exact ⟨l[n], List.getElem_mem h1, by simpa [h1] using h2⟩
    show _ = conS l x
    rw [hc, if_pos h1]
    exact decide_eq_true (by omega)
  · refine GO (idx_str_rt l x l.length (Nat.le_refl _) (fun i hi => by cases hc : sEq x (l.getD i ⟨#[]⟩) with | false => rfl | true => exact (h ⟨i, hi, hc⟩).elim) (fun hlt => absurd hlt (Nat.lt_irrefl _)) hl) rfl ?_
    refine ⟨?_, rfl⟩
    have hc : conS l x = false := by
      unfold conS
      rw [List.any_eq_false]
      intro y hy he
      obtain ⟨i, hi, e⟩ := List.getElem_of_mem hy
      exact h ⟨i, hi, by simpa [hi, e] using he⟩
    show _ = conS l x
    rw [hc, if_neg (Nat.lt_irrefl _)]
    rfl
end Go.Proofs.YtfagagfokmlgiaaDoor
