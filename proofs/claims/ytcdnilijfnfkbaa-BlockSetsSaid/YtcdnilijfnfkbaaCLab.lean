/-
  Contracts: package label: names, values, labels.
-/
import Derived.Test.YtcdnilijfnfkbaaCStr
import Derived.Test.YtcdnilijfnfkbaaPLb
namespace Go.Proofs.Ytcdnilijfnfkbaa
open Go.GK Go.PL Go.RowKit
set_option maxRecDepth 100000
abbrev lb (x : Lb) : List GV := [gs x.name, gs x.value]
abbrev mt (x : Mt) : List GV := [gs x.name, gi x.op, gs x.value]

theorem empty_iff (s : ByteArray) : sEq s ⟨#[]⟩ = decide (s.size = 0) := by
  rw [Bool.eq_iff_iff, sEq_iff, decide_eq_true_iff]
  exact ⟨fun e => by rw [e]; rfl, fun h => ba_inj (List.eq_nil_of_length_eq_zero (by rw [size_data]; exact h))⟩

theorem vbad_some {s : ByteArray} {i : Nat} (h : i < s.size) : vbad s i = (decide (s[i].toNat < 32) || (decide (126 < s[i].toNat) || (decide (s[i].toNat = 34) || decide (s[i].toNat = 92)))) := by
  unfold vbad
  rw [getElem?_pos s i h]
theorem lbad_at {l : List Lb} {i : Nat} (h : i < l.length) : lbad l i = (!nameF l[i].name || (!valueF l[i].value || (sEq l[i].value ⟨#[]⟩ || (decide (0 < i) && !sLt (l[i - 1]'(by omega)).name l[i].name)))) := by
  unfold lbad
  have e1 : ∀ j (hj : j < l.length), l.getD j default = l[j] := fun j hj => by simp [hj]
  rw [e1 i h, e1 (i - 1) (by omega)]
/-- What is short enough to be held. -/
def Sh (l : List Lb) : Prop := ∀ x ∈ l, x.value.size < 4611686018427387904
theorem get_rt (l : List Lb) (n : ByteArray) : Rt pg 53 [.sl 2 (l.map lb), gs n] (gs (lgetF l n)) := by
  refine Rt.of pg_ok Try.func53 rfl Try.ntmps53 rfl Try.results53 Try.call53 fun H0 S0 w0 h0 g0 => ?_
  refine JK.len 0 rfl fun hlen _ => ?_
  have hlen' : l.length ≤ 9223372036854775807 := by simpa [maxLen] using hlen
  refine JK.loop (α := Nat) (fun i => ⟨[(1, gs n), (7, .sl 2 (l.map lb)), (8, gi (l.map lb).length), (9, gi i)], [], 0⟩) (fun i => i ≤ l.length ∧ lgetF (l.drop i) n = lgetF l n) (fun i => l.length - i) 0 id ?_ ⟨Nat.zero_le _, rfl⟩ ?_
  · exact ⟨⟨rfl, rfl, rfl, rfl, trivial⟩, trivial, rfl⟩
  · rintro i ⟨hi, hgood⟩
    refine V ?_
    have hll : (l.map lb).length = l.length := by simp
    by_cases hlt : i < l.length
    · rw [List.drop_eq_getElem_cons hlt] at hgood
      refine p1 ?_
      refine ix (h := ?_)
      cases h1 : sEq l[i].name n with
      | true =>
        refine p1 ?_ h1
        exact ⟨by rw [← hgood, lgetF, if_pos h1]; rfl, rfl⟩
      | false =>
        refine p2 ?_ h1
        exact ⟨i + 1, id, ⟨⟨rfl, rfl, rfl, succ_gi (by omega), trivial⟩, trivial, rfl⟩, ⟨hlt, by rw [← hgood, lgetF, if_neg (by rw [h1]; decide)]⟩, by show l.length - (i + 1) < l.length - i; omega⟩
    · refine p2 ?_
      refine V ?_
      obtain rfl : i = l.length := by omega
      rw [List.drop_length] at hgood
      exact ⟨by rw [← hgood]; rfl, rfl⟩
theorem or_rt (a b : Int) : Rt pg 45 [.sl 1 [[gi a], [gi b]]] (gi (if a = 0 then b else a)) := by
  refine Rt.of pg_ok Try.func45 rfl Try.ntmps45 rfl Try.results45 Try.call45 fun H0 S0 w0 h0 g0 => ?_
  refine JK.loop (α := Nat) (fun i => ⟨[(3, gi 0), (6, .sl 1 [[gi a], [gi b]]), (7, gi 2), (8, gi i)], [], 0⟩) (fun i => i ≤ 2 ∧ (0 < i → a = 0) ∧ (1 < i → b = 0)) (fun i => 2 - i) 0 id ?_ ⟨by omega, by omega, by omega⟩ ?_
  · exact ⟨⟨rfl, rfl, rfl, rfl, trivial⟩, trivial, rfl⟩
  · rintro i ⟨hi, h1, h2⟩
    match i, hi, h1, h2 with
    | 0, _, _, _ =>
      refine V ?_
      refine p1 ?_
      refine ⟨[gi a], by decide, rfl, ?_⟩
      by_cases h : a = 0
      · refine p2 ?_
        exact ⟨1, id, ⟨⟨rfl, rfl, rfl, rfl, trivial⟩, trivial, rfl⟩, ⟨by omega, fun _ => h, by omega⟩, by show 2 - 1 < 2; omega⟩
      · refine p1 ?_
        exact ⟨by rw [if_neg h]; rfl, rfl⟩
    | 1, _, h1, _ =>
      refine V ?_
      refine p1 ?_
      have ha := h1 (by omega)
      refine ⟨[gi b], by decide, rfl, ?_⟩
      by_cases h : b = 0
      · refine p2 ?_
        exact ⟨2, id, ⟨⟨rfl, rfl, rfl, rfl, trivial⟩, trivial, rfl⟩, ⟨by omega, fun _ => ha, fun _ => h⟩, by show 2 - 2 < 2 - 1; omega⟩
      · refine p1 ?_
        exact ⟨by rw [if_pos ha]; rfl, rfl⟩
    | 2, _, h1, h2 =>
      refine V ?_
      refine p2 ?_
      refine V ?_
      exact ⟨by rw [if_pos (h1 (by omega)), h2 (by omega)]; rfl, rfl⟩
end Go.Proofs.Ytcdnilijfnfkbaa
