/-
  Contracts: whether samples are the same.
-/
import Derived.Test.YtaaoljhfepmkjaaDoorCRoll
namespace Go.Proofs.YtaaoljhfepmkjaaDoor
open Go.GK Go.PL
set_option maxRecDepth 100000
def eqSmK (a b : Sm) : Bool := a.time == b.time && (a.value == b.value && true)
theorem eqSmK_iff (a b : Sm) : eqSmK a b = true ↔ a = b := by
  obtain ⟨a1, a2⟩ := a
  obtain ⟨b1, b2⟩ := b
  simp [eqSmK]
theorem sameSK_ct (a b : List Sm) : Ct pg 26 0 [.sl 2 (a.map sm), .sl 2 (b.map sm)] [] (Val fun g => g = .b (decide (a = b))) := by
  refine Ct.len 0 rfl fun hlen _ => ?_
  have hlen' : a.length ≤ 9223372036854775807 := by simpa [maxLen] using hlen
  refine Ct.bool (Ct.of_JK pg_ok Tryd.func26 rfl Tryd.ntmps26 rfl Tryd.results26 fun H0 S0 w0 h0 g0 => ?_)
  refine vc_sound pg_ok 200 _ _ ?_
  refine ⟨fun hb => ?_, fun hb => ?_⟩
  · refine .inl (congrArg (fun c => GV.v (.bool c)) ?_)
    have : a ≠ b := fun e => by subst e; simp at hb
    exact (decide_eq_false this).symm
  · have hl : a.length = b.length := by simp at hb; omega
    refine JK.loop (α := Nat) (fun i => ⟨[(0, .sl 2 (a.map sm)), (1, .sl 2 (b.map sm)), (5, gi i)], [], 0⟩) (fun i => i ≤ a.length ∧ ∀ j, j < i → a[j]? = b[j]?) (fun i => a.length - i) 0 id ?_ ⟨Nat.zero_le _, fun j hj => absurd hj (by omega)⟩ ?_
    · exact ⟨⟨rfl, rfl, rfl, trivial⟩, trivial, rfl⟩
    · rintro i ⟨hi, hgood⟩
      refine vc_sound pg_ok 200 _ _ ?_
      refine ⟨fun hb => ?_, fun hb => ?_⟩
      · have hlt : i < a.length := by simpa using hb
        have hlt' : i < b.length := by omega
        refine ⟨by kernel_rfl, ?_⟩
        refine idx i rfl hlt ?_
        refine idx i rfl hlt' ?_
        refine ⟨fun hc => ?_, fun hc => ?_⟩
        · refine .inl (congrArg (fun c => GV.v (.bool c)) ?_)
          have hne : a ≠ b := fun e => by
            subst e
            have : eqSmK a[i] a[i] = true := (eqSmK_iff _ _).2 rfl
            have hc' : (!eqSmK a[i] a[i]) = true := hc
            rw [this] at hc'
            cases hc'
          exact (decide_eq_false hne).symm
        · refine ⟨i + 1, id, ⟨⟨rfl, rfl, (by rw [wrap_id (by omega) (by omega)]; rfl), trivial⟩, trivial, rfl⟩, ⟨hlt, fun j hj => ?_⟩, by show a.length - (i + 1) < a.length - i; omega⟩
          rcases Nat.lt_succ_iff_lt_or_eq.1 hj with h1 | h1
          · exact hgood j h1
          · subst h1
            have hc' : (!eqSmK a[j] b[j]) = false := hc
            have : a[j] = b[j] := (eqSmK_iff _ _).1 (by simpa using hc')
            rw [List.getElem?_eq_getElem hlt, List.getElem?_eq_getElem hlt', this]
      · have hge : i = a.length := by simp at hb; omega
        refine vc_sound pg_ok 200 _ _ ?_
        refine .inl (congrArg (fun c => GV.v (.bool c)) ?_)
        have : a = b := List.ext_getElem? fun j => by
          by_cases hj : j < a.length
          · exact hgood j (by omega)
          · rw [List.getElem?_eq_none (by omega), List.getElem?_eq_none (by omega)]
        exact (decide_eq_true this).symm
end Go.Proofs.YtaaoljhfepmkjaaDoor
