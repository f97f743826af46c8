/-
  Contracts: which samples may be.
-/
import Derived.Test.YtaaoljhfepmkjaaDoorCRoll
namespace Go.Proofs.YtaaoljhfepmkjaaDoor
open Go.GK Go.PL
set_option maxRecDepth 100000
theorem right_ct (l : List Sm) : Ct pg 11 0 [.sl 2 (l.map sm)] [] (Val fun g => g = .b (okS l)) := by
  refine Ct.len 0 rfl fun hlen _ => ?_
  have hlen' : l.length ≤ 9223372036854775807 := by simpa [maxLen] using hlen
  refine Ct.bool (Ct.of_JK pg_ok Tryd.func11 rfl Tryd.ntmps11 rfl Tryd.results11 fun H0 S0 w0 h0 g0 => ?_)
  refine vc_sound pg_ok 200 _ _ ?_
  refine JK.loop (α := Nat) (fun i => ⟨[(0, .sl 2 (l.map sm)), (5, .sl 2 (l.map sm)), (6, gi (l.map sm).length), (7, gi i)], [], 0⟩) (fun i => i ≤ l.length ∧ ∀ j x, j < i → l[j]? = some x → ¬ badAt l j x) (fun i => l.length - i) 0 id ?_ ⟨Nat.zero_le _, fun j x hj => absurd hj (by omega)⟩ ?_
  · exact ⟨⟨rfl, rfl, rfl, rfl, trivial⟩, trivial, rfl⟩
  · rintro i ⟨hi, hgood⟩
    refine vc_sound pg_ok 200 _ _ ?_
    refine ⟨fun hb => ?_, fun hb => ?_⟩
    · have hlt : i < l.length := by simpa using hb
      refine idx i rfl hlt ?_
      refine ⟨by kernel_rfl, ?_⟩
      have hfalse : badAt l i l[i] → false = okS l := fun hb => by
        cases h : okS l with
        | false => rfl
        | true => exact ((okS_bad l).1 h |>.1 i l[i] (List.getElem?_eq_getElem hlt) hb).elim
      have hnext : ¬ badAt l i l[i] → i + 1 ≤ l.length ∧ ∀ j x, j < i + 1 → l[j]? = some x → ¬ badAt l j x := fun hn => ⟨hlt, fun j x hj hx => by
        rcases Nat.lt_succ_iff_lt_or_eq.1 hj with h1 | h1
        · exact hgood j x h1 hx
        · subst h1
          rw [List.getElem?_eq_getElem hlt] at hx
          cases hx
          exact hn⟩
      have e18 : some (gi (IntKind.i64.wrap (i + 1 : Int))) = some (gi ((i + 1 : Nat) : Int)) := by rw [wrap_id (by omega) (by omega)]; rfl
      refine ⟨fun ha => ?_, fun ha => ?_⟩
      · have ha' : ¬ l[i].time < -1099511627776 := by simpa using ha
        refine ⟨fun hc => ?_, fun hc => ?_⟩
        · have hc' : ¬ l[i].time > 1099511627776 := by simpa using hc
          refine ⟨fun hd => ?_, fun hd => ?_⟩
          · have hd' : 0 < i := by simpa using hd
            have ew : IntKind.i64.wrap ((i : Int) - 1) = ((i - 1 : Nat) : Int) := by rw [wrap_id (by omega) (by omega)]; omega
            refine idx (i - 1) ew (by omega) ?_
            refine ⟨fun he => ?_, fun he => ?_⟩
            · exact .inl (congrArg (fun c => GV.v (.bool c)) (hfalse (.inr (.inr ⟨hd', _, List.getElem?_eq_getElem (by omega), by simpa using he⟩))))
            · refine ⟨i + 1, id, ⟨⟨rfl, rfl, rfl, e18, trivial⟩, trivial, rfl⟩, hnext ?_, by show l.length - (i + 1) < l.length - i; omega⟩
              rintro (h | h | ⟨_, y, hy, h⟩)
              · exact ha' h
              · exact hc' h
              · rw [List.getElem?_eq_getElem (by omega)] at hy
                rw [Option.some.injEq] at hy
                rw [← hy] at h
                simp at he
                omega
          · have hd' : ¬ 0 < i := by simpa using hd
            refine ⟨i + 1, id, ⟨⟨rfl, rfl, rfl, e18, trivial⟩, trivial, rfl⟩, hnext ?_, by show l.length - (i + 1) < l.length - i; omega⟩
            rintro (h | h | ⟨h, _⟩)
            · exact ha' h
            · exact hc' h
            · exact hd' h
        · exact .inl (congrArg (fun c => GV.v (.bool c)) (hfalse (.inr (.inl (by simpa using hc)))))
      · exact .inl (congrArg (fun c => GV.v (.bool c)) (hfalse (.inl (by simpa using ha))))
    · have hge : i = l.length := by simp at hb; omega
      refine vc_sound pg_ok 200 _ _ ?_
      refine .inr (congrArg GV.b ?_)
      rw [Bool.eq_iff_iff, okS_bad, decide_eq_true_iff, List.length_map]
      exact ⟨fun h => ⟨fun j x hj => hgood j x (by rw [hge]; exact (List.getElem?_eq_some_iff.1 hj).1) hj, by omega⟩, fun h => by omega⟩
end Go.Proofs.YtaaoljhfepmkjaaDoor
