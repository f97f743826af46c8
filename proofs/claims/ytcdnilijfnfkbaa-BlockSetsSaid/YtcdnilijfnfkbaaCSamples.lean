/-
  Contracts: the document's samples.
-/
import Derived.Test.YtcdnilijfnfkbaaCSm
namespace Go.Proofs.Ytcdnilijfnfkbaa
open Go.GK Go.PL
set_option maxRecDepth 100000
theorem in_ct (n lo hi : Int) : Ct pg 18 0 [gi n, gi lo, gi hi] [] (Val fun g => g = .b (decide (lo ≤ n ∧ n ≤ hi))) := by
  refine Ct.bool (Ct.of_JK pg_ok Try.func18 rfl Try.ntmps18 rfl Try.results18 fun H0 S0 w0 h0 g0 => ?_)
  refine vc_sound pg_ok 200 _ _ ?_
  refine ⟨fun h => ?_, fun h => ?_⟩
  · refine .inr (congrArg GV.b ?_)
    have h' : lo ≤ n := of_decide_eq_true h
    exact decide_eq_decide.2 ⟨fun h => ⟨h', h⟩, fun h => h.2⟩
  · refine .inl (congrArg (fun c => GV.v (.bool c)) ?_)
    have h' : ¬ lo ≤ n := of_decide_eq_false h
    exact (decide_eq_false (fun h => h' h.1)).symm
theorem samples_ct (l : List Sm) (hlen' : l.length ≤ 1000000) : Ct pg 16 0 [.sl 2 (l.map sm)] [] (Val fun g => g = .b (okS l)) := by
  refine Ct.bool (Ct.of_JK pg_ok Try.func16 rfl Try.ntmps16 rfl Try.results16 fun H0 S0 w0 h0 g0 => ?_)
  refine vc_sound pg_ok 200 _ _ ?_
  refine JK.loop (α := Nat) (fun i => ⟨[(0, .sl 2 (l.map sm)), (5, .sl 2 (l.map sm)), (6, gi (l.map sm).length), (7, gi i)], [], 0⟩) (fun i => i ≤ l.length ∧ ∀ j x, j < i → l[j]? = some x → ¬ badAt l j x) (fun i => l.length - i) 0 id ?_ ⟨Nat.zero_le _, fun j x hj => absurd hj (by omega)⟩ ?_
  · exact ⟨⟨rfl, rfl, rfl, rfl, trivial⟩, trivial, rfl⟩
  · rintro i ⟨hi, hgood⟩
    refine vc_sound pg_ok 200 _ _ ?_
    refine ⟨fun hb => ?_, fun hb => ?_⟩
    · have hlt : i < l.length := by simpa using hb
      refine idx i rfl hlt ?_
      have hfalse : badAt l i l[i] → false = okS l := fun hb => by
        cases h : okS l with
        | false => rfl
        | true => exact ((okS_bad l).1 h |>.1 i l[i] (List.getElem?_eq_getElem hlt) hb).elim
      have hnext : ¬ badAt l i l[i] → i + 1 ≤ l.length ∧ ∀ j x, j < i + 1 → l[j]? = some x → ¬ badAt l j x := fun hn => ⟨hlt, fun j x hj hx => by
        rcases Nat.lt_succ_iff_lt_or_eq.1 hj with h1 | h1
        · exact hgood j x h1 hx
        · subst h1
          rw [List.getElem?_eq_getElem hlt] at hx
          cases hx
          exact hn⟩
      have e18 : some (gi (IntKind.i64.wrap (i + 1 : Int))) = some (gi ((i + 1 : Nat) : Int)) := by rw [wrap_id (by omega) (by omega)]; rfl
      refine JK.draw [] pg_ok ?_
      refine RA.run (e := false) pg_ok (by kernel_rfl) (fun _ _ h => h) (tk [0, 1]) (by kernel_rfl) ?_
      refine RA.call (n0 := 0) (r := id) 2 (in_ct l[i].time (-1099511627776) 1099511627776) Try.call18 rfl (by kernel_rfl) rfl rfl rfl rfl rfl trivial rfl (by simp) ?_
      rintro g σ' n' ⟨rfl, rfl, rfl⟩
      refine RA.run (e := true) pg_ok (by kernel_rfl) (fun _ _ h => h) (tk [3, 4, 5, 6, 7, 8, 9, 10, 11, 12, 13, 14, 15, 16, 17, 18]) (by kernel_rfl) ?_
      refine ⟨fun ha => ?_, fun ha => ?_⟩
      · have ha' : -1099511627776 ≤ l[i].time ∧ l[i].time ≤ 1099511627776 := by simpa using ha
        refine ⟨fun hd => ?_, fun hd => ?_⟩
        · have hd' : 0 < i := by simpa using hd
          have ew : IntKind.i64.wrap ((i : Int) - 1) = ((i - 1 : Nat) : Int) := by rw [wrap_id (by omega) (by omega)]; omega
          refine idx (i - 1) ew (by omega) ?_
          refine vc_sound pg_ok 200 _ _ ?_
          refine ⟨fun he => ?_, fun he => ?_⟩
          · exact .inl (congrArg (fun c => GV.v (.bool c)) (hfalse (.inr (.inr ⟨hd', _, List.getElem?_eq_getElem (by omega), by simpa using he⟩))))
          · refine ⟨i + 1, id, ⟨⟨rfl, rfl, rfl, e18, trivial⟩, trivial, rfl⟩, hnext ?_, by show l.length - (i + 1) < l.length - i; omega⟩
            rintro (h | h | ⟨_, y, hy, h⟩)
            · omega
            · omega
            · rw [List.getElem?_eq_getElem (by omega)] at hy
              rw [Option.some.injEq] at hy
              rw [← hy] at h
              simp at he
              omega
        · have hd' : ¬ 0 < i := by simpa using hd
          refine vc_sound pg_ok 200 _ _ ?_
          refine ⟨i + 1, id, ⟨⟨rfl, rfl, rfl, e18, trivial⟩, trivial, rfl⟩, hnext ?_, by show l.length - (i + 1) < l.length - i; omega⟩
          rintro (h | h | ⟨h, _⟩)
          · omega
          · omega
          · exact hd' h
      · have ha' : ¬ (-1099511627776 ≤ l[i].time ∧ l[i].time ≤ 1099511627776) := fun h => by
          rw [decide_eq_true h] at ha; cases ha
        refine vc_sound pg_ok 200 _ _ ?_
        refine .inl (congrArg (fun c => GV.v (.bool c)) (hfalse ?_))
        rcases Int.lt_or_le l[i].time (-1099511627776) with h | h
        · exact .inl h
        · exact .inr (.inl (by omega))
    · have hge : i = l.length := by simp at hb; omega
      refine vc_sound pg_ok 200 _ _ ?_
      refine .inr (congrArg GV.b ?_)
      rw [Bool.eq_iff_iff, okS_bad, decide_eq_true_iff, List.length_map]
      exact ⟨fun h => ⟨fun j x hj => hgood j x (by rw [hge]; exact (List.getElem?_eq_some_iff.1 hj).1) hj, by omega⟩, fun h => by omega⟩
/-- What stands ahead of a sample: the one before, and the step before. -/
def Ahead (l : List Sm) (i : Nat) (last : Sm) (step : Int) : Prop :=
  (i = 0 ∧ last = ⟨0, 0⟩ ∧ step = 0) ∨ (i = 1 ∧ l[0]? = some last ∧ step = 0) ∨ ∃ j q, i = j + 2 ∧ l[j + 1]? = some last ∧ l[j]? = some q ∧ step = last.time - q.time
end Go.Proofs.Ytcdnilijfnfkbaa
