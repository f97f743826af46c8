/-
  CodeSeries: the law's walk.
-/
import Derived.Test.YtogpkeoahlkokaaGreatDoorCShS
import Derived.Test.YtogpkeoahlkokaaGreatDoorCRefWrA
import Derived.Test.YtogpkeoahlkokaaGreatDoorCSameS
import Derived.Test.YtogpkeoahlkokaaGreatDoorCPlace
namespace Go.Proofs.YtogpkeoahlkokaaGreatDoor
open Go.GK Go.PL Go.RowKit
set_option maxRecDepth 100000
theorem lshortS_rt (l : List Ser) : Rt pg 4 [ses l] (.b (shS l)) := by
  refine Rt.of pg_ok Tryz.func4 rfl Tryz.ntmps4 rfl Tryz.results4 Tryz.call4 fun H0 S0 w0 h0 g0 => ?_
  have hll : (l.map se).length = l.length := by simp
  unfold shS
  by_cases hl : l.length ≤ 20
  · refine p2 ?_
    refine JK.loop (α := Nat) (fun i => ⟨[(0, ses l), (3, gi i)], [], 0⟩) (fun i => i ≤ l.length ∧ ∀ j, j < i → badS l j = false) (fun i => l.length - i) 0 id ?_ ⟨Nat.zero_le _, fun j hj => absurd hj (by omega)⟩ ?_
    · exact ⟨⟨rfl, rfl, trivial⟩, trivial, rfl⟩
    · rintro i ⟨hi, hgood⟩
      refine V ?_
      by_cases hlt : i < l.length
      · have hg := badS_at hlt
        have hbad : (!shL l[i].labels || decide (60 < l[i].samples.length)) = true → (decide (l.length ≤ 20) && !anyB l.length (badS l)) = false := fun h => by rw [anyB_true hlt (by rw [hg]; exact h)]; simp
        have hnext : (!shL l[i].labels || decide (60 < l[i].samples.length)) = false → ∀ j, j < i + 1 → badS l j = false := fun h j hj => by
          rcases Nat.lt_succ_iff_lt_or_eq.1 hj with h1 | h1
          · exact hgood j h1
          · subst h1; rw [hg]; exact h
        refine p1 ?_ (decide_eq_true (by omega))
        refine ix (h := ?_)
        have hsm : (l[i].samples.map sm).length = l[i].samples.length := by simp
        rcases tf (shL l[i].labels) with h1 | h1
        · refine GO ((shortL_rt l[i].labels).bt h1) rfl ?_
          repeat (first | refine p1 ?_ | refine p2 ?_ | refine p3 ?_ | refine p4 ?_)
          refine ix (h := ?_)
          by_cases h2 : 60 < l[i].samples.length
          · refine p1 ?_ (decide_eq_true (by omega))
            exact ⟨(hbad (by rw [decide_eq_true h2, Bool.or_true])).symm, rfl⟩
          · refine p2 ?_ (decide_eq_false (by omega))
            exact ⟨i + 1, id, ⟨⟨rfl, succ_gi (by omega), trivial⟩, trivial, rfl⟩, ⟨hlt, hnext (by rw [decide_eq_false h2, h1]; rfl)⟩, by show l.length - (i + 1) < l.length - i; omega⟩
        · refine GO ((shortL_rt l[i].labels).bt h1) rfl ?_
          repeat (first | refine p1 ?_ | refine p2 ?_ | refine p3 ?_ | refine p4 ?_)
          exact ⟨(hbad (by rw [h1]; rfl)).symm, rfl⟩
      · refine p2 ?_ (decide_eq_false (by omega))
        refine V ?_
        obtain rfl : i = l.length := by omega
        exact ⟨by rw [anyB_false hgood, decide_eq_true hl]; rfl, rfl⟩
  · refine p1 ?_
    exact ⟨by rw [decide_eq_false hl]; rfl, rfl⟩
theorem rr_yes {s : ByteArray} {l : List Ser} (hs : s.size ≤ 100000) (h : wholeP s = some l) : Rt pg 8 [gs s] (.tup [ses l, gi 0]) := by
  unfold wholeP at h
  cases hP : seriesP s with
  | none => rw [hP] at h; cases h
  | some x =>
    obtain ⟨m, r⟩ := x
    rw [hP] at h
    simp only at h
    split at h
    · rename_i hr
      cases h
      have he := empty_iff r
      rw [decide_eq_true hr] at he
      refine Rt.of pg_ok Tryz.func8 rfl Tryz.ntmps8 rfl Tryz.results8 Tryz.call8 fun H0 S0 w0 h0 g0 => ?_
      refine JK.recell 0 [gs s, .b false] rfl ⟨rfl, rfl, trivial⟩ ?_
      refine GOH (rdS (tseries_hf s false fun _ => hs) hP) id rfl rfl ⟨rfl, trivial⟩ rfl (id_lt rfl) ?_
      rintro _ _ _ ⟨rfl, rfl, rfl⟩
      repeat (first | refine p1 ?_ | refine p2 ?_ | refine p3 ?_ | refine p4 ?_)
      refine p2 ?_ (show (!sEq r ⟨#[]⟩) = false by rw [he]; rfl)
      exact ⟨⟨rfl, rfl, trivial⟩, rfl⟩
    · cases h
theorem rr_no {s : ByteArray} (hs : s.size ≤ 100000) (h : wholeP s = none) : Rt pg 8 [gs s] (.tup [.v (.slice none 0 0), gi 3]) := by
  unfold wholeP at h
  cases hP : seriesP s with
  | none =>
    refine Rt.of pg_ok Tryz.func8 rfl Tryz.ntmps8 rfl Tryz.results8 Tryz.call8 fun H0 S0 w0 h0 g0 => ?_
    refine JK.recell 0 [gs s, .b false] rfl ⟨rfl, rfl, trivial⟩ ?_
    refine GOH (rdN (tseries_hf s false fun _ => hs) hP) id rfl rfl ⟨rfl, trivial⟩ rfl (id_lt rfl) ?_
    rintro _ _ _ ⟨rfl, ⟨s', rfl⟩, rfl⟩
    repeat (first | refine p1 ?_ | refine p2 ?_ | refine p3 ?_ | refine p4 ?_)
    exact ⟨⟨rfl, rfl, trivial⟩, rfl⟩
  | some x =>
    obtain ⟨m, r⟩ := x
    rw [hP] at h
    simp only at h
    split at h
    · cases h
    · rename_i hr
      have he := empty_iff r
      rw [decide_eq_false hr] at he
      refine Rt.of pg_ok Tryz.func8 rfl Tryz.ntmps8 rfl Tryz.results8 Tryz.call8 fun H0 S0 w0 h0 g0 => ?_
      refine JK.recell 0 [gs s, .b false] rfl ⟨rfl, rfl, trivial⟩ ?_
      refine GOH (rdS (tseries_hf s false fun _ => hs) hP) id rfl rfl ⟨rfl, trivial⟩ rfl (id_lt rfl) ?_
      rintro _ _ _ ⟨rfl, rfl, rfl⟩
      repeat (first | refine p1 ?_ | refine p2 ?_ | refine p3 ?_ | refine p4 ?_)
      refine p1 ?_ (show (!sEq r ⟨#[]⟩) = true by rw [he]; rfl)
      exact ⟨⟨rfl, rfl, trivial⟩, rfl⟩
theorem sameNil_rt : Rt pg 11 [.v (.slice none 0 0), .v (.slice none 0 0)] (.b true) :=
  Rq.nl (pre := []) (z := 2) (suf := [.v (.slice none 0 0)]) (Rq.nl (pre := [.sl 2 []]) (z := 2) (suf := []) (sameSeriesL_rt []))
theorem codeSeries_rt (l : List Ser) (hV : ∀ x ∈ l, V64 x.samples) (s : ByteArray) : Rt pg 3 [ses l, gs s] (.b true) := by
  refine Rt.of pg_ok Tryz.func3 rfl Tryz.ntmps3 rfl Tryz.results3 Tryz.call3 fun H0 S0 w0 h0 g0 => ?_
  rcases tf (shS l) with hsh | hsh
  · refine GO ((lshortS_rt l).bt hsh) rfl ?_
    repeat (first | refine p1 ?_ | refine p2 ?_ | refine p3 ?_ | refine p4 ?_)
    have hz := size_short hsh
    have hlab : ∀ x ∈ l, Sh x.labels := fun x hx y hy => by have := (shL_small ((shS_small hsh).2 x hx).1).2 y hy; omega
    have hlab2 : ∀ x ∈ l, x.labels.length ≤ 1000000 ∧ x.samples.length ≤ 1000000 ∧ ∀ y ∈ x.labels, y.name.size < 4611686018427387904 ∧ y.value.size < 4611686018427387904 := fun x hx => by
      obtain ⟨h1, h2⟩ := (shS_small hsh).2 x hx
      obtain ⟨h3, h4⟩ := shL_small h1
      exact ⟨by omega, by omega, fun y hy => by have := h4 y hy; omega⟩
    have hws0 := ws_rt l hz hV hlab2
    by_cases hs : s.size > 1500
    · repeat (first | refine p1 ?_ | refine p2 ?_ | refine p3 ?_ | refine p4 ?_)
      exact ⟨rfl, rfl⟩
    refine p2 ?_ (decide_eq_false (by omega))
    cases hb : badI l with
    | some i =>
      rw [hb] at hws0
      refine GO hws0 rfl ?_
      refine GOH (serS_no hb (by omega) hlab) id rfl rfl trivial rfl (id_lt rfl) ?_
      rintro _ _ _ ⟨rfl, rfl, rfl⟩
      refine FZB 1 rfl rfl ?_
      refine GO ((isAt_rt 1 i 1 i).bt (d := true) (by simp)) rfl ?_
      repeat (first | refine p1 ?_ | refine p2 ?_ | refine p3 ?_ | refine p4 ?_)
      refine p2 ?_ (by simp)
      cases hws : wholeP s with
      | none =>
        refine GO (rr_no (by omega) hws) rfl ?_
        refine GO (rs_no (by omega) hws) rfl ?_
        refine GO ((bareE_rt (some 3) 3).bt (d := true) rfl) rfl ?_
        repeat (first | refine p1 ?_ | refine p2 ?_ | refine p3 ?_ | refine p4 ?_)
        refine GO sameNil_rt rfl ?_
        exact ⟨rfl, rfl⟩
      | some m =>
        refine GO (rr_yes (by omega) hws) rfl ?_
        refine GO (rs_yes (by omega) hws) rfl ?_
        refine GO ((bareE_rt none 0).bt (d := true) rfl) rfl ?_
        repeat (first | refine p1 ?_ | refine p2 ?_ | refine p3 ?_ | refine p4 ?_)
        refine GO (sameSeriesL_rt m) rfl ?_
        exact ⟨rfl, rfl⟩
    | none =>
      rw [hb] at hws0
      refine GO hws0 rfl ?_
      refine GOH (serS_yes hb (by omega) hlab) id rfl rfl trivial rfl (id_lt rfl) ?_
      rintro _ _ _ ⟨rfl, rfl, rfl⟩
      refine GO ((isE_rt none 0 (-1)).bt (d := true) rfl) rfl ?_
      repeat (first | refine p1 ?_ | refine p2 ?_ | refine p3 ?_ | refine p4 ?_)
      refine p2 ?_ (by simp)
      cases hws : wholeP s with
      | none =>
        refine GO (rr_no (by omega) hws) rfl ?_
        refine GO (rs_no (by omega) hws) rfl ?_
        refine GO ((bareE_rt (some 3) 3).bt (d := true) rfl) rfl ?_
        repeat (first | refine p1 ?_ | refine p2 ?_ | refine p3 ?_ | refine p4 ?_)
        refine GO sameNil_rt rfl ?_
        exact ⟨rfl, rfl⟩
      | some m =>
        refine GO (rr_yes (by omega) hws) rfl ?_
        refine GO (rs_yes (by omega) hws) rfl ?_
        refine GO ((bareE_rt none 0).bt (d := true) rfl) rfl ?_
        repeat (first | refine p1 ?_ | refine p2 ?_ | refine p3 ?_ | refine p4 ?_)
        refine GO (sameSeriesL_rt m) rfl ?_
        exact ⟨rfl, rfl⟩
  · refine GO ((lshortS_rt l).bt hsh) rfl ?_
    repeat (first | refine p1 ?_ | refine p2 ?_ | refine p3 ?_ | refine p4 ?_)
    exact ⟨rfl, rfl⟩
end Go.Proofs.YtogpkeoahlkokaaGreatDoor
