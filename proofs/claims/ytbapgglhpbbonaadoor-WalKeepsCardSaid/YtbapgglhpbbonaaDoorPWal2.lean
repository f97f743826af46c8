/-
  Plain laws: notes when the power goes off: what is left is what was, or what was to be; no program is in sight.
-/
import Derived.Test.YtbapgglhpbbonaaDoorPWal
namespace Go.PL
open Go Go.GK

theorem fnd_does2 (f : ByteArray) (d : Dk) : fnd f (doesF d) = fnd f d := rfl
/-- Just these are noted, and safe. -/
def WK (d : Dk) (now : List ByteArray) : Prop := fnd nN d = some (frs now, ((frs now).size : Int)) ∨ (fnd nN d = none ∧ now = [])
theorem WK.cont {d : Dk} {now : List ByteArray} (h : WK d now) : cont d = frs now := by
  unfold PL.cont
  rcases h with h | ⟨h, rfl⟩
  · rw [h]
  · rw [h]; rfl
theorem append_cut {d : Dk} {f : ByteArray} (hf : badN f = false) (s : ByteArray) : (onF d = true ∧ appendF f s d = (none, match fnd f d with | some x => putF f (x.1 ++ s, x.2) (doesF d) | none => putF f (s, -1) (doesF d))) ∨ (onF d = false ∧ appendF f s d = (some 14, d)) := by
  unfold appendF
  rw [if_neg (by rw [hf]; decide)]
  cases ho : onF d with
  | true => rw [if_pos rfl]; exact .inl ⟨rfl, by cases fnd f d <;> rfl⟩
  | false => rw [if_neg (by decide)]; exact .inr ⟨rfl, rfl⟩
theorem sync_cut {d : Dk} {f : ByteArray} {x : Fl} (hf : fnd f d = some x) : (onF d = true ∧ syncF f d = (none, putF f (x.1, x.1.size) (doesF d))) ∨ (onF d = false ∧ syncF f d = (some 14, d)) := by
  unfold syncF
  rw [hf]
  simp only []
  cases ho : onF d with
  | true => rw [if_pos rfl]; exact .inl ⟨rfl, rfl⟩
  | false => rw [if_neg (by decide)]; exact .inr ⟨rfl, rfl⟩
theorem remove_cut {d : Dk} {f : ByteArray} {x : Fl} (hf : fnd f d = some x) : (onF d = true ∧ removeF f d = (none, delF f (doesF d))) ∨ (onF d = false ∧ removeF f d = (some 14, d)) := by
  unfold removeF
  rw [hf]
  simp only []
  cases ho : onF d with
  | true => rw [if_pos rfl]; exact .inl ⟨rfl, rfl⟩
  | false => rw [if_neg (by decide)]; exact .inr ⟨rfl, rfl⟩
theorem move_cut {d : Dk} {f t : ByteArray} {x : Fl} (ht : badN t = false) (hf : fnd f d = some x) : (onF d = true ∧ moveF f t d = (none, putF t x (delF f (doesF d)))) ∨ (onF d = false ∧ moveF f t d = (some 14, d)) := by
  unfold moveF
  rw [if_neg (by rw [ht]; decide), hf]
  simp only []
  cases ho : onF d with
  | true => rw [if_pos rfl]; exact .inl ⟨rfl, rfl⟩
  | false => rw [if_neg (by decide)]; exact .inr ⟨rfl, rfl⟩
/-- What a torn addition looks like: so much of it was noted, so much is safe. -/
def WA (d : Dk) (now : List ByteArray) (s : ByteArray) : Prop := WK d now ∨ fnd nN d = some (frs now ++ frameF s, ((frs now).size : Int)) ∨ (fnd nN d = some (frameF s, -1) ∧ now = [])
theorem frs_snoc (now : List ByteArray) (s : ByteArray) : frs (now ++ [s]) = frs now ++ frameF s := by
  rw [frs_app]
  show _ ++ (frameF s ++ ByteArray.empty) = _
  simp
theorem add_cut {d : Dk} {B : Nat} (hok : d.ok B) {now : List ByteArray} (h : WK d now) (s : ByteArray) (hs : s.size ≤ 60000) :
    ((addF s false d).1 = none ∧ (addF s false d).2.1 = false ∧ WK (addF s false d).2.2 (now ++ [s])) ∨ ((addF s false d).1 = some 14 ∧ (addF s false d).2.1 = true ∧ WA (addF s false d).2.2 now s) := by
  unfold addF
  rw [if_neg (by omega), if_neg (by decide)]
  rcases append_cut badN_nN (frameF s) (d := d) with ⟨ho, e⟩ | ⟨ho, e⟩
  · rw [e]
    have hd := doesF_ok hok ho
    rcases h with h | ⟨h, rfl⟩
    · rw [h]
      simp only [thenF_none]
      have e2 := fnd_put hd nN nN (frs now ++ frameF s, ((frs now).size : Int))
      rw [if_pos rfl] at e2
      have hd2 : (putF nN (frs now ++ frameF s, ((frs now).size : Int)) (doesF d)).ok (B + ((frs now).size + (s.size + 2))) := putF_ok (hd.mono (by omega)) rfl (by show (frs now ++ frameF s).size ≤ _; rw [ByteArray.size_append, frameF_size]; omega) (by show (-1 : Int) ≤ ((frs now).size : Int); omega) (by show ((frs now).size : Int) ≤ ((frs now ++ frameF s).size : Int); rw [ByteArray.size_append]; omega)
      generalize putF nN (frs now ++ frameF s, ((frs now).size : Int)) (doesF d) = d2 at *
      rcases sync_cut e2 with ⟨ho2, e3⟩ | ⟨ho2, e3⟩
      · rw [e3]
        refine .inl ⟨rfl, rfl, .inl ?_⟩
        have := fnd_put (doesF_ok hd2 ho2) nN nN (frs now ++ frameF s, ((frs now ++ frameF s).size : Int))
        rw [if_pos rfl] at this
        rw [frs_snoc]
        exact this
      · rw [e3]
        exact .inr ⟨rfl, rfl, .inr (.inl e2)⟩
    · rw [h]
      simp only [thenF_none]
      have e2 := fnd_put hd nN nN (frameF s, (-1 : Int))
      rw [if_pos rfl] at e2
      have hd2 : (putF nN (frameF s, (-1 : Int)) (doesF d)).ok (B + (s.size + 2)) := putF_ok (hd.mono (by omega)) rfl (by show (frameF s).size ≤ _; rw [frameF_size]; omega) (Int.le_refl _) (by show (-1 : Int) ≤ ((frameF s).size : Int); omega)
      generalize putF nN (frameF s, (-1 : Int)) (doesF d) = d2 at *
      rcases sync_cut e2 with ⟨ho2, e3⟩ | ⟨ho2, e3⟩
      · rw [e3]
        refine .inl ⟨rfl, rfl, .inl ?_⟩
        have := fnd_put (doesF_ok hd2 ho2) nN nN (frameF s, ((frameF s).size : Int))
        rw [if_pos rfl] at this
        rw [frs_snoc]
        simpa [frs] using this
      · rw [e3]
        exact .inr ⟨rfl, rfl, .inr (.inr ⟨e2, rfl⟩)⟩
  · rw [e]
    exact .inr ⟨rfl, rfl, .inl h⟩
theorem set_cut {d : Dk} {B : Nat} (hok : d.ok B) (l : List ByteArray) (hl : (frs l).size ≤ B) : (setF l d).2.ok B ∧
    (((setF l d).1 = none ∧ WK (setF l d).2 l) ∨ ((setF l d).1 = some 14 ∧ fnd nN (setF l d).2 = fnd nN d)) ∧ (d.cut = false → (setF l d).1 = none ∧ (setF l d).2.cut = false) := by
  have hcl : (∃ d1, clrF d = (none, d1) ∧ d1.ok B ∧ fnd fN d1 = none ∧ fnd nN d1 = fnd nN d ∧ d1.cut = d.cut) ∨ (clrF d = (some 14, d) ∧ onF d = false) := by
    have hk := clrF_ok hok
    unfold clrF at *
    cases hf : fnd fN d with
    | none => exact .inl ⟨d, rfl, hok, hf, rfl, rfl⟩
    | some x =>
      rw [hf] at hk
      simp only [] at hk ⊢
      rcases remove_cut hf with ⟨ho, e⟩ | ⟨ho, e⟩
      · rw [e] at hk ⊢
        have h1 := fnd_del (doesF_ok hok ho) fN fN
        rw [if_pos rfl] at h1
        have h2 := fnd_del (doesF_ok hok ho) fN nN
        rw [if_neg fN_ne] at h2
        exact .inl ⟨_, rfl, hk, h1, h2, rfl⟩
      · rw [e]
        exact .inr ⟨rfl, ho⟩
  have hon : d.cut = false → onF d = true := onF_of
  rcases hcl with ⟨d1, h1, hk1, hf1, hn1, hc1⟩ | ⟨h1, ho⟩
  · rcases append_cut badN_fN (frs l) (d := d1) with ⟨ho1, h2⟩ | ⟨ho1, h2⟩
    · rw [hf1] at h2
      simp only [] at h2
      have hk2 : (putF fN (frs l, (-1 : Int)) (doesF d1)).ok B := putF_ok (doesF_ok hk1 ho1) rfl hl (Int.le_refl _) (by show (-1 : Int) ≤ ((frs l).size : Int); omega)
      have e2 := fnd_put (doesF_ok hk1 ho1) fN fN (frs l, (-1 : Int))
      rw [if_pos rfl] at e2
      have n2 := fnd_put (doesF_ok hk1 ho1) fN nN (frs l, (-1 : Int))
      rw [if_neg fN_ne] at n2
      have hc2 : (putF fN (frs l, (-1 : Int)) (doesF d1)).cut = d1.cut := rfl
      generalize putF fN (frs l, (-1 : Int)) (doesF d1) = d2 at *
      rcases sync_cut e2 with ⟨ho2, h3⟩ | ⟨ho2, h3⟩
      · have hk3 := syncF_ok hk2 fN
        rw [h3] at hk3
        have e3 := fnd_put (doesF_ok hk2 ho2) fN fN (frs l, ((frs l).size : Int))
        rw [if_pos rfl] at e3
        have n3 := fnd_put (doesF_ok hk2 ho2) fN nN (frs l, ((frs l).size : Int))
        rw [if_neg fN_ne] at n3
        have hc3 : (putF fN (frs l, ((frs l).size : Int)) (doesF d2)).cut = d2.cut := rfl
        generalize putF fN (frs l, ((frs l).size : Int)) (doesF d2) = d3 at *
        rw [setF_e3 h1 h2 h3]
        have hk4 := moveF_ok hk3 fN nN
        rcases move_cut badN_nN e3 with ⟨ho3, h4⟩ | ⟨ho3, h4⟩
        · rw [h4] at hk4 ⊢
          have e4 := fnd_put (delF_ok (f := fN) (doesF_ok hk3 ho3)) nN nN (frs l, ((frs l).size : Int))
          rw [if_pos rfl] at e4
          exact ⟨hk4, .inl ⟨rfl, .inl e4⟩, fun hc => ⟨rfl, by show d3.cut = false; rw [hc3, hc2, hc1]; exact hc⟩⟩
        · rw [h4]
          refine ⟨hk3, .inr ⟨rfl, ?_⟩, fun hc => ?_⟩
          · show fnd nN d3 = _
            rw [n3, fnd_does2, n2, fnd_does2, hn1]
          · have := onF_of (d := d3) (by rw [hc3, hc2, hc1]; exact hc)
            rw [ho3] at this; cases this
      · rw [setF_e2 h1 h2 h3]
        refine ⟨hk2, .inr ⟨rfl, ?_⟩, fun hc => ?_⟩
        · show fnd nN d2 = _
          rw [n2, fnd_does2, hn1]
        · have := onF_of (d := d2) (by rw [hc2, hc1]; exact hc)
          rw [ho2] at this; cases this
    · rw [setF_e1 h1 h2]
      refine ⟨hk1, .inr ⟨rfl, hn1⟩, fun hc => ?_⟩
      have := onF_of (d := d1) (by rw [hc1]; exact hc)
      rw [ho1] at this; cases this
  · rw [setF_e0 h1]
    refine ⟨hok, .inr ⟨rfl, rfl⟩, fun hc => ?_⟩
    rw [hon hc] at ho; cases ho
/-- What is left when the power comes back: whole notes, and perhaps one that is torn; all is safe. -/
def Af (d : Dk) (c : List ByteArray → Prop) : Prop := ∃ L p, c L ∧ Torn p ∧ ((fnd nN d = some (frs L ++ p, ((frs L ++ p).size : Int))) ∨ (fnd nN d = none ∧ L = [] ∧ p.size = 0))
theorem ba_extract_all (a : ByteArray) : a.extract 0 a.size = a := by
  apply ByteArray.ext
  simp
theorem keep_safe (keeps : Int) (x : ByteArray) : keepF keeps (x, (x.size : Int)) = some (x, (x.size : Int)) := by
  unfold keepF
  rw [if_neg (by simp only []; omega)]
  simp only []
  have e : max (x.size : Int) 0 + min (max keeps 0) ((x.size : Int) - max (x.size : Int) 0) = x.size := by omega
  rw [e, Int.toNat_natCast, ba_extract_all]
theorem Af.of {d : Dk} {B : Nat} (hok : d.ok B) {now : List ByteArray} (h : WK d now) (keeps : Int) : Af (startF keeps d) (· = now) := by
  refine ⟨now, ByteArray.empty, rfl, torn_empty, ?_⟩
  rw [ByteArray.append_empty, fnd_start hok]
  rcases h with h | ⟨h, rfl⟩
  · rw [h]; exact .inl (keep_safe keeps _)
  · rw [h]; exact .inr ⟨rfl, rfl, rfl⟩
theorem ext_app (a b : ByteArray) (k : Nat) : (a ++ b).extract 0 (a.size + k) = a ++ b.extract 0 k := by
  apply ByteArray.ext
  simp only [ByteArray.data_extract, ByteArray.data_append]
  apply Array.ext'
  have ha : a.data.toList.length = a.size := by simp
  simp
  exact List.take_of_length_le (by omega)
theorem Af.add {d : Dk} {B : Nat} (hok : d.ok B) {now : List ByteArray} {s : ByteArray} (hs : s.size ≤ 60000) (h : WA d now s) (keeps : Int) : Af (startF keeps d) (fun L => L = now ∨ L = now ++ [s]) := by
  rcases h with h | h | ⟨h, rfl⟩
  · obtain ⟨L, p, h1, h2⟩ := Af.of hok h keeps
    exact ⟨L, p, .inl h1, h2⟩
  · have hk : ∃ k : Nat, k ≤ (frameF s).size ∧ keepF keeps (frs now ++ frameF s, ((frs now).size : Int)) = some (frs now ++ (frameF s).extract 0 k, (((frs now).size + k : Nat) : Int)) := by
      refine ⟨(min (max keeps 0) ((frameF s).size : Int)).toNat, by omega, ?_⟩
      unfold keepF
      rw [if_neg (by simp only []; omega)]
      simp only []
      have e : max ((frs now).size : Int) 0 + min (max keeps 0) (((frs now ++ frameF s).size : Int) - max ((frs now).size : Int) 0) = (((frs now).size + (min (max keeps 0) ((frameF s).size : Int)).toNat : Nat) : Int) := by
        rw [ByteArray.size_append]; omega
      rw [e, Int.toNat_natCast, ext_app]
    obtain ⟨k, hk1, hk2⟩ := hk
    have hst : fnd nN (startF keeps d) = some (frs now ++ (frameF s).extract 0 k, (((frs now).size + k : Nat) : Int)) := by rw [fnd_start hok, h]; exact hk2
    have hsz : (frs now ++ (frameF s).extract 0 k).size = (frs now).size + k := by rw [ByteArray.size_append, ByteArray.size_extract]; omega
    by_cases hkk : k = (frameF s).size
    · subst hkk
      refine ⟨now ++ [s], ByteArray.empty, .inr rfl, torn_empty, .inl ?_⟩
      rw [ByteArray.append_empty, frs_snoc, hst]
      rw [ba_extract_all] at hsz ⊢
      rw [hsz]
    · refine ⟨now, (frameF s).extract 0 k, .inl rfl, torn_take s (by omega) k (by rw [frameF_size] at hk1 hkk; omega), .inl ?_⟩
      rw [hst, hsz]
  · by_cases hg : keeps < 1
    · refine ⟨[], ByteArray.empty, .inl rfl, torn_empty, .inr ⟨?_, rfl, rfl⟩⟩
      rw [fnd_start hok, h]
      show keepF keeps (frameF s, -1) = none
      unfold keepF
      rw [if_pos ⟨by simp only []; omega, hg⟩]
    · have hk : ∃ k : Nat, k ≤ (frameF s).size ∧ keepF keeps (frameF s, (-1 : Int)) = some ((frameF s).extract 0 k, (k : Int)) := by
        refine ⟨(min (max keeps 0) ((frameF s).size : Int)).toNat, by omega, ?_⟩
        unfold keepF
        rw [if_neg (by simp only []; omega)]
        simp only []
        have e : max (-1 : Int) 0 + min (max keeps 0) (((frameF s).size : Int) - max (-1 : Int) 0) = (((min (max keeps 0) ((frameF s).size : Int)).toNat : Nat) : Int) := by omega
        rw [e, Int.toNat_natCast]
      obtain ⟨k, hk1, hk2⟩ := hk
      have hst : fnd nN (startF keeps d) = some ((frameF s).extract 0 k, (k : Int)) := by rw [fnd_start hok, h]; exact hk2
      have hsz : ((frameF s).extract 0 k).size = k := by rw [ByteArray.size_extract]; omega
      by_cases hkk : k = (frameF s).size
      · subst hkk
        refine ⟨[s], ByteArray.empty, .inr rfl, torn_empty, .inl ?_⟩
        rw [ByteArray.append_empty, hst, ba_extract_all]
        simp [frs]
      · refine ⟨[], (frameF s).extract 0 k, .inl rfl, torn_take s (by omega) k (by rw [frameF_size] at hk1 hkk; omega), .inl ?_⟩
        rw [hst]
        simp [frs, hsz]
/-- Opened anew, just the whole notes are noted, and safe. -/
theorem open_wk {d : Dk} {B : Nat} (hok : d.ok B) (hc : d.cut = false) {L : List ByteArray} {p : ByteArray} (h : (fnd nN d = some (frs L ++ p, ((frs L ++ p).size : Int))) ∨ (fnd nN d = none ∧ L = [] ∧ p.size = 0)) :
    cont d = frs L ++ p ∧ (frs L ++ p).size ≤ B ∧ (p.size ≠ 0 → (setF L d).1 = none) ∧ (openF L p d).ok B ∧ (openF L p d).cut = false ∧ WK (openF L p d) L := by
  have hp0 : p.size = 0 → p = ByteArray.empty := fun h => by
    apply ByteArray.ext
    apply Array.eq_empty_of_size_eq_zero
    exact h
  have hsz : (frs L ++ p).size ≤ B := by
    rcases h with h | ⟨h, rfl, h2⟩
    · exact (fnd_sz hok h).1
    · rw [hp0 h2]; exact Nat.zero_le _
  have hL : (frs L).size ≤ B := by rw [ByteArray.size_append] at hsz; omega
  obtain ⟨s1, s2, s3⟩ := set_cut hok L hL
  obtain ⟨s4, s5⟩ := s3 hc
  refine ⟨?_, hsz, fun _ => s4, ?_⟩
  · unfold cont
    rcases h with h | ⟨h, rfl, h2⟩
    · rw [h]
    · rw [h, hp0 h2]; simp [frs]
  · unfold openF
    by_cases hp : p.size = 0
    · rw [if_pos hp]
      refine ⟨hok, hc, ?_⟩
      rcases h with h | ⟨h, h2, _⟩
      · rw [hp0 hp, ByteArray.append_empty] at h
        exact .inl h
      · exact .inr ⟨h, h2⟩
    · rw [if_neg hp]
      refine ⟨s1, s5, ?_⟩
      rcases s2 with ⟨_, s2⟩ | ⟨s2, _⟩
      · exact s2
      · rw [s4] at s2; cases s2
end Go.PL
