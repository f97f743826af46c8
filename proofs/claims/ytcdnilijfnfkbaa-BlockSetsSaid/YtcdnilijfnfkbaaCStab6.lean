/-
  Contracts: sort.SliceStable of own series, in an order that a closure gives: its entry, over the library's own laying.
-/
import Derived.Test.YtcdnilijfnfkbaaCStA
import Derived.Test.YtcdnilijfnfkbaaSStable
import Derived.Test.YtcdnilijfnfkbaaCSe
namespace Go.Proofs.Ytcdnilijfnfkbaa
open Go.GK Go.PL Go.RowKit Go.Lib Go.Shelf Go.Proofs Go.Sort
set_option maxRecDepth 100000
theorem inv_clo {H : Hid} {g : FuncId} {u : Value} (h : Is H (.fn (.func g) [] [.p 1 0]) u) : u = .func (.func g) #[] #[.pointer (some ⟨H.bl 1, 0, none⟩)] := by
  obtain ⟨us, vs, rfl, h1, _, h3, h4⟩ := h.inv_fn
  have e1 : us = #[] := Array.eq_empty_of_size_eq_zero h1.symm
  have e2 : vs = #[Value.pointer (some ⟨H.bl 1, 0, none⟩)] := by
    apply Array.ext
    · simpa using h3.symm
    · intro i h5 h6
      have hi' : i = 0 := by simp at h6; omega
      subst hi'
      have h7 := (h4 0 _ rfl).inv_p.1
      have h8 : vs.getD 0 undef = vs[0] := by simp [Array.getD, h5]
      rw [h8] at h7
      exact h7
  rw [e1, e2]
section
variable {α : Type} {enc : α → List GV} {k : Nat} {ty tb : TypeId} {g sw f fs : FuncId} {T : TypeId} {lt : α → α → Bool}
theorem entry_hf (hcall : ∀ a w, (callFunc f a).run pg.P w = .ok (.enter f a) w)
    (tiny : ∀ (a : Option Addr) (n c : Nat), n ≤ 1 → ∀ (lb : Array Value) (w : World), Calls pg.P f #[.iface T (.slice a n c), .func (.func g) #[] lb] w fun e w' => e = .returned (.tuple #[]) ∧ ∃ os, w' = grow w os)
    (big : ∀ (a : Option Addr) (n c : Nat), 2 ≤ n → n < 4611686018427387904 → ∀ (lb : Array Value) (w : World), ∃ w1, Below w.heap.size w w1 ∧ ∀ R : World → Prop,
      Calls pg.P fs #[.agg #[.func (.func g) #[] lb, .func (.func sw) #[] #[.slice a n c, typeHandle pg.P ty]], .int .i64 n] w1 (fun e w' => e = .returned (.tuple #[]) ∧ R w') → Calls pg.P f #[.iface T (.slice a n c), .func (.func g) #[] lb] w fun e w' => e = .returned (.tuple #[]) ∧ R w')
    (l : List α) (R : List α → Prop) (hone : l.length ≤ 1 → R l) (hmax : l.length < 4611686018427387904)
    (hst : Hf pg fs 2 [.agg (dat ty g sw), gi l.length] (sgm enc k ty tb l) (SR enc k ty tb R)) :
    Hf pg f 2 [.ifc T (.o 0), .fn (.func g) [] [.p 1 0]] (sgm enc k ty tb l) (SR enc k ty tb R) := by
  refine ⟨hcall, fun H us w hn hg hcs hs => ?_⟩
  obtain ⟨hul, hi⟩ := hcs
  obtain ⟨v0, hv0, hi0⟩ := (hi 0 _ rfl).inv_ifc
  obtain ⟨rfl, h0n⟩ := hi0.inv_o
  have hv1 := inv_clo (hi 1 _ rfl)
  obtain ⟨xs, hown, hrow⟩ := hs.holds (0, .row ty k (l.map enc)) (by simp)
  obtain ⟨us1, hb1, hz1, hbi⟩ := hs.holds (1, .blk tb [.o 0]) (by simp)
  have hus : us = #[.iface T (H.sv 0), .func (.func g) #[] #[.pointer (some ⟨H.bl 1, 0, none⟩)]] := by
    have h2 : us.size = 2 := by rw [← hul]; rfl
    apply Array.ext
    · exact h2
    · intro i h3 h4
      have : us[i] = us.getD i undef := by simp [Array.getD, h3]
      rw [this]
      match i, h4 with
      | 0, _ => exact hv0
      | 1, _ => exact hv1
  rw [hus]
  have hsv : ∃ a c, H.sv 0 = .slice a l.length c := by
    rcases hown.2 with ⟨h1, h2⟩ | ⟨gb, cap, cur, h1, _⟩
    · refine ⟨none, 0, ?_⟩
      rw [List.length_map] at h2
      rw [h1, h2]
    · rw [List.length_map] at h1
      exact ⟨_, cap, h1⟩
  obtain ⟨a, c, hsv⟩ := hsv
  rw [hsv]
  by_cases h1 : l.length ≤ 1
  · refine (tiny a l.length c h1 _ w).mono ?_
    rintro _ w' ⟨rfl, os, rfl⟩
    have hb : Below w.heap.size w (grow w os) := ⟨rfl, rfl, rfl, by simp, fun b hb => heap_grow_old w os hb⟩
    exact ⟨_, .tup [], H, _, rfl, .tup rfl (fun j g h => by simp at h), hs.below hb, Fr.below (Fr.refl _ _ _) hb, rfl, ⟨l, hone h1, rfl⟩, hn⟩
  · obtain ⟨w1, hb, hbig⟩ := big a l.length c (by omega) hmax #[.pointer (some ⟨H.bl 1, 0, none⟩)] w
    have hc : Cells H [.agg (dat ty g sw), gi l.length] #[.agg #[.func (.func g) #[] #[.pointer (some ⟨H.bl 1, 0, none⟩)], .func (.func sw) #[] #[.slice a l.length c, typeHandle pg.P ty]], .int .i64 l.length] := by
      have h1n : 1 < H.n := by rw [hn]; decide
      refine ⟨rfl, fun j gv hj => ?_⟩
      match j with
      | 0 =>
        simp at hj
        subst hj
        refine .agg rfl fun j gv hj => ?_
        match j with
        | 0 =>
          simp at hj
          subst hj
          refine .fn rfl (fun j g hj => by simp at hj) rfl (fun j gv hj => ?_)
          match j with
          | 0 => simp at hj; subst hj; exact .p h1n
          | j + 1 => simp at hj
        | 1 =>
          simp at hj
          subst hj
          refine .fn rfl (fun j g hj => by simp at hj) rfl (fun j gv hj => ?_)
          match j with
          | 0 => simp at hj; subst hj; exact .o h0n hsv rfl
          | 1 => simp at hj; subst hj; exact .ro (.v _)
          | j + 2 => simp at hj
        | j + 2 => simp at hj
      | 1 =>
        simp at hj
        subst hj
        exact .ro (.v _)
      | j + 2 => simp at hj
    have hq := hst.ct H _ w1 hn hg hc (hs.below hb)
    refine (hbig (fun w' => ∃ H' σ', Sat H' σ' w' ∧ Fr H (blks H (sgm enc k ty tb l)) w1 H' (blks H' σ') w' ∧ (∃ l', R l' ∧ σ' = sgm enc k ty tb l') ∧ H'.n = 2) (hq.mono ?_)).mono ?_
    · rintro e w' ⟨u, gv, H', σ', rfl, hiu, hs', hfr, rfl, hR, hn'⟩
      obtain ⟨vs, rfl, h2, _⟩ := hiu.inv_tup
      have : vs = #[] := Array.eq_empty_of_size_eq_zero h2.symm
      subst this
      exact ⟨rfl, H', σ', hs', hfr, hR, hn'⟩
    · rintro e w' ⟨rfl, H', σ', hs', hfr, hR, hn'⟩
      refine ⟨_, .tup [], H', σ', rfl, .tup rfl (fun j g h => by simp at h), hs', ?_, rfl, hR, hn'⟩
      exact ⟨hfr.os.trans hb.os, hfr.tape.trans hb.tape, hfr.output.trans hb.output, Nat.le_trans hb.size hfr.size, fun b h2 h3 => (hfr.keep b (Nat.lt_of_lt_of_le h2 hb.size) h3).trans (hb.block b h2), fun b h2 => (hfr.own b h2).imp id (Nat.le_trans hb.size), fun b h2 h3 => (hfr.fro b h2 h3).imp id (Nat.le_trans hb.size), hfr.le⟩
end
/-! series -/
noncomputable def serT : TypeInfo := (Try.prog.info? 22).get (by kernel_rfl)
noncomputable def serE : TypeInfo := (Try.prog.info? 44).get (by kernel_rfl)
theorem swSe (n : Nat) (h2 : 2 ≤ n) : Lib.swapperK n serE 25 = 9 := by
  have a : serE.hasPointers = true := by kernel_rfl
  have b : serE.bytes = 48 := by kernel_rfl
  have c : (n == 0) = false := by simp; omega
  have d : (n == 1) = false := by simp; omega
  simp [Lib.swapperK, a, b, c, d]
theorem swSe0 : Lib.swapperK 0 serE 25 = 1 := by kernel_rfl
theorem swSe1 : Lib.swapperK 1 serE 25 = 2 := by kernel_rfl
theorem kindSe (w : World) : (Extern.Rtype.kind 44).run Try.prog w = .ok 25 w := by kernel_rfl
theorem series_entry {α : Type} {enc : α → List GV} {g : FuncId} (l : List α) (R : List α → Prop) (hone : l.length ≤ 1 → R l) (hmax : l.length < 4611686018427387904)
    (hst : Hf pg 62 2 [.agg (dat 44 g 73), gi l.length] (sgm enc 2 44 22 l) (SR enc 2 44 22 R)) :
    Hf pg 50 2 [.ifc 22 (.o 0), .fn (.func g) [] [.p 1 0]] (sgm enc 2 44 22 l) (SR enc 2 44 22 R) :=
  entry_hf Try.call50 (fun a n c h1 lb w => by
    match n, h1 with
    | 0, _ => exact Any.sort_SliceStable_tiny Try.laysGt8 22 44 serT serE (by kernel_rfl) (by kernel_rfl) (by kernel_rfl) (by kernel_rfl) 25 kindSe a 0 c (by omega) 65 (by rw [swSe0]; kernel_rfl) _ _ _ w
    | 1, _ => exact Any.sort_SliceStable_tiny Try.laysGt8 22 44 serT serE (by kernel_rfl) (by kernel_rfl) (by kernel_rfl) (by kernel_rfl) 25 kindSe a 1 c (by omega) 66 (by rw [swSe1]; kernel_rfl) _ _ _ w)
    (fun a n c h2 hn lb w => ⟨stableWorld Try.prog Try.laysGt8_ren 22 a n c w, ((Below.refl _ _).alloc (Nat.le_refl _) _).alloc (by simp) _, fun R' h =>
      Any.sort_SliceStable_of_stable Try.laysGt8 22 44 serT serE (by kernel_rfl) (by kernel_rfl) (by kernel_rfl) (by kernel_rfl) 25 kindSe a n c hn 73 (by rw [swSe _ h2]; kernel_rfl) (.func g) #[] lb w R' (by
        rw [show sliceBound Try.prog 44 serE 25 a n c = #[.slice a n c, typeHandle Try.prog 44] from by unfold sliceBound; rw [if_neg (swapperK_gt _ _ _ h2)]]
        exact h)⟩) l R hone hmax hst
end Go.Proofs.Ytcdnilijfnfkbaa
