/-
  Contracts: the disk: is there power, count a change, cut, read.
-/
import Derived.Test.YtdongnbkfgipdaaCEr
import Derived.Test.YtdongnbkfgipdaaGKh
import Derived.Test.YtdongnbkfgipdaaPDisk
namespace Go.Proofs.Ytdongnbkfgipdaa
open Go.GK Go.PL Go.RowKit
set_option maxRecDepth 100000
abbrev ef (x : Fl) : GV := gs x.1
abbrev en (x : Fl) : GV := gi x.2
def dheap (d : Dk) : Heap := match d.nil with
  | true => [(0, .blk 27 [.v (.map none), .v (.map none), gi d.left, .b d.cut])]
  | false => [(0, .blk 27 [.o 1, .o 2, gi d.left, .b d.cut]), (1, .mp none (pes ef d.L)), (2, .mp none (pes en d.L))]
def dk (d : Dk) (fp : List Nat) : Abs := pack 3 (dheap d) fp
def r3 (a b c : Nat) : Nat → Nat := fun i => bif Nat.beq i 0 then a else bif Nat.beq i 1 then b else c
theorem ef_id (L : List (Value × Fl)) (n : Nat) : idbM n (pes ef L) = true := idbM_pes ef n (fun _ => rfl) L
theorem en_id (L : List (Value × Fl)) (n : Nat) : idbM n (pes en L) = true := idbM_pes en n (fun _ => rfl) L
theorem ef_ren (f : Nat → Nat) (L : List (Value × Fl)) : renM f (pes ef L) = pes ef L := renM_pes ef (fun _ => rfl) f L
theorem en_ren (f : Nat → Nat) (L : List (Value × Fl)) : renM f (pes en L) = pes en L := renM_pes en (fun _ => rfl) f L

section
variable {N n0 : Nat} {H0 : Hid} {S0 : List Nat} {w0 : World} {h0 : H0.n = n0} {g0 : GlOk pg H0} {T : Post} {k : List It} {s : St}
/-- A disk without maps is unpacked. -/
theorem UNPN (id : Nat) {fp : List Nat} (d : Dk) (hd : d.nil = true) (hl : hlook s.σ id = some (.ab (dk d fp))) (h : nfH ((id, .blk 27 [.v (.map none), .v (.map none), gi d.left, .b d.cut]) :: hdel s.σ id) fun σ => nfN (s.n + 3) fun m => vc ⟨pg, N, n0, H0, S0, w0, h0, g0⟩ T 400 k ⟨s.ρ, σ, m⟩) : JK ⟨pg, N, n0, H0, S0, w0, h0, g0⟩ T k s := by
  rw [nfH_eq, nfN_eq] at h
  refine JK.unpack id hl ?_
  rw [nfH_eq, nfN_eq]
  have e : renH (upf id s.n) (dheap d) = [(id, .blk 27 [.v (.map none), .v (.map none), gi d.left, .b d.cut])] := by
    unfold dheap
    rw [hd]
    rfl
  rw [e]
  exact V h
/-- A disk with maps is unpacked. -/
theorem UNPO (id : Nat) {fp : List Nat} (d : Dk) (hd : d.nil = false) (hl : hlook s.σ id = some (.ab (dk d fp))) (h : nfN (s.n + 1) fun a => nfN (s.n + 2) fun b => nfH ((id, .blk 27 [.o a, .o b, gi d.left, .b d.cut]) :: (a, .mp none (pes ef d.L)) :: (b, .mp none (pes en d.L)) :: hdel s.σ id) fun σ => nfN (s.n + 3) fun m => vc ⟨pg, N, n0, H0, S0, w0, h0, g0⟩ T 400 k ⟨s.ρ, σ, m⟩) : JK ⟨pg, N, n0, H0, S0, w0, h0, g0⟩ T k s := by
  rw [nfN_eq, nfN_eq, nfH_eq, nfN_eq] at h
  refine JK.unpack id hl ?_
  rw [nfH_eq, nfN_eq]
  have e : renH (upf id s.n) (dheap d) = [(id, .blk 27 [.o (s.n + 1), .o (s.n + 2), gi d.left, .b d.cut]), (s.n + 1, .mp none (pes ef d.L)), (s.n + 2, .mp none (pes en d.L))] := by
    unfold dheap
    rw [hd]
    show [(id, Res.blk 27 [.o (s.n + 1), .o (s.n + 2), gi d.left, .b d.cut]), (s.n + 1, .mp none (renM _ (pes ef d.L))), (s.n + 2, .mp none (renM _ (pes en d.L)))] = _
    rw [ef_ren, en_ren]
  rw [e]
  exact V h
/-- .. is packed again. -/
theorem PCKO (id a b : Nat) (d : Dk) (hd : d.nil = false) (h1 : hlook s.σ id = some (.blk 27 [.o a, .o b, gi d.left, .b d.cut])) (h2 : hlook s.σ a = some (.mp none (pes ef d.L))) (h3 : hlook s.σ b = some (.mp none (pes en d.L))) (chk : (distB [id, a, b] && Nat.blt id s.n) = true)
    (h : ∀ fp, nfH ((id, .ab (dk d fp)) :: hrest [id, a, b] s.σ) fun σ => vc ⟨pg, N, n0, H0, S0, w0, h0, g0⟩ T 400 k ⟨s.ρ, σ, s.n⟩) : JK ⟨pg, N, n0, H0, S0, w0, h0, g0⟩ T k s := by
  have e : dheap d = [(0, .blk 27 [.o 1, .o 2, gi d.left, .b d.cut]), (1, .mp none (pes ef d.L)), (2, .mp none (pes en d.L))] := by unfold dheap; rw [hd]
  simp only [Bool.and_eq_true] at chk
  refine JK.pack (r3 id a b) 3 id (dheap d) ?_ ?_ (fun fp => ?_)
  · rw [e]
    refine ⟨h1, ?_, ?_, trivial⟩
    · show hlook s.σ a = some (.mp none (renM _ (pes ef d.L)))
      rw [ef_ren]; exact h2
    · show hlook s.σ b = some (.mp none (renM _ (pes en d.L)))
      rw [en_ren]; exact h3
  · rw [e]
    simp only [Bool.and_eq_true]
    refine ⟨⟨⟨?_, chk.1⟩, by unfold r3; exact Nat.beq_refl id⟩, chk.2⟩
    simp [idbH, idbR, idbL, idb, ef_id, en_id]
  · have := h fp
    rw [nfH_eq] at this ⊢
    have e2 : hids (r3 id a b) (dheap d) = [id, a, b] := by rw [e]; rfl
    rw [e2]
    exact V this
end
/-- A disk that stands in a heap. -/
def DkAt (d : Dk) (σ : Heap) (n : Nat) : Prop :=
  (d.nil = true ∧ hlook σ 0 = some (.blk 27 [.v (.map none), .v (.map none), gi d.left, .b d.cut]) ∧ Nat.ble 1 n = true) ∨
  ∃ a b, d.nil = false ∧ hlook σ 0 = some (.blk 27 [.o a, .o b, gi d.left, .b d.cut]) ∧ hlook σ a = some (.mp none (pes ef d.L)) ∧ hlook σ b = some (.mp none (pes en d.L)) ∧ distB [0, a, b] = true ∧ Nat.ble 1 n = true
theorem DkAt.own {d : Dk} {σ : Heap} {n : Nat} (a b : Nat) (hd : d.nil = false) (h1 : hlook σ 0 = some (.blk 27 [.o a, .o b, gi d.left, .b d.cut])) (h2 : hlook σ a = some (.mp none (pes ef d.L))) (h3 : hlook σ b = some (.mp none (pes en d.L))) (h4 : distB [0, a, b] = true) (h5 : Nat.ble 1 n = true) : DkAt d σ n := .inr ⟨a, b, hd, h1, h2, h3, h4, h5⟩
theorem DkAt.none {d : Dk} {σ : Heap} {n : Nat} (hd : d.nil = true) (h1 : hlook σ 0 = some (.blk 27 [.v (.map none), .v (.map none), gi d.left, .b d.cut])) (h5 : Nat.ble 1 n = true) : DkAt d σ n := .inl ⟨hd, h1, h5⟩
/-- What a change of the disk leaves. -/
def DkQ (g : GV) (d : Dk) : GV → Heap → Nat → Prop := fun g' σ n => g' = g ∧ (∃ fp, σ = [(0, .ab (dk d fp))]) ∧ n = 1
theorem DkQ.of {f : FuncId} {args : List GV} {σ : Heap} {g : GV} {d : Dk} (hg : idb 1 g = true) (h : Hf pg f 1 args σ fun g' σ' n' => eqG g g' ∧ (DkAt d σ' n' ∨ (∃ fp, hlook σ' 0 = some (.ab (dk d fp))) ∧ Nat.ble 1 n' = true)) : Hf pg f 1 args σ (DkQ g d) := by
  refine h.eqG.pack fun g' σ' n' ⟨hgg, hq⟩ => ?_
  subst hgg
  have hn : Nat.ble 1 n' = true := by
    rcases hq with (h | ⟨_, _, h⟩) | h
    · exact h.2.2
    · exact h.2.2.2.2.2
    · exact h.2
  refine ⟨[], by rw [hn, hg]; rfl, ?_⟩
  rcases hq with (⟨hd, h1, _⟩ | ⟨a, b, hd, h1, h2, h3, h4, _⟩) | ⟨⟨fp, h1⟩, _⟩
  · have e : dheap d = [(0, .blk 27 [.v (.map none), .v (.map none), gi d.left, .b d.cut])] := by unfold dheap; rw [hd]
    refine .inl ⟨id, 3, dheap d, ?_, trivial, ?_, fun fp => ⟨rfl, ⟨fp, rfl⟩, rfl⟩⟩
    · rw [e]; exact ⟨h1, trivial⟩
    · rw [e]; rfl
  · have e : dheap d = [(0, .blk 27 [.o 1, .o 2, gi d.left, .b d.cut]), (1, .mp none (pes ef d.L)), (2, .mp none (pes en d.L))] := by unfold dheap; rw [hd]
    refine .inl ⟨r3 0 a b, 3, dheap d, ?_, trivial, ?_, fun fp => ⟨rfl, ⟨fp, rfl⟩, rfl⟩⟩
    · rw [e]
      refine ⟨h1, ?_, ?_, trivial⟩
      · show hlook σ' a = some (.mp none (renM _ (pes ef d.L)))
        rw [ef_ren]; exact h2
      · show hlook σ' b = some (.mp none (renM _ (pes en d.L)))
        rw [en_ren]; exact h3
    · rw [e]
      simp only [Bool.and_eq_true]
      refine ⟨⟨?_, h4⟩, rfl⟩
      simp [idbH, idbR, idbL, idb, ef_id, en_id]
  · exact .inr ⟨_, h1, trivial, rfl, ⟨fp, rfl⟩, rfl⟩

theorem eqb {c d : Bool} (h : d = c) : eqG (.b c) (.b d) := h
theorem eqv {c d : Bool} (h : d = c) : eqG (.b c) (.v (.bool d)) := h
section
variable {N n0 : Nat} {H0 : Hid} {S0 : List Nat} {w0 : World} {h0 : H0.n = n0} {g0 : GlOk pg H0} {T : Post} {k : List It} {s : St}
/-- A call with own things; what comes behind it is not told as conditions yet. -/
theorem GOJ {all : List Oper} {o : Oper} {rest : List Oper} {f : FuncId} {m : Nat} {cargs gs : List GV} {σc : Heap} {Q : GV → Heap → Nat → Prop} (hr : Hf pg f m cargs σc Q) (r : Nat → Nat) (hk : callG pg all s.ρ o = some (f, gs)) (hargs : gs = renL r cargs) (hσ : leσ r σc s.σ)
    (chk : (idbL m cargs && idbH m σc && distB (hids r σc)) = true) (hrn : ∀ i, i < m → r i < s.n)
    (h : ∀ g σ' n', Q g σ' n' → nf (ren (sh r m s.n) g) fun g => nfH (renH (sh r m s.n) σ' ++ hrest (hids r σc) s.σ) fun σ => nfN (s.n + (n' - m)) fun n => dputV N s.ρ o.dst g fun ρ' => JK ⟨pg, N, n0, H0, S0, w0, h0, g0⟩ T (.ops false all rest :: k) ⟨ρ', σ, n⟩) :
    JK ⟨pg, N, n0, H0, S0, w0, h0, g0⟩ T (.ops false all (o :: rest) :: k) s := by
  obtain ⟨fo, args, ts, first, caps, gs', ho, hgd, hf, he, hargs'⟩ := callG_spec hk
  refine JK.call hr.ct hr.call r ho hgd hf he (hargs'.trans hargs) hσ chk hrn (fun g σ' n' hq => ?_)
  have := h g σ' n' hq
  simp only [dputV_eq] at this
  exact this
end
theorem on_hf (d : Dk) (fp : List Nat) : Hf pg 7 1 [.p 0 0] [(0, .ab (dk d fp))] (DkQ (.b (onF d)) d) := by
  refine DkQ.of rfl ⟨Try.call7, Ct.of_JK pg_ok Try.func7 rfl Try.ntmps7 rfl Try.results7 fun H0 S0 w0 h0 g0 => ?_⟩
  rcases tf d.nil with hd | hd
  · refine UNPN 0 d hd rfl ?_
    refine ⟨fun hc => ?_, fun hc => ?_⟩
    · exact ⟨eqb (by simp only [onF, hc, Bool.false_or]), .inl (DkAt.none hd rfl rfl)⟩
    · exact ⟨eqv (by simp only [onF]; rw [show (!d.cut) = true from hc]; rfl), .inl (DkAt.none hd rfl rfl)⟩
  · refine UNPO 0 d hd rfl ?_
    refine ⟨fun hc => ?_, fun hc => ?_⟩
    · exact ⟨eqb (by simp only [onF, hc, Bool.false_or]), .inl (DkAt.own 2 3 hd rfl rfl rfl rfl rfl)⟩
    · exact ⟨eqv (by simp only [onF]; rw [show (!d.cut) = true from hc]; rfl), .inl (DkAt.own 2 3 hd rfl rfl rfl rfl rfl)⟩
theorem does_hf (d : Dk) (fp : List Nat) (B : Nat) (hok : d.ok B) : Hf pg 17 1 [.p 0 0] [(0, .ab (dk d fp))] (if onF d = true then DkQ (erG none) (doesF d) else DkQ (erG (some 14)) d) := by
  have h1 := hok.lo
  have h2 := hok.hi
  rcases tf (onF d) with hon | hon
  · rw [if_pos hon]
    refine DkQ.of rfl ⟨Try.call17, Ct.of_JK pg_ok Try.func17 rfl Try.ntmps17 rfl Try.results17 fun H0 S0 w0 h0 g0 => ?_⟩
    refine V ?_
    refine GOJ (on_hf d fp) id rfl rfl ⟨rfl, trivial⟩ rfl (by simp) ?_
    rintro _ _ _ ⟨rfl, ⟨fp1, rfl⟩, rfl⟩
    have hcut : ∀ hc : d.cut = true, (doesF d).left = d.left - 1 := fun hc => if_pos hc
    have hcut' : ∀ hc : d.cut = false, (doesF d).left = d.left := fun hc => if_neg (by rw [hc]; decide)
    have ew : d.cut = true → IntKind.i64.wrap (d.left - 1) = d.left - 1 := fun hc => wrap_id (by omega) (by omega)
    rcases tf d.nil with hd | hd
    · have hL : (doesF d).L = [] := hok.nl hd
      refine UNPN 0 d hd rfl ?_
      refine p2 ?_ (by rw [hon]; rfl)
      refine ⟨fun hc => ?_, fun hc => ?_⟩
      · refine p1 ?_
        refine ⟨rfl, .inl (DkAt.own 4 5 rfl ?_ ?_ ?_ rfl rfl)⟩
        · rw [hcut hc]; exact congrArg (fun x => some (Res.blk 27 [.o 4, .o 5, gi x, .b d.cut])) (ew hc)
        · rw [hL]; rfl
        · rw [hL]; rfl
      · refine p1 ?_
        refine ⟨rfl, .inl (DkAt.own 4 5 rfl ?_ ?_ ?_ rfl rfl)⟩
        · rw [hcut' hc]; rfl
        · rw [hL]; rfl
        · rw [hL]; rfl
    · refine UNPO 0 d hd rfl ?_
      refine p2 ?_ (by rw [hon]; rfl)
      refine ⟨fun hc => ?_, fun hc => ?_⟩
      · refine p2 ?_
        refine ⟨rfl, .inl (DkAt.own 2 3 rfl ?_ rfl rfl rfl rfl)⟩
        rw [hcut hc]; exact congrArg (fun x => some (Res.blk 27 [.o 2, .o 3, gi x, .b d.cut])) (ew hc)
      · refine p2 ?_
        refine ⟨rfl, .inl (DkAt.own 2 3 rfl ?_ rfl rfl rfl rfl)⟩
        rw [hcut' hc]; rfl
  · rw [if_neg (by rw [hon]; decide)]
    refine DkQ.of rfl ⟨Try.call17, Ct.of_JK pg_ok Try.func17 rfl Try.ntmps17 rfl Try.results17 fun H0 S0 w0 h0 g0 => ?_⟩
    refine V ?_
    refine GOH (on_hf d fp) id rfl rfl ⟨rfl, trivial⟩ rfl (by simp) ?_
    rintro _ _ _ ⟨rfl, ⟨fp1, rfl⟩, rfl⟩
    refine p1 ?_ (by rw [hon]; rfl)
    exact ⟨rfl, .inr ⟨⟨_, rfl⟩, rfl⟩⟩
theorem cut_hf (d : Dk) (fp : List Nat) (n : Int) : Hf pg 5 1 [.p 0 0, gi n] [(0, .ab (dk d fp))] (DkQ (.tup []) (cutF n d)) := by
  refine DkQ.of rfl ⟨Try.call5, Ct.of_JK pg_ok Try.func5 rfl Try.ntmps5 rfl Try.results5 fun H0 S0 w0 h0 g0 => ?_⟩
  rcases tf d.nil with hd | hd
  · refine UNPN 0 d hd rfl ?_
    exact ⟨trivial, .inl (DkAt.none hd rfl rfl)⟩
  · refine UNPO 0 d hd rfl ?_
    exact ⟨trivial, .inl (DkAt.own 2 3 hd rfl rfl rfl rfl rfl)⟩
/-- What is told of a file. -/
def readG : Option Fl → GV
  | some x => .tup [gs x.1, erG none]
  | none => .tup [gs ⟨#[]⟩, erG (some 7)]
theorem find_ef {d : Dk} (f : ByteArray) : mfind (ks f) (pes ef d.L) = (fnd f d).map ef := mfind_pes ef _ d.L
theorem find_en {d : Dk} (f : ByteArray) : mfind (ks f) (pes en d.L) = (fnd f d).map en := mfind_pes en _ d.L
theorem fnd_nil {d : Dk} {B : Nat} (hok : d.ok B) (hd : d.nil = true) (f : ByteArray) : fnd f d = none := by unfold fnd; rw [hok.nl hd]; rfl
theorem lkS {K1 : GV → Prop} {K2 : Prop} {es : List (Value × GV)} {k : Value} {x : GV} (h : mfind k es = some x) (h1 : K1 x) : (∀ g, mfind k es = some g → K1 g) ∧ (mfind k es = none → K2) := ⟨fun g hg => by rw [h] at hg; cases hg; exact h1, fun hg => by rw [h] at hg; cases hg⟩
theorem lkN {K1 : GV → Prop} {K2 : Prop} {es : List (Value × GV)} {k : Value} (h : mfind k es = none) (h2 : K2) : (∀ g, mfind k es = some g → K1 g) ∧ (mfind k es = none → K2) := ⟨fun g hg => (by rw [h] at hg; cases hg), fun _ => h2⟩
theorem ef_some {d : Dk} {f : ByteArray} {x : Fl} (h : fnd f d = some x) : mfind (ks f) (pes ef d.L) = some (ef x) := by rw [find_ef, h]; rfl
theorem ef_none {d : Dk} {f : ByteArray} (h : fnd f d = none) : mfind (ks f) (pes ef d.L) = none := by rw [find_ef, h]; rfl
theorem en_some {d : Dk} {f : ByteArray} {x : Fl} (h : fnd f d = some x) : mfind (ks f) (pes en d.L) = some (en x) := by rw [find_en, h]; rfl
theorem en_none {d : Dk} {f : ByteArray} (h : fnd f d = none) : mfind (ks f) (pes en d.L) = none := by rw [find_en, h]; rfl
theorem read_hf (d : Dk) (fp : List Nat) (B : Nat) (hok : d.ok B) (f : ByteArray) : Hf pg 15 1 [.p 0 0, gs f] [(0, .ab (dk d fp))] (DkQ (readG (fnd f d)) d) := by
  refine DkQ.of (by cases fnd f d <;> rfl) ⟨Try.call15, Ct.of_JK pg_ok Try.func15 rfl Try.ntmps15 rfl Try.results15 fun H0 S0 w0 h0 g0 => ?_⟩
  rcases tf d.nil with hd | hd
  · rw [fnd_nil hok hd]
    refine UNPN 0 d hd rfl ?_
    exact ⟨⟨rfl, rfl, trivial⟩, .inl (DkAt.none hd rfl rfl)⟩
  · refine UNPO 0 d hd rfl ?_
    cases hf : fnd f d with
    | none =>
      refine lkN (ef_none hf) ?_
      exact ⟨⟨rfl, rfl, trivial⟩, .inl (DkAt.own 2 3 hd rfl rfl rfl rfl rfl)⟩
    | some x =>
      refine lkS (ef_some hf) ?_
      exact ⟨⟨rfl, rfl, trivial⟩, .inl (DkAt.own 2 3 hd rfl rfl rfl rfl rfl)⟩
theorem fnd_does (f : ByteArray) (d : Dk) : fnd f (doesF d) = fnd f d := rfl
theorem append_hf (d : Dk) (fp : List Nat) (B : Nat) (hok : d.ok B) (f s : ByteArray) (hs : B + s.size ≤ 4611686018427387904) : Hf pg 8 1 [.p 0 0, gs f, gs s] [(0, .ab (dk d fp))] (DkQ (erG (appendF f s d).1) (appendF f s d).2) := by
  unfold appendF
  rcases tf (badN f) with hb | hb
  · rw [if_pos hb]
    refine DkQ.of rfl ⟨Try.call8, Ct.of_JK pg_ok Try.func8 rfl Try.ntmps8 rfl Try.results8 fun H0 S0 w0 h0 g0 => ?_⟩
    refine V ?_
    refine ⟨fun hc => ?_, fun hc => ?_⟩
    · refine p1 ?_ (by rw [badN, hc] at hb; exact hb)
      exact ⟨rfl, .inr ⟨⟨_, rfl⟩, rfl⟩⟩
    · exact ⟨rfl, .inr ⟨⟨_, rfl⟩, rfl⟩⟩
  · rw [if_neg (by rw [hb]; decide)]
    refine DkQ.of ?_ ⟨Try.call8, Ct.of_JK pg_ok Try.func8 rfl Try.ntmps8 rfl Try.results8 fun H0 S0 w0 h0 g0 => ?_⟩
    · split <;> rfl
    refine V ?_
    unfold badN at hb
    refine ⟨fun hc => ?_, fun hc => absurd hb (by rw [show (f.toList == (⟨#[]⟩ : ByteArray).toList) = true from hc]; simp)⟩
    refine p2 ?_ (by rw [show (f.toList == (⟨#[]⟩ : ByteArray).toList) = false from hc] at hb; exact hb)
    refine GOJ (does_hf d fp B hok) id rfl rfl ⟨rfl, trivial⟩ rfl (by simp) ?_
    rcases tf (onF d) with hon | hon
    · rw [if_pos hon, if_pos hon]
      rintro _ _ _ ⟨rfl, ⟨fp1, rfl⟩, rfl⟩
      refine UNPO 0 (doesF d) rfl rfl ?_
      cases hf : fnd f d with
      | none =>
        refine p2 ?_
        refine lkN (ef_none (d := doesF d) hf) ?_
        refine lkN (ef_none (d := doesF d) hf) ?_
        refine ⟨by show 0 + s.size ≤ _; omega, ?_⟩
        refine ⟨rfl, .inl (DkAt.own 2 3 rfl rfl ?_ ?_ rfl rfl)⟩
        · refine congrArg (fun l => some (Res.mp none l)) ?_
          rw [show (ByteArray.empty ++ s : ByteArray) = s by simp]
          exact mput_pes ef (ks f) (s, -1) d.L
        · exact congrArg (fun l => some (Res.mp none l)) (mput_pes en (ks f) (s, -1) d.L)
      | some x =>
        refine p2 ?_
        refine lkS (ef_some (d := doesF d) hf) ?_
        refine lkS (ef_some (d := doesF d) hf) ?_
        have := fnd_sz hok hf
        refine ⟨by show x.1.size + s.size ≤ _; omega, ?_⟩
        refine ⟨rfl, .inl (DkAt.own 2 3 rfl rfl ?_ ?_ rfl rfl)⟩
        · exact congrArg (fun l => some (Res.mp none l)) (mput_pes ef (ks f) (x.1 ++ s, x.2) d.L)
        · exact congrArg (fun l => some (Res.mp none l)) (pes_same en (x := x) (y := (x.1 ++ s, x.2)) hok.keys rfl hf rfl).symm
    · rw [if_neg (by rw [hon]; decide), if_neg (by rw [hon]; decide)]
      rintro _ _ _ ⟨rfl, ⟨fp1, rfl⟩, rfl⟩
      refine V ?_
      refine p1 ?_
      exact ⟨rfl, .inr ⟨⟨_, rfl⟩, rfl⟩⟩
end Go.Proofs.Ytdongnbkfgipdaa
