/-
  Contracts: package sort: how the elements of an own row change places, and are put in order where they stand (whatever the elements).
-/
import Derived.Test.YtaahmenpcpjbhaaGreatDoorK08
import Derived.Test.YtaahmenpcpjbhaaGreatDoorK10
import Derived.Shelf.GgSortMore.Stable
import Derived.Test.YtaahmenpcpjbhaaGreatDoorProg
import Derived.Test.YtaahmenpcpjbhaaGreatDoorK07
namespace Go.Proofs.YtaahmenpcpjbhaaGreatDoor
open Go.GK Go.PL Go.RowKit
set_option maxRecDepth 100000
section
variable {α : Type}
/-- The row, and the variable that holds it. -/
abbrev sgm (enc : α → List GV) (k : Nat) (ty tb : TypeId) (l : List α) : Heap := [(0, .row ty k (l.map enc)), (1, .blk tb [.o 0])]
/-- What is left: the row holds what R says. -/
def SR (enc : α → List GV) (k : Nat) (ty tb : TypeId) (R : List α → Prop) : GV → Heap → Nat → Prop := fun G σ n => G = .tup [] ∧ (∃ l', R l' ∧ σ = sgm enc k ty tb l') ∧ n = 2
/-- What is known of the two functions: less and swap. -/
structure SE (enc : α → List GV) (k : Nat) (ty tb : TypeId) (g sw : FuncId) (lt : α → α → Bool) : Prop where
  less : ∀ (l : List α) (i j : Nat) (x y : α), l.length < 1099511627776 → l[i]? = some x → l[j]? = some y → Hf pg g 2 [gi i, gi j, .p 1 0] (sgm enc k ty tb l) (fun G σ n => G = .b (lt x y) ∧ σ = sgm enc k ty tb l ∧ n = 2)
  swx : ∃ gS : Bool, ∀ args W, (callFunc sw args).run pg.P W = ((Extern.ReflectliteSwapper.swap gS args).run pg.P W).andThen fun v w' => .ok (.value v) w'
  ie : ∃ ie : TypeInfo, pg.P.info? ty = some ie ∧ ie.size = k ∧ ∀ w, (isAgg ty).run pg.P w = .ok true w
/-- The two functions, as they are handed on. -/
noncomputable abbrev dat (ty : TypeId) (g sw : FuncId) : List GV := [.fn (.func g) [] [.p 1 0], .fn (.func sw) [] [.o 0, .v (typeHandle pg.P ty)]]
variable {enc : α → List GV} {k : Nat} {ty tb : TypeId} {g sw : FuncId} {lt : α → α → Bool}
theorem fin_hf {f : FuncId} {args : List GV} {σ0 : Heap} {R : List α → Prop} (h : Hf pg f 2 args σ0 fun G σ _ => G = .tup [] ∧ ∃ l', R l' ∧ hlook σ 0 = some (.row ty k (l'.map enc)) ∧ hlook σ 1 = some (.blk tb [.o 0])) : Hf pg f 2 args σ0 (SR enc k ty tb R) :=
  Hf.weak h fun G σ n ⟨hG, l', hR, h0, h1⟩ => ⟨id, .tup [], sgm enc k ty tb l', 2, ⟨rfl, ⟨l', hR, rfl⟩, rfl⟩, by rw [hG]; rfl, ⟨h0, h1, trivial⟩, rfl⟩
section
variable {N n0 : Nat} {H0 : Hid} {S0 : List Nat} {w0 : World} {h0 : H0.n = n0} {g0 : GlOk pg H0} {T : Post} {kk : List It} {s : St}
/-- less(i, j). -/
theorem LES (E : SE enc k ty tb g sw lt) {all : List Oper} {o : Oper} {rest : List Oper} {l : List α} (i j : Nat) {a b : Int} {x y : α} (hk : callG pg all s.ρ o = some (g, [gi a, gi b, .p 1 0])) (ha : a = i) (hb : b = j) (hlen : l.length < 1099511627776) (hi : l[i]? = some x) (hj : l[j]? = some y)
    (hs0 : hlook s.σ 0 = some (.row ty k (l.map enc))) (hs1 : hlook s.σ 1 = some (.blk tb [.o 0])) (hn : Nat.ble 2 s.n = true)
    (h : nfH (sgm enc k ty tb l ++ hrest [0, 1] s.σ) fun σ => dputV N s.ρ o.dst (.b (lt x y)) fun ρ' => vc ⟨pg, N, n0, H0, S0, w0, h0, g0⟩ T 400 (.ops false all rest :: kk) ⟨ρ', σ, s.n⟩) :
    JK ⟨pg, N, n0, H0, S0, w0, h0, g0⟩ T (.ops false all (o :: rest) :: kk) s := by
  subst ha
  subst hb
  refine GOH (E.less l i j x y hlen hi hj) id hk (renL_id _).symm ⟨hs0, hs1, trivial⟩ rfl (id_lt hn) ?_
  rintro _ _ _ ⟨rfl, rfl, rfl⟩
  rw [nf_eq, nfH_eq, nfN_eq, ← dputV_eq]
  rw [nfH_eq] at h
  exact h
/-- swap(i, j). -/
theorem SWP (E : SE enc k ty tb g sw lt) {all : List Oper} {o : Oper} {rest : List Oper} {l : List α} (i j : Nat) {a b : Int} {x y : α} (l' : List α) (hk : callG pg all s.ρ o = some (sw, [gi a, gi b, .o 0, .v (typeHandle pg.P ty)])) (ha : a = i) (hb : b = j) (hi : l[i]? = some x) (hj : l[j]? = some y) (hL : (l.set i y).set j x = l')
    (hs0 : hlook s.σ 0 = some (.row ty k (l.map enc)))
    (h : dputV N s.ρ o.dst (.tup []) fun ρ' => nfH (hset s.σ 0 (.row ty k (l'.map enc))) fun σ => vc ⟨pg, N, n0, H0, S0, w0, h0, g0⟩ T 400 (.ops false all rest :: kk) ⟨ρ', σ, s.n⟩) :
    JK ⟨pg, N, n0, H0, S0, w0, h0, g0⟩ T (.ops false all (o :: rest) :: kk) s := by
  subst ha
  subst hb
  obtain ⟨gS, hx⟩ := E.swx
  obtain ⟨ie, hie, hsz, hagg⟩ := E.ie
  refine JK.swapX (r1 := enc x) (r2 := enc y) hx hie hagg hsz hk hs0 (by rw [List.getElem?_map, hi]; rfl) (by rw [List.getElem?_map, hj]; rfl) ?_
  rw [← List.map_set, ← List.map_set, hL]
  have conv : ∀ ρ', (nfH (hset s.σ 0 (.row ty k (l'.map enc))) fun σ => vc ⟨pg, N, n0, H0, S0, w0, h0, g0⟩ T 400 (.ops false all rest :: kk) ⟨ρ', σ, s.n⟩) → nfH (hset s.σ 0 (.row ty k (l'.map enc))) fun σ => JK ⟨pg, N, n0, H0, S0, w0, h0, g0⟩ T (.ops false all rest :: kk) ⟨ρ', σ, s.n⟩ := fun ρ' h => by
    rw [nfH_eq] at h ⊢
    exact V h
  revert h
  cases o.dst with
  | none => exact fun h => conv _ h
  | some d =>
    simp only [dputV]
    cases Nat.blt d N with
    | false => exact fun h => h
    | true => exact fun h => conv _ h
/-- A call that is given the two functions. -/
theorem CAL {all : List Oper} {o : Oper} {rest : List Oper} {f : FuncId} {gis gis' : List GV} {l : List α} {R : List α → Prop} (hr : Hf pg f 2 (.agg (dat ty g sw) :: gis) (sgm enc k ty tb l) (SR enc k ty tb R)) (hk : callG pg all s.ρ o = some (f, .agg (dat ty g sw) :: gis')) (hg : gis' = gis) (hb : idbL 2 gis = true)
    (hs0 : hlook s.σ 0 = some (.row ty k (l.map enc))) (hs1 : hlook s.σ 1 = some (.blk tb [.o 0])) (hn : Nat.ble 2 s.n = true)
    (h : ∀ l', R l' → nfH (sgm enc k ty tb l' ++ hrest [0, 1] s.σ) fun σ => dputV N s.ρ o.dst (.tup []) fun ρ' => vc ⟨pg, N, n0, H0, S0, w0, h0, g0⟩ T 400 (.ops false all rest :: kk) ⟨ρ', σ, s.n⟩) :
    JK ⟨pg, N, n0, H0, S0, w0, h0, g0⟩ T (.ops false all (o :: rest) :: kk) s := by
  subst hg
  refine GOH hr id hk (renL_id _).symm ⟨hs0, hs1, trivial⟩ (by simp only [idbL, hb, Bool.and_true, Bool.and_eq_true]; exact ⟨⟨rfl, rfl⟩, rfl⟩) (id_lt hn) ?_
  rintro _ _ _ ⟨rfl, ⟨l', hR, rfl⟩, rfl⟩
  have := h l' hR
  rw [nf_eq, nfH_eq, nfN_eq, ← dputV_eq]
  rw [nfH_eq] at this
  exact this
end
theorem nn (a b : Nat) (h : a + b < 4611686018427387904) : IntKind.i64.wrap ((a : Int) + (b : Int)) = ((a + b : Nat) : Int) := by rw [wrap_id (by omega) (by omega)]; omega
theorem nm (a b : Nat) (h : b ≤ a) (h' : a < 4611686018427387904) : IntKind.i64.wrap ((a : Int) - (b : Int)) = ((a - b : Nat) : Int) := by rw [wrap_id (by omega) (by omega)]; omega
/-- Two pieces of one length change places. -/
theorem swr_hf (E : SE enc k ty tb g sw lt) (A X M Y B : List α) (hXY : X.length = Y.length) (hlen : (A ++ X ++ M ++ Y ++ B).length < 1099511627776) :
    Hf pg 114 2 [.agg (dat ty g sw), gi A.length, gi ((A.length + X.length + M.length : Nat) : Int), gi X.length] (sgm enc k ty tb (A ++ X ++ M ++ Y ++ B)) (SR enc k ty tb (· = A ++ Y ++ M ++ X ++ B)) := by
  simp only [List.length_append] at hlen
  refine fin_hf (Hf.of pg_ok Tryz.func114 rfl Tryz.ntmps114 rfl Tryz.results114 Tryz.call114 fun H0 S0 w0 h0 g0 => ?_)
  refine JK.loop (α := List α × List α × List α × List α) (fun z => ⟨[(1, gi A.length), (2, gi ((A.length + X.length + M.length : Nat) : Int)), (3, gi X.length), (4, .p 2 0), (8, gi z.1.length)], (2, .blk 122 (dat ty g sw)) :: sgm enc k ty tb (A ++ (z.2.2.1 ++ (z.2.1 ++ (M ++ (z.1 ++ (z.2.2.2 ++ B)))))), 3⟩)
    (fun z => z.1 ++ z.2.1 = X ∧ z.2.2.1 ++ z.2.2.2 = Y ∧ z.1.length = z.2.2.1.length) (fun z => z.2.1.length) ([], X, [], Y) id ?_ ⟨rfl, rfl, rfl⟩ ?_
  · refine ⟨⟨rfl, rfl, rfl, rfl, rfl, trivial⟩, ⟨rfl, ?_, rfl, trivial⟩, rfl⟩
    simp only [List.append_assoc, List.nil_append]
    rfl
  · rintro ⟨X1, X2, Y1, Y2⟩ ⟨h1, h2, h3⟩
    simp only at h1 h2 h3
    subst h1
    subst h2
    simp only [List.length_append] at hXY hlen
    refine V ?_
    cases X2 with
    | nil =>
      have hY2 : Y2 = [] := List.length_eq_zero_iff.1 (by simp at hXY; omega)
      subst hY2
      refine p2 ?_ (decide_eq_false (by simp))
      refine V ?_
      exact ⟨rfl, _, rfl, congrArg (fun l : List α => some (Res.row ty k (l.map enc))) (by simp), rfl⟩
    | cons x X2 =>
      cases Y2 with
      | nil => simp at hXY; omega
      | cons y Y2 =>
        simp only [List.length_cons] at hXY hlen
        refine p1 ?_ (decide_eq_true (by simp; omega))
        have e1 : A ++ (Y1 ++ ((x :: X2) ++ (M ++ (X1 ++ ((y :: Y2) ++ B))))) = (A ++ Y1) ++ x :: ((X2 ++ (M ++ X1)) ++ y :: (Y2 ++ B)) := by simp
        refine SWP E (l := A ++ (Y1 ++ ((x :: X2) ++ (M ++ (X1 ++ ((y :: Y2) ++ B)))))) (A.length + Y1.length) (A.length + (X1.length + (X2.length + 1)) + M.length + X1.length) (x := x) (y := y) (A ++ ((Y1 ++ [y]) ++ (X2 ++ (M ++ ((X1 ++ [x]) ++ (Y2 ++ B)))))) rfl ?_ ?_ ?_ ?_ ?_ ?_ ?_
        · dsimp only; rw [wrap_id (by omega) (by omega)]; omega
        · simp only [List.length_append, List.length_cons]; rw [wrap_id (by omega) (by omega)]; omega
        · rw [e1]; exact stab_at _ _ _ (by simp)
        · rw [e1]; exact stab_at2 _ _ _ _ _ (by simp; omega)
        · rw [e1, swap_at _ _ _ _ _ (by simp) (by simp; omega)]; simp
        · rfl
        · refine ⟨(X1 ++ [x], X2, Y1 ++ [y], Y2), id, ⟨⟨rfl, rfl, rfl, rfl, ?_, trivial⟩, ⟨rfl, rfl, rfl, trivial⟩, rfl⟩, ⟨by simp, by simp, by simp; omega⟩, by simp⟩
          simp only [List.length_append, List.length_cons, List.length_nil]
          exact succ_gi (by omega)
theorem gi3 {a b c a' b' c' : Int} (h1 : a = a') (h2 : b = b') (h3 : c = c') : [gi a, gi b, gi c] = [gi a', gi b', gi c'] := by subst h1; subst h2; subst h3; rfl
theorem gi2 {a b a' b' : Int} (h1 : a = a') (h2 : b = b') : [gi a, gi b] = [gi a', gi b'] := by subst h1; subst h2; rfl
theorem row0 {l l' : List α} (h : l = l') : some (Res.row ty k (l.map enc)) = some (Res.row ty k (l'.map enc)) := by rw [h]
/-- Two neighbouring pieces change places. -/
theorem rot_hf (E : SE enc k ty tb g sw lt) (A X Y B : List α) (hX : X ≠ []) (hY : Y ≠ []) (hlen : (A ++ X ++ Y ++ B).length < 1099511627776) :
    Hf pg 105 2 [.agg (dat ty g sw), gi A.length, gi ((A.length + X.length : Nat) : Int), gi ((A.length + X.length + Y.length : Nat) : Int)] (sgm enc k ty tb (A ++ X ++ Y ++ B)) (SR enc k ty tb (· = A ++ Y ++ X ++ B)) := by
  simp only [List.length_append] at hlen
  refine fin_hf (Hf.of pg_ok Tryz.func105 rfl Tryz.ntmps105 rfl Tryz.results105 Tryz.call105 fun H0 S0 w0 h0 g0 => ?_)
  refine JK.loop (α := List α × List α × List α × List α) (fun z => ⟨[(2, gi ((A.length + X.length : Nat) : Int)), (4, .p 2 0), (8, gi z.2.1.length), (9, gi z.2.2.1.length)], (2, .blk 122 (dat ty g sw)) :: sgm enc k ty tb (z.1 ++ z.2.1 ++ z.2.2.1 ++ z.2.2.2), 3⟩)
    (fun z => z.1.length + z.2.1.length = A.length + X.length ∧ z.2.1 ≠ [] ∧ z.2.2.1 ≠ [] ∧ z.1 ++ z.2.2.1 ++ z.2.1 ++ z.2.2.2 = A ++ Y ++ X ++ B) (fun z => z.2.1.length + z.2.2.1.length) (A, X, Y, B) id ?_ ⟨rfl, hX, hY, rfl⟩ ?_
  · refine ⟨⟨rfl, rfl, ?_, ?_, trivial⟩, ⟨rfl, rfl, rfl, trivial⟩, rfl⟩
    · exact congrArg (fun i => some (gi i)) (by (try dsimp only); rw [wrap_id (by omega) (by omega)]; omega)
    · exact congrArg (fun i => some (gi i)) (by (try dsimp only); rw [wrap_id (by omega) (by omega)]; omega)
  · rintro ⟨P, U, W, S⟩ ⟨h1, h2, h3, h4⟩
    simp only at h1 h2 h3 h4
    have hl := congrArg List.length h4
    simp only [List.length_append] at hl
    have hU : 0 < U.length := List.length_pos_iff.2 h2
    have hW : 0 < W.length := List.length_pos_iff.2 h3
    refine V ?_
    by_cases hne : U.length = W.length
    · refine p2 ?_ (by simp [hne])
      refine V ?_
      have hs := swr_hf E P U [] W S hne (by simp; omega)
      refine CAL (l := P ++ U ++ [] ++ W ++ S) hs rfl ?_ rfl ?_ rfl rfl ?_
      · refine gi3 (by (try dsimp only); rw [wrap_id (by omega) (by omega)]; omega) (by simp only [List.length_nil]; omega) rfl
      · exact row0 (by simp)
      · rintro l' rfl
        refine ⟨rfl, _, rfl, row0 ?_, rfl⟩
        rw [← h4, List.append_nil]
    · refine p1 ?_ (bne_iff_ne.2 (by dsimp only; omega))
      by_cases hgt : W.length < U.length
      · refine p1 ?_ (decide_eq_true (by dsimp only; omega))
        have hUe : U = U.take W.length ++ U.drop W.length := (List.take_append_drop _ _).symm
        have hl1 : (U.take W.length).length = W.length := by simp; omega
        have hl2 : (U.drop W.length).length = U.length - W.length := by simp
        have hs := swr_hf E P (U.take W.length) (U.drop W.length) W S hl1 (by simp; omega)
        refine CAL (l := P ++ U.take W.length ++ U.drop W.length ++ W ++ S) hs rfl ?_ rfl ?_ rfl rfl ?_
        · refine gi3 (by (try dsimp only); rw [wrap_id (by omega) (by omega)]; omega) (by omega) (by rw [hl1])
        · exact row0 (by simp)
        · rintro l' rfl
          refine ⟨(P ++ W, U.drop W.length, U.take W.length, S), id, ⟨⟨rfl, rfl, ?_, ?_, trivial⟩, ⟨rfl, row0 ?_, rfl, trivial⟩, rfl⟩, ⟨?_, ?_, ?_, ?_⟩, ?_⟩
          · exact congrArg (fun i => some (gi i)) (by (try dsimp only); rw [wrap_id (by omega) (by omega)]; omega)
          · exact congrArg (fun i => some (gi i)) (by dsimp only; omega)
          · simp
          · simp; omega
          · intro e; rw [List.drop_eq_nil_iff] at e; omega
          · intro e; have e' : (U.take W.length).length = 0 := congrArg List.length e; omega
          · rw [← h4]; conv => rhs; rw [hUe]
            simp
          · show (U.drop W.length).length + (U.take W.length).length < U.length + W.length; omega
      · refine p2 ?_ (decide_eq_false (by dsimp only; omega))
        have hWe : W = W.take (W.length - U.length) ++ W.drop (W.length - U.length) := (List.take_append_drop _ _).symm
        have hl1 : (W.take (W.length - U.length)).length = W.length - U.length := by simp
        have hl2 : (W.drop (W.length - U.length)).length = U.length := by simp; omega
        have hs := swr_hf E P U (W.take (W.length - U.length)) (W.drop (W.length - U.length)) S hl2.symm (by simp; omega)
        refine CAL (l := P ++ U ++ W.take (W.length - U.length) ++ W.drop (W.length - U.length) ++ S) hs rfl ?_ rfl ?_ rfl rfl ?_
        · refine gi3 (by (try dsimp only); rw [wrap_id (by omega) (by omega)]; omega) (by dsimp only; rw [show IntKind.i64.wrap (((A.length + X.length : Nat) : Int) + (W.length : Int)) = ((A.length + X.length + W.length : Nat) : Int) from by rw [wrap_id (by omega) (by omega)]; omega, wrap_id (by omega) (by omega)]; omega) rfl
        · exact row0 (by simp)
        · rintro l' rfl
          refine ⟨(P, W.drop (W.length - U.length), W.take (W.length - U.length), U ++ S), id, ⟨⟨rfl, rfl, ?_, ?_, trivial⟩, ⟨rfl, row0 ?_, rfl, trivial⟩, rfl⟩, ⟨?_, ?_, ?_, ?_⟩, ?_⟩
          · exact congrArg (fun i => some (gi i)) (by dsimp only; omega)
          · exact congrArg (fun i => some (gi i)) (by (try dsimp only); rw [wrap_id (by omega) (by omega)]; omega)
          · simp
          · dsimp only; omega
          · intro e; have e' : (W.drop (W.length - U.length)).length = 0 := congrArg List.length e; omega
          · intro e; have e' : (W.take (W.length - U.length)).length = 0 := congrArg List.length e; omega
          · rw [← h4]; conv => rhs; rw [hWe]
            simp
          · show (W.drop (W.length - U.length)).length + (W.take (W.length - U.length)).length < U.length + W.length; omega
end
end Go.Proofs.YtaahmenpcpjbhaaGreatDoor
/-
  Contracts: package sort: insertion.
-/
namespace Go.Proofs.YtaahmenpcpjbhaaGreatDoor
open Go.GK Go.PL Go.RowKit
set_option maxRecDepth 100000
section
variable {α : Type}
variable {enc : α → List GV} {k : Nat} {ty tb : TypeId} {g sw : FuncId} {lt : α → α → Bool}
/-- A piece is put in order. -/
def Put (lt : α → α → Bool) (A X B : List α) (l' : List α) : Prop := ∃ Z, l' = A ++ Z ++ B ∧ Z.Perm X ∧ Srt lt Z
theorem ins_hf (E : SE enc k ty tb g sw lt) (hO : WO lt) (A X B : List α) (hlen : (A ++ X ++ B).length < 1099511627776) :
    Hf pg 90 2 [.agg (dat ty g sw), gi A.length, gi ((A.length + X.length : Nat) : Int)] (sgm enc k ty tb (A ++ X ++ B)) (SR enc k ty tb (Put lt A X B)) := by
  simp only [List.length_append] at hlen
  refine fin_hf (Hf.of pg_ok Tryz.func90 rfl Tryz.ntmps90 rfl Tryz.results90 Tryz.call90 fun H0 S0 w0 h0 g0 => ?_)
  cases X with
  | nil =>
    refine JK.loop (α := Unit) (fun _ => ⟨[(2, gi ((A.length + ([] : List α).length : Nat) : Int)), (6, gi ((A.length + 1 : Nat) : Int))], sgm enc k ty tb (A ++ [] ++ B), 2⟩) (fun _ => True) (fun _ => 0) () id ?_ trivial ?_
    · exact ⟨⟨rfl, succ_gi (by omega), trivial⟩, ⟨rfl, rfl, trivial⟩, rfl⟩
    · rintro _ _
      refine V ?_
      refine p2 ?_ (decide_eq_false (by simp; omega))
      refine V ?_
      exact ⟨rfl, _, ⟨[], rfl, .nil, .nil⟩, rfl, rfl⟩
  | cons x0 X =>
    simp only [List.length_cons] at hlen
    refine JK.loop (α := List α × List α) (fun z => ⟨[(1, gi A.length), (2, gi ((A.length + (x0 :: X).length : Nat) : Int)), (3, .p 2 0), (6, gi ((A.length + z.1.length : Nat) : Int))], (2, .blk 122 (dat ty g sw)) :: sgm enc k ty tb (A ++ (z.1 ++ (z.2 ++ B))), 3⟩)
      (fun z => Srt lt z.1 ∧ (z.1 ++ z.2).Perm (x0 :: X)) (fun z => z.2.length) ([x0], X) id ?_ ⟨List.pairwise_singleton _ _, .refl _⟩ ?_
    · exact ⟨⟨rfl, rfl, rfl, succ_gi (by omega), trivial⟩, ⟨rfl, row0 (by simp), rfl, trivial⟩, rfl⟩
    · rintro ⟨Z, R⟩ ⟨hs, hp⟩
      simp only at hs hp
      have hl := hp.length_eq
      simp only [List.length_append, List.length_cons] at hl
      refine V ?_
      cases R with
      | nil =>
        simp only [List.length_nil] at hl
        refine p2 ?_ (decide_eq_false (by simp only [List.length_cons]; omega))
        refine V ?_
        exact ⟨rfl, _, ⟨Z, rfl, by simpa using hp, hs⟩, row0 (by simp), rfl⟩
      | cons y R =>
        simp only [List.length_cons] at hl
        refine p1 ?_ (decide_eq_true (by simp only [List.length_cons]; omega))
        refine JK.loopE (α := List α × List α) (β := List α × List α) (fun z => ⟨[(1, gi A.length), (2, gi ((A.length + (x0 :: X).length : Nat) : Int)), (3, .p 2 0), (6, gi ((A.length + Z.length : Nat) : Int)), (7, gi ((A.length + z.1.length : Nat) : Int))], (2, .blk 122 (dat ty g sw)) :: sgm enc k ty tb (A ++ (z.1 ++ (y :: (z.2 ++ (R ++ B))))), 3⟩)
          (fun z => z.1 ++ z.2 = Z ∧ ∀ u ∈ z.2, lt y u = true) (fun z => z.1.length)
          (fun z => ⟨[(1, gi A.length), (2, gi ((A.length + (x0 :: X).length : Nat) : Int)), (3, .p 2 0), (6, gi ((A.length + Z.length : Nat) : Int))], (2, .blk 122 (dat ty g sw)) :: sgm enc k ty tb (A ++ (z.1 ++ (y :: (z.2 ++ (R ++ B))))), 3⟩)
          (fun z => z.1 ++ z.2 = Z ∧ (∀ u ∈ z.2, lt y u = true) ∧ ∀ u ∈ z.1.getLast?, lt y u = false) (Z, []) id ?_ ⟨by simp, by simp⟩ ?_ ?_
        · exact ⟨⟨rfl, rfl, rfl, rfl, rfl, trivial⟩, ⟨rfl, row0 (by simp), rfl, trivial⟩, rfl⟩
        · rintro ⟨P, Q⟩ ⟨hPQ, hq⟩
          simp only at hPQ hq
          have hl2 := congrArg List.length hPQ
          simp only [List.length_append] at hl2
          refine V ?_
          rcases List.eq_nil_or_concat P with rfl | ⟨P', z, rfl⟩
          · refine p2 ?_ (decide_eq_false (by simp))
            exact ⟨([], Q), id, ⟨⟨rfl, rfl, rfl, rfl, trivial⟩, ⟨rfl, rfl, rfl, trivial⟩, rfl⟩, hPQ, hq, by simp⟩
          · simp only [List.concat_eq_append, List.length_append, List.length_cons, List.length_nil] at hl2 hPQ
            refine p1 ?_ (decide_eq_true (by simp; omega))
            have e1 : A ++ (List.concat P' z ++ (y :: (Q ++ (R ++ B)))) = (A ++ P') ++ z :: (([] : List α) ++ y :: (Q ++ (R ++ B))) := by simp
            refine LES E (l := (A ++ P') ++ z :: (([] : List α) ++ y :: (Q ++ (R ++ B)))) (A.length + P'.length + 1) (A.length + P'.length) (x := y) (y := z) rfl ?_ ?_ ?_ ?_ ?_ ?_ rfl rfl ?_
            · simp only [List.concat_eq_append, List.length_append, List.length_cons, List.length_nil]; omega
            · simp only [List.concat_eq_append, List.length_append, List.length_cons, List.length_nil]; rw [wrap_id (by omega) (by omega)]; omega
            · simp; omega
            · exact stab_at2 _ _ _ _ _ (by simp)
            · exact stab_at _ _ _ (by simp)
            · exact row0 e1
            · refine ⟨fun hz => ?_, fun hz => ?_⟩
              · refine SWP E (l := (A ++ P') ++ z :: (([] : List α) ++ y :: (Q ++ (R ++ B)))) (A.length + P'.length + 1) (A.length + P'.length) (x := y) (y := z) ((A ++ P') ++ y :: (([] : List α) ++ z :: (Q ++ (R ++ B)))) rfl ?_ ?_ ?_ ?_ ?_ rfl ?_
                · simp only [List.concat_eq_append, List.length_append, List.length_cons, List.length_nil]; omega
                · simp only [List.concat_eq_append, List.length_append, List.length_cons, List.length_nil]; rw [wrap_id (by omega) (by omega)]; omega
                · exact stab_at2 _ _ _ _ _ (by simp)
                · exact stab_at _ _ _ (by simp)
                · exact swap_at' _ _ _ _ _ (by simp) (by simp)
                · refine ⟨(P', z :: Q), id, ⟨⟨rfl, rfl, rfl, rfl, ?_, trivial⟩, ⟨rfl, row0 (by simp), rfl, trivial⟩, rfl⟩, ⟨by simp [← hPQ], ?_⟩, by simp⟩
                  · simp only [List.concat_eq_append, List.length_append, List.length_cons, List.length_nil]
                    exact congrArg (fun i => some (gi i)) (by rw [wrap_id (by omega) (by omega)]; omega)
                  · intro u hu
                    rcases List.mem_cons.1 hu with rfl | hu
                    · exact hz
                    · exact hq u hu
              · refine ⟨(P' ++ [z], Q), id, ⟨⟨rfl, rfl, rfl, rfl, trivial⟩, ⟨rfl, row0 (by simp), rfl, trivial⟩, rfl⟩, hPQ, hq, ?_⟩
                intro u hu
                simp at hu
                subst hu
                exact hz
        · rintro ⟨P, Q⟩ ⟨hPQ, hq, hlast⟩
          simp only at hPQ hq hlast
          have hl2 := congrArg List.length hPQ
          simp only [List.length_append] at hl2
          refine V ?_
          refine ⟨(P ++ y :: Q, R), id, ⟨⟨rfl, rfl, rfl, ?_, trivial⟩, ⟨rfl, row0 (by simp), rfl, trivial⟩, rfl⟩, ⟨?_, ?_⟩, by simp⟩
          · simp only [List.length_append, List.length_cons]
            exact congrArg (fun i => some (gi i)) (by rw [wrap_id (by omega) (by omega)]; omega)
          · refine Srt.ins hO (by rw [hPQ]; exact hs) hlast fun u hu => ?_
            have := hq u (List.mem_of_head? hu)
            exact hO.asym _ _ this
          · refine List.Perm.trans ?_ hp
            show ((P ++ y :: Q) ++ R).Perm (Z ++ y :: R)
            rw [← hPQ]
            simp only [List.append_assoc, List.cons_append]
            refine List.Perm.append_left P ?_
            exact (List.perm_middle (l₁ := Q) (a := y) (l₂ := R)).symm
end
end Go.Proofs.YtaahmenpcpjbhaaGreatDoor
/-
  Contracts: package sort: two sorted neighbours are put together in their place.
-/
namespace Go.Proofs.YtaahmenpcpjbhaaGreatDoor
open Go.GK Go.PL Go.RowKit
set_option maxRecDepth 100000
theorem mid_eq {s : Int} (n : Nat) (h : s = (n : Int)) (hn : n < 4611686018427387904) : IntKind.i64.wrap ((IntKind.u64.wrap (IntKind.i64.wrap s)).fdiv (2 ^ (min (1 : Int).toNat IntKind.u64.bits))) = ((n / 2 : Nat) : Int) := by
  subst h
  have e0 : IntKind.i64.wrap (n : Int) = (n : Int) := wrap_id (by omega) (by omega)
  rw [e0]
  have e1 : IntKind.u64.wrap (n : Int) = (n : Int) := by rw [IntKind.wrap_u64]; omega
  rw [e1]
  have e2 : (n : Int).fdiv (2 ^ (min (1 : Int).toNat IntKind.u64.bits)) = ((n / 2 : Nat) : Int) := by
    show (n : Int).fdiv 2 = _
    rw [Int.fdiv_eq_ediv_of_nonneg _ (by omega)]
    omega
  rw [e2, wrap_id (by omega) (by omega)]
section
variable {α : Type}
variable {enc : α → List GV} {k : Nat} {ty tb : TypeId} {g sw : FuncId} {lt : α → α → Bool}
theorem last_take {l : List α} {r : Nat} (h : r < l.length) {P : α → Prop} (hp : P l[r]) : ∀ u ∈ (l.take (r + 1)).getLast?, P u := by
  intro u hu
  rw [List.take_succ_eq_append_getElem h, List.getLast?_append] at hu
  simp at hu
  subst hu
  exact hp
theorem head_drop {l : List α} {r : Nat} (h : r < l.length) {P : α → Prop} (hp : P l[r]) : ∀ u ∈ (l.drop r).head?, P u := by
  intro u hu
  rw [List.drop_eq_getElem_cons h] at hu
  cases hu
  exact hp
/-- One ahead of a sorted piece. -/
theorem sym1_hf (E : SE enc k ty tb g sw lt) (hO : WO lt) (A : List α) (x : α) (Y B : List α) (hY : Srt lt Y) (hlen : (A ++ [x] ++ Y ++ B).length < 1099511627776) :
    Hf pg 91 2 [.agg (dat ty g sw), gi A.length, gi ((A.length + [x].length : Nat) : Int), gi ((A.length + [x].length + Y.length : Nat) : Int)] (sgm enc k ty tb (A ++ [x] ++ Y ++ B)) (SR enc k ty tb (Put lt A ([x] ++ Y) B)) := by
  simp only [List.length_append, List.length_cons, List.length_nil, Nat.zero_add] at hlen ⊢
  refine fin_hf (Hf.of pg_ok Tryz.func91 rfl Tryz.ntmps91 rfl Tryz.results91 Tryz.call91 fun H0 S0 w0 h0 g0 => ?_)
  refine p1 ?_ (by rw [beq_iff_eq, wrap_id (by omega) (by omega)]; omega)
  refine JK.loopE (α := Nat × Nat) (β := Nat) (fun z => ⟨[(1, gi A.length), (4, .p 2 0), (8, gi ((A.length + 1 + z.1 : Nat) : Int)), (9, gi ((A.length + 1 + z.2 : Nat) : Int))], (2, .blk 122 (dat ty g sw)) :: sgm enc k ty tb (A ++ x :: (([] : List α) ++ (Y ++ B))), 3⟩)
    (fun z => z.1 ≤ z.2 ∧ z.2 ≤ Y.length ∧ (∀ u ∈ (Y.take z.1).getLast?, lt u x = true) ∧ ∀ u ∈ (Y.drop z.2).head?, lt u x = false) (fun z => z.2 - z.1)
    (fun p => ⟨[(1, gi A.length), (4, .p 2 0), (8, gi ((A.length + 1 + p : Nat) : Int))], (2, .blk 122 (dat ty g sw)) :: sgm enc k ty tb (A ++ x :: (([] : List α) ++ (Y ++ B))), 3⟩)
    (fun p => p ≤ Y.length ∧ (∀ u ∈ (Y.take p).getLast?, lt u x = true) ∧ ∀ u ∈ (Y.drop p).head?, lt u x = false) (0, Y.length) id ?_ ⟨Nat.zero_le _, Nat.le_refl _, by simp, by simp⟩ ?_ ?_
  · exact ⟨⟨rfl, rfl, rfl, rfl, trivial⟩, ⟨rfl, row0 (by simp), rfl, trivial⟩, rfl⟩
  · rintro ⟨p, q⟩ ⟨hpq, hq, hp1, hq1⟩
    simp only at hpq hq hp1 hq1
    refine V ?_
    by_cases hlt : p < q
    · refine p1 ?_ (decide_eq_true (by dsimp only; omega))
      have hmid := mid_eq (s := ((A.length + 1 + p : Nat) : Int) + ((A.length + 1 + q : Nat) : Int)) (A.length + 1 + p + (A.length + 1 + q)) (by omega) (by omega)
      have hr : (A.length + 1 + p + (A.length + 1 + q)) / 2 = A.length + 1 + (p + q) / 2 := by omega
      rw [hr] at hmid
      have hrY : (p + q) / 2 < Y.length := by omega
      refine ⟨by omega, ?_⟩
      refine LES E (l := A ++ x :: (([] : List α) ++ (Y ++ B))) (A.length + 1 + (p + q) / 2) A.length (x := Y[(p + q) / 2]) (y := x) rfl ?_ rfl ?_ ?_ ?_ rfl rfl rfl ?_
      · exact hmid
      · simp; omega
      · rw [show A ++ x :: (([] : List α) ++ (Y ++ B)) = (A ++ [x]) ++ (Y ++ B) by simp, List.getElem?_append_right (by simp <;> omega), List.getElem?_append_left (by simp <;> omega), List.getElem?_eq_getElem (by simp <;> omega)]
        simp
      · exact stab_at _ _ _ rfl
      · refine ⟨fun hz => ?_, fun hz => ?_⟩
        · refine ⟨((p + q) / 2 + 1, q), id, ⟨⟨rfl, rfl, ?_, rfl, trivial⟩, ⟨rfl, rfl, rfl, trivial⟩, rfl⟩, ⟨by dsimp only; omega, hq, last_take hrY hz, hq1⟩, by dsimp only; omega⟩
          exact congrArg (fun i => some (gi i)) (by dsimp only; rw [hmid, wrap_id (by omega) (by omega)]; omega)
        · refine ⟨(p, (p + q) / 2), id, ⟨⟨rfl, rfl, rfl, ?_, trivial⟩, ⟨rfl, rfl, rfl, trivial⟩, rfl⟩, ⟨by dsimp only; omega, by dsimp only; omega, hp1, head_drop hrY hz⟩, by dsimp only; omega⟩
          exact congrArg (fun i => some (gi i)) hmid
    · refine p2 ?_ (decide_eq_false (by dsimp only; omega))
      obtain rfl : p = q := by omega
      exact ⟨p, id, ⟨⟨rfl, rfl, rfl, trivial⟩, ⟨rfl, rfl, rfl, trivial⟩, rfl⟩, hq, hp1, hq1⟩
  · rintro p ⟨hp, hp1, hp2⟩
    refine V ?_
    refine JK.loop (α := List α × List α) (fun z => ⟨[(4, .p 2 0), (8, gi ((A.length + 1 + p : Nat) : Int)), (11, gi ((A.length + z.1.length : Nat) : Int))], (2, .blk 122 (dat ty g sw)) :: sgm enc k ty tb (A ++ (z.1 ++ (x :: (z.2 ++ B)))), 3⟩)
      (fun z => z.1 ++ z.2 = Y ∧ z.1.length ≤ p) (fun z => z.2.length) ([], Y) id ?_ ⟨rfl, Nat.zero_le _⟩ ?_
    · exact ⟨⟨rfl, rfl, rfl, trivial⟩, ⟨rfl, rfl, rfl, trivial⟩, rfl⟩
    · rintro ⟨U, W⟩ ⟨hUW, hU⟩
      simp only at hUW hU
      have hl := congrArg List.length hUW
      simp only [List.length_append] at hl
      refine V ?_
      by_cases hlt : U.length < p
      · refine p1 ?_ (decide_eq_true (by dsimp only; rw [wrap_id (by omega) (by omega)]; omega))
        cases W with
        | nil => simp at hl; omega
        | cons w W =>
          simp only [List.length_cons] at hl
          refine SWP E (l := A ++ (U ++ (x :: ((w :: W) ++ B)))) (A.length + U.length) (A.length + U.length + 1) (x := x) (y := w) (A ++ ((U ++ [w]) ++ (x :: (W ++ B)))) rfl rfl ?_ ?_ ?_ ?_ rfl ?_
          · dsimp only; rw [wrap_id (by omega) (by omega)]; omega
          · rw [← List.append_assoc]; exact stab_at _ _ _ (by simp)
          · rw [← List.append_assoc]; exact stab_at2 _ [] _ _ _ (by simp)
          · rw [← List.append_assoc]
            have := swap_at (A ++ U) [] (W ++ B) x w (i := A.length + U.length) (j := A.length + U.length + 1) (by simp) (by simp)
            simp only [List.nil_append] at this
            rw [show (w :: W) ++ B = w :: (W ++ B) from rfl, this]
            simp
          · refine ⟨(U ++ [w], W), id, ⟨⟨rfl, rfl, ?_, trivial⟩, ⟨rfl, rfl, rfl, trivial⟩, rfl⟩, ⟨by simp [← hUW], by simp; omega⟩, by simp⟩
            exact congrArg (fun i => some (gi i)) (by simp only [List.length_append, List.length_cons, List.length_nil]; rw [wrap_id (by omega) (by omega)]; omega)
      · refine p2 ?_ (decide_eq_false (by dsimp only; rw [wrap_id (by omega) (by omega)]; omega))
        refine V ?_
        have hUe : U = Y.take p := by rw [← hUW, List.take_left' (by omega)]
        have hWe : W = Y.drop p := by rw [← hUW, List.drop_left' (by omega)]
        refine ⟨rfl, _, ⟨U ++ x :: W, rfl, ?_, ?_⟩, row0 (by simp), rfl⟩
        · exact (ins_perm U W x).trans (by rw [hUW]; exact .refl _)
        · refine Srt.ins hO (by rw [hUW]; exact hY) (fun u hu => hO.asym _ _ (hp1 u (by rw [← hUe]; exact hu))) (fun u hu => hp2 u (by rw [← hWe]; exact hu))
/-- One behind a sorted piece. -/
theorem sym2_hf (E : SE enc k ty tb g sw lt) (hO : WO lt) (A X : List α) (y : α) (B : List α) (hX : Srt lt X) (hX1 : X.length ≠ 1) (hlen : (A ++ X ++ [y] ++ B).length < 1099511627776) :
    Hf pg 91 2 [.agg (dat ty g sw), gi A.length, gi ((A.length + X.length : Nat) : Int), gi ((A.length + X.length + [y].length : Nat) : Int)] (sgm enc k ty tb (A ++ X ++ [y] ++ B)) (SR enc k ty tb (Put lt A (X ++ [y]) B)) := by
  simp only [List.length_append, List.length_cons, List.length_nil, Nat.zero_add] at hlen ⊢
  refine fin_hf (Hf.of pg_ok Tryz.func91 rfl Tryz.ntmps91 rfl Tryz.results91 Tryz.call91 fun H0 S0 w0 h0 g0 => ?_)
  refine p2 ?_ (by rw [beq_eq_false_iff_ne, wrap_id (by omega) (by omega)]; omega)
  refine p1 ?_ (by rw [beq_iff_eq, wrap_id (by omega) (by omega)]; omega)
  refine JK.loopE (α := Nat × Nat) (β := Nat) (fun z => ⟨[(1, gi A.length), (2, gi ((A.length + X.length : Nat) : Int)), (4, .p 2 0), (12, gi ((A.length + z.1 : Nat) : Int)), (13, gi ((A.length + z.2 : Nat) : Int))], (2, .blk 122 (dat ty g sw)) :: sgm enc k ty tb (A ++ (X ++ (y :: B))), 3⟩)
    (fun z => z.1 ≤ z.2 ∧ z.2 ≤ X.length ∧ (∀ u ∈ (X.take z.1).getLast?, lt y u = false) ∧ ∀ u ∈ (X.drop z.2).head?, lt y u = true) (fun z => z.2 - z.1)
    (fun p => ⟨[(2, gi ((A.length + X.length : Nat) : Int)), (4, .p 2 0), (12, gi ((A.length + p : Nat) : Int))], (2, .blk 122 (dat ty g sw)) :: sgm enc k ty tb (A ++ (X ++ (y :: B))), 3⟩)
    (fun p => p ≤ X.length ∧ (∀ u ∈ (X.take p).getLast?, lt y u = false) ∧ ∀ u ∈ (X.drop p).head?, lt y u = true) (0, X.length) id ?_ ⟨Nat.zero_le _, Nat.le_refl _, by simp, by simp⟩ ?_ ?_
  · exact ⟨⟨rfl, rfl, rfl, rfl, rfl, trivial⟩, ⟨rfl, row0 (by simp), rfl, trivial⟩, rfl⟩
  · rintro ⟨p, q⟩ ⟨hpq, hq, hp1, hq1⟩
    simp only at hpq hq hp1 hq1
    refine V ?_
    by_cases hlt : p < q
    · refine p1 ?_ (decide_eq_true (by dsimp only; omega))
      have hmid := mid_eq (s := ((A.length + p : Nat) : Int) + ((A.length + q : Nat) : Int)) (A.length + p + (A.length + q)) (by omega) (by omega)
      have hr : (A.length + p + (A.length + q)) / 2 = A.length + (p + q) / 2 := by omega
      rw [hr] at hmid
      have hrX : (p + q) / 2 < X.length := by omega
      refine ⟨by omega, ?_⟩
      refine LES E (l := A ++ (X ++ (y :: B))) (A.length + X.length) (A.length + (p + q) / 2) (x := y) (y := X[(p + q) / 2]) rfl rfl ?_ ?_ ?_ ?_ rfl rfl rfl ?_
      · exact hmid
      · simp; omega
      · rw [← List.append_assoc]; exact stab_at _ _ _ (by simp)
      · rw [List.getElem?_append_right (by omega), List.getElem?_append_left (by omega), List.getElem?_eq_getElem (by omega)]
        simp
      · refine ⟨fun hz => ?_, fun hz => ?_⟩
        · have hz' : lt y X[(p + q) / 2] = false := by simpa using hz
          refine ⟨((p + q) / 2 + 1, q), id, ⟨⟨rfl, rfl, rfl, ?_, rfl, trivial⟩, ⟨rfl, rfl, rfl, trivial⟩, rfl⟩, ⟨by dsimp only; omega, hq, last_take hrX hz', hq1⟩, by dsimp only; omega⟩
          exact congrArg (fun i => some (gi i)) (by dsimp only; rw [hmid, wrap_id (by omega) (by omega)]; omega)
        · have hz' : lt y X[(p + q) / 2] = true := by simpa using hz
          refine ⟨(p, (p + q) / 2), id, ⟨⟨rfl, rfl, rfl, rfl, ?_, trivial⟩, ⟨rfl, rfl, rfl, trivial⟩, rfl⟩, ⟨by dsimp only; omega, by dsimp only; omega, hp1, head_drop hrX hz'⟩, by dsimp only; omega⟩
          exact congrArg (fun i => some (gi i)) hmid
    · refine p2 ?_ (decide_eq_false (by dsimp only; omega))
      obtain rfl : p = q := by omega
      exact ⟨p, id, ⟨⟨rfl, rfl, rfl, trivial⟩, ⟨rfl, rfl, rfl, trivial⟩, rfl⟩, hq, hp1, hq1⟩
  · rintro p ⟨hp, hp1, hp2⟩
    refine V ?_
    refine JK.loop (α := List α × List α) (fun z => ⟨[(4, .p 2 0), (12, gi ((A.length + p : Nat) : Int)), (15, gi ((A.length + z.1.length : Nat) : Int))], (2, .blk 122 (dat ty g sw)) :: sgm enc k ty tb (A ++ (z.1 ++ (y :: (z.2 ++ B)))), 3⟩)
      (fun z => z.1 ++ z.2 = X ∧ p ≤ z.1.length) (fun z => z.1.length) (X, []) id ?_ ⟨by simp, hp⟩ ?_
    · exact ⟨⟨rfl, rfl, rfl, trivial⟩, ⟨rfl, rfl, rfl, trivial⟩, rfl⟩
    · rintro ⟨U, W⟩ ⟨hUW, hU⟩
      simp only at hUW hU
      have hl := congrArg List.length hUW
      simp only [List.length_append] at hl
      refine V ?_
      by_cases hlt : p < U.length
      · refine p1 ?_ (decide_eq_true (by dsimp only; omega))
        rcases List.eq_nil_or_concat U with rfl | ⟨U', z, rfl⟩
        · simp at hlt
        · simp only [List.concat_eq_append, List.length_append, List.length_cons, List.length_nil] at hl hlt hUW
          have e1 : A ++ (List.concat U' z ++ (y :: (W ++ B))) = (A ++ U') ++ z :: (([] : List α) ++ y :: (W ++ B)) := by simp
          refine SWP E (l := (A ++ U') ++ z :: (([] : List α) ++ y :: (W ++ B))) (A.length + U'.length + 1) (A.length + U'.length) (x := y) (y := z) ((A ++ U') ++ y :: (([] : List α) ++ z :: (W ++ B))) rfl ?_ ?_ ?_ ?_ ?_ (row0 e1) ?_
          · simp only [List.concat_eq_append, List.length_append, List.length_cons, List.length_nil]; omega
          · simp only [List.concat_eq_append, List.length_append, List.length_cons, List.length_nil]; rw [wrap_id (by omega) (by omega)]; omega
          · exact stab_at2 _ _ _ _ _ (by simp)
          · exact stab_at _ _ _ (by simp)
          · exact swap_at' _ _ _ _ _ (by simp) (by simp)
          · refine ⟨(U', z :: W), id, ⟨⟨rfl, rfl, ?_, trivial⟩, ⟨rfl, row0 (by simp), rfl, trivial⟩, rfl⟩, ⟨by simp [← hUW], by dsimp only; omega⟩, by simp⟩
            simp only [List.concat_eq_append, List.length_append, List.length_cons, List.length_nil]
            exact congrArg (fun i => some (gi i)) (by rw [wrap_id (by omega) (by omega)]; omega)
      · refine p2 ?_ (decide_eq_false (by dsimp only; omega))
        refine V ?_
        have hUe : U = X.take p := by rw [← hUW, List.take_left' (by omega)]
        have hWe : W = X.drop p := by rw [← hUW, List.drop_left' (by omega)]
        refine ⟨rfl, _, ⟨U ++ y :: W, rfl, ?_, ?_⟩, row0 (by simp), rfl⟩
        · refine (ins_perm U W y).trans ?_
          rw [hUW]
          exact (List.perm_append_singleton y X).symm
        · refine Srt.ins hO (by rw [hUW]; exact hX) (fun u hu => hp1 u (by rw [← hUe]; exact hu)) (fun u hu => hO.asym _ _ (hp2 u (by rw [← hWe]; exact hu)))
end
end Go.Proofs.YtaahmenpcpjbhaaGreatDoor
/-
  Contracts: package sort: two sorted neighbours are put together in their place: whatever they are.
-/
namespace Go.Proofs.YtaahmenpcpjbhaaGreatDoor
open Go.GK Go.PL Go.RowKit
set_option maxRecDepth 100000
section
variable {α : Type}
variable {enc : α → List GV} {k : Nat} {ty tb : TypeId} {g sw : FuncId} {lt : α → α → Bool}
theorem sym_hf (E : SE enc k ty tb g sw lt) (hO : WO lt) : ∀ (n : Nat) (A X Y B : List α), X.length + Y.length ≤ n → X ≠ [] → Y ≠ [] → Srt lt X → Srt lt Y → (A ++ X ++ Y ++ B).length < 1099511627776 →
    Hf pg 91 2 [.agg (dat ty g sw), gi A.length, gi ((A.length + X.length : Nat) : Int), gi ((A.length + X.length + Y.length : Nat) : Int)] (sgm enc k ty tb (A ++ X ++ Y ++ B)) (SR enc k ty tb (Put lt A (X ++ Y) B)) := by
  intro n
  induction n with
  | zero => exact fun A X Y B h hX _ _ _ _ => absurd (List.length_eq_zero_iff.1 (by omega)) hX
  | succ n ih =>
    intro A X Y B hn hX hY hsX hsY hlen
    by_cases hX1 : X.length = 1
    · obtain ⟨x, rfl⟩ := List.length_eq_one_iff.1 hX1
      exact sym1_hf E hO A x Y B hsY hlen
    by_cases hY1 : Y.length = 1
    · obtain ⟨y, rfl⟩ := List.length_eq_one_iff.1 hY1
      exact sym2_hf E hO A X y B hsX hX1 hlen
    have hX0 : 0 < X.length := List.length_pos_iff.2 hX
    have hY0 : 0 < Y.length := List.length_pos_iff.2 hY
    simp only [List.length_append] at hlen
    obtain ⟨h, hh⟩ : ∃ h, h = (X.length + Y.length) / 2 := ⟨_, rfl⟩
    have hmid := mid_eq (s := (A.length : Int) + ((A.length + X.length + Y.length : Nat) : Int)) (A.length + (A.length + X.length + Y.length)) (by omega) (by omega)
    rw [show (A.length + (A.length + X.length + Y.length)) / 2 = A.length + h by omega] at hmid
    refine fin_hf (Hf.ofJ pg_ok Tryz.func91 rfl Tryz.ntmps91 rfl Tryz.results91 Tryz.call91 fun H0 S0 w0 h0 g0 => ?_)
    refine VM 53 ?_
    refine p2 ?_ (by rw [beq_eq_false_iff_ne, wrap_id (by omega) (by omega)]; omega)
    refine p2 ?_ (by rw [beq_eq_false_iff_ne, wrap_id (by omega) (by omega)]; omega)
    refine ⟨by omega, ?_⟩
    have hnx : IntKind.i64.wrap (((A.length + h : Nat) : Int) + ((A.length + X.length : Nat) : Int)) = ((A.length + h + (A.length + X.length) : Nat) : Int) := nn _ _ (by omega)
    refine JK.cut (α := Unit) (fun _ => ⟨[(1, gi A.length), (2, gi ((A.length + X.length : Nat) : Int)), (3, gi ((A.length + X.length + Y.length : Nat) : Int)), (4, .p 2 0), (16, gi ((A.length + h : Nat) : Int)), (17, gi ((A.length + h + (A.length + X.length) : Nat) : Int)), (18, gi ((A.length + (h - Y.length) : Nat) : Int)), (19, gi ((A.length + min h X.length : Nat) : Int))], (2, .blk 122 (dat ty g sw)) :: sgm enc k ty tb (A ++ X ++ Y ++ B), 3⟩) (fun _ => True) ?_ ?_
    · refine V ?_
      by_cases hgt : h < X.length
      · refine p1 ?_ (decide_eq_true (by rw [hmid]; omega))
        refine ⟨(), id, ⟨⟨rfl, rfl, rfl, rfl, ?_, ?_, ?_, ?_, trivial⟩, ⟨rfl, rfl, rfl, trivial⟩, rfl⟩, trivial⟩
        · exact congrArg (fun i => some (gi i)) hmid
        · exact congrArg (fun i => some (gi i)) (by rw [hmid, hnx])
        · exact congrArg (fun i => some (gi i)) (by rw [hmid, hnx, wrap_id (by omega) (by omega)]; omega)
        · exact congrArg (fun i => some (gi i)) (by rw [hmid, Nat.min_eq_left (by omega)])
      · refine p2 ?_ (decide_eq_false (by rw [hmid]; omega))
        refine ⟨(), id, ⟨⟨rfl, rfl, rfl, rfl, ?_, ?_, ?_, ?_, trivial⟩, ⟨rfl, rfl, rfl, trivial⟩, rfl⟩, trivial⟩
        · exact congrArg (fun i => some (gi i)) hmid
        · exact congrArg (fun i => some (gi i)) (by rw [hmid, hnx])
        · exact congrArg (fun i => some (gi i)) (by omega)
        · exact congrArg (fun i => some (gi i)) (by rw [Nat.min_eq_right (by omega)])
    rintro _ _
    refine V ?_
    refine JK.loopE (α := Nat × Nat) (β := Nat) (fun z => ⟨[(1, gi A.length), (2, gi ((A.length + X.length : Nat) : Int)), (3, gi ((A.length + X.length + Y.length : Nat) : Int)), (4, .p 2 0), (16, gi ((A.length + h : Nat) : Int)), (17, gi ((A.length + h + (A.length + X.length) : Nat) : Int)), (18, gi ((A.length + z.1 : Nat) : Int)), (19, gi ((A.length + z.2 : Nat) : Int)), (20, gi ((A.length + h + (A.length + X.length) - 1 : Nat) : Int))], (2, .blk 122 (dat ty g sw)) :: sgm enc k ty tb (A ++ X ++ Y ++ B), 3⟩)
      (fun z => h - Y.length ≤ z.1 ∧ z.1 ≤ z.2 ∧ z.2 ≤ min h X.length ∧ (z.1 = h - Y.length ∨ ∃ u v, Y[h - z.1]? = some u ∧ X[z.1 - 1]? = some v ∧ lt u v = false) ∧ (z.2 = min h X.length ∨ ∃ u v, Y[h - z.2 - 1]? = some u ∧ X[z.2]? = some v ∧ lt u v = true)) (fun z => z.2 - z.1)
      (fun s => ⟨[(1, gi A.length), (2, gi ((A.length + X.length : Nat) : Int)), (3, gi ((A.length + X.length + Y.length : Nat) : Int)), (4, .p 2 0), (16, gi ((A.length + h : Nat) : Int)), (17, gi ((A.length + h + (A.length + X.length) : Nat) : Int)), (18, gi ((A.length + s : Nat) : Int))], (2, .blk 122 (dat ty g sw)) :: sgm enc k ty tb (A ++ X ++ Y ++ B), 3⟩)
      (fun s => h - Y.length ≤ s ∧ s ≤ min h X.length ∧ (s = h - Y.length ∨ ∃ u v, Y[h - s]? = some u ∧ X[s - 1]? = some v ∧ lt u v = false) ∧ (s = min h X.length ∨ ∃ u v, Y[h - s - 1]? = some u ∧ X[s]? = some v ∧ lt u v = true)) (h - Y.length, min h X.length) id ?_ ⟨Nat.le_refl _, by dsimp only; omega, Nat.le_refl _, .inl rfl, .inl rfl⟩ ?_ ?_
    · refine ⟨⟨rfl, rfl, rfl, rfl, rfl, rfl, rfl, rfl, ?_, trivial⟩, ⟨rfl, rfl, rfl, trivial⟩, rfl⟩
      exact congrArg (fun i => some (gi i)) (by rw [wrap_id (by omega) (by omega)]; omega)
    · rintro ⟨p, q⟩ ⟨hp0, hpq, hq0, c1, c2⟩
      simp only at hp0 hpq hq0 c1 c2
      refine V ?_
      by_cases hlt : p < q
      · refine p1 ?_ (decide_eq_true (by dsimp only; omega))
        have hm2 := mid_eq (s := ((A.length + p : Nat) : Int) + ((A.length + q : Nat) : Int)) (A.length + p + (A.length + q)) (by omega) (by omega)
        rw [show (A.length + p + (A.length + q)) / 2 = A.length + (p + q) / 2 by omega] at hm2
        have hcX : (p + q) / 2 < X.length := by omega
        have hcY : h - (p + q) / 2 - 1 < Y.length := by omega
        refine ⟨by omega, ?_⟩
        refine LES E (l := A ++ X ++ Y ++ B) (A.length + X.length + (h - (p + q) / 2 - 1)) (A.length + (p + q) / 2) (x := Y[h - (p + q) / 2 - 1]) (y := X[(p + q) / 2]) rfl ?_ ?_ ?_ ?_ ?_ rfl rfl rfl ?_
        · dsimp only; rw [hm2, wrap_id (by omega) (by omega)]; omega
        · exact hm2
        · simp; omega
        · rw [List.getElem?_append_left (by simp; omega), List.getElem?_append_right (by simp), List.getElem?_eq_getElem (by simp; omega)]
          simp
        · rw [List.append_assoc, List.append_assoc, List.getElem?_append_right (by omega), List.getElem?_append_left (by omega), List.getElem?_eq_getElem (by omega)]
          simp
        · refine ⟨fun hz => ?_, fun hz => ?_⟩
          · have hz' : lt Y[h - (p + q) / 2 - 1] X[(p + q) / 2] = false := by simpa using hz
            refine ⟨((p + q) / 2 + 1, q), id, ⟨⟨rfl, rfl, rfl, rfl, rfl, rfl, ?_, rfl, rfl, trivial⟩, ⟨rfl, rfl, rfl, trivial⟩, rfl⟩, ⟨by dsimp only; omega, by dsimp only; omega, hq0, .inr ⟨Y[h - (p + q) / 2 - 1], X[(p + q) / 2], ?_, ?_, hz'⟩, c2⟩, by dsimp only; omega⟩
            · exact congrArg (fun i => some (gi i)) (by dsimp only; rw [hm2, wrap_id (by omega) (by omega)]; omega)
            · dsimp only; rw [show h - ((p + q) / 2 + 1) = h - (p + q) / 2 - 1 by omega]; exact List.getElem?_eq_getElem hcY
            · dsimp only; rw [Nat.add_sub_cancel]; exact List.getElem?_eq_getElem hcX
          · have hz' : lt Y[h - (p + q) / 2 - 1] X[(p + q) / 2] = true := by simpa using hz
            refine ⟨(p, (p + q) / 2), id, ⟨⟨rfl, rfl, rfl, rfl, rfl, rfl, rfl, ?_, rfl, trivial⟩, ⟨rfl, rfl, rfl, trivial⟩, rfl⟩, ⟨hp0, by dsimp only; omega, by dsimp only; omega, c1, .inr ⟨Y[h - (p + q) / 2 - 1], X[(p + q) / 2], List.getElem?_eq_getElem hcY, List.getElem?_eq_getElem hcX, hz'⟩⟩, by dsimp only; omega⟩
            exact congrArg (fun i => some (gi i)) hm2
      · refine p2 ?_ (decide_eq_false (by dsimp only; omega))
        obtain rfl : p = q := by omega
        exact ⟨p, id, ⟨⟨rfl, rfl, rfl, rfl, rfl, rfl, rfl, trivial⟩, ⟨rfl, rfl, rfl, trivial⟩, rfl⟩, hp0, hq0, c1, c2⟩
    · rintro s ⟨hs0, hs1, c1, c2⟩
      have hs : s ≤ X.length ∧ s ≤ h := by omega
      obtain ⟨X1, hX1e⟩ : ∃ X1, X1 = X.take s := ⟨_, rfl⟩
      obtain ⟨X2, hX2e⟩ : ∃ X2, X2 = X.drop s := ⟨_, rfl⟩
      obtain ⟨Y1, hY1e⟩ : ∃ Y1, Y1 = Y.take (h - s) := ⟨_, rfl⟩
      obtain ⟨Y2, hY2e⟩ : ∃ Y2, Y2 = Y.drop (h - s) := ⟨_, rfl⟩
      have hXe : X = X1 ++ X2 := by rw [hX1e, hX2e, List.take_append_drop]
      have hYe : Y = Y1 ++ Y2 := by rw [hY1e, hY2e, List.take_append_drop]
      have lX1 : X1.length = s := by rw [hX1e, List.length_take]; omega
      have lX2 : X2.length = X.length - s := by rw [hX2e, List.length_drop]
      have lY1 : Y1.length = h - s := by rw [hY1e, List.length_take]; omega
      have lY2 : Y2.length = Y.length - (h - s) := by rw [hY2e, List.length_drop]
      have k1 : ∀ x ∈ X1.getLast?, ∀ y ∈ Y2.head?, lt y x = false := by
        intro x hx y hy
        rw [hX1e, List.getLast?_take] at hx
        rw [hY2e, List.head?_drop] at hy
        rcases c1 with c | ⟨u, v, hu, hv, hz⟩
        · by_cases h0 : s = 0
          · rw [if_pos h0] at hx; cases hx
          · rw [List.getElem?_eq_none (by omega)] at hy; cases hy
        · by_cases h0 : s = 0
          · rw [if_pos h0] at hx; cases hx
          · rw [if_neg h0, hv] at hx
            rw [hu] at hy
            cases hx
            cases hy
            exact hz
      have k2 : ∀ y ∈ Y1.getLast?, ∀ x ∈ X2.head?, lt x y = false := by
        intro y hy x hx
        rw [hY1e, List.getLast?_take] at hy
        rw [hX2e, List.head?_drop] at hx
        by_cases h0 : h - s = 0
        · rw [if_pos h0] at hy; cases hy
        · rcases c2 with c | ⟨u, v, hu, hv, hz⟩
          · rw [List.getElem?_eq_none (by omega)] at hx; cases hx
          · rw [if_neg h0, hu] at hy
            rw [hv] at hx
            cases hx
            cases hy
            exact hO.asym _ _ hz
      have sX := Srt.app.1 (hXe ▸ hsX)
      have sY := Srt.app.1 (hYe ▸ hsY)
      clear hX1e hX2e hY1e hY2e c1 c2
      have hend : IntKind.i64.wrap (((A.length + h + (A.length + X.length) : Nat) : Int) - ((A.length + s : Nat) : Int)) = ((A.length + h + X.length - s : Nat) : Int) := by rw [wrap_id (by omega) (by omega)]; omega
      refine VM 8 ?_
      refine JK.cut (α := Unit) (fun _ => ⟨[(1, gi A.length), (3, gi ((A.length + X.length + Y.length : Nat) : Int)), (4, .p 2 0), (16, gi ((A.length + h : Nat) : Int)), (18, gi ((A.length + s : Nat) : Int)), (22, gi ((A.length + h + X.length - s : Nat) : Int))], (2, .blk 122 (dat ty g sw)) :: sgm enc k ty tb (A ++ X1 ++ Y1 ++ (X2 ++ (Y2 ++ B))), 3⟩) (fun _ => True) ?_ ?_
      · refine V ?_
        have triv : (X2 = [] ∨ Y1 = []) → A ++ X1 ++ Y1 ++ (X2 ++ (Y2 ++ B)) = A ++ X ++ Y ++ B := by
          rw [hXe, hYe]
          rintro (rfl | rfl) <;> simp
        by_cases q1 : s < X.length
        · refine p1 ?_ (decide_eq_true (by omega))
          by_cases q2 : s < h
          · refine p1 ?_ (decide_eq_true (by rw [hend]; omega))
            have hr := rot_hf E (A ++ X1) X2 Y1 (Y2 ++ B) (List.length_pos_iff.1 (by omega)) (List.length_pos_iff.1 (by omega)) (by simp only [List.length_append]; omega)
            refine CAL (l := A ++ X1 ++ X2 ++ Y1 ++ (Y2 ++ B)) hr rfl ?_ rfl ?_ rfl rfl ?_
            · refine gi3 (by rw [List.length_append, lX1]) (by simp only [List.length_append]; omega) (by rw [hend]; simp only [List.length_append]; omega)
            · exact row0 (by rw [hXe, hYe]; simp)
            · rintro l' rfl
              exact ⟨(), id, ⟨⟨rfl, rfl, rfl, rfl, rfl, congrArg (fun i => some (gi i)) hend, trivial⟩, ⟨rfl, row0 (by simp), rfl, trivial⟩, rfl⟩, trivial⟩
          · refine p2 ?_ (decide_eq_false (by rw [hend]; omega))
            exact ⟨(), id, ⟨⟨rfl, rfl, rfl, rfl, rfl, congrArg (fun i => some (gi i)) hend, trivial⟩, ⟨rfl, row0 (triv (.inr (List.length_eq_zero_iff.1 (by omega)))).symm, rfl, trivial⟩, rfl⟩, trivial⟩
        · refine p2 ?_ (decide_eq_false (by omega))
          exact ⟨(), id, ⟨⟨rfl, rfl, rfl, rfl, rfl, congrArg (fun i => some (gi i)) hend, trivial⟩, ⟨rfl, row0 (triv (.inl (List.length_eq_zero_iff.1 (by omega)))).symm, rfl, trivial⟩, rfl⟩, trivial⟩
      rintro _ _
      refine VM 1 ?_
      refine JK.cut (α := List α) (fun Z1 => ⟨[(3, gi ((A.length + X.length + Y.length : Nat) : Int)), (4, .p 2 0), (16, gi ((A.length + h : Nat) : Int)), (22, gi ((A.length + h + X.length - s : Nat) : Int))], (2, .blk 122 (dat ty g sw)) :: sgm enc k ty tb (A ++ Z1 ++ (X2 ++ (Y2 ++ B))), 3⟩) (fun Z1 => Z1.Perm (X1 ++ Y1) ∧ Srt lt Z1) ?_ ?_
      · refine V ?_
        have triv : (X1 = [] ∨ Y1 = []) → Srt lt (X1 ++ Y1) := by
          rintro (e | e)
          · rw [e]; exact sY.1
          · rw [e, List.append_nil]; exact sX.1
        by_cases q1 : 0 < s
        · refine p1 ?_ (decide_eq_true (by omega))
          by_cases q2 : s < h
          · refine p1 ?_ (decide_eq_true (by omega))
            have hr := ih A X1 Y1 (X2 ++ (Y2 ++ B)) (by omega) (List.length_pos_iff.1 (by omega)) (List.length_pos_iff.1 (by omega)) sX.1 sY.1 (by simp only [List.length_append]; omega)
            refine CAL (l := A ++ X1 ++ Y1 ++ (X2 ++ (Y2 ++ B))) hr rfl ?_ rfl rfl rfl rfl ?_
            · exact gi3 rfl (by rw [lX1]) (by rw [lX1, lY1]; omega)
            · rintro l' ⟨Z1, rfl, hp, hz⟩
              exact ⟨Z1, id, ⟨⟨rfl, rfl, rfl, rfl, trivial⟩, ⟨rfl, rfl, rfl, trivial⟩, rfl⟩, hp, hz⟩
          · refine p2 ?_ (decide_eq_false (by omega))
            exact ⟨X1 ++ Y1, id, ⟨⟨rfl, rfl, rfl, rfl, trivial⟩, ⟨rfl, row0 (by simp), rfl, trivial⟩, rfl⟩, .refl _, triv (.inr (List.length_eq_zero_iff.1 (by omega)))⟩
        · refine p2 ?_ (decide_eq_false (by omega))
          exact ⟨X1 ++ Y1, id, ⟨⟨rfl, rfl, rfl, rfl, trivial⟩, ⟨rfl, row0 (by simp), rfl, trivial⟩, rfl⟩, .refl _, triv (.inl (List.length_eq_zero_iff.1 (by omega)))⟩
      rintro Z1 ⟨hp1, hz1⟩
      have lZ1 := hp1.length_eq
      rw [List.length_append] at lZ1
      refine V ?_
      have fin : ∀ Z2 : List α, Z2.Perm (X2 ++ Y2) → Srt lt Z2 → Put lt A (X ++ Y) B (A ++ Z1 ++ (Z2 ++ B)) := fun Z2 hp2 hz2 => by
        refine ⟨Z1 ++ Z2, by simp, ?_, Srt.cross hO (hXe ▸ hsX) (hYe ▸ hsY) k1 k2 hp1 hp2 hz1 hz2⟩
        rw [hXe, hYe]
        exact cross_perm hp1 hp2
      have triv : (X2 = [] ∨ Y2 = []) → Srt lt (X2 ++ Y2) := by
        rintro (e | e)
        · rw [e]; exact sY.2.1
        · rw [e, List.append_nil]; exact sX.2.1
      by_cases q1 : s < X.length
      · refine p1 ?_ (decide_eq_true (by omega))
        by_cases q2 : 0 < Y2.length
        · refine p1 ?_ (decide_eq_true (by omega))
          have hr := ih (A ++ Z1) X2 Y2 B (by omega) (List.length_pos_iff.1 (by omega)) (List.length_pos_iff.1 q2) sX.2.1 sY.2.1 (by simp only [List.length_append]; omega)
          refine CAL (l := A ++ Z1 ++ X2 ++ Y2 ++ B) hr rfl ?_ rfl ?_ rfl rfl ?_
          · refine gi3 (by simp only [List.length_append]; omega) (by simp only [List.length_append]; omega) (by simp only [List.length_append]; omega)
          · exact row0 (by simp)
          · rintro l' ⟨Z2, rfl, hp2, hz2⟩
            exact ⟨rfl, _, fin Z2 hp2 hz2, row0 (by simp), rfl⟩
        · refine p2 ?_ (decide_eq_false (by omega))
          exact ⟨rfl, _, fin (X2 ++ Y2) (.refl _) (triv (.inr (List.length_eq_zero_iff.1 (by omega)))), row0 (by simp), rfl⟩
      · refine p2 ?_ (decide_eq_false (by omega))
        exact ⟨rfl, _, fin (X2 ++ Y2) (.refl _) (triv (.inl (List.length_eq_zero_iff.1 (by omega)))), row0 (by simp), rfl⟩
end
end Go.Proofs.YtaahmenpcpjbhaaGreatDoor
/-
  Contracts: package sort: a whole row put in order where it stands, by blocks.
-/
namespace Go.Proofs.YtaahmenpcpjbhaaGreatDoor
open Go.GK Go.PL Go.RowKit
set_option maxRecDepth 100000
section
variable {α : Type}
variable {enc : α → List GV} {k : Nat} {ty tb : TypeId} {g sw : FuncId} {lt : α → α → Bool}
/-- Sorted blocks of one length. -/
def Blks (lt : α → α → Bool) (n : Nat) (Bs : List (List α)) : Prop := ∀ B ∈ Bs, B.length = n ∧ Srt lt B
theorem Blks.len {n : Nat} : ∀ {Bs : List (List α)}, Blks lt n Bs → Bs.flatten.length = Bs.length * n
  | [], _ => by simp
  | B :: Bs, h => by
    have h1 := h B (by simp)
    have h2 := Blks.len (Bs := Bs) fun C hC => h C (by simp [hC])
    rw [List.flatten_cons, List.length_append, h1.1, h2, List.length_cons, Nat.add_mul]
    omega
theorem Blks.snoc {n : Nat} {Bs : List (List α)} {Z : List α} (h : Blks lt n Bs) (h1 : Z.length = n) (h2 : Srt lt Z) : Blks lt n (Bs ++ [Z]) := fun B hB => by
  rcases List.mem_append.1 hB with hB | hB
  · exact h B hB
  · rw [List.mem_singleton.1 hB]; exact ⟨h1, h2⟩
theorem stable_hf (E : SE enc k ty tb g sw lt) (hO : WO lt) (l : List α) (hlen : l.length < 274877906944) :
    Hf pg 70 2 [.agg (dat ty g sw), gi l.length] (sgm enc k ty tb l) (SR enc k ty tb fun l' => l'.Perm l ∧ Srt lt l') := by
  refine fin_hf (Hf.of pg_ok Tryz.func70 rfl Tryz.ntmps70 rfl Tryz.results70 Tryz.call70 fun H0 S0 w0 h0 g0 => ?_)
  refine JK.loopE (α := List (List α) × List α) (β := List (List α) × List α) (fun z => ⟨[(1, gi l.length), (2, .p 2 0), (4, gi 20), (5, gi z.1.flatten.length), (6, gi ((z.1.flatten.length + 20 : Nat) : Int))], (2, .blk 122 (dat ty g sw)) :: sgm enc k ty tb (z.1.flatten ++ z.2), 3⟩)
    (fun z => Blks lt 20 z.1 ∧ (z.1.flatten ++ z.2).Perm l) (fun z => z.2.length)
    (fun z => ⟨[(1, gi l.length), (2, .p 2 0), (4, gi 20), (5, gi z.1.flatten.length)], (2, .blk 122 (dat ty g sw)) :: sgm enc k ty tb (z.1.flatten ++ z.2), 3⟩)
    (fun z => Blks lt 20 z.1 ∧ (z.1.flatten ++ z.2).Perm l ∧ z.2.length < 20) ([], l) id ?_ ⟨(fun B hB => (by cases hB)), (by simp)⟩ ?_ ?_
  · exact ⟨⟨rfl, rfl, rfl, rfl, rfl, trivial⟩, ⟨rfl, rfl, rfl, trivial⟩, rfl⟩
  · rintro ⟨Bs, R⟩ ⟨hB, hp⟩
    simp only at hB hp
    have hl := hp.length_eq
    rw [List.length_append] at hl
    refine V ?_
    by_cases hlt : 20 ≤ R.length
    · refine p1 ?_ (decide_eq_true (by dsimp only; omega))
      have hi := ins_hf E hO Bs.flatten (R.take 20) (R.drop 20) (by simp only [List.length_append, List.length_take, List.length_drop]; omega)
      have h20 : (R.take 20).length = 20 := by simp; omega
      refine CAL (l := Bs.flatten ++ R.take 20 ++ R.drop 20) hi rfl ?_ rfl ?_ rfl rfl ?_
      · exact gi2 rfl (by rw [h20])
      · exact row0 (by simp)
      · rintro l' ⟨Z, rfl, hzp, hz⟩
        have hzl := hzp.length_eq
        rw [h20] at hzl
        refine ⟨(Bs ++ [Z], R.drop 20), id, ⟨⟨rfl, rfl, rfl, ?_, ?_, trivial⟩, ⟨rfl, row0 (by simp), rfl, trivial⟩, rfl⟩, ⟨hB.snoc hzl hz, ?_⟩, by simp; omega⟩
        · exact congrArg (fun i => some (gi i)) (by simp [hzl])
        · exact congrArg (fun i => some (gi i)) (by dsimp only; rw [wrap_id (by omega) (by omega)]; simp [hzl])
        · refine List.Perm.trans ?_ hp
          simp only [List.flatten_append, List.flatten_cons, List.flatten_nil, List.append_nil, List.append_assoc]
          refine List.Perm.append_left _ ?_
          conv => rhs; rw [← List.take_append_drop 20 R]
          exact List.Perm.append_right _ hzp
    · refine p2 ?_ (decide_eq_false (by dsimp only; omega))
      exact ⟨(Bs, R), id, ⟨⟨rfl, rfl, rfl, rfl, trivial⟩, ⟨rfl, rfl, rfl, trivial⟩, rfl⟩, hB, hp, by dsimp only; omega⟩
  · rintro ⟨Bs, R⟩ ⟨hB, hp, hR⟩
    simp only at hB hp hR
    have hl := hp.length_eq
    rw [List.length_append] at hl
    refine V ?_
    have hi := ins_hf E hO Bs.flatten R [] (by simp only [List.length_append, List.length_nil]; omega)
    refine CAL (l := Bs.flatten ++ R ++ []) hi rfl ?_ rfl ?_ rfl rfl ?_
    · exact gi2 rfl (by omega)
    · exact row0 (by simp)
    · rintro l' ⟨Z, rfl, hzp, hz⟩
      have hzl := hzp.length_eq
      refine JK.loop (α := Nat × List (List α) × List α) (fun z => ⟨[(1, gi l.length), (2, .p 2 0), (4, gi z.1)], (2, .blk 122 (dat ty g sw)) :: sgm enc k ty tb (z.2.1.flatten ++ z.2.2), 3⟩)
        (fun z => 1 ≤ z.1 ∧ z.1 < 549755813888 ∧ Blks lt z.1 z.2.1 ∧ Srt lt z.2.2 ∧ z.2.2.length < z.1 ∧ (z.2.1.flatten ++ z.2.2).Perm l) (fun z => l.length - z.1) (20, Bs, Z) id ?_ ⟨(by dsimp only; omega), (by dsimp only; omega), hB, hz, by dsimp only; omega, (List.Perm.append_left _ hzp).trans hp⟩ ?_
      · exact ⟨⟨rfl, rfl, rfl, trivial⟩, ⟨rfl, row0 (by simp), rfl, trivial⟩, rfl⟩
      · rintro ⟨bs, Bs, R⟩ ⟨h1, h1', hB, hsR, hR, hp⟩
        simp only at h1 h1' hB hsR hR hp
        have hl := hp.length_eq
        have hbl := hB.len
        rw [List.length_append] at hl
        refine V ?_
        by_cases hlt : bs < l.length
        · refine p1 ?_ (decide_eq_true (by dsimp only; omega))
          have h2 : IntKind.i64.wrap (2 * (bs : Int)) = ((2 * bs : Nat) : Int) := by rw [wrap_id (by omega) (by omega)]; omega
          refine JK.loopE (α := List (List α) × List (List α)) (β := List (List α) × List (List α)) (fun z => ⟨[(1, gi l.length), (2, .p 2 0), (4, gi bs), (5, gi z.1.flatten.length), (6, gi ((z.1.flatten.length + 2 * bs : Nat) : Int))], (2, .blk 122 (dat ty g sw)) :: sgm enc k ty tb (z.1.flatten ++ (z.2.flatten ++ R)), 3⟩)
            (fun z => Blks lt (2 * bs) z.1 ∧ Blks lt bs z.2 ∧ (z.1.flatten ++ (z.2.flatten ++ R)).Perm l) (fun z => z.2.length)
            (fun z => ⟨[(1, gi l.length), (2, .p 2 0), (4, gi bs), (5, gi z.1.flatten.length)], (2, .blk 122 (dat ty g sw)) :: sgm enc k ty tb (z.1.flatten ++ (z.2.flatten ++ R)), 3⟩)
            (fun z => Blks lt (2 * bs) z.1 ∧ Blks lt bs z.2 ∧ (z.1.flatten ++ (z.2.flatten ++ R)).Perm l ∧ z.2.flatten.length + R.length < 2 * bs) ([], Bs) id ?_ ⟨(fun B hB => (by cases hB)), hB, (by simpa using hp)⟩ ?_ ?_
          · refine ⟨⟨rfl, rfl, rfl, rfl, ?_, trivial⟩, ⟨rfl, row0 (by simp), rfl, trivial⟩, rfl⟩
            exact congrArg (fun i => some (gi i)) (by dsimp only; rw [h2]; simp)
          · rintro ⟨Cs, Bs⟩ ⟨hC, hB, hp⟩
            simp only at hC hB hp
            have hl := hp.length_eq
            have hbl := hB.len
            simp only [List.length_append] at hl
            refine V ?_
            by_cases hge : 2 * bs ≤ Bs.flatten.length + R.length
            · refine p1 ?_ (decide_eq_true (by dsimp only; omega))
              match Bs, hbl, hB, hp, hl, hge with
              | [], hbl, _, _, _, hge => simp only [List.length_nil, Nat.zero_mul] at hbl; omega
              | [C], hbl, _, _, _, hge => simp only [List.length_cons, List.length_nil, Nat.zero_add, Nat.one_mul] at hbl; omega
              | C :: D :: Bs, hbl, hB, hp, hl, hge =>
                obtain ⟨lC, sC⟩ := hB C (by simp)
                obtain ⟨lD, sD⟩ := hB D (by simp)
                simp only [List.flatten_cons, List.length_append] at hl hge hbl
                have hs := sym_hf E hO _ Cs.flatten C D (Bs.flatten ++ R) (Nat.le_refl _) (List.length_pos_iff.1 (by omega)) (List.length_pos_iff.1 (by omega)) sC sD (by simp only [List.length_append]; omega)
                refine CAL (l := Cs.flatten ++ C ++ D ++ (Bs.flatten ++ R)) hs rfl ?_ rfl ?_ rfl rfl ?_
                · refine gi3 rfl ?_ ?_
                  · dsimp only; rw [wrap_id (by omega) (by omega)]; omega
                  · dsimp only; omega
                · exact row0 (by simp)
                · rintro l' ⟨Z, rfl, hzp, hz⟩
                  have hzl := hzp.length_eq
                  rw [List.length_append] at hzl
                  refine ⟨(Cs ++ [Z], Bs), id, ⟨⟨rfl, rfl, rfl, ?_, ?_, trivial⟩, ⟨rfl, row0 (by simp), rfl, trivial⟩, rfl⟩, ⟨hC.snoc (by omega) hz, fun B hb => hB B (by simp [hb]), ?_⟩, by simp only [List.length_cons]; omega⟩
                  · exact congrArg (fun i => some (gi i)) (by simp only [List.flatten_append, List.flatten_cons, List.flatten_nil, List.append_nil, List.length_append]; omega)
                  · refine congrArg (fun i => some (gi i)) ?_
                    dsimp only
                    rw [h2, wrap_id (by omega) (by omega)]
                    simp only [List.flatten_append, List.flatten_cons, List.flatten_nil, List.append_nil, List.length_append]
                    omega
                  · refine List.Perm.trans ?_ hp
                    simp only [List.flatten_append, List.flatten_cons, List.flatten_nil, List.append_nil, List.append_assoc]
                    refine List.Perm.append_left _ ?_
                    rw [← List.append_assoc C]
                    exact List.Perm.append_right _ hzp
            · refine p2 ?_ (decide_eq_false (by dsimp only; omega))
              exact ⟨(Cs, Bs), id, ⟨⟨rfl, rfl, rfl, rfl, trivial⟩, ⟨rfl, rfl, rfl, trivial⟩, rfl⟩, hC, hB, hp, by dsimp only; omega⟩
          · rintro ⟨Cs, Bs⟩ ⟨hC, hB, hp, hlt2⟩
            simp only at hC hB hp hlt2
            have hl := hp.length_eq
            have hbl := hB.len
            simp only [List.length_append] at hl
            have h2' : IntKind.i64.wrap ((bs : Int) * 2) = ((2 * bs : Nat) : Int) := by rw [wrap_id (by omega) (by omega)]; omega
            refine V ?_
            match Bs, hbl, hB, hp, hl, hlt2 with
            | [], hbl, _, hp, hl, _ =>
              simp only [List.flatten_nil, List.length_nil, List.nil_append] at hl hp
              refine p2 ?_ (decide_eq_false (by dsimp only; rw [wrap_id (by omega) (by omega)]; omega))
              exact ⟨(2 * bs, Cs, R), id, ⟨⟨rfl, rfl, congrArg (fun i => some (gi i)) h2', trivial⟩, ⟨rfl, row0 (by simp), rfl, trivial⟩, rfl⟩, ⟨by dsimp only; omega, by dsimp only; omega, hC, hsR, by dsimp only; omega, hp⟩, by dsimp only; omega⟩
            | [C], hbl, hB, hp, hl, _ =>
              obtain ⟨lC, sC⟩ := hB C (by simp)
              simp only [List.flatten_cons, List.flatten_nil, List.append_nil] at hl hp
              by_cases hR0 : 0 < R.length
              · refine p1 ?_ (decide_eq_true (by dsimp only; rw [wrap_id (by omega) (by omega)]; omega))
                have hs := sym_hf E hO _ Cs.flatten C R [] (Nat.le_refl _) (List.length_pos_iff.1 (by omega)) (List.length_pos_iff.1 (by omega)) sC hsR (by simp only [List.length_append, List.length_nil]; omega)
                refine CAL (l := Cs.flatten ++ C ++ R ++ []) hs rfl ?_ rfl ?_ rfl rfl ?_
                · refine gi3 rfl ?_ ?_
                  · dsimp only; rw [wrap_id (by omega) (by omega)]; omega
                  · omega
                · exact row0 (by simp)
                · rintro l' ⟨Z, rfl, hzp, hz⟩
                  have hzl := hzp.length_eq
                  rw [List.length_append] at hzl
                  exact ⟨(2 * bs, Cs, Z), id, ⟨⟨rfl, rfl, congrArg (fun i => some (gi i)) h2', trivial⟩, ⟨rfl, row0 (by simp), rfl, trivial⟩, rfl⟩, ⟨by dsimp only; omega, by dsimp only; omega, hC, hz, by dsimp only; omega, (List.Perm.append_left _ hzp).trans hp⟩, by dsimp only; omega⟩
              · refine p2 ?_ (decide_eq_false (by dsimp only; rw [wrap_id (by omega) (by omega)]; omega))
                have hRe : R = [] := List.length_eq_zero_iff.1 (by omega)
                exact ⟨(2 * bs, Cs, C), id, ⟨⟨rfl, rfl, congrArg (fun i => some (gi i)) h2', trivial⟩, ⟨rfl, row0 (by rw [hRe]; simp), rfl, trivial⟩, rfl⟩, ⟨by dsimp only; omega, by dsimp only; omega, hC, sC, by dsimp only; omega, by rw [hRe, List.append_nil] at hp; exact hp⟩, by dsimp only; omega⟩
            | C :: D :: Bs, hbl, hB, hp, hl, hlt2 =>
              simp only [List.length_cons, Nat.add_mul] at hbl
              omega
        · refine p2 ?_ (decide_eq_false (by dsimp only; omega))
          refine V ?_
          match Bs, hbl, hB, hp, hl with
          | [], _, _, hp, _ => exact ⟨rfl, _, ⟨by simpa using hp, hsR⟩, row0 (by simp), rfl⟩
          | [C], hbl, hB, hp, hl =>
            simp only [List.flatten_cons, List.flatten_nil, List.append_nil, List.length_cons, List.length_nil] at hbl hl hp
            have hR0 : R = [] := List.length_eq_zero_iff.1 (by omega)
            subst hR0
            exact ⟨rfl, C, ⟨by simpa using hp, (hB C (by simp)).2⟩, row0 (by simp), rfl⟩
          | C :: D :: Bs, hbl, hB, hp, hl =>
            simp only [List.length_cons, Nat.add_mul] at hbl
            omega
end
end Go.Proofs.YtaahmenpcpjbhaaGreatDoor
/-
  DERIVED: THE SHELF's CONTRACTS AT THIS DUMP, IN PLAIN WORDS (tools/lay-plain.mjs out of 'TryzShelf.lean', which tools/lay-shelf.mjs wrote): THE SAME DECLARATIONS UNDER THE SAME NAMES: 'import', 'namespace', 'open', 'def', 'theorem' AND NOTHING ELSE: no command of the shelf's: FOR A HAND-IN. Each laying: the table of numbers ('.._ren') and one theorem, a field a fact of the dump's own or the kernel's comparison; each contract: ONE APPLICATION.
-/
namespace Go.Proofs
open Go.Shelf
def Tryz.laysGt8_ren : Go.Shelf.Ren := ⟨fun | 8 => 53 | 13 => 68 | 14 => 69 | 16 => 71 | 15 => 70 | 29 => 90 | 30 => 91 | 42 => 105 | 49 => 114 | n => n, fun | 20 => 20 | 26 => 98 | 36 => 116 | 0 => 0 | 38 => 118 | 42 => 122 | 3 => 3 | 4 => 4 | 47 => 28 | 17 => 17 | 33 => 113 | 34 => 114 | 89 => 186 | 12 => 12 | 56 => 179 | 82 => 180 | 5 => 5 | 83 => 141 | 84 => 181 | 85 => 182 | 86 => 183 | 87 => 184 | n => n, fun | n => n⟩
theorem Tryz.laysGt8 : Go.Proofs.LaysGt.n8 Tryz.prog Tryz.laysGt8_ren := {
  mixed := by kernel_rfl
  f8 := Tryz.func53.trans (congrArg some (by kernel_rfl))
  f13 := Tryz.func68.trans (congrArg some (by kernel_rfl))
  f14 := Tryz.func69.trans (congrArg some (by kernel_rfl))
  f15 := Tryz.func70.trans (congrArg some (by kernel_rfl))
  f16 := Tryz.func71.trans (congrArg some (by kernel_rfl))
  f29 := Tryz.func90.trans (congrArg some (by kernel_rfl))
  f30 := Tryz.func91.trans (congrArg some (by kernel_rfl))
  f42 := Tryz.func105.trans (congrArg some (by kernel_rfl))
  f49 := Tryz.func114.trans (congrArg some (by kernel_rfl))
  t0 := Tryz.underlying0
  a0 := Tryz.isAgg0
  z0 := Tryz.sizeOf0
  v0 := Tryz.zeroValue0
  i0 := by kernel_rfl
  t3 := Tryz.underlying3
  a3 := Tryz.isAgg3
  z3 := Tryz.sizeOf3
  v3 := Tryz.zeroValue3
  i3 := by kernel_rfl
  t4 := Tryz.underlying4
  a4 := Tryz.isAgg4
  z4 := Tryz.sizeOf4
  v4 := Tryz.zeroValue4
  i4 := by kernel_rfl
  t5 := Tryz.underlying5
  a5 := Tryz.isAgg5
  z5 := Tryz.sizeOf5
  v5 := Tryz.zeroValue5
  i5 := by kernel_rfl
  t12 := Tryz.underlying12
  a12 := Tryz.isAgg12
  z12 := Tryz.sizeOf12
  v12 := Tryz.zeroValue12
  i12 := by kernel_rfl
  t17 := Tryz.underlying17
  a17 := Tryz.isAgg17
  z17 := Tryz.sizeOf17
  v17 := Tryz.zeroValue17
  i17 := by kernel_rfl
  t20 := Tryz.underlying20
  a20 := Tryz.isAgg20
  z20 := Tryz.sizeOf20
  v20 := Tryz.zeroValue20
  i20 := by kernel_rfl
  t26 := Tryz.underlying98
  a26 := Tryz.isAgg98
  z26 := Tryz.sizeOf98
  v26 := Tryz.zeroValue98
  i26 := by kernel_rfl
  t33 := Tryz.underlying113
  a33 := Tryz.isAgg113
  z33 := Tryz.sizeOf113
  v33 := Tryz.zeroValue113
  i33 := by kernel_rfl
  t34 := Tryz.underlying114
  a34 := Tryz.isAgg114
  z34 := Tryz.sizeOf114
  v34 := Tryz.zeroValue114
  i34 := by kernel_rfl
  t36 := Tryz.underlying116
  a36 := Tryz.isAgg116
  z36 := Tryz.sizeOf116
  v36 := Tryz.zeroValue116
  i36 := by kernel_rfl
  t38 := Tryz.underlying118
  a38 := Tryz.isAgg118
  z38 := Tryz.sizeOf118
  v38 := Tryz.zeroValue118
  i38 := by kernel_rfl
  t42 := Tryz.underlying122
  a42 := Tryz.isAgg122
  z42 := Tryz.sizeOf122
  v42 := Tryz.zeroValue122
  i42 := by kernel_rfl
  t47 := Tryz.underlying28
  a47 := Tryz.isAgg28
  z47 := Tryz.sizeOf28
  v47 := Tryz.zeroValue28
  i47 := by kernel_rfl
  t56 := Tryz.underlying179
  a56 := Tryz.isAgg179
  z56 := Tryz.sizeOf179
  v56 := Tryz.zeroValue179
  i56 := by kernel_rfl
  t82 := Tryz.underlying180
  a82 := Tryz.isAgg180
  z82 := Tryz.sizeOf180
  v82 := Tryz.zeroValue180
  i82 := by kernel_rfl
  t83 := Tryz.underlying141
  a83 := Tryz.isAgg141
  z83 := Tryz.sizeOf141
  v83 := Tryz.zeroValue141
  i83 := by kernel_rfl
  t84 := Tryz.underlying181
  a84 := Tryz.isAgg181
  z84 := Tryz.sizeOf181
  v84 := Tryz.zeroValue181
  i84 := by kernel_rfl
  t85 := Tryz.underlying182
  a85 := Tryz.isAgg182
  z85 := Tryz.sizeOf182
  v85 := Tryz.zeroValue182
  i85 := by kernel_rfl
  t86 := Tryz.underlying183
  a86 := Tryz.isAgg183
  z86 := Tryz.sizeOf183
  v86 := Tryz.zeroValue183
  i86 := by kernel_rfl
  t87 := Tryz.underlying184
  a87 := Tryz.isAgg184
  z87 := Tryz.sizeOf184
  v87 := Tryz.zeroValue184
  i87 := by kernel_rfl
  t89 := Tryz.underlying186
  a89 := Tryz.isAgg186
  z89 := Tryz.sizeOf186
  v89 := Tryz.zeroValue186
  i89 := by kernel_rfl }
end Go.Proofs
/-
  Contracts: sort.SliceStable of own series, in an order that a closure gives: its entry, over the library's own laying.
-/
namespace Go.Proofs.YtaahmenpcpjbhaaGreatDoor
open Go.GK Go.PL Go.RowKit Go.Lib Go.Shelf Go.Proofs Go.Sort
set_option maxRecDepth 100000
theorem inv_clo {H : Hid} {g : FuncId} {u : Value} (h : Is H (.fn (.func g) [] [.p 1 0]) u) : u = .func (.func g) #[] #[.pointer (some ⟨H.bl 1, 0, none⟩)] := by
  obtain ⟨us, vs, rfl, h1, _, h3, h4⟩ := h.inv_fn
  have e1 : us = #[] := Array.eq_empty_of_size_eq_zero h1.symm
  have e2 : vs = #[Value.pointer (some ⟨H.bl 1, 0, none⟩)] := by
    apply Array.ext
    · simpa using h3.symm
    · intro i h5 h6
      have hi' : i = 0 := by simp at h6; omega
      subst hi'
      have h7 := (h4 0 _ rfl).inv_p.1
      have h8 : vs.getD 0 undef = vs[0] := by simp [Array.getD, h5]
      rw [h8] at h7
      exact h7
  rw [e1, e2]
section
variable {α : Type} {enc : α → List GV} {k : Nat} {ty tb : TypeId} {g sw f fs : FuncId} {T : TypeId} {lt : α → α → Bool}
theorem entry_hf (hcall : ∀ a w, (callFunc f a).run pg.P w = .ok (.enter f a) w)
    (tiny : ∀ (a : Option Addr) (n c : Nat), n ≤ 1 → ∀ (lb : Array Value) (w : World), Calls pg.P f #[.iface T (.slice a n c), .func (.func g) #[] lb] w fun e w' => e = .returned (.tuple #[]) ∧ ∃ os, w' = grow w os)
    (big : ∀ (a : Option Addr) (n c : Nat), 2 ≤ n → n < 4611686018427387904 → ∀ (lb : Array Value) (w : World), ∃ w1, Below w.heap.size w w1 ∧ ∀ R : World → Prop,
      Calls pg.P fs #[.agg #[.func (.func g) #[] lb, .func (.func sw) #[] #[.slice a n c, typeHandle pg.P ty]], .int .i64 n] w1 (fun e w' => e = .returned (.tuple #[]) ∧ R w') → Calls pg.P f #[.iface T (.slice a n c), .func (.func g) #[] lb] w fun e w' => e = .returned (.tuple #[]) ∧ R w')
    (l : List α) (R : List α → Prop) (hone : l.length ≤ 1 → R l) (hmax : l.length < 4611686018427387904)
    (hst : Hf pg fs 2 [.agg (dat ty g sw), gi l.length] (sgm enc k ty tb l) (SR enc k ty tb R)) :
    Hf pg f 2 [.ifc T (.o 0), .fn (.func g) [] [.p 1 0]] (sgm enc k ty tb l) (SR enc k ty tb R) := by
  refine ⟨hcall, fun H us w hn hg hcs hs => ?_⟩
  obtain ⟨hul, hi⟩ := hcs
  obtain ⟨v0, hv0, hi0⟩ := (hi 0 _ rfl).inv_ifc
  obtain ⟨rfl, h0n⟩ := hi0.inv_o
  have hv1 := inv_clo (hi 1 _ rfl)
  obtain ⟨xs, hown, hrow⟩ := hs.holds (0, .row ty k (l.map enc)) (by simp)
  obtain ⟨us1, hb1, hz1, hbi⟩ := hs.holds (1, .blk tb [.o 0]) (by simp)
  have hus : us = #[.iface T (H.sv 0), .func (.func g) #[] #[.pointer (some ⟨H.bl 1, 0, none⟩)]] := by
    have h2 : us.size = 2 := by rw [← hul]; rfl
    apply Array.ext
    · exact h2
    · intro i h3 h4
      have : us[i] = us.getD i undef := by simp [Array.getD, h3]
      rw [this]
      match i, h4 with
      | 0, _ => exact hv0
      | 1, _ => exact hv1
  rw [hus]
  have hsv : ∃ a c, H.sv 0 = .slice a l.length c := by
    rcases hown.2 with ⟨h1, h2⟩ | ⟨gb, cap, cur, h1, _⟩
    · refine ⟨none, 0, ?_⟩
      rw [List.length_map] at h2
      rw [h1, h2]
    · rw [List.length_map] at h1
      exact ⟨_, cap, h1⟩
  obtain ⟨a, c, hsv⟩ := hsv
  rw [hsv]
  by_cases h1 : l.length ≤ 1
  · refine (tiny a l.length c h1 _ w).mono ?_
    rintro _ w' ⟨rfl, os, rfl⟩
    have hb : Below w.heap.size w (grow w os) := ⟨rfl, rfl, rfl, by simp, fun b hb => heap_grow_old w os hb⟩
    exact ⟨_, .tup [], H, _, rfl, .tup rfl (fun j g h => by simp at h), hs.below hb, Fr.below (Fr.refl _ _ _) hb, rfl, ⟨l, hone h1, rfl⟩, hn⟩
  · obtain ⟨w1, hb, hbig⟩ := big a l.length c (by omega) hmax #[.pointer (some ⟨H.bl 1, 0, none⟩)] w
    have hc : Cells H [.agg (dat ty g sw), gi l.length] #[.agg #[.func (.func g) #[] #[.pointer (some ⟨H.bl 1, 0, none⟩)], .func (.func sw) #[] #[.slice a l.length c, typeHandle pg.P ty]], .int .i64 l.length] := by
      have h1n : 1 < H.n := by rw [hn]; decide
      refine ⟨rfl, fun j gv hj => ?_⟩
      match j with
      | 0 =>
        simp at hj
        subst hj
        refine .agg rfl fun j gv hj => ?_
        match j with
        | 0 =>
          simp at hj
          subst hj
          refine .fn rfl (fun j g hj => by simp at hj) rfl (fun j gv hj => ?_)
          match j with
          | 0 => simp at hj; subst hj; exact .p h1n
          | j + 1 => simp at hj
        | 1 =>
          simp at hj
          subst hj
          refine .fn rfl (fun j g hj => by simp at hj) rfl (fun j gv hj => ?_)
          match j with
          | 0 => simp at hj; subst hj; exact .o h0n hsv rfl
          | 1 => simp at hj; subst hj; exact .ro (.v _)
          | j + 2 => simp at hj
        | j + 2 => simp at hj
      | 1 =>
        simp at hj
        subst hj
        exact .ro (.v _)
      | j + 2 => simp at hj
    have hq := hst.ct H _ w1 hn hg hc (hs.below hb)
    refine (hbig (fun w' => ∃ H' σ', Sat H' σ' w' ∧ Fr H (blks H (sgm enc k ty tb l)) w1 H' (blks H' σ') w' ∧ (∃ l', R l' ∧ σ' = sgm enc k ty tb l') ∧ H'.n = 2) (hq.mono ?_)).mono ?_
    · rintro e w' ⟨u, gv, H', σ', rfl, hiu, hs', hfr, rfl, hR, hn'⟩
      obtain ⟨vs, rfl, h2, _⟩ := hiu.inv_tup
      have : vs = #[] := Array.eq_empty_of_size_eq_zero h2.symm
      subst this
      exact ⟨rfl, H', σ', hs', hfr, hR, hn'⟩
    · rintro e w' ⟨rfl, H', σ', hs', hfr, hR, hn'⟩
      refine ⟨_, .tup [], H', σ', rfl, .tup rfl (fun j g h => by simp at h), hs', ?_, rfl, hR, hn'⟩
      exact ⟨hfr.os.trans hb.os, hfr.tape.trans hb.tape, hfr.output.trans hb.output, Nat.le_trans hb.size hfr.size, fun b h2 h3 => (hfr.keep b (Nat.lt_of_lt_of_le h2 hb.size) h3).trans (hb.block b h2), fun b h2 => (hfr.own b h2).imp id (Nat.le_trans hb.size), fun b h2 h3 => (hfr.fro b h2 h3).imp id (Nat.le_trans hb.size), hfr.le⟩
end
/-! series -/
noncomputable def serT : TypeInfo := (Tryz.prog.info? 25).get (by kernel_rfl)
noncomputable def serE : TypeInfo := (Tryz.prog.info? 37).get (by kernel_rfl)
theorem swSe (n : Nat) (h2 : 2 ≤ n) : Lib.swapperK n serE 25 = 9 := by
  have a : serE.hasPointers = true := by kernel_rfl
  have b : serE.bytes = 48 := by kernel_rfl
  have c : (n == 0) = false := by simp; omega
  have d : (n == 1) = false := by simp; omega
  simp [Lib.swapperK, a, b, c, d]
theorem swSe0 : Lib.swapperK 0 serE 25 = 1 := by kernel_rfl
theorem swSe1 : Lib.swapperK 1 serE 25 = 2 := by kernel_rfl
theorem kindSe (w : World) : (Extern.Rtype.kind 37).run Tryz.prog w = .ok 25 w := by kernel_rfl
theorem series_entry {α : Type} {enc : α → List GV} {g : FuncId} (l : List α) (R : List α → Prop) (hone : l.length ≤ 1 → R l) (hmax : l.length < 4611686018427387904)
    (hst : Hf pg 70 2 [.agg (dat 37 g 89), gi l.length] (sgm enc 2 37 25 l) (SR enc 2 37 25 R)) :
    Hf pg 53 2 [.ifc 25 (.o 0), .fn (.func g) [] [.p 1 0]] (sgm enc 2 37 25 l) (SR enc 2 37 25 R) :=
  entry_hf Tryz.call53 (fun a n c h1 lb w => by
    match n, h1 with
    | 0, _ => exact Any.sort_SliceStable_tiny Tryz.laysGt8 25 37 serT serE (by kernel_rfl) (by kernel_rfl) (by kernel_rfl) (by kernel_rfl) 25 kindSe a 0 c (by omega) 81 (by rw [swSe0]; kernel_rfl) _ _ _ w
    | 1, _ => exact Any.sort_SliceStable_tiny Tryz.laysGt8 25 37 serT serE (by kernel_rfl) (by kernel_rfl) (by kernel_rfl) (by kernel_rfl) 25 kindSe a 1 c (by omega) 82 (by rw [swSe1]; kernel_rfl) _ _ _ w)
    (fun a n c h2 hn lb w => ⟨stableWorld Tryz.prog Tryz.laysGt8_ren 25 a n c w, ((Below.refl _ _).alloc (Nat.le_refl _) _).alloc (by simp) _, fun R' h =>
      Any.sort_SliceStable_of_stable Tryz.laysGt8 25 37 serT serE (by kernel_rfl) (by kernel_rfl) (by kernel_rfl) (by kernel_rfl) 25 kindSe a n c hn 89 (by rw [swSe _ h2]; kernel_rfl) (.func g) #[] lb w R' (by
        rw [show sliceBound Tryz.prog 37 serE 25 a n c = #[.slice a n c, typeHandle Tryz.prog 37] from by unfold sliceBound; rw [if_neg (swapperK_gt _ _ _ h2)]]
        exact h)⟩) l R hone hmax hst
end Go.Proofs.YtaahmenpcpjbhaaGreatDoor
/-
  Contracts: the document's answer on labels and matchers (chapter 4).
-/
namespace Go.Proofs.YtaahmenpcpjbhaaGreatDoor
open Go.GK Go.PL Go.RowKit
set_option maxRecDepth 100000
theorem sLt_le (a b : ByteArray) : (Op.bytesLess a.toList b.toList || a.toList == b.toList) = !sLt b a := by
  show (sLt a b || sEq a b) = _
  have h := cmpS_is
  rw [sLt_cmp, sLt_cmp, Bool.eq_iff_iff]
  simp only [Bool.or_eq_true, decide_eq_true_iff, sEq_iff, Bool.not_eq_true', decide_eq_false_iff_not]
  rw [h.anti a b, ← h.eq0]
  have := h.rng a b
  omega
theorem in_rt (n a b : Int) : Rt pg 34 [gi n, gi a, gi b] (.b (decide (a ≤ n ∧ n ≤ b))) := by
  refine Rt.of pg_ok Tryz.func34 rfl Tryz.ntmps34 rfl Tryz.results34 Tryz.call34 fun H0 S0 w0 h0 g0 => ?_
  by_cases h : a ≤ n
  · refine p1 ?_
    exact ⟨by show decide (n ≤ b) = _; rw [decide_eq_decide]; omega, rfl⟩
  · refine p2 ?_
    exact ⟨by rw [decide_eq_false (by omega)]; rfl, rfl⟩
theorem letter_rt (c : UInt8) : Rt pg 56 [gb c] (.b (letB c)) := by
  refine Rt.of pg_ok Tryz.func56 rfl Tryz.ntmps56 rfl Tryz.results56 Tryz.call56 fun H0 S0 w0 h0 g0 => ?_
  unfold letB
  by_cases h1 : 97 ≤ c.toNat <;> by_cases h2 : c.toNat ≤ 122 <;> by_cases h3 : 65 ≤ c.toNat <;> by_cases h4 : c.toNat ≤ 90 <;> by_cases h5 : c.toNat = 95 <;> first | (exfalso; omega) | skip
  all_goals
    simp only [h1, h2, h3, h4, h5, and_self, and_true, and_false, decide_true, decide_false, Bool.or_true, Bool.or_false]
    repeat (first | refine p1 ?_ | refine p2 ?_ | refine p3 ?_ | refine p4 ?_)
    refine ⟨?_, rfl⟩
    first | rfl | (show decide _ = _; simp; omega) | (show (_ == _) = _; simp; omega)
theorem digit_rt (c : UInt8) : Rt pg 57 [gb c] (.b (digB c)) := by
  refine Rt.of pg_ok Tryz.func57 rfl Tryz.ntmps57 rfl Tryz.results57 Tryz.call57 fun H0 S0 w0 h0 g0 => ?_
  unfold digB
  by_cases h : 48 ≤ c.toNat
  · refine p1 ?_
    exact ⟨by show decide _ = _; rw [decide_eq_decide]; omega, rfl⟩
  · refine p2 ?_
    exact ⟨by rw [decide_eq_false (by omega)]; rfl, rfl⟩
theorem refName_rt (s : ByteArray) (hs : s.size < 4611686018427387904) : Rt pg 32 [gs s] (.b (nameF s)) := by
  refine Rt.of pg_ok Tryz.func32 rfl Tryz.ntmps32 rfl Tryz.results32 Tryz.call32 fun H0 S0 w0 h0 g0 => ?_
  refine JK.loop (α := Nat) (fun i => ⟨[(0, gs s), (5, gi s.size), (6, gi i)], [], 0⟩) (fun i => i ≤ s.size ∧ ∀ j, j < i → nbad s j = false) (fun i => s.size - i) 0 id ?_ ⟨Nat.zero_le _, fun j hj => absurd hj (by omega)⟩ ?_
  · exact ⟨⟨rfl, rfl, rfl, trivial⟩, trivial, rfl⟩
  · rintro i ⟨hi, hgood⟩
    refine V ?_
    by_cases hlt : i < s.size
    · have hv := nbad_some hlt
      have hbad : nbad s i = true → nameF s = false := fun h => by unfold nameF; rw [anyB_true hlt h]; rfl
      have hnext : nbad s i = false → ∀ j, j < i + 1 → nbad s j = false := fun h j hj => by
        rcases Nat.lt_succ_iff_lt_or_eq.1 hj with h1 | h1
        · exact hgood j h1
        · subst h1; exact h
      refine p1 ?_
      refine sx (h := ?_)
      cases h1 : letB s[i] with
      | true =>
        refine GO ((letter_rt s[i]).bt h1) rfl ?_
        exact ⟨i + 1, id, ⟨⟨rfl, rfl, succ_gi (by omega), trivial⟩, trivial, rfl⟩, ⟨hlt, hnext (by rw [hv, h1]; rfl)⟩, by show s.size - (i + 1) < s.size - i; omega⟩
      | false =>
        refine GO ((letter_rt s[i]).bt h1) rfl ?_
        by_cases h2 : i = 0
        · refine p3 ?_ (by simpa using h2)
          exact ⟨(hbad (by rw [hv, h1, (by simpa using h2 : (i == 0) = true)]; rfl)).symm, rfl⟩
        · refine p4 ?_ (by simpa using h2)
          refine sx (h := ?_)
          have h2' : (i == 0) = false := by simpa using h2
          cases h3 : digB s[i] with
          | true =>
            refine GO ((digit_rt s[i]).bt h3) rfl ?_
            exact ⟨i + 1, id, ⟨⟨rfl, rfl, succ_gi (by omega), trivial⟩, trivial, rfl⟩, ⟨hlt, hnext (by rw [hv, h1, h2', h3]; rfl)⟩, by show s.size - (i + 1) < s.size - i; omega⟩
          | false =>
            refine GO ((digit_rt s[i]).bt h3) rfl ?_
            exact ⟨(hbad (by rw [hv, h1, h2', h3]; rfl)).symm, rfl⟩
    · refine p2 ?_
      refine V ?_
      refine GO (in_rt s.size 1 24) rfl ?_
      obtain rfl : i = s.size := by omega
      refine ⟨?_, rfl⟩
      unfold nameF
      rw [anyB_false hgood]
      show decide _ = _
      simp only [Bool.not_false, Bool.true_and, decide_eq_decide]
      omega
theorem says_rt (s : ByteArray) (hs : s.size < 4611686018427387904) : Rt pg 33 [gs s] (.b (valueF s)) := by
  refine Rt.of pg_ok Tryz.func33 rfl Tryz.ntmps33 rfl Tryz.results33 Tryz.call33 fun H0 S0 w0 h0 g0 => ?_
  refine JK.loop (α := Nat) (fun i => ⟨[(0, gs s), (5, gi s.size), (6, gi i)], [], 0⟩) (fun i => i ≤ s.size ∧ ∀ j, j < i → vbad s j = false) (fun i => s.size - i) 0 id ?_ ⟨Nat.zero_le _, fun j hj => absurd hj (by omega)⟩ ?_
  · exact ⟨⟨rfl, rfl, rfl, trivial⟩, trivial, rfl⟩
  · rintro i ⟨hi, hgood⟩
    refine V ?_
    by_cases hlt : i < s.size
    · have hv := vbad_some hlt
      have hbad : vbad s i = true → valueF s = false := fun h => by unfold valueF; rw [anyB_true hlt h]; rfl
      have hnext : vbad s i = false → ∀ j, j < i + 1 → vbad s j = false := fun h j hj => by
        rcases Nat.lt_succ_iff_lt_or_eq.1 hj with h1 | h1
        · exact hgood j h1
        · subst h1; exact h
      have hc : IntKind.i64.wrap (s[i].toNat : Int) = (s[i].toNat : Int) := wrap_id (by omega) (by have := s[i].toNat_lt; omega)
      refine p1 ?_
      refine sx (h := ?_)
      by_cases h1 : 32 ≤ s[i].toNat ∧ s[i].toNat ≤ 126
      · refine GO ((in_rt (IntKind.i64.wrap (s[i].toNat : Int)) 32 126).bt (d := true) (by rw [hc]; exact decide_eq_true (by omega))) rfl ?_
        have h6 : ¬ s[i].toNat < 32 := by omega
        have h7 : ¬ 126 < s[i].toNat := by omega
        by_cases h3 : s[i].toNat = 34 <;> by_cases h4 : s[i].toNat = 92 <;>
          simp only [h6, h7, h3, h4, decide_true, decide_false, Bool.true_or, Bool.or_true, Bool.or_false] at hv <;>
          (repeat (first | refine p1 ?_ | refine p2 ?_ | refine p3 ?_ | refine p4 ?_ | refine sx (h := ?_))) <;>
          first | exact ⟨(hbad hv).symm, rfl⟩ | exact ⟨i + 1, id, ⟨⟨rfl, rfl, succ_gi (by omega), trivial⟩, trivial, rfl⟩, ⟨hlt, hnext hv⟩, by show s.size - (i + 1) < s.size - i; omega⟩
      · refine GO ((in_rt (IntKind.i64.wrap (s[i].toNat : Int)) 32 126).bt (d := false) (by rw [hc]; exact decide_eq_false (by omega))) rfl ?_
        refine ⟨(hbad ?_).symm, rfl⟩
        rw [hv]
        by_cases h2 : s[i].toNat < 32
        · rw [decide_eq_true h2]; rfl
        · rw [decide_eq_true (by omega : 126 < s[i].toNat)]; simp
    · refine p2 ?_
      refine V ?_
      obtain rfl : i = s.size := by omega
      refine ⟨?_, rfl⟩
      unfold valueF
      rw [anyB_false hgood]
      show decide _ = _
      simp only [Bool.not_false, Bool.true_and, decide_eq_decide]
      omega

theorem labelsW_rt (l : List Lb) (hlen : l.length ≤ 1000000) (hsz : ∀ x ∈ l, x.name.size < 4611686018427387904 ∧ x.value.size < 4611686018427387904) : Rt pg 27 [.sl 2 (l.map lb)] (.b (rightF l)) := by
  refine Rt.of pg_ok Tryz.func27 rfl Tryz.ntmps27 rfl Tryz.results27 Tryz.call27 fun H0 S0 w0 h0 g0 => ?_
  have hl1 := hlen
  have hll : (l.map lb).length = l.length := by simp
  refine JK.loop (α := Nat) (fun i => ⟨[(0, .sl 2 (l.map lb)), (5, .sl 2 (l.map lb)), (6, gi (l.map lb).length), (7, gi i)], [], 0⟩) (fun i => i ≤ l.length ∧ ∀ j, j < i → lbad l j = false) (fun i => l.length - i) 0 id ?_ ⟨Nat.zero_le _, fun j hj => absurd hj (by omega)⟩ ?_
  · exact ⟨⟨rfl, rfl, rfl, rfl, trivial⟩, trivial, rfl⟩
  · rintro i ⟨hi, hgood⟩
    refine V ?_
    by_cases hlt : i < l.length
    · have hv := lbad_at hlt
      have hbad : lbad l i = true → rightF l = false := fun h => by unfold rightF; rw [anyB_true hlt h]; rfl
      have hnext : lbad l i = false → ∀ j, j < i + 1 → lbad l j = false := fun h j hj => by
        rcases Nat.lt_succ_iff_lt_or_eq.1 hj with h1 | h1
        · exact hgood j h1
        · subst h1; exact h
      have hnm := refName_rt l[i].name (hsz l[i] (List.getElem_mem hlt)).1
      have hval := says_rt l[i].value (hsz l[i] (List.getElem_mem hlt)).2
      refine p1 ?_
      refine ix (h := ?_)
      refine DRAW [] false (tk [0, 1]) (by kernel_rfl) ?_
      cases h1 : nameF l[i].name with
      | false =>
        refine RGO 2 false (tk [3, 4, 5, 6]) (hnm.bt h1) rfl rfl (by kernel_rfl) ?_
        refine RSKIP 7 true (tk [8, 9, 10, 11, 12, 13, 14, 15, 16, 17, 18, 19, 20, 21, 22, 23, 24, 25, 26, 27, 28, 29]) rfl rfl (by kernel_rfl) ?_
        refine V ?_
        exact ⟨(hbad (by rw [hv, h1]; rfl)).symm, rfl⟩
      | true =>
        refine RGO 2 false (tk [3, 4, 5, 6]) (hnm.bt h1) rfl rfl (by kernel_rfl) ?_
        cases h2 : valueF l[i].value with
        | false =>
          refine RGO 7 true (tk [8, 9, 10, 11, 12, 13, 14, 15, 16, 17, 18, 19, 20, 21, 22, 23, 24, 25, 26, 27, 28, 29]) (hval.bt h2) rfl rfl (by kernel_rfl) ?_
          refine V ?_
          exact ⟨(hbad (by rw [hv, h1, h2]; rfl)).symm, rfl⟩
        | true =>
          refine RGO 7 true (tk [8, 9, 10, 11, 12, 13, 14, 15, 16, 17, 18, 19, 20, 21, 22, 23, 24, 25, 26, 27, 28, 29]) (hval.bt h2) rfl rfl (by kernel_rfl) ?_
          rw [h1, h2] at hv
          cases h3 : sEq l[i].value ⟨#[]⟩ with
          | true =>
            repeat (first | refine p1 ?_ | refine p2 ?_ | refine p3 ?_ | refine p4 ?_ | refine V ?_)
            exact ⟨(hbad (by rw [hv, h3]; rfl)).symm, rfl⟩
          | false =>
            rw [h3] at hv
            by_cases h4 : 0 < i
            · have ew : IntKind.i64.wrap ((i : Int) - 1) = ((i - 1 : Nat) : Int) := by rw [wrap_id (by omega) (by omega)]; omega
              have hle := sLt_le l[i].name (l[i - 1]'(by omega)).name
              cases h5 : sLt (l[i - 1]'(by omega)).name l[i].name with
              | false =>
                rw [h5] at hle
                repeat (first | refine p1 ?_ | refine p2 ?_ | refine p3 ?_ | refine p4 ?_ | refine V ?_ | refine idx (i - 1) ew (by omega) ?_ | refine p1 ?_ hle)
                exact ⟨(hbad (by rw [hv, h5, decide_eq_true h4]; rfl)).symm, rfl⟩
              | true =>
                rw [h5] at hle
                repeat (first | refine p1 ?_ | refine p2 ?_ | refine p3 ?_ | refine p4 ?_ | refine V ?_ | refine idx (i - 1) ew (by omega) ?_ | refine p2 ?_ hle)
                exact ⟨i + 1, id, ⟨⟨rfl, rfl, rfl, succ_gi (by omega), trivial⟩, trivial, rfl⟩, ⟨hlt, hnext (by rw [hv, h5, decide_eq_true h4]; rfl)⟩, by show l.length - (i + 1) < l.length - i; omega⟩
            · repeat (first | refine p1 ?_ | refine p2 ?_ | refine p3 ?_ | refine p4 ?_ | refine V ?_)
              exact ⟨i + 1, id, ⟨⟨rfl, rfl, rfl, succ_gi (by omega), trivial⟩, trivial, rfl⟩, ⟨hlt, hnext (by rw [hv, decide_eq_false h4]; rfl)⟩, by show l.length - (i + 1) < l.length - i; omega⟩
    · refine p2 ?_
      refine V ?_
      refine GO (in_rt _ 1 8) rfl ?_
      obtain rfl : i = l.length := by omega
      refine ⟨?_, rfl⟩
      unfold rightF
      rw [anyB_false hgood]
      show decide _ = _
      simp only [Bool.not_false, Bool.true_and, decide_eq_decide]
      omega
theorem labels_rt (l : List Lb) (hs : Hl l) : Rt pg 27 [.sl 2 (l.map lb)] (.b (rightF l)) :=
  labelsW_rt l (by have := hs.len; omega) fun x hx => ⟨by have := hs.name x hx; omega, by have := hs.value x hx; omega⟩
theorem tell_rt (l : List Lb) (n : ByteArray) : Rt pg 58 [.sl 2 (l.map lb), gs n] (gs (lgetF l n)) := by
  refine Rt.of pg_ok Tryz.func58 rfl Tryz.ntmps58 rfl Tryz.results58 Tryz.call58 fun H0 S0 w0 h0 g0 => ?_
  refine JK.len 0 rfl fun hlen _ => ?_
  have hlen' : l.length ≤ 9223372036854775807 := by simpa [maxLen] using hlen
  refine JK.loop (α := Nat) (fun i => ⟨[(1, gs n), (7, .sl 2 (l.map lb)), (8, gi (l.map lb).length), (9, gi i)], [], 0⟩) (fun i => i ≤ l.length ∧ lgetF (l.drop i) n = lgetF l n) (fun i => l.length - i) 0 id ?_ ⟨Nat.zero_le _, rfl⟩ ?_
  · exact ⟨⟨rfl, rfl, rfl, rfl, trivial⟩, trivial, rfl⟩
  · rintro i ⟨hi, hgood⟩
    refine V ?_
    have hll : (l.map lb).length = l.length := by simp
    by_cases hlt : i < l.length
    · rw [List.drop_eq_getElem_cons hlt] at hgood
      refine p1 ?_
      refine ix (h := ?_)
      cases h1 : sEq l[i].name n with
      | true =>
        refine p1 ?_ h1
        exact ⟨by rw [← hgood, lgetF, if_pos h1]; rfl, rfl⟩
      | false =>
        refine p2 ?_ h1
        exact ⟨i + 1, id, ⟨⟨rfl, rfl, rfl, succ_gi (by omega), trivial⟩, trivial, rfl⟩, ⟨hlt, by rw [← hgood, lgetF, if_neg (by rw [h1]; decide)]⟩, by show l.length - (i + 1) < l.length - i; omega⟩
    · refine p2 ?_
      refine V ?_
      obtain rfl : i = l.length := by omega
      rw [List.drop_length] at hgood
      exact ⟨by rw [← hgood]; rfl, rfl⟩
theorem refAsked_rt (l : List Mt) (hm : ∀ x ∈ l, x.name.size ≤ 1000 ∧ x.value.size ≤ 1000) (hl : l.length ≤ 100000) : Rt pg 10 [.sl 3 (l.map mt)] (.b (askedF l)) := by
  refine Rt.of pg_ok Tryz.func10 rfl Tryz.ntmps10 rfl Tryz.results10 Tryz.call10 fun H0 S0 w0 h0 g0 => ?_
  have hll : (l.map mt).length = l.length := by simp
  refine JK.loop (α := Nat) (fun i => ⟨[(0, .sl 3 (l.map mt)), (5, .sl 3 (l.map mt)), (6, gi (l.map mt).length), (7, gi i)], [], 0⟩) (fun i => i ≤ l.length ∧ ∀ j, j < i → mbad (l.getD j default) = false) (fun i => l.length - i) 0 id ?_ ⟨Nat.zero_le _, fun j hj => absurd hj (by omega)⟩ ?_
  · exact ⟨⟨rfl, rfl, rfl, rfl, trivial⟩, trivial, rfl⟩
  · rintro i ⟨hi, hgood⟩
    refine V ?_
    by_cases hlt : i < l.length
    · have hg : l.getD i default = l[i] := by simp [hlt]
      obtain ⟨hmn, hmv⟩ := hm l[i] (List.getElem_mem hlt)
      have hbad : mbad l[i] = true → askedF l = false := fun h => by unfold askedF; rw [anyB_true hlt (by rw [hg]; exact h)]; rfl
      have hnext : mbad l[i] = false → ∀ j, j < i + 1 → mbad (l.getD j default) = false := fun h j hj => by
        rcases Nat.lt_succ_iff_lt_or_eq.1 hj with h1 | h1
        · exact hgood j h1
        · subst h1; rw [hg]; exact h
      have hv : mbad l[i] = (!nameF l[i].name || (!valueF l[i].value || !decide (0 ≤ l[i].op ∧ l[i].op ≤ 3))) := rfl
      refine p1 ?_
      refine ix (h := ?_)
      cases h1 : nameF l[i].name with
      | false =>
        refine GO ((refName_rt l[i].name (by omega)).bt h1) rfl ?_
        exact ⟨(hbad (by rw [hv, h1]; rfl)).symm, rfl⟩
      | true =>
        refine GO ((refName_rt l[i].name (by omega)).bt h1) rfl ?_
        cases h2 : valueF l[i].value with
        | false =>
          refine GO ((says_rt l[i].value (by omega)).bt h2) rfl ?_
          exact ⟨(hbad (by rw [hv, h1, h2]; rfl)).symm, rfl⟩
        | true =>
          refine GO ((says_rt l[i].value (by omega)).bt h2) rfl ?_
          cases h3 : decide (0 ≤ l[i].op ∧ l[i].op ≤ 3) with
          | false =>
            refine GO ((in_rt l[i].op 0 3).bt h3) rfl ?_
            exact ⟨(hbad (by rw [hv, h1, h2, h3]; rfl)).symm, rfl⟩
          | true =>
            refine GO ((in_rt l[i].op 0 3).bt h3) rfl ?_
            exact ⟨i + 1, id, ⟨⟨rfl, rfl, rfl, succ_gi (by omega), trivial⟩, trivial, rfl⟩, ⟨hlt, hnext (by rw [hv, h1, h2, h3]; rfl)⟩, by show l.length - (i + 1) < l.length - i; omega⟩
    · refine p2 ?_
      refine V ?_
      obtain rfl : i = l.length := by omega
      refine ⟨?_, rfl⟩
      unfold askedF
      rw [anyB_false hgood]
      show decide _ = _
      simp only [Bool.not_false, Bool.true_and, decide_eq_decide]
      omega
end Go.Proofs.YtaahmenpcpjbhaaGreatDoor
