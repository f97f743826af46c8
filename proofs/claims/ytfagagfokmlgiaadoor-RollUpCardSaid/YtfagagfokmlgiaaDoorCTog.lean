/-
  Contracts: the document's buckets: floor, each by itself, together.
-/
import Derived.Test.YtfagagfokmlgiaaDoorCSort
import Derived.Test.YtfagagfokmlgiaaDoorCRoll
import Derived.Test.YtfagagfokmlgiaaDoorPTog
namespace Go.Proofs.YtfagagfokmlgiaaDoor
open Go.GK Go.PL
set_option maxRecDepth 100000
theorem refFloor_rt (t s : Int) (h : s ≠ 0) : Rt pg 41 [gi t, gi s] (gi (refFloorF t s)) := by
  refine Rt.of pg_ok Tryd.func41 rfl Tryd.ntmps41 rfl Tryd.results41 Tryd.call41 fun H0 S0 w0 h0 g0 => ?_
  refine ⟨h, ?_⟩
  unfold refFloorF
  by_cases hc : w64 (w64 (t.tdiv s) * s) > t
  · refine p1 ?_ (decide_eq_true hc)
    rw [if_pos hc]
    exact ⟨rfl, rfl⟩
  · refine p2 ?_ (decide_eq_false hc)
    rw [if_neg hc]
    exact ⟨rfl, rfl⟩
theorem buckets_rt (l : List Sm) (hl : l.length ≤ 1000000) : Rt pg 66 [.sl 2 (l.map sm)] (.sl 5 ((l.map fun x => (⟨x.time, 1, x.value, x.value, x.value⟩ : Bk)).map bk)) := by
  refine Rt.of pg_ok Tryd.func66 rfl Tryd.ntmps66 rfl Tryd.results66 Tryd.call66 fun H0 S0 w0 h0 g0 => ?_
  refine JK.ownNil 3 89 5 rfl ?_
  refine JK.loopE (α := Nat) (β := Unit) (fun i => ⟨[(6, .sl 2 (l.map sm)), (7, gi (l.map sm).length), (8, gi i), (3, .o 0)], [(0, .row 89 5 (((l.take i).map fun x => (⟨x.time, 1, x.value, x.value, x.value⟩ : Bk)).map bk))], 1⟩) (fun i => i ≤ l.length) (fun i => l.length - i) (fun _ => ⟨[(3, .o 0)], [(0, .row 89 5 ((l.map fun x => (⟨x.time, 1, x.value, x.value, x.value⟩ : Bk)).map bk))], 1⟩) (fun _ => True) 0 id ?_ (Nat.zero_le _) ?_ ?_
  · exact ⟨⟨rfl, rfl, rfl, rfl, trivial⟩, ⟨rfl, trivial⟩, rfl⟩
  · intro i hi
    refine V ?_
    by_cases hlt : i < l.length
    · refine p1 ?_
      refine ix (h := ?_)
      refine ⟨by simp; omega, ?_⟩
      refine ⟨i + 1, fun _ => 3, ⟨⟨rfl, rfl, succ_gi (by omega), rfl, trivial⟩, ⟨?_, trivial⟩, rfl⟩, hlt, by show l.length - (i + 1) < l.length - i; omega⟩
      rw [List.take_add_one, List.getElem?_eq_getElem hlt, List.map_append, List.map_append]
      rfl
    · refine p2 ?_
      obtain rfl : i = l.length := by omega
      rw [List.take_length]
      exact ⟨(), id, ⟨⟨rfl, trivial⟩, ⟨rfl, trivial⟩, rfl⟩, trivial⟩
  · rintro _ _
    refine FRZ 0 rfl ?_
    exact ⟨rfl, rfl⟩
abbrev ent (b : Bk) : Value × GV := (.int .i64 b.start, .agg (bk b))
theorem mfind_ent (t : Int) : ∀ ms : List Bk, mfind (.int .i64 t) (ms.map ent) = (lookB t ms).map fun b => .agg (bk b)
  | [] => rfl
  | x :: r => by
    rw [List.map_cons, mfind, lookB, mfind_ent t r]
    by_cases h : x.start = t
    · rw [if_pos h, if_pos (by subst h; simp [vkey])]
      rfl
    · rw [if_neg h, if_neg (by simp [vkey]; exact fun e => h e.symm)]
theorem mput_new (b : Bk) : ∀ ms : List Bk, lookB b.start ms = none → mput (.int .i64 b.start) (.agg (bk b)) (ms.map ent) = (combF ms b).map ent
  | [], _ => rfl
  | x :: r, h => by
    unfold lookB at h
    by_cases hx : x.start = b.start
    · rw [if_pos hx] at h; cases h
    · rw [if_neg hx] at h
      rw [List.map_cons, mput, combF, if_neg hx, if_neg (by simp [vkey]; exact fun e => hx e.symm), mput_new b r h]
      rfl
theorem mput_old (b c : Bk) : ∀ ms : List Bk, lookB b.start ms = some c → mput (.int .i64 b.start) (.agg (bk (bothF c b))) (ms.map ent) = (combF ms b).map ent
  | x :: r, h => by
    unfold lookB at h
    by_cases hx : x.start = b.start
    · rw [if_pos hx] at h
      cases h
      rw [List.map_cons, mput, combF, if_pos hx, if_pos (by simp [vkey, hx])]
      rw [← hx]
      rfl
    · rw [if_neg hx] at h
      rw [List.map_cons, mput, combF, if_neg hx, if_neg (by simp [vkey]; exact fun e => hx e.symm), mput_old b c r h]
      rfl
theorem ent_idb (n : Nat) : ∀ ms : List Bk, idbM n (ms.map ent) = true
  | [] => rfl
  | x :: r => by
    rw [List.map_cons, idbM, ent_idb n r]
    rfl
theorem ent_ren (f : Nat → Nat) (ms : List Bk) : renM f (ms.map ent) = ms.map ent := by
  unfold renM
  rw [List.map_map]
  rfl
theorem floor_rt (t s : Int) (h1 : 1 ≤ s) (h2 : s ≤ 4398046511104) (h3 : -4398046511104 ≤ t ∧ t ≤ 4398046511104) : Rt pg 41 [gi t, gi s] (gi (floorF t s)) := by
  rw [← refFloor_eq h1 h2 h3.1 h3.2]
  exact refFloor_rt t s (by omega)
theorem tog_step (l : List Bk) (s : Int) (i : Nat) (h : i < l.length) : togM ((l.take (i + 1)).map (widen s)) = combF (togM ((l.take i).map (widen s))) (widen s l[i]) := by
  rw [List.take_add_one, List.getElem?_eq_getElem h, List.map_append]
  unfold togM
  rw [List.foldl_append]
  rfl
theorem comb_len (b : Bk) : ∀ l : List Bk, (combF l b).length ≤ l.length + 1
  | [] => by simp [combF]
  | x :: r => by
    unfold combF
    split
    · simp
    · have := comb_len b r
      simp; omega
theorem tog_len (l : List Bk) (s : Int) : ∀ i, i ≤ l.length → (togM ((l.take i).map (widen s))).length ≤ i
  | 0, _ => by simp [togM]
  | i + 1, h => by
    rw [tog_step l s i h]
    have := comb_len (widen s l[i]) (togM ((l.take i).map (widen s)))
    have := tog_len l s i (by omega)
    omega
theorem starts_of {l : List Bk} {b : Bk} : (combF l b).map (fun b => [gi b.start]) = if lookB b.start l = none then l.map (fun b => [gi b.start]) ++ [[gi b.start]] else l.map fun b => [gi b.start] := by
  have := congrArg (List.map fun x => [gi x]) (comb_starts b l)
  rw [List.map_map] at this
  rw [show (fun b : Bk => [gi b.start]) = (fun x => [gi x]) ∘ (·.start) from rfl, this]
  split <;> simp
def lk (ms : List Bk) (t : Int) : Bk := (lookB t ms).getD ⟨0, 0, 0, 0, 0⟩
theorem lk_of {ms : List Bk} {t : Int} (ht : t ∈ ms.map (·.start)) : lookB t ms = some (lk ms t) ∧ (lk ms t).start = t := by
  cases h : lookB t ms with
  | none =>
    obtain ⟨b, hb, e⟩ := List.mem_map.1 ht
    exact absurd e (lookB_none.1 h b hb)
  | some b =>
    have : lk ms t = b := by unfold lk; rw [h]; rfl
    rw [this]
    exact ⟨rfl, (lookB_start h).1⟩
theorem lk_tog {l : List Bk} {l' : List Int} (hp : l'.Perm ((togM l).map (·.start))) (hs : l'.Pairwise (· ≤ ·)) : l'.map (lk (togM l)) = togF l := by
  have hn := togM_nodup l
  refine togF_is ?_ ?_
  · have h1 := hp.map (lk (togM l))
    rw [List.map_map] at h1
    refine h1.trans (List.Perm.of_eq ?_)
    conv => rhs; rw [← List.map_id (togM l)]
    refine List.map_congr_left fun b hb => ?_
    show lk (togM l) b.start = b
    unfold lk
    rw [lookB_mem hn hb]
    rfl
  · rw [List.pairwise_map]
    refine (List.pairwise_iff_getElem.2 fun i j hi hj hij => ?_)
    have e1 := (lk_of (hp.subset (List.getElem_mem hi))).2
    have e2 := (lk_of (hp.subset (List.getElem_mem hj))).2
    rw [e1, e2]
    exact List.pairwise_iff_getElem.1 hs i j hi hj hij
theorem together_rt (l : List Bk) (s : Int) (hl : l.length ≤ 100000) (h1 : 1 ≤ s) (h2 : s ≤ 4398046511104) (hs : ∀ x ∈ l, -4398046511104 ≤ x.start ∧ x.start ≤ 4398046511104) :
    Rt pg 39 [.sl 5 (l.map bk), gi s] (.sl 5 ((togF (l.map (widen s))).map bk)) := by
  refine Rt.of pg_ok Tryd.func39 rfl Tryd.ntmps39 rfl Tryd.results39 Tryd.call39 fun H0 S0 w0 h0 g0 => ?_
  refine JK.ownNilB 1 0 2 1 rfl rfl ?_
  refine JK.loopE (α := Nat) (β := Unit) (fun i => ⟨[(1, gi s), (5, .o 0), (6, .p 1 0), (15, .sl 5 (l.map bk)), (16, gi (l.map bk).length), (17, gi i)], [(2, .row 2 1 ((togM ((l.take i).map (widen s))).map fun b => [gi b.start])), (1, .blk 96 [.o 2]), (0, .mp (some .i64) ((togM ((l.take i).map (widen s))).map ent))], 3⟩) (fun i => i ≤ l.length) (fun i => l.length - i)
    (fun _ => ⟨[(1, gi s), (5, .o 0), (6, .p 1 0)], [(2, .row 2 1 (((togM (l.map (widen s))).map (·.start)).map fun x => [gi x])), (1, .blk 96 [.o 2]), (0, .mp (some .i64) ((togM (l.map (widen s))).map ent))], 3⟩) (fun _ => True) 0 id ?_ (Nat.zero_le _) ?_ ?_
  · exact ⟨⟨rfl, rfl, rfl, rfl, rfl, rfl, trivial⟩, ⟨rfl, rfl, rfl, trivial⟩, rfl⟩
  · intro i hi
    refine V ?_
    by_cases hlt : i < l.length
    · have hln := tog_len l s i hi
      have hst := tog_step l s i hlt
      refine p1 ?_
      refine ix (h := ?_)
      refine GO (floor_rt l[i].start s h1 h2 (hs _ (List.getElem_mem hlt))) rfl ?_
      refine ⟨fun g hg => ?_, fun hg => ?_⟩
      · have hg' : mfind (.int .i64 (floorF l[i].start s)) ((togM ((l.take i).map (widen s))).map ent) = some g := hg
        rw [mfind_ent] at hg'
        obtain ⟨c, hc, rfl⟩ := Option.map_eq_some_iff.1 hg'
        have hcs := (lookB_start hc).1
        have hmp := mput_old (widen s l[i]) c _ hc
        rw [← hst] at hmp
        have hsr : ((togM ((l.take (i + 1)).map (widen s))).map fun b => [gi b.start]) = (togM ((l.take i).map (widen s))).map fun b => [gi b.start] := by
          rw [hst, starts_of, if_neg (by rw [show (widen s l[i]).start = floorF l[i].start s from rfl, hc]; simp)]
        by_cases hmin : l[i].min < c.min
        · refine p1 ?_
          by_cases hmax : l[i].max > c.max
          · refine p1 ?_
            exact ⟨i + 1, id, ⟨⟨rfl, rfl, rfl, rfl, rfl, succ_gi (by omega), trivial⟩, ⟨congrArg (fun x => some (Res.row 2 1 x)) hsr.symm, rfl, congrArg (fun x => some (Res.mp (some IntKind.i64) x)) (by rw [show bothF c (widen s l[i]) = ⟨c.start, w64 (c.count + l[i].count), w64 (c.sum + l[i].sum), l[i].min, l[i].max⟩ by simp [bothF, widen, hmin, hmax]] at hmp; rw [ent_ren]; exact hmp), trivial⟩, (by simp [idbE, idb, idbL, idbH, idbR, ent_idb, hids, distB, fixB, memB]; decide)⟩, hlt, by show l.length - (i + 1) < l.length - i; omega⟩
          · refine p2 ?_
            exact ⟨i + 1, id, ⟨⟨rfl, rfl, rfl, rfl, rfl, succ_gi (by omega), trivial⟩, ⟨congrArg (fun x => some (Res.row 2 1 x)) hsr.symm, rfl, congrArg (fun x => some (Res.mp (some IntKind.i64) x)) (by rw [show bothF c (widen s l[i]) = ⟨c.start, w64 (c.count + l[i].count), w64 (c.sum + l[i].sum), l[i].min, c.max⟩ by simp [bothF, widen, hmin, hmax]] at hmp; rw [ent_ren]; exact hmp), trivial⟩, (by simp [idbE, idb, idbL, idbH, idbR, ent_idb, hids, distB, fixB, memB]; decide)⟩, hlt, by show l.length - (i + 1) < l.length - i; omega⟩
        · refine p2 ?_
          by_cases hmax : l[i].max > c.max
          · refine p1 ?_
            exact ⟨i + 1, id, ⟨⟨rfl, rfl, rfl, rfl, rfl, succ_gi (by omega), trivial⟩, ⟨congrArg (fun x => some (Res.row 2 1 x)) hsr.symm, rfl, congrArg (fun x => some (Res.mp (some IntKind.i64) x)) (by rw [show bothF c (widen s l[i]) = ⟨c.start, w64 (c.count + l[i].count), w64 (c.sum + l[i].sum), c.min, l[i].max⟩ by simp [bothF, widen, hmin, hmax]] at hmp; rw [ent_ren]; exact hmp), trivial⟩, (by simp [idbE, idb, idbL, idbH, idbR, ent_idb, hids, distB, fixB, memB]; decide)⟩, hlt, by show l.length - (i + 1) < l.length - i; omega⟩
          · refine p2 ?_
            exact ⟨i + 1, id, ⟨⟨rfl, rfl, rfl, rfl, rfl, succ_gi (by omega), trivial⟩, ⟨congrArg (fun x => some (Res.row 2 1 x)) hsr.symm, rfl, congrArg (fun x => some (Res.mp (some IntKind.i64) x)) (by rw [show bothF c (widen s l[i]) = ⟨c.start, w64 (c.count + l[i].count), w64 (c.sum + l[i].sum), c.min, c.max⟩ by simp [bothF, widen, hmin, hmax]] at hmp; rw [ent_ren]; exact hmp), trivial⟩, (by simp [idbE, idb, idbL, idbH, idbR, ent_idb, hids, distB, fixB, memB]; decide)⟩, hlt, by show l.length - (i + 1) < l.length - i; omega⟩
      · have hg' : mfind (.int .i64 (floorF l[i].start s)) ((togM ((l.take i).map (widen s))).map ent) = none := hg
        rw [mfind_ent, Option.map_eq_none_iff] at hg'
        have hmp := mput_new (widen s l[i]) _ hg'
        rw [← hst] at hmp
        have hsr : ((togM ((l.take (i + 1)).map (widen s))).map fun b => [gi b.start]) = ((togM ((l.take i).map (widen s))).map fun b => [gi b.start]) ++ [[gi (floorF l[i].start s)]] := by
          rw [hst, starts_of, if_pos (show lookB (widen s l[i]).start _ = none from hg')]
          rfl
        refine ⟨by simp only [List.length_map, List.length_cons, List.length_nil]; omega, ?_⟩
        exact ⟨i + 1, fun k => bif Nat.beq k 2 then 6 else k, ⟨⟨rfl, rfl, rfl, rfl, rfl, succ_gi (by omega), trivial⟩, ⟨congrArg (fun x => some (Res.row 2 1 x)) hsr.symm, rfl, congrArg (fun x => some (Res.mp (some IntKind.i64) x)) (hmp.trans (ent_ren _ _).symm), trivial⟩, (by simp [idbE, idb, idbL, idbH, idbR, ent_idb, hids, distB, fixB, memB]; decide)⟩, hlt, by show l.length - (i + 1) < l.length - i; omega⟩
    · refine p2 ?_
      obtain rfl : i = l.length := by omega
      rw [List.take_length]
      exact ⟨(), id, ⟨⟨rfl, rfl, rfl, trivial⟩, ⟨congrArg (fun x => some (Res.row 2 1 x)) (by rw [List.map_map]; rfl), rfl, congrArg (fun x => some (Res.mp (some IntKind.i64) x)) (ent_ren _ _).symm, trivial⟩, by simp [idbE, idb, idbL, idbH, idbR, ent_idb, hids, distB, fixB, memB]; decide⟩, trivial⟩
  · rintro _ _
    have hln := tog_len l s l.length (Nat.le_refl _)
    rw [List.take_length] at hln
    generalize hms : togM (l.map (widen s)) = ms at hln ⊢
    refine V ?_
    refine GOH (starts_hf (ms.map (·.start)) (by rw [List.length_map]; omega)) (rr 2 1) rfl rfl ⟨rfl, rfl, trivial⟩ rfl (rr_lt rfl rfl) ?_
    rintro _ _ _ ⟨l', ⟨hp, hso⟩, rfl, rfl, rfl⟩
    refine JK.ownNil 11 89 5 rfl ?_
    refine FRZ 2 rfl ?_
    have hfin : l'.map (lk ms) = togF (l.map (widen s)) := by subst hms; exact lk_tog hp hso
    have hlen : l'.length ≤ 100000 := by have := hp.length_eq; rw [List.length_map] at this; omega
    refine JK.loopE (α := Nat) (β := Unit) (fun i => ⟨[(5, .o 0), (11, .o 3), (81, .sl 1 (l'.map fun x => [gi x])), (82, gi (l'.map fun x => [gi x]).length), (83, gi i)], [(3, .row 89 5 (((l'.take i).map (lk ms)).map bk)), (0, .mp (some .i64) (ms.map ent))], 4⟩) (fun i => i ≤ l'.length) (fun i => l'.length - i)
      (fun _ => ⟨[(11, .o 3)], [(3, .row 89 5 ((l'.map (lk ms)).map bk))], 4⟩) (fun _ => True) 0 id ?_ (Nat.zero_le _) ?_ ?_
    · exact ⟨⟨rfl, rfl, rfl, rfl, rfl, trivial⟩, ⟨rfl, congrArg (fun x => some (Res.mp (some IntKind.i64) x)) (by unfold renM; rw [List.map_map, List.map_map]; rfl), trivial⟩, (by simp [idbE, idb, idbH, idbR, ent_idb, hids, distB, fixB, memB]; decide)⟩
    · intro i hi
      refine V ?_
      by_cases hlt : i < l'.length
      · obtain ⟨hlk, hst⟩ := lk_of (hp.subset (List.getElem_mem hlt))
        refine p1 ?_
        refine ix (h := ?_)
        refine ⟨fun g hg => ?_, fun hg => ?_⟩
        · have hg' : mfind (.int .i64 l'[i]) (ms.map ent) = some g := hg
          rw [mfind_ent, hlk] at hg'
          cases hg'
          refine ⟨by simp only [List.length_map, List.length_cons, List.length_nil, List.length_take]; omega, ?_⟩
          refine ⟨i + 1, fun k => bif Nat.beq k 3 then 5 else k, ⟨⟨rfl, rfl, rfl, rfl, succ_gi (by omega), trivial⟩, ⟨?_, congrArg (fun x => some (Res.mp (some IntKind.i64) x)) (ent_ren _ _).symm, trivial⟩, (by simp [idbE, idb, idbH, idbR, ent_idb, hids, distB, fixB, memB]; decide)⟩, hlt, by show l'.length - (i + 1) < l'.length - i; omega⟩
          rw [List.take_add_one, List.getElem?_eq_getElem hlt, List.map_append, List.map_append]
          rfl
        · have hg' : mfind (.int .i64 l'[i]) (ms.map ent) = none := hg
          rw [mfind_ent, hlk] at hg'
          cases hg'
      · refine p2 ?_
        obtain rfl : i = l'.length := by omega
        rw [List.take_length]
        exact ⟨(), id, ⟨⟨rfl, trivial⟩, ⟨rfl, trivial⟩, rfl⟩, trivial⟩
    · rintro _ _
      rw [hfin]
      refine FRZ 3 rfl ?_
      exact ⟨rfl, rfl⟩
end Go.Proofs.YtfagagfokmlgiaaDoor
