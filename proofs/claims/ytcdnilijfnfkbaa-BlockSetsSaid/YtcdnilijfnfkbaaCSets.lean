/-
  Contracts of what ChunkSets comes to, and ChunkSets itself.
-/
import Derived.Test.YtcdnilijfnfkbaaCSortS
import Derived.Test.YtcdnilijfnfkbaaCMerge
import Derived.Test.YtcdnilijfnfkbaaCSamples
import Derived.Test.YtcdnilijfnfkbaaCSameL
namespace Go.Proofs.Ytcdnilijfnfkbaa
open Go.GK Go.PL
set_option maxRecDepth 100000
theorem filt_take {α : Type} (p : α → Bool) (l : List α) (i : Nat) (h : i < l.length) : (l.take (i + 1)).filter p = (l.take i).filter p ++ if p l[i] then [l[i]] else [] := by
  rw [List.take_add_one, List.getElem?_eq_getElem h, List.filter_append]
  congr 1
  cases hp : p l[i] <;> simp [hp]
abbrev inS (f t : Int) (x : Sm) : Bool := decide (f ≤ x.time ∧ x.time ≤ t)
abbrev entS (b : Sm) : Value × GV := (.int .i64 b.time, gi b.value)
theorem mputS (b : Sm) : ∀ ms : List Sm, mput (.int .i64 b.time) (gi b.value) (ms.map entS) = (putS ms b).map entS
  | [] => rfl
  | x :: r => by
    by_cases hx : x.time = b.time
    · rw [List.map_cons, mput, putS, if_pos hx, if_pos (by simp [vkey, hx])]
      rfl
    · rw [List.map_cons, mput, putS, if_neg hx, if_neg (by simp [vkey]; exact fun e => hx e.symm), mputS b r]
      rfl
theorem mfindS (t : Int) : ∀ ms : List Sm, mfind (.int .i64 t) (ms.map entS) = (lookS t ms).map fun b => gi b.value
  | [] => rfl
  | x :: r => by
    rw [List.map_cons, mfind, lookS, mfindS t r]
    by_cases h : x.time = t
    · rw [if_pos h, if_pos (by subst h; simp [vkey])]
      rfl
    · rw [if_neg h, if_neg (by simp [vkey]; exact fun e => h e.symm)]
theorem entS_idb (n : Nat) : ∀ ms : List Sm, idbM n (ms.map entS) = true
  | [] => rfl
  | x :: r => by
    rw [List.map_cons, idbM, entS_idb n r]
    rfl
theorem entS_ren (f : Nat → Nat) (ms : List Sm) : renM f (ms.map entS) = ms.map entS := by
  unfold renM
  rw [List.map_map]
  rfl
theorem put_len (b : Sm) : ∀ l : List Sm, (putS l b).length ≤ l.length + 1
  | [] => by simp [putS]
  | x :: r => by
    unfold putS
    split
    · simp
    · have := put_len b r
      simp; omega
theorem putF_len : ∀ (l out : List Sm), (l.foldl putS out).length ≤ out.length + l.length
  | [], _ => by simp
  | b :: r, out => by
    rw [List.foldl_cons]
    have := putF_len r (putS out b)
    have := put_len b out
    simp; omega
theorem atM_len (l : List Sm) : (atM l).length ≤ l.length := by
  have := putF_len l []
  unfold atM
  simpa using this
theorem atM_step (l : List Sm) (i : Nat) (h : i < l.length) : atM (l.take (i + 1)) = putS (atM (l.take i)) l[i] := by
  rw [List.take_add_one, List.getElem?_eq_getElem h]
  unfold atM
  rw [List.foldl_append]
  rfl
theorem keys_split {lf : List Int} {l1 l2 : List Value} {k : Value} (h : lf.map (Value.int .i64) = l1 ++ k :: l2) : ∃ (m1 m2 : List Int) (t : Int), lf = m1 ++ t :: m2 ∧ l1 = m1.map (Value.int .i64) ∧ k = .int .i64 t ∧ l2 = m2.map (Value.int .i64) := by
  obtain ⟨m1, m', e, h1, h2⟩ := List.map_eq_append_iff.1 h
  obtain ⟨t, m2, e2, h3, h4⟩ := List.map_eq_cons_iff.1 h2
  exact ⟨m1, m2, t, by rw [e, e2], h1.symm, h3.symm, h4.symm⟩
theorem out_perm {ms out : List Sm} (hn : (ms.map (·.time)).Nodup) (hp : (out.map (·.time)).Perm (ms.map (·.time))) (hm : ∀ x ∈ out, x ∈ ms) : out.Perm ms := by
  have hno : (out.map (·.time)).Nodup := hp.nodup_iff.2 hn
  refine (List.perm_ext_iff_of_nodup (nodup_of_mapS hno) (nodup_of_mapS hn)).2 fun b => ⟨hm b, fun hb => ?_⟩
  have : b.time ∈ out.map (·.time) := hp.symm.subset (List.mem_map_of_mem hb)
  obtain ⟨c, hc, e⟩ := List.mem_map.1 this
  have h1 := lookS_mem hn (hm c hc)
  have h2 := lookS_mem hn hb
  rw [e, h2] at h1
  rw [Option.some.inj h1]
  exact hc
theorem refMerge_rt (a b : List Sm) (ha : a.length ≤ 100000) (hb : b.length ≤ 100000) : Rt pg 35 [.sl 2 (a.map sm), .sl 2 (b.map sm)] (.sl 2 ((sortS (atM (a ++ b))).map sm)) := by
  refine Rt.of pg_ok Try.func35 rfl Try.ntmps35 rfl Try.results35 Try.call35 fun H0 S0 w0 h0 g0 => ?_
  refine ⟨by simp only [List.length_map, List.length_nil]; omega, ?_⟩
  refine ⟨by simp only [List.length_append, List.length_map, List.length_nil]; omega, ?_⟩
  refine FRZ 3 rfl ?_
  have hal := atM_len (a ++ b)
  rw [List.length_append] at hal
  refine JK.loopE (α := Nat) (β := Unit) (fun i => ⟨[(5, .o 0), (16, .sl 2 ((a ++ b).map sm)), (17, gi ((a ++ b).map sm).length), (18, gi i)], [(0, .mp (some .i64) ((atM ((a ++ b).take i)).map entS))], 1⟩) (fun i => i ≤ (a ++ b).length) (fun i => (a ++ b).length - i)
    (fun _ => ⟨[(5, .o 0)], [(0, .mp (some .i64) ((atM (a ++ b)).map entS))], 1⟩) (fun _ => True) 0 id ?_ (Nat.zero_le _) ?_ ?_
  · refine ⟨⟨rfl, ?_, ?_, rfl, trivial⟩, ⟨rfl, trivial⟩, rfl⟩
    · exact congrArg (fun x => some (GV.sl 2 x)) List.map_append.symm
    · exact congrArg (fun x : List (List GV) => some (gi x.length)) List.map_append.symm
  · intro i hi
    refine V ?_
    have hst := atM_step (a ++ b) i
    have hll : (a ++ b).length ≤ 200000 := by rw [List.length_append]; omega
    generalize a ++ b = l at *
    by_cases hlt : i < l.length
    · refine p1 ?_
      refine ix (h := ?_)
      refine ⟨i + 1, id, ⟨⟨rfl, rfl, rfl, succ_gi (by omega), trivial⟩, ⟨congrArg (fun x => some (Res.mp (some IntKind.i64) x)) (by rw [entS_ren, hst hlt]; exact mputS _ _), trivial⟩, (by simp [idbE, idb, idbH, idbR, entS_idb, hids, distB, fixB, memB])⟩, hlt, by show l.length - (i + 1) < l.length - i; omega⟩
    · refine p2 ?_
      obtain rfl : i = l.length := by omega
      rw [List.take_length]
      exact ⟨(), id, ⟨⟨rfl, trivial⟩, ⟨congrArg (fun x => some (Res.mp (some IntKind.i64) x)) (entS_ren _ _).symm, trivial⟩, (by simp [idbE, idb, idbH, idbR, entS_idb, hids, distB, fixB, memB])⟩, trivial⟩
  · rintro _ _
    have hnd := atM_nodup (a ++ b)
    generalize hms : atM (a ++ b) = ms at hal hnd ⊢
    refine V ?_
    refine JK.ownNilB 1 0 47 2 rfl rfl ?_
    refine JK.loopE (α := List Int × List Sm × Option Value) (β := List Sm) (fun x => ⟨[(8, .p 1 0), (29, .p 2 0)], [(3, .row 47 2 (x.2.1.map sm)), (2, .mr (some .i64) (ms.map entS) (x.1.map (Value.int .i64)) x.2.2), (1, .blk 42 [.o 3])], 4⟩)
      (fun x => (x.1 ++ x.2.1.map (·.time)).Perm (ms.map (·.time)) ∧ ∀ y ∈ x.2.1, y ∈ ms) (fun x => x.1.length) (fun out => ⟨[(8, .p 1 0)], [(3, .row 47 2 (out.map sm)), (1, .blk 42 [.o 3])], 4⟩) (fun out => out.Perm ms) (ms.map (·.time), [], none) id ?_ ⟨by simp, by simp⟩ ?_ ?_
    · refine ⟨⟨rfl, rfl, trivial⟩, ⟨rfl, ?_, rfl, trivial⟩, (by simp [idbE, idb, idbL, idbH, idbR, entS_idb, hids, distB, fixB, memB]; decide)⟩
      exact congr (congrArg (fun x y => some (Res.mr (some IntKind.i64) x y none)) (entS_ren _ _).symm) (by rw [List.map_map, List.map_map]; rfl)
    · rintro ⟨lf, out, cur⟩ ⟨hp, hm⟩
      have hpl := hp.length_eq
      simp only [List.length_append, List.length_map] at hpl
      refine V ?_
      refine ⟨fun hleft => ?_, fun l1 k l2 g hl hg => ?_⟩
      · have : lf = [] := List.map_eq_nil_iff.1 hleft
        subst this
        exact ⟨out, id, ⟨⟨rfl, trivial⟩, ⟨rfl, rfl, trivial⟩, rfl⟩, out_perm hnd hp hm⟩
      · obtain ⟨m1, m2, t, rfl, rfl, rfl, rfl⟩ := keys_split hl
        have hg' : mfind (.int .i64 t) (ms.map entS) = some g := hg
        rw [mfindS] at hg'
        obtain ⟨x, hx, rfl⟩ := Option.map_eq_some_iff.1 hg'
        obtain ⟨hxt, hxm⟩ := lookS_time hx
        refine ⟨_, hg, ?_⟩
        refine ⟨by simp only [List.length_map, List.length_cons, List.length_nil]; simp at hpl; omega, ?_⟩
        subst hxt
        refine ⟨(m1 ++ m2, out ++ [x], some (.int .i64 x.time)), fun k => bif Nat.beq k 3 then 5 else k, ⟨⟨rfl, rfl, trivial⟩, ⟨?_, ?_, rfl, trivial⟩, (by simp [idbE, idb, idbL, idbH, idbR, entS_idb, hids, distB, fixB, memB]; decide)⟩, ⟨?_, ?_⟩, by simp⟩
        · exact congrArg (fun r => some (Res.row 47 2 r)) (by rw [List.map_append]; rfl)
        · exact congr (congrArg (fun y z => some (Res.mr (some IntKind.i64) y z (some (.int .i64 x.time)))) (entS_ren _ _).symm) List.map_append.symm
        · refine List.Perm.trans ?_ hp
          show ((m1 ++ m2) ++ (out ++ [x]).map (·.time)).Perm ((m1 ++ x.time :: m2) ++ out.map (·.time))
          rw [List.map_append, ← List.append_assoc]
          refine List.perm_append_comm.trans ?_
          show (x.time :: (m1 ++ m2 ++ out.map (·.time))).Perm _
          rw [List.append_assoc, List.append_assoc]
          exact List.perm_middle.symm
        · intro y hy
          rcases List.mem_append.1 hy with hy | hy
          · exact hm y hy
          · rw [List.mem_singleton.1 hy]; exact hxm
    · rintro out hp
      refine V ?_
      refine JK.call (n0 := 2) (r := rr 3 1) (samples_hf out (by have := hp.length_eq; omega)).ct Try.call48 rfl rfl rfl rfl rfl ⟨rfl, rfl, trivial⟩ rfl (rr_lt rfl rfl) ?_
      rintro _ _ _ ⟨l', ⟨hp', hso⟩, rfl, rfl, rfl⟩
      have e : l' = sortS ms := sortS_is hnd (hp'.trans hp) hso
      subst e
      refine FRZ 3 rfl ?_
      exact ⟨rfl, rfl⟩
theorem ris_up {l : List Sm} (h : Ris l) : UpS l := h.up
end Go.Proofs.Ytcdnilijfnfkbaa
