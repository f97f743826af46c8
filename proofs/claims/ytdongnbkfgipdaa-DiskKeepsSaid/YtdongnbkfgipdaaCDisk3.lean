/-
  Contracts: the disk: the power comes back.
-/
import Derived.Test.YtdongnbkfgipdaaCDisk2
import Derived.Test.YtdongnbkfgipdaaPDisk2
namespace Go.Proofs.Ytdongnbkfgipdaa
open Go.GK Go.PL Go.RowKit
set_option maxRecDepth 100000
theorem start_nil (d : Dk) (hd : d.nil = true) (fp : List Nat) (keeps : Int) : Hf pg 13 1 [.p 0 0, gi keeps] [(0, .ab (dk d fp))] (fun g σ' n' => g = .tup [] ∧ hlook σ' 0 = some (.blk 27 [.v (.map none), .v (.map none), gi d.left, .v (.bool false)]) ∧ Nat.ble 1 n' = true) := by
  refine ⟨Try.call13, Ct.of_JK pg_ok Try.func13 rfl Try.ntmps13 rfl Try.results13 fun H0 S0 w0 h0 g0 => ?_⟩
  refine UNPN 0 d hd rfl ?_
  refine JK.loopE (α := Unit) (β := Unit) (fun _ => ⟨[(0, .p 0 0), (1, gi keeps), (11, .p 4 0)], [(0, .blk 27 [.v (.map none), .v (.map none), gi d.left, .b d.cut]), (4, .ob (.mapIter none 0 #[] 0))], 5⟩) (fun _ => True) (fun _ => 0)
    (fun _ => ⟨[(0, .p 0 0)], [(0, .blk 27 [.v (.map none), .v (.map none), gi d.left, .b d.cut])], 1⟩) (fun _ => True) () id ?_ trivial ?_ ?_
  · exact ⟨⟨rfl, rfl, rfl, trivial⟩, ⟨rfl, rfl, trivial⟩, rfl⟩
  · intro _ _
    refine V ?_
    exact ⟨(), id, ⟨⟨rfl, trivial⟩, ⟨rfl, trivial⟩, rfl⟩, trivial⟩
  · rintro _ _
    refine V ?_
    exact ⟨rfl, rfl, rfl⟩
theorem n2_eq {B : Nat} (hB : B ≤ 4611686018427387904) (keeps : Int) (x : Fl) (h : x.1.size ≤ B ∧ -1 ≤ x.2 ∧ x.2 ≤ x.1.size) :
    IntKind.i64.wrap ((if 0 > x.2 then 0 else x.2) + (if IntKind.i64.wrap ((x.1.size : Int) - (if 0 > x.2 then 0 else x.2)) < (if 0 > keeps then 0 else keeps) then IntKind.i64.wrap ((x.1.size : Int) - (if 0 > x.2 then 0 else x.2)) else (if 0 > keeps then 0 else keeps))) = max x.2 0 + min (max keeps 0) (x.1.size - max x.2 0) := by
  have e1 : (if 0 > x.2 then 0 else x.2) = max x.2 0 := by split <;> omega
  have e2 : (if 0 > keeps then 0 else keeps) = max keeps 0 := by split <;> omega
  have e3 : IntKind.i64.wrap ((x.1.size : Int) - max x.2 0) = x.1.size - max x.2 0 := wrap_id (by omega) (by omega)
  rw [e1, e2, e3]
  have e4 : (if (x.1.size : Int) - max x.2 0 < max keeps 0 then (x.1.size : Int) - max x.2 0 else max keeps 0) = min (max keeps 0) (x.1.size - max x.2 0) := by split <;> omega
  rw [e4]
  exact wrap_id (by omega) (by omega)
theorem start_own (d : Dk) (hd : d.nil = false) (fp : List Nat) (B : Nat) (hok : d.ok B) (hB : B ≤ 4611686018427387904) (keeps : Int) : Hf pg 13 1 [.p 0 0, gi keeps] [(0, .ab (dk d fp))] (fun g σ' n' => g = .tup [] ∧ hlook σ' 0 = some (.blk 27 [.o 2, .o 3, gi d.left, .v (.bool false)]) ∧ hlook σ' 2 = some (.mp none (pes ef (startF keeps d).L)) ∧ hlook σ' 3 = some (.mp none (pes en (startF keeps d).L)) ∧ Nat.ble 1 n' = true) := by
  refine ⟨Try.call13, Ct.of_JK pg_ok Try.func13 rfl Try.ntmps13 rfl Try.results13 fun H0 S0 w0 h0 g0 => ?_⟩
  refine UNPO 0 d hd rfl ?_
  refine JK.loopE (α := List Value × Option Value) (β := Option Value) (fun a => ⟨[(0, .p 0 0), (1, gi keeps), (11, .p 4 0)], [(0, .blk 27 [.o 2, .o 3, gi d.left, .b d.cut]), (2, .itr 4), (3, .mp none (pes en (goF keeps a.1 d.L))), (4, .mr none (pes ef (goF keeps a.1 d.L)) a.1 a.2)], 5⟩)
    (fun a => a.1.Nodup ∧ ∀ k ∈ a.1, ∃ f x, k = ks f ∧ fnd f d = some x) (fun a => a.1.length)
    (fun c => ⟨[(0, .p 0 0)], [(0, .blk 27 [.o 2, .o 3, gi d.left, .b d.cut]), (2, .itr 4), (3, .mp none (pes en (goF keeps [] d.L))), (4, .mr none (pes ef (goF keeps [] d.L)) [] c)], 5⟩) (fun _ => True) (d.L.map (·.1), none) id ?_ ?_ ?_ ?_
  · refine ⟨⟨rfl, rfl, rfl, trivial⟩, ⟨rfl, rfl, ?_, ?_, trivial⟩, ?_⟩
    · rw [show goF keeps (d.L.map (·.1), (none : Option Value)).1 d.L = d.L from goF_all keeps hok.keys]
      show _ = some (Res.mp none (renM id (pes en d.L)))
      rw [en_ren]; rfl
    · rw [show goF keeps (d.L.map (·.1), (none : Option Value)).1 d.L = d.L from goF_all keeps hok.keys]
      show _ = some (Res.mr none (renM id (pes ef d.L)) (d.L.map (·.1)) none)
      rw [ef_ren]
      refine congrArg (fun l => some (Res.mr none (pes ef d.L) l none)) ?_
      show (pes ef d.L).map (·.1) = _
      rw [List.map_map]; rfl
    · simp [idbE, idb, idbL, idbH, idbR, ef_id, en_id, hids, distB, fixB, memB]; decide
  · refine ⟨hok.nd, fun k hk' => ?_⟩
    obtain ⟨⟨q, x⟩, hx, rfl⟩ := List.mem_map.1 hk'
    have hq := hok.keys _ hx
    cases q with
    | string f => exact ⟨f, x, rfl, (pfind_mem rfl hok.keys hok.nd).2 hx⟩
    | _ => cases hq
  · rintro ⟨left, cur⟩ ⟨hn, hl⟩
    refine V ?_
    refine ⟨fun e => ?_, fun l1 k l2 g hlk hg => ?_⟩
    · obtain rfl : left = [] := e
      refine ⟨cur, id, ⟨⟨rfl, trivial⟩, ⟨rfl, rfl, ?_, ?_, trivial⟩, ?_⟩, trivial⟩
      · show _ = some (Res.mp none (renM id _))
        rw [en_ren]; rfl
      · show _ = some (Res.mr none (renM id _) _ _)
        rw [ef_ren]; rfl
      · simp [idbE, idb, idbL, idbH, idbR, ef_id, en_id, hids, distB, fixB, memB]; decide
    · obtain rfl : left = l1 ++ k :: l2 := hlk
      obtain ⟨f, x, rfl, hf⟩ := hl k (by simp)
      have hs : ∀ z ∈ l1 ++ ks f :: l2, sortB none z = true := fun z hz => by
        obtain ⟨f', _, rfl, _⟩ := hl z hz
        rfl
      obtain ⟨hfind, hstep⟩ := goF_step (keeps := keeps) (k := ks f) (x := x) (l := l1 ++ ks f :: l2) (l' := l1 ++ l2) rfl (inL_mem rfl (by simp)) (fun q hq => inL_split hn hs hq) hok.keys hok.nd hf
      have hef : mfind (ks f) (pes ef (goF keeps (l1 ++ ks f :: l2) d.L)) = some (ef x) := by rw [mfind_pes, hfind]; rfl
      have hen : mfind (ks f) (pes en (goF keeps (l1 ++ ks f :: l2) d.L)) = some (en x) := by rw [mfind_pes, hfind]; rfl
      obtain rfl : ef x = g := Option.some.inj (hef.symm.trans hg)
      have hsz := fnd_sz hok hf
      have hn' : (l1 ++ l2).Nodup := by
        have := List.perm_middle.nodup_iff.1 hn
        exact (List.nodup_cons.1 this).2
      have hni : ks f ∉ l1 ++ l2 := by
        have := List.perm_middle.nodup_iff.1 hn
        exact (List.nodup_cons.1 this).1
      have hl' : ∀ k ∈ l1 ++ l2, ∃ f x, k = ks f ∧ fnd f d = some x := fun k hk' => hl k (by
        rcases List.mem_append.1 hk' with h | h <;> simp [h])
      have hlen : (l1 ++ l2).length < (l1 ++ ks f :: l2).length := by simp
      refine ⟨_, hef, ?_⟩
      refine lkS hen ?_
      by_cases hgone : x.2 < 0 ∧ keeps < 1
      · have hkf : keepF keeps x = none := if_pos hgone
        replace hstep : pdel (ks f) (goF keeps (l1 ++ ks f :: l2) d.L) = goF keeps (l1 ++ l2) d.L := by rw [hkf] at hstep; exact hstep
        refine ⟨fun hc => ?_, fun hc => absurd hc (by rw [decide_eq_true hgone.1]; decide)⟩
        refine p1 ?_ (decide_eq_true hgone.2)
        refine ⟨(l1 ++ l2, some (ks f)), id, ⟨⟨rfl, rfl, rfl, trivial⟩, ⟨rfl, rfl, ?_, ?_, trivial⟩, ?_⟩, ⟨hn', hl'⟩, hlen⟩
        · exact congrArg (fun l => some (Res.mp none l)) (by rw [en_ren, mdel_pes, hstep])
        · have e1 : mdel (ks f) (pes ef (goF keeps (l1 ++ ks f :: l2) d.L)) = pes ef (goF keeps (l1 ++ l2) d.L) := by rw [mdel_pes, hstep]
          have e2 : kdel (ks f) (l1 ++ l2) = l1 ++ l2 := kdel_none fun q hq => by
            cases h : vkey (ks f) q with
            | false => rfl
            | true =>
              obtain ⟨f', _, rfl, _⟩ := hl' q hq
              exact absurd (by rw [vkey_eq (kd := none) rfl rfl h]; exact hq) hni
          show some (Res.mr none (mdel (ks f) (pes ef (goF keeps (l1 ++ ks f :: l2) d.L))) (kdel (ks f) (l1 ++ l2)) (some (ks f))) = some (Res.mr none (renM id (pes ef (goF keeps (l1 ++ l2) d.L))) (l1 ++ l2) (some (ks f)))
          rw [e1, e2, ef_ren]
        · simp [idbE, idb, idbL, idbH, idbR, ef_id, en_id, hids, distB, fixB, memB]; decide
      · have hkf : keepF keeps x = some (x.1.extract 0 (max x.2 0 + min (max keeps 0) (x.1.size - max x.2 0)).toNat, max x.2 0 + min (max keeps 0) (x.1.size - max x.2 0)) := if_neg hgone
        replace hstep : pput (ks f) (x.1.extract 0 (max x.2 0 + min (max keeps 0) (x.1.size - max x.2 0)).toNat, max x.2 0 + min (max keeps 0) (x.1.size - max x.2 0)) (goF keeps (l1 ++ ks f :: l2) d.L) = goF keeps (l1 ++ l2) d.L := by rw [hkf] at hstep; exact hstep
        have h2 := n2_eq hB keeps x hsz
        refine ⟨fun hc => p2 ?_ (decide_eq_false fun h => hgone ⟨of_decide_eq_true hc, h⟩), fun hc => ?_⟩
        all_goals
          refine DRAW [2, 3, 4] true (tk (List.range 14) ++ al [14] ++ tk [15] ++ al [16, 17] ++ tk [18] ++ al [19]) (by kernel_rfl) ?_
          refine ⟨Int.le_refl 0, ?_, ?_, ?_⟩
          · refine (show (0 : Int) ≤ _ from ?_)
            refine Int.le_trans ?_ (Int.le_of_eq h2.symm)
            omega
          · refine Int.le_trans (Int.le_of_eq h2) ?_
            omega
          refine ⟨_, hef, ?_⟩
          refine lkS hen ?_
          refine V ?_
          refine ⟨(l1 ++ l2, some (ks f)), id, ⟨⟨rfl, rfl, rfl, trivial⟩, ⟨rfl, rfl, ?_, ?_, trivial⟩, ?_⟩, ⟨hn', hl'⟩, hlen⟩
          · refine congrArg (fun l => some (Res.mp none l)) ?_
            rw [en_ren, mput_mput rfl, ← hstep, ← mput_pes]
            exact congrArg (fun n => mput (ks f) (gi n) _) h2
          · refine congrArg (fun l => some (Res.mr none l (l1 ++ l2) (some (ks f)))) ?_
            rw [ef_ren, mput_mput rfl, ← hstep, ← mput_pes]
            exact congrArg (fun n : Int => mput (ks f) (gs (x.1.extract 0 n.toNat)) _) h2
          · simp [idbE, idb, idbL, idbH, idbR, ef_id, en_id, hids, distB, fixB, memB]; decide
  · rintro c _
    refine JK.unrange 2 4 rfl rfl rfl ?_
    refine V ?_
    exact ⟨rfl, rfl, rfl, rfl, rfl⟩
theorem start_hf (d : Dk) (fp : List Nat) (B : Nat) (hok : d.ok B) (hB : B ≤ 4611686018427387904) (keeps : Int) : Hf pg 13 1 [.p 0 0, gi keeps] [(0, .ab (dk d fp))] (DkQ (.tup []) (startF keeps d)) := by
  rcases tf d.nil with hd | hd
  · refine DkQ.of rfl ((start_nil d hd fp keeps).recell 0 fun g σ' n' ⟨h1, h2, h3⟩ => ⟨_, _, [.v (.map none), .v (.map none), gi d.left, .b false], h2, ⟨rfl, rfl, rfl, rfl, trivial⟩, ?_, .inl (DkAt.none hd (hset_look h2 _) h3)⟩)
    rw [h1]; trivial
  · refine DkQ.of rfl ((start_own d hd fp B hok hB keeps).recell 0 fun g σ' n' ⟨h1, h2, h3, h4, h5⟩ => ⟨_, _, [.o 2, .o 3, gi d.left, .b false], h2, ⟨rfl, rfl, rfl, rfl, trivial⟩, ?_, .inl (DkAt.own 2 3 hd (hset_look h2 _) ((hset_other rfl).trans h3) ((hset_other rfl).trans h4) rfl h5)⟩)
    rw [h1]; trivial
end Go.Proofs.Ytdongnbkfgipdaa
