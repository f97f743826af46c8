/-
  Contracts: the document's disk: the power comes back.
-/
import Derived.Test.YtbapgglhpbbonaaDoorCRefDisk
namespace Go.Proofs.YtbapgglhpbbonaaDoor
open Go.GK Go.PL Go.RowKit
set_option maxRecDepth 100000
def RefS (d : Dk) : GV → Heap → Nat → Prop := fun g σ n => g = .tup [] ∧ (∃ F left, Rel d F left ∧ σ = [(0, .blk 61 [.o 2, gi left]), (2, .mp none (pes ee F))]) ∧ n = 3
theorem RefS.of {f : FuncId} {args : List GV} {σ : Heap} {d : Dk} (h : Hf pg f 2 args σ fun g' σ' n' => g' = .tup [] ∧ (∃ F left, Rel d F left ∧ hlook σ' 0 = some (.blk 61 [.o 2, gi left]) ∧ hlook σ' 2 = some (.mp none (pes ee F))) ∧ Nat.ble 3 n' = true) : Hf pg f 2 args σ (RefS d) := by
  refine h.weak fun g' σ' n' ⟨hgg, ⟨F, left, hr, h1, h2⟩, h3⟩ => ⟨id, .tup [], _, 3, ⟨rfl, ⟨F, left, hr, rfl⟩, rfl⟩, by rw [hgg]; rfl, ⟨h1, ?_, trivial⟩, ?_⟩
  · show hlook σ' 2 = some (.mp none (renM id (pes ee F)))
    rw [ee_ren]; exact h2
  · simp [idb, idbL, idbH, idbR, ee_id, distB, hids, memB, fixB]; rfl
theorem refStart_hf (d : Dk) (B : Nat) (hok : d.ok B) (hB : B ≤ 1000000000) (F : List (Value × Fl)) (left : Int) (hr : Rel d F left) (keeps : Int) : Hf pg 25 2 [.p 0 0, gi keeps] (rheap F left) (RefS (startF keeps d)) := by
  refine RefS.of (Hf.of pg_ok Tryd.func25 rfl Tryd.ntmps25 rfl Tryd.results25 Tryd.call25 fun H0 S0 w0 h0 g0 => ?_)
  refine JK.loopE (α := List Value × Option Value × List (Value × Fl)) (β := Option Value × List (Value × Fl)) (fun a => ⟨[(0, .p 0 0), (1, gi keeps), (4, .o 2), (14, .p 3 0)], [(0, .blk 61 [.o 1, gi left]), (1, .itr 3), (2, .mp none (pes ee a.2.2)), (3, .mr none (pes ee F) a.1 a.2.1)], 4⟩)
    (fun a => a.1.Nodup ∧ (∀ k ∈ a.1, ∃ f x, k = ks f ∧ pfind (ks f) F = some x) ∧ Kept keeps F a.2.2 a.1) (fun a => a.1.length)
    (fun c => ⟨[(0, .p 0 0), (4, .o 2)], [(0, .blk 61 [.o 1, gi left]), (1, .itr 3), (2, .mp none (pes ee c.2)), (3, .mr none (pes ee F) [] c.1)], 4⟩) (fun c => Kept keeps F c.2 []) (F.map (·.1), none, []) id ?_ ?_ ?_ ?_
  · refine ⟨⟨rfl, rfl, rfl, rfl, trivial⟩, ⟨rfl, rfl, rfl, ?_, trivial⟩, ?_⟩
    · show _ = some (Res.mr none (renM id (pes ee F)) (F.map (·.1)) none)
      rw [ee_ren]
      refine congrArg (fun l => some (Res.mr none (pes ee F) l none)) ?_
      show (pes ee F).map (·.1) = _
      rw [List.map_map]; rfl
    · simp [idbE, idb, idbL, idbH, idbR, ee_id, hids, distB, fixB, memB]; try decide
  · refine ⟨hr.nd, fun k hk' => ?_, Kept.start keeps hr.keys⟩
    obtain ⟨⟨q, x⟩, hx, rfl⟩ := List.mem_map.1 hk'
    have hq := hr.keys _ hx
    cases q with
    | string f => exact ⟨f, x, rfl, (pfind_mem rfl hr.keys hr.nd).2 hx⟩
    | _ => cases hq
  · rintro ⟨lf, cur, K⟩ ⟨hn, hl, hK⟩
    refine V ?_
    refine ⟨fun e => ?_, fun l1 k l2 g hlk hg => ?_⟩
    · obtain rfl : lf = [] := e
      refine ⟨(cur, K), id, ⟨⟨rfl, rfl, trivial⟩, ⟨rfl, rfl, ?_, ?_, trivial⟩, ?_⟩, hK⟩
      · show _ = some (Res.mp none (renM id _))
        rw [ee_ren]; rfl
      · show _ = some (Res.mr none (renM id _) _ _)
        rw [ee_ren]; rfl
      · simp [idbE, idb, idbL, idbH, idbR, ee_id, hids, distB, fixB, memB]; try decide
    · obtain rfl : lf = l1 ++ k :: l2 := hlk
      obtain ⟨f, x, rfl, hf⟩ := hl k (by simp)
      have hs : ∀ z ∈ l1 ++ ks f :: l2, sortB none z = true := fun z hz => by
        obtain ⟨f', _, rfl, _⟩ := hl z hz
        rfl
      have hef := ee_some hf
      obtain rfl : ee x = g := Option.some.inj (hef.symm.trans hg)
      have hsz := fnd_sz hok ((hr.fd f).symm.trans hf)
      have hn' : (l1 ++ l2).Nodup := by
        have := List.perm_middle.nodup_iff.1 hn
        exact (List.nodup_cons.1 this).2
      have hl' : ∀ k ∈ l1 ++ l2, ∃ f x, k = ks f ∧ pfind (ks f) F = some x := fun k hk' => hl k (by
        rcases List.mem_append.1 hk' with h | h <;> simp [h])
      have hlen : (l1 ++ l2).length < (l1 ++ ks f :: l2).length := by simp
      have hin : inL (l1 ++ ks f :: l2) (ks f) = true := inL_mem rfl (by simp)
      have hsp : ∀ q, sortB none q = true → inL (l1 ++ l2) q = (inL (l1 ++ ks f :: l2) q && !vkey (ks f) q) := fun q hq => inL_split hn hs hq
      refine ⟨_, hef, ?_⟩
      have h2 := keep_eq keeps x ⟨hsz.2.1, hsz.2.2⟩ _ rfl _ rfl
      have h3 := keep_len keeps x ⟨hsz.2.1, hsz.2.2⟩
      by_cases hgone : x.2 < 0 ∧ keeps < 1
      · have hkf : keepF keeps x = none := if_pos hgone
        have hK' := hK.skip hsp hin hf hkf
        refine ⟨fun hc => ?_, fun hc => absurd hc (by rw [decide_eq_true hgone.1]; decide)⟩
        refine p1 ?_ (decide_eq_true hgone.2)
        refine ⟨(l1 ++ l2, some (ks f), K), id, ⟨⟨rfl, rfl, rfl, rfl, trivial⟩, ⟨rfl, rfl, ?_, ?_, trivial⟩, ?_⟩, ⟨hn', hl', hK'⟩, hlen⟩
        · exact congrArg (fun l => some (Res.mp none l)) (ee_ren _ _).symm
        · exact congrArg (fun l => some (Res.mr none l (l1 ++ l2) (some (ks f)))) (ee_ren _ _).symm
        · simp [idbE, idb, idbL, idbH, idbR, ee_id, hids, distB, fixB, memB]; try decide
      · have hkf : keepF keeps x = some (x.1.extract 0 (max x.2 0 + min (max keeps 0) (x.1.size - max x.2 0)).toNat, max x.2 0 + min (max keeps 0) (x.1.size - max x.2 0)) := if_neg hgone
        have hK' := hK.put hsp hf hkf
        have h4 : ∀ AR : ByteArray, AR = x.1.extract 0 (max x.2 0 + min (max keeps 0) (x.1.size - max x.2 0)).toNat → some (Res.mp none (mput (ks f) (.agg [gs AR, gi AR.size]) (pes ee K))) = some (Res.mp none (renM id (pes ee (pput (ks f) (x.1.extract 0 (max x.2 0 + min (max keeps 0) (x.1.size - max x.2 0)).toNat, max x.2 0 + min (max keeps 0) (x.1.size - max x.2 0)) K)))) := by
          rintro AR rfl
          rw [ee_ren, ← mput_pes]
          show some (Res.mp none (mput (ks f) (.agg [_, gi _]) _)) = some (Res.mp none (mput (ks f) (.agg [_, gi _]) _))
          rw [h3]
        have e1 : ((x.1.extract 0 (if 0 > x.2 then 0 else x.2).toNat).size : Int) ≤ x.1.size := by rw [ByteArray.size_extract]; omega
        have h5 : ∀ a b : ByteArray, a ++ b = x.1.extract 0 (max x.2 0 + min (max keeps 0) (x.1.size - max x.2 0)).toNat → a.size + b.size ≤ 4611686018427387904 := by
          intro a b h
          rw [← ByteArray.size_append, h]
          omega
        refine ⟨fun hc => p2 ?_ (decide_eq_false fun h => hgone ⟨of_decide_eq_true hc, h⟩), fun hc => ?_⟩
        all_goals
          refine ⟨Int.le_refl 0, by split <;> omega, by split <;> omega, ?_⟩
          refine ⟨by omega, e1, Int.le_refl _, ?_⟩
          refine ⟨fun hc2 => ?_, fun hc2 => ?_⟩
          · have hc3 : keeps < ((x.1.extract (x.1.extract 0 (if 0 > x.2 then 0 else x.2).toNat).size x.1.size).size : Int) := of_decide_eq_true hc2
            rw [if_pos hc3] at h2
            refine ⟨Int.le_refl 0, by split <;> omega, (show (if 0 > keeps then 0 else keeps) ≤ ((x.1.extract (x.1.extract 0 (if 0 > x.2 then 0 else x.2).toNat).size x.1.size).size : Int) by split <;> omega), ?_⟩
            refine ⟨h5 _ _ h2, ?_⟩
            refine ⟨(l1 ++ l2, some (ks f), _), id, ⟨⟨rfl, rfl, rfl, rfl, trivial⟩, ⟨rfl, rfl, h4 _ h2, ?_, trivial⟩, ?_⟩, ⟨hn', hl', hK'⟩, hlen⟩
            · exact congrArg (fun l => some (Res.mr none l (l1 ++ l2) (some (ks f)))) (ee_ren _ _).symm
            · simp [idbE, idb, idbL, idbH, idbR, ee_id, hids, distB, fixB, memB]; try decide
          · have hc3 : ¬ keeps < ((x.1.extract (x.1.extract 0 (if 0 > x.2 then 0 else x.2).toNat).size x.1.size).size : Int) := of_decide_eq_false hc2
            rw [if_neg hc3] at h2
            refine ⟨h5 _ _ h2, ?_⟩
            refine ⟨(l1 ++ l2, some (ks f), _), id, ⟨⟨rfl, rfl, rfl, rfl, trivial⟩, ⟨rfl, rfl, h4 _ h2, ?_, trivial⟩, ?_⟩, ⟨hn', hl', hK'⟩, hlen⟩
            · exact congrArg (fun l => some (Res.mr none l (l1 ++ l2) (some (ks f)))) (ee_ren _ _).symm
            · simp [idbE, idb, idbL, idbH, idbR, ee_id, hids, distB, fixB, memB]; try decide
  · rintro ⟨c, K⟩ hK
    refine JK.unrange 1 3 rfl rfl rfl ?_
    refine V ?_
    exact ⟨rfl, ⟨K, -1, hK.rel hr hok, rfl, rfl⟩, rfl⟩
end Go.Proofs.YtbapgglhpbbonaaDoor
