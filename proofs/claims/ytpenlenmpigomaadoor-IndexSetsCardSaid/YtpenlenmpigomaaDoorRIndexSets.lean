/-
  IndexSets: whatever is given: true, and it reads as it did. No other condition.
-/
import Derived.Test.YtpenlenmpigomaaDoorK10
import Derived.Test.YtpenlenmpigomaaDoorCards
import Derived.Test.YtpenlenmpigomaaDoorTie
import Derived.SevenTiedAt
namespace Go.Proofs.YtpenlenmpigomaaDoor
open Go.GK Go.PL Go.ChangeShapes Go.WideShapes Go.ChangeAt Go.RowKit

set_option maxRecDepth 100000 in
theorem indexSets_lifted (os : Os) (started : os.Started) (H : Type) (enc : TypeId × Value → H) :
    ReturnsInHanded {} Tryd.checked os 3 .any (fun w args => (Rows.indexSetsSpec.pre enc Tryd.prog Tryd.f3 [] false w args ∧ laidMetH Tryd.prog rowLaid w) ∧ sizedMet enc Tryd.prog Tryd.f3 (OpenSpec.ofChange Rows.indexSetsSpec) false w args)
      (Rows.indexSetsSpec.post enc Tryd.prog Tryd.f3 false true false false) := by
  refine returnsInHanded_of_change_and (C := Tryd.checked) (X := fun w _ => laidMetH Tryd.prog rowLaid w) (fun _ _ _ hh h => h.of_heap hh) own started (by kernel_rfl) Tryd.func3
    (ChangeSpec.witness_shaped (enc := enc) (C := Tryd.checked) (os := os) (X := fun w _ => laidMetH Tryd.prog rowLaid w) false (World.laidAll Tryd.prog os rowLaid) #[.slice none 0 0, .slice none 0 0, .slice none 0 0] 8 (World.laidAll_os _ _ _) (World.shaped_of_ZipB (by kernel_rfl) (by kernel_rfl)) (by kernel_rfl) (by kernel_rfl) (by kernel_rfl) (laid_met os _)) ?_
  intro W base args ds gs before hval hW _ _ _ _
  refine law_post (pg := pg) (shs := [.slice [.slice [.str, .str]], .slice [.str, .int .i64, .str], .slice [.str, .int .i64, .str]]) (tb := 4) [22, 23, 23] (by rw [Tryd.params3]) (by kernel_rfl) (by kernel_rfl) rfl (by kernel_rfl) (by kernel_rfl) laidOut (by kernel_rfl) (fun ds h => ?_) (fun gs h => ?_) (fun H _ => gl_ok H) hval hW
  · match ds, h with
    | [_, _, _], _ => rfl
  · simp only [fitsL, fits] at h
    obtain ⟨_, _, rfl, ⟨rows0, rfl, hrows0⟩, _, _, rfl, ⟨rows1, rfl, hrows1⟩, _, _, rfl, ⟨rows2, rfl, hrows2⟩, rfl⟩ := h
    obtain ⟨l0, rfl⟩ := lbss_list rows0 hrows0
    obtain ⟨l1, rfl⟩ := mt_list rows1 hrows1
    obtain ⟨l2, rfl⟩ := mt_list rows2 hrows2
    exact of_rt (indexSets_rt l0 l1 l2)

theorem indexSets_row : Rows.IndexSetsSaid :=
  OpenClaim.holds_of_wide 3 Tryd.f3 rfl rfl rfl rfl rfl rfl rfl ⟨rfl, rfl, rfl, rfl, rfl⟩ rfl rfl rfl rfl rfl (by kernel_rfl) Tryd.func3 (by kernel_rfl)
    (of_decide_eq_true (by kernel_rfl)) (by unfold Func.isWrapper; first | (rw [if_pos (by decide +kernel)]; kernel_rfl) | (rw [if_neg (by decide +kernel)]; exact ⟨rfl, rfl⟩))
    (fun os started H enc _ => indexSets_lifted os started H enc)

theorem indexSets_holds : Rows.IndexSetsCardSaid :=
  Claim7.holds_tied_plain_at .later [] [.data, .pinned] true Rows.indexSetsCard.stood.harness false
    indexSets_row (fun _ h => by cases h) (by kernel_rfl) (fun _ h => by cases h) indexSets_row_tie rfl ⟨rfl, rfl⟩ (by kernel_rfl) rfl
    (fun f fn hf hfn => by
      obtain rfl : f = 3 := Option.some.inj ((show Tryd.prog.funcNamed "raingauge/raingaugekeep.IndexSets" = some 3 by kernel_rfl).symm.trans hf) |>.symm
      obtain rfl : fn = Tryd.f3 := (Option.some.inj (Tryd.func3.symm.trans hfn)).symm
      exact ⟨by kernel_rfl, fun j t ht => by
        rw [Tryd.params3] at ht
        have hm : t ∈ [22, 23, 23] := by simpa using Array.mem_of_getElem? ht
        have hall : ([22, 23, 23].all fun u => !Tryd.prog.wantsStandIn u) = true := by kernel_rfl
        exact (show Tryd.prog.wantsStandIn t = false by simpa using List.all_eq_true.1 hall t hm)⟩)
    (by kernel_rfl)
end Go.Proofs.YtpenlenmpigomaaDoor
