/-
  LabelOrder: whatever is given: true, and it reads as it did. No other condition.
-/
import Derived.Test.YtfagagfokmlgiaaDoorCLabLaws2
import Derived.Test.YtfagagfokmlgiaaDoorRShapes2
import Derived.Test.YtfagagfokmlgiaaDoorRDoorP
import Derived.Test.YtfagagfokmlgiaaDoorCards
import Derived.Test.YtfagagfokmlgiaaDoorTie
import Derived.SevenTiedAt
namespace Go.Proofs.YtfagagfokmlgiaaDoor
open Go.GK Go.PL Go.ChangeShapes Go.WideShapes Go.ChangeAt Go.RowKit

set_option maxRecDepth 100000 in
theorem labelOrder_lifted (os : Os) (started : os.Started) (H : Type) (enc : TypeId × Value → H) :
    ReturnsInHanded {} Tryd.checked os 5 .any (fun w args => (Rows.labelOrderSpec.pre enc Tryd.prog Tryd.f5 [] false w args ∧ laidMetH Tryd.prog rowLaid w) ∧ sizedMet enc Tryd.prog Tryd.f5 (OpenSpec.ofChange Rows.labelOrderSpec) false w args)
      (Rows.labelOrderSpec.post enc Tryd.prog Tryd.f5 false true false false) := by
  refine returnsInHanded_of_change_and (C := Tryd.checked) (X := fun w _ => laidMetH Tryd.prog rowLaid w) (fun _ _ _ hh h => h.of_heap hh) own started (by kernel_rfl) Tryd.func5
    (ChangeSpec.witness_shaped (enc := enc) (C := Tryd.checked) (os := os) (X := fun w _ => laidMetH Tryd.prog rowLaid w) false (World.laidAll Tryd.prog os rowLaid) #[.slice none 0 0, .slice none 0 0, .slice none 0 0] 8 (World.laidAll_os _ _ _) (World.shaped_of_ZipB (by kernel_rfl) (by kernel_rfl)) (by kernel_rfl) (by kernel_rfl) (by kernel_rfl) (laid_met os _)) ?_
  intro W base args ds gs before hval hW _ _ _ _
  refine law_post (pg := pg) (shs := [.slice [.str, .str], .slice [.str, .str], .slice [.str, .str]]) (tb := 4) [22, 22, 22] (by rw [Tryd.params5]) (by kernel_rfl) (by kernel_rfl) rfl (by kernel_rfl) (by kernel_rfl) laidOut (by kernel_rfl) (fun ds h => ?_) (fun gs h => ?_) (fun H _ => gl_ok H) hval hW
  · match ds, h with
    | [_, _, _], _ => rfl
  · simp only [fitsL, fits] at h
    obtain ⟨_, _, rfl, ⟨rows0, rfl, hrows0⟩, _, _, rfl, ⟨rows1, rfl, hrows1⟩, _, _, rfl, ⟨rows2, rfl, hrows2⟩, rfl⟩ := h
    obtain ⟨l0, rfl⟩ := lb_list rows0 hrows0
    obtain ⟨l1, rfl⟩ := lb_list rows1 hrows1
    obtain ⟨l2, rfl⟩ := lb_list rows2 hrows2
    exact of_rt (labelOrder_rt l0 l1 l2)

theorem labelOrder_row : Rows.LabelOrderSaid :=
  OpenClaim.holds_of_wide 5 Tryd.f5 rfl rfl rfl rfl rfl rfl rfl ⟨rfl, rfl, rfl, rfl, rfl⟩ rfl rfl rfl rfl rfl (by kernel_rfl) Tryd.func5 (by kernel_rfl)
    (of_decide_eq_true (by kernel_rfl)) (by unfold Func.isWrapper; first | (rw [if_pos (by decide +kernel)]; kernel_rfl) | (rw [if_neg (by decide +kernel)]; exact ⟨rfl, rfl⟩))
    (fun os started H enc _ => labelOrder_lifted os started H enc)

theorem labelOrder_holds : Rows.LabelOrderCardSaid :=
  Claim7.holds_tied_plain_at .later [] [.data, .pinned] true Rows.labelOrderCard.stood.harness true
    labelOrder_row (fun _ h => by cases h) (by kernel_rfl) (fun _ h => by cases h) labelOrder_row_tie rfl ⟨rfl, rfl⟩ (by kernel_rfl) rfl
    (fun f fn hf hfn => by
      obtain rfl : f = 5 := Option.some.inj ((show Tryd.prog.funcNamed "raingauge/raingaugekeep.LabelOrder" = some 5 by kernel_rfl).symm.trans hf) |>.symm
      obtain rfl : fn = Tryd.f5 := (Option.some.inj (Tryd.func5.symm.trans hfn)).symm
      exact ⟨by kernel_rfl, fun j t ht => by
        rw [Tryd.params5] at ht
        have hm : t ∈ [22, 22, 22] := by simpa using Array.mem_of_getElem? ht
        have hall : ([22, 22, 22].all fun u => !Tryd.prog.wantsStandIn u) = true := by kernel_rfl
        exact (show Tryd.prog.wantsStandIn t = false by simpa using List.all_eq_true.1 hall t hm)⟩)
    (by kernel_rfl)
end Go.Proofs.YtfagagfokmlgiaaDoor
