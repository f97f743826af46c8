/-
  LabelTells: whatever is given: true, and it reads as it did. No other condition.
-/
import Derived.Test.YtfagagfokmlgiaaDoorCLabLaws
import Derived.Test.YtfagagfokmlgiaaDoorRShapes2
import Derived.Test.YtfagagfokmlgiaaDoorRDoorP
import Derived.Test.YtfagagfokmlgiaaDoorCards
import Derived.Test.YtfagagfokmlgiaaDoorTie
import Derived.SevenTiedAt
namespace Go.Proofs.YtfagagfokmlgiaaDoor
open Go.GK Go.PL Go.ChangeShapes Go.WideShapes Go.ChangeAt Go.RowKit

set_option maxRecDepth 100000 in
theorem labelTells_lifted (os : Os) (started : os.Started) (H : Type) (enc : TypeId × Value → H) :
    ReturnsInHanded {} Tryd.checked os 4 .any (fun w args => (Rows.labelTellsSpec.pre enc Tryd.prog Tryd.f4 [] false w args ∧ laidMetH Tryd.prog rowLaid w) ∧ sizedMet enc Tryd.prog Tryd.f4 (OpenSpec.ofChange Rows.labelTellsSpec) false w args)
      (Rows.labelTellsSpec.post enc Tryd.prog Tryd.f4 false true false false) := by
  refine returnsInHanded_of_change_and (C := Tryd.checked) (X := fun w _ => laidMetH Tryd.prog rowLaid w) (fun _ _ _ hh h => h.of_heap hh) own started (by kernel_rfl) Tryd.func4
    (ChangeSpec.witness_shaped (enc := enc) (C := Tryd.checked) (os := os) (X := fun w _ => laidMetH Tryd.prog rowLaid w) false (World.laidAll Tryd.prog os rowLaid) #[.slice none 0 0, .slice none 0 0, .string ⟨#[]⟩] 8 (World.laidAll_os _ _ _) (World.shaped_of_ZipB (by kernel_rfl) (by kernel_rfl)) (by kernel_rfl) (by kernel_rfl) (by kernel_rfl) (laid_met os _)) ?_
  intro W base args ds gs before hval hW _ _ _ _
  refine law_post (pg := pg) (shs := [.slice [.str, .str], .slice [.str, .str], .str]) (tb := 4) [22, 22, 9] (by rw [Tryd.params4]) (by kernel_rfl) (by kernel_rfl) rfl (by kernel_rfl) (by kernel_rfl) laidOut (by kernel_rfl) (fun ds h => ?_) (fun gs h => ?_) (fun H _ => gl_ok H) hval hW
  · match ds, h with
    | [_, _, _], _ => rfl
  · simp only [fitsL, fits] at h
    obtain ⟨_, _, rfl, ⟨rows0, rfl, hrows0⟩, _, _, rfl, ⟨rows1, rfl, hrows1⟩, _, _, rfl, ⟨s2, rfl, h2⟩, rfl⟩ := h
    obtain ⟨l0, rfl⟩ := lb_list rows0 hrows0
    obtain ⟨l1, rfl⟩ := lb_list rows1 hrows1
    exact of_rt (labelTells_rt l0 l1 s2)

theorem labelTells_row : Rows.LabelTellsSaid :=
  OpenClaim.holds_of_wide 4 Tryd.f4 rfl rfl rfl rfl rfl rfl rfl ⟨rfl, rfl, rfl, rfl, rfl⟩ rfl rfl rfl rfl rfl (by kernel_rfl) Tryd.func4 (by kernel_rfl)
    (of_decide_eq_true (by kernel_rfl)) (by unfold Func.isWrapper; first | (rw [if_pos (by decide +kernel)]; kernel_rfl) | (rw [if_neg (by decide +kernel)]; exact ⟨rfl, rfl⟩))
    (fun os started H enc _ => labelTells_lifted os started H enc)

theorem labelTells_holds : Rows.LabelTellsCardSaid :=
  Claim7.holds_tied_plain_at .later [] [.data, .pinned] true Rows.labelTellsCard.stood.harness true
    labelTells_row (fun _ h => by cases h) (by kernel_rfl) (fun _ h => by cases h) labelTells_row_tie rfl ⟨rfl, rfl⟩ (by kernel_rfl) rfl
    (fun f fn hf hfn => by
      obtain rfl : f = 4 := Option.some.inj ((show Tryd.prog.funcNamed "raingauge/raingaugelaw.LabelTells" = some 4 by kernel_rfl).symm.trans hf) |>.symm
      obtain rfl : fn = Tryd.f4 := (Option.some.inj (Tryd.func4.symm.trans hfn)).symm
      exact ⟨by kernel_rfl, fun j t ht => by
        rw [Tryd.params4] at ht
        have hm : t ∈ [22, 22, 9] := by simpa using Array.mem_of_getElem? ht
        have hall : ([22, 22, 9].all fun u => !Tryd.prog.wantsStandIn u) = true := by kernel_rfl
        exact (show Tryd.prog.wantsStandIn t = false by simpa using List.all_eq_true.1 hall t hm)⟩)
    (by kernel_rfl)
end Go.Proofs.YtfagagfokmlgiaaDoor
