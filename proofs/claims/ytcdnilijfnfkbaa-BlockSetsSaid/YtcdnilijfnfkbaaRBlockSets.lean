/-
  BlockSets: whatever is given: true, and it reads as it did. No other condition.
-/
import Derived.Test.YtcdnilijfnfkbaaCBlockSets
import Derived.Test.YtcdnilijfnfkbaaRShapes9
import Derived.Test.YtcdnilijfnfkbaaROf
import Derived.Test.YtcdnilijfnfkbaaRows
import Derived.ProofKit
namespace Go.Proofs.Ytcdnilijfnfkbaa
open Go.GK Go.PL Go.ChangeShapes Go.WideShapes Go.ChangeAt Go.RowKit

theorem own : ownKnob Try.prog.godebug = none := by kernel_rfl
theorem gl_ok : ∀ H : Hid, GlOk pg H := by
  intro H g gv hg
  have hg' : GK.look gl g = some gv := hg
  unfold gl GK.look at hg'
  cases hg'
theorem laidOut : laidOutB Try.prog = true := by kernel_rfl

set_option maxRecDepth 100000 in
theorem blockSets_lifted (os : Os) (started : os.Started) (H : Type) (enc : TypeId × Value → H) :
    ReturnsInHanded {} Try.checked os 3 .any (Rows.blockSetsSpec.pre6 enc Try.prog Try.f3 Rows.blockSetsRow.domain false) (Rows.blockSetsSpec.post enc Try.prog Try.f3 false true false false) := by
  refine returnsInHanded_of_change (C := Try.checked) own started (by kernel_rfl) Try.func3
    (ChangeSpec.witness6 (enc := enc) (C := Try.checked) false ⟨#[], #[.slice none 0 0, .slice none 0 0, .slice none 0 0], []⟩ 8 (by kernel_rfl) (by kernel_rfl) (by kernel_rfl) (by kernel_rfl)) ?_
  intro W base args ds gs before hval hW _ _
  refine law_post (pg := pg) (shs := [.slice [.slice [.str, .str], .slice [.int .i64, .int .i64]], .slice [.slice [.str, .str], .slice [.int .i64, .int .i64]], .slice [.slice [.str, .int .i64, .str], .int .i64, .int .i64]]) (tb := 4) [22, 22, 23] (by rw [Try.params3]) (by kernel_rfl) (by kernel_rfl) rfl (by kernel_rfl) (by kernel_rfl) laidOut (by kernel_rfl) (fun ds h => ?_) (fun gs h => ?_) (fun H _ => gl_ok H) hval hW
  · match ds, h with
    | [_, _, _], _ => rfl
  · simp only [fitsL, fits] at h
    obtain ⟨_, _, rfl, ⟨rows0, rfl, hrows0⟩, _, _, rfl, ⟨rows1, rfl, hrows1⟩, _, _, rfl, ⟨rows2, rfl, hrows2⟩, rfl⟩ := h
    obtain ⟨l0, rfl, hl0⟩ := ser_list rows0 hrows0
    obtain ⟨l1, rfl, hl1⟩ := ser_list rows1 hrows1
    obtain ⟨l2, rfl⟩ := gone_list rows2 hrows2
    exact of_rt (blockSets_rt l0 l1 l2)

theorem blockSets_holds : Rows.BlockSetsSaid :=
  OpenClaim.holds_of_wide 3 Try.f3 rfl rfl rfl rfl rfl rfl rfl ⟨rfl, rfl, rfl, rfl, rfl⟩ rfl rfl rfl rfl rfl (by kernel_rfl) Try.func3 (by kernel_rfl)
    (of_decide_eq_true (by kernel_rfl)) (by unfold Func.isWrapper; first | (rw [if_pos (by decide +kernel)]; kernel_rfl) | (rw [if_neg (by decide +kernel)]; exact ⟨rfl, rfl⟩))
    (fun os started H enc _ => blockSets_lifted os started H enc)
end Go.Proofs.Ytcdnilijfnfkbaa
