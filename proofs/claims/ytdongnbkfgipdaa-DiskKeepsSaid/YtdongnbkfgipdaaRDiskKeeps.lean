/-
  DiskKeeps: whatever is done to a disk, wherever the power goes off, whatever is kept: true, and the list reads as it did. No condition.
-/
import Derived.Test.YtdongnbkfgipdaaRShapes6
import Derived.Test.YtdongnbkfgipdaaROf
import Derived.Test.YtdongnbkfgipdaaRows
import Derived.ProofKit
namespace Go.Proofs.Ytdongnbkfgipdaa
open Go.GK Go.PL Go.ChangeShapes Go.WideShapes Go.ChangeAt Go.RowKit

theorem own : ownKnob Try.prog.godebug = none := by kernel_rfl
theorem gl_ok : ∀ H : Hid, GlOk pg H := by
  intro H g gv hg
  have hg' : GK.look gl g = some gv := hg
  unfold gl GK.look at hg'
  cases hg'
theorem laidOut : laidOutB Try.prog = true := by kernel_rfl
theorem in64 {b : Int} (hb : Lit.wf (.int .i64 b) = true) : -9223372036854775808 ≤ b ∧ b ≤ 9223372036854775807 := by simpa [Lit.wf, IntKind.min, IntKind.max, IntKind.signed, IntKind.bits] using hb

set_option maxRecDepth 100000 in
theorem diskKeeps_lifted (os : Os) (started : os.Started) (H : Type) (enc : TypeId × Value → H) :
    ReturnsInHanded {} Try.checked os 3 .any (Rows.diskKeepsSpec.pre6 enc Try.prog Try.f3 Rows.diskKeepsRow.domain false) (Rows.diskKeepsSpec.post enc Try.prog Try.f3 false true false false) := by
  refine returnsInHanded_of_change (C := Try.checked) own started (by kernel_rfl) Try.func3
    (ChangeSpec.witness6 (enc := enc) (C := Try.checked) false ⟨#[], #[.slice none 0 0, .int .i64 0, .int .i64 0], []⟩ 8 (by kernel_rfl) (by kernel_rfl) (by kernel_rfl) (by kernel_rfl)) ?_
  intro W base args ds gs before hval hW _ _
  refine law_post (pg := pg) (shs := [.slice [.int .i64, .int .i64, .int .i64, .int .i64], .int .i64, .int .i64]) (tb := 4) [22, 3, 3] (by rw [Try.params3]) (by kernel_rfl) (by kernel_rfl) rfl (by kernel_rfl) (by kernel_rfl) laidOut (by kernel_rfl) (fun ds h => ?_) (fun gs h => ?_) (fun H _ => gl_ok H) hval hW
  · match ds, h with
    | [_, _, _], _ => rfl
  · simp only [fitsL, fits] at h
    obtain ⟨_, _, rfl, ⟨rows, rfl, hrows⟩, _, _, rfl, ⟨b, rfl, hb⟩, _, _, rfl, ⟨c, rfl, hc⟩, rfl⟩ := h
    obtain ⟨l, rfl⟩ := ak_list rows hrows
    exact of_rt (diskKeeps_rt l b c (in64 hb).2 (in64 hc))

theorem diskKeeps_holds : Rows.DiskKeepsSaid :=
  OpenClaim.holds_of_wide 3 Try.f3 rfl rfl rfl rfl rfl rfl rfl ⟨rfl, rfl, rfl, rfl, rfl⟩ rfl rfl rfl rfl rfl (by kernel_rfl) Try.func3 (by kernel_rfl)
    (of_decide_eq_true (by kernel_rfl)) (by unfold Func.isWrapper; first | (rw [if_pos (by decide +kernel)]; kernel_rfl) | (rw [if_neg (by decide +kernel)]; exact ⟨rfl, rfl⟩))
    (fun os started H enc _ => diskKeeps_lifted os started H enc)
end Go.Proofs.Ytdongnbkfgipdaa
