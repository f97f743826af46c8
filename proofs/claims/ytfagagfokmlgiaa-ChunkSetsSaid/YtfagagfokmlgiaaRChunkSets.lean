/-
  ChunkSets: whatever samples and times: true, and the samples read as they did. No condition.
-/
import Derived.Test.YtfagagfokmlgiaaCSets
import Derived.Test.YtfagagfokmlgiaaROf
import Derived.Test.YtfagagfokmlgiaaRows
import Derived.ProofKit
namespace Go.Proofs.Ytfagagfokmlgiaa
open Go.GK Go.PL Go.ChangeShapes Go.WideShapes Go.ChangeAt Go.RowKit

theorem sm_list : ∀ (rows : List (List GV)), (∀ row ∈ rows, fitsL [.int .i64, .int .i64] row) → ∃ l : List Sm, rows = l.map sm
  | [], _ => ⟨[], rfl⟩
  | row :: rows, h => by
    obtain ⟨l, rfl⟩ := sm_list rows (fun r hr => h r (by simp [hr]))
    have h0 := h row (by simp)
    simp only [fitsL, fits] at h0
    obtain ⟨_, _, rfl, ⟨a, rfl, _⟩, _, _, rfl, ⟨b, rfl, _⟩, rfl⟩ := h0
    exact ⟨⟨a, b⟩ :: l, rfl⟩
theorem own : ownKnob Try.prog.godebug = none := by kernel_rfl
theorem gl_ok : ∀ H : Hid, GlOk pg H := by
  intro H g gv hg
  have hg' : GK.look gl g = some gv := hg
  unfold gl GK.look at hg'
  cases hg'
theorem laidOut : laidOutB Try.prog = true := by kernel_rfl

set_option maxRecDepth 100000 in
theorem chunkSets_lifted (os : Os) (started : os.Started) (H : Type) (enc : TypeId × Value → H) :
    ReturnsInHanded {} Try.checked os 3 .any (Rows.chunkSetsSpec.pre6 enc Try.prog Try.f3 Rows.chunkSetsRow.domain false) (Rows.chunkSetsSpec.post enc Try.prog Try.f3 false true false false) := by
  refine returnsInHanded_of_change (C := Try.checked) own started (by kernel_rfl) Try.func3
    (ChangeSpec.witness6 (enc := enc) (C := Try.checked) false ⟨#[], #[.slice none 0 0, .slice none 0 0, .int .i64 0, .int .i64 0], []⟩ 8 (by kernel_rfl) (by kernel_rfl) (by kernel_rfl) (by kernel_rfl)) ?_
  intro W base args ds gs before hval hW _ _
  refine law_post (pg := pg) (shs := [.slice [.int .i64, .int .i64], .slice [.int .i64, .int .i64], .int .i64, .int .i64]) (tb := 4) [22, 22, 2, 2] (by rw [Try.params3]) (by kernel_rfl) (by kernel_rfl) rfl (by kernel_rfl) (by kernel_rfl) laidOut (by kernel_rfl) (fun ds h => ?_) (fun gs h => ?_) (fun H _ => gl_ok H) hval hW
  · match ds, h with
    | [_, _, _, _], _ => rfl
  · simp only [fitsL, fits] at h
    obtain ⟨_, _, rfl, ⟨rows, rfl, hrows⟩, _, _, rfl, ⟨rows', rfl, hrows'⟩, _, _, rfl, ⟨b, rfl, _⟩, _, _, rfl, ⟨c, rfl, _⟩, rfl⟩ := h
    obtain ⟨l, rfl⟩ := sm_list rows hrows
    obtain ⟨m, rfl⟩ := sm_list rows' hrows'
    exact of_rt (chunkSets_rt l m b c)

theorem chunkSets_holds : Rows.ChunkSetsSaid :=
  OpenClaim.holds_of_wide 3 Try.f3 rfl rfl rfl rfl rfl rfl rfl ⟨rfl, rfl, rfl, rfl, rfl⟩ rfl rfl rfl rfl rfl (by kernel_rfl) Try.func3 (by kernel_rfl)
    (of_decide_eq_true (by kernel_rfl)) (by unfold Func.isWrapper; first | (rw [if_pos (by decide +kernel)]; kernel_rfl) | (rw [if_neg (by decide +kernel)]; exact ⟨rfl, rfl⟩))
    (fun os started H enc _ => chunkSets_lifted os started H enc)
end Go.Proofs.Ytfagagfokmlgiaa
