/- Proved: the given statement StoreGoesCardSaid, of all arguments and all starts that its row speaks of. -/
import Derived.Test.YtadildidlcbbkaaGreatDoorK10
import Derived.Test.YtadildidlcbbkaaGreatDoorCards
import Derived.Test.YtadildidlcbbkaaGreatDoorTie
import Derived.SevenTiedAt
set_option linter.all false
namespace Go.Proofs.YtadildidlcbbkaaGreatDoor
open Go.GK Go.PL Go.ChangeShapes Go.WideShapes Go.ChangeAt Go.RowKit
theorem storeGoes_holds:Rows.StoreGoesCardSaid:=
 Claim7.holds_tied_plain_at .later [] [.data,.data,.data,.data,.data,.sentinel,.sentinel,.data,.widerDeep,.pinned] true Rows.storeGoesCard.stood.harness true
  storeGoes_row (fun _ h=>by cases h) (by as_aux_lemma=>kernel_rfl) (fun _ h=>by cases h) storeGoes_row_tie rfl ⟨rfl,rfl⟩ (by as_aux_lemma=>kernel_rfl) rfl
  (fun f fn hf hfn=>by
   obtain rfl:f=3:=br ((show Tryz.prog.funcNamed "raingauge/raingaugekeep.StoreGoes" =some 3 by kernel_rfl).symm.trans hf) |>.symm;obtain rfl:fn=Tryz.f3:=(br (Tryz.func3.symm.trans hfn)).symm;exact⟨by kernel_rfl,fun j t ht=>by
    rw[Tryz.params3]at ht;have hm:t∈ [22,25,22]:=by simpa using Array.mem_of_getElem? ht
    have hall:([22,25,22].all fun u=> !Tryz.prog.wantsStandIn u)=true:=by kernel_rfl
    exact (show Tryz.prog.wantsStandIn t=false by simpa using cW.1 hall t hm)⟩)
  (by as_aux_lemma=>kernel_rfl)
end Go.Proofs.YtadildidlcbbkaaGreatDoor
