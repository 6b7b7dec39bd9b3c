/- The evaluator with the making of nodes told. -/
import Derived.Test.YtcckdckhhkmcgaaGreatDoorTdn
namespace Go.Proofs.YtcckdckhhkmcgaaGreatDoor
open Go.RowKit

noncomputable def orcM : Tr OrcE := Tr.set 10 orcS 55 (.leaf (toldO Tdn55))
noncomputable def runM : CallE := evCall TyL dnoS flatS FnL PtL orcM 5000 40
theorem orcM_ok (f : FuncId) (g : OrcE) (h : Tr.get 10 orcM f = some g) (B : Nat → Prop) (w0 : World) : OrcOk Tryz.prog B w0 f g := by
  unfold orcM at h
  rcases get_set_or (by decide) h with ⟨rfl, rfl⟩ | h
  · exact toldO_ok runS_ok tdn55_ok B w0
  · exact orcOk f g h B w0
theorem runM_ok : CallOk Tryz.prog runM := evCall_run tyOk ptOk fnOk orcM_ok (fun _ hc => snd tyOk hc) follows dnoOk flatOk 40
end Go.Proofs.YtcckdckhhkmcgaaGreatDoor
