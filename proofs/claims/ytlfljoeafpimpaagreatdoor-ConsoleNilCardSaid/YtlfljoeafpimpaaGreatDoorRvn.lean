/- The law's closed run, cut into many by calls told. -/
import Derived.Test.YtlfljoeafpimpaaGreatDoorTdc
import Derived.Test.YtlfljoeafpimpaaGreatDoorFcx
namespace Go.Proofs.YtlfljoeafpimpaaGreatDoor
open Go.RowKit

noncomputable def orcK : Tr OrcE := Tr.set 10 (Tr.set 10 orcC 74 (.leaf (toldO Tdc74))) 214 (.leaf (toldO Tdc214))
noncomputable def runK : CallE := evCall TyL dnoS flatS FnL PtL orcK 5000 40
theorem orcK_ok (f : FuncId) (g : OrcE) (h : Tr.get 10 orcK f = some g) (B : Nat → Prop) (w0 : World) : OrcOk Tryz.prog B w0 f g := by
  unfold orcK at h
  rcases get_set_or (by decide) h with ⟨rfl, rfl⟩ | h
  · exact toldO_ok runC_ok tdc214_ok B w0
  rcases get_set_or (by decide) h with ⟨rfl, rfl⟩ | h
  · exact toldO_ok runC_ok tdc74_ok B w0
  · exact orcC_ok f g h B w0
theorem runK_ok : CallOk Tryz.prog runK := evCall_run tyOk ptOk fnOk orcK_ok (fun _ hc => snd tyOk hc) follows dnoOk flatOk 40
noncomputable def lawF : Option (RV × Hp) := runF TyL dnoS runK 5000 (ptOf PtL 3) (fillG 120) Tryz.f3 [] hE
theorem law_run : okR lawF true = true := by kernel_rfl
end Go.Proofs.YtlfljoeafpimpaaGreatDoor
