/- known: the closed run, cut into many by calls told. -/
import Derived.Test.YtagjbefkoakhfaaGreatDoorRno
import Derived.Test.YtagjbefkoakhfaaGreatDoorCtk
import Derived.Test.YtagjbefkoakhfaaGreatDoorTds
namespace Go.Proofs.YtagjbefkoakhfaaGreatDoor
open Go.RowKit

noncomputable def orcK : Tr OrcE := Tr.set 10 (Tr.set 10 (Tr.set 10 (Tr.set 10 (Tr.set 10 orcS 35 (.leaf (constH cutX cutV cutH))) 26 (.leaf (toldO Tds26))) 100 (.leaf (toldO Tds100))) 12 (.leaf (toldO Tds12))) 9 (.leaf (toldO Tds9))
noncomputable def runK : CallE := evCall TyL dnoS flatS FnL PtL orcK 5000 40
theorem orcK_ok (f : FuncId) (g : OrcE) (h : Tr.get 10 orcK f = some g) (B : Nat → Prop) (w0 : World) : OrcOk Tryz.prog B w0 f g := by
  unfold orcK at h
  rcases get_set_or (by decide) h with ⟨rfl, rfl⟩ | h
  · exact toldO_ok runS_ok tds9_ok B w0
  rcases get_set_or (by decide) h with ⟨rfl, rfl⟩ | h
  · exact toldO_ok runS_ok tds12_ok B w0
  rcases get_set_or (by decide) h with ⟨rfl, rfl⟩ | h
  · exact toldO_ok runS_ok tds100_ok B w0
  rcases get_set_or (by decide) h with ⟨rfl, rfl⟩ | h
  · exact toldO_ok runS_ok tds26_ok B w0
  rcases get_set_or (by decide) h with ⟨rfl, rfl⟩ | h
  · exact constH_ok runS_ok cut_run B w0
  · exact orcOk f g h B w0
theorem runK_ok : CallOk Tryz.prog runK := evCall_run tyOk ptOk fnOk orcK_ok (fun _ hc => snd tyOk hc) follows dnoOk flatOk 40
theorem known_run : okR (runK.fn 36 [] hE) true = true := by kernel_rfl
end Go.Proofs.YtagjbefkoakhfaaGreatDoor
