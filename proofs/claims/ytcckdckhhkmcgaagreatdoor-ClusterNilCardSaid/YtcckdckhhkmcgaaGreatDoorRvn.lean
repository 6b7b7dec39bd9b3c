/- The law's closed run, cut into many by calls told. -/
import Derived.Test.YtcckdckhhkmcgaaGreatDoorTda
import Derived.Test.YtcckdckhhkmcgaaGreatDoorTdb
import Derived.Test.YtcckdckhhkmcgaaGreatDoorTdc
import Derived.Test.YtcckdckhhkmcgaaGreatDoorTdd
import Derived.Test.YtcckdckhhkmcgaaGreatDoorTde
import Derived.Test.YtcckdckhhkmcgaaGreatDoorTdf
namespace Go.Proofs.YtcckdckhhkmcgaaGreatDoor
open Go.RowKit

def Tdo : List Told := Tdb5 ++ (Tdc5 ++ (Tdd5 ++ (Tde5 ++ Tdf5)))
theorem tdo_ok : ∀ t ∈ Tdo, toldOk (runS.fn 5 t.xs ⟨t.nx, listT t.pre⟩) t = true := fun t ht => by
  unfold Tdo at ht
  simp only [List.mem_append] at ht
  rcases ht with h | h | h | h | h
  · exact tdb5_ok t h
  · exact tdc5_ok t h
  · exact tdd5_ok t h
  · exact tde5_ok t h
  · exact tdf5_ok t h
noncomputable def orcK : Tr OrcE := Tr.set 10 (Tr.set 10 orcS 28 (.leaf (toldO Tda28))) 5 (.leaf (toldO Tdo))
noncomputable def runK : CallE := evCall TyL dnoS flatS FnL PtL orcK 5000 40
theorem orcK_ok (f : FuncId) (g : OrcE) (h : Tr.get 10 orcK f = some g) (B : Nat → Prop) (w0 : World) : OrcOk Tryz.prog B w0 f g := by
  unfold orcK at h
  rcases get_set_or (by decide) h with ⟨rfl, rfl⟩ | h
  · exact toldO_ok runS_ok tdo_ok B w0
  rcases get_set_or (by decide) h with ⟨rfl, rfl⟩ | h
  · exact toldO_ok runM_ok tda28_ok B w0
  · exact orcOk f g h B w0
theorem runK_ok : CallOk Tryz.prog runK := evCall_run tyOk ptOk fnOk orcK_ok (fun _ hc => snd tyOk hc) follows dnoOk flatOk 40
theorem law_run : okR (runK.fn 3 [] hE) true = true := by kernel_rfl
end Go.Proofs.YtcckdckhhkmcgaaGreatDoor
