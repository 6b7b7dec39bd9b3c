/- HotNil: the law's call answers true. -/
import Derived.Test.YtagjbefkoakhfaaGreatDoorRvn
namespace Go.Proofs.YtagjbefkoakhfaaGreatDoor
open Go.RowKit

noncomputable def orcL : Tr OrcE := Tr.set 10 orcS 36 (.leaf (constO [] (.lit (.bool true))))
noncomputable def runL : CallE := evCall TyL dnoS flatS FnL PtL orcL 5000 40
theorem orcL_ok (f : FuncId) (g : OrcE) (h : Tr.get 10 orcL f = some g) (B : Nat → Prop) (w0 : World) : OrcOk Tryz.prog B w0 f g := by
  unfold orcL at h
  rcases get_set_or (by decide) h with ⟨rfl, rfl⟩ | h
  · obtain ⟨h', hv⟩ := okR_some known_run
    exact constO_ok (xs := []) (h1 := h') runK_ok trivial hv trivial B w0
  · exact orcOk f g h B w0
theorem runL_ok : CallOk Tryz.prog runL := evCall_run tyOk ptOk fnOk orcL_ok (fun _ hc => snd tyOk hc) follows dnoOk flatOk 40
theorem law_run : okR (runL.fn 4 [] hE) true = true := by kernel_rfl
theorem hotNil_calls (w : World) : Calls Tryz.prog 4 #[] w fun en w' => en = .returned (.bool true) ∧ Below w.heap.size w w' := by
  obtain ⟨h', hv⟩ := okR_some law_run
  exact (from_nothing (xs := []) runL_ok trivial hv trivial e0 w).2
end Go.Proofs.YtagjbefkoakhfaaGreatDoor
