/- The run: the evaluator with its oracles. -/
import Derived.Test.YtkjgmakaidfgaaaGreatDoorPtb
import Derived.Test.YtkjgmakaidfgaaaGreatDoorSyn
import Derived.Test.YtkjgmakaidfgaaaGreatDoorSrk
namespace Go.Proofs.YtkjgmakaidfgaaaGreatDoor
open Go.RowKit

noncomputable def orcS : Tr OrcE :=
  Tr.set 10 (Tr.set 10 (Tr.set 10 (Tr.set 10 (Tr.set 10 (Tr.set 10 (Tr.set 10 .nil 163 (.leaf takeO)) 162 (.leaf (purO Pur162))) 165 (.leaf (purO Pur165))) 132 (.leaf (purO Pur132))) 248 (.leaf (purO Pur248)))
    178 (.leaf syncO)) 12 (.leaf (sortO fun f => hasN f keysL))
noncomputable def runS : CallE := evCall TyL dnoS flatS FnL PtL orcS 5000 40
theorem run_ok : okR (runS.fn 3 [] hE) true = true := by kernel_rfl
end Go.Proofs.YtkjgmakaidfgaaaGreatDoor
