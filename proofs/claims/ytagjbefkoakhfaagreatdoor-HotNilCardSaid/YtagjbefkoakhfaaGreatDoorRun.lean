/- The evaluator with its oracles. -/
import Derived.Test.YtagjbefkoakhfaaGreatDoorPtb
import Derived.Test.YtagjbefkoakhfaaGreatDoorSyn
import Derived.Test.YtagjbefkoakhfaaGreatDoorSrk
namespace Go.Proofs.YtagjbefkoakhfaaGreatDoor
open Go.RowKit

noncomputable def orcS : Tr OrcE :=
  Tr.set 10 (Tr.set 10 (Tr.set 10 (Tr.set 10 (Tr.set 10 (Tr.set 10 (Tr.set 10 .nil 391 (.leaf takeO)) 390 (.leaf (purO Pur390))) 208 (.leaf (purO Pur208))) 362 (.leaf (purO Pur362))) 500 (.leaf (purO Pur500)))
    351 (.leaf syncO)) 216 (.leaf (sortO fun f => hasN f keysL))
noncomputable def runS : CallE := evCall TyL dnoS flatS FnL PtL orcS 5000 40
end Go.Proofs.YtagjbefkoakhfaaGreatDoor
