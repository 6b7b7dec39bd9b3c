/- The run: the evaluator with its oracles. -/
import Derived.Test.YtheibpbkhimehaaGreatDoorPtb
import Derived.Test.YtheibpbkhimehaaGreatDoorSyn
import Derived.Test.YtheibpbkhimehaaGreatDoorSrk
namespace Go.Proofs.YtheibpbkhimehaaGreatDoor
open Go.RowKit

noncomputable def orcS : Tr OrcE :=
  Tr.set 10 (Tr.set 10 (Tr.set 10 (Tr.set 10 (Tr.set 10 (Tr.set 10 (Tr.set 10 .nil 339 (.leaf takeO)) 338 (.leaf (purO Pur338))) 169 (.leaf (purO Pur169))) 320 (.leaf (purO Pur320))) 451 (.leaf (purO Pur451)))
    308 (.leaf syncO)) 177 (.leaf (sortO fun f => hasN f keysL))
noncomputable def runS : CallE := evCall TyL dnoS flatS FnL PtL orcS 5000 40
theorem run_ok : okR (runS.fn 3 [] hE) true = true := by kernel_rfl
end Go.Proofs.YtheibpbkhimehaaGreatDoor
