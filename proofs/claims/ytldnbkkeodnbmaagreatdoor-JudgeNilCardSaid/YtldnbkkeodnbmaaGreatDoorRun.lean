/- The run: the evaluator with its oracles. -/
import Derived.Test.YtldnbkkeodnbmaaGreatDoorPtb
import Derived.Test.YtldnbkkeodnbmaaGreatDoorSyn
import Derived.Test.YtldnbkkeodnbmaaGreatDoorSrk
namespace Go.Proofs.YtldnbkkeodnbmaaGreatDoor
open Go.RowKit

noncomputable def orcS : Tr OrcE :=
  Tr.set 10 (Tr.set 10 (Tr.set 10 (Tr.set 10 (Tr.set 10 (Tr.set 10 (Tr.set 10 .nil 160 (.leaf takeO)) 159 (.leaf (purO Pur159))) 158 (.leaf (purO Pur158))) 105 (.leaf (purO Pur105))) 483 (.leaf (purO Pur483)))
    139 (.leaf syncO)) 232 (.leaf (sortO fun f => hasN f keysL))
noncomputable def runS : CallE := evCall TyL dnoS flatS FnL PtL orcS 5000 40
theorem run_ok : okR (runS.fn 3 [] hE) true = true := by kernel_rfl
end Go.Proofs.YtldnbkkeodnbmaaGreatDoor
