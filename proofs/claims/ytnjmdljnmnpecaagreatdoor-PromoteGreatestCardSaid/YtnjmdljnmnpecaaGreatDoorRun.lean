/- The run: the evaluator with its oracles. -/
import Derived.Test.YtnjmdljnmnpecaaGreatDoorPtb
import Derived.Test.YtnjmdljnmnpecaaGreatDoorSyn
import Derived.Test.YtnjmdljnmnpecaaGreatDoorSrk
namespace Go.Proofs.YtnjmdljnmnpecaaGreatDoor
open Go.RowKit

noncomputable def orcS : Tr OrcE :=
  Tr.set 10 (Tr.set 10 (Tr.set 10 (Tr.set 10 (Tr.set 10 (Tr.set 10 (Tr.set 10 .nil 194 (.leaf takeO)) 193 (.leaf (purO Pur193))) 101 (.leaf (purO Pur101))) 143 (.leaf (purO Pur143))) 420 (.leaf (purO Pur420)))
    146 (.leaf syncO)) 137 (.leaf (sortO fun f => hasN f keysL))
noncomputable def runS : CallE := evCall TyL dnoS flatS FnL PtL orcS 5000 40
theorem run_ok : okR (runS.fn 4 [] hE) true = true := by kernel_rfl
end Go.Proofs.YtnjmdljnmnpecaaGreatDoor
