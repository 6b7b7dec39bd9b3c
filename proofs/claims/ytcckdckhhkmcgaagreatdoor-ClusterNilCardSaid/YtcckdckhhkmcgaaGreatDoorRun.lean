/- The evaluator with its oracles. -/
import Derived.Test.YtcckdckhhkmcgaaGreatDoorPtb
import Derived.Test.YtcckdckhhkmcgaaGreatDoorSyn
import Derived.Test.YtcckdckhhkmcgaaGreatDoorSrk
namespace Go.Proofs.YtcckdckhhkmcgaaGreatDoor
open Go.RowKit

noncomputable def orcS : Tr OrcE :=
  Tr.set 10 (Tr.set 10 (Tr.set 10 (Tr.set 10 (Tr.set 10 (Tr.set 10 (Tr.set 10 .nil 390 (.leaf takeO)) 389 (.leaf (purO Pur389))) 316 (.leaf (purO Pur316))) 253 (.leaf (purO Pur253))) 737 (.leaf (purO Pur737)))
    332 (.leaf syncO)) 114 (.leaf (sortO fun f => hasN f keysL))
noncomputable def runS : CallE := evCall TyL dnoS flatS FnL PtL orcS 5000 40
end Go.Proofs.YtcckdckhhkmcgaaGreatDoor
