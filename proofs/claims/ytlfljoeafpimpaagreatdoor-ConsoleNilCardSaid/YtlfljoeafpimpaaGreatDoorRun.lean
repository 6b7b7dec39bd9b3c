/- The evaluator with its oracles. -/
import Derived.Test.YtlfljoeafpimpaaGreatDoorPtb
import Derived.Test.YtlfljoeafpimpaaGreatDoorSyn
import Derived.Test.YtlfljoeafpimpaaGreatDoorSrk
namespace Go.Proofs.YtlfljoeafpimpaaGreatDoor
open Go.RowKit

noncomputable def orcS : Tr OrcE :=
  Tr.set 10 (Tr.set 10 (Tr.set 10 (Tr.set 10 (Tr.set 10 (Tr.set 10 (Tr.set 10 .nil 432 (.leaf takeO)) 431 (.leaf (purO Pur431))) 430 (.leaf (purO Pur430))) 242 (.leaf (purO Pur242))) 876 (.leaf (purO Pur876)))
    336 (.leaf syncO)) 302 (.leaf (sortO fun f => hasN f keysL))
noncomputable def runS : CallE := evCall TyL dnoS flatS FnL PtL orcS 5000 40
end Go.Proofs.YtlfljoeafpimpaaGreatDoor
