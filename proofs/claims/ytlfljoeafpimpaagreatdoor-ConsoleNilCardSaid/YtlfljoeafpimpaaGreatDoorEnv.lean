/- What a run takes of the world's variables: the table of powers of ten, the error of a wrong syntax. -/
import Derived.Test.YtlfljoeafpimpaaGreatDoorEva
import Derived.Lib.LaidTab
import Derived.Lib.ItoaNum
import Derived.Test.YtlfljoeafpimpaaGreatDoorProg
import Derived.KernelRfl
namespace Go.Proofs.YtlfljoeafpimpaaGreatDoor
/-- the blocks of the variables that a run may ask -/
def envG (g : Nat) : Prop := g = 1 ∨ g = 2
/-- what is known of such a block -/
structure envP (g : Nat) (o : Option Obj) : Prop where
  tab : g = 1 → ∃ t fr, o = some (.cells (Lib.pow10Tab.map fun z => Value.int .u64 z).toArray t fr)
  syn : g = 2 → ∃ tp p t fr, o = some (.cells #[.iface tp p] t fr)
end Go.Proofs.YtlfljoeafpimpaaGreatDoor
