/- ClusterNil: the law's call answers true. -/
import Derived.Test.YtcckdckhhkmcgaaGreatDoorRvn
namespace Go.Proofs.YtcckdckhhkmcgaaGreatDoor
open Go.RowKit

theorem clusterNil_calls (w : World) : Calls Tryz.prog 3 #[] w fun en w' => en = .returned (.bool true) ∧ Below w.heap.size w w' := by
  obtain ⟨h', hv⟩ := okR_some law_run
  exact (from_nothing (xs := []) runK_ok trivial hv trivial e0 w).2
end Go.Proofs.YtcckdckhhkmcgaaGreatDoor
