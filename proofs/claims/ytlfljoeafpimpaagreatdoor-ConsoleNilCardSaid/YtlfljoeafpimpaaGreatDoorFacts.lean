/- The closed facts of the row, one by one; those that go over all of a great program out of the text Clo. -/
import Derived.Test.YtlfljoeafpimpaaGreatDoorSeat
import Derived.Test.YtlfljoeafpimpaaGreatDoorClo
namespace Go.Proofs.YtlfljoeafpimpaaGreatDoor.lawConsoleNil
open Go.ChangeShapes Go.WideShapes Go.ChangeAt Go.RowKit

set_option maxRecDepth 100000 in
set_option maxHeartbeats 100000000 in
theorem facts : joinedFacts Tryz.checked.prog 3 Tryz.f3 Rows.consoleNilSpec Rows.consoleNilRow = true := by
  unfold joinedFacts
  simp only [Bool.and_eq_true]
  repeat' apply And.intro
  all_goals (first
    | with_reducible exact Clo.laidOut
    | with_reducible exact Clo.mapsRow
    | with_reducible exact Clo.inPlace
    | with_reducible exact Clo.unfollowed
    | with_reducible exact Clo.recurses
    | with_reducible exact Clo.named
    | with_reducible exact Clo.stopsHeard
    | with_reducible exact Clo.mayEnter
    | (as_aux_lemma => kernel_rfl))
end Go.Proofs.YtlfljoeafpimpaaGreatDoor.lawConsoleNil
