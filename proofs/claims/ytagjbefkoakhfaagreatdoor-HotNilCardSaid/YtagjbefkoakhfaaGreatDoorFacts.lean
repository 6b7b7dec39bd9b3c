/- The closed facts of the row, one by one. -/
import Derived.Test.YtagjbefkoakhfaaGreatDoorSeat
namespace Go.Proofs.YtagjbefkoakhfaaGreatDoor.lawHotNil
open Go.ChangeShapes Go.WideShapes Go.ChangeAt Go.RowKit

set_option maxRecDepth 100000 in
set_option maxHeartbeats 100000000 in
theorem facts : joinedFacts Tryz.checked.prog 4 Tryz.f4 Rows.hotNilSpec Rows.hotNilRow = true := by
  unfold joinedFacts
  simp only [Bool.and_eq_true]
  repeat' apply And.intro
  all_goals (as_aux_lemma => kernel_rfl)
end Go.Proofs.YtagjbefkoakhfaaGreatDoor.lawHotNil
