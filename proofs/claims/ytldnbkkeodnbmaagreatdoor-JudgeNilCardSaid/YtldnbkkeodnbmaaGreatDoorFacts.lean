/- The closed facts of the row, one by one. -/
import Derived.Test.YtldnbkkeodnbmaaGreatDoorSeat
namespace Go.Proofs.YtldnbkkeodnbmaaGreatDoor.lawJudgeNil
open Go.ChangeShapes Go.WideShapes Go.ChangeAt Go.RowKit

set_option maxRecDepth 100000 in
set_option maxHeartbeats 100000000 in
theorem facts : joinedFacts Tryz.checked.prog 3 Tryz.f3 Rows.judgeNilSpec Rows.judgeNilRow = true := by
  unfold joinedFacts
  simp only [Bool.and_eq_true]
  repeat' apply And.intro
  all_goals (as_aux_lemma => kernel_rfl)
end Go.Proofs.YtldnbkkeodnbmaaGreatDoor.lawJudgeNil
