/- The listed variables are tied to the text of the program: the closed facts, one by one. -/
import Derived.Test.YtcckdckhhkmcgaaGreatDoorRows
import Derived.LaidByTextLater
import Derived.SevenTiedAt
import Derived.LaidSub
import Derived.LaidOnce
import Derived.KernelRfl
namespace Go.Proofs.YtcckdckhhkmcgaaGreatDoor
open Go
set_option maxRecDepth 100000
theorem noOwnUnsafe : Tryz.pinned.checked.prog.headLifts.contains "ownunsafe" = false := by kernel_rfl
def laidL : List (String × DataW Unit) := [("math/bits.deBruijn32tab", Rows.laid_math_bits_deBruijn32tab), ("math/bits.deBruijn64tab", Rows.laid_math_bits_deBruijn64tab), ("internal/strconv.uint64pow10", Rows.laid_internal_strconv_uint64pow10)]
theorem tie_w : Tryz.prog.worded (varsWordLater true) = true := by kernel_rfl
theorem tie_w' : Tryz.prog.worded (varsWordLater !true) = false := by kernel_rfl
theorem tie_root : Tryz.prog.worded rootWordLater = true := by kernel_rfl
theorem tie_k : laidL.map (fun x => Tryz.prog.kindOfLater x.1) = ([.data, .data, .data] : List LaidKind).map some := by kernel_rfl
theorem tie_g : (Tryz.prog.funcNamed "gosem.cut.vars").isSome = true := by kernel_rfl
theorem tie_n : varsNamedLaterB Tryz.prog (varsId Tryz.prog) laidL = true := by kernel_rfl
theorem tie_run (os : Os) (tape : Tape) : doorLeaves Tryz.prog 24 8 65 laidL os tape = some (laidL.filter fun x => x.2.handleName?.isNone, (funcsListed laidL).map (·.2.funcsOut)) := by kernel_rfl
theorem tie : Tryz.prog.laidByTextLater laidL [.data, .data, .data] true :=
  Program.laidByTextLater_by_one 24 8 65 tie_w tie_w' tie_root tie_k tie_g tie_n tie_run
theorem clusterNil_row_tie : Rows.clusterNilRow.laidByTextAt .later Tryz.pinned [.data, .data, .data] true :=
  OpenClaim.laidByTextAt_later rfl rfl tie noOwnUnsafe
end Go.Proofs.YtcckdckhhkmcgaaGreatDoor
