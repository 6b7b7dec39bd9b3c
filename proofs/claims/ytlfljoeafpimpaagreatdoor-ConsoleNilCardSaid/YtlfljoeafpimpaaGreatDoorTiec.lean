/- The listed variables are tied to the text of the program: the closed facts, one by one. -/
import Derived.Test.YtlfljoeafpimpaaGreatDoorRows
import Derived.LaidByTextLater
import Derived.SevenTiedAt
import Derived.LaidSub
import Derived.LaidOnce
import Derived.KernelRfl
import Derived.Test.YtlfljoeafpimpaaGreatDoorClo
namespace Go.Proofs.YtlfljoeafpimpaaGreatDoor
open Go
set_option maxRecDepth 100000
theorem tie_waits : waiting Tryz.prog = Array.replicate Tryz.prog.globals.size false := Clo.waits
theorem vars_name : Tryz.prog.funcNamed "gosem.cut.vars" = some 891 := Clo.vars_named
theorem vars_id : varsId Tryz.prog = 891 := by
  unfold varsId
  rw [vars_name]
  rfl
theorem worded_eq (P : Program) (word : String) : P.worded word = P.funcs.toList.any fun fn => fn.body.isNone && fn.name == word := by
  unfold Program.worded
  rw [← Array.any_toList]
/-- what the door's run leaves, its function's number named -/
noncomputable def doorAt (P : Program) (g : FuncId) (n fuel M : Nat) (laid : List (String × DataW Unit)) (os : Os) (tape : Tape) : Option (List (String × DataW Unit) × List (DataW (List UInt8))) :=
  match runN P n (Machine.entering P (World.unlaid P os) tape g ⟨#[], #[], []⟩) with
  | .ended (.done _) w =>
    (DataW.laidRun P w.memory fuel ((laid.filter fun x => x.2.handleName?.isNone).map (·.1))).bind fun x =>
      if nodupBits M x.2 0 && laidRowsB P w.memory x.2 && (laid.filter fun x => x.2.handleName?.isSome && x.2.funcsIn?.isNone).all (handleAtB P w.memory)
      then (funcsRun P w.memory fuel ((funcsListed laid).map (·.1))).map fun y => (x.1, y) else none
  | _ => none
theorem doorAt_eq (P : Program) (n fuel M : Nat) (laid : List (String × DataW Unit)) (os : Os) (tape : Tape) : doorLeaves P n fuel M laid os tape = doorAt P (varsId P) n fuel M laid os tape := rfl
def laidL : List (String × DataW Unit) := [("math/bits.deBruijn32tab", Rows.laid_math_bits_deBruijn32tab), ("math/bits.deBruijn64tab", Rows.laid_math_bits_deBruijn64tab), ("internal/strconv.uint64pow10", Rows.laid_internal_strconv_uint64pow10), ("unicode/utf8.acceptRanges", Rows.laid_unicode_utf8_acceptRanges), ("strconv.ErrRange", Rows.laid_strconv_ErrRange), ("strconv.ErrSyntax", Rows.laid_strconv_ErrSyntax)]
theorem tie_w : Tryz.prog.worded (varsWordLater true) = true := by rw [worded_eq]; kernel_rfl
theorem tie_w' : Tryz.prog.worded (varsWordLater !true) = false := by rw [worded_eq]; kernel_rfl
theorem tie_root : Tryz.prog.worded rootWordLater = true := by rw [worded_eq]; kernel_rfl
theorem kb0 : Tryz.prog.kindBase "math/bits.deBruijn32tab" = some .data := by kernel_rfl
theorem kb1 : Tryz.prog.kindBase "math/bits.deBruijn64tab" = some .data := by kernel_rfl
theorem kb2 : Tryz.prog.kindBase "internal/strconv.uint64pow10" = some .data := by kernel_rfl
theorem kb3 : Tryz.prog.kindBase "unicode/utf8.acceptRanges" = some .data := by kernel_rfl
theorem kb4 : Tryz.prog.kindBase "strconv.ErrRange" = some .sentinel := by kernel_rfl
theorem kb5 : Tryz.prog.kindBase "strconv.ErrSyntax" = some .sentinel := by kernel_rfl
theorem tie_k : laidL.map (fun x => Tryz.prog.kindOfLater x.1) = ([.data, .data, .data, .data, .sentinel, .sentinel] : List LaidKind).map some := by
  simp only [laidL, List.map_cons, List.map_nil, Program.kindOfLater, kb0, kb1, kb2, kb3, kb4, kb5]
theorem tie_g : (Tryz.prog.funcNamed "gosem.cut.vars").isSome = true := by rw [vars_name]; rfl
theorem tie_n : varsNamedLaterB Tryz.prog (varsId Tryz.prog) laidL = true := by
  rw [vars_id]
  kernel_rfl
theorem door_run (os : Os) (tape : Tape) : doorAt Tryz.prog 891 72 8 65 laidL os tape = some (laidL.filter fun x => x.2.handleName?.isNone, (funcsListed laidL).map (·.2.funcsOut)) := by
  unfold doorAt World.unlaid begin
  rw [tie_waits]
  kernel_rfl
theorem tie_run (os : Os) (tape : Tape) : doorLeaves Tryz.prog 72 8 65 laidL os tape = some (laidL.filter fun x => x.2.handleName?.isNone, (funcsListed laidL).map (·.2.funcsOut)) := by
  rw [doorAt_eq, vars_id]
  exact door_run os tape
theorem seatTie1 : Tryz.prog.laidByTextLater [("math/bits.deBruijn32tab", Rows.laid_math_bits_deBruijn32tab), ("math/bits.deBruijn64tab", Rows.laid_math_bits_deBruijn64tab), ("internal/strconv.uint64pow10", Rows.laid_internal_strconv_uint64pow10), ("unicode/utf8.acceptRanges", Rows.laid_unicode_utf8_acceptRanges), ("strconv.ErrRange", Rows.laid_strconv_ErrRange), ("strconv.ErrSyntax", Rows.laid_strconv_ErrSyntax)] [.data, .data, .data, .data, .sentinel, .sentinel] true :=
  Program.laidByTextLater_by_one (laid := laidL) 72 8 65 tie_w tie_w' tie_root tie_k tie_g tie_n tie_run
theorem pin_laid_unicode_utf8_first : Tryz.pinned.checked.prog.pinnedFits "unicode/utf8.first" = true := by kernel_rfl
theorem noOwnUnsafe : Tryz.pinned.checked.prog.headLifts.contains "ownunsafe" = false := by kernel_rfl
theorem fits1 : Tryz.pinned.checked.prog.listedFits [("math/bits.deBruijn32tab", Rows.laid_math_bits_deBruijn32tab), ("math/bits.deBruijn64tab", Rows.laid_math_bits_deBruijn64tab), ("internal/strconv.uint64pow10", Rows.laid_internal_strconv_uint64pow10), ("unicode/utf8.acceptRanges", Rows.laid_unicode_utf8_acceptRanges), ("strconv.ErrRange", Rows.laid_strconv_ErrRange), ("strconv.ErrSyntax", Rows.laid_strconv_ErrSyntax), ("unicode/utf8.first", Rows.laid_unicode_utf8_first)] = true := by
  unfold Program.listedFits
  rw [noOwnUnsafe]
  kernel_rfl
theorem tie : Tryz.prog.laidByTextLater [("math/bits.deBruijn32tab", Rows.laid_math_bits_deBruijn32tab), ("math/bits.deBruijn64tab", Rows.laid_math_bits_deBruijn64tab), ("internal/strconv.uint64pow10", Rows.laid_internal_strconv_uint64pow10), ("unicode/utf8.acceptRanges", Rows.laid_unicode_utf8_acceptRanges), ("strconv.ErrRange", Rows.laid_strconv_ErrRange), ("strconv.ErrSyntax", Rows.laid_strconv_ErrSyntax)] [.data, .data, .data, .data, .sentinel, .sentinel] true :=
  Program.laidByTextLater.sub seatTie1 ["math/bits.deBruijn32tab", "math/bits.deBruijn64tab", "internal/strconv.uint64pow10", "unicode/utf8.acceptRanges", "strconv.ErrRange", "strconv.ErrSyntax"] (by kernel_rfl) (by kernel_rfl)
theorem consoleNil_row_tie : Rows.consoleNilRow.laidByTextAt .later Tryz.pinned [.data, .data, .data, .data, .sentinel, .sentinel, .pinned] true :=
  OpenClaim.laidByTextAt_pinned rfl rfl tie rfl rfl rfl rfl (fun y hy _e => by
    simp only [Rows.consoleNilRow, List.zip_cons_cons, List.zip_nil_right, List.mem_cons, List.mem_nil_iff, or_false] at hy
    rcases hy with rfl | rfl | rfl | rfl | rfl | rfl | rfl
    · cases _e
    · cases _e
    · cases _e
    · cases _e
    · cases _e
    · cases _e
    · exact ⟨pin_laid_unicode_utf8_first, by kernel_rfl⟩) fits1

end Go.Proofs.YtlfljoeafpimpaaGreatDoor
