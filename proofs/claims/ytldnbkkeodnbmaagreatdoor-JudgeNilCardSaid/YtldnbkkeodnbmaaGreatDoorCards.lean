/-
  DERIVED. GIVEN WITH THE SEED: THE CARDS: each row of YtldnbkkeodnbmaaGreatDoorRows.lean that lists a variable, with what it lists TIED to the program's text (the seventh form; the later family's looks); each row that meets fmt, with fmt's text TOLD by the authors' own Lean function (tested against real Go, not proved from fmt's source: count such statements apart). THE CARD IS WHAT COUNTS. Prove the row's statement (the work); the ties are given (YtldnbkkeodnbmaaGreatDoorTie.lean); close each card by the builder's one call (the guide's Derived/Test/ToyasCard.lean, 'card_holds'). Laid BY PROGRAM, IN A SANDBOX (cutbox-door.mjs). By AI agents, Wed Nov 11 2026. No macro, syntax, notation, axiom, sorry.
-/
import Derived.Test.YtldnbkkeodnbmaaGreatDoorRows
import GoSem.ClaimSeven
namespace Go.Proofs.YtldnbkkeodnbmaaGreatDoor
namespace Rows

/-- THE TIED CARD OF 'understudylaw26.JudgeNil'. -/
def judgeNilCard : Claim7 := { stood := { row := judgeNilRow, standIns := [], harness := (true, "e56bc44ed29712a74e547a744ee28a51e8bcd8ba3e31b4a955387429ef137798"), looks := false }, kinds := [], alts := [], laidByText := true, laidKinds := [.data, .data, .data], laidTests := true, laidLooks := .later }
def JudgeNilCardSaid : Prop := Claim7.holds Tryz.pinned (.plain (OpenSpec.ofChange judgeNilSpec)) judgeNilCard

/-- THE SECOND FORM's CARD OF 'understudylaw26.JudgeNil'. -/
def judgeNilUptoCard : Claim7 := { stood := { row := judgeNilUptoRow, standIns := [], harness := (true, "e56bc44ed29712a74e547a744ee28a51e8bcd8ba3e31b4a955387429ef137798"), looks := false }, kinds := [], alts := [], laidByText := true, laidKinds := [.data, .data, .data], laidTests := true, laidLooks := .later }
def JudgeNilUptoCardSaid : Prop := Claim7.holds Tryz.pinned (.plain (OpenSpec.upto judgeNilSpec)) judgeNilUptoCard
end Rows
end Go.Proofs.YtldnbkkeodnbmaaGreatDoor
