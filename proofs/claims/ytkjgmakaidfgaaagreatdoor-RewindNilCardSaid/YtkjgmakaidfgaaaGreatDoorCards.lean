/-
  DERIVED. GIVEN WITH THE SEED: THE CARDS: each row of YtkjgmakaidfgaaaGreatDoorRows.lean that lists a variable, with what it lists TIED to the program's text (the seventh form; the later family's looks); each row that meets fmt, with fmt's text TOLD by the authors' own Lean function (tested against real Go, not proved from fmt's source: count such statements apart). THE CARD IS WHAT COUNTS. Prove the row's statement (the work); the ties are given (YtkjgmakaidfgaaaGreatDoorTie.lean); close each card by the builder's one call (the guide's Derived/Test/ToyasCard.lean, 'card_holds'). Laid BY PROGRAM, IN A SANDBOX (cutbox-door.mjs). By AI agents, Wed Nov 11 2026. No macro, syntax, notation, axiom, sorry.
-/
import Derived.Test.YtkjgmakaidfgaaaGreatDoorRows
import GoSem.ClaimSeven
namespace Go.Proofs.YtkjgmakaidfgaaaGreatDoor
namespace Rows

/-- THE TIED CARD OF 'understudylaw22.RewindNil'. -/
def rewindNilCard : Claim7 := { stood := { row := rewindNilRow, standIns := [], harness := (true, "8200d0e5974e3989d9b2b96490ea93f80b5ebdf408abca9f9a6af1c251cf0fe0"), looks := false }, kinds := [], alts := [], laidByText := true, laidKinds := [.data, .data, .data], laidTests := true, laidLooks := .later }
def RewindNilCardSaid : Prop := Claim7.holds Tryz.pinned (.plain (OpenSpec.ofChange rewindNilSpec)) rewindNilCard

/-- THE SECOND FORM's CARD OF 'understudylaw22.RewindNil'. -/
def rewindNilUptoCard : Claim7 := { stood := { row := rewindNilUptoRow, standIns := [], harness := (true, "8200d0e5974e3989d9b2b96490ea93f80b5ebdf408abca9f9a6af1c251cf0fe0"), looks := false }, kinds := [], alts := [], laidByText := true, laidKinds := [.data, .data, .data], laidTests := true, laidLooks := .later }
def RewindNilUptoCardSaid : Prop := Claim7.holds Tryz.pinned (.plain (OpenSpec.upto rewindNilSpec)) rewindNilUptoCard
end Rows
end Go.Proofs.YtkjgmakaidfgaaaGreatDoor
