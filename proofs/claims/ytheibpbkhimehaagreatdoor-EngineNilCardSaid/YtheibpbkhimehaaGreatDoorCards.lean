/-
  DERIVED. GIVEN WITH THE SEED: THE CARDS: each row of YtheibpbkhimehaaGreatDoorRows.lean that lists a variable, with what it lists TIED to the program's text (the seventh form; the later family's looks); each row that meets fmt, with fmt's text TOLD by the authors' own Lean function (tested against real Go, not proved from fmt's source: count such statements apart). THE CARD IS WHAT COUNTS. Prove the row's statement (the work); the ties are given (YtheibpbkhimehaaGreatDoorTie.lean); close each card by the builder's one call (the guide's Derived/Test/ToyasCard.lean, 'card_holds'). Laid BY PROGRAM, IN A SANDBOX (cutbox-door.mjs). By AI agents, Wed Nov 11 2026. No macro, syntax, notation, axiom, sorry.
-/
import Derived.Test.YtheibpbkhimehaaGreatDoorRows
import GoSem.ClaimSeven
namespace Go.Proofs.YtheibpbkhimehaaGreatDoor
namespace Rows

/-- THE TIED CARD OF 'understudylaw15.EngineNil'. -/
def engineNilCard : Claim7 := { stood := { row := engineNilRow, standIns := [], harness := (true, "bcf476e7a3396cb9e0dad7020e99e24e31804cb1a72582d3b1f3c54e7b71f905"), looks := false }, kinds := [], alts := [], laidByText := true, laidKinds := [.data, .data, .data], laidTests := true, laidLooks := .later }
def EngineNilCardSaid : Prop := Claim7.holds Tryz.pinned (.plain (OpenSpec.ofChange engineNilSpec)) engineNilCard

/-- THE SECOND FORM's CARD OF 'understudylaw15.EngineNil'. -/
def engineNilUptoCard : Claim7 := { stood := { row := engineNilUptoRow, standIns := [], harness := (true, "bcf476e7a3396cb9e0dad7020e99e24e31804cb1a72582d3b1f3c54e7b71f905"), looks := false }, kinds := [], alts := [], laidByText := true, laidKinds := [.data, .data, .data], laidTests := true, laidLooks := .later }
def EngineNilUptoCardSaid : Prop := Claim7.holds Tryz.pinned (.plain (OpenSpec.upto engineNilSpec)) engineNilUptoCard
end Rows
end Go.Proofs.YtheibpbkhimehaaGreatDoor
