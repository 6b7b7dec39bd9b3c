/-
  DERIVED. GIVEN WITH THE SEED: THE CARDS: each row of YtnjmdljnmnpecaaGreatDoorRows.lean that lists a variable, with what it lists TIED to the program's text (the seventh form; the later family's looks); each row that meets fmt, with fmt's text TOLD by the authors' own Lean function (tested against real Go, not proved from fmt's source: count such statements apart). THE CARD IS WHAT COUNTS. Prove the row's statement (the work); the ties are given (YtnjmdljnmnpecaaGreatDoorTie.lean); close each card by the builder's one call (the guide's Derived/Test/ToyasCard.lean, 'card_holds'). Laid BY PROGRAM, IN A SANDBOX (cutbox-door.mjs). By AI agents, Wed Nov 11 2026. No macro, syntax, notation, axiom, sorry.
-/
import Derived.Test.YtnjmdljnmnpecaaGreatDoorRows
import GoSem.ClaimSeven
namespace Go.Proofs.YtnjmdljnmnpecaaGreatDoor
namespace Rows

/-- THE TIED CARD OF 'understudylaw21.PromoteGreatest'. -/
def promoteGreatestCard : Claim7 := { stood := { row := promoteGreatestRow, standIns := [], harness := (true, "e5c502e529ab5717363ede8778c8c43b22c818912ffef719e5f1cc825f2deee9"), looks := false }, kinds := [], alts := [], laidByText := true, laidKinds := [.data, .data, .data], laidTests := true, laidLooks := .later }
def PromoteGreatestCardSaid : Prop := Claim7.holds Tryz.pinned (.plain (OpenSpec.ofChange promoteGreatestSpec)) promoteGreatestCard

/-- THE TIED CARD OF 'understudylaw21.PromoteNil'. -/
def promoteNilCard : Claim7 := { stood := { row := promoteNilRow, standIns := [], harness := (true, "e5c502e529ab5717363ede8778c8c43b22c818912ffef719e5f1cc825f2deee9"), looks := false }, kinds := [], alts := [], laidByText := true, laidKinds := [.data, .data, .data], laidTests := true, laidLooks := .later }
def PromoteNilCardSaid : Prop := Claim7.holds Tryz.pinned (.plain (OpenSpec.ofChange promoteNilSpec)) promoteNilCard

/-- THE SECOND FORM's CARD OF 'understudylaw21.PromoteGreatest'. -/
def promoteGreatestUptoCard : Claim7 := { stood := { row := promoteGreatestUptoRow, standIns := [], harness := (true, "e5c502e529ab5717363ede8778c8c43b22c818912ffef719e5f1cc825f2deee9"), looks := false }, kinds := [], alts := [], laidByText := true, laidKinds := [.data, .data, .data], laidTests := true, laidLooks := .later }
def PromoteGreatestUptoCardSaid : Prop := Claim7.holds Tryz.pinned (.plain (OpenSpec.upto promoteGreatestSpec)) promoteGreatestUptoCard

/-- THE SECOND FORM's CARD OF 'understudylaw21.PromoteNil'. -/
def promoteNilUptoCard : Claim7 := { stood := { row := promoteNilUptoRow, standIns := [], harness := (true, "e5c502e529ab5717363ede8778c8c43b22c818912ffef719e5f1cc825f2deee9"), looks := false }, kinds := [], alts := [], laidByText := true, laidKinds := [.data, .data, .data], laidTests := true, laidLooks := .later }
def PromoteNilUptoCardSaid : Prop := Claim7.holds Tryz.pinned (.plain (OpenSpec.upto promoteNilSpec)) promoteNilUptoCard
end Rows
end Go.Proofs.YtnjmdljnmnpecaaGreatDoor
