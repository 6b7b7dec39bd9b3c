/-
  DERIVED. GIVEN WITH THE SEED: THE CARDS: each row of YtcckdckhhkmcgaaGreatDoorRows.lean that lists a variable, with what it lists TIED to the program's text (the seventh form; the later family's looks); each row that meets fmt, with fmt's text TOLD by the authors' own Lean function (tested against real Go, not proved from fmt's source: count such statements apart). THE CARD IS WHAT COUNTS. Prove the row's statement (the work); the ties are given (YtcckdckhhkmcgaaGreatDoorTie.lean); close each card by the builder's one call (the guide's Derived/Test/ToyasCard.lean, 'card_holds'). Laid BY PROGRAM, IN A SANDBOX (cutbox-door.mjs). By AI agents, Wed Nov 11 2026. No macro, syntax, notation, axiom, sorry.
-/
import Derived.Test.YtcckdckhhkmcgaaGreatDoorRows
import GoSem.ClaimSeven
namespace Go.Proofs.YtcckdckhhkmcgaaGreatDoor
namespace Rows

/-- THE TIED CARD OF 'understudylaw24.ClusterNil'. -/
def clusterNilCard : Claim7 := { stood := { row := clusterNilRow, standIns := [], harness := (true, "882da249b58da50025f3a7e8eed6453cba096c941d341e7287eca74d7f493824"), looks := false }, kinds := [], alts := [], laidByText := true, laidKinds := [.data, .data, .data], laidTests := true, laidLooks := .later }
def ClusterNilCardSaid : Prop := Claim7.holds Tryz.pinned (.plain (OpenSpec.ofChange clusterNilSpec)) clusterNilCard

/-- THE SECOND FORM's CARD OF 'understudylaw24.ClusterNil'. -/
def clusterNilUptoCard : Claim7 := { stood := { row := clusterNilUptoRow, standIns := [], harness := (true, "882da249b58da50025f3a7e8eed6453cba096c941d341e7287eca74d7f493824"), looks := false }, kinds := [], alts := [], laidByText := true, laidKinds := [.data, .data, .data], laidTests := true, laidLooks := .later }
def ClusterNilUptoCardSaid : Prop := Claim7.holds Tryz.pinned (.plain (OpenSpec.upto clusterNilSpec)) clusterNilUptoCard
end Rows
end Go.Proofs.YtcckdckhhkmcgaaGreatDoor
