/-
  DERIVED. GIVEN WITH THE SEED: THE CARDS: each row of YtagjbefkoakhfaaGreatDoorRows.lean that lists a variable, with what it lists TIED to the program's text (the seventh form; the later family's looks); each row that meets fmt, with fmt's text TOLD by the authors' own Lean function (tested against real Go, not proved from fmt's source: count such statements apart). THE CARD IS WHAT COUNTS. Prove the row's statement (the work); the ties are given (YtagjbefkoakhfaaGreatDoorTie.lean); close each card by the builder's one call (the guide's Derived/Test/ToyasCard.lean, 'card_holds'). Laid BY PROGRAM, IN A SANDBOX (cutbox-door.mjs). By AI agents, Wed Nov 11 2026. No macro, syntax, notation, axiom, sorry.
-/
import Derived.Test.YtagjbefkoakhfaaGreatDoorRows
import GoSem.ClaimSeven
namespace Go.Proofs.YtagjbefkoakhfaaGreatDoor
namespace Rows

/-- THE TIED CARD OF 'understudylaw15.EngineNil'. -/
def engineNilCard : Claim7 := { stood := { row := engineNilRow, standIns := [], harness := (true, "e16c31f7ce99068b59dd8fec0343cd5469c0a2aaa1da53ca3f0d265264a182a9"), looks := false }, kinds := [], alts := [], laidByText := true, laidKinds := [.data, .data, .data], laidTests := true, laidLooks := .later }
def EngineNilCardSaid : Prop := Claim7.holds Tryz.pinned (.plain (OpenSpec.ofChange engineNilSpec)) engineNilCard

/-- THE TIED CARD OF 'understudylaw17.HotNil'. -/
def hotNilCard : Claim7 := { stood := { row := hotNilRow, standIns := [], harness := (true, "e16c31f7ce99068b59dd8fec0343cd5469c0a2aaa1da53ca3f0d265264a182a9"), looks := false }, kinds := [], alts := [], laidByText := true, laidKinds := [.data, .data, .data], laidTests := true, laidLooks := .later }
def HotNilCardSaid : Prop := Claim7.holds Tryz.pinned (.plain (OpenSpec.ofChange hotNilSpec)) hotNilCard

/-- THE SECOND FORM's CARD OF 'understudylaw15.EngineNil'. -/
def engineNilUptoCard : Claim7 := { stood := { row := engineNilUptoRow, standIns := [], harness := (true, "e16c31f7ce99068b59dd8fec0343cd5469c0a2aaa1da53ca3f0d265264a182a9"), looks := false }, kinds := [], alts := [], laidByText := true, laidKinds := [.data, .data, .data], laidTests := true, laidLooks := .later }
def EngineNilUptoCardSaid : Prop := Claim7.holds Tryz.pinned (.plain (OpenSpec.upto engineNilSpec)) engineNilUptoCard

/-- THE SECOND FORM's CARD OF 'understudylaw17.HotNil'. -/
def hotNilUptoCard : Claim7 := { stood := { row := hotNilUptoRow, standIns := [], harness := (true, "e16c31f7ce99068b59dd8fec0343cd5469c0a2aaa1da53ca3f0d265264a182a9"), looks := false }, kinds := [], alts := [], laidByText := true, laidKinds := [.data, .data, .data], laidTests := true, laidLooks := .later }
def HotNilUptoCardSaid : Prop := Claim7.holds Tryz.pinned (.plain (OpenSpec.upto hotNilSpec)) hotNilUptoCard
end Rows
end Go.Proofs.YtagjbefkoakhfaaGreatDoor
