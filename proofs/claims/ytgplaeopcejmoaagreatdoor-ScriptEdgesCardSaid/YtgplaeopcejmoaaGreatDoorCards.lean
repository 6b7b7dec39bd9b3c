/-
  DERIVED. GIVEN WITH THE SEED: THE CARDS: each row of YtgplaeopcejmoaaGreatDoorRows.lean that lists a variable, with what it lists TIED to the program's text (the seventh form; the later family's looks); each row that meets fmt, with fmt's text TOLD by the authors' own Lean function (tested against real Go, not proved from fmt's source: count such statements apart). THE CARD IS WHAT COUNTS. Prove the row's statement (the work); the ties are given (YtgplaeopcejmoaaGreatDoorTie.lean); close each card by the builder's one call (the guide's Derived/Test/ToyasCard.lean, 'card_holds'). Laid BY PROGRAM, IN A SANDBOX (cutbox-door.mjs). By AI agents, Wed Nov 11 2026. No macro, syntax, notation, axiom, sorry.
-/
import Derived.Test.YtgplaeopcejmoaaGreatDoorRows
import GoSem.ClaimSeven
namespace Go.Proofs.YtgplaeopcejmoaaGreatDoor
namespace Rows

/-- THE TIED CARD OF 'understudylaw27.ScriptSilence'. -/
def scriptSilenceCard : Claim7 := { stood := { row := scriptSilenceRow, standIns := [], harness := (true, "168899ba11ea8246caa9932441e29ea52946b4a3d310ba4736663ae62aff4e04"), looks := true }, kinds := [], alts := [], laidByText := true, laidKinds := [.data, .data, .data, .data, .sentinel, .sentinel, .pinned], laidTests := true, laidLooks := .later }
def ScriptSilenceCardSaid : Prop := Claim7.holds Tryz.pinned (.plain (OpenSpec.ofChange scriptSilenceSpec)) scriptSilenceCard

/-- THE TIED CARD OF 'understudylaw27.ScriptOrders'. -/
def scriptOrdersCard : Claim7 := { stood := { row := scriptOrdersRow, standIns := [], harness := (true, "168899ba11ea8246caa9932441e29ea52946b4a3d310ba4736663ae62aff4e04"), looks := true }, kinds := [], alts := [], laidByText := true, laidKinds := [.data, .data, .data, .data, .sentinel, .sentinel, .pinned], laidTests := true, laidLooks := .later }
def ScriptOrdersCardSaid : Prop := Claim7.holds Tryz.pinned (.plain (OpenSpec.ofChange scriptOrdersSpec)) scriptOrdersCard

/-- THE TIED CARD OF 'understudylaw27.ScriptDeeds'. -/
def scriptDeedsCard : Claim7 := { stood := { row := scriptDeedsRow, standIns := [], harness := (true, "168899ba11ea8246caa9932441e29ea52946b4a3d310ba4736663ae62aff4e04"), looks := true }, kinds := [], alts := [], laidByText := true, laidKinds := [.data, .data, .data, .data, .sentinel, .sentinel, .pinned], laidTests := true, laidLooks := .later }
def ScriptDeedsCardSaid : Prop := Claim7.holds Tryz.pinned (.plain (OpenSpec.ofChange scriptDeedsSpec)) scriptDeedsCard

/-- THE TIED CARD OF 'understudylaw27.ScriptReads'. -/
def scriptReadsCard : Claim7 := { stood := { row := scriptReadsRow, standIns := [], harness := (true, "168899ba11ea8246caa9932441e29ea52946b4a3d310ba4736663ae62aff4e04"), looks := true }, kinds := [], alts := [], laidByText := true, laidKinds := [.data, .data, .data, .data, .sentinel, .sentinel, .pinned], laidTests := true, laidLooks := .later }
def ScriptReadsCardSaid : Prop := Claim7.holds Tryz.pinned (.plain (OpenSpec.ofChange scriptReadsSpec)) scriptReadsCard

/-- THE TIED CARD OF 'understudylaw27.ScriptPairs'. -/
def scriptPairsCard : Claim7 := { stood := { row := scriptPairsRow, standIns := [], harness := (true, "168899ba11ea8246caa9932441e29ea52946b4a3d310ba4736663ae62aff4e04"), looks := true }, kinds := [], alts := [], laidByText := true, laidKinds := [.data, .data, .data, .data, .sentinel, .sentinel, .pinned], laidTests := true, laidLooks := .later }
def ScriptPairsCardSaid : Prop := Claim7.holds Tryz.pinned (.plain (OpenSpec.ofChange scriptPairsSpec)) scriptPairsCard

/-- THE TIED CARD OF 'understudylaw27.ScriptFiles'. -/
def scriptFilesCard : Claim7 := { stood := { row := scriptFilesRow, standIns := [], harness := (true, "168899ba11ea8246caa9932441e29ea52946b4a3d310ba4736663ae62aff4e04"), looks := true }, kinds := [], alts := [], laidByText := true, laidKinds := [.data, .data, .data, .data, .sentinel, .sentinel, .pinned], laidTests := true, laidLooks := .later }
def ScriptFilesCardSaid : Prop := Claim7.holds Tryz.pinned (.plain (OpenSpec.ofChange scriptFilesSpec)) scriptFilesCard

/-- THE TIED CARD OF 'understudylaw27.ScriptWeaves'. -/
def scriptWeavesCard : Claim7 := { stood := { row := scriptWeavesRow, standIns := [], harness := (true, "168899ba11ea8246caa9932441e29ea52946b4a3d310ba4736663ae62aff4e04"), looks := true }, kinds := [], alts := [], laidByText := true, laidKinds := [.data, .data, .data, .data, .sentinel, .sentinel, .pinned], laidTests := true, laidLooks := .later }
def ScriptWeavesCardSaid : Prop := Claim7.holds Tryz.pinned (.plain (OpenSpec.ofChange scriptWeavesSpec)) scriptWeavesCard

/-- THE TIED CARD OF 'understudylaw27.ScriptEdges'. -/
def scriptEdgesCard : Claim7 := { stood := { row := scriptEdgesRow, standIns := [], harness := (true, "168899ba11ea8246caa9932441e29ea52946b4a3d310ba4736663ae62aff4e04"), looks := true }, kinds := [], alts := [], laidByText := true, laidKinds := [.data, .data, .data, .data, .sentinel, .sentinel, .pinned], laidTests := true, laidLooks := .later }
def ScriptEdgesCardSaid : Prop := Claim7.holds Tryz.pinned (.plain (OpenSpec.ofChange scriptEdgesSpec)) scriptEdgesCard

/-- THE SECOND FORM's CARD OF 'understudylaw27.ScriptSilence'. -/
def scriptSilenceUptoCard : Claim7 := { stood := { row := scriptSilenceUptoRow, standIns := [], harness := (true, "168899ba11ea8246caa9932441e29ea52946b4a3d310ba4736663ae62aff4e04"), looks := true }, kinds := [], alts := [], laidByText := true, laidKinds := [.data, .data, .data, .data, .sentinel, .sentinel, .pinned], laidTests := true, laidLooks := .later }
def ScriptSilenceUptoCardSaid : Prop := Claim7.holds Tryz.pinned (.plain (OpenSpec.upto scriptSilenceSpec)) scriptSilenceUptoCard

/-- THE SECOND FORM's CARD OF 'understudylaw27.ScriptOrders'. -/
def scriptOrdersUptoCard : Claim7 := { stood := { row := scriptOrdersUptoRow, standIns := [], harness := (true, "168899ba11ea8246caa9932441e29ea52946b4a3d310ba4736663ae62aff4e04"), looks := true }, kinds := [], alts := [], laidByText := true, laidKinds := [.data, .data, .data, .data, .sentinel, .sentinel, .pinned], laidTests := true, laidLooks := .later }
def ScriptOrdersUptoCardSaid : Prop := Claim7.holds Tryz.pinned (.plain (OpenSpec.upto scriptOrdersSpec)) scriptOrdersUptoCard

/-- THE SECOND FORM's CARD OF 'understudylaw27.ScriptDeeds'. -/
def scriptDeedsUptoCard : Claim7 := { stood := { row := scriptDeedsUptoRow, standIns := [], harness := (true, "168899ba11ea8246caa9932441e29ea52946b4a3d310ba4736663ae62aff4e04"), looks := true }, kinds := [], alts := [], laidByText := true, laidKinds := [.data, .data, .data, .data, .sentinel, .sentinel, .pinned], laidTests := true, laidLooks := .later }
def ScriptDeedsUptoCardSaid : Prop := Claim7.holds Tryz.pinned (.plain (OpenSpec.upto scriptDeedsSpec)) scriptDeedsUptoCard

/-- THE SECOND FORM's CARD OF 'understudylaw27.ScriptReads'. -/
def scriptReadsUptoCard : Claim7 := { stood := { row := scriptReadsUptoRow, standIns := [], harness := (true, "168899ba11ea8246caa9932441e29ea52946b4a3d310ba4736663ae62aff4e04"), looks := true }, kinds := [], alts := [], laidByText := true, laidKinds := [.data, .data, .data, .data, .sentinel, .sentinel, .pinned], laidTests := true, laidLooks := .later }
def ScriptReadsUptoCardSaid : Prop := Claim7.holds Tryz.pinned (.plain (OpenSpec.upto scriptReadsSpec)) scriptReadsUptoCard

/-- THE SECOND FORM's CARD OF 'understudylaw27.ScriptPairs'. -/
def scriptPairsUptoCard : Claim7 := { stood := { row := scriptPairsUptoRow, standIns := [], harness := (true, "168899ba11ea8246caa9932441e29ea52946b4a3d310ba4736663ae62aff4e04"), looks := true }, kinds := [], alts := [], laidByText := true, laidKinds := [.data, .data, .data, .data, .sentinel, .sentinel, .pinned], laidTests := true, laidLooks := .later }
def ScriptPairsUptoCardSaid : Prop := Claim7.holds Tryz.pinned (.plain (OpenSpec.upto scriptPairsSpec)) scriptPairsUptoCard

/-- THE SECOND FORM's CARD OF 'understudylaw27.ScriptFiles'. -/
def scriptFilesUptoCard : Claim7 := { stood := { row := scriptFilesUptoRow, standIns := [], harness := (true, "168899ba11ea8246caa9932441e29ea52946b4a3d310ba4736663ae62aff4e04"), looks := true }, kinds := [], alts := [], laidByText := true, laidKinds := [.data, .data, .data, .data, .sentinel, .sentinel, .pinned], laidTests := true, laidLooks := .later }
def ScriptFilesUptoCardSaid : Prop := Claim7.holds Tryz.pinned (.plain (OpenSpec.upto scriptFilesSpec)) scriptFilesUptoCard

/-- THE SECOND FORM's CARD OF 'understudylaw27.ScriptWeaves'. -/
def scriptWeavesUptoCard : Claim7 := { stood := { row := scriptWeavesUptoRow, standIns := [], harness := (true, "168899ba11ea8246caa9932441e29ea52946b4a3d310ba4736663ae62aff4e04"), looks := true }, kinds := [], alts := [], laidByText := true, laidKinds := [.data, .data, .data, .data, .sentinel, .sentinel, .pinned], laidTests := true, laidLooks := .later }
def ScriptWeavesUptoCardSaid : Prop := Claim7.holds Tryz.pinned (.plain (OpenSpec.upto scriptWeavesSpec)) scriptWeavesUptoCard

/-- THE SECOND FORM's CARD OF 'understudylaw27.ScriptEdges'. -/
def scriptEdgesUptoCard : Claim7 := { stood := { row := scriptEdgesUptoRow, standIns := [], harness := (true, "168899ba11ea8246caa9932441e29ea52946b4a3d310ba4736663ae62aff4e04"), looks := true }, kinds := [], alts := [], laidByText := true, laidKinds := [.data, .data, .data, .data, .sentinel, .sentinel, .pinned], laidTests := true, laidLooks := .later }
def ScriptEdgesUptoCardSaid : Prop := Claim7.holds Tryz.pinned (.plain (OpenSpec.upto scriptEdgesSpec)) scriptEdgesUptoCard
end Rows
end Go.Proofs.YtgplaeopcejmoaaGreatDoor
