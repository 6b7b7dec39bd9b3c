/-
  DERIVED. GIVEN WITH THE SEED: THE CARDS: each row of YtgplaeopcejmoaaDoorRows.lean that lists a variable, with what it lists TIED to the program's text (the seventh form; the later family's looks); each row that meets fmt, with fmt's text TOLD by the authors' own Lean function (tested against real Go, not proved from fmt's source: count such statements apart). THE CARD IS WHAT COUNTS. Prove the row's statement (the work); the ties are given (YtgplaeopcejmoaaDoorTie.lean); close each card by the builder's one call (the guide's Derived/Test/ToyasCard.lean, 'card_holds'). Laid BY PROGRAM, IN A SANDBOX (cutbox-door.mjs). By AI agents, Wed Nov 11 2026. No macro, syntax, notation, axiom, sorry.
-/
import Derived.Test.YtgplaeopcejmoaaDoorRows
import GoSem.ClaimSeven
namespace Go.Proofs.YtgplaeopcejmoaaDoor
namespace Rows

/-- THE TIED CARD OF 'understudylaw27.ScriptSpeech'. -/
def scriptSpeechCard : Claim7 := { stood := { row := scriptSpeechRow, standIns := [], harness := (true, "9303370ca1bcc4a1d8ac19f3bf0020b32b473417d5fb84675cac794277eca962"), looks := true }, kinds := [], alts := [], laidByText := true, laidKinds := [.data, .data, .data, .data, .sentinel, .sentinel, .pinned], laidTests := true, laidLooks := .later }
def ScriptSpeechCardSaid : Prop := Claim7.holds Tryd.pinned (.plain (OpenSpec.ofChange scriptSpeechSpec)) scriptSpeechCard

/-- THE TIED CARD OF 'understudylaw27.ScriptAnswers'. -/
def scriptAnswersCard : Claim7 := { stood := { row := scriptAnswersRow, standIns := [], harness := (true, "9303370ca1bcc4a1d8ac19f3bf0020b32b473417d5fb84675cac794277eca962"), looks := true }, kinds := [], alts := [], laidByText := true, laidKinds := [.data, .data, .data, .data, .sentinel, .sentinel, .pinned], laidTests := true, laidLooks := .later }
def ScriptAnswersCardSaid : Prop := Claim7.holds Tryd.pinned (.plain (OpenSpec.ofChange scriptAnswersSpec)) scriptAnswersCard

/-- THE TIED CARD OF 'understudylaw27.ScriptNames'. -/
def scriptNamesCard : Claim7 := { stood := { row := scriptNamesRow, standIns := [], harness := (true, "9303370ca1bcc4a1d8ac19f3bf0020b32b473417d5fb84675cac794277eca962"), looks := true }, kinds := [], alts := [], laidByText := true, laidKinds := [.data, .data, .data, .data, .sentinel, .sentinel, .pinned], laidTests := true, laidLooks := .later }
def ScriptNamesCardSaid : Prop := Claim7.holds Tryd.pinned (.plain (OpenSpec.ofChange scriptNamesSpec)) scriptNamesCard

/-- THE SECOND FORM's CARD OF 'understudylaw27.ScriptSpeech'. -/
def scriptSpeechUptoCard : Claim7 := { stood := { row := scriptSpeechUptoRow, standIns := [], harness := (true, "9303370ca1bcc4a1d8ac19f3bf0020b32b473417d5fb84675cac794277eca962"), looks := true }, kinds := [], alts := [], laidByText := true, laidKinds := [.data, .data, .data, .data, .sentinel, .sentinel, .pinned], laidTests := true, laidLooks := .later }
def ScriptSpeechUptoCardSaid : Prop := Claim7.holds Tryd.pinned (.plain (OpenSpec.upto scriptSpeechSpec)) scriptSpeechUptoCard

/-- THE SECOND FORM's CARD OF 'understudylaw27.ScriptAnswers'. -/
def scriptAnswersUptoCard : Claim7 := { stood := { row := scriptAnswersUptoRow, standIns := [], harness := (true, "9303370ca1bcc4a1d8ac19f3bf0020b32b473417d5fb84675cac794277eca962"), looks := true }, kinds := [], alts := [], laidByText := true, laidKinds := [.data, .data, .data, .data, .sentinel, .sentinel, .pinned], laidTests := true, laidLooks := .later }
def ScriptAnswersUptoCardSaid : Prop := Claim7.holds Tryd.pinned (.plain (OpenSpec.upto scriptAnswersSpec)) scriptAnswersUptoCard

/-- THE SECOND FORM's CARD OF 'understudylaw27.ScriptNames'. -/
def scriptNamesUptoCard : Claim7 := { stood := { row := scriptNamesUptoRow, standIns := [], harness := (true, "9303370ca1bcc4a1d8ac19f3bf0020b32b473417d5fb84675cac794277eca962"), looks := true }, kinds := [], alts := [], laidByText := true, laidKinds := [.data, .data, .data, .data, .sentinel, .sentinel, .pinned], laidTests := true, laidLooks := .later }
def ScriptNamesUptoCardSaid : Prop := Claim7.holds Tryd.pinned (.plain (OpenSpec.upto scriptNamesSpec)) scriptNamesUptoCard
end Rows
end Go.Proofs.YtgplaeopcejmoaaDoor
