/-
  DERIVED. GIVEN WITH THE SEED: THE CARDS: each row of YtdioiepkbolnlaaGreatDoorRows.lean that lists a variable, with what it lists TIED to the program's text (the seventh form; the later family's looks); each row that meets fmt, with fmt's text TOLD by the authors' own Lean function (tested against real Go, not proved from fmt's source: count such statements apart). THE CARD IS WHAT COUNTS. Prove the row's statement (the work); the ties are given (YtdioiepkbolnlaaGreatDoorTie.lean); close each card by the builder's one call (the guide's Derived/Test/ToyasCard.lean, 'card_holds'). Laid BY PROGRAM, IN A SANDBOX (cutbox-door.mjs). By AI agents, Wed Nov 11 2026. No macro, syntax, notation, axiom, sorry.
-/
import Derived.Test.YtdioiepkbolnlaaGreatDoorRows
import GoSem.ClaimSeven
namespace Go.Proofs.YtdioiepkbolnlaaGreatDoor
namespace Rows

/-- THE TIED CARD OF 'sealerylaw23.CommandPuts'. -/
def commandPutsCard : Claim7 := { stood := { row := commandPutsRow, standIns := [], harness := (true, "f4fff74cb53f731705f5b6fa54144b276ed1db2ab91ffd96cdb848f597edf476"), looks := false }, kinds := [], alts := [], laidByText := true, laidKinds := [.data, .data, .pinned], laidTests := true, laidLooks := .later }
def CommandPutsCardSaid : Prop := Claim7.holds Tryz.pinned (.plain (OpenSpec.ofChange commandPutsSpec)) commandPutsCard

/-- THE TIED CARD OF 'sealerylaw23.CommandAnswers'. -/
def commandAnswersCard : Claim7 := { stood := { row := commandAnswersRow, standIns := [], harness := (true, "f4fff74cb53f731705f5b6fa54144b276ed1db2ab91ffd96cdb848f597edf476"), looks := false }, kinds := [], alts := [], laidByText := true, laidKinds := [.data, .data, .pinned], laidTests := true, laidLooks := .later }
def CommandAnswersCardSaid : Prop := Claim7.holds Tryz.pinned (.plain (OpenSpec.ofChange commandAnswersSpec)) commandAnswersCard

/-- THE TIED CARD OF 'sealerylaw23.CommandGets'. -/
def commandGetsCard : Claim7 := { stood := { row := commandGetsRow, standIns := [], harness := (true, "f4fff74cb53f731705f5b6fa54144b276ed1db2ab91ffd96cdb848f597edf476"), looks := false }, kinds := [], alts := [], laidByText := true, laidKinds := [.data, .data, .pinned], laidTests := true, laidLooks := .later }
def CommandGetsCardSaid : Prop := Claim7.holds Tryz.pinned (.plain (OpenSpec.ofChange commandGetsSpec)) commandGetsCard

/-- THE TIED CARD OF 'sealerylaw23.CommandBack'. -/
def commandBackCard : Claim7 := { stood := { row := commandBackRow, standIns := [], harness := (true, "f4fff74cb53f731705f5b6fa54144b276ed1db2ab91ffd96cdb848f597edf476"), looks := false }, kinds := [], alts := [], laidByText := true, laidKinds := [.data, .data, .pinned], laidTests := true, laidLooks := .later }
def CommandBackCardSaid : Prop := Claim7.holds Tryz.pinned (.plain (OpenSpec.ofChange commandBackSpec)) commandBackCard

/-- THE TIED CARD OF 'sealerylaw23.CommandCut'. -/
def commandCutCard : Claim7 := { stood := { row := commandCutRow, standIns := [], harness := (true, "f4fff74cb53f731705f5b6fa54144b276ed1db2ab91ffd96cdb848f597edf476"), looks := false }, kinds := [], alts := [], laidByText := true, laidKinds := [.data, .data, .pinned], laidTests := true, laidLooks := .later }
def CommandCutCardSaid : Prop := Claim7.holds Tryz.pinned (.plain (OpenSpec.ofChange commandCutSpec)) commandCutCard

/-- THE TIED CARD OF 'sealerylaw23.CommandKnown'. -/
def commandKnownCard : Claim7 := { stood := { row := commandKnownRow, standIns := [], harness := (true, "f4fff74cb53f731705f5b6fa54144b276ed1db2ab91ffd96cdb848f597edf476"), looks := false }, kinds := [], alts := [], laidByText := true, laidKinds := [.data, .data, .pinned], laidTests := true, laidLooks := .later }
def CommandKnownCardSaid : Prop := Claim7.holds Tryz.pinned (.plain (OpenSpec.ofChange commandKnownSpec)) commandKnownCard

/-- THE SECOND FORM's CARD OF 'sealerylaw23.CommandPuts'. -/
def commandPutsUptoCard : Claim7 := { stood := { row := commandPutsUptoRow, standIns := [], harness := (true, "f4fff74cb53f731705f5b6fa54144b276ed1db2ab91ffd96cdb848f597edf476"), looks := false }, kinds := [], alts := [], laidByText := true, laidKinds := [.data, .data, .pinned], laidTests := true, laidLooks := .later }
def CommandPutsUptoCardSaid : Prop := Claim7.holds Tryz.pinned (.plain (OpenSpec.upto commandPutsSpec)) commandPutsUptoCard

/-- THE SECOND FORM's CARD OF 'sealerylaw23.CommandAnswers'. -/
def commandAnswersUptoCard : Claim7 := { stood := { row := commandAnswersUptoRow, standIns := [], harness := (true, "f4fff74cb53f731705f5b6fa54144b276ed1db2ab91ffd96cdb848f597edf476"), looks := false }, kinds := [], alts := [], laidByText := true, laidKinds := [.data, .data, .pinned], laidTests := true, laidLooks := .later }
def CommandAnswersUptoCardSaid : Prop := Claim7.holds Tryz.pinned (.plain (OpenSpec.upto commandAnswersSpec)) commandAnswersUptoCard

/-- THE SECOND FORM's CARD OF 'sealerylaw23.CommandGets'. -/
def commandGetsUptoCard : Claim7 := { stood := { row := commandGetsUptoRow, standIns := [], harness := (true, "f4fff74cb53f731705f5b6fa54144b276ed1db2ab91ffd96cdb848f597edf476"), looks := false }, kinds := [], alts := [], laidByText := true, laidKinds := [.data, .data, .pinned], laidTests := true, laidLooks := .later }
def CommandGetsUptoCardSaid : Prop := Claim7.holds Tryz.pinned (.plain (OpenSpec.upto commandGetsSpec)) commandGetsUptoCard

/-- THE SECOND FORM's CARD OF 'sealerylaw23.CommandBack'. -/
def commandBackUptoCard : Claim7 := { stood := { row := commandBackUptoRow, standIns := [], harness := (true, "f4fff74cb53f731705f5b6fa54144b276ed1db2ab91ffd96cdb848f597edf476"), looks := false }, kinds := [], alts := [], laidByText := true, laidKinds := [.data, .data, .pinned], laidTests := true, laidLooks := .later }
def CommandBackUptoCardSaid : Prop := Claim7.holds Tryz.pinned (.plain (OpenSpec.upto commandBackSpec)) commandBackUptoCard

/-- THE SECOND FORM's CARD OF 'sealerylaw23.CommandCut'. -/
def commandCutUptoCard : Claim7 := { stood := { row := commandCutUptoRow, standIns := [], harness := (true, "f4fff74cb53f731705f5b6fa54144b276ed1db2ab91ffd96cdb848f597edf476"), looks := false }, kinds := [], alts := [], laidByText := true, laidKinds := [.data, .data, .pinned], laidTests := true, laidLooks := .later }
def CommandCutUptoCardSaid : Prop := Claim7.holds Tryz.pinned (.plain (OpenSpec.upto commandCutSpec)) commandCutUptoCard

/-- THE SECOND FORM's CARD OF 'sealerylaw23.CommandKnown'. -/
def commandKnownUptoCard : Claim7 := { stood := { row := commandKnownUptoRow, standIns := [], harness := (true, "f4fff74cb53f731705f5b6fa54144b276ed1db2ab91ffd96cdb848f597edf476"), looks := false }, kinds := [], alts := [], laidByText := true, laidKinds := [.data, .data, .pinned], laidTests := true, laidLooks := .later }
def CommandKnownUptoCardSaid : Prop := Claim7.holds Tryz.pinned (.plain (OpenSpec.upto commandKnownSpec)) commandKnownUptoCard
end Rows
end Go.Proofs.YtdioiepkbolnlaaGreatDoor
