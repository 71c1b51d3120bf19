/-
  DERIVED. GIVEN WITH THE SEED: THE CARDS: each row of YtdioiepkbolnlaaDoorRows.lean that lists a variable, with what it lists TIED to the program's text (the seventh form; the later family's looks); each row that meets fmt, with fmt's text TOLD by the authors' own Lean function (tested against real Go, not proved from fmt's source: count such statements apart). THE CARD IS WHAT COUNTS. Prove the row's statement (the work); the ties are given (YtdioiepkbolnlaaDoorTie.lean); close each card by the builder's one call (the guide's Derived/Test/ToyasCard.lean, 'card_holds'). Laid BY PROGRAM, IN A SANDBOX (cutbox-door.mjs). By AI agents, Wed Nov 11 2026. No macro, syntax, notation, axiom, sorry.
-/
import Derived.Test.YtdioiepkbolnlaaDoorRows
import GoSem.ClaimSeven
namespace Go.Proofs.YtdioiepkbolnlaaDoor
namespace Rows

/-- THE TIED CARD OF 'sealerylaw23.CommandFields'. -/
def commandFieldsCard : Claim7 := { stood := { row := commandFieldsRow, standIns := [], harness := (true, "45e0494b8f8f678e1b8739d93ce7b96f4be74eb7970dbf83dcb9db87a03d1dd7"), looks := false }, kinds := [], alts := [], laidByText := true, laidKinds := [.data, .data, .pinned], laidTests := true, laidLooks := .later }
def CommandFieldsCardSaid : Prop := Claim7.holds Tryd.pinned (.plain (OpenSpec.ofChange commandFieldsSpec)) commandFieldsCard

/-- THE TIED CARD OF 'sealerylaw23.CommandToken'. -/
def commandTokenCard : Claim7 := { stood := { row := commandTokenRow, standIns := [], harness := (true, "45e0494b8f8f678e1b8739d93ce7b96f4be74eb7970dbf83dcb9db87a03d1dd7"), looks := false }, kinds := [], alts := [], laidByText := true, laidKinds := [.data, .data, .pinned], laidTests := true, laidLooks := .later }
def CommandTokenCardSaid : Prop := Claim7.holds Tryd.pinned (.plain (OpenSpec.ofChange commandTokenSpec)) commandTokenCard

/-- THE SECOND FORM's CARD OF 'sealerylaw23.CommandFields'. -/
def commandFieldsUptoCard : Claim7 := { stood := { row := commandFieldsUptoRow, standIns := [], harness := (true, "45e0494b8f8f678e1b8739d93ce7b96f4be74eb7970dbf83dcb9db87a03d1dd7"), looks := false }, kinds := [], alts := [], laidByText := true, laidKinds := [.data, .data, .pinned], laidTests := true, laidLooks := .later }
def CommandFieldsUptoCardSaid : Prop := Claim7.holds Tryd.pinned (.plain (OpenSpec.upto commandFieldsSpec)) commandFieldsUptoCard

/-- THE SECOND FORM's CARD OF 'sealerylaw23.CommandToken'. -/
def commandTokenUptoCard : Claim7 := { stood := { row := commandTokenUptoRow, standIns := [], harness := (true, "45e0494b8f8f678e1b8739d93ce7b96f4be74eb7970dbf83dcb9db87a03d1dd7"), looks := false }, kinds := [], alts := [], laidByText := true, laidKinds := [.data, .data, .pinned], laidTests := true, laidLooks := .later }
def CommandTokenUptoCardSaid : Prop := Claim7.holds Tryd.pinned (.plain (OpenSpec.upto commandTokenSpec)) commandTokenUptoCard
end Rows
end Go.Proofs.YtdioiepkbolnlaaDoor
