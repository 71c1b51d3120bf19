/-
  NARROWER THAN 'FOR EVERY INPUT', by the rows' own cells (each row's printed sentence says how): CommandFields: laid · CommandToken: laid.
  DERIVED. THE GIVEN ROWS OF THIS SEAT. 2 by the template 'for every input the law returns true; each argument reads behind the call as it read before'; 0 by the template 'total and deterministic' (their statements: YtdioiepkbolnlaaDoorTotals.lean).
  GIVEN WITH THE SEED: the statements are not yours to turn. If you find one false, say at which input.
  Laid BY PROGRAM, IN A SANDBOX (cutbox-rows.mjs): the forced cells as the released guide's own fill.sh prints them over the translation 02311a4b77a215bf… (all of the seat's roots in one cut). By AI agents, Wed Nov 11 2026. No macro, syntax, notation, axiom, sorry.
-/
import Derived.Test.YtdioiepkbolnlaaDoorChecked
import GoSem.PinnedTables
import GoSem.Claim
import GoSem.ClaimJoined
import GoSem.ClaimMapViews
import Derived.JoinedTies
import Derived.KernelRfl
namespace Go.Proofs.YtdioiepkbolnlaaDoor
/- THE CELL 'sum', in the pinned program and in every row, IS THE sha256 OF THE DUMP (.gsa) THAT YtdioiepkbolnlaaDoorProg.lean LOADS. Nothing in Lean hashes anything: it is a label: what it is worth is what the hold of that sum in a sandbox is worth. -/
noncomputable def Tryd.pinned : Pinned := { name := "ytdioiepkbolnlaadoor", sum := "02311a4b77a215bf8fd8aed5f0c330216f0bdd8baf85cb2df011edf27d57d2c3", checked := Tryd.checked }
namespace Rows
def none {H : Type} : Left H := { results := [], args := [] }

/- WHAT THE LISTED PACKAGE-LEVEL VARIABLES READ AS WHEN THE CALL BEGINS. Each datum BY PROGRAM (the guide's laid-datum.mjs) off the statement by which the dump's own 'gosem.cut.vars' lays the variable. In a bare row this is a premise. The card (YtdioiepkbolnlaaDoorCards.lean) ties it to the program's text. -/
def laid_unicode_utf8_acceptRanges {H : Type} : DataW H := .agg [.agg [.lit (.int .u8 128), .lit (.int .u8 191)], .agg [.lit (.int .u8 160), .lit (.int .u8 191)], .agg [.lit (.int .u8 128), .lit (.int .u8 159)], .agg [.lit (.int .u8 144), .lit (.int .u8 191)], .agg [.lit (.int .u8 128), .lit (.int .u8 143)], .agg [.lit (.int .u8 0), .lit (.int .u8 0)], .agg [.lit (.int .u8 0), .lit (.int .u8 0)], .agg [.lit (.int .u8 0), .lit (.int .u8 0)], .agg [.lit (.int .u8 0), .lit (.int .u8 0)], .agg [.lit (.int .u8 0), .lit (.int .u8 0)], .agg [.lit (.int .u8 0), .lit (.int .u8 0)], .agg [.lit (.int .u8 0), .lit (.int .u8 0)], .agg [.lit (.int .u8 0), .lit (.int .u8 0)], .agg [.lit (.int .u8 0), .lit (.int .u8 0)], .agg [.lit (.int .u8 0), .lit (.int .u8 0)], .agg [.lit (.int .u8 0), .lit (.int .u8 0)]]
def laid_sealery_command_of {H : Type} : DataW H := .agg [.lit (.int .u64 0), .lit (.int .u64 15), .lit (.int .u64 49), .lit (.int .u64 48), .lit (.int .u64 2), .lit (.int .u64 64), .lit (.int .u64 128), .lit (.int .u64 48), .lit (.int .u64 16)]
/-- One of Go's own tables, pinned by name: the form's constant. -/
def laid_unicode_utf8_first : DataW Unit := Go.Pinned.utf8First

/-- 'sealerylaw23.CommandFields': WHATEVER THE INPUT: true; the input reads as it did. -/
def commandFieldsSpec : ChangeSpec := { name := "commandFields", fn := fun _ => fun
  | [d1, d2, d3] => { results := [.lit (.bool true)], args := [d1, d2, d3] }
  | _ => none }
def commandFieldsRow : OpenClaim := { program := "ytdioiepkbolnlaadoor", sum := "02311a4b77a215bf8fd8aed5f0c330216f0bdd8baf85cb2df011edf27d57d2c3", func := "sealery/sealerylaw23.CommandFields", spec := "commandFields", inPlace := ["internal/bytealg.IndexByteString", "internal/bytealg.IndexString"], unfollowed := true, recurses := true, named := ["sealery/command.of", "unicode/utf8.first", "unicode/utf8.acceptRanges", "internal/bytealg.MaxLen"], apart := false, laid := [("unicode/utf8.acceptRanges", laid_unicode_utf8_acceptRanges), ("sealery/command.of", laid_sealery_command_of), ("unicode/utf8.first", laid_unicode_utf8_first)] }
def CommandFieldsSaid : Prop := commandFieldsRow.holds Tryd.pinned (OpenSpec.ofChange commandFieldsSpec)

/-- ITS FALSE NEIGHBOUR: 'it returns false'. Refute it at one input. -/
def commandFieldsWrong : ChangeSpec := { name := "commandFields", fn := fun _ => fun
  | [d1, d2, d3] => { results := [.lit (.bool false)], args := [d1, d2, d3] }
  | _ => none }
def CommandFieldsWrongFalsely : Prop := commandFieldsRow.holds Tryd.pinned (OpenSpec.ofChange commandFieldsWrong)

/-- 'sealerylaw23.CommandToken': WHATEVER THE INPUT: true; the input reads as it did. -/
def commandTokenSpec : ChangeSpec := { name := "commandToken", fn := fun _ => fun
  | [d1, d2] => { results := [.lit (.bool true)], args := [d1, d2] }
  | _ => none }
def commandTokenRow : OpenClaim := { program := "ytdioiepkbolnlaadoor", sum := "02311a4b77a215bf8fd8aed5f0c330216f0bdd8baf85cb2df011edf27d57d2c3", func := "sealery/sealerylaw23.CommandToken", spec := "commandToken", inPlace := ["internal/bytealg.IndexByteString", "internal/bytealg.IndexString"], unfollowed := true, recurses := true, named := ["sealery/command.of", "unicode/utf8.first", "unicode/utf8.acceptRanges", "internal/bytealg.MaxLen"], apart := false, laid := [("unicode/utf8.acceptRanges", laid_unicode_utf8_acceptRanges), ("sealery/command.of", laid_sealery_command_of), ("unicode/utf8.first", laid_unicode_utf8_first)] }
def CommandTokenSaid : Prop := commandTokenRow.holds Tryd.pinned (OpenSpec.ofChange commandTokenSpec)

/-- ITS FALSE NEIGHBOUR: 'it returns false'. Refute it at one input. -/
def commandTokenWrong : ChangeSpec := { name := "commandToken", fn := fun _ => fun
  | [d1, d2] => { results := [.lit (.bool false)], args := [d1, d2] }
  | _ => none }
def CommandTokenWrongFalsely : Prop := commandTokenRow.holds Tryd.pinned (OpenSpec.ofChange commandTokenWrong)

/- THE SECOND FORM. 'bulk': how many values and letters a reading holds, each counted each time it is reached (what is shared counts as often as it is met; a slice's spare places count too). A statement '..UptoSaid' is the law's where the arguments, and the package variables that the reading takes, are together of bulk at most 1048576: NARROWER than '..Said'. Prove '..Said' where nothing that the law and all that it calls make is longer than what came in: it says more and counts as full. Else prove '..UptoSaid'. A law counts once. -/
mutual
def uptoBulk {H : Type} : DataW H → Nat
  | .lit (.string bytes) => bytes.length + 1
  | .lit _ => 1
  | .nil => 1
  | .ptr d => uptoBulk d + 1
  | .slice elems spare => uptoBulkAll elems + uptoBulkAll spare + 1
  | .agg parts => uptoBulkAll parts + 1
  | .iface _ d => uptoBulk d + 1
  | .map entries => uptoBulkEntries entries + 1
  | .held _ => 1
def uptoBulkAll {H : Type} : List (DataW H) → Nat
  | [] => 0
  | d :: r => uptoBulk d + uptoBulkAll r
def uptoBulkEntries {H : Type} : List (Lit × DataW H) → Nat
  | [] => 0
  | x :: r => uptoBulkEntry x + uptoBulkEntries r
def uptoBulkEntry {H : Type} : Lit × DataW H → Nat
  | (.string bytes, d) => bytes.length + uptoBulk d + 1
  | (_, d) => uptoBulk d + 1
 end
def uptoSmall : (H : Type) → List (DataW H) → Bool := fun _ ds => decide (uptoBulkAll ds ≤ 1048576)
def OpenSpec.upto (s : _root_.Go.ChangeSpec) : _root_.Go.OpenSpec := { _root_.Go.OpenSpec.ofChange s with cond := some uptoSmall }

/-- 'sealerylaw23.CommandFields', WHERE WHAT IT READS IS OF BULK AT MOST 1048576: true; the input reads as it did. -/
def commandFieldsUptoRow : OpenClaim := { program := "ytdioiepkbolnlaadoor", sum := "02311a4b77a215bf8fd8aed5f0c330216f0bdd8baf85cb2df011edf27d57d2c3", func := "sealery/sealerylaw23.CommandFields", spec := "commandFields", inPlace := ["internal/bytealg.IndexByteString", "internal/bytealg.IndexString"], unfollowed := true, recurses := true, named := ["sealery/command.of", "unicode/utf8.first", "unicode/utf8.acceptRanges", "internal/bytealg.MaxLen"], apart := false, laid := [("unicode/utf8.acceptRanges", laid_unicode_utf8_acceptRanges), ("sealery/command.of", laid_sealery_command_of), ("unicode/utf8.first", laid_unicode_utf8_first)], narrowed := true }
def CommandFieldsUptoSaid : Prop := commandFieldsUptoRow.holds Tryd.pinned (OpenSpec.upto commandFieldsSpec)

/-- 'sealerylaw23.CommandToken', WHERE WHAT IT READS IS OF BULK AT MOST 1048576: true; the input reads as it did. -/
def commandTokenUptoRow : OpenClaim := { program := "ytdioiepkbolnlaadoor", sum := "02311a4b77a215bf8fd8aed5f0c330216f0bdd8baf85cb2df011edf27d57d2c3", func := "sealery/sealerylaw23.CommandToken", spec := "commandToken", inPlace := ["internal/bytealg.IndexByteString", "internal/bytealg.IndexString"], unfollowed := true, recurses := true, named := ["sealery/command.of", "unicode/utf8.first", "unicode/utf8.acceptRanges", "internal/bytealg.MaxLen"], apart := false, laid := [("unicode/utf8.acceptRanges", laid_unicode_utf8_acceptRanges), ("sealery/command.of", laid_sealery_command_of), ("unicode/utf8.first", laid_unicode_utf8_first)], narrowed := true }
def CommandTokenUptoSaid : Prop := commandTokenUptoRow.holds Tryd.pinned (OpenSpec.upto commandTokenSpec)

end Rows
end Go.Proofs.YtdioiepkbolnlaaDoor
