/-
  NARROWER THAN 'FOR EVERY INPUT', by the rows' own cells (each row's printed sentence says how): FnExactReadDeed: laid · FnExactReadJournal: laid · FnDeedText: laid · FnReadDeed: laid · FnJournalText: laid.
  DERIVED. THE GIVEN ROWS OF THIS SEAT. 5 by the template 'for every input the law returns true; each argument reads behind the call as it read before'; 0 by the template 'total and deterministic' (their statements: YtenlngclocfnlaaDoorTotals.lean).
  GIVEN WITH THE SEED: the statements are not yours to turn. If you find one false, say at which input.
  Laid BY PROGRAM, IN A SANDBOX (cutbox-rows.mjs): the forced cells as the released guide's own fill.sh prints them over the translation f402a43626b6e3a8… (all of the seat's roots in one cut). By AI agents, Wed Nov 11 2026. No macro, syntax, notation, axiom, sorry.
-/
import Derived.Test.YtenlngclocfnlaaDoorChecked
import GoSem.PinnedTables
import GoSem.Claim
import GoSem.ClaimJoined
import GoSem.ClaimMapViews
import Derived.JoinedTies
import Derived.KernelRfl
namespace Go.Proofs.YtenlngclocfnlaaDoor
/- THE CELL 'sum', in the pinned program and in every row, IS THE sha256 OF THE DUMP (.gsa) THAT YtenlngclocfnlaaDoorProg.lean LOADS. Nothing in Lean hashes anything: it is a label: what it is worth is what the hold of that sum in a sandbox is worth. -/
noncomputable def Tryd.pinned : Pinned := { name := "ytenlngclocfnlaadoor", sum := "f402a43626b6e3a892e09b0e5d5fca76dbec37bf56e410c5f99a3ef81f634721", checked := Tryd.checked }
namespace Rows
def none {H : Type} : Left H := { results := [], args := [] }

/- WHAT THE LISTED PACKAGE-LEVEL VARIABLES READ AS WHEN THE CALL BEGINS. Each datum BY PROGRAM (the guide's laid-datum.mjs) off the statement by which the dump's own 'gosem.cut.vars' lays the variable. In a bare row this is a premise. The card (YtenlngclocfnlaaDoorCards.lean) ties it to the program's text. -/
def laid_unicode_utf8_acceptRanges {H : Type} : DataW H := .agg [.agg [.lit (.int .u8 128), .lit (.int .u8 191)], .agg [.lit (.int .u8 160), .lit (.int .u8 191)], .agg [.lit (.int .u8 128), .lit (.int .u8 159)], .agg [.lit (.int .u8 144), .lit (.int .u8 191)], .agg [.lit (.int .u8 128), .lit (.int .u8 143)], .agg [.lit (.int .u8 0), .lit (.int .u8 0)], .agg [.lit (.int .u8 0), .lit (.int .u8 0)], .agg [.lit (.int .u8 0), .lit (.int .u8 0)], .agg [.lit (.int .u8 0), .lit (.int .u8 0)], .agg [.lit (.int .u8 0), .lit (.int .u8 0)], .agg [.lit (.int .u8 0), .lit (.int .u8 0)], .agg [.lit (.int .u8 0), .lit (.int .u8 0)], .agg [.lit (.int .u8 0), .lit (.int .u8 0)], .agg [.lit (.int .u8 0), .lit (.int .u8 0)], .agg [.lit (.int .u8 0), .lit (.int .u8 0)], .agg [.lit (.int .u8 0), .lit (.int .u8 0)]]
/-- One of Go's own tables, pinned by name: the form's constant. -/
def laid_unicode_utf8_first : DataW Unit := Go.Pinned.utf8First

/-- 'laws.FnExactReadDeed': WHATEVER THE INPUT: true; the input reads as it did. -/
def fnExactReadDeedSpec : ChangeSpec := { name := "fnExactReadDeed", fn := fun _ => fun
  | [d] => { results := [.lit (.bool true)], args := [d] }
  | _ => none }
def fnExactReadDeedRow : OpenClaim := { program := "ytenlngclocfnlaadoor", sum := "f402a43626b6e3a892e09b0e5d5fca76dbec37bf56e410c5f99a3ef81f634721", func := "loop.example/questiongames/laws.FnExactReadDeed", spec := "fnExactReadDeed", inPlace := ["internal/bytealg.CountString", "internal/bytealg.IndexByteString", "internal/bytealg.IndexString", "internal/abi.NoEscape"], unfollowed := true, recurses := true, named := ["unicode/utf8.first", "unicode/utf8.acceptRanges", "internal/bytealg.MaxLen"], apart := false, laid := [("unicode/utf8.acceptRanges", laid_unicode_utf8_acceptRanges), ("unicode/utf8.first", laid_unicode_utf8_first)] }
def FnExactReadDeedSaid : Prop := fnExactReadDeedRow.holds Tryd.pinned (OpenSpec.ofChange fnExactReadDeedSpec)

/-- ITS FALSE NEIGHBOUR: 'it returns false'. Refute it at one input. -/
def fnExactReadDeedWrong : ChangeSpec := { name := "fnExactReadDeed", fn := fun _ => fun
  | [d] => { results := [.lit (.bool false)], args := [d] }
  | _ => none }
def FnExactReadDeedWrongFalsely : Prop := fnExactReadDeedRow.holds Tryd.pinned (OpenSpec.ofChange fnExactReadDeedWrong)

/-- 'laws.FnExactReadJournal': WHATEVER THE INPUT: true; the input reads as it did. -/
def fnExactReadJournalSpec : ChangeSpec := { name := "fnExactReadJournal", fn := fun _ => fun
  | [d] => { results := [.lit (.bool true)], args := [d] }
  | _ => none }
def fnExactReadJournalRow : OpenClaim := { program := "ytenlngclocfnlaadoor", sum := "f402a43626b6e3a892e09b0e5d5fca76dbec37bf56e410c5f99a3ef81f634721", func := "loop.example/questiongames/laws.FnExactReadJournal", spec := "fnExactReadJournal", inPlace := ["internal/bytealg.IndexByteString", "internal/bytealg.IndexString", "internal/bytealg.CountString", "internal/abi.NoEscape"], unfollowed := true, recurses := true, named := ["internal/bytealg.MaxLen", "unicode/utf8.first", "unicode/utf8.acceptRanges"], apart := false, laid := [("unicode/utf8.acceptRanges", laid_unicode_utf8_acceptRanges), ("unicode/utf8.first", laid_unicode_utf8_first)] }
def FnExactReadJournalSaid : Prop := fnExactReadJournalRow.holds Tryd.pinned (OpenSpec.ofChange fnExactReadJournalSpec)

/-- ITS FALSE NEIGHBOUR: 'it returns false'. Refute it at one input. -/
def fnExactReadJournalWrong : ChangeSpec := { name := "fnExactReadJournal", fn := fun _ => fun
  | [d] => { results := [.lit (.bool false)], args := [d] }
  | _ => none }
def FnExactReadJournalWrongFalsely : Prop := fnExactReadJournalRow.holds Tryd.pinned (OpenSpec.ofChange fnExactReadJournalWrong)

/-- 'laws.FnDeedText': WHATEVER THE INPUT: true; the input reads as it did. -/
def fnDeedTextSpec : ChangeSpec := { name := "fnDeedText", fn := fun _ => fun
  | [d] => { results := [.lit (.bool true)], args := [d] }
  | _ => none }
def fnDeedTextRow : OpenClaim := { program := "ytenlngclocfnlaadoor", sum := "f402a43626b6e3a892e09b0e5d5fca76dbec37bf56e410c5f99a3ef81f634721", func := "loop.example/questiongames/laws.FnDeedText", spec := "fnDeedText", inPlace := ["internal/abi.NoEscape", "internal/bytealg.CountString", "internal/bytealg.IndexByteString", "internal/bytealg.IndexString"], unfollowed := true, recurses := true, named := ["unicode/utf8.first", "unicode/utf8.acceptRanges", "internal/bytealg.MaxLen"], apart := false, laid := [("unicode/utf8.acceptRanges", laid_unicode_utf8_acceptRanges), ("unicode/utf8.first", laid_unicode_utf8_first)] }
def FnDeedTextSaid : Prop := fnDeedTextRow.holds Tryd.pinned (OpenSpec.ofChange fnDeedTextSpec)

/-- ITS FALSE NEIGHBOUR: 'it returns false'. Refute it at one input. -/
def fnDeedTextWrong : ChangeSpec := { name := "fnDeedText", fn := fun _ => fun
  | [d] => { results := [.lit (.bool false)], args := [d] }
  | _ => none }
def FnDeedTextWrongFalsely : Prop := fnDeedTextRow.holds Tryd.pinned (OpenSpec.ofChange fnDeedTextWrong)

/-- 'laws.FnReadDeed': WHATEVER THE INPUT: true; the input reads as it did. -/
def fnReadDeedSpec : ChangeSpec := { name := "fnReadDeed", fn := fun _ => fun
  | [d] => { results := [.lit (.bool true)], args := [d] }
  | _ => none }
def fnReadDeedRow : OpenClaim := { program := "ytenlngclocfnlaadoor", sum := "f402a43626b6e3a892e09b0e5d5fca76dbec37bf56e410c5f99a3ef81f634721", func := "loop.example/questiongames/laws.FnReadDeed", spec := "fnReadDeed", inPlace := ["internal/bytealg.CountString", "internal/bytealg.IndexByteString", "internal/bytealg.IndexString", "internal/abi.NoEscape"], unfollowed := true, recurses := true, named := ["unicode/utf8.first", "unicode/utf8.acceptRanges", "internal/bytealg.MaxLen"], apart := false, laid := [("unicode/utf8.acceptRanges", laid_unicode_utf8_acceptRanges), ("unicode/utf8.first", laid_unicode_utf8_first)] }
def FnReadDeedSaid : Prop := fnReadDeedRow.holds Tryd.pinned (OpenSpec.ofChange fnReadDeedSpec)

/-- ITS FALSE NEIGHBOUR: 'it returns false'. Refute it at one input. -/
def fnReadDeedWrong : ChangeSpec := { name := "fnReadDeed", fn := fun _ => fun
  | [d] => { results := [.lit (.bool false)], args := [d] }
  | _ => none }
def FnReadDeedWrongFalsely : Prop := fnReadDeedRow.holds Tryd.pinned (OpenSpec.ofChange fnReadDeedWrong)

/-- 'laws.FnJournalText': WHATEVER THE INPUT: true; the input reads as it did. -/
def fnJournalTextSpec : ChangeSpec := { name := "fnJournalText", fn := fun _ => fun
  | [d] => { results := [.lit (.bool true)], args := [d] }
  | _ => none }
def fnJournalTextRow : OpenClaim := { program := "ytenlngclocfnlaadoor", sum := "f402a43626b6e3a892e09b0e5d5fca76dbec37bf56e410c5f99a3ef81f634721", func := "loop.example/questiongames/laws.FnJournalText", spec := "fnJournalText", inPlace := ["internal/abi.NoEscape", "internal/bytealg.IndexByteString", "internal/bytealg.IndexString", "internal/bytealg.CountString"], unfollowed := true, recurses := true, named := ["internal/bytealg.MaxLen", "unicode/utf8.first", "unicode/utf8.acceptRanges"], apart := false, laid := [("unicode/utf8.acceptRanges", laid_unicode_utf8_acceptRanges), ("unicode/utf8.first", laid_unicode_utf8_first)] }
def FnJournalTextSaid : Prop := fnJournalTextRow.holds Tryd.pinned (OpenSpec.ofChange fnJournalTextSpec)

/-- ITS FALSE NEIGHBOUR: 'it returns false'. Refute it at one input. -/
def fnJournalTextWrong : ChangeSpec := { name := "fnJournalText", fn := fun _ => fun
  | [d] => { results := [.lit (.bool false)], args := [d] }
  | _ => none }
def FnJournalTextWrongFalsely : Prop := fnJournalTextRow.holds Tryd.pinned (OpenSpec.ofChange fnJournalTextWrong)

/- THE SECOND FORM. 'bulk': how many values and letters a reading holds, each counted each time it is reached (what is shared counts as often as it is met; a slice's spare places count too). A statement '..UptoSaid' is the law's where the arguments, and the package variables that the reading takes, are together of bulk at most 1048576: NARROWER than '..Said'. Prove '..Said' where nothing that the law and all that it calls make is longer than what came in: it says more and counts as full. Else prove '..UptoSaid'. A law counts once. -/
mutual
def uptoBulk {H : Type} : DataW H → Nat
  | .lit (.string bytes) => bytes.length + 1
  | .lit _ => 1
  | .nil => 1
  | .ptr d => uptoBulk d + 1
  | .slice elems spare => uptoBulkAll elems + uptoBulkAll spare + 1
  | .agg parts => uptoBulkAll parts + 1
  | .iface _ d => uptoBulk d + 1
  | .map entries => uptoBulkEntries entries + 1
  | .held _ => 1
def uptoBulkAll {H : Type} : List (DataW H) → Nat
  | [] => 0
  | d :: r => uptoBulk d + uptoBulkAll r
def uptoBulkEntries {H : Type} : List (Lit × DataW H) → Nat
  | [] => 0
  | x :: r => uptoBulkEntry x + uptoBulkEntries r
def uptoBulkEntry {H : Type} : Lit × DataW H → Nat
  | (.string bytes, d) => bytes.length + uptoBulk d + 1
  | (_, d) => uptoBulk d + 1
 end
def uptoSmall : (H : Type) → List (DataW H) → Bool := fun _ ds => decide (uptoBulkAll ds ≤ 1048576)
def OpenSpec.upto (s : _root_.Go.ChangeSpec) : _root_.Go.OpenSpec := { _root_.Go.OpenSpec.ofChange s with cond := some uptoSmall }

/-- 'laws.FnExactReadDeed', WHERE WHAT IT READS IS OF BULK AT MOST 1048576: true; the input reads as it did. -/
def fnExactReadDeedUptoRow : OpenClaim := { program := "ytenlngclocfnlaadoor", sum := "f402a43626b6e3a892e09b0e5d5fca76dbec37bf56e410c5f99a3ef81f634721", func := "loop.example/questiongames/laws.FnExactReadDeed", spec := "fnExactReadDeed", inPlace := ["internal/bytealg.CountString", "internal/bytealg.IndexByteString", "internal/bytealg.IndexString", "internal/abi.NoEscape"], unfollowed := true, recurses := true, named := ["unicode/utf8.first", "unicode/utf8.acceptRanges", "internal/bytealg.MaxLen"], apart := false, laid := [("unicode/utf8.acceptRanges", laid_unicode_utf8_acceptRanges), ("unicode/utf8.first", laid_unicode_utf8_first)], narrowed := true }
def FnExactReadDeedUptoSaid : Prop := fnExactReadDeedUptoRow.holds Tryd.pinned (OpenSpec.upto fnExactReadDeedSpec)

/-- 'laws.FnExactReadJournal', WHERE WHAT IT READS IS OF BULK AT MOST 1048576: true; the input reads as it did. -/
def fnExactReadJournalUptoRow : OpenClaim := { program := "ytenlngclocfnlaadoor", sum := "f402a43626b6e3a892e09b0e5d5fca76dbec37bf56e410c5f99a3ef81f634721", func := "loop.example/questiongames/laws.FnExactReadJournal", spec := "fnExactReadJournal", inPlace := ["internal/bytealg.IndexByteString", "internal/bytealg.IndexString", "internal/bytealg.CountString", "internal/abi.NoEscape"], unfollowed := true, recurses := true, named := ["internal/bytealg.MaxLen", "unicode/utf8.first", "unicode/utf8.acceptRanges"], apart := false, laid := [("unicode/utf8.acceptRanges", laid_unicode_utf8_acceptRanges), ("unicode/utf8.first", laid_unicode_utf8_first)], narrowed := true }
def FnExactReadJournalUptoSaid : Prop := fnExactReadJournalUptoRow.holds Tryd.pinned (OpenSpec.upto fnExactReadJournalSpec)

/-- 'laws.FnDeedText', WHERE WHAT IT READS IS OF BULK AT MOST 1048576: true; the input reads as it did. -/
def fnDeedTextUptoRow : OpenClaim := { program := "ytenlngclocfnlaadoor", sum := "f402a43626b6e3a892e09b0e5d5fca76dbec37bf56e410c5f99a3ef81f634721", func := "loop.example/questiongames/laws.FnDeedText", spec := "fnDeedText", inPlace := ["internal/abi.NoEscape", "internal/bytealg.CountString", "internal/bytealg.IndexByteString", "internal/bytealg.IndexString"], unfollowed := true, recurses := true, named := ["unicode/utf8.first", "unicode/utf8.acceptRanges", "internal/bytealg.MaxLen"], apart := false, laid := [("unicode/utf8.acceptRanges", laid_unicode_utf8_acceptRanges), ("unicode/utf8.first", laid_unicode_utf8_first)], narrowed := true }
def FnDeedTextUptoSaid : Prop := fnDeedTextUptoRow.holds Tryd.pinned (OpenSpec.upto fnDeedTextSpec)

/-- 'laws.FnReadDeed', WHERE WHAT IT READS IS OF BULK AT MOST 1048576: true; the input reads as it did. -/
def fnReadDeedUptoRow : OpenClaim := { program := "ytenlngclocfnlaadoor", sum := "f402a43626b6e3a892e09b0e5d5fca76dbec37bf56e410c5f99a3ef81f634721", func := "loop.example/questiongames/laws.FnReadDeed", spec := "fnReadDeed", inPlace := ["internal/bytealg.CountString", "internal/bytealg.IndexByteString", "internal/bytealg.IndexString", "internal/abi.NoEscape"], unfollowed := true, recurses := true, named := ["unicode/utf8.first", "unicode/utf8.acceptRanges", "internal/bytealg.MaxLen"], apart := false, laid := [("unicode/utf8.acceptRanges", laid_unicode_utf8_acceptRanges), ("unicode/utf8.first", laid_unicode_utf8_first)], narrowed := true }
def FnReadDeedUptoSaid : Prop := fnReadDeedUptoRow.holds Tryd.pinned (OpenSpec.upto fnReadDeedSpec)

/-- 'laws.FnJournalText', WHERE WHAT IT READS IS OF BULK AT MOST 1048576: true; the input reads as it did. -/
def fnJournalTextUptoRow : OpenClaim := { program := "ytenlngclocfnlaadoor", sum := "f402a43626b6e3a892e09b0e5d5fca76dbec37bf56e410c5f99a3ef81f634721", func := "loop.example/questiongames/laws.FnJournalText", spec := "fnJournalText", inPlace := ["internal/abi.NoEscape", "internal/bytealg.IndexByteString", "internal/bytealg.IndexString", "internal/bytealg.CountString"], unfollowed := true, recurses := true, named := ["internal/bytealg.MaxLen", "unicode/utf8.first", "unicode/utf8.acceptRanges"], apart := false, laid := [("unicode/utf8.acceptRanges", laid_unicode_utf8_acceptRanges), ("unicode/utf8.first", laid_unicode_utf8_first)], narrowed := true }
def FnJournalTextUptoSaid : Prop := fnJournalTextUptoRow.holds Tryd.pinned (OpenSpec.upto fnJournalTextSpec)

end Rows
end Go.Proofs.YtenlngclocfnlaaDoor
