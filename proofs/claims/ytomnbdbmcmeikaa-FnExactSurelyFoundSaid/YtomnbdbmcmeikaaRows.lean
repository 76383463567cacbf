/-
  No cell of these rows narrows 'for every input' (looked for: loops, veiled, ifaces, maps, wideKeys, modest, calm, conditions, laid).
  DERIVED. THE GIVEN ROWS OF THIS SEAT. 12 by the template 'for every input the law returns true; each argument reads behind the call as it read before'; 0 by the template 'total and deterministic' (their statements: YtomnbdbmcmeikaaTotals.lean).
  GIVEN WITH THE SEED: the statements are not yours to turn. If you find one false, say at which input.
  Laid BY PROGRAM, IN A SANDBOX (cutbox-rows.mjs): the forced cells as the released guide's own fill.sh prints them over the translation da1cba07d934dd77… (all of the seat's roots in one cut). By AI agents, Wed Nov 11 2026. No macro, syntax, notation, axiom, sorry.
-/
import Derived.Test.YtomnbdbmcmeikaaChecked
import GoSem.Claim
import GoSem.ClaimJoined
import GoSem.ClaimMapViews
import Derived.JoinedTies
import Derived.KernelRfl
namespace Go.Proofs.Ytomnbdbmcmeikaa
/- THE CELL 'sum', in the pinned program and in every row, IS THE sha256 OF THE DUMP (.gsa) THAT YtomnbdbmcmeikaaProg.lean LOADS. Nothing in Lean hashes anything: it is a label: what it is worth is what the hold of that sum in a sandbox is worth. -/
noncomputable def Try.pinned : Pinned := { name := "ytomnbdbmcmeikaa", sum := "da1cba07d934dd7721a038e2668ef5b3e34facfcf2466315c6ce1ced9270290e", checked := Try.checked }
namespace Rows
def none {H : Type} : Left H := { results := [], args := [] }

/-- 'laws.FnExactAfterDay': WHATEVER THE INPUT: true; the input reads as it did. -/
def fnExactAfterDaySpec : ChangeSpec := { name := "fnExactAfterDay", fn := fun _ => fun
  | [d1, d2, d3] => { results := [.lit (.bool true)], args := [d1, d2, d3] }
  | _ => none }
def fnExactAfterDayRow : OpenClaim := { program := "ytomnbdbmcmeikaa", sum := "da1cba07d934dd7721a038e2668ef5b3e34facfcf2466315c6ce1ced9270290e", func := "loop.example/questiongames/laws.FnExactAfterDay", spec := "fnExactAfterDay", unfollowed := true, recurses := true, apart := false }
def FnExactAfterDaySaid : Prop := fnExactAfterDayRow.holds Try.pinned (OpenSpec.ofChange fnExactAfterDaySpec)

/-- ITS FALSE NEIGHBOUR: 'it returns false'. Refute it at one input. -/
def fnExactAfterDayWrong : ChangeSpec := { name := "fnExactAfterDay", fn := fun _ => fun
  | [d1, d2, d3] => { results := [.lit (.bool false)], args := [d1, d2, d3] }
  | _ => none }
def FnExactAfterDayWrongFalsely : Prop := fnExactAfterDayRow.holds Try.pinned (OpenSpec.ofChange fnExactAfterDayWrong)

/-- 'laws.FnExactLeftAfter': WHATEVER THE INPUT: true; the input reads as it did. -/
def fnExactLeftAfterSpec : ChangeSpec := { name := "fnExactLeftAfter", fn := fun _ => fun
  | [d1, d2] => { results := [.lit (.bool true)], args := [d1, d2] }
  | _ => none }
def fnExactLeftAfterRow : OpenClaim := { program := "ytomnbdbmcmeikaa", sum := "da1cba07d934dd7721a038e2668ef5b3e34facfcf2466315c6ce1ced9270290e", func := "loop.example/questiongames/laws.FnExactLeftAfter", spec := "fnExactLeftAfter", unfollowed := true, recurses := true, apart := false }
def FnExactLeftAfterSaid : Prop := fnExactLeftAfterRow.holds Try.pinned (OpenSpec.ofChange fnExactLeftAfterSpec)

/-- ITS FALSE NEIGHBOUR: 'it returns false'. Refute it at one input. -/
def fnExactLeftAfterWrong : ChangeSpec := { name := "fnExactLeftAfter", fn := fun _ => fun
  | [d1, d2] => { results := [.lit (.bool false)], args := [d1, d2] }
  | _ => none }
def FnExactLeftAfterWrongFalsely : Prop := fnExactLeftAfterRow.holds Try.pinned (OpenSpec.ofChange fnExactLeftAfterWrong)

/-- 'laws.FnExactSurelyFound': WHATEVER THE INPUT: true; the input reads as it did. -/
def fnExactSurelyFoundSpec : ChangeSpec := { name := "fnExactSurelyFound", fn := fun _ => fun
  | [d1, d2] => { results := [.lit (.bool true)], args := [d1, d2] }
  | _ => none }
def fnExactSurelyFoundRow : OpenClaim := { program := "ytomnbdbmcmeikaa", sum := "da1cba07d934dd7721a038e2668ef5b3e34facfcf2466315c6ce1ced9270290e", func := "loop.example/questiongames/laws.FnExactSurelyFound", spec := "fnExactSurelyFound", unfollowed := true, recurses := true, apart := false }
def FnExactSurelyFoundSaid : Prop := fnExactSurelyFoundRow.holds Try.pinned (OpenSpec.ofChange fnExactSurelyFoundSpec)

/-- ITS FALSE NEIGHBOUR: 'it returns false'. Refute it at one input. -/
def fnExactSurelyFoundWrong : ChangeSpec := { name := "fnExactSurelyFound", fn := fun _ => fun
  | [d1, d2] => { results := [.lit (.bool false)], args := [d1, d2] }
  | _ => none }
def FnExactSurelyFoundWrongFalsely : Prop := fnExactSurelyFoundRow.holds Try.pinned (OpenSpec.ofChange fnExactSurelyFoundWrong)

/-- 'laws.FnExactMetOn': WHATEVER THE INPUT: true; the input reads as it did. -/
def fnExactMetOnSpec : ChangeSpec := { name := "fnExactMetOn", fn := fun _ => fun
  | [d1, d2, d3] => { results := [.lit (.bool true)], args := [d1, d2, d3] }
  | _ => none }
def fnExactMetOnRow : OpenClaim := { program := "ytomnbdbmcmeikaa", sum := "da1cba07d934dd7721a038e2668ef5b3e34facfcf2466315c6ce1ced9270290e", func := "loop.example/questiongames/laws.FnExactMetOn", spec := "fnExactMetOn", unfollowed := true, recurses := true, apart := false }
def FnExactMetOnSaid : Prop := fnExactMetOnRow.holds Try.pinned (OpenSpec.ofChange fnExactMetOnSpec)

/-- ITS FALSE NEIGHBOUR: 'it returns false'. Refute it at one input. -/
def fnExactMetOnWrong : ChangeSpec := { name := "fnExactMetOn", fn := fun _ => fun
  | [d1, d2, d3] => { results := [.lit (.bool false)], args := [d1, d2, d3] }
  | _ => none }
def FnExactMetOnWrongFalsely : Prop := fnExactMetOnRow.holds Try.pinned (OpenSpec.ofChange fnExactMetOnWrong)

/-- 'laws.FnExactNeededAt': WHATEVER THE INPUT: true; the input reads as it did. -/
def fnExactNeededAtSpec : ChangeSpec := { name := "fnExactNeededAt", fn := fun _ => fun
  | [d1, d2] => { results := [.lit (.bool true)], args := [d1, d2] }
  | _ => none }
def fnExactNeededAtRow : OpenClaim := { program := "ytomnbdbmcmeikaa", sum := "da1cba07d934dd7721a038e2668ef5b3e34facfcf2466315c6ce1ced9270290e", func := "loop.example/questiongames/laws.FnExactNeededAt", spec := "fnExactNeededAt", unfollowed := true, recurses := true, apart := false }
def FnExactNeededAtSaid : Prop := fnExactNeededAtRow.holds Try.pinned (OpenSpec.ofChange fnExactNeededAtSpec)

/-- ITS FALSE NEIGHBOUR: 'it returns false'. Refute it at one input. -/
def fnExactNeededAtWrong : ChangeSpec := { name := "fnExactNeededAt", fn := fun _ => fun
  | [d1, d2] => { results := [.lit (.bool false)], args := [d1, d2] }
  | _ => none }
def FnExactNeededAtWrongFalsely : Prop := fnExactNeededAtRow.holds Try.pinned (OpenSpec.ofChange fnExactNeededAtWrong)

/-- 'laws.FnExactShortestHunt': WHATEVER THE INPUT: true; the input reads as it did. -/
def fnExactShortestHuntSpec : ChangeSpec := { name := "fnExactShortestHunt", fn := fun _ => fun
  | [d] => { results := [.lit (.bool true)], args := [d] }
  | _ => none }
def fnExactShortestHuntRow : OpenClaim := { program := "ytomnbdbmcmeikaa", sum := "da1cba07d934dd7721a038e2668ef5b3e34facfcf2466315c6ce1ced9270290e", func := "loop.example/questiongames/laws.FnExactShortestHunt", spec := "fnExactShortestHunt", unfollowed := true, recurses := true, apart := false }
def FnExactShortestHuntSaid : Prop := fnExactShortestHuntRow.holds Try.pinned (OpenSpec.ofChange fnExactShortestHuntSpec)

/-- ITS FALSE NEIGHBOUR: 'it returns false'. Refute it at one input. -/
def fnExactShortestHuntWrong : ChangeSpec := { name := "fnExactShortestHunt", fn := fun _ => fun
  | [d] => { results := [.lit (.bool false)], args := [d] }
  | _ => none }
def FnExactShortestHuntWrongFalsely : Prop := fnExactShortestHuntRow.holds Try.pinned (OpenSpec.ofChange fnExactShortestHuntWrong)

/-- 'laws.FnExactAnswerWorst': WHATEVER THE INPUT: true; the input reads as it did. -/
def fnExactAnswerWorstSpec : ChangeSpec := { name := "fnExactAnswerWorst", fn := fun _ => fun
  | [d1, d2, d3] => { results := [.lit (.bool true)], args := [d1, d2, d3] }
  | _ => none }
def fnExactAnswerWorstRow : OpenClaim := { program := "ytomnbdbmcmeikaa", sum := "da1cba07d934dd7721a038e2668ef5b3e34facfcf2466315c6ce1ced9270290e", func := "loop.example/questiongames/laws.FnExactAnswerWorst", spec := "fnExactAnswerWorst", unfollowed := true, recurses := true, apart := false }
def FnExactAnswerWorstSaid : Prop := fnExactAnswerWorstRow.holds Try.pinned (OpenSpec.ofChange fnExactAnswerWorstSpec)

/-- ITS FALSE NEIGHBOUR: 'it returns false'. Refute it at one input. -/
def fnExactAnswerWorstWrong : ChangeSpec := { name := "fnExactAnswerWorst", fn := fun _ => fun
  | [d1, d2, d3] => { results := [.lit (.bool false)], args := [d1, d2, d3] }
  | _ => none }
def FnExactAnswerWorstWrongFalsely : Prop := fnExactAnswerWorstRow.holds Try.pinned (OpenSpec.ofChange fnExactAnswerWorstWrong)

/-- 'laws.FnExactAskNext': WHATEVER THE INPUT: true; the input reads as it did. -/
def fnExactAskNextSpec : ChangeSpec := { name := "fnExactAskNext", fn := fun _ => fun
  | [d1, d2] => { results := [.lit (.bool true)], args := [d1, d2] }
  | _ => none }
def fnExactAskNextRow : OpenClaim := { program := "ytomnbdbmcmeikaa", sum := "da1cba07d934dd7721a038e2668ef5b3e34facfcf2466315c6ce1ced9270290e", func := "loop.example/questiongames/laws.FnExactAskNext", spec := "fnExactAskNext", unfollowed := true, recurses := true, apart := false }
def FnExactAskNextSaid : Prop := fnExactAskNextRow.holds Try.pinned (OpenSpec.ofChange fnExactAskNextSpec)

/-- ITS FALSE NEIGHBOUR: 'it returns false'. Refute it at one input. -/
def fnExactAskNextWrong : ChangeSpec := { name := "fnExactAskNext", fn := fun _ => fun
  | [d1, d2] => { results := [.lit (.bool false)], args := [d1, d2] }
  | _ => none }
def FnExactAskNextWrongFalsely : Prop := fnExactAskNextRow.holds Try.pinned (OpenSpec.ofChange fnExactAskNextWrong)

/-- 'laws.FnExactPlayedOut': WHATEVER THE INPUT: true; the input reads as it did. -/
def fnExactPlayedOutSpec : ChangeSpec := { name := "fnExactPlayedOut", fn := fun _ => fun
  | [d] => { results := [.lit (.bool true)], args := [d] }
  | _ => none }
def fnExactPlayedOutRow : OpenClaim := { program := "ytomnbdbmcmeikaa", sum := "da1cba07d934dd7721a038e2668ef5b3e34facfcf2466315c6ce1ced9270290e", func := "loop.example/questiongames/laws.FnExactPlayedOut", spec := "fnExactPlayedOut", unfollowed := true, recurses := true, apart := false }
def FnExactPlayedOutSaid : Prop := fnExactPlayedOutRow.holds Try.pinned (OpenSpec.ofChange fnExactPlayedOutSpec)

/-- ITS FALSE NEIGHBOUR: 'it returns false'. Refute it at one input. -/
def fnExactPlayedOutWrong : ChangeSpec := { name := "fnExactPlayedOut", fn := fun _ => fun
  | [d] => { results := [.lit (.bool false)], args := [d] }
  | _ => none }
def FnExactPlayedOutWrongFalsely : Prop := fnExactPlayedOutRow.holds Try.pinned (OpenSpec.ofChange fnExactPlayedOutWrong)

/-- 'laws.FnBesideOk': WHATEVER THE INPUT: true; the input reads as it did. -/
def fnBesideOkSpec : ChangeSpec := { name := "fnBesideOk", fn := fun _ => fun
  | [d] => { results := [.lit (.bool true)], args := [d] }
  | _ => none }
def fnBesideOkRow : OpenClaim := { program := "ytomnbdbmcmeikaa", sum := "da1cba07d934dd7721a038e2668ef5b3e34facfcf2466315c6ce1ced9270290e", func := "loop.example/questiongames/laws.FnBesideOk", spec := "fnBesideOk", unfollowed := true, recurses := true, apart := false }
def FnBesideOkSaid : Prop := fnBesideOkRow.holds Try.pinned (OpenSpec.ofChange fnBesideOkSpec)

/-- ITS FALSE NEIGHBOUR: 'it returns false'. Refute it at one input. -/
def fnBesideOkWrong : ChangeSpec := { name := "fnBesideOk", fn := fun _ => fun
  | [d] => { results := [.lit (.bool false)], args := [d] }
  | _ => none }
def FnBesideOkWrongFalsely : Prop := fnBesideOkRow.holds Try.pinned (OpenSpec.ofChange fnBesideOkWrong)

/-- 'laws.FnAfterDay': WHATEVER THE INPUT: true; the input reads as it did. -/
def fnAfterDaySpec : ChangeSpec := { name := "fnAfterDay", fn := fun _ => fun
  | [d] => { results := [.lit (.bool true)], args := [d] }
  | _ => none }
def fnAfterDayRow : OpenClaim := { program := "ytomnbdbmcmeikaa", sum := "da1cba07d934dd7721a038e2668ef5b3e34facfcf2466315c6ce1ced9270290e", func := "loop.example/questiongames/laws.FnAfterDay", spec := "fnAfterDay", unfollowed := true, recurses := true, apart := false }
def FnAfterDaySaid : Prop := fnAfterDayRow.holds Try.pinned (OpenSpec.ofChange fnAfterDaySpec)

/-- ITS FALSE NEIGHBOUR: 'it returns false'. Refute it at one input. -/
def fnAfterDayWrong : ChangeSpec := { name := "fnAfterDay", fn := fun _ => fun
  | [d] => { results := [.lit (.bool false)], args := [d] }
  | _ => none }
def FnAfterDayWrongFalsely : Prop := fnAfterDayRow.holds Try.pinned (OpenSpec.ofChange fnAfterDayWrong)

/-- 'laws.FnLeftAfter': WHATEVER THE INPUT: true; the input reads as it did. -/
def fnLeftAfterSpec : ChangeSpec := { name := "fnLeftAfter", fn := fun _ => fun
  | [d] => { results := [.lit (.bool true)], args := [d] }
  | _ => none }
def fnLeftAfterRow : OpenClaim := { program := "ytomnbdbmcmeikaa", sum := "da1cba07d934dd7721a038e2668ef5b3e34facfcf2466315c6ce1ced9270290e", func := "loop.example/questiongames/laws.FnLeftAfter", spec := "fnLeftAfter", unfollowed := true, recurses := true, apart := false }
def FnLeftAfterSaid : Prop := fnLeftAfterRow.holds Try.pinned (OpenSpec.ofChange fnLeftAfterSpec)

/-- ITS FALSE NEIGHBOUR: 'it returns false'. Refute it at one input. -/
def fnLeftAfterWrong : ChangeSpec := { name := "fnLeftAfter", fn := fun _ => fun
  | [d] => { results := [.lit (.bool false)], args := [d] }
  | _ => none }
def FnLeftAfterWrongFalsely : Prop := fnLeftAfterRow.holds Try.pinned (OpenSpec.ofChange fnLeftAfterWrong)

/- THE SECOND FORM. 'bulk': how many values and letters a reading holds, each counted each time it is reached (what is shared counts as often as it is met; a slice's spare places count too). A statement '..UptoSaid' is the law's where the arguments, and the package variables that the reading takes, are together of bulk at most 1048576: NARROWER than '..Said'. Prove '..Said' where nothing that the law and all that it calls make is longer than what came in: it says more and counts as full. Else prove '..UptoSaid'. A law counts once. -/
mutual
def uptoBulk {H : Type} : DataW H → Nat
  | .lit (.string bytes) => bytes.length + 1
  | .lit _ => 1
  | .nil => 1
  | .ptr d => uptoBulk d + 1
  | .slice elems spare => uptoBulkAll elems + uptoBulkAll spare + 1
  | .agg parts => uptoBulkAll parts + 1
  | .iface _ d => uptoBulk d + 1
  | .map entries => uptoBulkEntries entries + 1
  | .held _ => 1
def uptoBulkAll {H : Type} : List (DataW H) → Nat
  | [] => 0
  | d :: r => uptoBulk d + uptoBulkAll r
def uptoBulkEntries {H : Type} : List (Lit × DataW H) → Nat
  | [] => 0
  | x :: r => uptoBulkEntry x + uptoBulkEntries r
def uptoBulkEntry {H : Type} : Lit × DataW H → Nat
  | (.string bytes, d) => bytes.length + uptoBulk d + 1
  | (_, d) => uptoBulk d + 1
 end
def uptoSmall : (H : Type) → List (DataW H) → Bool := fun _ ds => decide (uptoBulkAll ds ≤ 1048576)
def OpenSpec.upto (s : _root_.Go.ChangeSpec) : _root_.Go.OpenSpec := { _root_.Go.OpenSpec.ofChange s with cond := some uptoSmall }

/-- 'laws.FnExactAfterDay', WHERE WHAT IT READS IS OF BULK AT MOST 1048576: true; the input reads as it did. -/
def fnExactAfterDayUptoRow : OpenClaim := { program := "ytomnbdbmcmeikaa", sum := "da1cba07d934dd7721a038e2668ef5b3e34facfcf2466315c6ce1ced9270290e", func := "loop.example/questiongames/laws.FnExactAfterDay", spec := "fnExactAfterDay", unfollowed := true, recurses := true, apart := false, narrowed := true }
def FnExactAfterDayUptoSaid : Prop := fnExactAfterDayUptoRow.holds Try.pinned (OpenSpec.upto fnExactAfterDaySpec)

/-- 'laws.FnExactLeftAfter', WHERE WHAT IT READS IS OF BULK AT MOST 1048576: true; the input reads as it did. -/
def fnExactLeftAfterUptoRow : OpenClaim := { program := "ytomnbdbmcmeikaa", sum := "da1cba07d934dd7721a038e2668ef5b3e34facfcf2466315c6ce1ced9270290e", func := "loop.example/questiongames/laws.FnExactLeftAfter", spec := "fnExactLeftAfter", unfollowed := true, recurses := true, apart := false, narrowed := true }
def FnExactLeftAfterUptoSaid : Prop := fnExactLeftAfterUptoRow.holds Try.pinned (OpenSpec.upto fnExactLeftAfterSpec)

/-- 'laws.FnExactSurelyFound', WHERE WHAT IT READS IS OF BULK AT MOST 1048576: true; the input reads as it did. -/
def fnExactSurelyFoundUptoRow : OpenClaim := { program := "ytomnbdbmcmeikaa", sum := "da1cba07d934dd7721a038e2668ef5b3e34facfcf2466315c6ce1ced9270290e", func := "loop.example/questiongames/laws.FnExactSurelyFound", spec := "fnExactSurelyFound", unfollowed := true, recurses := true, apart := false, narrowed := true }
def FnExactSurelyFoundUptoSaid : Prop := fnExactSurelyFoundUptoRow.holds Try.pinned (OpenSpec.upto fnExactSurelyFoundSpec)

/-- 'laws.FnExactMetOn', WHERE WHAT IT READS IS OF BULK AT MOST 1048576: true; the input reads as it did. -/
def fnExactMetOnUptoRow : OpenClaim := { program := "ytomnbdbmcmeikaa", sum := "da1cba07d934dd7721a038e2668ef5b3e34facfcf2466315c6ce1ced9270290e", func := "loop.example/questiongames/laws.FnExactMetOn", spec := "fnExactMetOn", unfollowed := true, recurses := true, apart := false, narrowed := true }
def FnExactMetOnUptoSaid : Prop := fnExactMetOnUptoRow.holds Try.pinned (OpenSpec.upto fnExactMetOnSpec)

/-- 'laws.FnExactNeededAt', WHERE WHAT IT READS IS OF BULK AT MOST 1048576: true; the input reads as it did. -/
def fnExactNeededAtUptoRow : OpenClaim := { program := "ytomnbdbmcmeikaa", sum := "da1cba07d934dd7721a038e2668ef5b3e34facfcf2466315c6ce1ced9270290e", func := "loop.example/questiongames/laws.FnExactNeededAt", spec := "fnExactNeededAt", unfollowed := true, recurses := true, apart := false, narrowed := true }
def FnExactNeededAtUptoSaid : Prop := fnExactNeededAtUptoRow.holds Try.pinned (OpenSpec.upto fnExactNeededAtSpec)

/-- 'laws.FnExactShortestHunt', WHERE WHAT IT READS IS OF BULK AT MOST 1048576: true; the input reads as it did. -/
def fnExactShortestHuntUptoRow : OpenClaim := { program := "ytomnbdbmcmeikaa", sum := "da1cba07d934dd7721a038e2668ef5b3e34facfcf2466315c6ce1ced9270290e", func := "loop.example/questiongames/laws.FnExactShortestHunt", spec := "fnExactShortestHunt", unfollowed := true, recurses := true, apart := false, narrowed := true }
def FnExactShortestHuntUptoSaid : Prop := fnExactShortestHuntUptoRow.holds Try.pinned (OpenSpec.upto fnExactShortestHuntSpec)

/-- 'laws.FnExactAnswerWorst', WHERE WHAT IT READS IS OF BULK AT MOST 1048576: true; the input reads as it did. -/
def fnExactAnswerWorstUptoRow : OpenClaim := { program := "ytomnbdbmcmeikaa", sum := "da1cba07d934dd7721a038e2668ef5b3e34facfcf2466315c6ce1ced9270290e", func := "loop.example/questiongames/laws.FnExactAnswerWorst", spec := "fnExactAnswerWorst", unfollowed := true, recurses := true, apart := false, narrowed := true }
def FnExactAnswerWorstUptoSaid : Prop := fnExactAnswerWorstUptoRow.holds Try.pinned (OpenSpec.upto fnExactAnswerWorstSpec)

/-- 'laws.FnExactAskNext', WHERE WHAT IT READS IS OF BULK AT MOST 1048576: true; the input reads as it did. -/
def fnExactAskNextUptoRow : OpenClaim := { program := "ytomnbdbmcmeikaa", sum := "da1cba07d934dd7721a038e2668ef5b3e34facfcf2466315c6ce1ced9270290e", func := "loop.example/questiongames/laws.FnExactAskNext", spec := "fnExactAskNext", unfollowed := true, recurses := true, apart := false, narrowed := true }
def FnExactAskNextUptoSaid : Prop := fnExactAskNextUptoRow.holds Try.pinned (OpenSpec.upto fnExactAskNextSpec)

/-- 'laws.FnExactPlayedOut', WHERE WHAT IT READS IS OF BULK AT MOST 1048576: true; the input reads as it did. -/
def fnExactPlayedOutUptoRow : OpenClaim := { program := "ytomnbdbmcmeikaa", sum := "da1cba07d934dd7721a038e2668ef5b3e34facfcf2466315c6ce1ced9270290e", func := "loop.example/questiongames/laws.FnExactPlayedOut", spec := "fnExactPlayedOut", unfollowed := true, recurses := true, apart := false, narrowed := true }
def FnExactPlayedOutUptoSaid : Prop := fnExactPlayedOutUptoRow.holds Try.pinned (OpenSpec.upto fnExactPlayedOutSpec)

/-- 'laws.FnBesideOk', WHERE WHAT IT READS IS OF BULK AT MOST 1048576: true; the input reads as it did. -/
def fnBesideOkUptoRow : OpenClaim := { program := "ytomnbdbmcmeikaa", sum := "da1cba07d934dd7721a038e2668ef5b3e34facfcf2466315c6ce1ced9270290e", func := "loop.example/questiongames/laws.FnBesideOk", spec := "fnBesideOk", unfollowed := true, recurses := true, apart := false, narrowed := true }
def FnBesideOkUptoSaid : Prop := fnBesideOkUptoRow.holds Try.pinned (OpenSpec.upto fnBesideOkSpec)

/-- 'laws.FnAfterDay', WHERE WHAT IT READS IS OF BULK AT MOST 1048576: true; the input reads as it did. -/
def fnAfterDayUptoRow : OpenClaim := { program := "ytomnbdbmcmeikaa", sum := "da1cba07d934dd7721a038e2668ef5b3e34facfcf2466315c6ce1ced9270290e", func := "loop.example/questiongames/laws.FnAfterDay", spec := "fnAfterDay", unfollowed := true, recurses := true, apart := false, narrowed := true }
def FnAfterDayUptoSaid : Prop := fnAfterDayUptoRow.holds Try.pinned (OpenSpec.upto fnAfterDaySpec)

/-- 'laws.FnLeftAfter', WHERE WHAT IT READS IS OF BULK AT MOST 1048576: true; the input reads as it did. -/
def fnLeftAfterUptoRow : OpenClaim := { program := "ytomnbdbmcmeikaa", sum := "da1cba07d934dd7721a038e2668ef5b3e34facfcf2466315c6ce1ced9270290e", func := "loop.example/questiongames/laws.FnLeftAfter", spec := "fnLeftAfter", unfollowed := true, recurses := true, apart := false, narrowed := true }
def FnLeftAfterUptoSaid : Prop := fnLeftAfterUptoRow.holds Try.pinned (OpenSpec.upto fnLeftAfterSpec)

end Rows
end Go.Proofs.Ytomnbdbmcmeikaa
