/-
  No cell of these rows narrows 'for every input' (looked for: loops, veiled, ifaces, maps, wideKeys, modest, calm, conditions, laid).
  DERIVED. THE GIVEN ROWS OF THIS SEAT. 12 by the template 'for every input the law returns true; each argument reads behind the call as it read before'; 0 by the template 'total and deterministic' (their statements: YtpeogghiboaceaaTotals.lean).
  GIVEN WITH THE SEED: the statements are not yours to turn. If you find one false, say at which input.
  Laid BY PROGRAM, IN A SANDBOX (cutbox-rows.mjs): the forced cells as the released guide's own fill.sh prints them over the translation 7a35f812ec146db1… (all of the seat's roots in one cut). By AI agents, Wed Nov 11 2026. No macro, syntax, notation, axiom, sorry.
-/
import Derived.Test.YtpeogghiboaceaaChecked
import GoSem.Claim
import GoSem.ClaimJoined
import GoSem.ClaimMapViews
import Derived.JoinedTies
import Derived.KernelRfl
namespace Go.Proofs.Ytpeogghiboaceaa
/- THE CELL 'sum', in the pinned program and in every row, IS THE sha256 OF THE DUMP (.gsa) THAT YtpeogghiboaceaaProg.lean LOADS. Nothing in Lean hashes anything: it is a label: what it is worth is what the hold of that sum in a sandbox is worth. -/
noncomputable def Try.pinned : Pinned := { name := "ytpeogghiboaceaa", sum := "7a35f812ec146db11188653fd33da8b537b89f2bea1aa67863e66237a1518f25", checked := Try.checked }
namespace Rows
def none {H : Type} : Left H := { results := [], args := [] }

/-- 'laws.FnExactShortestHunt': WHATEVER THE INPUT: true; the input reads as it did. -/
def fnExactShortestHuntSpec : ChangeSpec := { name := "fnExactShortestHunt", fn := fun _ => fun
  | [d] => { results := [.lit (.bool true)], args := [d] }
  | _ => none }
def fnExactShortestHuntRow : OpenClaim := { program := "ytpeogghiboaceaa", sum := "7a35f812ec146db11188653fd33da8b537b89f2bea1aa67863e66237a1518f25", func := "loop.example/questiongames/laws.FnExactShortestHunt", spec := "fnExactShortestHunt", unfollowed := true, recurses := true, apart := false }
def FnExactShortestHuntSaid : Prop := fnExactShortestHuntRow.holds Try.pinned (OpenSpec.ofChange fnExactShortestHuntSpec)

/-- ITS FALSE NEIGHBOUR: 'it returns false'. Refute it at one input. -/
def fnExactShortestHuntWrong : ChangeSpec := { name := "fnExactShortestHunt", fn := fun _ => fun
  | [d] => { results := [.lit (.bool false)], args := [d] }
  | _ => none }
def FnExactShortestHuntWrongFalsely : Prop := fnExactShortestHuntRow.holds Try.pinned (OpenSpec.ofChange fnExactShortestHuntWrong)

/-- 'laws.FnExactNeededAt': WHATEVER THE INPUT: true; the input reads as it did. -/
def fnExactNeededAtSpec : ChangeSpec := { name := "fnExactNeededAt", fn := fun _ => fun
  | [d1, d2] => { results := [.lit (.bool true)], args := [d1, d2] }
  | _ => none }
def fnExactNeededAtRow : OpenClaim := { program := "ytpeogghiboaceaa", sum := "7a35f812ec146db11188653fd33da8b537b89f2bea1aa67863e66237a1518f25", func := "loop.example/questiongames/laws.FnExactNeededAt", spec := "fnExactNeededAt", unfollowed := true, recurses := true, apart := false }
def FnExactNeededAtSaid : Prop := fnExactNeededAtRow.holds Try.pinned (OpenSpec.ofChange fnExactNeededAtSpec)

/-- ITS FALSE NEIGHBOUR: 'it returns false'. Refute it at one input. -/
def fnExactNeededAtWrong : ChangeSpec := { name := "fnExactNeededAt", fn := fun _ => fun
  | [d1, d2] => { results := [.lit (.bool false)], args := [d1, d2] }
  | _ => none }
def FnExactNeededAtWrongFalsely : Prop := fnExactNeededAtRow.holds Try.pinned (OpenSpec.ofChange fnExactNeededAtWrong)

/-- 'laws.FnNeededAt': WHATEVER THE INPUT: true; the input reads as it did. -/
def fnNeededAtSpec : ChangeSpec := { name := "fnNeededAt", fn := fun _ => fun
  | [d] => { results := [.lit (.bool true)], args := [d] }
  | _ => none }
def fnNeededAtRow : OpenClaim := { program := "ytpeogghiboaceaa", sum := "7a35f812ec146db11188653fd33da8b537b89f2bea1aa67863e66237a1518f25", func := "loop.example/questiongames/laws.FnNeededAt", spec := "fnNeededAt", unfollowed := true, recurses := true, apart := false }
def FnNeededAtSaid : Prop := fnNeededAtRow.holds Try.pinned (OpenSpec.ofChange fnNeededAtSpec)

/-- ITS FALSE NEIGHBOUR: 'it returns false'. Refute it at one input. -/
def fnNeededAtWrong : ChangeSpec := { name := "fnNeededAt", fn := fun _ => fun
  | [d] => { results := [.lit (.bool false)], args := [d] }
  | _ => none }
def FnNeededAtWrongFalsely : Prop := fnNeededAtRow.holds Try.pinned (OpenSpec.ofChange fnNeededAtWrong)

/-- 'laws.FnApartOk': WHATEVER THE INPUT: true; the input reads as it did. -/
def fnApartOkSpec : ChangeSpec := { name := "fnApartOk", fn := fun _ => fun
  | [d] => { results := [.lit (.bool true)], args := [d] }
  | _ => none }
def fnApartOkRow : OpenClaim := { program := "ytpeogghiboaceaa", sum := "7a35f812ec146db11188653fd33da8b537b89f2bea1aa67863e66237a1518f25", func := "loop.example/questiongames/laws.FnApartOk", spec := "fnApartOk", unfollowed := true, recurses := true, apart := false }
def FnApartOkSaid : Prop := fnApartOkRow.holds Try.pinned (OpenSpec.ofChange fnApartOkSpec)

/-- ITS FALSE NEIGHBOUR: 'it returns false'. Refute it at one input. -/
def fnApartOkWrong : ChangeSpec := { name := "fnApartOk", fn := fun _ => fun
  | [d] => { results := [.lit (.bool false)], args := [d] }
  | _ => none }
def FnApartOkWrongFalsely : Prop := fnApartOkRow.holds Try.pinned (OpenSpec.ofChange fnApartOkWrong)

/-- 'laws.FnExactAnswerWorst': WHATEVER THE INPUT: true; the input reads as it did. -/
def fnExactAnswerWorstSpec : ChangeSpec := { name := "fnExactAnswerWorst", fn := fun _ => fun
  | [d1, d2, d3] => { results := [.lit (.bool true)], args := [d1, d2, d3] }
  | _ => none }
def fnExactAnswerWorstRow : OpenClaim := { program := "ytpeogghiboaceaa", sum := "7a35f812ec146db11188653fd33da8b537b89f2bea1aa67863e66237a1518f25", func := "loop.example/questiongames/laws.FnExactAnswerWorst", spec := "fnExactAnswerWorst", unfollowed := true, recurses := true, apart := false }
def FnExactAnswerWorstSaid : Prop := fnExactAnswerWorstRow.holds Try.pinned (OpenSpec.ofChange fnExactAnswerWorstSpec)

/-- ITS FALSE NEIGHBOUR: 'it returns false'. Refute it at one input. -/
def fnExactAnswerWorstWrong : ChangeSpec := { name := "fnExactAnswerWorst", fn := fun _ => fun
  | [d1, d2, d3] => { results := [.lit (.bool false)], args := [d1, d2, d3] }
  | _ => none }
def FnExactAnswerWorstWrongFalsely : Prop := fnExactAnswerWorstRow.holds Try.pinned (OpenSpec.ofChange fnExactAnswerWorstWrong)

/-- 'laws.FnAnswerWorst': WHATEVER THE INPUT: true; the input reads as it did. -/
def fnAnswerWorstSpec : ChangeSpec := { name := "fnAnswerWorst", fn := fun _ => fun
  | [d] => { results := [.lit (.bool true)], args := [d] }
  | _ => none }
def fnAnswerWorstRow : OpenClaim := { program := "ytpeogghiboaceaa", sum := "7a35f812ec146db11188653fd33da8b537b89f2bea1aa67863e66237a1518f25", func := "loop.example/questiongames/laws.FnAnswerWorst", spec := "fnAnswerWorst", unfollowed := true, recurses := true, apart := false }
def FnAnswerWorstSaid : Prop := fnAnswerWorstRow.holds Try.pinned (OpenSpec.ofChange fnAnswerWorstSpec)

/-- ITS FALSE NEIGHBOUR: 'it returns false'. Refute it at one input. -/
def fnAnswerWorstWrong : ChangeSpec := { name := "fnAnswerWorst", fn := fun _ => fun
  | [d] => { results := [.lit (.bool false)], args := [d] }
  | _ => none }
def FnAnswerWorstWrongFalsely : Prop := fnAnswerWorstRow.holds Try.pinned (OpenSpec.ofChange fnAnswerWorstWrong)

/-- 'laws.FnExactAskNext': WHATEVER THE INPUT: true; the input reads as it did. -/
def fnExactAskNextSpec : ChangeSpec := { name := "fnExactAskNext", fn := fun _ => fun
  | [d1, d2] => { results := [.lit (.bool true)], args := [d1, d2] }
  | _ => none }
def fnExactAskNextRow : OpenClaim := { program := "ytpeogghiboaceaa", sum := "7a35f812ec146db11188653fd33da8b537b89f2bea1aa67863e66237a1518f25", func := "loop.example/questiongames/laws.FnExactAskNext", spec := "fnExactAskNext", unfollowed := true, recurses := true, apart := false }
def FnExactAskNextSaid : Prop := fnExactAskNextRow.holds Try.pinned (OpenSpec.ofChange fnExactAskNextSpec)

/-- ITS FALSE NEIGHBOUR: 'it returns false'. Refute it at one input. -/
def fnExactAskNextWrong : ChangeSpec := { name := "fnExactAskNext", fn := fun _ => fun
  | [d1, d2] => { results := [.lit (.bool false)], args := [d1, d2] }
  | _ => none }
def FnExactAskNextWrongFalsely : Prop := fnExactAskNextRow.holds Try.pinned (OpenSpec.ofChange fnExactAskNextWrong)

/-- 'laws.FnAskNext': WHATEVER THE INPUT: true; the input reads as it did. -/
def fnAskNextSpec : ChangeSpec := { name := "fnAskNext", fn := fun _ => fun
  | [d] => { results := [.lit (.bool true)], args := [d] }
  | _ => none }
def fnAskNextRow : OpenClaim := { program := "ytpeogghiboaceaa", sum := "7a35f812ec146db11188653fd33da8b537b89f2bea1aa67863e66237a1518f25", func := "loop.example/questiongames/laws.FnAskNext", spec := "fnAskNext", unfollowed := true, recurses := true, apart := false }
def FnAskNextSaid : Prop := fnAskNextRow.holds Try.pinned (OpenSpec.ofChange fnAskNextSpec)

/-- ITS FALSE NEIGHBOUR: 'it returns false'. Refute it at one input. -/
def fnAskNextWrong : ChangeSpec := { name := "fnAskNext", fn := fun _ => fun
  | [d] => { results := [.lit (.bool false)], args := [d] }
  | _ => none }
def FnAskNextWrongFalsely : Prop := fnAskNextRow.holds Try.pinned (OpenSpec.ofChange fnAskNextWrong)

/-- 'laws.FnExactPlayedOut': WHATEVER THE INPUT: true; the input reads as it did. -/
def fnExactPlayedOutSpec : ChangeSpec := { name := "fnExactPlayedOut", fn := fun _ => fun
  | [d] => { results := [.lit (.bool true)], args := [d] }
  | _ => none }
def fnExactPlayedOutRow : OpenClaim := { program := "ytpeogghiboaceaa", sum := "7a35f812ec146db11188653fd33da8b537b89f2bea1aa67863e66237a1518f25", func := "loop.example/questiongames/laws.FnExactPlayedOut", spec := "fnExactPlayedOut", unfollowed := true, recurses := true, apart := false }
def FnExactPlayedOutSaid : Prop := fnExactPlayedOutRow.holds Try.pinned (OpenSpec.ofChange fnExactPlayedOutSpec)

/-- ITS FALSE NEIGHBOUR: 'it returns false'. Refute it at one input. -/
def fnExactPlayedOutWrong : ChangeSpec := { name := "fnExactPlayedOut", fn := fun _ => fun
  | [d] => { results := [.lit (.bool false)], args := [d] }
  | _ => none }
def FnExactPlayedOutWrongFalsely : Prop := fnExactPlayedOutRow.holds Try.pinned (OpenSpec.ofChange fnExactPlayedOutWrong)

/-- 'laws.FnPlayedOut': WHATEVER THE INPUT: true; the input reads as it did. -/
def fnPlayedOutSpec : ChangeSpec := { name := "fnPlayedOut", fn := fun _ => fun
  | [d] => { results := [.lit (.bool true)], args := [d] }
  | _ => none }
def fnPlayedOutRow : OpenClaim := { program := "ytpeogghiboaceaa", sum := "7a35f812ec146db11188653fd33da8b537b89f2bea1aa67863e66237a1518f25", func := "loop.example/questiongames/laws.FnPlayedOut", spec := "fnPlayedOut", unfollowed := true, recurses := true, apart := false }
def FnPlayedOutSaid : Prop := fnPlayedOutRow.holds Try.pinned (OpenSpec.ofChange fnPlayedOutSpec)

/-- ITS FALSE NEIGHBOUR: 'it returns false'. Refute it at one input. -/
def fnPlayedOutWrong : ChangeSpec := { name := "fnPlayedOut", fn := fun _ => fun
  | [d] => { results := [.lit (.bool false)], args := [d] }
  | _ => none }
def FnPlayedOutWrongFalsely : Prop := fnPlayedOutRow.holds Try.pinned (OpenSpec.ofChange fnPlayedOutWrong)

/-- 'laws.FnExactStillAt': WHATEVER THE INPUT: true; the input reads as it did. -/
def fnExactStillAtSpec : ChangeSpec := { name := "fnExactStillAt", fn := fun _ => fun
  | [d1, d2, d3, d4] => { results := [.lit (.bool true)], args := [d1, d2, d3, d4] }
  | _ => none }
def fnExactStillAtRow : OpenClaim := { program := "ytpeogghiboaceaa", sum := "7a35f812ec146db11188653fd33da8b537b89f2bea1aa67863e66237a1518f25", func := "loop.example/questiongames/laws.FnExactStillAt", spec := "fnExactStillAt", unfollowed := true, recurses := true, apart := false }
def FnExactStillAtSaid : Prop := fnExactStillAtRow.holds Try.pinned (OpenSpec.ofChange fnExactStillAtSpec)

/-- ITS FALSE NEIGHBOUR: 'it returns false'. Refute it at one input. -/
def fnExactStillAtWrong : ChangeSpec := { name := "fnExactStillAt", fn := fun _ => fun
  | [d1, d2, d3, d4] => { results := [.lit (.bool false)], args := [d1, d2, d3, d4] }
  | _ => none }
def FnExactStillAtWrongFalsely : Prop := fnExactStillAtRow.holds Try.pinned (OpenSpec.ofChange fnExactStillAtWrong)

/-- 'laws.FnSureHit': WHATEVER THE INPUT: true; the input reads as it did. -/
def fnSureHitSpec : ChangeSpec := { name := "fnSureHit", fn := fun _ => fun
  | [d] => { results := [.lit (.bool true)], args := [d] }
  | _ => none }
def fnSureHitRow : OpenClaim := { program := "ytpeogghiboaceaa", sum := "7a35f812ec146db11188653fd33da8b537b89f2bea1aa67863e66237a1518f25", func := "loop.example/questiongames/laws.FnSureHit", spec := "fnSureHit", unfollowed := true, recurses := true, apart := false }
def FnSureHitSaid : Prop := fnSureHitRow.holds Try.pinned (OpenSpec.ofChange fnSureHitSpec)

/-- ITS FALSE NEIGHBOUR: 'it returns false'. Refute it at one input. -/
def fnSureHitWrong : ChangeSpec := { name := "fnSureHit", fn := fun _ => fun
  | [d] => { results := [.lit (.bool false)], args := [d] }
  | _ => none }
def FnSureHitWrongFalsely : Prop := fnSureHitRow.holds Try.pinned (OpenSpec.ofChange fnSureHitWrong)

/- THE SECOND FORM. 'bulk': how many values and letters a reading holds, each counted each time it is reached (what is shared counts as often as it is met; a slice's spare places count too). A statement '..UptoSaid' is the law's where the arguments, and the package variables that the reading takes, are together of bulk at most 1048576: NARROWER than '..Said'. Prove '..Said' where nothing that the law and all that it calls make is longer than what came in: it says more and counts as full. Else prove '..UptoSaid'. A law counts once. -/
mutual
def uptoBulk {H : Type} : DataW H → Nat
  | .lit (.string bytes) => bytes.length + 1
  | .lit _ => 1
  | .nil => 1
  | .ptr d => uptoBulk d + 1
  | .slice elems spare => uptoBulkAll elems + uptoBulkAll spare + 1
  | .agg parts => uptoBulkAll parts + 1
  | .iface _ d => uptoBulk d + 1
  | .map entries => uptoBulkEntries entries + 1
  | .held _ => 1
def uptoBulkAll {H : Type} : List (DataW H) → Nat
  | [] => 0
  | d :: r => uptoBulk d + uptoBulkAll r
def uptoBulkEntries {H : Type} : List (Lit × DataW H) → Nat
  | [] => 0
  | x :: r => uptoBulkEntry x + uptoBulkEntries r
def uptoBulkEntry {H : Type} : Lit × DataW H → Nat
  | (.string bytes, d) => bytes.length + uptoBulk d + 1
  | (_, d) => uptoBulk d + 1
 end
def uptoSmall : (H : Type) → List (DataW H) → Bool := fun _ ds => decide (uptoBulkAll ds ≤ 1048576)
def OpenSpec.upto (s : _root_.Go.ChangeSpec) : _root_.Go.OpenSpec := { _root_.Go.OpenSpec.ofChange s with cond := some uptoSmall }

/-- 'laws.FnExactShortestHunt', WHERE WHAT IT READS IS OF BULK AT MOST 1048576: true; the input reads as it did. -/
def fnExactShortestHuntUptoRow : OpenClaim := { program := "ytpeogghiboaceaa", sum := "7a35f812ec146db11188653fd33da8b537b89f2bea1aa67863e66237a1518f25", func := "loop.example/questiongames/laws.FnExactShortestHunt", spec := "fnExactShortestHunt", unfollowed := true, recurses := true, apart := false, narrowed := true }
def FnExactShortestHuntUptoSaid : Prop := fnExactShortestHuntUptoRow.holds Try.pinned (OpenSpec.upto fnExactShortestHuntSpec)

/-- 'laws.FnExactNeededAt', WHERE WHAT IT READS IS OF BULK AT MOST 1048576: true; the input reads as it did. -/
def fnExactNeededAtUptoRow : OpenClaim := { program := "ytpeogghiboaceaa", sum := "7a35f812ec146db11188653fd33da8b537b89f2bea1aa67863e66237a1518f25", func := "loop.example/questiongames/laws.FnExactNeededAt", spec := "fnExactNeededAt", unfollowed := true, recurses := true, apart := false, narrowed := true }
def FnExactNeededAtUptoSaid : Prop := fnExactNeededAtUptoRow.holds Try.pinned (OpenSpec.upto fnExactNeededAtSpec)

/-- 'laws.FnNeededAt', WHERE WHAT IT READS IS OF BULK AT MOST 1048576: true; the input reads as it did. -/
def fnNeededAtUptoRow : OpenClaim := { program := "ytpeogghiboaceaa", sum := "7a35f812ec146db11188653fd33da8b537b89f2bea1aa67863e66237a1518f25", func := "loop.example/questiongames/laws.FnNeededAt", spec := "fnNeededAt", unfollowed := true, recurses := true, apart := false, narrowed := true }
def FnNeededAtUptoSaid : Prop := fnNeededAtUptoRow.holds Try.pinned (OpenSpec.upto fnNeededAtSpec)

/-- 'laws.FnApartOk', WHERE WHAT IT READS IS OF BULK AT MOST 1048576: true; the input reads as it did. -/
def fnApartOkUptoRow : OpenClaim := { program := "ytpeogghiboaceaa", sum := "7a35f812ec146db11188653fd33da8b537b89f2bea1aa67863e66237a1518f25", func := "loop.example/questiongames/laws.FnApartOk", spec := "fnApartOk", unfollowed := true, recurses := true, apart := false, narrowed := true }
def FnApartOkUptoSaid : Prop := fnApartOkUptoRow.holds Try.pinned (OpenSpec.upto fnApartOkSpec)

/-- 'laws.FnExactAnswerWorst', WHERE WHAT IT READS IS OF BULK AT MOST 1048576: true; the input reads as it did. -/
def fnExactAnswerWorstUptoRow : OpenClaim := { program := "ytpeogghiboaceaa", sum := "7a35f812ec146db11188653fd33da8b537b89f2bea1aa67863e66237a1518f25", func := "loop.example/questiongames/laws.FnExactAnswerWorst", spec := "fnExactAnswerWorst", unfollowed := true, recurses := true, apart := false, narrowed := true }
def FnExactAnswerWorstUptoSaid : Prop := fnExactAnswerWorstUptoRow.holds Try.pinned (OpenSpec.upto fnExactAnswerWorstSpec)

/-- 'laws.FnAnswerWorst', WHERE WHAT IT READS IS OF BULK AT MOST 1048576: true; the input reads as it did. -/
def fnAnswerWorstUptoRow : OpenClaim := { program := "ytpeogghiboaceaa", sum := "7a35f812ec146db11188653fd33da8b537b89f2bea1aa67863e66237a1518f25", func := "loop.example/questiongames/laws.FnAnswerWorst", spec := "fnAnswerWorst", unfollowed := true, recurses := true, apart := false, narrowed := true }
def FnAnswerWorstUptoSaid : Prop := fnAnswerWorstUptoRow.holds Try.pinned (OpenSpec.upto fnAnswerWorstSpec)

/-- 'laws.FnExactAskNext', WHERE WHAT IT READS IS OF BULK AT MOST 1048576: true; the input reads as it did. -/
def fnExactAskNextUptoRow : OpenClaim := { program := "ytpeogghiboaceaa", sum := "7a35f812ec146db11188653fd33da8b537b89f2bea1aa67863e66237a1518f25", func := "loop.example/questiongames/laws.FnExactAskNext", spec := "fnExactAskNext", unfollowed := true, recurses := true, apart := false, narrowed := true }
def FnExactAskNextUptoSaid : Prop := fnExactAskNextUptoRow.holds Try.pinned (OpenSpec.upto fnExactAskNextSpec)

/-- 'laws.FnAskNext', WHERE WHAT IT READS IS OF BULK AT MOST 1048576: true; the input reads as it did. -/
def fnAskNextUptoRow : OpenClaim := { program := "ytpeogghiboaceaa", sum := "7a35f812ec146db11188653fd33da8b537b89f2bea1aa67863e66237a1518f25", func := "loop.example/questiongames/laws.FnAskNext", spec := "fnAskNext", unfollowed := true, recurses := true, apart := false, narrowed := true }
def FnAskNextUptoSaid : Prop := fnAskNextUptoRow.holds Try.pinned (OpenSpec.upto fnAskNextSpec)

/-- 'laws.FnExactPlayedOut', WHERE WHAT IT READS IS OF BULK AT MOST 1048576: true; the input reads as it did. -/
def fnExactPlayedOutUptoRow : OpenClaim := { program := "ytpeogghiboaceaa", sum := "7a35f812ec146db11188653fd33da8b537b89f2bea1aa67863e66237a1518f25", func := "loop.example/questiongames/laws.FnExactPlayedOut", spec := "fnExactPlayedOut", unfollowed := true, recurses := true, apart := false, narrowed := true }
def FnExactPlayedOutUptoSaid : Prop := fnExactPlayedOutUptoRow.holds Try.pinned (OpenSpec.upto fnExactPlayedOutSpec)

/-- 'laws.FnPlayedOut', WHERE WHAT IT READS IS OF BULK AT MOST 1048576: true; the input reads as it did. -/
def fnPlayedOutUptoRow : OpenClaim := { program := "ytpeogghiboaceaa", sum := "7a35f812ec146db11188653fd33da8b537b89f2bea1aa67863e66237a1518f25", func := "loop.example/questiongames/laws.FnPlayedOut", spec := "fnPlayedOut", unfollowed := true, recurses := true, apart := false, narrowed := true }
def FnPlayedOutUptoSaid : Prop := fnPlayedOutUptoRow.holds Try.pinned (OpenSpec.upto fnPlayedOutSpec)

/-- 'laws.FnExactStillAt', WHERE WHAT IT READS IS OF BULK AT MOST 1048576: true; the input reads as it did. -/
def fnExactStillAtUptoRow : OpenClaim := { program := "ytpeogghiboaceaa", sum := "7a35f812ec146db11188653fd33da8b537b89f2bea1aa67863e66237a1518f25", func := "loop.example/questiongames/laws.FnExactStillAt", spec := "fnExactStillAt", unfollowed := true, recurses := true, apart := false, narrowed := true }
def FnExactStillAtUptoSaid : Prop := fnExactStillAtUptoRow.holds Try.pinned (OpenSpec.upto fnExactStillAtSpec)

/-- 'laws.FnSureHit', WHERE WHAT IT READS IS OF BULK AT MOST 1048576: true; the input reads as it did. -/
def fnSureHitUptoRow : OpenClaim := { program := "ytpeogghiboaceaa", sum := "7a35f812ec146db11188653fd33da8b537b89f2bea1aa67863e66237a1518f25", func := "loop.example/questiongames/laws.FnSureHit", spec := "fnSureHit", unfollowed := true, recurses := true, apart := false, narrowed := true }
def FnSureHitUptoSaid : Prop := fnSureHitUptoRow.holds Try.pinned (OpenSpec.upto fnSureHitSpec)

end Rows
end Go.Proofs.Ytpeogghiboaceaa
