/-
  No cell of these rows narrows 'for every input' (looked for: loops, veiled, ifaces, maps, wideKeys, modest, calm, conditions, laid).
  DERIVED. THE GIVEN ROWS OF THIS SEAT. 12 by the template 'for every input the law returns true; each argument reads behind the call as it read before'; 0 by the template 'total and deterministic' (their statements: YtkjdlpbfalojdaaTotals.lean).
  GIVEN WITH THE SEED: the statements are not yours to turn. If you find one false, say at which input.
  Laid BY PROGRAM, IN A SANDBOX (cutbox-rows.mjs): the forced cells as the released guide's own fill.sh prints them over the translation 2c6570a617c9e898… (all of the seat's roots in one cut). By AI agents, Wed Nov 11 2026. No macro, syntax, notation, axiom, sorry.
-/
import Derived.Test.YtkjdlpbfalojdaaChecked
import GoSem.Claim
import GoSem.ClaimJoined
import GoSem.ClaimMapViews
import Derived.JoinedTies
import Derived.KernelRfl
namespace Go.Proofs.Ytkjdlpbfalojdaa
/- THE CELL 'sum', in the pinned program and in every row, IS THE sha256 OF THE DUMP (.gsa) THAT YtkjdlpbfalojdaaProg.lean LOADS. Nothing in Lean hashes anything: it is a label: what it is worth is what the hold of that sum in a sandbox is worth. -/
noncomputable def Try.pinned : Pinned := { name := "ytkjdlpbfalojdaa", sum := "2c6570a617c9e8987b177fdb29349d71be853212f06eb143e9b45354311a0e7c", checked := Try.checked }
namespace Rows
def none {H : Type} : Left H := { results := [], args := [] }

/-- 'laws.FnDeskNew': WHATEVER THE INPUT: true; the input reads as it did. -/
def fnDeskNewSpec : ChangeSpec := { name := "fnDeskNew", fn := fun _ => fun
  | [d] => { results := [.lit (.bool true)], args := [d] }
  | _ => none }
def fnDeskNewRow : OpenClaim := { program := "ytkjdlpbfalojdaa", sum := "2c6570a617c9e8987b177fdb29349d71be853212f06eb143e9b45354311a0e7c", func := "loop.example/questiongames/laws.FnDeskNew", spec := "fnDeskNew", unfollowed := true, recurses := true, plainKeys := false, apart := false }
def FnDeskNewSaid : Prop := fnDeskNewRow.holds Try.pinned (OpenSpec.ofChange fnDeskNewSpec)

/-- ITS FALSE NEIGHBOUR: 'it returns false'. Refute it at one input. -/
def fnDeskNewWrong : ChangeSpec := { name := "fnDeskNew", fn := fun _ => fun
  | [d] => { results := [.lit (.bool false)], args := [d] }
  | _ => none }
def FnDeskNewWrongFalsely : Prop := fnDeskNewRow.holds Try.pinned (OpenSpec.ofChange fnDeskNewWrong)

/-- 'laws.FnDeskOk': WHATEVER THE INPUT: true; the input reads as it did. -/
def fnDeskOkSpec : ChangeSpec := { name := "fnDeskOk", fn := fun _ => fun
  | [d] => { results := [.lit (.bool true)], args := [d] }
  | _ => none }
def fnDeskOkRow : OpenClaim := { program := "ytkjdlpbfalojdaa", sum := "2c6570a617c9e8987b177fdb29349d71be853212f06eb143e9b45354311a0e7c", func := "loop.example/questiongames/laws.FnDeskOk", spec := "fnDeskOk", unfollowed := true, recurses := true, plainKeys := false, apart := false }
def FnDeskOkSaid : Prop := fnDeskOkRow.holds Try.pinned (OpenSpec.ofChange fnDeskOkSpec)

/-- ITS FALSE NEIGHBOUR: 'it returns false'. Refute it at one input. -/
def fnDeskOkWrong : ChangeSpec := { name := "fnDeskOk", fn := fun _ => fun
  | [d] => { results := [.lit (.bool false)], args := [d] }
  | _ => none }
def FnDeskOkWrongFalsely : Prop := fnDeskOkRow.holds Try.pinned (OpenSpec.ofChange fnDeskOkWrong)

/-- 'laws.FnWorstLot': WHATEVER THE INPUT: true; the input reads as it did. -/
def fnWorstLotSpec : ChangeSpec := { name := "fnWorstLot", fn := fun _ => fun
  | [d] => { results := [.lit (.bool true)], args := [d] }
  | _ => none }
def fnWorstLotRow : OpenClaim := { program := "ytkjdlpbfalojdaa", sum := "2c6570a617c9e8987b177fdb29349d71be853212f06eb143e9b45354311a0e7c", func := "loop.example/questiongames/laws.FnWorstLot", spec := "fnWorstLot", unfollowed := true, recurses := true, plainKeys := false, apart := false }
def FnWorstLotSaid : Prop := fnWorstLotRow.holds Try.pinned (OpenSpec.ofChange fnWorstLotSpec)

/-- ITS FALSE NEIGHBOUR: 'it returns false'. Refute it at one input. -/
def fnWorstLotWrong : ChangeSpec := { name := "fnWorstLot", fn := fun _ => fun
  | [d] => { results := [.lit (.bool false)], args := [d] }
  | _ => none }
def FnWorstLotWrongFalsely : Prop := fnWorstLotRow.holds Try.pinned (OpenSpec.ofChange fnWorstLotWrong)

/-- 'laws.FnExactDeskOk': WHATEVER THE INPUT: true; the input reads as it did. -/
def fnExactDeskOkSpec : ChangeSpec := { name := "fnExactDeskOk", fn := fun _ => fun
  | [d] => { results := [.lit (.bool true)], args := [d] }
  | _ => none }
def fnExactDeskOkRow : OpenClaim := { program := "ytkjdlpbfalojdaa", sum := "2c6570a617c9e8987b177fdb29349d71be853212f06eb143e9b45354311a0e7c", func := "loop.example/questiongames/laws.FnExactDeskOk", spec := "fnExactDeskOk", unfollowed := true, recurses := true, plainKeys := false, apart := false }
def FnExactDeskOkSaid : Prop := fnExactDeskOkRow.holds Try.pinned (OpenSpec.ofChange fnExactDeskOkSpec)

/-- ITS FALSE NEIGHBOUR: 'it returns false'. Refute it at one input. -/
def fnExactDeskOkWrong : ChangeSpec := { name := "fnExactDeskOk", fn := fun _ => fun
  | [d] => { results := [.lit (.bool false)], args := [d] }
  | _ => none }
def FnExactDeskOkWrongFalsely : Prop := fnExactDeskOkRow.holds Try.pinned (OpenSpec.ofChange fnExactDeskOkWrong)

/-- 'laws.FnExactWorstLot': WHATEVER THE INPUT: true; the input reads as it did. -/
def fnExactWorstLotSpec : ChangeSpec := { name := "fnExactWorstLot", fn := fun _ => fun
  | [d1, d2, d3, d4] => { results := [.lit (.bool true)], args := [d1, d2, d3, d4] }
  | _ => none }
def fnExactWorstLotRow : OpenClaim := { program := "ytkjdlpbfalojdaa", sum := "2c6570a617c9e8987b177fdb29349d71be853212f06eb143e9b45354311a0e7c", func := "loop.example/questiongames/laws.FnExactWorstLot", spec := "fnExactWorstLot", unfollowed := true, recurses := true, plainKeys := false, apart := false }
def FnExactWorstLotSaid : Prop := fnExactWorstLotRow.holds Try.pinned (OpenSpec.ofChange fnExactWorstLotSpec)

/-- ITS FALSE NEIGHBOUR: 'it returns false'. Refute it at one input. -/
def fnExactWorstLotWrong : ChangeSpec := { name := "fnExactWorstLot", fn := fun _ => fun
  | [d1, d2, d3, d4] => { results := [.lit (.bool false)], args := [d1, d2, d3, d4] }
  | _ => none }
def FnExactWorstLotWrongFalsely : Prop := fnExactWorstLotRow.holds Try.pinned (OpenSpec.ofChange fnExactWorstLotWrong)

/-- 'laws.FnExactDeskNew': WHATEVER THE INPUT: true; the input reads as it did. -/
def fnExactDeskNewSpec : ChangeSpec := { name := "fnExactDeskNew", fn := fun _ => fun
  | [d1, d2] => { results := [.lit (.bool true)], args := [d1, d2] }
  | _ => none }
def fnExactDeskNewRow : OpenClaim := { program := "ytkjdlpbfalojdaa", sum := "2c6570a617c9e8987b177fdb29349d71be853212f06eb143e9b45354311a0e7c", func := "loop.example/questiongames/laws.FnExactDeskNew", spec := "fnExactDeskNew", unfollowed := true, recurses := true, plainKeys := false, apart := false }
def FnExactDeskNewSaid : Prop := fnExactDeskNewRow.holds Try.pinned (OpenSpec.ofChange fnExactDeskNewSpec)

/-- ITS FALSE NEIGHBOUR: 'it returns false'. Refute it at one input. -/
def fnExactDeskNewWrong : ChangeSpec := { name := "fnExactDeskNew", fn := fun _ => fun
  | [d1, d2] => { results := [.lit (.bool false)], args := [d1, d2] }
  | _ => none }
def FnExactDeskNewWrongFalsely : Prop := fnExactDeskNewRow.holds Try.pinned (OpenSpec.ofChange fnExactDeskNewWrong)

/-- 'laws.FnNextGuess': WHATEVER THE INPUT: true; the input reads as it did. -/
def fnNextGuessSpec : ChangeSpec := { name := "fnNextGuess", fn := fun _ => fun
  | [d] => { results := [.lit (.bool true)], args := [d] }
  | _ => none }
def fnNextGuessRow : OpenClaim := { program := "ytkjdlpbfalojdaa", sum := "2c6570a617c9e8987b177fdb29349d71be853212f06eb143e9b45354311a0e7c", func := "loop.example/questiongames/laws.FnNextGuess", spec := "fnNextGuess", unfollowed := true, recurses := true, plainKeys := false, apart := false }
def FnNextGuessSaid : Prop := fnNextGuessRow.holds Try.pinned (OpenSpec.ofChange fnNextGuessSpec)

/-- ITS FALSE NEIGHBOUR: 'it returns false'. Refute it at one input. -/
def fnNextGuessWrong : ChangeSpec := { name := "fnNextGuess", fn := fun _ => fun
  | [d] => { results := [.lit (.bool false)], args := [d] }
  | _ => none }
def FnNextGuessWrongFalsely : Prop := fnNextGuessRow.holds Try.pinned (OpenSpec.ofChange fnNextGuessWrong)

/-- 'laws.FnExactNextGuess': WHATEVER THE INPUT: true; the input reads as it did. -/
def fnExactNextGuessSpec : ChangeSpec := { name := "fnExactNextGuess", fn := fun _ => fun
  | [d1, d2, d3] => { results := [.lit (.bool true)], args := [d1, d2, d3] }
  | _ => none }
def fnExactNextGuessRow : OpenClaim := { program := "ytkjdlpbfalojdaa", sum := "2c6570a617c9e8987b177fdb29349d71be853212f06eb143e9b45354311a0e7c", func := "loop.example/questiongames/laws.FnExactNextGuess", spec := "fnExactNextGuess", unfollowed := true, recurses := true, plainKeys := false, apart := false }
def FnExactNextGuessSaid : Prop := fnExactNextGuessRow.holds Try.pinned (OpenSpec.ofChange fnExactNextGuessSpec)

/-- ITS FALSE NEIGHBOUR: 'it returns false'. Refute it at one input. -/
def fnExactNextGuessWrong : ChangeSpec := { name := "fnExactNextGuess", fn := fun _ => fun
  | [d1, d2, d3] => { results := [.lit (.bool false)], args := [d1, d2, d3] }
  | _ => none }
def FnExactNextGuessWrongFalsely : Prop := fnExactNextGuessRow.holds Try.pinned (OpenSpec.ofChange fnExactNextGuessWrong)

/-- 'laws.FnExactGamePlayed': WHATEVER THE INPUT: true; the input reads as it did. -/
def fnExactGamePlayedSpec : ChangeSpec := { name := "fnExactGamePlayed", fn := fun _ => fun
  | [d1, d2, d3] => { results := [.lit (.bool true)], args := [d1, d2, d3] }
  | _ => none }
def fnExactGamePlayedRow : OpenClaim := { program := "ytkjdlpbfalojdaa", sum := "2c6570a617c9e8987b177fdb29349d71be853212f06eb143e9b45354311a0e7c", func := "loop.example/questiongames/laws.FnExactGamePlayed", spec := "fnExactGamePlayed", unfollowed := true, recurses := true, plainKeys := false, apart := false }
def FnExactGamePlayedSaid : Prop := fnExactGamePlayedRow.holds Try.pinned (OpenSpec.ofChange fnExactGamePlayedSpec)

/-- ITS FALSE NEIGHBOUR: 'it returns false'. Refute it at one input. -/
def fnExactGamePlayedWrong : ChangeSpec := { name := "fnExactGamePlayed", fn := fun _ => fun
  | [d1, d2, d3] => { results := [.lit (.bool false)], args := [d1, d2, d3] }
  | _ => none }
def FnExactGamePlayedWrongFalsely : Prop := fnExactGamePlayedRow.holds Try.pinned (OpenSpec.ofChange fnExactGamePlayedWrong)

/-- 'laws.FnGamePlayed': WHATEVER THE INPUT: true; the input reads as it did. -/
def fnGamePlayedSpec : ChangeSpec := { name := "fnGamePlayed", fn := fun _ => fun
  | [d] => { results := [.lit (.bool true)], args := [d] }
  | _ => none }
def fnGamePlayedRow : OpenClaim := { program := "ytkjdlpbfalojdaa", sum := "2c6570a617c9e8987b177fdb29349d71be853212f06eb143e9b45354311a0e7c", func := "loop.example/questiongames/laws.FnGamePlayed", spec := "fnGamePlayed", unfollowed := true, recurses := true, plainKeys := false, apart := false }
def FnGamePlayedSaid : Prop := fnGamePlayedRow.holds Try.pinned (OpenSpec.ofChange fnGamePlayedSpec)

/-- ITS FALSE NEIGHBOUR: 'it returns false'. Refute it at one input. -/
def fnGamePlayedWrong : ChangeSpec := { name := "fnGamePlayed", fn := fun _ => fun
  | [d] => { results := [.lit (.bool false)], args := [d] }
  | _ => none }
def FnGamePlayedWrongFalsely : Prop := fnGamePlayedRow.holds Try.pinned (OpenSpec.ofChange fnGamePlayedWrong)

/-- 'laws.FnDeskDo': WHATEVER THE INPUT: true; the input reads as it did. -/
def fnDeskDoSpec : ChangeSpec := { name := "fnDeskDo", fn := fun _ => fun
  | [d] => { results := [.lit (.bool true)], args := [d] }
  | _ => none }
def fnDeskDoRow : OpenClaim := { program := "ytkjdlpbfalojdaa", sum := "2c6570a617c9e8987b177fdb29349d71be853212f06eb143e9b45354311a0e7c", func := "loop.example/questiongames/laws.FnDeskDo", spec := "fnDeskDo", unfollowed := true, recurses := true, plainKeys := false, apart := false }
def FnDeskDoSaid : Prop := fnDeskDoRow.holds Try.pinned (OpenSpec.ofChange fnDeskDoSpec)

/-- ITS FALSE NEIGHBOUR: 'it returns false'. Refute it at one input. -/
def fnDeskDoWrong : ChangeSpec := { name := "fnDeskDo", fn := fun _ => fun
  | [d] => { results := [.lit (.bool false)], args := [d] }
  | _ => none }
def FnDeskDoWrongFalsely : Prop := fnDeskDoRow.holds Try.pinned (OpenSpec.ofChange fnDeskDoWrong)

/-- 'laws.FnExactDeskDo': WHATEVER THE INPUT: true; the input reads as it did. -/
def fnExactDeskDoSpec : ChangeSpec := { name := "fnExactDeskDo", fn := fun _ => fun
  | [d1, d2] => { results := [.lit (.bool true)], args := [d1, d2] }
  | _ => none }
def fnExactDeskDoRow : OpenClaim := { program := "ytkjdlpbfalojdaa", sum := "2c6570a617c9e8987b177fdb29349d71be853212f06eb143e9b45354311a0e7c", func := "loop.example/questiongames/laws.FnExactDeskDo", spec := "fnExactDeskDo", unfollowed := true, recurses := true, plainKeys := false, apart := false }
def FnExactDeskDoSaid : Prop := fnExactDeskDoRow.holds Try.pinned (OpenSpec.ofChange fnExactDeskDoSpec)

/-- ITS FALSE NEIGHBOUR: 'it returns false'. Refute it at one input. -/
def fnExactDeskDoWrong : ChangeSpec := { name := "fnExactDeskDo", fn := fun _ => fun
  | [d1, d2] => { results := [.lit (.bool false)], args := [d1, d2] }
  | _ => none }
def FnExactDeskDoWrongFalsely : Prop := fnExactDeskDoRow.holds Try.pinned (OpenSpec.ofChange fnExactDeskDoWrong)

/- THE SECOND FORM. 'bulk': how many values and letters a reading holds, each counted each time it is reached (what is shared counts as often as it is met; a slice's spare places count too). A statement '..UptoSaid' is the law's where the arguments, and the package variables that the reading takes, are together of bulk at most 1048576: NARROWER than '..Said'. Prove '..Said' where nothing that the law and all that it calls make is longer than what came in: it says more and counts as full. Else prove '..UptoSaid'. A law counts once. -/
mutual
def uptoBulk {H : Type} : DataW H → Nat
  | .lit (.string bytes) => bytes.length + 1
  | .lit _ => 1
  | .nil => 1
  | .ptr d => uptoBulk d + 1
  | .slice elems spare => uptoBulkAll elems + uptoBulkAll spare + 1
  | .agg parts => uptoBulkAll parts + 1
  | .iface _ d => uptoBulk d + 1
  | .map entries => uptoBulkEntries entries + 1
  | .held _ => 1
def uptoBulkAll {H : Type} : List (DataW H) → Nat
  | [] => 0
  | d :: r => uptoBulk d + uptoBulkAll r
def uptoBulkEntries {H : Type} : List (Lit × DataW H) → Nat
  | [] => 0
  | x :: r => uptoBulkEntry x + uptoBulkEntries r
def uptoBulkEntry {H : Type} : Lit × DataW H → Nat
  | (.string bytes, d) => bytes.length + uptoBulk d + 1
  | (_, d) => uptoBulk d + 1
 end
def uptoSmall : (H : Type) → List (DataW H) → Bool := fun _ ds => decide (uptoBulkAll ds ≤ 1048576)
def OpenSpec.upto (s : _root_.Go.ChangeSpec) : _root_.Go.OpenSpec := { _root_.Go.OpenSpec.ofChange s with cond := some uptoSmall }

/-- 'laws.FnDeskNew', WHERE WHAT IT READS IS OF BULK AT MOST 1048576: true; the input reads as it did. -/
def fnDeskNewUptoRow : OpenClaim := { program := "ytkjdlpbfalojdaa", sum := "2c6570a617c9e8987b177fdb29349d71be853212f06eb143e9b45354311a0e7c", func := "loop.example/questiongames/laws.FnDeskNew", spec := "fnDeskNew", unfollowed := true, recurses := true, plainKeys := false, apart := false, narrowed := true }
def FnDeskNewUptoSaid : Prop := fnDeskNewUptoRow.holds Try.pinned (OpenSpec.upto fnDeskNewSpec)

/-- 'laws.FnDeskOk', WHERE WHAT IT READS IS OF BULK AT MOST 1048576: true; the input reads as it did. -/
def fnDeskOkUptoRow : OpenClaim := { program := "ytkjdlpbfalojdaa", sum := "2c6570a617c9e8987b177fdb29349d71be853212f06eb143e9b45354311a0e7c", func := "loop.example/questiongames/laws.FnDeskOk", spec := "fnDeskOk", unfollowed := true, recurses := true, plainKeys := false, apart := false, narrowed := true }
def FnDeskOkUptoSaid : Prop := fnDeskOkUptoRow.holds Try.pinned (OpenSpec.upto fnDeskOkSpec)

/-- 'laws.FnWorstLot', WHERE WHAT IT READS IS OF BULK AT MOST 1048576: true; the input reads as it did. -/
def fnWorstLotUptoRow : OpenClaim := { program := "ytkjdlpbfalojdaa", sum := "2c6570a617c9e8987b177fdb29349d71be853212f06eb143e9b45354311a0e7c", func := "loop.example/questiongames/laws.FnWorstLot", spec := "fnWorstLot", unfollowed := true, recurses := true, plainKeys := false, apart := false, narrowed := true }
def FnWorstLotUptoSaid : Prop := fnWorstLotUptoRow.holds Try.pinned (OpenSpec.upto fnWorstLotSpec)

/-- 'laws.FnExactDeskOk', WHERE WHAT IT READS IS OF BULK AT MOST 1048576: true; the input reads as it did. -/
def fnExactDeskOkUptoRow : OpenClaim := { program := "ytkjdlpbfalojdaa", sum := "2c6570a617c9e8987b177fdb29349d71be853212f06eb143e9b45354311a0e7c", func := "loop.example/questiongames/laws.FnExactDeskOk", spec := "fnExactDeskOk", unfollowed := true, recurses := true, plainKeys := false, apart := false, narrowed := true }
def FnExactDeskOkUptoSaid : Prop := fnExactDeskOkUptoRow.holds Try.pinned (OpenSpec.upto fnExactDeskOkSpec)

/-- 'laws.FnExactWorstLot', WHERE WHAT IT READS IS OF BULK AT MOST 1048576: true; the input reads as it did. -/
def fnExactWorstLotUptoRow : OpenClaim := { program := "ytkjdlpbfalojdaa", sum := "2c6570a617c9e8987b177fdb29349d71be853212f06eb143e9b45354311a0e7c", func := "loop.example/questiongames/laws.FnExactWorstLot", spec := "fnExactWorstLot", unfollowed := true, recurses := true, plainKeys := false, apart := false, narrowed := true }
def FnExactWorstLotUptoSaid : Prop := fnExactWorstLotUptoRow.holds Try.pinned (OpenSpec.upto fnExactWorstLotSpec)

/-- 'laws.FnExactDeskNew', WHERE WHAT IT READS IS OF BULK AT MOST 1048576: true; the input reads as it did. -/
def fnExactDeskNewUptoRow : OpenClaim := { program := "ytkjdlpbfalojdaa", sum := "2c6570a617c9e8987b177fdb29349d71be853212f06eb143e9b45354311a0e7c", func := "loop.example/questiongames/laws.FnExactDeskNew", spec := "fnExactDeskNew", unfollowed := true, recurses := true, plainKeys := false, apart := false, narrowed := true }
def FnExactDeskNewUptoSaid : Prop := fnExactDeskNewUptoRow.holds Try.pinned (OpenSpec.upto fnExactDeskNewSpec)

/-- 'laws.FnNextGuess', WHERE WHAT IT READS IS OF BULK AT MOST 1048576: true; the input reads as it did. -/
def fnNextGuessUptoRow : OpenClaim := { program := "ytkjdlpbfalojdaa", sum := "2c6570a617c9e8987b177fdb29349d71be853212f06eb143e9b45354311a0e7c", func := "loop.example/questiongames/laws.FnNextGuess", spec := "fnNextGuess", unfollowed := true, recurses := true, plainKeys := false, apart := false, narrowed := true }
def FnNextGuessUptoSaid : Prop := fnNextGuessUptoRow.holds Try.pinned (OpenSpec.upto fnNextGuessSpec)

/-- 'laws.FnExactNextGuess', WHERE WHAT IT READS IS OF BULK AT MOST 1048576: true; the input reads as it did. -/
def fnExactNextGuessUptoRow : OpenClaim := { program := "ytkjdlpbfalojdaa", sum := "2c6570a617c9e8987b177fdb29349d71be853212f06eb143e9b45354311a0e7c", func := "loop.example/questiongames/laws.FnExactNextGuess", spec := "fnExactNextGuess", unfollowed := true, recurses := true, plainKeys := false, apart := false, narrowed := true }
def FnExactNextGuessUptoSaid : Prop := fnExactNextGuessUptoRow.holds Try.pinned (OpenSpec.upto fnExactNextGuessSpec)

/-- 'laws.FnExactGamePlayed', WHERE WHAT IT READS IS OF BULK AT MOST 1048576: true; the input reads as it did. -/
def fnExactGamePlayedUptoRow : OpenClaim := { program := "ytkjdlpbfalojdaa", sum := "2c6570a617c9e8987b177fdb29349d71be853212f06eb143e9b45354311a0e7c", func := "loop.example/questiongames/laws.FnExactGamePlayed", spec := "fnExactGamePlayed", unfollowed := true, recurses := true, plainKeys := false, apart := false, narrowed := true }
def FnExactGamePlayedUptoSaid : Prop := fnExactGamePlayedUptoRow.holds Try.pinned (OpenSpec.upto fnExactGamePlayedSpec)

/-- 'laws.FnGamePlayed', WHERE WHAT IT READS IS OF BULK AT MOST 1048576: true; the input reads as it did. -/
def fnGamePlayedUptoRow : OpenClaim := { program := "ytkjdlpbfalojdaa", sum := "2c6570a617c9e8987b177fdb29349d71be853212f06eb143e9b45354311a0e7c", func := "loop.example/questiongames/laws.FnGamePlayed", spec := "fnGamePlayed", unfollowed := true, recurses := true, plainKeys := false, apart := false, narrowed := true }
def FnGamePlayedUptoSaid : Prop := fnGamePlayedUptoRow.holds Try.pinned (OpenSpec.upto fnGamePlayedSpec)

/-- 'laws.FnDeskDo', WHERE WHAT IT READS IS OF BULK AT MOST 1048576: true; the input reads as it did. -/
def fnDeskDoUptoRow : OpenClaim := { program := "ytkjdlpbfalojdaa", sum := "2c6570a617c9e8987b177fdb29349d71be853212f06eb143e9b45354311a0e7c", func := "loop.example/questiongames/laws.FnDeskDo", spec := "fnDeskDo", unfollowed := true, recurses := true, plainKeys := false, apart := false, narrowed := true }
def FnDeskDoUptoSaid : Prop := fnDeskDoUptoRow.holds Try.pinned (OpenSpec.upto fnDeskDoSpec)

/-- 'laws.FnExactDeskDo', WHERE WHAT IT READS IS OF BULK AT MOST 1048576: true; the input reads as it did. -/
def fnExactDeskDoUptoRow : OpenClaim := { program := "ytkjdlpbfalojdaa", sum := "2c6570a617c9e8987b177fdb29349d71be853212f06eb143e9b45354311a0e7c", func := "loop.example/questiongames/laws.FnExactDeskDo", spec := "fnExactDeskDo", unfollowed := true, recurses := true, plainKeys := false, apart := false, narrowed := true }
def FnExactDeskDoUptoSaid : Prop := fnExactDeskDoUptoRow.holds Try.pinned (OpenSpec.upto fnExactDeskDoSpec)

end Rows
end Go.Proofs.Ytkjdlpbfalojdaa
