/-
  No cell of these rows narrows 'for every input' (looked for: loops, veiled, ifaces, maps, wideKeys, modest, calm, conditions, laid).
  DERIVED. THE GIVEN ROWS OF THIS SEAT. 10 by the template 'for every input the law returns true; each argument reads behind the call as it read before'; 0 by the template 'total and deterministic' (their statements: YtoddomhpdeoeeaaTotals.lean).
  GIVEN WITH THE SEED: the statements are not yours to turn. If you find one false, say at which input.
  Laid BY PROGRAM, IN A SANDBOX (cutbox-rows.mjs): the forced cells as the released guide's own fill.sh prints them over the translation 7c55574bbcf5c754… (all of the seat's roots in one cut). By AI agents, Wed Nov 11 2026. No macro, syntax, notation, axiom, sorry.
-/
import Derived.Test.YtoddomhpdeoeeaaChecked
import GoSem.Claim
import GoSem.ClaimJoined
import GoSem.ClaimMapViews
import Derived.JoinedTies
import Derived.KernelRfl
namespace Go.Proofs.Ytoddomhpdeoeeaa
/- THE CELL 'sum', in the pinned program and in every row, IS THE sha256 OF THE DUMP (.gsa) THAT YtoddomhpdeoeeaaProg.lean LOADS. Nothing in Lean hashes anything: it is a label: what it is worth is what the hold of that sum in a sandbox is worth. -/
noncomputable def Try.pinned : Pinned := { name := "ytoddomhpdeoeeaa", sum := "7c55574bbcf5c754cf09f5675fa5fde82e6dbc851fc96a9a346b873b48807bb7", checked := Try.checked }
namespace Rows
def none {H : Type} : Left H := { results := [], args := [] }

/-- 'laws.FnExactMetOn': WHATEVER THE INPUT: true; the input reads as it did. -/
def fnExactMetOnSpec : ChangeSpec := { name := "fnExactMetOn", fn := fun _ => fun
  | [d1, d2, d3] => { results := [.lit (.bool true)], args := [d1, d2, d3] }
  | _ => none }
def fnExactMetOnRow : OpenClaim := { program := "ytoddomhpdeoeeaa", sum := "7c55574bbcf5c754cf09f5675fa5fde82e6dbc851fc96a9a346b873b48807bb7", func := "loop.example/questiongames/laws.FnExactMetOn", spec := "fnExactMetOn", unfollowed := true, recurses := true, apart := false }
def FnExactMetOnSaid : Prop := fnExactMetOnRow.holds Try.pinned (OpenSpec.ofChange fnExactMetOnSpec)

/-- ITS FALSE NEIGHBOUR: 'it returns false'. Refute it at one input. -/
def fnExactMetOnWrong : ChangeSpec := { name := "fnExactMetOn", fn := fun _ => fun
  | [d1, d2, d3] => { results := [.lit (.bool false)], args := [d1, d2, d3] }
  | _ => none }
def FnExactMetOnWrongFalsely : Prop := fnExactMetOnRow.holds Try.pinned (OpenSpec.ofChange fnExactMetOnWrong)

/-- 'laws.FnBesideOk': WHATEVER THE INPUT: true; the input reads as it did. -/
def fnBesideOkSpec : ChangeSpec := { name := "fnBesideOk", fn := fun _ => fun
  | [d] => { results := [.lit (.bool true)], args := [d] }
  | _ => none }
def fnBesideOkRow : OpenClaim := { program := "ytoddomhpdeoeeaa", sum := "7c55574bbcf5c754cf09f5675fa5fde82e6dbc851fc96a9a346b873b48807bb7", func := "loop.example/questiongames/laws.FnBesideOk", spec := "fnBesideOk", unfollowed := true, recurses := true, apart := false }
def FnBesideOkSaid : Prop := fnBesideOkRow.holds Try.pinned (OpenSpec.ofChange fnBesideOkSpec)

/-- ITS FALSE NEIGHBOUR: 'it returns false'. Refute it at one input. -/
def fnBesideOkWrong : ChangeSpec := { name := "fnBesideOk", fn := fun _ => fun
  | [d] => { results := [.lit (.bool false)], args := [d] }
  | _ => none }
def FnBesideOkWrongFalsely : Prop := fnBesideOkRow.holds Try.pinned (OpenSpec.ofChange fnBesideOkWrong)

/-- 'laws.FnAfterDay': WHATEVER THE INPUT: true; the input reads as it did. -/
def fnAfterDaySpec : ChangeSpec := { name := "fnAfterDay", fn := fun _ => fun
  | [d] => { results := [.lit (.bool true)], args := [d] }
  | _ => none }
def fnAfterDayRow : OpenClaim := { program := "ytoddomhpdeoeeaa", sum := "7c55574bbcf5c754cf09f5675fa5fde82e6dbc851fc96a9a346b873b48807bb7", func := "loop.example/questiongames/laws.FnAfterDay", spec := "fnAfterDay", unfollowed := true, recurses := true, apart := false }
def FnAfterDaySaid : Prop := fnAfterDayRow.holds Try.pinned (OpenSpec.ofChange fnAfterDaySpec)

/-- ITS FALSE NEIGHBOUR: 'it returns false'. Refute it at one input. -/
def fnAfterDayWrong : ChangeSpec := { name := "fnAfterDay", fn := fun _ => fun
  | [d] => { results := [.lit (.bool false)], args := [d] }
  | _ => none }
def FnAfterDayWrongFalsely : Prop := fnAfterDayRow.holds Try.pinned (OpenSpec.ofChange fnAfterDayWrong)

/-- 'laws.FnLeftAfter': WHATEVER THE INPUT: true; the input reads as it did. -/
def fnLeftAfterSpec : ChangeSpec := { name := "fnLeftAfter", fn := fun _ => fun
  | [d] => { results := [.lit (.bool true)], args := [d] }
  | _ => none }
def fnLeftAfterRow : OpenClaim := { program := "ytoddomhpdeoeeaa", sum := "7c55574bbcf5c754cf09f5675fa5fde82e6dbc851fc96a9a346b873b48807bb7", func := "loop.example/questiongames/laws.FnLeftAfter", spec := "fnLeftAfter", unfollowed := true, recurses := true, apart := false }
def FnLeftAfterSaid : Prop := fnLeftAfterRow.holds Try.pinned (OpenSpec.ofChange fnLeftAfterSpec)

/-- ITS FALSE NEIGHBOUR: 'it returns false'. Refute it at one input. -/
def fnLeftAfterWrong : ChangeSpec := { name := "fnLeftAfter", fn := fun _ => fun
  | [d] => { results := [.lit (.bool false)], args := [d] }
  | _ => none }
def FnLeftAfterWrongFalsely : Prop := fnLeftAfterRow.holds Try.pinned (OpenSpec.ofChange fnLeftAfterWrong)

/-- 'laws.FnSurelyFound': WHATEVER THE INPUT: true; the input reads as it did. -/
def fnSurelyFoundSpec : ChangeSpec := { name := "fnSurelyFound", fn := fun _ => fun
  | [d] => { results := [.lit (.bool true)], args := [d] }
  | _ => none }
def fnSurelyFoundRow : OpenClaim := { program := "ytoddomhpdeoeeaa", sum := "7c55574bbcf5c754cf09f5675fa5fde82e6dbc851fc96a9a346b873b48807bb7", func := "loop.example/questiongames/laws.FnSurelyFound", spec := "fnSurelyFound", unfollowed := true, recurses := true, apart := false }
def FnSurelyFoundSaid : Prop := fnSurelyFoundRow.holds Try.pinned (OpenSpec.ofChange fnSurelyFoundSpec)

/-- ITS FALSE NEIGHBOUR: 'it returns false'. Refute it at one input. -/
def fnSurelyFoundWrong : ChangeSpec := { name := "fnSurelyFound", fn := fun _ => fun
  | [d] => { results := [.lit (.bool false)], args := [d] }
  | _ => none }
def FnSurelyFoundWrongFalsely : Prop := fnSurelyFoundRow.holds Try.pinned (OpenSpec.ofChange fnSurelyFoundWrong)

/-- 'laws.FnMetOn': WHATEVER THE INPUT: true; the input reads as it did. -/
def fnMetOnSpec : ChangeSpec := { name := "fnMetOn", fn := fun _ => fun
  | [d] => { results := [.lit (.bool true)], args := [d] }
  | _ => none }
def fnMetOnRow : OpenClaim := { program := "ytoddomhpdeoeeaa", sum := "7c55574bbcf5c754cf09f5675fa5fde82e6dbc851fc96a9a346b873b48807bb7", func := "loop.example/questiongames/laws.FnMetOn", spec := "fnMetOn", unfollowed := true, recurses := true, apart := false }
def FnMetOnSaid : Prop := fnMetOnRow.holds Try.pinned (OpenSpec.ofChange fnMetOnSpec)

/-- ITS FALSE NEIGHBOUR: 'it returns false'. Refute it at one input. -/
def fnMetOnWrong : ChangeSpec := { name := "fnMetOn", fn := fun _ => fun
  | [d] => { results := [.lit (.bool false)], args := [d] }
  | _ => none }
def FnMetOnWrongFalsely : Prop := fnMetOnRow.holds Try.pinned (OpenSpec.ofChange fnMetOnWrong)

/-- 'laws.FnExactShortestHunt': WHATEVER THE INPUT: true; the input reads as it did. -/
def fnExactShortestHuntSpec : ChangeSpec := { name := "fnExactShortestHunt", fn := fun _ => fun
  | [d] => { results := [.lit (.bool true)], args := [d] }
  | _ => none }
def fnExactShortestHuntRow : OpenClaim := { program := "ytoddomhpdeoeeaa", sum := "7c55574bbcf5c754cf09f5675fa5fde82e6dbc851fc96a9a346b873b48807bb7", func := "loop.example/questiongames/laws.FnExactShortestHunt", spec := "fnExactShortestHunt", unfollowed := true, recurses := true, apart := false }
def FnExactShortestHuntSaid : Prop := fnExactShortestHuntRow.holds Try.pinned (OpenSpec.ofChange fnExactShortestHuntSpec)

/-- ITS FALSE NEIGHBOUR: 'it returns false'. Refute it at one input. -/
def fnExactShortestHuntWrong : ChangeSpec := { name := "fnExactShortestHunt", fn := fun _ => fun
  | [d] => { results := [.lit (.bool false)], args := [d] }
  | _ => none }
def FnExactShortestHuntWrongFalsely : Prop := fnExactShortestHuntRow.holds Try.pinned (OpenSpec.ofChange fnExactShortestHuntWrong)

/-- 'laws.FnShortestHunt': WHATEVER THE INPUT: true; the input reads as it did. -/
def fnShortestHuntSpec : ChangeSpec := { name := "fnShortestHunt", fn := fun _ => fun
  | [d] => { results := [.lit (.bool true)], args := [d] }
  | _ => none }
def fnShortestHuntRow : OpenClaim := { program := "ytoddomhpdeoeeaa", sum := "7c55574bbcf5c754cf09f5675fa5fde82e6dbc851fc96a9a346b873b48807bb7", func := "loop.example/questiongames/laws.FnShortestHunt", spec := "fnShortestHunt", unfollowed := true, recurses := true, apart := false }
def FnShortestHuntSaid : Prop := fnShortestHuntRow.holds Try.pinned (OpenSpec.ofChange fnShortestHuntSpec)

/-- ITS FALSE NEIGHBOUR: 'it returns false'. Refute it at one input. -/
def fnShortestHuntWrong : ChangeSpec := { name := "fnShortestHunt", fn := fun _ => fun
  | [d] => { results := [.lit (.bool false)], args := [d] }
  | _ => none }
def FnShortestHuntWrongFalsely : Prop := fnShortestHuntRow.holds Try.pinned (OpenSpec.ofChange fnShortestHuntWrong)

/-- 'laws.FnInRow': WHATEVER THE INPUT: true; the input reads as it did. -/
def fnInRowSpec : ChangeSpec := { name := "fnInRow", fn := fun _ => fun
  | [d] => { results := [.lit (.bool true)], args := [d] }
  | _ => none }
def fnInRowRow : OpenClaim := { program := "ytoddomhpdeoeeaa", sum := "7c55574bbcf5c754cf09f5675fa5fde82e6dbc851fc96a9a346b873b48807bb7", func := "loop.example/questiongames/laws.FnInRow", spec := "fnInRow", unfollowed := true, recurses := true, apart := false }
def FnInRowSaid : Prop := fnInRowRow.holds Try.pinned (OpenSpec.ofChange fnInRowSpec)

/-- ITS FALSE NEIGHBOUR: 'it returns false'. Refute it at one input. -/
def fnInRowWrong : ChangeSpec := { name := "fnInRow", fn := fun _ => fun
  | [d] => { results := [.lit (.bool false)], args := [d] }
  | _ => none }
def FnInRowWrongFalsely : Prop := fnInRowRow.holds Try.pinned (OpenSpec.ofChange fnInRowWrong)

/-- 'laws.FnInRing': WHATEVER THE INPUT: true; the input reads as it did. -/
def fnInRingSpec : ChangeSpec := { name := "fnInRing", fn := fun _ => fun
  | [d] => { results := [.lit (.bool true)], args := [d] }
  | _ => none }
def fnInRingRow : OpenClaim := { program := "ytoddomhpdeoeeaa", sum := "7c55574bbcf5c754cf09f5675fa5fde82e6dbc851fc96a9a346b873b48807bb7", func := "loop.example/questiongames/laws.FnInRing", spec := "fnInRing", unfollowed := true, recurses := true, apart := false }
def FnInRingSaid : Prop := fnInRingRow.holds Try.pinned (OpenSpec.ofChange fnInRingSpec)

/-- ITS FALSE NEIGHBOUR: 'it returns false'. Refute it at one input. -/
def fnInRingWrong : ChangeSpec := { name := "fnInRing", fn := fun _ => fun
  | [d] => { results := [.lit (.bool false)], args := [d] }
  | _ => none }
def FnInRingWrongFalsely : Prop := fnInRingRow.holds Try.pinned (OpenSpec.ofChange fnInRingWrong)

/- THE SECOND FORM. 'bulk': how many values and letters a reading holds, each counted each time it is reached (what is shared counts as often as it is met; a slice's spare places count too). A statement '..UptoSaid' is the law's where the arguments, and the package variables that the reading takes, are together of bulk at most 1048576: NARROWER than '..Said'. Prove '..Said' where nothing that the law and all that it calls make is longer than what came in: it says more and counts as full. Else prove '..UptoSaid'. A law counts once. -/
mutual
def uptoBulk {H : Type} : DataW H → Nat
  | .lit (.string bytes) => bytes.length + 1
  | .lit _ => 1
  | .nil => 1
  | .ptr d => uptoBulk d + 1
  | .slice elems spare => uptoBulkAll elems + uptoBulkAll spare + 1
  | .agg parts => uptoBulkAll parts + 1
  | .iface _ d => uptoBulk d + 1
  | .map entries => uptoBulkEntries entries + 1
  | .held _ => 1
def uptoBulkAll {H : Type} : List (DataW H) → Nat
  | [] => 0
  | d :: r => uptoBulk d + uptoBulkAll r
def uptoBulkEntries {H : Type} : List (Lit × DataW H) → Nat
  | [] => 0
  | x :: r => uptoBulkEntry x + uptoBulkEntries r
def uptoBulkEntry {H : Type} : Lit × DataW H → Nat
  | (.string bytes, d) => bytes.length + uptoBulk d + 1
  | (_, d) => uptoBulk d + 1
 end
def uptoSmall : (H : Type) → List (DataW H) → Bool := fun _ ds => decide (uptoBulkAll ds ≤ 1048576)
def OpenSpec.upto (s : _root_.Go.ChangeSpec) : _root_.Go.OpenSpec := { _root_.Go.OpenSpec.ofChange s with cond := some uptoSmall }

/-- 'laws.FnExactMetOn', WHERE WHAT IT READS IS OF BULK AT MOST 1048576: true; the input reads as it did. -/
def fnExactMetOnUptoRow : OpenClaim := { program := "ytoddomhpdeoeeaa", sum := "7c55574bbcf5c754cf09f5675fa5fde82e6dbc851fc96a9a346b873b48807bb7", func := "loop.example/questiongames/laws.FnExactMetOn", spec := "fnExactMetOn", unfollowed := true, recurses := true, apart := false, narrowed := true }
def FnExactMetOnUptoSaid : Prop := fnExactMetOnUptoRow.holds Try.pinned (OpenSpec.upto fnExactMetOnSpec)

/-- 'laws.FnBesideOk', WHERE WHAT IT READS IS OF BULK AT MOST 1048576: true; the input reads as it did. -/
def fnBesideOkUptoRow : OpenClaim := { program := "ytoddomhpdeoeeaa", sum := "7c55574bbcf5c754cf09f5675fa5fde82e6dbc851fc96a9a346b873b48807bb7", func := "loop.example/questiongames/laws.FnBesideOk", spec := "fnBesideOk", unfollowed := true, recurses := true, apart := false, narrowed := true }
def FnBesideOkUptoSaid : Prop := fnBesideOkUptoRow.holds Try.pinned (OpenSpec.upto fnBesideOkSpec)

/-- 'laws.FnAfterDay', WHERE WHAT IT READS IS OF BULK AT MOST 1048576: true; the input reads as it did. -/
def fnAfterDayUptoRow : OpenClaim := { program := "ytoddomhpdeoeeaa", sum := "7c55574bbcf5c754cf09f5675fa5fde82e6dbc851fc96a9a346b873b48807bb7", func := "loop.example/questiongames/laws.FnAfterDay", spec := "fnAfterDay", unfollowed := true, recurses := true, apart := false, narrowed := true }
def FnAfterDayUptoSaid : Prop := fnAfterDayUptoRow.holds Try.pinned (OpenSpec.upto fnAfterDaySpec)

/-- 'laws.FnLeftAfter', WHERE WHAT IT READS IS OF BULK AT MOST 1048576: true; the input reads as it did. -/
def fnLeftAfterUptoRow : OpenClaim := { program := "ytoddomhpdeoeeaa", sum := "7c55574bbcf5c754cf09f5675fa5fde82e6dbc851fc96a9a346b873b48807bb7", func := "loop.example/questiongames/laws.FnLeftAfter", spec := "fnLeftAfter", unfollowed := true, recurses := true, apart := false, narrowed := true }
def FnLeftAfterUptoSaid : Prop := fnLeftAfterUptoRow.holds Try.pinned (OpenSpec.upto fnLeftAfterSpec)

/-- 'laws.FnSurelyFound', WHERE WHAT IT READS IS OF BULK AT MOST 1048576: true; the input reads as it did. -/
def fnSurelyFoundUptoRow : OpenClaim := { program := "ytoddomhpdeoeeaa", sum := "7c55574bbcf5c754cf09f5675fa5fde82e6dbc851fc96a9a346b873b48807bb7", func := "loop.example/questiongames/laws.FnSurelyFound", spec := "fnSurelyFound", unfollowed := true, recurses := true, apart := false, narrowed := true }
def FnSurelyFoundUptoSaid : Prop := fnSurelyFoundUptoRow.holds Try.pinned (OpenSpec.upto fnSurelyFoundSpec)

/-- 'laws.FnMetOn', WHERE WHAT IT READS IS OF BULK AT MOST 1048576: true; the input reads as it did. -/
def fnMetOnUptoRow : OpenClaim := { program := "ytoddomhpdeoeeaa", sum := "7c55574bbcf5c754cf09f5675fa5fde82e6dbc851fc96a9a346b873b48807bb7", func := "loop.example/questiongames/laws.FnMetOn", spec := "fnMetOn", unfollowed := true, recurses := true, apart := false, narrowed := true }
def FnMetOnUptoSaid : Prop := fnMetOnUptoRow.holds Try.pinned (OpenSpec.upto fnMetOnSpec)

/-- 'laws.FnExactShortestHunt', WHERE WHAT IT READS IS OF BULK AT MOST 1048576: true; the input reads as it did. -/
def fnExactShortestHuntUptoRow : OpenClaim := { program := "ytoddomhpdeoeeaa", sum := "7c55574bbcf5c754cf09f5675fa5fde82e6dbc851fc96a9a346b873b48807bb7", func := "loop.example/questiongames/laws.FnExactShortestHunt", spec := "fnExactShortestHunt", unfollowed := true, recurses := true, apart := false, narrowed := true }
def FnExactShortestHuntUptoSaid : Prop := fnExactShortestHuntUptoRow.holds Try.pinned (OpenSpec.upto fnExactShortestHuntSpec)

/-- 'laws.FnShortestHunt', WHERE WHAT IT READS IS OF BULK AT MOST 1048576: true; the input reads as it did. -/
def fnShortestHuntUptoRow : OpenClaim := { program := "ytoddomhpdeoeeaa", sum := "7c55574bbcf5c754cf09f5675fa5fde82e6dbc851fc96a9a346b873b48807bb7", func := "loop.example/questiongames/laws.FnShortestHunt", spec := "fnShortestHunt", unfollowed := true, recurses := true, apart := false, narrowed := true }
def FnShortestHuntUptoSaid : Prop := fnShortestHuntUptoRow.holds Try.pinned (OpenSpec.upto fnShortestHuntSpec)

/-- 'laws.FnInRow', WHERE WHAT IT READS IS OF BULK AT MOST 1048576: true; the input reads as it did. -/
def fnInRowUptoRow : OpenClaim := { program := "ytoddomhpdeoeeaa", sum := "7c55574bbcf5c754cf09f5675fa5fde82e6dbc851fc96a9a346b873b48807bb7", func := "loop.example/questiongames/laws.FnInRow", spec := "fnInRow", unfollowed := true, recurses := true, apart := false, narrowed := true }
def FnInRowUptoSaid : Prop := fnInRowUptoRow.holds Try.pinned (OpenSpec.upto fnInRowSpec)

/-- 'laws.FnInRing', WHERE WHAT IT READS IS OF BULK AT MOST 1048576: true; the input reads as it did. -/
def fnInRingUptoRow : OpenClaim := { program := "ytoddomhpdeoeeaa", sum := "7c55574bbcf5c754cf09f5675fa5fde82e6dbc851fc96a9a346b873b48807bb7", func := "loop.example/questiongames/laws.FnInRing", spec := "fnInRing", unfollowed := true, recurses := true, apart := false, narrowed := true }
def FnInRingUptoSaid : Prop := fnInRingUptoRow.holds Try.pinned (OpenSpec.upto fnInRingSpec)

end Rows
end Go.Proofs.Ytoddomhpdeoeeaa
