/-
  No cell of these rows narrows 'for every input' (looked for: loops, veiled, ifaces, maps, wideKeys, modest, calm, conditions, laid).
  DERIVED. THE GIVEN ROWS OF THIS SEAT. 8 by the template 'for every input the law returns true; each argument reads behind the call as it read before'; 0 by the template 'total and deterministic' (their statements: YthdgklkmameadaaTotals.lean).
  GIVEN WITH THE SEED: the statements are not yours to turn. If you find one false, say at which input.
  Laid BY PROGRAM, IN A SANDBOX (cutbox-rows.mjs): the forced cells as the released guide's own fill.sh prints them over the translation 5af0193002b5ea65… (all of the seat's roots in one cut). By AI agents, Wed Nov 11 2026. No macro, syntax, notation, axiom, sorry.
-/
import Derived.Test.YthdgklkmameadaaChecked
import GoSem.Claim
import GoSem.ClaimJoined
import GoSem.ClaimMapViews
import Derived.JoinedTies
import Derived.KernelRfl
namespace Go.Proofs.Ythdgklkmameadaa
/- THE CELL 'sum', in the pinned program and in every row, IS THE sha256 OF THE DUMP (.gsa) THAT YthdgklkmameadaaProg.lean LOADS. Nothing in Lean hashes anything: it is a label: what it is worth is what the hold of that sum in a sandbox is worth. -/
noncomputable def Try.pinned : Pinned := { name := "ythdgklkmameadaa", sum := "5af0193002b5ea65e056464d1597a5e3b3fdce8ac7726973cc35d91f8cee32b3", checked := Try.checked }
namespace Rows
def none {H : Type} : Left H := { results := [], args := [] }

/-- 'laws.FnExactInRow': WHATEVER THE INPUT: true; the input reads as it did. -/
def fnExactInRowSpec : ChangeSpec := { name := "fnExactInRow", fn := fun _ => fun
  | [d] => { results := [.lit (.bool true)], args := [d] }
  | _ => none }
def fnExactInRowRow : OpenClaim := { program := "ythdgklkmameadaa", sum := "5af0193002b5ea65e056464d1597a5e3b3fdce8ac7726973cc35d91f8cee32b3", func := "loop.example/questiongames/laws.FnExactInRow", spec := "fnExactInRow", apart := false }
def FnExactInRowSaid : Prop := fnExactInRowRow.holds Try.pinned (OpenSpec.ofChange fnExactInRowSpec)

/-- ITS FALSE NEIGHBOUR: 'it returns false'. Refute it at one input. -/
def fnExactInRowWrong : ChangeSpec := { name := "fnExactInRow", fn := fun _ => fun
  | [d] => { results := [.lit (.bool false)], args := [d] }
  | _ => none }
def FnExactInRowWrongFalsely : Prop := fnExactInRowRow.holds Try.pinned (OpenSpec.ofChange fnExactInRowWrong)

/-- 'laws.FnExactTableOk': WHATEVER THE INPUT: true; the input reads as it did. -/
def fnExactTableOkSpec : ChangeSpec := { name := "fnExactTableOk", fn := fun _ => fun
  | [d] => { results := [.lit (.bool true)], args := [d] }
  | _ => none }
def fnExactTableOkRow : OpenClaim := { program := "ythdgklkmameadaa", sum := "5af0193002b5ea65e056464d1597a5e3b3fdce8ac7726973cc35d91f8cee32b3", func := "loop.example/questiongames/laws.FnExactTableOk", spec := "fnExactTableOk", unfollowed := true, recurses := true, apart := false }
def FnExactTableOkSaid : Prop := fnExactTableOkRow.holds Try.pinned (OpenSpec.ofChange fnExactTableOkSpec)

/-- ITS FALSE NEIGHBOUR: 'it returns false'. Refute it at one input. -/
def fnExactTableOkWrong : ChangeSpec := { name := "fnExactTableOk", fn := fun _ => fun
  | [d] => { results := [.lit (.bool false)], args := [d] }
  | _ => none }
def FnExactTableOkWrongFalsely : Prop := fnExactTableOkRow.holds Try.pinned (OpenSpec.ofChange fnExactTableOkWrong)

/-- 'laws.FnExactInRing': WHATEVER THE INPUT: true; the input reads as it did. -/
def fnExactInRingSpec : ChangeSpec := { name := "fnExactInRing", fn := fun _ => fun
  | [d] => { results := [.lit (.bool true)], args := [d] }
  | _ => none }
def fnExactInRingRow : OpenClaim := { program := "ythdgklkmameadaa", sum := "5af0193002b5ea65e056464d1597a5e3b3fdce8ac7726973cc35d91f8cee32b3", func := "loop.example/questiongames/laws.FnExactInRing", spec := "fnExactInRing", apart := false }
def FnExactInRingSaid : Prop := fnExactInRingRow.holds Try.pinned (OpenSpec.ofChange fnExactInRingSpec)

/-- ITS FALSE NEIGHBOUR: 'it returns false'. Refute it at one input. -/
def fnExactInRingWrong : ChangeSpec := { name := "fnExactInRing", fn := fun _ => fun
  | [d] => { results := [.lit (.bool false)], args := [d] }
  | _ => none }
def FnExactInRingWrongFalsely : Prop := fnExactInRingRow.holds Try.pinned (OpenSpec.ofChange fnExactInRingWrong)

/-- 'laws.FnTableOk': WHATEVER THE INPUT: true; the input reads as it did. -/
def fnTableOkSpec : ChangeSpec := { name := "fnTableOk", fn := fun _ => fun
  | [d] => { results := [.lit (.bool true)], args := [d] }
  | _ => none }
def fnTableOkRow : OpenClaim := { program := "ythdgklkmameadaa", sum := "5af0193002b5ea65e056464d1597a5e3b3fdce8ac7726973cc35d91f8cee32b3", func := "loop.example/questiongames/laws.FnTableOk", spec := "fnTableOk", unfollowed := true, recurses := true, apart := false }
def FnTableOkSaid : Prop := fnTableOkRow.holds Try.pinned (OpenSpec.ofChange fnTableOkSpec)

/-- ITS FALSE NEIGHBOUR: 'it returns false'. Refute it at one input. -/
def fnTableOkWrong : ChangeSpec := { name := "fnTableOk", fn := fun _ => fun
  | [d] => { results := [.lit (.bool false)], args := [d] }
  | _ => none }
def FnTableOkWrongFalsely : Prop := fnTableOkRow.holds Try.pinned (OpenSpec.ofChange fnTableOkWrong)

/-- 'laws.FnExactBesideOk': WHATEVER THE INPUT: true; the input reads as it did. -/
def fnExactBesideOkSpec : ChangeSpec := { name := "fnExactBesideOk", fn := fun _ => fun
  | [d] => { results := [.lit (.bool true)], args := [d] }
  | _ => none }
def fnExactBesideOkRow : OpenClaim := { program := "ythdgklkmameadaa", sum := "5af0193002b5ea65e056464d1597a5e3b3fdce8ac7726973cc35d91f8cee32b3", func := "loop.example/questiongames/laws.FnExactBesideOk", spec := "fnExactBesideOk", unfollowed := true, recurses := true, apart := false }
def FnExactBesideOkSaid : Prop := fnExactBesideOkRow.holds Try.pinned (OpenSpec.ofChange fnExactBesideOkSpec)

/-- ITS FALSE NEIGHBOUR: 'it returns false'. Refute it at one input. -/
def fnExactBesideOkWrong : ChangeSpec := { name := "fnExactBesideOk", fn := fun _ => fun
  | [d] => { results := [.lit (.bool false)], args := [d] }
  | _ => none }
def FnExactBesideOkWrongFalsely : Prop := fnExactBesideOkRow.holds Try.pinned (OpenSpec.ofChange fnExactBesideOkWrong)

/-- 'laws.FnExactLotAfter': WHATEVER THE INPUT: true; the input reads as it did. -/
def fnExactLotAfterSpec : ChangeSpec := { name := "fnExactLotAfter", fn := fun _ => fun
  | [d1, d2, d3, d4] => { results := [.lit (.bool true)], args := [d1, d2, d3, d4] }
  | _ => none }
def fnExactLotAfterRow : OpenClaim := { program := "ythdgklkmameadaa", sum := "5af0193002b5ea65e056464d1597a5e3b3fdce8ac7726973cc35d91f8cee32b3", func := "loop.example/questiongames/laws.FnExactLotAfter", spec := "fnExactLotAfter", unfollowed := true, recurses := true, apart := false }
def FnExactLotAfterSaid : Prop := fnExactLotAfterRow.holds Try.pinned (OpenSpec.ofChange fnExactLotAfterSpec)

/-- ITS FALSE NEIGHBOUR: 'it returns false'. Refute it at one input. -/
def fnExactLotAfterWrong : ChangeSpec := { name := "fnExactLotAfter", fn := fun _ => fun
  | [d1, d2, d3, d4] => { results := [.lit (.bool false)], args := [d1, d2, d3, d4] }
  | _ => none }
def FnExactLotAfterWrongFalsely : Prop := fnExactLotAfterRow.holds Try.pinned (OpenSpec.ofChange fnExactLotAfterWrong)

/-- 'laws.FnExactApartOk': WHATEVER THE INPUT: true; the input reads as it did. -/
def fnExactApartOkSpec : ChangeSpec := { name := "fnExactApartOk", fn := fun _ => fun
  | [d] => { results := [.lit (.bool true)], args := [d] }
  | _ => none }
def fnExactApartOkRow : OpenClaim := { program := "ythdgklkmameadaa", sum := "5af0193002b5ea65e056464d1597a5e3b3fdce8ac7726973cc35d91f8cee32b3", func := "loop.example/questiongames/laws.FnExactApartOk", spec := "fnExactApartOk", unfollowed := true, recurses := true, apart := false }
def FnExactApartOkSaid : Prop := fnExactApartOkRow.holds Try.pinned (OpenSpec.ofChange fnExactApartOkSpec)

/-- ITS FALSE NEIGHBOUR: 'it returns false'. Refute it at one input. -/
def fnExactApartOkWrong : ChangeSpec := { name := "fnExactApartOk", fn := fun _ => fun
  | [d] => { results := [.lit (.bool false)], args := [d] }
  | _ => none }
def FnExactApartOkWrongFalsely : Prop := fnExactApartOkRow.holds Try.pinned (OpenSpec.ofChange fnExactApartOkWrong)

/-- 'laws.FnLotAfter': WHATEVER THE INPUT: true; the input reads as it did. -/
def fnLotAfterSpec : ChangeSpec := { name := "fnLotAfter", fn := fun _ => fun
  | [d] => { results := [.lit (.bool true)], args := [d] }
  | _ => none }
def fnLotAfterRow : OpenClaim := { program := "ythdgklkmameadaa", sum := "5af0193002b5ea65e056464d1597a5e3b3fdce8ac7726973cc35d91f8cee32b3", func := "loop.example/questiongames/laws.FnLotAfter", spec := "fnLotAfter", unfollowed := true, recurses := true, apart := false }
def FnLotAfterSaid : Prop := fnLotAfterRow.holds Try.pinned (OpenSpec.ofChange fnLotAfterSpec)

/-- ITS FALSE NEIGHBOUR: 'it returns false'. Refute it at one input. -/
def fnLotAfterWrong : ChangeSpec := { name := "fnLotAfter", fn := fun _ => fun
  | [d] => { results := [.lit (.bool false)], args := [d] }
  | _ => none }
def FnLotAfterWrongFalsely : Prop := fnLotAfterRow.holds Try.pinned (OpenSpec.ofChange fnLotAfterWrong)

/- THE SECOND FORM. 'bulk': how many values and letters a reading holds, each counted each time it is reached (what is shared counts as often as it is met; a slice's spare places count too). A statement '..UptoSaid' is the law's where the arguments, and the package variables that the reading takes, are together of bulk at most 1048576: NARROWER than '..Said'. Prove '..Said' where nothing that the law and all that it calls make is longer than what came in: it says more and counts as full. Else prove '..UptoSaid'. A law counts once. -/
mutual
def uptoBulk {H : Type} : DataW H → Nat
  | .lit (.string bytes) => bytes.length + 1
  | .lit _ => 1
  | .nil => 1
  | .ptr d => uptoBulk d + 1
  | .slice elems spare => uptoBulkAll elems + uptoBulkAll spare + 1
  | .agg parts => uptoBulkAll parts + 1
  | .iface _ d => uptoBulk d + 1
  | .map entries => uptoBulkEntries entries + 1
  | .held _ => 1
def uptoBulkAll {H : Type} : List (DataW H) → Nat
  | [] => 0
  | d :: r => uptoBulk d + uptoBulkAll r
def uptoBulkEntries {H : Type} : List (Lit × DataW H) → Nat
  | [] => 0
  | x :: r => uptoBulkEntry x + uptoBulkEntries r
def uptoBulkEntry {H : Type} : Lit × DataW H → Nat
  | (.string bytes, d) => bytes.length + uptoBulk d + 1
  | (_, d) => uptoBulk d + 1
 end
def uptoSmall : (H : Type) → List (DataW H) → Bool := fun _ ds => decide (uptoBulkAll ds ≤ 1048576)
def OpenSpec.upto (s : _root_.Go.ChangeSpec) : _root_.Go.OpenSpec := { _root_.Go.OpenSpec.ofChange s with cond := some uptoSmall }

/-- 'laws.FnExactInRow', WHERE WHAT IT READS IS OF BULK AT MOST 1048576: true; the input reads as it did. -/
def fnExactInRowUptoRow : OpenClaim := { program := "ythdgklkmameadaa", sum := "5af0193002b5ea65e056464d1597a5e3b3fdce8ac7726973cc35d91f8cee32b3", func := "loop.example/questiongames/laws.FnExactInRow", spec := "fnExactInRow", apart := false, narrowed := true }
def FnExactInRowUptoSaid : Prop := fnExactInRowUptoRow.holds Try.pinned (OpenSpec.upto fnExactInRowSpec)

/-- 'laws.FnExactTableOk', WHERE WHAT IT READS IS OF BULK AT MOST 1048576: true; the input reads as it did. -/
def fnExactTableOkUptoRow : OpenClaim := { program := "ythdgklkmameadaa", sum := "5af0193002b5ea65e056464d1597a5e3b3fdce8ac7726973cc35d91f8cee32b3", func := "loop.example/questiongames/laws.FnExactTableOk", spec := "fnExactTableOk", unfollowed := true, recurses := true, apart := false, narrowed := true }
def FnExactTableOkUptoSaid : Prop := fnExactTableOkUptoRow.holds Try.pinned (OpenSpec.upto fnExactTableOkSpec)

/-- 'laws.FnExactInRing', WHERE WHAT IT READS IS OF BULK AT MOST 1048576: true; the input reads as it did. -/
def fnExactInRingUptoRow : OpenClaim := { program := "ythdgklkmameadaa", sum := "5af0193002b5ea65e056464d1597a5e3b3fdce8ac7726973cc35d91f8cee32b3", func := "loop.example/questiongames/laws.FnExactInRing", spec := "fnExactInRing", apart := false, narrowed := true }
def FnExactInRingUptoSaid : Prop := fnExactInRingUptoRow.holds Try.pinned (OpenSpec.upto fnExactInRingSpec)

/-- 'laws.FnTableOk', WHERE WHAT IT READS IS OF BULK AT MOST 1048576: true; the input reads as it did. -/
def fnTableOkUptoRow : OpenClaim := { program := "ythdgklkmameadaa", sum := "5af0193002b5ea65e056464d1597a5e3b3fdce8ac7726973cc35d91f8cee32b3", func := "loop.example/questiongames/laws.FnTableOk", spec := "fnTableOk", unfollowed := true, recurses := true, apart := false, narrowed := true }
def FnTableOkUptoSaid : Prop := fnTableOkUptoRow.holds Try.pinned (OpenSpec.upto fnTableOkSpec)

/-- 'laws.FnExactBesideOk', WHERE WHAT IT READS IS OF BULK AT MOST 1048576: true; the input reads as it did. -/
def fnExactBesideOkUptoRow : OpenClaim := { program := "ythdgklkmameadaa", sum := "5af0193002b5ea65e056464d1597a5e3b3fdce8ac7726973cc35d91f8cee32b3", func := "loop.example/questiongames/laws.FnExactBesideOk", spec := "fnExactBesideOk", unfollowed := true, recurses := true, apart := false, narrowed := true }
def FnExactBesideOkUptoSaid : Prop := fnExactBesideOkUptoRow.holds Try.pinned (OpenSpec.upto fnExactBesideOkSpec)

/-- 'laws.FnExactLotAfter', WHERE WHAT IT READS IS OF BULK AT MOST 1048576: true; the input reads as it did. -/
def fnExactLotAfterUptoRow : OpenClaim := { program := "ythdgklkmameadaa", sum := "5af0193002b5ea65e056464d1597a5e3b3fdce8ac7726973cc35d91f8cee32b3", func := "loop.example/questiongames/laws.FnExactLotAfter", spec := "fnExactLotAfter", unfollowed := true, recurses := true, apart := false, narrowed := true }
def FnExactLotAfterUptoSaid : Prop := fnExactLotAfterUptoRow.holds Try.pinned (OpenSpec.upto fnExactLotAfterSpec)

/-- 'laws.FnExactApartOk', WHERE WHAT IT READS IS OF BULK AT MOST 1048576: true; the input reads as it did. -/
def fnExactApartOkUptoRow : OpenClaim := { program := "ythdgklkmameadaa", sum := "5af0193002b5ea65e056464d1597a5e3b3fdce8ac7726973cc35d91f8cee32b3", func := "loop.example/questiongames/laws.FnExactApartOk", spec := "fnExactApartOk", unfollowed := true, recurses := true, apart := false, narrowed := true }
def FnExactApartOkUptoSaid : Prop := fnExactApartOkUptoRow.holds Try.pinned (OpenSpec.upto fnExactApartOkSpec)

/-- 'laws.FnLotAfter', WHERE WHAT IT READS IS OF BULK AT MOST 1048576: true; the input reads as it did. -/
def fnLotAfterUptoRow : OpenClaim := { program := "ythdgklkmameadaa", sum := "5af0193002b5ea65e056464d1597a5e3b3fdce8ac7726973cc35d91f8cee32b3", func := "loop.example/questiongames/laws.FnLotAfter", spec := "fnLotAfter", unfollowed := true, recurses := true, apart := false, narrowed := true }
def FnLotAfterUptoSaid : Prop := fnLotAfterUptoRow.holds Try.pinned (OpenSpec.upto fnLotAfterSpec)

end Rows
end Go.Proofs.Ythdgklkmameadaa
