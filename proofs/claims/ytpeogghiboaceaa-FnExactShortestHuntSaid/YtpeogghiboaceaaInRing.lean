/- spec.InRing. -/
import Derived.Test.YtpeogghiboaceaaInRow
namespace Go.Proofs.Ytpeogghiboaceaa
open Go.RowKit
set_option linter.unusedVariables false

theorem ring_of_row {n : Nat} (h0 : 3 ≤ n) (h1 : n ≤ 6) :
    ((lineR n false).set 0 ((rowR n false 0).set (n - 1) 1)).set (n - 1) ((rowR n false (n - 1)).set 0 1) = lineR n true := by
  have : n = 3 ∨ n = 4 ∨ n = 5 ∨ n = 6 := by omega
  rcases this with rfl | rfl | rfl | rfl <;> decide

end Go.Proofs.Ytpeogghiboaceaa
