/- The walk of FnSurelyFound. -/
import Derived.Test.YtpeogghiboaceaaDrawOpened
namespace Go.Proofs.Ytpeogghiboaceaa
open Go.RowKit
set_option linter.unusedVariables false

/-- A call's result are few rows and opened boxes, in new memory. -/
def OpenOut (w : World) (e : Ending) (w' : World) : Prop :=
  ∃ xss a cap ys a2 c2, e = .returned (.tuple #[.slice a xss.length cap, .slice a2 ys.length c2]) ∧ Rows2 w.heap.size w' (.slice a xss.length cap) xss ∧ xss.length ≤ 6 ∧ Ints w.heap.size w' (.slice a2 ys.length c2) ys ∧ ys.length ≤ 32 ∧ Below w.heap.size w w'

theorem take_rev_step {xs : List Int} {u m : Nat} (hu : u < xs.length) (hm : m = xs.length - (u + 1)) : xs.reverse.take m ++ [xs[u]] = xs.reverse.take (m + 1) := by
  have hlt : m < xs.reverse.length := by rw [List.length_reverse]; omega
  have e : xs.length - 1 - m = u := by omega
  rw [List.take_succ_eq_append_getElem hlt, List.getElem_reverse]
  congr 2
  simp only [e]

/-- Of a turned row all but the last t numbers are there. -/
def TurnW (w : World) (xs : List Int) (t : Nat) (ao : Option Addr) (m co : Nat) (wi : World) : Prop :=
  m = xs.length - t ∧ OwnI w.heap.size wi (.slice ao m co) (xs.reverse.take m) ∧ Below w.heap.size w wi

end Go.Proofs.Ytpeogghiboaceaa
