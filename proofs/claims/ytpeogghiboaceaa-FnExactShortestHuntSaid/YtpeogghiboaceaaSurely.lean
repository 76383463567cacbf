/- SurelyFound, of the program and of the reference. -/
import Derived.Test.YtpeogghiboaceaaLeft
namespace Go.Proofs.Ytpeogghiboaceaa
open Go.RowKit Go.Shelf
set_option linter.unusedVariables false

def surelyB (xss : List (List Int)) (xs : List Int) : Bool := leftR xss xs == 0

end Go.Proofs.Ytpeogghiboaceaa
