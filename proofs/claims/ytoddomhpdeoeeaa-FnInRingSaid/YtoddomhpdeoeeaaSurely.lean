/- SurelyFound, of the program and of the reference. -/
import Derived.Test.YtoddomhpdeoeeaaLeft
namespace Go.Proofs.Ytoddomhpdeoeeaa
open Go.RowKit Go.Shelf
set_option linter.unusedVariables false

def surelyB (xss : List (List Int)) (xs : List Int) : Bool := leftR xss xs == 0

theorem implSurelyFound_any {B C : Nat} (v u : Value) (xss : List (List Int)) (xs : List Int) (w : World) (h : Rows2 B w v xss) (hu : Ints C w u xs) :
    Calls Try.prog 31 #[v, u] w fun e w' => e = .returned (.bool (surelyB xss xs)) ∧ Below w.heap.size w w' := by
  go_enter Try.func31, Try.ntmps31
  go_wp2_with fail
  refine (implLeftAfter_any _ _ _ _ _ h hu).mono ?_
  rintro e w2 ⟨rfl, hb2⟩
  go_wp2
  go_ret
  exact ⟨rfl, hb2⟩

theorem specSurelyFound_any {B C : Nat} (v u : Value) (xss : List (List Int)) (xs : List Int) (w : World) (h : Rows2 B w v xss) (hu : Ints C w u xs) :
    Calls Try.prog 32 #[v, u] w (Quiet (.bool (surelyB xss xs)) w) := by
  go_enter Try.func32, Try.ntmps32
  go_wp2_with fail
  refine (specLeftAfter_any _ _ _ _ _ h hu).mono ?_
  rintro e w2 ⟨rfl, hq2⟩
  have hD : Drawn w w2 := hq2
  clear hq2
  go_wp2
  go_ret
  exact ⟨rfl, hD⟩

end Go.Proofs.Ytoddomhpdeoeeaa
