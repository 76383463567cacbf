/- What is needed for the exact laws whose results are a list of numbers and a truth. -/
import Derived.Test.YtpeogghiboaceaaMarkFar
namespace Go.Proofs.Ytpeogghiboaceaa
open Go.RowKit
set_option linter.unusedVariables false

/-- A row of one's own stays, where its block stays. -/
theorem OwnI.block {B : Nat} {w w' : World} {v : Value} {xs : List Int} (h : OwnI B w v xs) (hk : ∀ j, v.ownBlock = some j → w'.heap[j]? = w.heap[j]?) : OwnI B w' v xs := by
  refine ⟨h.1, ?_⟩
  rcases h.2 with h2 | ⟨g, cap, cur, rfl, hb, hg, r⟩
  · exact .inl h2
  · exact .inr ⟨g, cap, cur, rfl, hb, by rw [hk g rfl]; exact hg, r⟩
theorem OwnI.lt {B : Nat} {w : World} {v : Value} {xs : List Int} (h : OwnI B w v xs) : ∀ j, v.ownBlock = some j → B ≤ j ∧ j < w.heap.size := fun j hj => World.ownsRow.lt h j hj
/-- The rows are marked: what is older and what is younger stays. -/
def FarII (B F : Nat) (v : Value) (xss : List (List Int)) (m : Int) (w : World) (e : Ending) (w' : World) : Prop :=
  MarkedII B v xss m w e w' ∧ ∀ b, F ≤ b → b < w.heap.size → w'.heap[b]? = w.heap[b]?
theorem below_marked {B : Nat} {w w1 w2 : World} {v : Value} (hb : Below B w w1) (hg : w1.grownBy w2 v.ownBlock) (hB : B ≤ w1.heap.size) (hv : ∀ j, v.ownBlock = some j → B ≤ j) : Below B w w2 :=
  hb.grown hg hB hv
theorem SL.block {B C : Nat} {w w' : World} {v : Value} {vs : List Value} (h : SL B w v vs) (hk : ∀ j, B ≤ j → j < w.heap.size → w'.heap[j]? = w.heap[j]?) : SL B w' v vs := h.keep hk
theorem heldL_marked (n : Nat) (m : Int) : heldL (markL n m) m = m + (n : Int) := heldL_mark n m

end Go.Proofs.Ytpeogghiboaceaa
