/- Marks of guesses where the slice shows less than the block's capacity. -/
import Derived.Test.YtenlngclocfnlaaDoorCopI
import Derived.Test.YtenlngclocfnlaaDoorDoMath
namespace Go.Proofs.YtenlngclocfnlaaDoor
open Go.RowKit
set_option linter.unusedVariables false
set_option maxRecDepth 100000

/-- Marked guesses; what lies behind the world in which they were made stands. -/
def MarkedR (B : Nat) (wk : World) (v : Value) (gs : List Gs) (m : Int) (w : World) (e : Ending) (w' : World) : Prop :=
  e = .returned (.int .i64 (endK gs m)) ∧ RG B w' v (markGs gs m) ∧ Below B w w' ∧ ∀ b, wk.heap.size ≤ b → b < w.heap.size → w'.heap[b]? = w.heap[b]?

theorem markDeed_any {B : Nat} (b : Bool) (v : Value) (xs : List Int) (r n : Int) (m : Int) (w : World) (h : OwnI B w v xs) (hBw : B ≤ w.heap.size) (h0 : 0 ≤ m) (h1 : m ≤ 1099511627776) (h2 : xs.length ≤ 1099511627776) :
    Calls Tryd.prog 11 #[dV b v r n, .int .i64 m] w fun e w' => e = .returned (.int .i64 (m + (xs.length : Int))) ∧ OwnI B w' v (markL xs.length m) ∧ Below B w w' ∧ (∀ j, j < w.heap.size → v.ownBlock ≠ some j → w'.heap[j]? = w.heap[j]?) := by
  obtain ⟨a, cap, rfl, _⟩ := own_shape h
  obtain ⟨w1, hw1⟩ : ∃ w1, w1 = (w.alloc (.cells #[.bool b, .slice a xs.length cap, .int .i64 r, .int .i64 n] 26)).alloc (.cells #[.slice a xs.length cap, .int .i64 r, .int .i64 n] 24) := ⟨_, rfl⟩
  have hb1 : Below w.heap.size w w1 := by rw [hw1]; exact ((Below.refl _ _).alloc (Nat.le_refl _) _).alloc (by simp) _
  have hM := markIntS_any _ xs m w1 (owns_below h hb1) h0 h1 h2
  subst hw1
  have HB1 := Lib.hid hb1
  have HL := Lib.hid (fun j hj => World.ownsRow.lt h j hj)
  have HBW := Lib.hid hBw
  unfold dV
  clear h hb1 hBw
  go_enter Tryd.func11, Tryd.ntmps11
  go_wp2_with (first
    | (go_at_call 37; refine hM.mono ?_; rintro e w2 ⟨rfl, ho2, hg2⟩; have HO2 := Lib.hid ho2; have HG2 := Lib.hid hg2; clear hM ho2 hg2)
    | go_in)
  go_ret
  refine ⟨rfl, HO2.out, ?_, fun j hj hne => ?_⟩
  · exact ((HB1.out.mono HBW.out).grown HG2.out (by simp; have := HBW.out; omega) (fun j hj => (HL.out j hj).1))
  · have := HG2.out.block j (by simp; omega) (fun e => hne e.symm)
    rw [this]
    exact (Below.heap_alloc _ _ j (by simp; omega)).trans (Below.heap_alloc _ _ j hj)

end Go.Proofs.YtenlngclocfnlaaDoor
