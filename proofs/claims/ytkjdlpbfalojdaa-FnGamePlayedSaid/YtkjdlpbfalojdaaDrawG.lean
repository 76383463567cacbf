/- Drawn numbers for desks. -/
import Derived.Test.YtkjdlpbfalojdaaDraw
import Derived.Test.YtkjdlpbfalojdaaOwn
namespace Go.Proofs.Ytkjdlpbfalojdaa
open Go.RowKit
set_option linter.unusedVariables false
set_option maxRecDepth 100000

theorem drawDeskNew_any {B : Nat} (v : Value) (bs : List Int) (w : World) (h : Bytes B w v bs) :
    Calls Try.prog 15 #[v] w fun e w' => ∃ x y : Int, e = .returned (.tuple #[.int .i64 x, .int .i64 y]) ∧ -1 ≤ x ∧ x ≤ 4 ∧ -1 ≤ y ∧ y ≤ 6 ∧ Below w.heap.size w w' := by
  obtain ⟨a0, cap0, rfl, _⟩ := id h.1
  rw [List.length_map] at h ⊢
  have hO := open_any _ bs w h
  clear h
  go_enter Try.func15, Try.ntmps15
  go_wp2_with fail
  refine hO.mono ?_
  rintro e w1 ⟨a, cap, bs1, rfl, hR1, hb1⟩
  have HB1 := Lib.hid hb1
  have hz1 := hb1.size
  clear hO hb1
  go_wp2_with fail
  refine (pick_any 6 _ _ a cap bs1 0 hR1 (by omega) (by unfold In64; omega)).mono ?_
  rintro e w2 ⟨r, rfl, hr0, hr1, ⟨p2, hR2, hp2⟩, hg2⟩
  have hr1 := hr1 (by omega)
  have HB2 := Lib.hid (HB1.out.grown hg2 hz1 (fun j hj => by cases hj; exact Nat.le_refl _))
  clear hR1 hg2
  go_wp2_with fail
  refine (pick_any 8 _ _ a cap bs1 p2 hR2 (by omega) (by unfold In64; omega)).mono ?_
  rintro e w3 ⟨q, rfl, hq0, hq1, _, hg3⟩
  have hq1 := hq1 (by omega)
  have HB3 := Lib.hid (HB2.out.grown hg3 HB2.out.size (fun j hj => by cases hj; exact Nat.le_refl _))
  clear hR2 hg3
  go_wp2
  go_ret2
  exact ⟨_, _, rfl, by omega, by omega, by omega, by omega, HB3.out⟩

end Go.Proofs.Ytkjdlpbfalojdaa
