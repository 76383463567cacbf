/- Copies of guesses and deeds. -/
import Derived.Test.YtkjdlpbfalojdaaDeed
namespace Go.Proofs.Ytkjdlpbfalojdaa
open Go.RowKit
set_option linter.unusedVariables false
set_option maxRecDepth 100000

/-- A guess with its code in new memory. -/
def GuessOut (xs : List Int) (r n : Int) (w : World) (e : Ending) (w' : World) : Prop :=
  ∃ a cap, e = .returned (gV (.slice a xs.length cap) r n) ∧ OwnI w.heap.size w' (.slice a xs.length cap) xs ∧ Below w.heap.size w w'

set_option maxHeartbeats 1000000 in
theorem toGuess_any {B : Nat} (v : Value) (xs : List Int) (r n : Int) (w : World) (h : Ints B w v xs) (hl : xs.length ≤ 1099511627776) :
    Calls Try.prog 78 #[gV v r n] w (GuessOut xs r n w) := by
  obtain ⟨a, cap, rfl, _⟩ := h.opened
  obtain ⟨w1, hw1⟩ : ∃ w1, w1 = ((w.alloc (.cells #[.slice a xs.length cap, .int .i64 r, .int .i64 n] 75)).alloc (.cells #[.slice none 0 0, .int .i64 0, .int .i64 0] 69)).alloc (.cells #[.slice none 0 0, .int .i64 0, .int .i64 0] 69) := ⟨_, rfl⟩
  have hb1 : Below w.heap.size w w1 := by rw [hw1]; exact (((Below.refl _ _).alloc (Nat.le_refl _) _).alloc (by simp) _).alloc (by simp; omega) _
  have hs1 : w1.heap.size = w.heap.size + 3 := by rw [hw1]; simp
  have hT := toIntS_any _ xs w1 (h.below hb1) hl
  rw [hw1] at hT
  have HB1 := Lib.hid hb1
  have HW1 := Lib.hid hw1
  have HS1 := Lib.hid hs1
  unfold gV
  clear h hb1 hs1 hw1
  go_enter Try.func78, Try.ntmps78
  go_wp2_with fail
  refine hT.mono ?_
  rintro e w2 ⟨a2, c2, rfl, ho2, hb2⟩
  rw [← HW1.out] at ho2 hb2
  have hg0 : w2.heap[w.heap.size]? = some (.cells #[.slice a xs.length cap, .int .i64 r, .int .i64 n] 75 (0, 0)) := by
    rw [hb2.block _ (by have := HS1.out; omega), HW1.out, heap_alloc_old _ _ (by simp; try omega), heap_alloc_old _ _ (by simp; try omega)]; exact heap_alloc_new w _
  have hg1 : w2.heap[w.heap.size + 1]? = some (.cells #[.slice none 0 0, .int .i64 0, .int .i64 0] 69 (0, 0)) := by
    rw [hb2.block _ (by have := HS1.out; omega), HW1.out, heap_alloc_old _ _ (by simp; try omega)]; have q := @Go.heap_alloc_new (w.alloc (.cells #[.slice a xs.length cap, .int .i64 r, .int .i64 n] 75)) (.cells #[.slice none 0 0, .int .i64 0, .int .i64 0] 69); rw [World.size_alloc] at q; exact q
  have hg2 : w2.heap[w.heap.size + 2]? = some (.cells #[.slice none 0 0, .int .i64 0, .int .i64 0] 69 (0, 0)) := by
    rw [hb2.block _ (by have := HS1.out; omega), HW1.out]; have q := @Go.heap_alloc_new ((w.alloc (.cells #[.slice a xs.length cap, .int .i64 r, .int .i64 n] 75)).alloc (.cells #[.slice none 0 0, .int .i64 0, .int .i64 0] 69)) (.cells #[.slice none 0 0, .int .i64 0, .int .i64 0] 69); rw [World.size_alloc, World.size_alloc] at q; exact q
  have cc0 := cell_of_row _ _ 0 _ _ (0, 0) hg0
  have cc1 := cell_of_row _ _ 1 _ _ (0, 0) hg0
  have cc2 := cell_of_row _ _ 2 _ _ (0, 0) hg0
  have d0 := cell_of_row _ _ 0 _ _ (0, 0) hg1
  have d1 := cell_of_row _ _ 1 _ _ (0, 0) hg1
  have d2 := cell_of_row _ _ 2 _ _ (0, 0) hg1
  have e0 := cell_of_row _ _ 0 _ _ (0, 0) hg2
  have e1 := cell_of_row _ _ 1 _ _ (0, 0) hg2
  have e2 := cell_of_row _ _ 2 _ _ (0, 0) hg2
  have k1 : ∀ j, w2.frozen? ⟨w.heap.size + 1, j, none⟩ = false := fun j => frozen_of_row _ _ j _ _ hg1
  have k2 : ∀ j, w2.frozen? ⟨w.heap.size + 2, j, none⟩ = false := fun j => frozen_of_row _ _ j _ _ hg2
  simp at cc0 cc1 cc2 d0 d1 d2 e0 e1 e2
  clear hT
  go_wp2
  have HO2 := Lib.hid ho2
  have HB2 := Lib.hid (HB1.out.trans (hb2.mono HB1.out.size))
  have hs1 := HS1.out
  have q3 : (((w2.setCell ⟨w.heap.size + 1 + 1, 0, none⟩ (.slice a2 xs.length c2)).setCell ⟨w.heap.size + 1 + 1, 1, none⟩ (.int .i64 r)).setCell ⟨w.heap.size + 1 + 1, 2, none⟩ (.int .i64 n)).heap[w.heap.size + 1]? = some (.cells #[.slice none 0 0, .int .i64 0, .int .i64 0] 69 (0, 0)) := by
    rw [heap_setCell_other _ _ _ _ (by simp), heap_setCell_other _ _ _ _ (by simp), heap_setCell_other _ _ _ _ (by simp)]; exact hg1
  have q6 := heap_setCell_same _ _ 2 _ _ (.int .i64 n) (heap_setCell_same _ _ 1 _ _ (.int .i64 r) (heap_setCell_same _ _ 0 _ _ (.slice a2 xs.length c2) q3))
  ((try simp only [Exit.inBlock, Exit.then]); refine bodyPost_ret (results_cell_row rfl _ _ (w.heap.size + 1) _ _ (0, 0) _ rfl q6 Try.underlying69 rfl (by kernel_rfl)) rfl ?_)
  refine ⟨a2, c2, rfl, (HO2.out.keep (fun b hb hlt => ?_)).mono (by omega), ?_⟩
  · rw [heap_setCell_other _ _ _ _ (by simp; omega), heap_setCell_other _ _ _ _ (by simp; omega), heap_setCell_other _ _ _ _ (by simp; omega), heap_setCell_other _ _ _ _ (by simp; omega), heap_setCell_other _ _ _ _ (by simp; omega), heap_setCell_other _ _ _ _ (by simp; omega)]
  · exact (((((HB2.out.setCell (p := ⟨w.heap.size + 1 + 1, 0, none⟩) (by simp; omega) _).setCell (p := ⟨w.heap.size + 1 + 1, 1, none⟩) (by simp; omega) _).setCell (p := ⟨w.heap.size + 1 + 1, 2, none⟩) (by simp; omega) _).setCell (p := ⟨w.heap.size + 1, 0, none⟩) (by simp) _).setCell (p := ⟨w.heap.size + 1, 1, none⟩) (by simp) _).setCell (p := ⟨w.heap.size + 1, 2, none⟩) (by simp) _

end Go.Proofs.Ytkjdlpbfalojdaa
