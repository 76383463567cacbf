/- Copies of desks. -/
import Derived.Test.YtkjdlpbfalojdaaDeskL
namespace Go.Proofs.Ytkjdlpbfalojdaa
open Go.RowKit
set_option linter.unusedVariables false
set_option maxRecDepth 100000

/-- A desk whose guesses lie in new memory. -/
def DeskOut (p c : Int) (gs : List Gs) (w : World) (e : Ending) (w' : World) : Prop :=
  ∃ a cap, e = .returned (dkV p c (.slice a gs.length cap)) ∧ OwnG w.heap.size w' (.slice a gs.length cap) gs ∧ Below w.heap.size w w'

set_option maxHeartbeats 1000000 in
theorem toDesk_any {B : Nat} (p c : Int) (v : Value) (gs : List Gs) (w : World) (h : GL B w v gs) (hl : gs.length ≤ 2000000) (hc : ∀ g ∈ gs, g.code.length ≤ 1099511627776) :
    Calls Try.prog 30 #[dkV p c v] w (DeskOut p c gs w) := by
  have hsh : ∃ a cap, v = .slice a gs.length cap := by obtain ⟨a, cap, _, hv, _⟩ := h; exact ⟨a, cap, hv⟩
  obtain ⟨a, cap, rfl⟩ := hsh
  obtain ⟨w1, hw1⟩ : ∃ w1, w1 = ((w.alloc (.cells #[.int .i64 p, .int .i64 c, .slice a gs.length cap] 44)).alloc (.cells #[.int .i64 0, .int .i64 0, .slice none 0 0] 27)).alloc (.cells #[.int .i64 p, .int .i64 c, .slice none 0 0] 27) := ⟨_, rfl⟩
  have hb1 : Below w.heap.size w w1 := by rw [hw1]; exact (((Below.refl _ _).alloc (Nat.le_refl _) _).alloc (by simp) _).alloc (by simp; omega) _
  have hs1 : w1.heap.size = w.heap.size + 3 := by rw [hw1]; simp
  have hT := toGuessS_any _ gs w1 (h.below hb1) hl hc
  rw [hw1] at hT
  have HB1 := Lib.hid hb1
  have HW1 := Lib.hid hw1
  have HS1 := Lib.hid hs1
  unfold dkV
  clear h hb1 hs1 hw1 hl hc
  go_enter Try.func30, Try.ntmps30
  go_wp2_with fail
  refine hT.mono ?_
  rintro e w2 ⟨a2, c2, rfl, ho2, hb2⟩
  rw [← HW1.out] at ho2 hb2
  have hg1 : w2.heap[w.heap.size + 1]? = some (.cells #[.int .i64 0, .int .i64 0, .slice none 0 0] 27 (0, 0)) := by
    rw [hb2.block _ (by have := HS1.out; omega), HW1.out, heap_alloc_old _ _ (by simp; try omega)]; have q := @Go.heap_alloc_new (w.alloc (.cells #[.int .i64 p, .int .i64 c, .slice a gs.length cap] 44)) (.cells #[.int .i64 0, .int .i64 0, .slice none 0 0] 27); rw [World.size_alloc] at q; exact q
  have hg2 : w2.heap[w.heap.size + 2]? = some (.cells #[.int .i64 p, .int .i64 c, .slice none 0 0] 27 (0, 0)) := by
    rw [hb2.block _ (by have := HS1.out; omega), HW1.out]; have q := @Go.heap_alloc_new ((w.alloc (.cells #[.int .i64 p, .int .i64 c, .slice a gs.length cap] 44)).alloc (.cells #[.int .i64 0, .int .i64 0, .slice none 0 0] 27)) (.cells #[.int .i64 p, .int .i64 c, .slice none 0 0] 27); rw [World.size_alloc, World.size_alloc] at q; exact q
  have d0 := cell_of_row _ _ 0 _ _ (0, 0) hg1
  have d1 := cell_of_row _ _ 1 _ _ (0, 0) hg1
  have d2 := cell_of_row _ _ 2 _ _ (0, 0) hg1
  have e0 := cell_of_row _ _ 0 _ _ (0, 0) hg2
  have e1 := cell_of_row _ _ 1 _ _ (0, 0) hg2
  have e2 := cell_of_row _ _ 2 _ _ (0, 0) hg2
  have k1 : ∀ j, w2.frozen? ⟨w.heap.size + 1, j, none⟩ = false := fun j => frozen_of_row _ _ j _ _ hg1
  have k2 : ∀ j, w2.frozen? ⟨w.heap.size + 2, j, none⟩ = false := fun j => frozen_of_row _ _ j _ _ hg2
  simp at d0 d1 d2 e0 e1 e2
  clear hT
  go_wp2
  have HO2 := Lib.hid ho2
  have HB2 := Lib.hid (HB1.out.trans (hb2.mono HB1.out.size))
  have hs1 := HS1.out
  have q3 : (w2.setCell ⟨w.heap.size + 1 + 1, 2, none⟩ (.slice a2 gs.length c2)).heap[w.heap.size + 1]? = some (.cells #[.int .i64 0, .int .i64 0, .slice none 0 0] 27 (0, 0)) := by
    rw [heap_setCell_other _ _ _ _ (by simp)]; exact hg1
  have q6 := heap_setCell_same _ _ 2 _ _ (.slice a2 gs.length c2) (heap_setCell_same _ _ 1 _ _ (.int .i64 c) (heap_setCell_same _ _ 0 _ _ (.int .i64 p) q3))
  ((try simp only [Exit.inBlock, Exit.then]); refine bodyPost_ret (results_cell_row rfl _ _ (w.heap.size + 1) _ _ (0, 0) _ rfl q6 Try.underlying27 rfl (by kernel_rfl)) rfl ?_)
  refine ⟨a2, c2, rfl, (HO2.out.keep (fun b hb hlt => ?_)).mono (by omega), ?_⟩
  · rw [heap_setCell_other _ _ _ _ (by simp; omega), heap_setCell_other _ _ _ _ (by simp; omega), heap_setCell_other _ _ _ _ (by simp; omega), heap_setCell_other _ _ _ _ (by simp; omega)]
  · exact (((HB2.out.setCell (p := ⟨w.heap.size + 1 + 1, 2, none⟩) (by simp; omega) _).setCell (p := ⟨w.heap.size + 1, 0, none⟩) (by simp) _).setCell (p := ⟨w.heap.size + 1, 1, none⟩) (by simp) _).setCell (p := ⟨w.heap.size + 1, 2, none⟩) (by simp) _

end Go.Proofs.Ytkjdlpbfalojdaa
