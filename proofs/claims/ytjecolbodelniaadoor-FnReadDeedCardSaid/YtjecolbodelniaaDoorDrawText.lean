/- DrawDeedText. -/
import Derived.Test.YtjecolbodelniaaDoorDrawDeed
import Derived.Test.YtjecolbodelniaaDoorReadI
import Derived.Deep.DeepCutAuto
namespace Go.Proofs.YtjecolbodelniaaDoor
open Go.RowKit
set_option linter.unusedVariables false
set_option maxRecDepth 100000

/-- A drawn deed, whatever it is. -/
def DTOut (w : World) (e : Ending) (w' : World) : Prop :=
  ∃ (b : Bool) (ys : List Int) (r n : Int) (a : Option Addr) (c : Nat), e = .returned (.agg #[.bool b, .slice a ys.length c, .int .i64 r, .int .i64 n]) ∧ OwnI w.heap.size w' (.slice a ys.length c) ys ∧ (∀ y ∈ ys, In64 y) ∧ ys.length ≤ 10 ∧ Below w.heap.size w w'
theorem dt_fin {w wi : World} {b : Bool} {ys : List Int} {r n : Int} {a : Option Addr} {c : Nat} (hz : wi.heap[w.heap.size]? = some (.cells #[.bool false, .slice none 0 0, .int .i64 0, .int .i64 0] 26 (0, 0)))
    (ho : OwnI w.heap.size wi (.slice a ys.length c) ys) (hy : ∀ y ∈ ys, In64 y) (hl : ys.length ≤ 10) (hb : Below w.heap.size w wi) :
    DTOut w (.returned (.agg #[.bool b, .slice a ys.length c, .int .i64 r, .int .i64 n])) ((((wi.setCell ⟨w.heap.size, 0, none⟩ (.bool b)).setCell ⟨w.heap.size, 1, none⟩ (.slice a ys.length c)).setCell ⟨w.heap.size, 2, none⟩ (.int .i64 r)).setCell ⟨w.heap.size, 3, none⟩ (.int .i64 n)) ∧
      ((((wi.setCell ⟨w.heap.size, 0, none⟩ (.bool b)).setCell ⟨w.heap.size, 1, none⟩ (.slice a ys.length c)).setCell ⟨w.heap.size, 2, none⟩ (.int .i64 r)).setCell ⟨w.heap.size, 3, none⟩ (.int .i64 n)).heap[w.heap.size]? = some (.cells #[.bool b, .slice a ys.length c, .int .i64 r, .int .i64 n] 26 (0, 0)) := by
  have q1 := heap_setCell_same _ _ 0 _ _ (.bool b) hz
  have q2 := heap_setCell_same _ _ 1 _ _ (.slice a ys.length c) q1
  have q3 := heap_setCell_same _ _ 2 _ _ (.int .i64 r) q2
  have q4 := heap_setCell_same _ _ 3 _ _ (.int .i64 n) q3
  refine ⟨⟨b, ys, r, n, a, c, rfl, (((ho.otherR hz (by decide)).otherR q1 (by decide)).otherR q2 (by decide)).otherR q3 (by decide), hy, hl, ?_⟩, q4⟩
  exact (((hb.setCell (p := ⟨w.heap.size, 0, none⟩) (Nat.le_refl _) _).setCell (p := ⟨w.heap.size, 1, none⟩) (Nat.le_refl _) _).setCell (p := ⟨w.heap.size, 2, none⟩) (Nat.le_refl _) _).setCell (p := ⟨w.heap.size, 3, none⟩) (Nat.le_refl _) _

set_option maxHeartbeats 4000000 in
theorem drawDeedText_any {B : Nat} (v : Value) (bs : List Int) (w : World) (h : Bytes B w v bs) :
    Calls Tryd.prog 18 #[v] w (DTOut w) := by
  obtain ⟨a0, cap0, rfl, _⟩ := id h.1
  rw [List.length_map] at h ⊢
  obtain ⟨w1, hw1⟩ : ∃ w1, w1 = w.alloc (.cells #[.bool false, .slice none 0 0, .int .i64 0, .int .i64 0] 26) := ⟨_, rfl⟩
  have hb1 : Below w.heap.size w w1 := by rw [hw1]; exact (Below.refl _ _).alloc (Nat.le_refl _) _
  have hs1 : w1.heap.size = w.heap.size + 1 := by rw [hw1]; simp
  have hr1 : w1.heap[w.heap.size]? = some (.cells #[.bool false, .slice none 0 0, .int .i64 0, .int .i64 0] 26 (0, 0)) := by rw [hw1]; exact heap_alloc_new w _
  have hO := open_any _ bs w1 (h.below hb1)
  have HB1 := Lib.hid hb1
  have HR1 := Lib.hid hr1
  have HS1 := Lib.hid hs1
  clear h hb1 hr1 hs1
  go_enter Tryd.func18, Tryd.ntmps18
  go_wp2_with fail
  rw [← hw1]
  clear hw1
  refine hO.mono ?_
  rintro e w2 ⟨a, cap, bs1, rfl, hR2, hb2⟩
  have hz1 : w.heap.size + 1 = w1.heap.size := HS1.out.symm
  have HB2 := Lib.hid (HB1.out.trans (hb2.mono HB1.out.size))
  have HR2 := Lib.hid ((hb2.block _ (Array.getElem?_eq_some_iff.1 HR1.out).1).trans HR1.out)
  have hz2 := hb2.size
  have hG := desk_any 0 w2 _ a cap bs1 0 hR2 (by omega) (by omega) (by omega)
  have hK2 := hR2.lt
  clear hO hb2 hR2
  go_wp2_with fail
  refine hG.mono ?_
  rintro e w3 ⟨x, c, gs, a', c', rfl, ho, h64, hl5, hx0, hx4, hc0, hc4, hcl, ⟨p3, hR3, hp3⟩, hg3⟩
  have hz3 := hg3.size
  have HR3 := Lib.hid ((hg3.block _ (Array.getElem?_eq_some_iff.1 HR2.out).1 (by simp; omega)).trans HR2.out)
  have HB3 := Lib.hid (HB2.out.grown hg3 HB2.out.size (fun j hj => by cases hj; omega))
  have hD := deed_any x c a' gs.length c' w3 _ a cap bs1 p3 hR3 (by omega) hx0 hx4 hc0 hc4
  clear hG ho h64 hcl hR3 hg3
  go_wp2_with fail
  refine hD.mono ?_
  rintro e w4 ⟨b, ys, r, n, a4, c4, rfl, ho4, hy4, hr4, hn4, hl4, ⟨p4, hR4, hp4⟩, hg4⟩
  have hz4 := hg4.size
  have HR4 := Lib.hid ((hg4.block _ (Array.getElem?_eq_some_iff.1 HR3.out).1 (by simp; omega)).trans HR3.out)
  have HB4 := Lib.hid (HB3.out.grown hg4 HB3.out.size (fun j hj => by cases hj; omega))
  unfold dV
  obtain ⟨w5, hw5⟩ : ∃ z, z = w4.alloc (.cells #[.bool b, .slice a4 ys.length c4, .int .i64 r, .int .i64 n] 26) := ⟨_, rfl⟩
  have hb5 : Below w4.heap.size w4 w5 := by rw [hw5]; exact (Below.refl _ _).alloc (Nat.le_refl _) _
  have hrow : w5.heap[w4.heap.size]? = some (.cells #[.bool b, .slice a4 ys.length c4, .int .i64 r, .int .i64 n] 26 (0, 0)) := by rw [hw5]; exact heap_alloc_new w4 _
  have HR5 := Lib.hid ((hb5.block _ (Array.getElem?_eq_some_iff.1 HR4.out).1).trans HR4.out)
  have HB5 := Lib.hid (HB4.out.trans (hb5.mono HB4.out.size))
  have HO5 := Lib.hid (OwnI.below ho4 hb5)
  have HY := Lib.hid hy4
  have hq := odd_any 9 w5 _ a cap bs1 p4 (hR4.below hb5) (by omega) (by unfold In64; omega)
  have HROW := Lib.hid hrow
  obtain ⟨D, hD4⟩ : ∃ z, z = w4.heap.size := ⟨_, rfl⟩
  clear hD ho4 hy4 hr4 hn4 hR4 hg4 hb5 hrow
  go_upto_region 3 with fail
  rw [← hw5]
  clear hw5
  go_wp2_with fail
  refine hq.mono ?_
  rintro e w6 ⟨o, rfl, _, hg6⟩
  have hz6 := hg6.size
  have hDK : w1.heap.size < w4.heap.size := by omega
  have HROW6 := Lib.hid ((hg6.block _ (Array.getElem?_eq_some_iff.1 HROW.out).1 (by simp; omega)).trans HROW.out)
  have HR6 := Lib.hid ((hg6.block _ (Array.getElem?_eq_some_iff.1 HR5.out).1 (by simp; omega)).trans HR5.out)
  have HB6 := Lib.hid (HB5.out.grown hg6 HB5.out.size (fun j hj => by cases hj; omega))
  have HO6 := Lib.hid (show OwnI w.heap.size w6 _ _ from ((HO5.out).keep (Above.of_grown hg6 (by omega))).mono (by omega))
  obtain ⟨x0, x1, x2, x3⟩ := deed_cells HROW6.out
  have xf : ∀ j, w6.frozen? ⟨w4.heap.size, j, none⟩ = false := fun j => frozen_of_row _ _ j _ _ HROW6.out
  obtain ⟨z0, z1, z2, z3, zf⟩ := box_zero HR6.out
  have hne : ¬ (w.heap.size = w4.heap.size) := by omega
  have hne' : ¬ (w4.heap.size = w.heap.size) := by omega
  clear hq hg6
  cases o
  · have HF := Lib.hid (dt_fin (b := b) (r := r) (n := n) HR6.out HO6.out HY.out hl4 HB6.out)
    go_wp2
    ((try simp only [Exit.inBlock, Exit.then]); refine bodyPost_ret (results_cell_row rfl _ _ w.heap.size _ _ (0, 0) _ rfl HF.out.2 Tryd.underlying26 rfl (by kernel_rfl)) rfl ?_)
    exact HF.out.1
  · have hset := heap_setCell_same _ _ 2 _ _ (.int .i64 10) HROW6.out
    have HF := Lib.hid (dt_fin (b := b) (r := 10) (n := n) (wi := w6.setCell ⟨w4.heap.size, 2, none⟩ (.int .i64 10)) (by rw [heap_setCell_other _ _ _ _ (by simp; omega)]; exact HR6.out) (HO6.out.otherR HROW6.out (by decide)) HY.out hl4 (HB6.out.setCell (p := ⟨w4.heap.size, 2, none⟩) (by simp; omega) _))
    go_wp2
    ((try simp only [Exit.inBlock, Exit.then]); refine bodyPost_ret (results_cell_row rfl _ _ w.heap.size _ _ (0, 0) _ rfl HF.out.2 Tryd.underlying26 rfl (by kernel_rfl)) rfl ?_)
    exact HF.out.1

end Go.Proofs.YtjecolbodelniaaDoor
