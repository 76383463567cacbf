/- The program's done: a desk behind a deed. -/
import Derived.Test.YtenlngclocfnlaaDoorCopI
import Derived.Test.YtenlngclocfnlaaDoorDoMath
namespace Go.Proofs.YtenlngclocfnlaaDoor
open Go.RowKit
set_option linter.unusedVariables false
set_option maxRecDepth 100000

/-- A desk of one's own, and whether something was done. -/
def DoOut (p c : Int) (gs : List Gs) (ok : Bool) (w : World) (e : Ending) (w' : World) : Prop :=
  ∃ a cap cap2, e = .returned (.tuple #[dkV p c (.slice a gs.length cap2), .bool ok]) ∧ gs.length ≤ cap2 ∧ cap2 ≤ 9223372036854775807 ∧ OwnG w.heap.size w' (.slice a gs.length cap) gs ∧ Below w.heap.size w w'

theorem In64G.snoc {gs : List Gs} {x : Gs} (h : In64G gs) (hx : ∀ y ∈ x.code, In64 y) : In64G (gs ++ [x]) := by
  intro g hg
  rcases List.mem_append.1 hg with q | q
  · exact h g q
  · rw [List.mem_singleton.1 q]; exact hx

theorem OwnG.caps {B : Nat} {w : World} {a : Option Addr} {n c : Nat} {gs : List Gs} (h : OwnG B w (.slice a n c) gs) : gs.length ≤ c ∧ c ≤ 9223372036854775807 := by
  obtain ⟨a', c', e, h1, h2⟩ := h.shape
  injection e with _ _ e
  subst e
  exact ⟨h1, h2⟩

/-- The desk is stored into the result's block. -/
theorem do_ret {w w4 : World} {R : Nat} {p c : Int} {gs : List Gs} {a4 : Option Addr} {c4 cap2 : Nat} (ok : Bool) (hR : w4.heap[R]? = some (.cells #[.int .i64 0, .int .i64 0, .slice none 0 0] 61 (0, 0))) (hRB : w.heap.size ≤ R)
    (ho : OwnG w.heap.size w4 (.slice a4 gs.length c4) gs) (hb : Below w.heap.size w w4) (h1 : gs.length ≤ cap2) (h2 : cap2 ≤ 9223372036854775807) :
    DoOut p c gs ok w (.returned (.tuple #[dkV p c (.slice a4 gs.length cap2), .bool ok])) (((w4.setCell ⟨R, 0, none⟩ (.int .i64 p)).setCell ⟨R, 1, none⟩ (.int .i64 c)).setCell ⟨R, 2, none⟩ (.slice a4 gs.length cap2)) ∧
      (((w4.setCell ⟨R, 0, none⟩ (.int .i64 p)).setCell ⟨R, 1, none⟩ (.int .i64 c)).setCell ⟨R, 2, none⟩ (.slice a4 gs.length cap2)).heap[R]? = some (.cells #[.int .i64 p, .int .i64 c, .slice a4 gs.length cap2] 61 (0, 0)) := by
  have q1 := heap_setCell_same _ _ 0 _ _ (.int .i64 p) hR
  have q2 := heap_setCell_same _ _ 1 _ _ (.int .i64 c) q1
  have q3 := heap_setCell_same _ _ 2 _ _ (.slice a4 gs.length cap2) q2
  exact ⟨⟨a4, c4, cap2, rfl, h1, h2, ((ho.other hR).other q1).other q2, ((hb.setCell (p := ⟨R, 0, none⟩) hRB _).setCell (p := ⟨R, 1, none⟩) hRB _).setCell (p := ⟨R, 2, none⟩) hRB _⟩, q3⟩
theorem zero_cells {w : World} {R : Nat} (h1 : w.heap[R]? = some (.cells #[.int .i64 0, .int .i64 0, .slice none 0 0] 61 (0, 0))) :
    w.cell? ⟨R, 0, none⟩ = some (.int .i64 0) ∧ w.cell? ⟨R, 1, none⟩ = some (.int .i64 0) ∧ w.cell? ⟨R, 2, none⟩ = some (.slice none 0 0) ∧ ∀ j, w.frozen? ⟨R, j, none⟩ = false := by
  refine ⟨?_, ?_, ?_, fun j => frozen_of_row _ _ j _ _ h1⟩ <;> rw [cell_of_row _ _ _ _ _ _ h1] <;> simp

end Go.Proofs.YtenlngclocfnlaaDoor
