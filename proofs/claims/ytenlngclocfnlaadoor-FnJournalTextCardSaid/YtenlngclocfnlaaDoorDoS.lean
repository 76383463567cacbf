/- The reference's DeskDo. Printed by wip/tools/gen_dos.py. -/
import Derived.Test.YtenlngclocfnlaaDoorDoI
namespace Go.Proofs.YtenlngclocfnlaaDoor
open Go.RowKit
set_option linter.unusedVariables false
set_option maxRecDepth 100000

theorem GL.i64 {B : Nat} {w : World} {v : Value} {gs : List Gs} (h : GL B w v gs) : In64G gs := by
  obtain ⟨_, _, _, _, _, _, _, h5⟩ := h
  intro g hg
  obtain ⟨i, hi, rfl⟩ := List.getElem_of_mem hg
  exact (h5 i hi).2

theorem do_ret2 {w w4 : World} {R : Nat} {p c : Int} {gs : List Gs} {a4 : Option Addr} {c4 cap2 : Nat} (ok : Bool) (o : Obj) (hR : w4.heap[R]? = some (.cells #[.int .i64 0, .int .i64 0, .slice none 0 0] 61 (0, 0))) (hRB : w.heap.size ≤ R)
    (ho : OwnG w.heap.size w4 (.slice a4 gs.length c4) gs) (hb : Below w.heap.size w w4) (h1 : gs.length ≤ cap2) (h2 : cap2 ≤ 9223372036854775807) :
    DoOut p c gs ok w (.returned (.tuple #[dkV p c (.slice a4 gs.length cap2), .bool ok])) ((((w4.setCell ⟨R, 0, none⟩ (.int .i64 p)).setCell ⟨R, 1, none⟩ (.int .i64 c)).setCell ⟨R, 2, none⟩ (.slice a4 gs.length cap2)).alloc o) ∧
      ((((w4.setCell ⟨R, 0, none⟩ (.int .i64 p)).setCell ⟨R, 1, none⟩ (.int .i64 c)).setCell ⟨R, 2, none⟩ (.slice a4 gs.length cap2)).alloc o).heap[R]? = some (.cells #[.int .i64 p, .int .i64 c, .slice a4 gs.length cap2] 61 (0, 0)) := by
  obtain ⟨⟨a, cap, cap3, e, q1, q2, q3, q4⟩, q5⟩ := do_ret (p := p) (c := c) ok hR hRB ho hb h1 h2
  exact ⟨⟨a, cap, cap3, e, q1, q2, q3.alloc o, q4.alloc q4.size o⟩, (Below.heap_alloc _ o R (Array.getElem?_eq_some_iff.1 q5).1).trans q5⟩

end Go.Proofs.YtenlngclocfnlaaDoor
