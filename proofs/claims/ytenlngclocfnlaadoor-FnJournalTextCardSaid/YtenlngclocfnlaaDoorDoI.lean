/- The program's DeskDo. -/
import Derived.Test.YtenlngclocfnlaaDoorDone
namespace Go.Proofs.YtenlngclocfnlaaDoor
open Go.RowKit
set_option linter.unusedVariables false
set_option maxRecDepth 100000

/-- What DeskDo returns. -/
def DoRes (p c : Int) (gs : List Gs) (d : Dd) (w : World) (e : Ending) (w' : World) : Prop :=
  if deskB p c gs = true then DoOut p c (doneG p c gs d).1 (doneG p c gs d).2 w e w' else DoOut 0 0 [] false w e w'
theorem DoRes.yes {p c : Int} {gs : List Gs} {d : Dd} {w : World} {e : Ending} {w' : World} (h : deskB p c gs = true) (ho : DoOut p c (doneG p c gs d).1 (doneG p c gs d).2 w e w') : DoRes p c gs d w e w' := by
  unfold DoRes; rw [if_pos h]; exact ho
theorem DoRes.no {p c : Int} {gs : List Gs} {d : Dd} {w : World} {e : Ending} {w' : World} (h : deskB p c gs = false) (ho : DoOut 0 0 [] false w e w') : DoRes p c gs d w e w' := by
  unfold DoRes; rw [if_neg (by simp [h])]; exact ho
/-- A desk that was handed over is put into the result's block. -/
theorem DoOut.stored {p c : Int} {gs : List Gs} {ok : Bool} {w wi w4 : World} {R : Nat} {a : Option Addr} {cap cap2 : Nat} (hb : Below w.heap.size w wi) (hR : w4.heap[R]? = some (.cells #[.int .i64 0, .int .i64 0, .slice none 0 0] 61 (0, 0))) (hRB : w.heap.size ≤ R)
    (h1 : gs.length ≤ cap2) (h2 : cap2 ≤ 9223372036854775807) (ho : OwnG wi.heap.size w4 (.slice a gs.length cap) gs) (hb4 : Below wi.heap.size wi w4) :
    DoOut p c gs ok w (.returned (.tuple #[dkV p c (.slice a gs.length cap2), .bool ok])) (((w4.setCell ⟨R, 0, none⟩ (.int .i64 p)).setCell ⟨R, 1, none⟩ (.int .i64 c)).setCell ⟨R, 2, none⟩ (.slice a gs.length cap2)) ∧
      (((w4.setCell ⟨R, 0, none⟩ (.int .i64 p)).setCell ⟨R, 1, none⟩ (.int .i64 c)).setCell ⟨R, 2, none⟩ (.slice a gs.length cap2)).heap[R]? = some (.cells #[.int .i64 p, .int .i64 c, .slice a gs.length cap2] 61 (0, 0)) :=
  do_ret ok hR hRB (ho.mono hb.size) (hb.trans (hb4.mono hb.size)) h1 h2

end Go.Proofs.YtenlngclocfnlaaDoor
