/- DrawDeskDo. -/
import Derived.Test.YtenlngclocfnlaaDoorDrawDeed
namespace Go.Proofs.YtenlngclocfnlaaDoor
open Go.RowKit
set_option linter.unusedVariables false
set_option maxRecDepth 100000

theorem results_cell_cell {P : Program} {fn : Func} {p q : Tmp} {ty ty2 : TypeId} (h : fn.results = #[.cell p ty, .cell q ty2]) (tmps : Array Value) (w : World) (g : Nat) (t : TypeId) (cs : Array Value) (fr : Nat × Nat) (d : TypeDesc) (g2 : Nat) (t2 : TypeId) (cs2 : Array Value) (fr2 : Nat × Nat) (d2 : TypeDesc)
    (hp : tmps.getD p undef = .pointer (some ⟨g, 0, none⟩)) (hg : w.heap[g]? = some (.cells cs t fr))
    (hu : P.underlying ty = some d) (hd : (match d with | .struct _ | .array _ _ => true | _ => false) = true) (hi : (P.info? ty).map (·.size) = some cs.size)
    (hp2 : tmps.getD q undef = .pointer (some ⟨g2, 0, none⟩)) (hg2 : w.heap[g2]? = some (.cells cs2 t2 fr2))
    (hu2 : P.underlying ty2 = some d2) (hd2 : (match d2 with | .struct _ | .array _ _ => true | _ => false) = true) (hi2 : (P.info? ty2).map (·.size) = some cs2.size) :
    (results fn tmps).run P w = .ok (.tuple #[.agg cs, .agg cs2]) w := by
  have hp' : tmps[p]?.getD undef = .pointer (some ⟨g, 0, none⟩) := by simpa using hp
  have hq' : tmps[q]?.getD undef = .pointer (some ⟨g2, 0, none⟩) := by simpa using hp2
  simp [results, h, hp', hq', asAddr, run_loadVar_row w g t ty cs fr d hg hu hd hi, run_loadVar_row w g2 t2 ty2 cs2 fr2 d2 hg2 hu2 hd2 hi2]

theorem zero_cellsD {w : World} {R : Nat} (h1 : w.heap[R]? = some (.cells #[.int .i64 0, .int .i64 0, .slice none 0 0] 61 (0, 0))) :
    w.cell? ⟨R, 0, none⟩ = some (.int .i64 0) ∧ w.cell? ⟨R, 1, none⟩ = some (.int .i64 0) ∧ w.cell? ⟨R, 2, none⟩ = some (.slice none 0 0) ∧ ∀ j, w.frozen? ⟨R, j, none⟩ = false := by
  refine ⟨?_, ?_, ?_, fun j => frozen_of_row _ _ j _ _ h1⟩ <;> rw [cell_of_row _ _ _ _ _ _ h1] <;> simp

/-- A drawn desk and a drawn deed. -/
def DoDrawn (w : World) (e : Ending) (w' : World) : Prop :=
  ∃ (x c : Int) (gs : List Gs) (a1 : Option Addr) (c1 : Nat) (b : Bool) (ys : List Int) (r n : Int) (a2 : Option Addr) (c2 : Nat), e = .returned (.tuple #[dkV x c (.slice a1 gs.length c1), dV b (.slice a2 ys.length c2) r n]) ∧
    OwnG w.heap.size w' (.slice a1 gs.length c1) gs ∧ In64G gs ∧ gs.length ≤ 5 ∧ (∀ g ∈ gs, g.code.length ≤ 10) ∧ OwnI w.heap.size w' (.slice a2 ys.length c2) ys ∧ (∀ y ∈ ys, In64 y) ∧ ys.length ≤ 10 ∧ Below w.heap.size w w'

def doW (w4 : World) (N : Nat) (x c : Int) (v : Value) (b : Bool) (u : Value) (r n : Int) : World :=
  ((((((w4.setCell ⟨N, 0, none⟩ (.int .i64 x)).setCell ⟨N, 1, none⟩ (.int .i64 c)).setCell ⟨N, 2, none⟩ v).setCell ⟨N + 1, 0, none⟩ (.bool b)).setCell ⟨N + 1, 1, none⟩ u).setCell ⟨N + 1, 2, none⟩ (.int .i64 r)).setCell ⟨N + 1, 3, none⟩ (.int .i64 n)
theorem OwnG.otherD {B D j : Nat} {w : World} {v z : Value} {gs : List Gs} {cs : Array Value} {t : TypeId} {fr : Nat × Nat} (h : OwnG B w v gs) (hD : w.heap[D]? = some (.cells cs t fr)) (h1 : 24 ≠ t) (h2 : 3 ≠ t) : OwnG B (w.setCell ⟨D, j, none⟩ z) v gs := by
  obtain ⟨ts, q1, q2, q3, q4⟩ := h
  have hs := grownBy_setCell w ⟨D, j, none⟩ z
  exact ⟨ts, World.ownsRow.kept q1 hs (own_other q1 hD h1), q2, fun i hi hi' => ⟨World.ownsRow.kept (q3 i hi hi').1 hs (own_other (q3 i hi hi').1 hD h2), (q3 i hi hi').2⟩, q4⟩
theorem do_fin {w w4 : World} {x c r n : Int} {b : Bool} {gs : List Gs} {ys : List Int} {a1 a2 : Option Addr} {c1 c2 : Nat} (hR : w4.heap[w.heap.size]? = some (.cells #[.int .i64 0, .int .i64 0, .slice none 0 0] 61 (0, 0)))
    (hQ : w4.heap[w.heap.size + 1]? = some (.cells #[.bool false, .slice none 0 0, .int .i64 0, .int .i64 0] 26 (0, 0))) (ho : OwnG w.heap.size w4 (.slice a1 gs.length c1) gs) (h64 : In64G gs) (hl : gs.length ≤ 5) (hcl : ∀ g ∈ gs, g.code.length ≤ 10)
    (hi : OwnI w.heap.size w4 (.slice a2 ys.length c2) ys) (hy : ∀ y ∈ ys, In64 y) (hyl : ys.length ≤ 10) (hb : Below w.heap.size w w4) :
    DoDrawn w (.returned (.tuple #[dkV x c (.slice a1 gs.length c1), dV b (.slice a2 ys.length c2) r n])) (doW w4 w.heap.size x c (.slice a1 gs.length c1) b (.slice a2 ys.length c2) r n) ∧
      (doW w4 w.heap.size x c (.slice a1 gs.length c1) b (.slice a2 ys.length c2) r n).heap[w.heap.size]? = some (.cells #[.int .i64 x, .int .i64 c, .slice a1 gs.length c1] 61 (0, 0)) ∧
      (doW w4 w.heap.size x c (.slice a1 gs.length c1) b (.slice a2 ys.length c2) r n).heap[w.heap.size + 1]? = some (.cells #[.bool b, .slice a2 ys.length c2, .int .i64 r, .int .i64 n] 26 (0, 0)) := by
  unfold doW
  have q1 := heap_setCell_same _ _ 0 _ _ (.int .i64 x) hR
  have q2 := heap_setCell_same _ _ 1 _ _ (.int .i64 c) q1
  have q3 := heap_setCell_same _ _ 2 _ _ (.slice a1 gs.length c1) q2
  have p3 : (((w4.setCell ⟨w.heap.size, 0, none⟩ (.int .i64 x)).setCell ⟨w.heap.size, 1, none⟩ (.int .i64 c)).setCell ⟨w.heap.size, 2, none⟩ (.slice a1 gs.length c1)).heap[w.heap.size + 1]? = some (.cells #[.bool false, .slice none 0 0, .int .i64 0, .int .i64 0] 26 (0, 0)) := by
    rw [heap_setCell_other _ _ _ _ (by simp), heap_setCell_other _ _ _ _ (by simp), heap_setCell_other _ _ _ _ (by simp)]; exact hQ
  have p4 := heap_setCell_same _ _ 0 _ _ (.bool b) p3
  have p5 := heap_setCell_same _ _ 1 _ _ (.slice a2 ys.length c2) p4
  have p6 := heap_setCell_same _ _ 2 _ _ (.int .i64 r) p5
  have p7 := heap_setCell_same _ _ 3 _ _ (.int .i64 n) p6
  refine ⟨⟨x, c, gs, a1, c1, b, ys, r, n, a2, c2, rfl, ?_, h64, hl, hcl, ?_, hy, hyl, ?_⟩, ?_, p7⟩
  · exact ((((((ho.otherD hR (by decide) (by decide)).otherD q1 (by decide) (by decide)).otherD q2 (by decide) (by decide)).otherD p3 (by decide) (by decide)).otherD p4 (by decide) (by decide)).otherD p5 (by decide) (by decide)).otherD p6 (by decide) (by decide)
  · exact ((((((hi.other hR (by decide)).other q1 (by decide)).other q2 (by decide)).other p3 (by decide)).other p4 (by decide)).other p5 (by decide)).other p6 (by decide)
  · exact ((((((hb.setCell (p := ⟨w.heap.size, 0, none⟩) (by simp) _).setCell (p := ⟨w.heap.size, 1, none⟩) (by simp) _).setCell (p := ⟨w.heap.size, 2, none⟩) (by simp) _).setCell (p := ⟨w.heap.size + 1, 0, none⟩) (by simp) _).setCell (p := ⟨w.heap.size + 1, 1, none⟩) (by simp) _).setCell (p := ⟨w.heap.size + 1, 2, none⟩) (by simp) _).setCell (p := ⟨w.heap.size + 1, 3, none⟩) (by simp) _
  · rw [heap_setCell_other _ _ _ _ (by simp), heap_setCell_other _ _ _ _ (by simp), heap_setCell_other _ _ _ _ (by simp), heap_setCell_other _ _ _ _ (by simp)]; exact q3

end Go.Proofs.YtenlngclocfnlaaDoor
