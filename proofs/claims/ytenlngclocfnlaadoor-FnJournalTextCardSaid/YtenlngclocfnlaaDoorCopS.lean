/- The reference's l15Copy. -/
import Derived.Test.YtenlngclocfnlaaDoorBunG
import Derived.Test.YtenlngclocfnlaaDoorBunH
import Derived.Test.YtenlngclocfnlaaDoorDrawDesk
import Derived.Test.YtenlngclocfnlaaDoorHeldZ
namespace Go.Proofs.YtenlngclocfnlaaDoor
open Go.RowKit
set_option linter.unusedVariables false
set_option maxRecDepth 100000

theorem Ints.drewAlloc {B : Nat} {w : World} {v : Value} {xs : List Int} (h : Ints B w v xs) (o : Obj) : Ints B (w.drew.alloc o) v xs :=
  (show Ints B w.drew v xs from h).below ((Below.refl _ _).alloc (Nat.le_refl _) _)

theorem OwnI.mono2 {B B' : Nat} {w : World} {v : Value} {xs : List Int} (h : OwnI B w v xs) (hB : B' ≤ B) : OwnI B' w v xs := owns_mono h hB

/-- A desk of one's own in block D so far, k guesses of gs put behind. -/
def CopW (w : World) (R X : Nat) (xs : Array Value) (D : Nat) (p c : Int) (gs : List Gs) (ao : Option Addr) (k co : Nat) (wi : World) : Prop :=
  wi.heap[R]? = some (.cells #[.int .i64 0, .int .i64 0, .slice none 0 0] 61 (0, 0)) ∧ wi.heap[X]? = some (.cells xs 61 (0, 0)) ∧
    wi.heap[D]? = some (.cells #[.int .i64 p, .int .i64 c, .slice ao k co] 61 (0, 0)) ∧ OwnG w.heap.size wi (.slice ao k co) (gs.take k) ∧ k ≤ gs.length ∧ Below w.heap.size w wi ∧ R ≠ D ∧ X ≠ D ∧ w.heap.size ≤ D ∧ w.heap.size ≤ R

theorem CopW.below {w : World} {R X : Nat} {xs : Array Value} {D : Nat} {p c : Int} {gs : List Gs} {ao : Option Addr} {k co : Nat} {wi wj : World} (h : CopW w R X xs D p c gs ao k co wi) (hb : Below wi.heap.size wi wj) : CopW w R X xs D p c gs ao k co wj := by
  obtain ⟨h1, h2, h3, h4, h5, h6, h7⟩ := h
  exact ⟨(hb.block _ (Array.getElem?_eq_some_iff.1 h1).1).trans h1, (hb.block _ (Array.getElem?_eq_some_iff.1 h2).1).trans h2, (hb.block _ (Array.getElem?_eq_some_iff.1 h3).1).trans h3, h4.below hb, h5, h6.trans (hb.mono h6.size), h7⟩

/-- The next guess is put behind. -/
theorem CopW.push {w : World} {R X : Nat} {xs : Array Value} {D : Nat} {p c : Int} {gs : List Gs} {ao : Option Addr} {k co : Nat} {wi w7 : World} (h : CopW w R X xs D p c gs ao k co wi) (hk : k < gs.length) {a7 : Option Addr} {c7 : Nat}
    (ho : OwnG w.heap.size w7 (.slice a7 (k + 1) c7) (gs.take k ++ [gs[k]])) (hg : wi.grownBy w7 (Value.slice ao k co).ownBlock) :
    CopW w R X xs D p c gs a7 (k + 1) c7 (w7.setCell ⟨D, 2, none⟩ (.slice a7 (k + 1) c7)) ∧ w7.heap[D]? = some (.cells #[.int .i64 p, .int .i64 c, .slice ao k co] 61 (0, 0)) := by
  obtain ⟨h1, h2, h3, h4, h5, h6, h7, h8, h9, h10⟩ := h
  obtain ⟨ts, t1, _⟩ := h4
  have e1 := own_other t1 h1 (by decide)
  have e2 := own_other t1 h2 (by decide)
  have e3 := own_other t1 h3 (by decide)
  have far : ∀ {j : Nat} {o : Obj}, wi.heap[j]? = some o → ((Value.slice ao k co).ownBlock = none ∨ (Value.slice ao k co).ownBlock ≠ some j) → w7.heap[j]? = some o := by
    intro j o hj hne
    rw [hg.block j (Array.getElem?_eq_some_iff.1 hj).1 (fun e => by rcases hne with q | q; (rw [q] at e; cases e); exact q e.symm)]
    exact hj
  have hD := far h3 e3
  refine ⟨⟨?_, ?_, heap_setCell_same _ _ 2 _ _ _ hD, ?_, by omega, ?_, h7, h8, h9, h10⟩, hD⟩
  · rw [heap_setCell_other _ _ _ _ (by simpa using h7)]; exact far h1 e1
  · rw [heap_setCell_other _ _ _ _ (by simpa using h8)]; exact far h2 e2
  · rw [List.take_succ_eq_append_getElem hk]
    exact ho.other hD
  · refine (h6.grown hg h6.size (fun j hj => (World.ownsRow.lt t1 j hj).1)).setCell (p := ⟨D, 2, none⟩) h9 _

theorem CopW.facts {w : World} {R X : Nat} {xs : Array Value} {D : Nat} {p c : Int} {gs : List Gs} {ao : Option Addr} {k co : Nat} {wi : World} (h : CopW w R X xs D p c gs ao k co wi) :
    wi.cell? ⟨D, 0, none⟩ = some (.int .i64 p) ∧ wi.cell? ⟨D, 1, none⟩ = some (.int .i64 c) ∧ wi.cell? ⟨D, 2, none⟩ = some (.slice ao k co) ∧ (∀ j, wi.cell? ⟨X, j, none⟩ = xs[j]?) ∧ D < wi.heap.size ∧ X < wi.heap.size ∧ R < wi.heap.size := by
  obtain ⟨h1, h2, h3, _⟩ := h
  refine ⟨?_, ?_, ?_, fun j => ?_, (Array.getElem?_eq_some_iff.1 h3).1, (Array.getElem?_eq_some_iff.1 h2).1, (Array.getElem?_eq_some_iff.1 h1).1⟩
  · rw [cell_of_row _ _ _ _ _ _ h3]; simp
  · rw [cell_of_row _ _ _ _ _ _ h3]; simp
  · rw [cell_of_row _ _ _ _ _ _ h3]; simp
  · rw [cell_of_row _ _ _ _ _ _ h2]

/-- The desk is whole: it is handed back by its copy in block R. -/
theorem CopW.done {w : World} {R X : Nat} {xs : Array Value} {D : Nat} {p c : Int} {gs : List Gs} {ao : Option Addr} {co : Nat} {wi : World} (h : CopW w R X xs D p c gs ao gs.length co wi) :
    DeskOut p c gs w (.returned (dkV p c (.slice ao gs.length co))) (((wi.setCell ⟨R, 0, none⟩ (.int .i64 p)).setCell ⟨R, 1, none⟩ (.int .i64 c)).setCell ⟨R, 2, none⟩ (.slice ao gs.length co)) ∧
      (((wi.setCell ⟨R, 0, none⟩ (.int .i64 p)).setCell ⟨R, 1, none⟩ (.int .i64 c)).setCell ⟨R, 2, none⟩ (.slice ao gs.length co)).heap[R]? = some (.cells #[.int .i64 p, .int .i64 c, .slice ao gs.length co] 61 (0, 0)) := by
  obtain ⟨h1, h2, h3, h4, h5, h6, h7, h8, h9, h10⟩ := h
  rw [List.take_length] at h4
  have q1 := heap_setCell_same _ _ 0 _ _ (.int .i64 p) h1
  have q2 := heap_setCell_same _ _ 1 _ _ (.int .i64 c) q1
  have q3 := heap_setCell_same _ _ 2 _ _ (.slice ao gs.length co) q2
  exact ⟨⟨ao, co, rfl, ((h4.other h1).other q1).other q2, ((h6.setCell (p := ⟨R, 0, none⟩) h10 _).setCell (p := ⟨R, 1, none⟩) h10 _).setCell (p := ⟨R, 2, none⟩) h10 _⟩, q3⟩
theorem CopW.zero {w : World} {R X : Nat} {xs : Array Value} {D : Nat} {p c : Int} {gs : List Gs} {ao : Option Addr} {k co : Nat} {wi : World} (h : CopW w R X xs D p c gs ao k co wi) :
    wi.cell? ⟨R, 0, none⟩ = some (.int .i64 0) ∧ wi.cell? ⟨R, 1, none⟩ = some (.int .i64 0) ∧ wi.cell? ⟨R, 2, none⟩ = some (.slice none 0 0) ∧ ∀ j, wi.frozen? ⟨R, j, none⟩ = false := by
  have h1 := h.1
  refine ⟨?_, ?_, ?_, fun j => frozen_of_row _ _ j _ _ h1⟩ <;> rw [cell_of_row _ _ _ _ _ _ h1] <;> simp

end Go.Proofs.YtenlngclocfnlaaDoor
