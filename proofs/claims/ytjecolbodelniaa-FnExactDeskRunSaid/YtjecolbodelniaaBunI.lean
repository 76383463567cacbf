/- The walk of FnExactDeskNew. -/
import Derived.Test.YtjecolbodelniaaBunH
import Derived.Deep.RegionWith
import Derived.Test.YtjecolbodelniaaBunE
/- The walk of FnExactDeskNew. -/
namespace Go.Proofs.Ytjecolbodelniaa
open Go.RowKit Go.Shelf
set_option linter.unusedVariables false
set_option maxRecDepth 100000

/-- The three cells of a desk that lies in a block. -/
def DeskAt (w : World) (g : Nat) (p c : Int) (v : Value) : Prop := w.heap[g]? = some (.cells #[.int .i64 p, .int .i64 c, v] 25 (0, 0))
theorem DeskAt.new (w : World) (p c : Int) (v : Value) : DeskAt (w.alloc (.cells #[.int .i64 p, .int .i64 c, v] 25)) w.heap.size p c v := heap_alloc_new w _
theorem DeskAt.lt {w : World} {g : Nat} {p c : Int} {v : Value} (h : DeskAt w g p c v) : g < w.heap.size := (Array.getElem?_eq_some_iff.1 h).1
theorem DeskAt.below {w w' : World} {g : Nat} {p c : Int} {v : Value} (h : DeskAt w g p c v) (hb : Below w.heap.size w w') : DeskAt w' g p c v := by
  unfold DeskAt at h ⊢
  rw [hb.block g (Array.getElem?_eq_some_iff.1 h).1]; exact h
theorem DeskAt.cells {w : World} {g : Nat} {p c : Int} {v : Value} (h : DeskAt w g p c v) : w.cell? ⟨g, 0, none⟩ = some (.int .i64 p) ∧ w.cell? ⟨g, 1, none⟩ = some (.int .i64 c) ∧ w.cell? ⟨g, 2, none⟩ = some v := by
  refine ⟨?_, ?_, ?_⟩ <;> rw [cell_of_row _ _ _ _ _ _ h] <;> simp

end Go.Proofs.Ytjecolbodelniaa

/- The walk of FnExactDeskOk. -/
namespace Go.Proofs.Ytjecolbodelniaa
open Go.RowKit Go.Shelf
set_option linter.unusedVariables false
set_option maxRecDepth 100000

theorem GL.in64 {B : Nat} {w : World} {v : Value} {gs : List Gs} (h : GL B w v gs) : In64G gs := by
  obtain ⟨a, cap, V, _, _, _, _, hV⟩ := h
  intro x hx y hy
  obtain ⟨i, hi, rfl⟩ := List.getElem_of_mem hx
  exact (hV i hi).2 y hy
theorem szG_bound {gs : List Gs} {l : Int} (h : 0 ≤ szSS (gs.map Gs.code) l) (hl : 0 ≤ l) (hl2 : l ≤ 1048576) : gs.length ≤ 2000000 ∧ ∀ g ∈ gs, g.code.length ≤ 1099511627776 := by
  have hb := szSS_bound h hl
  rw [List.length_map] at hb
  refine ⟨by omega, fun g hg => ?_⟩
  have := tot_mem (List.mem_map_of_mem (f := Gs.code) hg)
  omega
theorem below_drew1 (w : World) : Below w.heap.size w w.drew := (show Drawn w (w.drewN 1) from ⟨1, rfl⟩).below
theorem Below.drew' {n : Nat} {w w' : World} (h : Below n w w') : Below n w w'.drew := below_drewN h 1
theorem below_drew2 (w : World) : Below w.heap.size w w.drew.drew := Below.drew' (below_drew1 w)
theorem GL.drew {B : Nat} {w : World} {v : Value} {gs : List Gs} (h : GL B w v gs) : GL B w.drew v gs := h.below (below_drew1 w)

end Go.Proofs.Ytjecolbodelniaa

/- The walk of FnExactWorstLot. -/
namespace Go.Proofs.Ytjecolbodelniaa
open Go.RowKit Go.Shelf
set_option linter.unusedVariables false
set_option maxRecDepth 100000

theorem toGuessS_gl {B : Nat} {v : Value} {gs : List Gs} {w : World} (h : GL B w v gs) (hs : 0 ≤ szSS (gs.map Gs.code) 1048576) :
    Calls Try.prog 52 #[v] w fun e w' => ∃ a cap, e = .returned (.slice a gs.length cap) ∧ OwnG w.heap.size w' (.slice a gs.length cap) gs ∧ GL w.heap.size w' (.slice a gs.length cap) gs ∧ Below w.heap.size w w' := by
  have hz := szG_bound hs (by omega) (by omega)
  refine (toGuessS_any v gs w h hz.1 hz.2).mono ?_
  rintro e w' ⟨a, cap, rfl, ho, hb⟩
  exact ⟨a, cap, rfl, ho, ho.toGL h.in64, hb⟩

end Go.Proofs.Ytjecolbodelniaa

/- The walk of FnExactNextGuess. -/
namespace Go.Proofs.Ytjecolbodelniaa
open Go.RowKit Go.Shelf
set_option linter.unusedVariables false
set_option maxRecDepth 100000

theorem ownI_block {B : Nat} {w w' : World} {v : Value} {xs : List Int} (h : OwnI B w v xs) (hk : ∀ j, v.ownBlock = some j → w'.heap[j]? = w.heap[j]?) : OwnI B w' v xs := by
  refine ⟨h.1, ?_⟩
  rcases h.2 with h2 | ⟨g, cap, cur, rfl, hb, hg, r⟩
  · exact .inl h2
  · exact .inr ⟨g, cap, cur, rfl, hb, by rw [hk g rfl]; exact hg, r⟩
theorem ownI_lt {B : Nat} {w : World} {v : Value} {xs : List Int} (h : OwnI B w v xs) : ∀ j, v.ownBlock = some j → B ≤ j ∧ j < w.heap.size := fun j hj => World.ownsRow.lt h j hj
theorem totG_eq : ∀ gs : List Gs, totG gs = tot (gs.map Gs.code) + 2 * gs.length
  | [] => rfl
  | g :: gs => by
    have := totG_eq gs
    simp only [totG, List.map_cons, List.length_cons, tot, List.sum_cons] at this ⊢
    omega
theorem totG_bound {gs : List Gs} (hs : 0 ≤ szSS (gs.map Gs.code) 1048576) : (totG gs : Int) ≤ 4000000 := by
  have hb := szSS_bound hs (by omega)
  rw [List.length_map] at hb
  have := totG_eq gs
  omega
theorem next_small (p c : Int) (gs : List Gs) : (nextL (fitL p c gs)).length ≤ 3 ∧ ∀ y ∈ nextL (fitL p c gs), In64 y := by
  by_cases h : 0 < (fitL p c gs).length
  · have hc := fit_codes _ (nextL_mem h)
    exact ⟨by have h1 := hc.2.1; have h2 := hc.1.1; omega, code_in64 hc⟩
  · have e : fitL p c gs = [] := List.length_eq_zero_iff.1 (by omega)
    rw [e]
    exact ⟨by simp [nextL, bestK], by simp [nextL, bestK]⟩

end Go.Proofs.Ytjecolbodelniaa
