/- The program's copies of guesses and desks. -/
import Derived.Test.YtenlngclocfnlaaDoorCopS
import Derived.Test.YtenlngclocfnlaaDoorBunD
import Derived.Test.YtenlngclocfnlaaDoorBunF
namespace Go.Proofs.YtenlngclocfnlaaDoor
open Go.RowKit
set_option linter.unusedVariables false
set_option maxRecDepth 100000

/-- nil, or a slice that lies somewhere. -/
def NilOr (v : Value) : Prop := v = .slice none 0 0 ∨ ∃ ad n c, v = .slice (some ad) n c
theorem OwnI.nilOr {B : Nat} {w : World} {v : Value} {xs : List Int} (h : OwnI B w v xs) : NilOr v := by
  rcases h.2 with ⟨rfl, _⟩ | ⟨g, cap, cur, rfl, _⟩
  · exact .inl rfl
  · exact .inr ⟨_, _, _, rfl⟩

/-- Guesses that may be read; the capacity that the slice shows may be less than the block's. -/
def RG (B : Nat) (w : World) (v : Value) (gs : List Gs) : Prop :=
  ∃ a cap cap2, v = .slice a gs.length cap2 ∧ gs.length ≤ cap2 ∧ cap2 ≤ 9223372036854775807 ∧ OwnG B w (.slice a gs.length cap) gs ∧ In64G gs
theorem OwnG.rg {B : Nat} {w : World} {v : Value} {gs : List Gs} (h : OwnG B w v gs) (h64 : In64G gs) : RG B w v gs := by
  obtain ⟨a, cap, rfl, h1, h2⟩ := h.shape
  exact ⟨a, cap, cap, rfl, h1, h2, h, h64⟩
theorem RG.keep {B : Nat} {w w' : World} {v : Value} {gs : List Gs} (h : RG B w v gs) (hs : Above B w w') : RG B w' v gs := by
  obtain ⟨a, cap, cap2, h1, h2, h3, h4, h5⟩ := h
  exact ⟨a, cap, cap2, h1, h2, h3, h4.keep hs, h5⟩
theorem RG.below {B : Nat} {w w' : World} {v : Value} {gs : List Gs} (h : RG B w v gs) (hb : Below w.heap.size w w') : RG B w' v gs := h.keep (.of_below hb)
theorem RG.mono {B B' : Nat} {w : World} {v : Value} {gs : List Gs} (h : RG B w v gs) (hB : B' ≤ B) : RG B' w v gs := by
  obtain ⟨a, cap, cap2, h1, h2, h3, h4, h5⟩ := h
  exact ⟨a, cap, cap2, h1, h2, h3, h4.mono hB, h5⟩
theorem RG.shape {B : Nat} {w : World} {v : Value} {gs : List Gs} (h : RG B w v gs) : ∃ a cap, v = .slice a gs.length cap := by
  obtain ⟨a, cap, cap2, h1, _⟩ := h
  exact ⟨a, cap2, h1⟩
theorem RG.toGL {B : Nat} {w : World} {v : Value} {gs : List Gs} (h : RG B w v gs) : GL B w v gs := by
  obtain ⟨a, cap, cap2, rfl, h2, h3, h4, h5⟩ := h
  obtain ⟨a', cap', V, e, q1, q2, q3, q4⟩ := h4.toGL h5
  injection e with e _ _
  subst e
  exact ⟨a, cap2, V, rfl, h2, h3, q3, q4⟩
theorem RG.i64 {B : Nat} {w : World} {v : Value} {gs : List Gs} (h : RG B w v gs) : In64G gs := by
  obtain ⟨_, _, _, _, _, _, _, h5⟩ := h
  exact h5
theorem RG.opened {B : Nat} {w : World} {v : Value} {gs : List Gs} (h : RG B w v gs) (hp : 0 < gs.length) :
    ∃ g cap, v = .slice (some ⟨g, 0, none⟩) gs.length cap ∧ B ≤ g ∧ g < w.heap.size ∧
      ∀ k (h : k < gs.length), ∃ u, w.cell? ⟨g, k * 3, none⟩ = some u ∧ OwnI B w u gs[k].code ∧ w.cell? ⟨g, k * 3 + 1, none⟩ = some (.int .i64 gs[k].right) ∧ w.cell? ⟨g, k * 3 + 2, none⟩ = some (.int .i64 gs[k].near) := by
  obtain ⟨a, cap, cap2, rfl, h2, h3, h4, h5⟩ := h
  obtain ⟨g, cap', e, q1, q2, _, _, _, q3⟩ := h4.opened hp
  injection e with e _ _
  subst e
  exact ⟨g, cap2, rfl, q1, q2, q3⟩

end Go.Proofs.YtenlngclocfnlaaDoor
