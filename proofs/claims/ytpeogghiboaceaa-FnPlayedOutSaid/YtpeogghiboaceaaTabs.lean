/- The drawn table of a code. -/
import Derived.Test.YtpeogghiboaceaaDrawTable
import Derived.Test.YtpeogghiboaceaaLot
import Derived.Test.YtpeogghiboaceaaAlive
namespace Go.Proofs.Ytpeogghiboaceaa
open Go.RowKit
set_option linter.unusedVariables false

/-- A call's result is a table that lies in new memory. -/
def TabOut (w : World) (e : Ending) (w' : World) : Prop :=
  ∃ xss a cap, e = .returned (.slice a xss.length cap) ∧ Rows2 w.heap.size w' (.slice a xss.length cap) xss ∧ Below w.heap.size w w'

theorem below_of_grown {w w1 w2 : World} {K : Nat} (h1 : Below w.heap.size w w1) (h2 : w1.grownBy w2 (some K)) (hK : w.heap.size ≤ K) : Below w.heap.size w w2 :=
  h1.trans ⟨h2.os, h2.tape, h2.output, by have := h1.size; have := h2.size; omega, fun b hb => h2.block b (by have := h1.size; omega) (by simp; omega)⟩

/-- Of a row of rows the first k. -/
theorem Rows2.upto {B : Nat} {w : World} {a : Option Addr} {n cap : Nat} {xss : List (List Int)} (h : Rows2 B w (.slice a n cap) xss) {k : Nat} (hk : k ≤ xss.length) : Rows2 B w (.slice a k cap) (xss.take k) := by
  obtain ⟨vs, h1, h2, h3⟩ := h
  refine ⟨vs.take k, h1.take (by omega), by simp [h2], fun i hi hi' => ?_⟩
  rw [List.getElem_take, List.getElem_take]
  exact h3 i _ _

theorem rows_one_empty (W : World) (N : Nat) (hN : W.heap.size = N) : Rows2 0 ((W.alloc (.cells #[] 3)).alloc (.cells #[.slice (some ⟨N, 0, none⟩) 0 0] 24)) (.slice (some ⟨N + 1, 0, none⟩) 1 1) [[]] := by
  refine ⟨[.slice (some ⟨N, 0, none⟩) 0 0], ⟨some ⟨N + 1, 0, none⟩, 1, rfl, by simp, by simp, fun _ => ⟨N + 1, 0, rfl, Nat.zero_le _, fun i hi => ?_⟩⟩, rfl, fun i hi hi' => ?_⟩
  · have : i = 0 := by simpa using hi
    subst this
    exact cell_new _ _ _ _ (by simp [hN])
  · have : i = 0 := by simpa using hi
    subst this
    exact ⟨⟨some ⟨N, 0, none⟩, 0, rfl, by simp, by simp, fun hp => by simp at hp⟩, by simp⟩

theorem tableB_take {xss : List (List Int)} (h : tableB xss = true) {k : Nat} (h1 : 1 ≤ k) (h2 : k ≤ xss.length) : tableB (xss.take k) = true := by
  unfold tableB at h ⊢
  simp only [Bool.and_eq_true, List.all_eq_true, decide_eq_true_eq] at h ⊢
  have e : (xss.take k).headD [] = xss.headD [] := by
    cases xss with
    | nil => simp
    | cons x t => cases k with
      | zero => omega
      | succ k => rfl
  rw [e]
  refine ⟨by rw [List.length_take]; omega, h.2.1, fun x hx => h.2.2 x (List.mem_of_mem_take hx)⟩

end Go.Proofs.Ytpeogghiboaceaa
