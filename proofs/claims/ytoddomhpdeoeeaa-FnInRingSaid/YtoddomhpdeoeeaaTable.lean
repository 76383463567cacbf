/- TableOk, of the program and of the reference, by one plain function. -/
import Derived.Test.YtoddomhpdeoeeaaFun
namespace Go.Proofs.Ytoddomhpdeoeeaa
open Go.RowKit Go.Shelf
set_option linter.unusedVariables false

def rowOk (m : Nat) (r : List Int) : Bool := decide (r.length = m) && allB r 0 2
def tableB (xss : List (List Int)) : Bool :=
  decide (1 ≤ xss.length ∧ xss.length ≤ 7) && (decide ((xss.headD []).length ≤ 5) && xss.all (rowOk (xss.headD []).length))

theorem Ints.shape {B : Nat} {w : World} {v : Value} {xs : List Int} (h : Ints B w v xs) : ∃ a cap, v = .slice a xs.length cap ∧ xs.length ≤ cap ∧ cap ≤ 9223372036854775807 := by
  obtain ⟨a, cap, h1, h2, h3, _⟩ := h.opened
  exact ⟨a, cap, h1, h2, h3⟩

/-! ### The reference -/
def rowGood (xss : List (List Int)) (r : List Int) : Prop := r.length = (xss.headD []).length ∧ r.length ≤ 5 ∧ allB r 0 2 = true

theorem tableB_of {xss : List (List Int)} (h : ∀ i (h : i < xss.length), rowGood xss xss[i]) : tableB xss = inB (xss.length : Int) 1 7 := by
  unfold tableB
  have e : decide (1 ≤ xss.length ∧ xss.length ≤ 7) = inB (xss.length : Int) 1 7 := by
    unfold inB; rw [Bool.eq_iff_iff]; simp; omega
  rw [e]
  have a : xss.all (rowOk (xss.headD []).length) = true := by
    rw [List.all_eq_true]
    intro r hr
    obtain ⟨i, hi, rfl⟩ := List.getElem_of_mem hr
    obtain ⟨h1, _, h3⟩ := h i hi
    unfold rowOk
    rw [decide_eq_true h1, h3]; rfl
  rw [a]
  cases xss with
  | nil => simp [inB]
  | cons x t =>
    have := (h 0 (by simp)).2.1
    simp at this
    simp [this]
theorem tableB_no {xss : List (List Int)} {k : Nat} (hk : k < xss.length) (h : ¬ rowGood xss xss[k]) : tableB xss = false := by
  unfold tableB
  by_cases h5 : (xss.headD []).length ≤ 5
  · have : xss.all (rowOk (xss.headD []).length) = false := by
      rw [List.all_eq_false]
      refine ⟨xss[k], List.getElem_mem _, ?_⟩
      intro hr
      unfold rowOk at hr
      rw [Bool.and_eq_true, decide_eq_true_eq] at hr
      exact h ⟨hr.1, by omega, hr.2⟩
    rw [this]; simp
  · rw [decide_eq_false h5]; simp

theorem good_step {xss : List (List Int)} {k : Nat} (hk : k < xss.length) (h : ∀ i (h : i < xss.length), i < k → rowGood xss xss[i]) (hg : rowGood xss xss[k]) : ∀ i (h : i < xss.length), i < k + 1 → rowGood xss xss[i] := by
  intro i hi hik
  by_cases e : i < k
  · exact h i hi e
  · have e2 : i = k := by omega
    subst e2; exact hg

theorem allB_upto {r : List Int} {lo hi : Int} (h : ∀ t (h : t < r.length), inB r[t] lo hi = true) : allB r lo hi = true := by
  unfold allB
  rw [List.all_eq_true]
  intro x hx
  obtain ⟨i, hi, rfl⟩ := List.getElem_of_mem hx
  exact h i hi
theorem allB_no {r : List Int} {lo hi : Int} {t : Nat} (ht : t < r.length) (h : inB r[t] lo hi = false) : allB r lo hi = false := by
  unfold allB
  rw [List.all_eq_false]
  exact ⟨r[t], List.getElem_mem _, by simp [h]⟩
theorem pre_step {r : List Int} {lo hi : Int} {t : Nat} (h : ∀ i (h : i < r.length), i < t → inB r[i] lo hi = true) (ht : t < r.length) (hp : inB r[t] lo hi = true) : ∀ i (h : i < r.length), i < t + 1 → inB r[i] lo hi = true := by
  intro i hi hik
  by_cases e : i < t
  · exact h i hi e
  · have e2 : i = t := by omega
    subst e2; exact hp

end Go.Proofs.Ytoddomhpdeoeeaa
