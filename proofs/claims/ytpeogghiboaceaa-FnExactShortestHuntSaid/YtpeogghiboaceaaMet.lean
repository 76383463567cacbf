/- MetOn, of the program and of the reference. -/
import Derived.Test.YtpeogghiboaceaaLeft
namespace Go.Proofs.Ytpeogghiboaceaa
open Go.RowKit Go.Shelf
set_option linter.unusedVariables false

/-- Whether the box of day k is beside the box of the day before. -/
def hop (xss : List (List Int)) (ys : List Int) (k : Nat) : Int := cell2 xss (ys.getD (k - 1) 0).toNat (ys.getD k 0).toNat
def hopsB (xss : List (List Int)) (ys : List Int) : Bool := (List.range ys.length).all fun k => k == 0 || hop xss ys k != 0
def metB (xss : List (List Int)) (xs ys : List Int) : Bool := daysB xss xs && daysB xss ys && hopsB xss ys
/-- The first day from k on, of m days, on which both are in the same box. -/
def metFrom (xs ys : List Int) : Nat → Nat → Int
  | 0, _ => 0
  | m + 1, k => if xs.getD k 0 = ys.getD k 0 then (k : Int) + 1 else metFrom xs ys m (k + 1)
def metR (xss : List (List Int)) (xs ys : List Int) : Int := if metB xss xs ys = true then metFrom xs ys (min xs.length ys.length) 0 else -1
theorem hopsB_no {xss : List (List Int)} {ys : List Int} {k : Nat} (hk : k < ys.length) (h0 : 0 < k) (h : hop xss ys k = 0) : hopsB xss ys = false := by
  cases hb : hopsB xss ys
  · rfl
  · unfold hopsB at hb
    simp only [List.all_eq_true] at hb
    have := hb k (by simpa using hk)
    simp [h] at this
    omega
theorem hopsB_yes {xss : List (List Int)} {ys : List Int} (h : ∀ k, k < ys.length → 0 < k → hop xss ys k ≠ 0) : hopsB xss ys = true := by
  unfold hopsB
  simp only [List.all_eq_true]
  intro k hk
  have hk : k < ys.length := by simpa using hk
  by_cases h0 : k = 0
  · simp [h0]
  · simp [h k hk (by omega)]
theorem metFrom_hit {xs ys : List Int} {N k : Nat} (hk : k < N) (h : xs.getD k 0 = ys.getD k 0) : metFrom xs ys (N - k) k = (k : Int) + 1 := by
  obtain ⟨m, hm⟩ : ∃ m, N - k = m + 1 := ⟨N - k - 1, by omega⟩
  rw [hm, metFrom, if_pos h]
theorem metFrom_miss {xs ys : List Int} {N k : Nat} (hk : k < N) (h : ¬ xs.getD k 0 = ys.getD k 0) : metFrom xs ys (N - k) k = metFrom xs ys (N - (k + 1)) (k + 1) := by
  obtain ⟨m, hm⟩ : ∃ m, N - k = m + 1 := ⟨N - k - 1, by omega⟩
  rw [hm, metFrom, if_neg h, show N - (k + 1) = m by omega]

theorem metR_no1 {xss : List (List Int)} {xs ys : List Int} (h : daysB xss xs = false) : metR xss xs ys = -1 := by unfold metR metB; rw [h]; rfl
theorem metR_no2 {xss : List (List Int)} {xs ys : List Int} (h : daysB xss ys = false) : metR xss xs ys = -1 := by unfold metR metB; rw [h]; simp
theorem metR_no3 {xss : List (List Int)} {xs ys : List Int} (h : hopsB xss ys = false) : metR xss xs ys = -1 := by unfold metR metB; rw [h]; simp
theorem daysB_far2 {xss : List (List Int)} {xs : List Int} {k : Nat} (hk : k < xs.length) (h : inB xs[k] 0 ((xss.length : Int) - 1) = false) : daysB xss xs = false := by
  unfold daysB
  rw [allB_not hk h]
  simp
theorem daysB_long {xss : List (List Int)} {xs : List Int} (h : ¬ xs.length ≤ 16) : daysB xss xs = false := by
  unfold daysB
  rw [decide_eq_false (show ¬ (xs.length : Int) ≤ 16 by omega)]
  simp
theorem daysB_yes {xss : List (List Int)} {xs : List Int} (hb : besideB xss = true) (h16 : xs.length ≤ 16) (h : ∀ k (hk : k < xs.length), inB xs[k] 0 ((xss.length : Int) - 1) = true) : daysB xss xs = true := by
  unfold daysB
  rw [hb, decide_eq_true (show (xs.length : Int) ≤ 16 by omega), allB_all h]
  rfl

end Go.Proofs.Ytpeogghiboaceaa
