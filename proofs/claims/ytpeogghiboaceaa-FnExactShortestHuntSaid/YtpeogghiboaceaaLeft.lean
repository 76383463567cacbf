/- LeftAfter, SurelyFound, of the program and of the reference. -/
import Derived.Test.YtpeogghiboaceaaCat2
namespace Go.Proofs.Ytpeogghiboaceaa
open Go.RowKit Go.Shelf
set_option linter.unusedVariables false

def daysB (xss : List (List Int)) (xs : List Int) : Bool := besideB xss && decide ((xs.length : Int) ≤ 16) && allB xs 0 ((xss.length : Int) - 1)
/-- Where the cat may be after the first k days. -/
def leftN (xss : List (List Int)) (xs : List Int) : Nat → Nat
  | 0 => 2 ^ xss.length - 1
  | k + 1 => afterN xss (leftN xss xs k) (xs.getD k 0)
def leftR (xss : List (List Int)) (xs : List Int) : Int := if daysB xss xs = true then (leftN xss xs xs.length : Nat) else -1
theorem leftN_lt (xss : List (List Int)) (xs : List Int) (k : Nat) : leftN xss xs k < 2 ^ xss.length := by
  cases k with
  | zero => rw [leftN]; have := Nat.pow_pos (n := xss.length) (show 0 < 2 by omega); omega
  | succ k => exact lotN_lt _ _
theorem allB_at {xs : List Int} {lo hi : Int} (h : allB xs lo hi = true) {k : Nat} (hk : k < xs.length) : inB xs[k] lo hi = true := by
  unfold allB at h
  simp only [List.all_eq_true] at h
  exact h _ (List.getElem_mem _)
theorem allB_not {xs : List Int} {lo hi : Int} {k : Nat} (hk : k < xs.length) (h : inB xs[k] lo hi = false) : allB xs lo hi = false := by
  cases hb : allB xs lo hi
  · rfl
  · rw [allB_at hb hk] at h; cases h
theorem allB_all {xs : List Int} {lo hi : Int} (h : ∀ k (hk : k < xs.length), inB xs[k] lo hi = true) : allB xs lo hi = true := by
  unfold allB
  simp only [List.all_eq_true]
  intro x hx
  obtain ⟨i, hi, rfl⟩ := List.getElem_of_mem hx
  exact h i hi

theorem daysB_spec {xss : List (List Int)} {xs : List Int} (h : daysB xss xs = true) : besideB xss = true ∧ xs.length ≤ 16 ∧ ∀ k (hk : k < xs.length), inB xs[k] 0 ((xss.length : Int) - 1) = true := by
  unfold daysB at h
  simp only [Bool.and_eq_true, decide_eq_true_eq] at h
  exact ⟨h.1.1, by omega, fun k hk => allB_at h.2 hk⟩
theorem left_start {n : Nat} (h : n ≤ 60) : wrap64 (wrap64 ((2 : Int) ^ n) - 1) = ((2 ^ n - 1 : Nat) : Int) := by
  have h1 := pow_small h
  have h2 := Nat.pow_pos (n := n) (show 0 < 2 by omega)
  rw [shl_cast h, IntWalk.wrap64_in _ ⟨by omega, by omega⟩]
  omega

theorem daysB_far {xss : List (List Int)} {xs : List Int} {k : Nat} (hk : k < xs.length) (h : inB xs[k] 0 ((xss.length : Int) - 1) = false) : leftR xss xs = -1 := by
  unfold leftR
  rw [if_neg]
  unfold daysB
  rw [allB_not hk h]
  simp
theorem leftR_all {xss : List (List Int)} {xs : List Int} (hb : besideB xss = true) (h16 : (xs.length : Int) ≤ 16) (h : ∀ k (hk : k < xs.length), inB xs[k] 0 ((xss.length : Int) - 1) = true) : leftR xss xs = (leftN xss xs xs.length : Nat) := by
  unfold leftR
  rw [if_pos]
  unfold daysB
  rw [hb, decide_eq_true h16, allB_all h]
  rfl
theorem afterR_in {xss : List (List Int)} {S : Nat} {o : Int} (hb : besideB xss = true) (hS : S < 2 ^ xss.length) (ho : inB o 0 ((xss.length : Int) - 1) = true) : afterR xss S o = (afterN xss S o : Nat) := by
  have e : wordB xss.length S = true := by
    unfold wordB inB
    have e : (2 : Int) ^ xss.length = ((2 ^ xss.length : Nat) : Int) := by simp
    rw [e]
    simp
    omega
  unfold afterR
  rw [hb, e, show boxB xss.length o = true from ho]
  rfl
theorem afterR_far {xss : List (List Int)} {s : Int} {o : Int} (ho : inB o 0 ((xss.length : Int) - 1) = false) : afterR xss s o = -1 := by
  unfold afterR
  rw [show boxB xss.length o = false from ho]
  simp

end Go.Proofs.Ytpeogghiboaceaa
