/- The rows of boxes in a row and in a ring: spec.InRow, spec.InRing, impl.line, impl.InRow, impl.InRing, all by one plain function. -/
import Derived.Test.YtpeogghiboaceaaLeaf2
namespace Go.Proofs.Ytpeogghiboaceaa
open Go.RowKit
set_option linter.unusedVariables false

/-- Whether box k is beside box i. -/
def adjI (n : Nat) (ring : Bool) (i k : Nat) : Int := if k + 1 = i ∨ i + 1 = k ∨ (ring = true ∧ (k + (n - 1) = i ∨ i + (n - 1) = k)) then 1 else 0
def rowR (n : Nat) (ring : Bool) (i : Nat) : List Int := (List.range n).map (adjI n ring i)
def lineR (n : Nat) (ring : Bool) : List (List Int) := (List.range n).map (rowR n ring)
@[simp] theorem rowR_length (n : Nat) (ring : Bool) (i : Nat) : (rowR n ring i).length = n := by simp [rowR]
@[simp] theorem lineR_length (n : Nat) (ring : Bool) : (lineR n ring).length = n := by simp [lineR]
theorem lineR_get (n : Nat) (ring : Bool) (i : Nat) (h : i < (lineR n ring).length) : (lineR n ring)[i] = rowR n ring i := by simp [lineR]
theorem rowR_get (n : Nat) (ring : Bool) (i k : Nat) (h : k < (rowR n ring i).length) : (rowR n ring i)[k] = adjI n ring i k := by simp [rowR]

def inRowR (boxes : Int) : List (List Int) := if 1 ≤ boxes ∧ boxes ≤ 6 then lineR boxes.toNat false else []
def inRingR (boxes : Int) : List (List Int) := if 3 ≤ boxes ∧ boxes ≤ 6 then lineR boxes.toNat true else []

/-- The row i up to place j. -/
def rowP (n : Nat) (ring : Bool) (i j : Nat) : List Int := (rowR n ring i).take j ++ List.replicate (n - j) 0
@[simp] theorem rowP_length {n : Nat} {ring : Bool} {i j : Nat} (h : j ≤ n) : (rowP n ring i j).length = n := by simp [rowP]; omega
theorem rowP_zero (n : Nat) (ring : Bool) (i : Nat) : rowP n ring i 0 = List.replicate n 0 := by simp [rowP]
theorem rowP_full (n : Nat) (ring : Bool) (i : Nat) : rowP n ring i n = rowR n ring i := by simp [rowP, List.take_of_length_le]
theorem rowP_hit {n : Nat} {ring : Bool} {i j : Nat} (h : j < n) (ha : adjI n ring i j = 1) : (rowP n ring i j).set j 1 = rowP n ring i (j + 1) := by
  have e := copy_step (xs := rowR n ring i) (k := j) (n := n) (by simpa using h) (by simp)
  rw [rowR_get, ha] at e
  exact e
theorem rowP_miss {n : Nat} {ring : Bool} {i j : Nat} (h : j < n) (ha : adjI n ring i j = 0) : rowP n ring i j = rowP n ring i (j + 1) := by
  have e := copy_step (xs := rowR n ring i) (k := j) (n := n) (by simpa using h) (by simp)
  rw [rowR_get, ha] at e
  unfold rowP
  rw [← e, List.set_append_right _ _ (by simp; omega)]
  have e0 : j - (List.take j (rowR n ring i)).length = 0 := by simp; omega
  rw [e0]
  obtain ⟨m, hm⟩ : ∃ m, n - j = m + 1 := ⟨n - j - 1, by omega⟩
  rw [hm, List.replicate_succ, List.set_cons_zero]

/-- All rows up to row i, of row i all up to place j. -/
def lineP (n : Nat) (ring : Bool) (i j : Nat) : List (List Int) := ((lineR n ring).take i ++ List.replicate (n - i) []).set i (rowP n ring i j)
def lineQ (n : Nat) (ring : Bool) (i : Nat) : List (List Int) := (lineR n ring).take i ++ List.replicate (n - i) []
@[simp] theorem lineQ_length {n : Nat} {ring : Bool} {i : Nat} (h : i ≤ n) : (lineQ n ring i).length = n := by simp [lineQ]; omega
@[simp] theorem lineP_length {n : Nat} {ring : Bool} {i j : Nat} (h : i ≤ n) : (lineP n ring i j).length = n := by simp [lineP]; omega
theorem lineP_get {n : Nat} {ring : Bool} {i j : Nat} (h : i < n) (h' : i < (lineP n ring i j).length) : (lineP n ring i j)[i] = rowP n ring i j := by simp [lineP]
theorem lineP_full {n : Nat} {ring : Bool} {i : Nat} (h : i < n) : lineP n ring i n = lineQ n ring (i + 1) := by
  unfold lineP lineQ
  rw [rowP_full, ← lineR_get n ring i (by simpa using h)]
  exact copy_step2 (by simpa using h) (by simp)
theorem lineP_set {n : Nat} {ring : Bool} {i j : Nat} (h : i < n) (x : List Int) (hx : x = rowP n ring i (j + 1)) : (lineP n ring i j).set i x = lineP n ring i (j + 1) := by
  subst hx
  simp [lineP]

theorem lineP_miss {n : Nat} {ring : Bool} {i j : Nat} (h : i < n) (hj : j < n) (ha : adjI n ring i j = 0) : lineP n ring i j = lineP n ring i (j + 1) := by
  unfold lineP
  rw [rowP_miss hj ha]

theorem set_get_self' {α : Type} {l : List α} {i : Nat} {x : α} {h : i < l.length} (e : l[i] = x) : l.set i x = l := by subst e; simp

theorem max_nat (i j : Nat) : max ((i : Int) - (j : Int)) ((j : Int) - (i : Int)) = if i ≤ j then (j : Int) - i else (i : Int) - j := by
  split <;> omega

/-! ### The reference -/
def rowS (n k : Nat) : List Int := if k + 1 < n then (if 0 < k then (List.replicate n 0).set (k - 1) 1 else List.replicate n 0).set (k + 1) 1 else (if 0 < k then (List.replicate n 0).set (k - 1) 1 else List.replicate n 0)

theorem rowS_eq {n k : Nat} (h : k < n) : rowS n k = rowR n false k := by
  apply List.ext_getElem
  · unfold rowS; split <;> split <;> simp
  · intro j h1 h2
    rw [rowR_get]
    unfold rowS adjI
    split <;> split <;> simp [List.getElem_set] <;> (try split) <;> (try split) <;> (try split) <;> (try omega) <;> simp_all <;> omega

/-- The rows so far. -/
theorem rows_snoc {n k : Nat} (h : k < n) : (lineR n false).take k ++ [rowS n k] = (lineR n false).take (k + 1) := by
  rw [List.take_succ_eq_append_getElem (by simpa using h), lineR_get, rowS_eq h]

end Go.Proofs.Ytpeogghiboaceaa
