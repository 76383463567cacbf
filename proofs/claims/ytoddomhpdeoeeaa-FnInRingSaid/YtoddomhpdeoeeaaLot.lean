/- LotAfter, of the program and of the reference. -/
import Derived.Test.YtoddomhpdeoeeaaTable
import Derived.Test.YtoddomhpdeoeeaaBits
namespace Go.Proofs.Ytoddomhpdeoeeaa
open Go.RowKit Go.Shelf
set_option linter.unusedVariables false

def hitB (xss : List (List Int)) (L q : Nat) (a : Int) (k : Nat) : Bool := bitN L k && ((xss.getD k []).getD q 0 == a)

def lotOk (xss : List (List Int)) (lot : Int) : Bool := inB lot 0 ((2 : Int) ^ xss.length - 1)
def askOk (xss : List (List Int)) (q : Int) : Bool := inB q 0 (((xss.headD []).length : Int) - 1)
def lotAfterR (xss : List (List Int)) (lot q a : Int) : Int :=
  if (tableB xss && lotOk xss lot && askOk xss q && inB a 0 2) = true then (lotN (hitB xss lot.toNat q.toNat a) xss.length : Nat) else -1

theorem tableB_len {xss : List (List Int)} (h : tableB xss = true) : 1 ≤ xss.length ∧ xss.length ≤ 7 := by
  unfold tableB at h
  simp only [Bool.and_eq_true, decide_eq_true_eq] at h
  exact h.1
theorem headD_get {α : Type} {xss : List α} {d : α} (h : 0 < xss.length) : xss.headD d = xss[0] := by cases xss with | nil => simp at h | cons x t => rfl
theorem inB_yes {n lo hi : Int} (h : inB n lo hi = true) : lo ≤ n ∧ n ≤ hi := by simpa [inB] using h
theorem lotOk_nat {xss : List (List Int)} {lot : Int} (h : lotOk xss lot = true) : ∃ L : Nat, lot = L ∧ L < 2 ^ xss.length := by
  have := inB_yes h
  obtain ⟨L, rfl⟩ := Int.eq_ofNat_of_zero_le this.1
  refine ⟨L, rfl, ?_⟩
  have e : (2 : Int) ^ xss.length = ((2 ^ xss.length : Nat) : Int) := by simp
  rw [e] at this
  omega

end Go.Proofs.Ytoddomhpdeoeeaa
