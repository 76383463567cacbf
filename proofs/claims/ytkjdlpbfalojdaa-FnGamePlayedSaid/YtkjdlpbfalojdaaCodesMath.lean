/- Codes: all rows of numbers in both orders of making; answers. Plain: no program is walked here. -/
import Derived.Test.YtkjdlpbfalojdaaRows
namespace Go.Proofs.Ytkjdlpbfalojdaa
set_option linter.unusedVariables false

/-- All rows of k numbers less than c, as the reference makes them: a number more behind. -/
def allL (c : Nat) : Nat → List (List Int)
  | 0 => [[]]
  | k + 1 => (allL c k).flatMap fun x => (List.range c).map fun (n : Nat) => x ++ [(n : Int)]
/-- .. as the program makes them: behind a beginning. -/
def fillL (c : Nat) (pre : List Int) : Nat → List (List Int)
  | 0 => [pre]
  | k + 1 => (List.range c).flatMap fun (n : Nat) => fillL c (pre ++ [(n : Int)]) k
theorem allL_front (c : Nat) : ∀ k, allL c (k + 1) = (List.range c).flatMap fun (n : Nat) => (allL c k).map fun x => (n : Int) :: x
  | 0 => by
    simp only [allL, List.flatMap_cons, List.flatMap_nil, List.append_nil, List.nil_append, List.map_cons, List.map_nil]
    induction (List.range c) with
    | nil => rfl
    | cons n r ih => simp [List.flatMap_cons, ih]
  | k + 1 => by
    have e : allL c (k + 1 + 1) = (allL c (k + 1)).flatMap fun x => (List.range c).map fun (n : Nat) => x ++ [(n : Int)] := rfl
    have ih := allL_front c k
    have e2 : allL c (k + 1 + 1) = ((List.range c).flatMap fun (n : Nat) => (allL c k).map fun x => (n : Int) :: x).flatMap fun x => (List.range c).map fun (n : Nat) => x ++ [(n : Int)] := by rw [e, ih]
    rw [e2, List.flatMap_assoc]
    congr 1
    funext n
    have e3 : allL c (k + 1) = (allL c k).flatMap fun x => (List.range c).map fun (n : Nat) => x ++ [(n : Int)] := rfl
    rw [e3]
    induction allL c k with
    | nil => rfl
    | cons x r ih =>
      simp only [List.map_cons, List.flatMap_cons, List.map_append, ih, List.map_map]
      rfl
theorem fill_all (c : Nat) : ∀ k pre, fillL c pre k = (allL c k).map fun x => pre ++ x
  | 0, pre => by simp [fillL, allL]
  | k + 1, pre => by
    rw [fillL, allL_front, List.map_flatMap]
    congr 1
    funext n
    rw [fill_all c k, List.map_map]
    congr 1
    funext x
    simp
theorem fill_nil (c k : Nat) : fillL c [] k = allL c k := by rw [fill_all]; simp
theorem allL_row {c k : Nat} {x : List Int} (h : x ∈ allL c k) : x.length = k ∧ ∀ y ∈ x, 0 ≤ y ∧ y < c := by
  induction k generalizing x with
  | zero => simp [allL] at h; subst h; simp
  | succ k ih =>
    rw [allL, List.mem_flatMap] at h
    obtain ⟨a, ha, h⟩ := h
    obtain ⟨n, hn, rfl⟩ := List.mem_map.1 h
    have := ih ha
    refine ⟨by simp [this.1], fun y hy => ?_⟩
    rcases List.mem_append.1 hy with hy | hy
    · exact this.2 y hy
    · simp at hy hn; omega
theorem allL_mem {c k : Nat} {x : List Int} (hl : x.length = k) (hx : ∀ y ∈ x, 0 ≤ y ∧ y < c) : x ∈ allL c k := by
  induction k generalizing x with
  | zero => rw [List.length_eq_zero_iff] at hl; subst hl; simp [allL]
  | succ k ih =>
    cases x with
    | nil => simp at hl
    | cons a r =>
      rw [allL_front, List.mem_flatMap]
      have ha := hx a (by simp)
      refine ⟨a.toNat, by simp; omega, List.mem_map.2 ⟨r, ih (by simpa using hl) (fun y hy => hx y (by simp [hy])), ?_⟩⟩
      congr 1
      omega

/-- How many places of a row hold a number. -/
def cntC (x : List Int) (c : Int) : Nat := x.count c
/-- How many places of two rows are alike. -/
def rightN (x y : List Int) : Nat → Nat
  | 0 => 0
  | k + 1 => rightN x y k + if x.getD k 0 = y.getD k 0 then 1 else 0
def bothN (x y : List Int) : Nat → Nat
  | 0 => 0
  | c + 1 => bothN x y c + min (cntC x c) (cntC y c)
theorem both_more {x y : List Int} {c : Nat} (hx : ∀ z ∈ x, 0 ≤ z ∧ z < c) : ∀ d, bothN x y (c + d) = bothN x y c
  | 0 => rfl
  | d + 1 => by
    rw [← Nat.add_assoc, bothN, both_more hx d]
    have : cntC x ((c + d : Nat) : Int) = 0 := by
      unfold cntC
      rw [List.count_eq_zero]
      intro h
      have := hx _ h
      omega
    rw [this]; simp
/-- The answer to a guess for a code. -/
def ansR (c : Nat) (x y : List Int) : Nat × Nat := (rightN x y x.length, bothN x y c - rightN x y x.length)

end Go.Proofs.Ytkjdlpbfalojdaa
