/- Plain laws of shortest hunts: they are hunts, and none is shorter; in a row there is one, in a ring none. -/
import Derived.Test.YtoddomhpdeoeeaaHunt
import Derived.Test.YtoddomhpdeoeeaaInRing
namespace Go.Proofs.Ytoddomhpdeoeeaa
open Go.RowKit
set_option linter.unusedVariables false

theorem toI_getD {w : List Nat} {k : Nat} (hk : k < w.length) : (toI w).getD k 0 = ((w[k] : Nat) : Int) := by
  unfold toI
  rw [getD_get (by simpa using hk)]
  simp
theorem left_run (xss : List (List Int)) (w : List Nat) : ∀ k, k ≤ w.length → leftN xss (toI w) k = run0 xss (w.take k) := by
  intro k
  induction k with
  | zero => intro _; rfl
  | succ k ih =>
    intro hk
    rw [leftN, ih (by omega), toI_getD (by omega), List.take_succ_eq_append_getElem (by omega), run0_snoc]
theorem days_toI {xss : List (List Int)} (hb : besideB xss = true) {w : List Nat} (hg : good xss.length w) (hl : w.length ≤ 16) : daysB xss (toI w) = true := by
  have e : (toI w).length = w.length := by simp [toI]
  refine daysB_yes hb (by omega) fun k hk => ?_
  have hk' : k < w.length := by omega
  have h1 := toI_getD hk'
  rw [getD_get hk] at h1
  rw [h1]
  have := hg _ (List.getElem_mem hk')
  simp [inB]
  omega
theorem surely_toI {xss : List (List Int)} (hb : besideB xss = true) {w : List Nat} (hg : good xss.length w) (hl : w.length ≤ 16) : surelyB xss (toI w) = (run0 xss w == 0) := by
  have e : (toI w).length = w.length := by simp [toI]
  unfold surelyB leftR
  rw [if_pos (days_toI hb hg hl), e, left_run _ _ _ (Nat.le_refl _), List.take_length]
  rw [Bool.eq_iff_iff]
  simp
/-- The first of all hunts is one, and without its last day it is none. -/
theorem hunt_law {xss : List (List Int)} (hb : besideB xss = true) {w : List Nat} (h : IsHunt xss w) :
    0 < w.length ∧ surelyB xss (toI w) = true ∧ surelyB xss ((toI w).take (w.length - 1)) = false := by
  obtain ⟨h1, h2, h3, h4⟩ := h
  have hn := (besideB_spec hb).1
  have h0 : 0 < w.length := by
    apply Classical.byContradiction
    intro hno
    have : w = [] := List.eq_nil_of_length_eq_zero (by omega)
    subst this
    have h5 : 2 ^ xss.length - 1 = 0 := h2
    have := Nat.pow_lt_pow_right (show 1 < 2 by omega) (show 0 < xss.length by omega)
    omega
  refine ⟨h0, by rw [surely_toI hb h1 h3, h2]; rfl, ?_⟩
  have e : (toI w).take (w.length - 1) = toI (w.take (w.length - 1)) := by simp [toI, List.map_take]
  have hl : (w.take (w.length - 1)).length = w.length - 1 := by rw [List.length_take]; omega
  rw [e, surely_toI hb (good_take h1 _) (by omega)]
  apply Classical.byContradiction
  intro hne
  have hr : run0 xss (w.take (w.length - 1)) = 0 := by
    have : (run0 xss (w.take (w.length - 1)) == 0) = true := by simpa using hne
    simpa using this
  have h5 := h4 _ (good_take h1 _) hr (by omega)
  have h6 := enc_len (show xss.length ≤ 8 by omega) (good_take h1 (w.length - 1)) h1 (by omega)
  omega

/-- The sets that d days lead to. -/
def nextL (xss : List (List Int)) (l : List Nat) : List Nat := (l.flatMap fun s => (List.range xss.length).map fun k => afterN xss s ((k : Nat) : Int)).eraseDups
def levelL (xss : List (List Int)) : Nat → List Nat
  | 0 => [2 ^ xss.length - 1]
  | d + 1 => nextL xss (levelL xss d)
theorem next_mem {xss : List (List Int)} {l : List Nat} {s k : Nat} (hs : s ∈ l) (hk : k < xss.length) : afterN xss s (k : Int) ∈ nextL xss l := by
  unfold nextL
  rw [List.mem_eraseDups, List.mem_flatMap]
  exact ⟨s, hs, List.mem_map.2 ⟨k, List.mem_range.2 hk, rfl⟩⟩
theorem level_mem {xss : List (List Int)} {w : List Nat} (hg : good xss.length w) : ∀ t, t ≤ w.length → run0 xss (w.take t) ∈ levelL xss t := by
  intro t
  induction t with
  | zero => intro _; simp [levelL, run0, runF]
  | succ t ih =>
    intro ht
    rw [List.take_succ_eq_append_getElem (by omega), run0_snoc, levelL]
    exact next_mem (ih (by omega)) (hg _ (List.getElem_mem _))
/-- A hunt of d days, and none of fewer: the first one takes d days. -/
theorem hunt_days {xss : List (List Int)} {d : Nat} (hb : besideB xss = true) (hd : d ≤ 16) {u : List Nat} (hu : good xss.length u) (hul : u.length = d) (hr : run0 xss u = 0) (hno : ∀ t, t < d → 0 ∉ levelL xss t) {l : List Int} {ok : Bool} (h : HuntIs xss l ok) :
    ok = true ∧ l.length = d := by
  have hn := (besideB_spec hb).1
  rcases h with ⟨_, rfl, w, ⟨h1, h2, h3, h4⟩, rfl⟩ | ⟨_, _, h9⟩
  · refine ⟨rfl, ?_⟩
    rw [show (toI w).length = w.length by simp [toI]]
    have h5 := level_mem h1 w.length (Nat.le_refl _)
    rw [List.take_length, h2] at h5
    have h6 : ¬ w.length < d := fun hh => hno _ hh h5
    have h7 := h4 u hu hr (by omega)
    have h8 : ¬ u.length < w.length := fun hh => by
      have := enc_len (show xss.length ≤ 8 by omega) hu h1 hh
      omega
    omega
  · rcases h9 with h9 | h9
    · rw [hb] at h9; cases h9
    · exact absurd hr (h9 u hu (by omega))
/-- A set of sets that is closed and lacks the empty one: no hunt. -/
theorem no_hunt {xss : List (List Int)} (R : List Nat) (hb : besideB xss = true) (h0 : 2 ^ xss.length - 1 ∈ R) (hc : ∀ s ∈ R, ∀ k, k < xss.length → afterN xss s (k : Int) ∈ R) (hz : 0 ∉ R) {l : List Int} {ok : Bool} (h : HuntIs xss l ok) : ok = false := by
  have key : ∀ (w : List Nat), good xss.length w → ∀ t, t ≤ w.length → run0 xss (w.take t) ∈ R := by
    intro w hg t
    induction t with
    | zero => intro _; exact h0
    | succ t ih =>
      intro ht
      rw [List.take_succ_eq_append_getElem (by omega), run0_snoc]
      exact hc _ (ih (by omega)) _ (hg _ (List.getElem_mem _))
  rcases h with ⟨_, rfl, w, ⟨h1, h2, _⟩, rfl⟩ | ⟨rfl, _, _⟩
  · have := key w h1 w.length (Nat.le_refl _)
    rw [List.take_length, h2] at this
    exact absurd this hz
  · rfl

def daysOfRow (n : Nat) : Nat := [0, 1, 2, 2, 4, 6, 8].getD n 0
def huntOfRow (n : Nat) : List Nat := [[], [0], [0, 0], [1, 1], [1, 2, 2, 1], [1, 2, 3, 3, 2, 1], [1, 2, 3, 4, 4, 3, 2, 1]].getD n []
set_option maxRecDepth 100000 in
theorem row_hunt {n : Nat} (h1 : 1 ≤ n) (h6 : n ≤ 6) {l : List Int} {ok : Bool} (h : HuntIs (lineR n false) l ok) : ok = true ∧ l.length = daysOfRow n := by
  have hb : besideB (lineR n false) = true := by
    have : n = 1 ∨ n = 2 ∨ n = 3 ∨ n = 4 ∨ n = 5 ∨ n = 6 := by omega
    rcases this with rfl | rfl | rfl | rfl | rfl | rfl <;> decide +kernel
  have : n = 1 ∨ n = 2 ∨ n = 3 ∨ n = 4 ∨ n = 5 ∨ n = 6 := by omega
  rcases this with rfl | rfl | rfl | rfl | rfl | rfl
  · exact hunt_days hb (by decide) (u := huntOfRow 1) (by unfold good; decide +kernel) (by decide) (by decide +kernel) (by decide +kernel) h
  · exact hunt_days hb (by decide) (u := huntOfRow 2) (by unfold good; decide +kernel) (by decide) (by decide +kernel) (by decide +kernel) h
  · exact hunt_days hb (by decide) (u := huntOfRow 3) (by unfold good; decide +kernel) (by decide) (by decide +kernel) (by decide +kernel) h
  · exact hunt_days hb (by decide) (u := huntOfRow 4) (by unfold good; decide +kernel) (by decide) (by decide +kernel) (by decide +kernel) h
  · exact hunt_days hb (by decide) (u := huntOfRow 5) (by unfold good; decide +kernel) (by decide) (by decide +kernel) (by decide +kernel) h
  · exact hunt_days hb (by decide) (u := huntOfRow 6) (by unfold good; decide +kernel) (by decide) (by decide +kernel) (by decide +kernel) h
/-- In a ring all sets but the small ones stay. -/
def ringSets (n : Nat) : List Nat := (List.range 20).foldl (fun l _ => (l ++ nextL (lineR n true) l).eraseDups) [2 ^ n - 1]
set_option maxRecDepth 100000 in
theorem ring_hunt {n : Nat} (h3 : 3 ≤ n) (h6 : n ≤ 6) {l : List Int} {ok : Bool} (h : HuntIs (lineR n true) l ok) : ok = false ∧ besideB (lineR n true) = true := by
  have : n = 3 ∨ n = 4 ∨ n = 5 ∨ n = 6 := by omega
  rcases this with rfl | rfl | rfl | rfl
  · exact ⟨no_hunt (ringSets 3) (by decide +kernel) (by decide +kernel) (by decide +kernel) (by decide +kernel) h, by decide +kernel⟩
  · exact ⟨no_hunt (ringSets 4) (by decide +kernel) (by decide +kernel) (by decide +kernel) (by decide +kernel) h, by decide +kernel⟩
  · exact ⟨no_hunt (ringSets 5) (by decide +kernel) (by decide +kernel) (by decide +kernel) (by decide +kernel) h, by decide +kernel⟩
  · exact ⟨no_hunt (ringSets 6) (by decide +kernel) (by decide +kernel) (by decide +kernel) (by decide +kernel) h, by decide +kernel⟩

end Go.Proofs.Ytoddomhpdeoeeaa
