/- The first good question, and the worst answer: plain. No walk. -/
import Derived.Test.YtpeogghiboaceaaNeed
import Derived.Test.YtpeogghiboaceaaFun
namespace Go.Proofs.Ytpeogghiboaceaa
open Go.RowKit
set_option linter.unusedVariables false

/-- A lot for which too much is needed. -/
def moreB (xss : List (List Int)) (L : Nat) (p : Nat) : Bool := !inB (need xss p) 0 (need xss L - 1)
def goodQ (xss : List (List Int)) (L q : Nat) : Bool := !anyN (fun a => moreB xss L (partN xss L q a)) 3
def askI (xss : List (List Int)) (L : Nat) : Int := idxN (goodQ xss L) (asks xss)

theorem anyN_three (p : Nat → Bool) : anyN p 3 = (p 0 || p 1 || p 2) := by
  unfold anyN
  rw [show List.range 3 = [0, 1, 2] from rfl]
  simp only [List.any_cons, List.any_nil, Bool.or_false, Bool.or_assoc]
theorem goodQ_iff {xss : List (List Int)} {L q : Nat} : goodQ xss L q = true ↔ ∀ a, a < 3 → 0 ≤ need xss (partN xss L q a) ∧ need xss (partN xss L q a) ≤ need xss L - 1 := by
  unfold goodQ
  rw [anyN_three]
  unfold moreB inB
  simp only [Bool.not_eq_true', Bool.or_eq_false_iff, Bool.not_eq_false', decide_eq_true_eq]
  constructor
  · rintro ⟨⟨h0, h1⟩, h2⟩ a ha
    have h : a = 0 ∨ a = 1 ∨ a = 2 := by omega
    rcases h with rfl | rfl | rfl <;> assumption
  · intro h
    exact ⟨⟨h 0 (by omega), h 1 (by omega)⟩, h 2 (by omega)⟩
theorem goodQ_splits {xss : List (List Int)} {L q : Nat} (h : goodQ xss L q = true) (a : Nat) (ha : a < 3) : partN xss L q a ≠ L := by
  intro e
  have := goodQ_iff.1 h a ha
  rw [e] at this
  omega
theorem ask_some {xss : List (List Int)} {L : Nat} (h : 1 ≤ need xss L) : ∃ q : Nat, askI xss L = q ∧ q < asks xss ∧ goodQ xss L q = true ∧ ∀ j, j < q → goodQ xss L j = false := by
  obtain ⟨q, hq, hp⟩ := need_best h
  have hg : goodQ xss L q = true := goodQ_iff.2 fun a ha => (hp a ha).2
  unfold askI idxN
  cases hf : (List.range (asks xss)).find? (goodQ xss L) with
  | none =>
    rw [List.find?_range_eq_none] at hf
    have := hf q hq
    rw [hg] at this
    cases this
  | some i =>
    rw [List.find?_range_eq_some] at hf
    refine ⟨i, rfl, by simpa using hf.2.1, hf.1, fun j hj => ?_⟩
    have := hf.2.2 j hj
    simpa using this

/-- The worst answer among the first k: the answer, and what it leaves to be asked. -/
def worK (xss : List (List Int)) (L q : Nat) : Nat → Int × Int
  | 0 => (-1, -1)
  | k + 1 => if 0 < partN xss L q k ∧ (worK xss L q k).2 < need xss (partN xss L q k) then ((k : Int), need xss (partN xss L q k)) else worK xss L q k
def worI (xss : List (List Int)) (L q : Nat) : Int := (worK xss L q 3).1
theorem worK_hit {xss : List (List Int)} {L q k : Nat} (h : 0 < partN xss L q k) (h2 : (worK xss L q k).2 < need xss (partN xss L q k)) : worK xss L q (k + 1) = ((k : Int), need xss (partN xss L q k)) := by rw [worK, if_pos ⟨h, h2⟩]
theorem worK_miss {xss : List (List Int)} {L q k : Nat} (h : ¬ (0 < partN xss L q k ∧ (worK xss L q k).2 < need xss (partN xss L q k))) : worK xss L q (k + 1) = worK xss L q k := by rw [worK, if_neg h]
/-- Either none so far, or one that is told. -/
theorem worK_is (xss : List (List Int)) (L q k : Nat) : (worK xss L q k = (-1, -1) ∨ ∃ a, a < k ∧ 0 < partN xss L q a ∧ worK xss L q k = ((a : Int), need xss (partN xss L q a))) ∧
    ∀ a, a < k → 0 < partN xss L q a → need xss (partN xss L q a) ≤ (worK xss L q k).2 := by
  induction k with
  | zero => exact ⟨.inl rfl, fun a ha => by omega⟩
  | succ k ih =>
    by_cases h : 0 < partN xss L q k ∧ (worK xss L q k).2 < need xss (partN xss L q k)
    · rw [worK_hit h.1 h.2]
      refine ⟨.inr ⟨k, by omega, h.1, rfl⟩, fun a ha hp => ?_⟩
      by_cases e : a = k
      · subst e; exact Int.le_refl _
      · have := ih.2 a (by omega) hp
        show _ ≤ need xss (partN xss L q k)
        omega
    · rw [worK_miss h]
      refine ⟨?_, fun a ha hp => ?_⟩
      · rcases ih.1 with e | ⟨a, ha, hp, e⟩
        · exact .inl e
        · exact .inr ⟨a, by omega, hp, e⟩
      · by_cases e : a = k
        · subst e; omega
        · exact ih.2 a (by omega) hp
theorem worK_rng (xss : List (List Int)) {L : Nat} (q k : Nat) (hL : L < 128) : -1 ≤ (worK xss L q k).1 ∧ (worK xss L q k).1 ≤ k ∧ -1 ≤ (worK xss L q k).2 ∧ (worK xss L q k).2 ≤ 128 := by
  rcases (worK_is xss L q k).1 with e | ⟨a, ha, hp, e⟩
  · rw [e]; simp
  · rw [e]
    have := need_rng xss (partN xss L q a)
    have := partN_le xss L q a
    simp; omega

theorem part_zero {xss : List (List Int)} (hT : tableB xss = true) {L q : Nat} (hL : L < 2 ^ xss.length) (h0 : L ≠ 0) (hq : q < asks xss) : ∃ a, a < 3 ∧ 0 < partN xss L q a := by
  have : ∃ k, k < xss.length ∧ bitN L k = true := by
    by_cases hh : ∃ k, k < xss.length ∧ bitN L k = true
    · exact hh
    · exact absurd (lot_ext (A := L) (B := 0) hL (Nat.pow_pos (by omega)) fun k hk => by
        cases hb : bitN L k
        · simp [bitN]
        · exact absurd ⟨k, hk, hb⟩ hh) h0
  obtain ⟨k, hk, hb⟩ := this
  have hit : ∀ a : Nat, (xss.getD k []).getD q 0 = (a : Int) → 0 < partN xss L q a := fun a ha => by
    rcases Nat.eq_zero_or_pos (partN xss L q a) with h | h
    · have := bit_partN xss L q a k
      rw [h, hb, ha] at this
      simp [bitN, hk] at this
    · exact h
  rcases row_value hT hk hq with h | h | h
  · exact ⟨0, by omega, hit 0 h⟩
  · exact ⟨1, by omega, hit 1 h⟩
  · exact ⟨2, by omega, hit 2 h⟩

/-- The worst answer of a lot that is told apart: some answer that leaves something, and no other leaves more. -/
theorem wor_some {xss : List (List Int)} (hT : tableB xss = true) {L q : Nat} (hL : L < 2 ^ xss.length) (h0 : L ≠ 0) (hn : 0 ≤ need xss L) (hq : q < asks xss) :
    ∃ a : Nat, a < 3 ∧ worI xss L q = a ∧ 0 < partN xss L q a ∧ ∀ b, b < 3 → need xss (partN xss L q b) ≤ need xss (partN xss L q a) := by
  have hsub : ∀ a, 0 ≤ need xss (partN xss L q a) := fun a => (need_mono L hL _ (partN_lt xss L q a) part_of hn).1
  obtain ⟨a, ha, hp⟩ := part_zero hT hL h0 hq
  obtain ⟨h1, h2⟩ := worK_is xss L q 3
  rcases h1 with e | ⟨c, hc, hpc, e⟩
  · have := h2 a ha hp
    have := hsub a
    rw [e] at *
    simp at *
    omega
  · refine ⟨c, hc, by unfold worI; rw [e], hpc, fun b hb => ?_⟩
    have h3 : (worK xss L q 3).2 = need xss (partN xss L q c) := by rw [e]
    rcases Nat.eq_zero_or_pos (partN xss L q b) with h | h
    · rw [h, need_small (by unfold many; rw [cntN_same (g := fun _ => false) fun k _ => by simp [bitN]]; induction xss.length with | zero => simp [cntN] | succ n ih => simpa [cntN] using ih)]
      exact hsub c
    · rw [← h3]; exact h2 b hb h

end Go.Proofs.Ytpeogghiboaceaa
