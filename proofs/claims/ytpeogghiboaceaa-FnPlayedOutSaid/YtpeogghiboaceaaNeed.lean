/- What a lot needs: the plain recursion, and what it obeys. No walk. -/
import Derived.Test.YtpeogghiboaceaaLotSum
namespace Go.Proofs.Ytpeogghiboaceaa
open Go.RowKit
set_option linter.unusedVariables false

theorem bitN_test (L k : Nat) : bitN L k = L.testBit k := by
  rw [Nat.testBit_eq_decide_div_mod_eq]; unfold bitN; rfl
theorem bitN_lotN (f : Nat → Bool) (n j : Nat) : bitN (lotN f n) j = (decide (j < n) && f j) := by
  induction n generalizing j with
  | zero => simp [lotN, bitN]
  | succ n ih =>
    have hl := lotN_lt f n
    rw [bitN_test, lotN]
    have ih' : ∀ j, (lotN f n).testBit j = (decide (j < n) && f j) := fun j => by rw [← bitN_test]; exact ih j
    split
    · rename_i hf
      rw [Nat.add_comm]
      by_cases h1 : j = n
      · subst h1
        rw [Nat.testBit_two_pow_add_eq, ih']; simp [hf]
      · by_cases h2 : j < n
        · rw [Nat.testBit_two_pow_add_gt h2, ih']; simp [h2]; omega
        · have h3 : 2 ^ n + lotN f n < 2 ^ j := by
            have : 2 ^ (n + 1) ≤ 2 ^ j := Nat.pow_le_pow_right (by omega) (by omega)
            rw [Nat.pow_succ] at this; omega
          rw [Nat.testBit_lt_two_pow h3]; simp; omega
    · rename_i hf
      rw [Nat.add_zero, ih']
      by_cases h1 : j = n
      · subst h1; simp [hf]
      · have e : decide (j < n + 1) = decide (j < n) := by rw [Bool.eq_iff_iff]; simp; omega
        rw [e]
theorem lotN_le {f g : Nat → Bool} {n : Nat} (h : ∀ k, k < n → f k = true → g k = true) : lotN f n ≤ lotN g n := by
  induction n with
  | zero => simp [lotN]
  | succ n ih =>
    have ih := ih fun k hk => h k (by omega)
    simp only [lotN]
    cases hf : f n
    · exact Nat.le_trans ih (Nat.le_add_right _ _)
    · rw [if_pos rfl, if_pos (h n (by omega) hf)]; omega
theorem lotN_same {f g : Nat → Bool} {n : Nat} (h : ∀ k, k < n → f k = g k) : lotN f n = lotN g n :=
  Nat.le_antisymm (lotN_le fun k hk e => by rw [← h k hk]; exact e) (lotN_le fun k hk e => by rw [h k hk]; exact e)
theorem lot_ext {n A B : Nat} (hA : A < 2 ^ n) (hB : B < 2 ^ n) (h : ∀ k, k < n → bitN A k = bitN B k) : A = B := by
  have h1 := lotN_mod A n
  have h2 := lotN_mod B n
  rw [Nat.mod_eq_of_lt hA] at h1
  rw [Nat.mod_eq_of_lt hB] at h2
  rw [← h1, ← h2]
  exact lotN_same h
theorem lot_le {n A B : Nat} (hA : A < 2 ^ n) (hB : B < 2 ^ n) (h : ∀ k, k < n → bitN A k = true → bitN B k = true) : A ≤ B := by
  have h1 := lotN_mod A n
  have h2 := lotN_mod B n
  rw [Nat.mod_eq_of_lt hA] at h1
  rw [Nat.mod_eq_of_lt hB] at h2
  rw [← h1, ← h2]
  exact lotN_le h

/-- How many of the numbers below n. -/
def cntN (f : Nat → Bool) : Nat → Nat
  | 0 => 0
  | n + 1 => cntN f n + if f n then 1 else 0
theorem cntN_le (f : Nat → Bool) (n : Nat) : cntN f n ≤ n := by
  induction n with
  | zero => simp [cntN]
  | succ n ih => rw [cntN]; split <;> omega
theorem cntN_same {f g : Nat → Bool} {n : Nat} (h : ∀ k, k < n → f k = g k) : cntN f n = cntN g n := by
  induction n with
  | zero => rfl
  | succ n ih => rw [cntN, cntN, ih fun k hk => h k (by omega), h n (by omega)]
theorem cntN_mono {f g : Nat → Bool} {n : Nat} (h : ∀ k, k < n → f k = true → g k = true) : cntN f n ≤ cntN g n := by
  induction n with
  | zero => simp [cntN]
  | succ n ih =>
    have ih := ih fun k hk => h k (by omega)
    simp only [cntN]
    cases hf : f n
    · simp; split <;> omega
    · rw [if_pos rfl, if_pos (h n (by omega) hf)]; omega
theorem cntN_less {f g : Nat → Bool} {n j : Nat} (h : ∀ k, k < n → f k = true → g k = true) (hj : j < n) (hf : f j = false) (hg : g j = true) : cntN f n + 1 ≤ cntN g n := by
  induction n with
  | zero => omega
  | succ n ih =>
    simp only [cntN]
    by_cases e : j = n
    · subst e
      have := cntN_mono (n := j) fun k hk => h k (by omega)
      rw [hf, hg]; simp; omega
    · have ih := ih (fun k hk => h k (by omega)) (by omega)
      cases hf : f n
      · simp; split <;> omega
      · rw [if_pos rfl, if_pos (h n (by omega) hf)]; omega
theorem cntN_two {f : Nat → Bool} {n : Nat} (h : 2 ≤ cntN f n) : ∃ i j, i < j ∧ j < n ∧ f i = true ∧ f j = true := by
  have one : ∀ n, 1 ≤ cntN f n → ∃ i, i < n ∧ f i = true := fun n => by
    induction n with
    | zero => intro h; simp [cntN] at h
    | succ n ih =>
      intro h
      cases hf : f n
      · rw [cntN, hf] at h
        obtain ⟨i, hi, he⟩ := ih (by simpa using h)
        exact ⟨i, by omega, he⟩
      · exact ⟨n, by omega, hf⟩
  induction n with
  | zero => simp [cntN] at h
  | succ n ih =>
    cases hf : f n
    · rw [cntN, hf] at h
      obtain ⟨i, j, h1, h2, h3⟩ := ih (by simpa using h)
      exact ⟨i, j, h1, by omega, h3⟩
    · rw [cntN, hf] at h
      simp at h
      obtain ⟨i, hi, he⟩ := one n (by omega)
      exact ⟨i, n, hi, by omega, he, hf⟩
theorem cntN_one {f : Nat → Bool} {n : Nat} (h : 1 ≤ cntN f n) : ∃ i, i < n ∧ f i = true := by
  induction n with
  | zero => simp [cntN] at h
  | succ n ih =>
    cases hf : f n
    · rw [cntN, hf] at h
      obtain ⟨i, hi, he⟩ := ih (by simpa using h)
      exact ⟨i, by omega, he⟩
    · exact ⟨n, by omega, hf⟩
theorem cntN_pair {f : Nat → Bool} {n i j : Nat} (hij : i < j) (hj : j < n) (hi : f i = true) (hf : f j = true) : 2 ≤ cntN f n := by
  have h1 : cntN (fun k => k == j && f k) n + 1 ≤ cntN f n := cntN_less (j := i) (fun k _ h => by simp at h; exact h.2) (by omega) (by simp; omega) hi
  have h2 : cntN (fun _ => false) n + 1 ≤ cntN (fun k => k == j && f k) n := cntN_less (j := j) (fun k _ h => by cases h) hj rfl (by simp [hf])
  omega
theorem cntN_three {f f0 f1 f2 : Nat → Bool} {n : Nat} (h : ∀ k, k < n → (f k = false ∧ f0 k = false ∧ f1 k = false ∧ f2 k = false) ∨ (f k = true ∧ ((f0 k = true ∧ f1 k = false ∧ f2 k = false) ∨ (f0 k = false ∧ f1 k = true ∧ f2 k = false) ∨ (f0 k = false ∧ f1 k = false ∧ f2 k = true)))) :
    cntN f0 n + cntN f1 n + cntN f2 n = cntN f n := by
  induction n with
  | zero => simp [cntN]
  | succ n ih =>
    have ih := ih fun k hk => h k (by omega)
    have hn := h n (by omega)
    simp only [cntN]
    rcases hn with ⟨h, h0, h1, h2⟩ | ⟨h, ⟨h0, h1, h2⟩ | ⟨h0, h1, h2⟩ | ⟨h0, h1, h2⟩⟩ <;> simp only [h, h0, h1, h2, if_true, Bool.false_eq_true, if_false] <;> omega

/-- The lot behind an answer. -/
def partN (xss : List (List Int)) (L q a : Nat) : Nat := lotN (hitB xss L q (a : Int)) xss.length
theorem partN_lt (xss : List (List Int)) (L q a : Nat) : partN xss L q a < 2 ^ xss.length := lotN_lt _ _
theorem bit_partN (xss : List (List Int)) (L q a k : Nat) : bitN (partN xss L q a) k = (decide (k < xss.length) && (bitN L k && ((xss.getD k []).getD q 0 == (a : Int)))) := bitN_lotN _ _ _
theorem partN_le (xss : List (List Int)) (L q a : Nat) : partN xss L q a ≤ L := by
  have h : partN xss L q a ≤ lotN (bitN L) xss.length := lotN_le fun k _ h => by unfold hitB at h; simp at h; exact h.1
  rw [lotN_mod] at h
  exact Nat.le_trans h (Nat.mod_le _ _)

/-- What is needed behind one answer more, at worst; -1: not told apart. -/
def wstep (g : Nat → Int) (L p : Nat) (w : Int) : Int := if w < 0 ∨ p = L ∨ g p < 0 then -1 else max w (g p)
def worstK (xss : List (List Int)) (g : Nat → Int) (L q : Nat) : Nat → Int
  | 0 => 0
  | k + 1 => wstep g L (partN xss L q k) (worstK xss g L q k)
def bstep (w b : Int) : Int := if 0 ≤ w ∧ (b < 0 ∨ 1 + w < b) then 1 + w else b
def bestK (xss : List (List Int)) (g : Nat → Int) (L : Nat) : Nat → Int
  | 0 => -1
  | q + 1 => bstep (worstK xss g L q 3) (bestK xss g L q)
/-- How many questions a table has. -/
def asks (xss : List (List Int)) : Nat := (xss.headD []).length
def many (xss : List (List Int)) (L : Nat) : Nat := cntN (bitN L) xss.length
def needF (xss : List (List Int)) : Nat → Nat → Int
  | 0, _ => 0
  | f + 1, L => if many xss L ≤ 1 then 0 else bestK xss (needF xss f) L (asks xss)
def need (xss : List (List Int)) (L : Nat) : Int := needF xss (L + 1) L

theorem worstK_same {xss : List (List Int)} {g g' : Nat → Int} {L : Nat} (h : ∀ p, p < L → g p = g' p) (q k : Nat) : worstK xss g L q k = worstK xss g' L q k := by
  induction k with
  | zero => rfl
  | succ k ih =>
    rw [worstK, worstK, ih]
    unfold wstep
    by_cases e : partN xss L q k = L
    · simp [e]
    · have := partN_le xss L q k
      rw [h _ (by omega)]
theorem bestK_same {xss : List (List Int)} {g g' : Nat → Int} {L : Nat} (h : ∀ p, p < L → g p = g' p) (q : Nat) : bestK xss g L q = bestK xss g' L q := by
  induction q with
  | zero => rfl
  | succ q ih => rw [bestK, bestK, ih, worstK_same h]
theorem needF_same (xss : List (List Int)) : ∀ f f' L, L < f → L < f' → needF xss f L = needF xss f' L := by
  intro f
  induction f with
  | zero => intro f' L h; omega
  | succ f ih =>
    intro f' L h h'
    cases f' with
    | zero => omega
    | succ f' =>
      rw [needF, needF, bestK_same fun p hp => ih f' p (by omega) (by omega)]
theorem need_eq (xss : List (List Int)) (L : Nat) : need xss L = if many xss L ≤ 1 then 0 else bestK xss (need xss) L (asks xss) := by
  unfold need
  rw [needF, bestK_same fun p hp => needF_same xss L (p + 1) p hp (by omega)]

theorem worstK_pos {xss : List (List Int)} {g : Nat → Int} {L q k : Nat} (h : 0 ≤ worstK xss g L q k) : ∀ a, a < k → partN xss L q a ≠ L ∧ 0 ≤ g (partN xss L q a) ∧ g (partN xss L q a) ≤ worstK xss g L q k := by
  induction k with
  | zero => intro a ha; omega
  | succ k ih =>
    intro a ha
    rw [worstK] at h ⊢
    unfold wstep at h ⊢
    split at h
    · omega
    · rename_i hn
      rw [if_neg hn]
      simp only [not_or, Int.not_lt] at hn
      by_cases e : a = k
      · subst e
        exact ⟨hn.2.1, hn.2.2, by omega⟩
      · obtain ⟨h1, h2, h3⟩ := ih hn.1 a (by omega)
        exact ⟨h1, h2, by omega⟩
theorem worstK_ok {xss : List (List Int)} {g : Nat → Int} {L q k : Nat} {W : Int} (hW : 0 ≤ W) (h : ∀ a, a < k → partN xss L q a ≠ L ∧ 0 ≤ g (partN xss L q a) ∧ g (partN xss L q a) ≤ W) : 0 ≤ worstK xss g L q k ∧ worstK xss g L q k ≤ W := by
  induction k with
  | zero => exact ⟨Int.le_refl _, hW⟩
  | succ k ih =>
    obtain ⟨h1, h2, h3⟩ := h k (by omega)
    have ih := ih fun a ha => h a (by omega)
    rw [worstK]
    unfold wstep
    rw [if_neg (by simp only [not_or, Int.not_lt]; exact ⟨ih.1, h1, h2⟩)]
    omega
theorem worstK_ge {xss : List (List Int)} {g : Nat → Int} {L q k : Nat} : -1 ≤ worstK xss g L q k := by
  induction k with
  | zero => simp [worstK]
  | succ k ih => rw [worstK]; unfold wstep; split <;> omega
theorem worstK_down {xss : List (List Int)} {g : Nat → Int} {L q k : Nat} (h : worstK xss g L q k < 0) : worstK xss g L q (k + 1) = -1 := by
  rw [worstK]; unfold wstep; rw [if_pos (.inl h)]
theorem bestK_ge {xss : List (List Int)} {g : Nat → Int} {L q : Nat} : -1 ≤ bestK xss g L q := by
  induction q with
  | zero => simp [bestK]
  | succ q ih => rw [bestK]; unfold bstep; split <;> omega
theorem bestK_least {xss : List (List Int)} {g : Nat → Int} {L m : Nat} : ∀ q, q < m → 0 ≤ worstK xss g L q 3 → 0 ≤ bestK xss g L m ∧ bestK xss g L m ≤ 1 + worstK xss g L q 3 := by
  induction m with
  | zero => intro q hq; omega
  | succ m ih =>
    intro q hq hw
    rw [bestK]
    unfold bstep
    by_cases e : q = m
    · subst e
      split
      · omega
      · rename_i h; simp only [hw, true_and, not_or, Int.not_lt] at h; omega
    · have := ih q (by omega) hw
      split <;> omega
theorem bestK_by {xss : List (List Int)} {g : Nat → Int} {L m : Nat} (h : 0 ≤ bestK xss g L m) : ∃ q, q < m ∧ 0 ≤ worstK xss g L q 3 ∧ bestK xss g L m = 1 + worstK xss g L q 3 := by
  induction m with
  | zero => simp [bestK] at h
  | succ m ih =>
    rw [bestK] at h ⊢
    unfold bstep at h ⊢
    split
    · rename_i hh
      exact ⟨m, by omega, hh.1, rfl⟩
    · rename_i hh
      rw [if_neg hh] at h
      obtain ⟨q, h1, h2, h3⟩ := ih h
      exact ⟨q, by omega, h2, h3⟩

theorem need_small {xss : List (List Int)} {L : Nat} (h : many xss L ≤ 1) : need xss L = 0 := by rw [need_eq, if_pos h]
theorem need_big {xss : List (List Int)} {L : Nat} (h : 2 ≤ many xss L) : need xss L = bestK xss (need xss) L (asks xss) := by rw [need_eq, if_neg (by omega)]
theorem need_rng (xss : List (List Int)) (L : Nat) : -1 ≤ need xss L ∧ need xss L ≤ L := by
  induction L using Nat.strongRecOn with
  | _ L ih =>
    by_cases h : many xss L ≤ 1
    · rw [need_small h]; omega
    · rw [need_big (by omega)]
      refine ⟨bestK_ge, ?_⟩
      by_cases hb : 0 ≤ bestK xss (need xss) L (asks xss)
      · obtain ⟨q, h1, h2, h3⟩ := bestK_by hb
        have hw := worstK_pos h2
        have h0 := hw 0 (by omega)
        have hl := partN_le xss L q 0
        have : 0 ≤ worstK xss (need xss) L q 3 ∧ worstK xss (need xss) L q 3 ≤ (L : Int) - 1 := worstK_ok (by omega) fun a ha => by
          obtain ⟨a1, a2, _⟩ := hw a ha
          have := partN_le xss L q a
          have := ih (partN xss L q a) (by omega)
          exact ⟨a1, a2, by omega⟩
        omega
      · omega

theorem many_mono {xss : List (List Int)} {A B : Nat} (h : ∀ k, k < xss.length → bitN A k = true → bitN B k = true) : many xss A ≤ many xss B := cntN_mono h
theorem part_sub {xss : List (List Int)} {A B q a : Nat} (h : ∀ k, k < xss.length → bitN A k = true → bitN B k = true) : ∀ k, k < xss.length → bitN (partN xss A q a) k = true → bitN (partN xss B q a) k = true := by
  intro k hk e
  rw [bit_partN] at e ⊢
  simp only [hk, decide_true, Bool.true_and, Bool.and_eq_true] at e ⊢
  exact ⟨h k hk e.1, e.2⟩
theorem part_of {xss : List (List Int)} {L q a : Nat} : ∀ k, k < xss.length → bitN (partN xss L q a) k = true → bitN L k = true := by
  intro k hk e
  rw [bit_partN] at e
  simp only [hk, decide_true, Bool.true_and, Bool.and_eq_true] at e
  exact e.1
theorem many_full {xss : List (List Int)} {L : Nat} (h : 2 ^ xss.length ≤ 128) (hL : L < 2 ^ xss.length) : L < 128 := by omega

/-- Fewer things need no more. -/
theorem need_mono {xss : List (List Int)} : ∀ L, L < 2 ^ xss.length → ∀ A, A < 2 ^ xss.length → (∀ k, k < xss.length → bitN A k = true → bitN L k = true) → 0 ≤ need xss L → 0 ≤ need xss A ∧ need xss A ≤ need xss L := by
  intro L
  induction L using Nat.strongRecOn with
  | _ L ih =>
    intro hL A hA hs hn
    by_cases hm : many xss A ≤ 1
    · rw [need_small hm]; omega
    · have hm2 := many_mono hs
      have hb := need_big (xss := xss) (L := L) (by omega)
      rw [hb] at hn ⊢
      obtain ⟨q, h1, h2, h3⟩ := bestK_by hn
      have hw := worstK_pos h2
      rw [h3]
      by_cases he : ∃ a, a < 3 ∧ partN xss A q a = A
      · obtain ⟨a, ha, he⟩ := he
        obtain ⟨w1, w2, w3⟩ := hw a ha
        have hl := partN_le xss L q a
        have hs2 : ∀ k, k < xss.length → bitN A k = true → bitN (partN xss L q a) k = true := fun k hk e => part_sub hs k hk (by rw [he]; exact e)
        have := ih (partN xss L q a) (by omega) (partN_lt xss L q a) A hA hs2 w2
        omega
      · have hw2 : 0 ≤ worstK xss (need xss) A q 3 ∧ worstK xss (need xss) A q 3 ≤ worstK xss (need xss) L q 3 := worstK_ok h2 fun a ha => by
          obtain ⟨w1, w2, w3⟩ := hw a ha
          have hl := partN_le xss L q a
          have := ih (partN xss L q a) (by omega) (partN_lt xss L q a) (partN xss A q a) (partN_lt xss A q a) (part_sub hs) w2
          exact ⟨fun e => he ⟨a, ha, e⟩, this.1, by omega⟩
        rw [need_big (by omega)]
        have := bestK_least (xss := xss) (g := need xss) (L := A) q h1 hw2.1
        omega

/-- Two of the things of a lot answer alike. -/
def Alike (xss : List (List Int)) (L : Nat) : Prop := ∃ i j, i < j ∧ j < xss.length ∧ bitN L i = true ∧ bitN L j = true ∧ ∀ q, q < asks xss → (xss.getD i []).getD q 0 = (xss.getD j []).getD q 0
theorem need_alike {xss : List (List Int)} (hT : tableB xss = true) : ∀ L, L < 2 ^ xss.length → Alike xss L → need xss L = -1 := by
  intro L
  induction L using Nat.strongRecOn with
  | _ L ih =>
    intro hL ⟨i, j, hij, hj, hi, hjb, hq⟩
    rw [need_big (cntN_pair hij hj hi hjb)]
    by_cases hb : 0 ≤ bestK xss (need xss) L (asks xss)
    · obtain ⟨q, h1, h2, h3⟩ := bestK_by hb
      have hw := worstK_pos h2
      have hv := row_value hT (k := i) (q := q) (by omega) h1
      obtain ⟨a, ha, hx⟩ : ∃ a : Nat, a < 3 ∧ (xss.getD i []).getD q 0 = (a : Int) := by
        rcases hv with h | h | h
        · exact ⟨0, by omega, h⟩
        · exact ⟨1, by omega, h⟩
        · exact ⟨2, by omega, h⟩
      obtain ⟨w1, w2, w3⟩ := hw a ha
      have hl := partN_le xss L q a
      have := ih (partN xss L q a) (by omega) (partN_lt xss L q a) ⟨i, j, hij, hj, by rw [bit_partN, hi, hx]; simp; omega, by rw [bit_partN, hjb, ← hq q h1, hx]; simp [hj], hq⟩
      omega
    · have := bestK_ge (xss := xss) (g := need xss) (L := L) (q := asks xss)
      omega
theorem need_told {xss : List (List Int)} (hT : tableB xss = true) : ∀ L, L < 2 ^ xss.length → ¬ Alike xss L → 0 ≤ need xss L := by
  intro L
  induction L using Nat.strongRecOn with
  | _ L ih =>
    intro hL hA
    by_cases hm : many xss L ≤ 1
    · rw [need_small hm]; omega
    · rw [need_big (by omega)]
      obtain ⟨i, j, hij, hj, hi, hjb⟩ := cntN_two (show 2 ≤ cntN (bitN L) xss.length by unfold many at hm; omega)
      have : ∃ q, q < asks xss ∧ ¬ (xss.getD i []).getD q 0 = (xss.getD j []).getD q 0 := by
        by_cases h : ∃ q, q < asks xss ∧ ¬ (xss.getD i []).getD q 0 = (xss.getD j []).getD q 0
        · exact h
        · exact absurd ⟨i, j, hij, hj, hi, hjb, fun q hq => Decidable.byContradiction fun e => h ⟨q, hq, e⟩⟩ hA
      obtain ⟨q, hq, hne⟩ := this
      have hp : ∀ a, a < 3 → partN xss L q a ≠ L ∧ 0 ≤ need xss (partN xss L q a) := fun a ha => by
        have h1 : partN xss L q a ≠ L := fun e => by
          have e1 := bit_partN xss L q a i
          have e2 := bit_partN xss L q a j
          rw [e, hi] at e1
          rw [e, hjb] at e2
          simp at e1 e2
          exact hne (by simp only [List.getD_eq_getElem?_getD]; rw [e1.2, e2.2])
        have hl := partN_le xss L q a
        refine ⟨h1, ih _ (by omega) (partN_lt xss L q a) fun ⟨i', j', a1, a2, a3, a4, a5⟩ => hA ⟨i', j', a1, a2, part_of i' (by omega) a3, part_of j' a2 a4, a5⟩⟩
      have hw := worstK_ok (xss := xss) (g := need xss) (L := L) (q := q) (k := 3) (W := max (need xss (partN xss L q 0)) (max (need xss (partN xss L q 1)) (need xss (partN xss L q 2))))
        (by have := (hp 0 (by omega)).2; omega) (fun a ha => ⟨(hp a ha).1, (hp a ha).2, by
          have h : a = 0 ∨ a = 1 ∨ a = 2 := by omega
          rcases h with rfl | rfl | rfl <;> omega⟩)
      exact (bestK_least q hq hw.1).1

/-- The best question: all that is left needs less. -/
theorem need_best {xss : List (List Int)} {L : Nat} (h : 1 ≤ need xss L) : ∃ q, q < asks xss ∧ ∀ a, a < 3 → partN xss L q a ≠ L ∧ 0 ≤ need xss (partN xss L q a) ∧ need xss (partN xss L q a) ≤ need xss L - 1 := by
  have hm : ¬ many xss L ≤ 1 := fun hm => by rw [need_small hm] at h; omega
  have hb := need_big (xss := xss) (L := L) (by omega)
  obtain ⟨q, h1, h2, h3⟩ := bestK_by (by rw [← hb]; omega)
  refine ⟨q, h1, fun a ha => ?_⟩
  obtain ⟨w1, w2, w3⟩ := worstK_pos h2 a ha
  exact ⟨w1, w2, by omega⟩
theorem need_least {xss : List (List Int)} {L q : Nat} {W : Int} (hm : 2 ≤ many xss L) (hq : q < asks xss) (hW : 0 ≤ W) (h : ∀ a, a < 3 → partN xss L q a ≠ L ∧ 0 ≤ need xss (partN xss L q a) ∧ need xss (partN xss L q a) ≤ W) : 0 ≤ need xss L ∧ need xss L ≤ 1 + W := by
  have hw := worstK_ok (k := 3) hW h
  have := bestK_least (xss := xss) (g := need xss) (L := L) q hq hw.1
  rw [need_big hm]
  omega
theorem need_many {xss : List (List Int)} {L : Nat} (h : 1 ≤ need xss L) : 2 ≤ many xss L := by
  by_cases hm : many xss L ≤ 1
  · rw [need_small hm] at h; omega
  · omega
theorem many_need {xss : List (List Int)} {L : Nat} (hm : 2 ≤ many xss L) (h : 0 ≤ need xss L) : 1 ≤ need xss L := by
  rw [need_big hm] at h ⊢
  obtain ⟨q, h1, h2, h3⟩ := bestK_by h
  omega
theorem parts_many {xss : List (List Int)} (hT : tableB xss = true) (L : Nat) {q : Nat} (hq : q < asks xss) : many xss (partN xss L q 0) + many xss (partN xss L q 1) + many xss (partN xss L q 2) = many xss L := by
  refine cntN_three fun k hk => ?_
  rw [bit_partN, bit_partN, bit_partN]
  rcases row_value hT hk hq with h | h | h <;> rw [h] <;> simp only [hk, decide_true] <;> cases bitN L k <;> simp
theorem many_less {xss : List (List Int)} {L q a : Nat} (hL : L < 2 ^ xss.length) (h : partN xss L q a ≠ L) : many xss (partN xss L q a) + 1 ≤ many xss L := by
  have : ∃ k, k < xss.length ∧ ¬ bitN (partN xss L q a) k = bitN L k := by
    by_cases hh : ∃ k, k < xss.length ∧ ¬ bitN (partN xss L q a) k = bitN L k
    · exact hh
    · exact absurd (lot_ext (partN_lt xss L q a) hL fun k hk => Decidable.byContradiction fun e => hh ⟨k, hk, e⟩) h
  obtain ⟨k, hk, hne⟩ := this
  refine cntN_less (j := k) part_of hk ?_ ?_
  · cases h1 : bitN (partN xss L q a) k
    · rfl
    · rw [h1, part_of k hk h1] at hne; simp at hne
  · cases h1 : bitN L k
    · cases h2 : bitN (partN xss L q a) k
      · rw [h1, h2] at hne; simp at hne
      · rw [part_of k hk h2] at h1; cases h1
    · rfl
/-- At most one question fewer than things. -/
theorem need_le_many {xss : List (List Int)} : ∀ L, L < 2 ^ xss.length → 1 ≤ many xss L → need xss L ≤ (many xss L : Int) - 1 := by
  intro L
  induction L using Nat.strongRecOn with
  | _ L ih =>
    intro hL h1
    by_cases hm : many xss L ≤ 1
    · rw [need_small hm]; omega
    · by_cases hn : 1 ≤ need xss L
      · obtain ⟨q, hq, hp⟩ := need_best hn
        have := need_least (xss := xss) (L := L) (q := q) (W := (many xss L : Int) - 2) (by omega) hq (by omega) fun a ha => by
          obtain ⟨p1, p2, p3⟩ := hp a ha
          refine ⟨p1, p2, ?_⟩
          have hl := partN_le xss L q a
          have hmm := many_less hL p1
          by_cases hz : 1 ≤ many xss (partN xss L q a)
          · have := ih _ (by omega) (partN_lt xss L q a) hz
            omega
          · rw [need_small (by omega)]; omega
        omega
      · omega
/-- As many things as there may be answers, at most. -/
theorem need_power {xss : List (List Int)} (hT : tableB xss = true) : ∀ n L : Nat, L < 2 ^ xss.length → need xss L = (n : Int) → many xss L ≤ 3 ^ n := by
  intro n
  induction n using Nat.strongRecOn with
  | _ n ih =>
    intro L hL hn
    by_cases hm : many xss L ≤ 1
    · have : 1 ≤ 3 ^ n := Nat.one_le_pow _ _ (by omega)
      omega
    · have h1 := many_need (xss := xss) (L := L) (by omega) (by omega)
      obtain ⟨q, hq, hp⟩ := need_best h1
      have hs := parts_many hT L hq
      have one : ∀ a, a < 3 → many xss (partN xss L q a) ≤ 3 ^ (n - 1) := fun a ha => by
        obtain ⟨p1, p2, p3⟩ := hp a ha
        obtain ⟨m, hm⟩ := Int.eq_ofNat_of_zero_le p2
        have h9 := ih m (by omega) _ (partN_lt xss L q a) hm
        have : 3 ^ m ≤ 3 ^ (n - 1) := Nat.pow_le_pow_right (by omega) (by omega)
        omega
      have h0 := one 0 (by omega)
      have h1 := one 1 (by omega)
      have h2 := one 2 (by omega)
      have e : 3 ^ n = 3 ^ (n - 1) * 3 := by rw [← Nat.pow_succ]; congr 1; omega
      omega

end Go.Proofs.Ytpeogghiboaceaa
