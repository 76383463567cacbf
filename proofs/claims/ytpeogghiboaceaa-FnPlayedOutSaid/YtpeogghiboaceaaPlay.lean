/- The game of questions played out: plain. No walk. -/
import Derived.Test.YtpeogghiboaceaaNeed2
import Derived.Test.YtpeogghiboaceaaApart
import Derived.Test.YtpeogghiboaceaaApart2
namespace Go.Proofs.Ytpeogghiboaceaa
open Go.RowKit
set_option linter.unusedVariables false

def fullN (xss : List (List Int)) : Nat := 2 ^ xss.length - 1
theorem fullN_lt (xss : List (List Int)) : fullN xss < 2 ^ xss.length := by
  have : 0 < 2 ^ xss.length := Nat.pow_pos (by omega)
  unfold fullN; omega
theorem bit_full (xss : List (List Int)) {k : Nat} (hk : k < xss.length) : bitN (fullN xss) k = true := by
  unfold fullN
  rw [bitN_test, Nat.testBit_two_pow_sub_one]
  simpa using hk

theorem row_ext {xss : List (List Int)} (hT : tableB xss = true) {i j : Nat} (hi : i < xss.length) (hj : j < xss.length) (h : ∀ q, q < asks xss → (xss.getD i []).getD q 0 = (xss.getD j []).getD q 0) : xss.getD i [] = xss.getD j [] := by
  have li := (tableB_row hT hi).1
  have lj := (tableB_row hT hj).1
  have ei : xss.getD i [] = xss[i] := by simp [List.getD, hi]
  have ej : xss.getD j [] = xss[j] := by simp [List.getD, hj]
  rw [ei, ej] at h ⊢
  refine List.ext_getElem (by omega) fun q h1 h2 => ?_
  have := h q (by unfold asks; omega)
  simpa [List.getD, h1, h2] using this
/-- All things are told apart exactly if the whole lot can be asked out. -/
theorem apart_need {xss : List (List Int)} (hT : tableB xss = true) : apartB xss = decide (0 ≤ need xss (fullN xss)) := by
  unfold apartB
  rw [hT, Bool.true_and, Bool.eq_iff_iff, decide_eq_true_eq, decide_eq_true_eq]
  constructor
  · intro h
    refine need_told hT _ (fullN_lt xss) fun ⟨i, j, hij, hj, _, _, hq⟩ => ?_
    exact h j hj i hij (row_ext hT hj (by omega) fun q hq' => (hq q hq').symm)
  · intro h i hi j hj e
    have := need_alike hT _ (fullN_lt xss) ⟨j, i, hj, hi, bit_full xss (by omega), bit_full xss hi, fun q _ => by rw [e]⟩
    omega

/-- What is left after k questions. -/
def askL (xss : List (List Int)) (L : Nat) : Nat := (askI xss L).toNat
def worL (xss : List (List Int)) (L : Nat) : Nat := (worI xss L (askL xss L)).toNat
def nextL (xss : List (List Int)) (L : Nat) : Nat := partN xss L (askL xss L) (worL xss L)
def lotK (xss : List (List Int)) : Nat → Nat
  | 0 => fullN xss
  | k + 1 => nextL xss (lotK xss k)
theorem lotK_lt (xss : List (List Int)) (k : Nat) : lotK xss k < 2 ^ xss.length := by
  cases k with
  | zero => exact fullN_lt xss
  | succ k => exact partN_lt _ _ _ _
def playN (xss : List (List Int)) : Nat := (need xss (fullN xss)).toNat
def playL (xss : List (List Int)) (k : Nat) : List Int := (List.range k).map fun j => askI xss (lotK xss j)
def playR (xss : List (List Int)) : List Int := if apartB xss = true then playL xss (playN xss) else []

/-- One round: the question, the answer, and what is left, which needs one question less. -/
theorem play_round {xss : List (List Int)} (hT : tableB xss = true) {L : Nat} (hL : L < 2 ^ xss.length) (h : 1 ≤ need xss L) :
    askI xss L = askL xss L ∧ askL xss L < asks xss ∧ goodQ xss L (askL xss L) = true ∧ worI xss L (askL xss L) = worL xss L ∧ worL xss L < 3 ∧ 0 < nextL xss L ∧ need xss (nextL xss L) = need xss L - 1 ∧ L ≠ 0 := by
  obtain ⟨q, hq, hql, hg, _⟩ := ask_some h
  have e1 : askL xss L = q := by unfold askL; rw [hq]; simp
  have h0 : L ≠ 0 := fun e => by
    have := need_many h
    subst e
    have h2 := need_rng xss 0
    omega
  obtain ⟨a, ha, hw, hp, hmax⟩ := wor_some hT hL h0 (by omega) hql
  have e2 : worL xss L = a := by unfold worL; rw [e1, hw]; simp
  have hn : nextL xss L = partN xss L q a := by unfold nextL; rw [e1, e2]
  have hgg := goodQ_iff.1 hg
  have hle := need_least (xss := xss) (L := L) (q := q) (W := need xss (partN xss L q a)) (need_many h) hql (hgg a ha).1 fun b hb => ⟨goodQ_splits hg b hb, (hgg b hb).1, hmax b hb⟩
  rw [e1, e2, hn]
  exact ⟨hq, hql, hg, hw, ha, hp, by have := (hgg a ha).2; omega, h0⟩

theorem lotK_need {xss : List (List Int)} (hT : tableB xss = true) (h : 0 ≤ need xss (fullN xss)) (k : Nat) : k ≤ playN xss → need xss (lotK xss k) = need xss (fullN xss) - k := by
  induction k with
  | zero => intro _; simp [lotK]
  | succ k ih =>
    intro hk
    have ih := ih (by omega)
    unfold playN at hk
    obtain ⟨_, _, _, _, _, _, h7, _⟩ := play_round hT (lotK_lt xss k) (by omega)
    rw [lotK, h7, ih]
    omega
theorem playL_length (xss : List (List Int)) (k : Nat) : (playL xss k).length = k := by simp [playL]
theorem playL_succ (xss : List (List Int)) (k : Nat) : playL xss (k + 1) = playL xss k ++ [askI xss (lotK xss k)] := by simp [playL, List.range_succ]
theorem askI_rng (xss : List (List Int)) (hT : tableB xss = true) (L : Nat) : -1 ≤ askI xss L ∧ askI xss L ≤ 5 := by
  have hm5 : asks xss ≤ 5 := by
    have := hT
    unfold tableB at this
    simp only [Bool.and_eq_true, decide_eq_true_eq] at this
    exact this.2.1
  unfold askI
  have := idxN_range (goodQ xss L) (asks xss)
  omega
theorem playR_small {xss : List (List Int)} (hT : tableB xss = true) (k : Nat) : ∀ x ∈ playL xss k, In64 x := by
  intro x hx
  obtain ⟨j, _, rfl⟩ := List.mem_map.1 hx
  have := askI_rng xss hT (lotK xss j)
  unfold In64; omega
theorem playN_le {xss : List (List Int)} (hT : tableB xss = true) : playN xss ≤ 127 := by
  have h1 := need_rng xss (fullN xss)
  have h2 := fullN_lt xss
  have h3 : 2 ^ xss.length ≤ 2 ^ 7 := Nat.pow_le_pow_right (by omega) (tableB_len hT).2
  unfold playN
  omega

/-- What PlayedOut gives. -/
def PlayIs (xss : List (List Int)) (l : List Int) (ok : Bool) : Prop := l = playR xss ∧ ok = apartB xss
theorem PlayIs.unique {xss : List (List Int)} {l l' : List Int} {ok ok' : Bool} (h : PlayIs xss l ok) (h' : PlayIs xss l' ok') : l = l' ∧ ok = ok' := ⟨h.1.trans h'.1.symm, h.2.trans h'.2.symm⟩
theorem apartB_table {xss : List (List Int)} (h : apartB xss = true) : tableB xss = true := by
  unfold apartB at h
  rw [Bool.and_eq_true] at h
  exact h.1
theorem PlayIs.small {xss : List (List Int)} {l : List Int} {ok : Bool} (h : PlayIs xss l ok) : l.length ≤ 1000000 ∧ ∀ x ∈ l, In64 x := by
  obtain ⟨rfl, _⟩ := h
  unfold playR
  split
  · rename_i ha
    have hT := apartB_table ha
    exact ⟨by rw [playL_length]; have := playN_le hT; omega, playR_small hT _⟩
  · simp

/-- No question is asked twice: an asked one would leave the whole lot. -/
theorem lotK_same {xss : List (List Int)} (hT : tableB xss = true) (h : 0 ≤ need xss (fullN xss)) {j : Nat} (hj : j < playN xss) : ∀ d, j + 1 + d ≤ playN xss → partN xss (lotK xss (j + 1 + d)) (askL xss (lotK xss j)) (worL xss (lotK xss j)) = lotK xss (j + 1 + d) := by
  intro d
  have key : ∀ k, k < xss.length → bitN (lotK xss (j + 1 + d)) k = true → bitN (lotK xss (j + 1)) k = true := by
    induction d with
    | zero => intro k _ h; exact h
    | succ d ih => intro k hk h; exact ih k hk (part_of (q := askL xss (lotK xss (j + 1 + d))) (a := worL xss (lotK xss (j + 1 + d))) k hk h)
  intro hd
  refine lot_ext (partN_lt _ _ _ _) (lotK_lt _ _) fun k hk => ?_
  rw [bit_partN]
  cases hb : bitN (lotK xss (j + 1 + d)) k
  · simp
  · have h1 := key k hk hb
    rw [lotK, nextL, bit_partN] at h1
    simp only [hk, decide_true, Bool.true_and, Bool.and_eq_true] at h1 ⊢
    exact h1.2
theorem play_once {xss : List (List Int)} (hT : tableB xss = true) (h : 0 ≤ need xss (fullN xss)) {j k : Nat} (hjk : j < k) (hk : k < playN xss) : askI xss (lotK xss j) ≠ askI xss (lotK xss k) := by
  intro e
  have hnj := lotK_need hT h j (by omega)
  have hnk := lotK_need hT h k (by omega)
  have hN : (playN xss : Int) = need xss (fullN xss) := by unfold playN; omega
  obtain ⟨a1, a2, a3, a4, a5, a6, a7, _⟩ := play_round hT (lotK_lt xss j) (by omega)
  obtain ⟨b1, b2, b3, b4, b5, b6, b7, _⟩ := play_round hT (lotK_lt xss k) (by omega)
  have eq : askL xss (lotK xss j) = askL xss (lotK xss k) := by unfold askL; rw [e]
  have hs := lotK_same hT h (j := j) (by omega) (k - j - 1) (by omega)
  rw [show j + 1 + (k - j - 1) = k by omega, eq] at hs
  exact goodQ_splits b3 _ a5 hs

end Go.Proofs.Ytpeogghiboaceaa
