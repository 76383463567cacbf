/- Plain laws of the cat in boxes: sets grow, paths, a hunt turned round. No function of the program is walked here. -/
import Derived.Test.YtpeogghiboaceaaMet
import Derived.Test.YtpeogghiboaceaaSurely
namespace Go.Proofs.Ytpeogghiboaceaa
open Go.RowKit Go.Shelf
set_option linter.unusedVariables false

theorem bitN_testBit (S k : Nat) : bitN S k = S.testBit k := by
  rw [Nat.testBit_eq_decide_div_mod_eq]
  unfold bitN
  rw [Bool.eq_iff_iff]
  simp
theorem reachN_iff {xss : List (List Int)} {S : Nat} {o : Int} {j i : Nat} : reachN xss S o j i = true ↔ ∃ t, t < i ∧ (t : Int) ≠ o ∧ S.testBit t = true ∧ cell2 xss t j = 1 := by
  induction i with
  | zero => simp [reachN]
  | succ i ih =>
    rw [reachN, Bool.or_eq_true, ih, bitN_testBit]
    simp only [Bool.and_eq_true, bne_iff_ne, edge, beq_iff_eq]
    constructor
    · rintro (⟨t, h1, h2⟩ | ⟨⟨h1, h2⟩, h3⟩)
      · exact ⟨t, by omega, h2⟩
      · exact ⟨i, by omega, h1, h2, h3⟩
    · rintro ⟨t, h1, h2, h3, h4⟩
      by_cases e : t = i
      · subst e; exact .inr ⟨⟨h2, h3⟩, h4⟩
      · exact .inl ⟨t, by omega, h2, h3, h4⟩
theorem after_bit {xss : List (List Int)} {S : Nat} {o : Int} {j : Nat} : (afterN xss S o).testBit j = true ↔ j < xss.length ∧ ∃ t, t < xss.length ∧ (t : Int) ≠ o ∧ S.testBit t = true ∧ cell2 xss t j = 1 := by
  unfold afterN
  rw [testBit_lotN, Bool.and_eq_true, decide_eq_true_eq, reachN_iff]
theorem after_grows {xss : List (List Int)} {S T : Nat} {o : Int} (h : ∀ t, S.testBit t = true → T.testBit t = true) (j : Nat) (hj : (afterN xss S o).testBit j = true) : (afterN xss T o).testBit j = true := by
  rw [after_bit] at hj ⊢
  obtain ⟨h1, t, h2, h3, h4, h5⟩ := hj
  exact ⟨h1, t, h2, h3, h _ h4, h5⟩
theorem after_none (xss : List (List Int)) (o : Int) : afterN xss 0 o = 0 := by
  apply Nat.eq_of_testBit_eq
  intro j
  rw [Nat.zero_testBit, Bool.eq_false_iff]
  intro h
  obtain ⟨_, t, _, _, h4, _⟩ := after_bit.1 h
  simp at h4
/-- A set without one of its boxes. -/
theorem less_bit {S k t : Nat} (hk : S.testBit k = true) (ht : (S - 2 ^ k).testBit t = true) : S.testBit t = true := by
  have hle : 2 ^ k ≤ S := Nat.ge_two_pow_of_testBit hk
  obtain ⟨x, hx⟩ : ∃ x, S = 2 ^ k + x := ⟨S - 2 ^ k, by omega⟩
  rw [hx, Nat.add_sub_cancel_left] at ht
  rcases Nat.lt_trichotomy t k with h | h | h
  · rw [hx, Nat.testBit_two_pow_add_gt h]; exact ht
  · rw [h]; exact hk
  · rw [hx] at hk ⊢
    rw [Nat.testBit_two_pow_add_eq] at hk
    have hx2 : x / 2 ^ k % 2 = 0 := by
      have : x.testBit k = false := by simpa using hk
      rw [Nat.testBit_eq_decide_div_mod_eq] at this
      simp at this
      omega
    have e : (2 ^ k + x) / 2 ^ (k + 1) = x / 2 ^ (k + 1) := by
      rw [Nat.pow_succ, ← Nat.div_div_eq_div_mul, ← Nat.div_div_eq_div_mul, Nat.add_div_left _ (Nat.pow_pos (by omega))]
      omega
    obtain ⟨d, rfl⟩ : ∃ d, t = d + (k + 1) := ⟨t - (k + 1), by omega⟩
    rw [← Nat.testBit_div_two_pow] at ht ⊢
    rw [e]; exact ht
theorem bit_le {a b j : Nat} (h : a.testBit j = true → b.testBit j = true) : a / 2 ^ j % 2 ≤ b / 2 ^ j % 2 := by
  rw [Nat.testBit_eq_decide_div_mod_eq, Nat.testBit_eq_decide_div_mod_eq] at h
  simp only [decide_eq_true_eq] at h
  omega

/-! ### Boxes beside each other -/
theorem cell_sym {xss : List (List Int)} (h : besideB xss = true) {i j : Nat} (hi : i < xss.length) (hj : j < xss.length) : cell2 xss i j = cell2 xss j i := by
  have hp : besideP xss := of_decide_eq_true h
  rcases Nat.lt_trichotomy i j with e | e | e
  · exact (hp.2.2 j hj i e).symm
  · rw [e]
  · exact hp.2.2 i hi j e
theorem cell_01 {xss : List (List Int)} (h : besideB xss = true) {i j : Nat} (hi : i < xss.length) (hj : j < xss.length) : cell2 xss i j = 0 ∨ cell2 xss i j = 1 := by
  obtain ⟨h1, h2⟩ := (besideB_spec h).2 i hi
  rw [cell2_eq hi (by omega)]
  exact h2 j (by omega)
theorem sum64_zeros (l : List Int) (h : ∀ x ∈ l, x = 0) : sum64 l = 0 := by
  have key : ∀ (l : List Int) (a : Int), a = 0 → (∀ x ∈ l, x = 0) → l.foldl (fun a x => wrap64 (a + x)) a = 0 := by
    intro l
    induction l with
    | nil => intro a ha _; exact ha
    | cons x l ih =>
      intro a ha hl
      rw [List.foldl_cons]
      refine ih _ ?_ (fun y hy => hl y (List.mem_cons_of_mem _ hy))
      rw [ha, hl x List.mem_cons_self]; unfold wrap64; omega
  exact key l 0 rfl h
theorem has_next {xss : List (List Int)} (h : besideB xss = true) (hn : 1 < xss.length) {i : Nat} (hi : i < xss.length) : ∃ j, j < xss.length ∧ cell2 xss i j = 1 := by
  have hp : besideP xss := of_decide_eq_true h
  obtain ⟨h1, _, _, h4⟩ := hp.2.1 i hi
  rw [getD_get hi] at h1 h4
  apply Classical.byContradiction
  intro hno
  refine h4 hn (sum64_zeros _ fun x hx => ?_)
  obtain ⟨j, hj, rfl⟩ := List.getElem_of_mem hx
  rw [← cell2_eq hi hj]
  rcases cell_01 h hi (show j < xss.length by omega) with e | e
  · exact e
  · exact absurd ⟨j, by omega, e⟩ hno

/-! ### Paths -/
/-- A walk of the cat over m boxes that is not found by the hunt. -/
def Free (xss : List (List Int)) (xs : List Int) (m : Nat) (c : Nat → Nat) : Prop :=
  (∀ t, t < m → c t < xss.length) ∧ (∀ t, t < m → (c t : Int) ≠ xs.getD t 0) ∧ ∀ t, t + 1 < m → cell2 xss (c t) (c (t + 1)) = 1
theorem left_bit {xss : List (List Int)} {xs : List Int} : ∀ {k j : Nat}, (leftN xss xs k).testBit j = true ↔
    j < xss.length ∧ ∃ c : Nat → Nat, Free xss xs k c ∧ (k = 0 ∨ cell2 xss (c (k - 1)) j = 1) := by
  intro k
  induction k with
  | zero =>
    intro j
    rw [leftN, Nat.testBit_two_pow_sub_one, decide_eq_true_eq]
    constructor
    · intro h; exact ⟨h, fun _ => 0, ⟨fun t h => by omega, fun t h => by omega, fun t h => by omega⟩, .inl rfl⟩
    · intro h; exact h.1
  | succ k ih =>
    intro j
    rw [leftN, after_bit]
    constructor
    · rintro ⟨hj, t, ht, hto, hb, hc⟩
      obtain ⟨_, c, ⟨h1, h2, h3⟩, h4⟩ := ih.1 hb
      refine ⟨hj, fun u => if u < k then c u else t, ⟨fun u hu => ?_, fun u hu => ?_, fun u hu => ?_⟩, .inr ?_⟩
      · by_cases e : u < k
        · simp only [e, if_true]; exact h1 u e
        · simp only [e, if_false]; exact ht
      · by_cases e : u < k
        · simp only [e, if_true]; exact h2 u e
        · simp only [e, if_false]; rw [show u = k by omega]; exact hto
      · by_cases e : u + 1 < k
        · simp only [show u < k by omega, e, if_true]; exact h3 u e
        · have e2 : u < k := by omega
          simp only [e, if_false, e2, if_true]
          rcases h4 with h4 | h4
          · omega
          · rw [show u = k - 1 by omega]; exact h4
      · simp only [Nat.add_sub_cancel, Nat.lt_irrefl, if_false]; exact hc
    · rintro ⟨hj, c, ⟨h1, h2, h3⟩, h4⟩
      refine ⟨hj, c k, h1 k (by omega), h2 k (by omega), ?_, ?_⟩
      · rw [ih]
        refine ⟨h1 k (by omega), c, ⟨fun t h => h1 t (by omega), fun t h => h2 t (by omega), fun t h => h3 t (by omega)⟩, ?_⟩
        by_cases e : k = 0
        · exact .inl e
        · right
          have := h3 (k - 1) (by omega)
          rwa [show k - 1 + 1 = k by omega] at this
      · rcases h4 with h4 | h4
        · omega
        · simpa using h4
/-- Something is left exactly if the cat may go unfound. -/
theorem left_free {xss : List (List Int)} {xs : List Int} (h : daysB xss xs = true) (h0 : 0 < xs.length) : leftN xss xs xs.length ≠ 0 ↔ ∃ c, Free xss xs xs.length c := by
  obtain ⟨hb, _, hin⟩ := daysB_spec h
  have hn := (besideB_spec hb).1
  constructor
  · intro hne
    obtain ⟨j, hj⟩ := Nat.exists_testBit_of_ne_zero hne
    obtain ⟨_, c, hc, _⟩ := left_bit.1 hj
    exact ⟨c, hc⟩
  · rintro ⟨c, hc⟩ he
    by_cases hn1 : 1 < xss.length
    · obtain ⟨j, hj, hcj⟩ := has_next hb hn1 (hc.1 (xs.length - 1) (by omega))
      have := (left_bit (xs := xs) (k := xs.length)).2 ⟨hj, c, hc, .inr hcj⟩
      rw [he] at this
      simp at this
    · have h1 := hc.1 0 h0
      have h2 := hc.2.1 0 h0
      have h3 := hin 0 h0
      rw [getD_get h0] at h2
      have h4 : 0 ≤ xs[0] ∧ xs[0] ≤ (xss.length : Int) - 1 := by simpa [inB] using h3
      omega
theorem days_reverse (xss : List (List Int)) (xs : List Int) : daysB xss xs.reverse = daysB xss xs := by
  unfold daysB allB
  rw [List.length_reverse, List.all_reverse]
theorem getD_reverse {xs : List Int} {t : Nat} (ht : t < xs.length) : xs.reverse.getD t 0 = xs.getD (xs.length - 1 - t) 0 := by
  rw [getD_get (by simpa using ht), getD_get (by omega), List.getElem_reverse]
theorem free_reverse {xss : List (List Int)} (hb : besideB xss = true) {xs : List Int} (h : ∃ c, Free xss xs xs.length c) : ∃ c, Free xss xs.reverse xs.reverse.length c := by
  obtain ⟨c, h1, h2, h3⟩ := h
  refine ⟨fun t => c (xs.length - 1 - t), fun t ht => ?_, fun t ht => ?_, fun t ht => ?_⟩
  · rw [List.length_reverse] at ht; exact h1 _ (by omega)
  · rw [List.length_reverse] at ht
    rw [getD_reverse ht]; exact h2 _ (by omega)
  · rw [List.length_reverse] at ht
    have := h3 (xs.length - 1 - (t + 1)) (by omega)
    rw [show xs.length - 1 - (t + 1) + 1 = xs.length - 1 - t by omega] at this
    show cell2 xss (c (xs.length - 1 - t)) (c (xs.length - 1 - (t + 1))) = 1
    rw [cell_sym hb (h1 _ (by omega)) (h1 _ (by omega))]
    exact this
/-- A hunt turned round is a hunt. -/
theorem surely_reverse (xss : List (List Int)) (xs : List Int) : surelyB xss xs.reverse = surelyB xss xs := by
  unfold surelyB leftR
  rw [days_reverse]
  cases h : daysB xss xs
  · rfl
  · have hb := (daysB_spec h).1
    by_cases h0 : xs.length = 0
    · rw [List.eq_nil_of_length_eq_zero h0]; rfl
    · have h1 := left_free h (by omega)
      have h2 := left_free (xs := xs.reverse) (by rw [days_reverse]; exact h) (by simp; omega)
      have key : (leftN xss xs.reverse xs.reverse.length ≠ 0) ↔ (leftN xss xs xs.length ≠ 0) := by
        rw [h1, h2]
        constructor
        · intro hh
          have := free_reverse hb hh
          rwa [List.reverse_reverse] at this
        · exact free_reverse hb
      simp only [if_true]
      rw [Bool.eq_iff_iff, beq_iff_eq, beq_iff_eq]
      omega

/-! ### Met -/
theorem metFrom_none {xs ys : List Int} : ∀ {m k : Nat}, metFrom xs ys m k = 0 → ∀ t, k ≤ t → t < k + m → xs.getD t 0 ≠ ys.getD t 0 := by
  intro m
  induction m with
  | zero => intro k _ t h1 h2; omega
  | succ m ih =>
    intro k h t h1 h2
    rw [metFrom] at h
    split at h
    · omega
    · rename_i hne
      by_cases e : t = k
      · subst e; exact hne
      · exact ih h t (by omega) (by omega)
theorem metFrom_range {xs ys : List Int} : ∀ {m k : Nat}, 0 ≤ metFrom xs ys m k ∧ metFrom xs ys m k ≤ (k + m : Nat) := by
  intro m
  induction m with
  | zero => intro k; rw [metFrom]; omega
  | succ m ih =>
    intro k
    rw [metFrom]
    split
    · omega
    · have := @ih (k + 1); omega
theorem met_surely {xss : List (List Int)} {xs ys : List Int} (h : 0 ≤ metR xss xs ys) :
    metR xss xs ys ≤ xs.length ∧ metR xss xs ys ≤ ys.length ∧ (surelyB xss xs = true → ys.length < xs.length ∨ 0 < metR xss xs ys) := by
  unfold metR at h ⊢
  split at h
  · rename_i hm
    rw [if_pos hm]
    have hr := @metFrom_range xs ys (min xs.length ys.length) 0
    refine ⟨by omega, by omega, fun hs => ?_⟩
    apply Classical.byContradiction
    intro hno
    have hm0 : metFrom xs ys (min xs.length ys.length) 0 = 0 := by omega
    have hlen : xs.length ≤ ys.length := by omega
    rw [Nat.min_eq_left hlen] at hm0
    have hne := metFrom_none hm0
    unfold metB at hm
    simp only [Bool.and_eq_true] at hm
    obtain ⟨⟨hx, hy⟩, hh⟩ := hm
    obtain ⟨hb, _, hyin⟩ := daysB_spec hy
    have hs2 : leftN xss xs xs.length = 0 := by
      unfold surelyB leftR at hs
      rw [if_pos hx, beq_iff_eq] at hs
      omega
    have hyr : ∀ t, t < ys.length → ((ys.getD t 0).toNat : Int) = ys.getD t 0 ∧ (ys.getD t 0).toNat < xss.length := fun t ht => by
      have := hyin t ht
      rw [getD_get ht]
      have h4 : 0 ≤ ys[t] ∧ ys[t] ≤ (xss.length : Int) - 1 := by simpa [inB] using this
      omega
    by_cases h0 : xs.length = 0
    · rw [h0, leftN] at hs2
      have := (besideB_spec hb).1
      have h2 := Nat.pow_lt_pow_right (show 1 < 2 by omega) (show 0 < xss.length by omega)
      omega
    · refine (left_free hx (by omega)).2 ⟨fun t => (ys.getD t 0).toNat, fun t ht => (hyr t (by omega)).2, fun t ht => ?_, fun t ht => ?_⟩ hs2
      · rw [(hyr t (by omega)).1]
        exact fun e => hne t (by omega) (by omega) e.symm
      · have hhop : hop xss ys (t + 1) ≠ 0 := by
          unfold hopsB at hh
          simp only [List.all_eq_true] at hh
          have := hh (t + 1) (by simp; omega)
          simpa using this
        unfold hop at hhop
        rw [Nat.add_sub_cancel] at hhop
        rcases cell_01 hb (hyr t (by omega)).2 (hyr (t + 1) (by omega)).2 with e | e
        · exact absurd e hhop
        · exact e
  · omega

/-! ### One day more -/
theorem leftN_append (xss : List (List Int)) (xs : List Int) (x : Int) : ∀ k, k ≤ xs.length → leftN xss (xs ++ [x]) k = leftN xss xs k := by
  intro k
  induction k with
  | zero => intro _; rfl
  | succ k ih =>
    intro hk
    rw [leftN, leftN, ih (by omega), getD_get (show k < (xs ++ [x]).length by simp; omega), getD_get (show k < xs.length by omega), List.getElem_append_left (by omega)]
theorem days_append {xss : List (List Int)} {xs : List Int} (h : daysB xss xs = true) (h16 : xs.length < 16) {x : Int} (hx : inB x 0 ((xss.length : Int) - 1) = true) : daysB xss (xs ++ [x]) = true := by
  obtain ⟨hb, _, hin⟩ := daysB_spec h
  refine daysB_yes hb (by simp; omega) fun k hk => ?_
  by_cases e : k < xs.length
  · rw [List.getElem_append_left e]; exact hin k e
  · have e2 : k = xs.length := by simp at hk; omega
    subst e2
    simpa using hx
theorem left_append {xss : List (List Int)} {xs : List Int} (h : daysB xss xs = true) (h16 : xs.length < 16) {x : Int} (hx : inB x 0 ((xss.length : Int) - 1) = true) : leftR xss (xs ++ [x]) = (afterN xss (leftN xss xs xs.length) x : Nat) := by
  unfold leftR
  rw [if_pos (days_append h h16 hx)]
  have e : (xs ++ [x]).length = xs.length + 1 := by simp
  rw [e, leftN, leftN_append _ _ _ _ (Nat.le_refl _), getD_get (by simp)]
  simp
theorem left_nil {xss : List (List Int)} (hb : besideB xss = true) : leftR xss [] = ((2 ^ xss.length - 1 : Nat) : Int) := by
  unfold leftR
  rw [if_pos (daysB_yes hb (by simp) (fun k hk => by simp at hk))]
  rfl

end Go.Proofs.Ytpeogghiboaceaa
