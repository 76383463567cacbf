/- For all answers together the lot is the lot. -/
import Derived.Test.YtpeogghiboaceaaLot
namespace Go.Proofs.Ytpeogghiboaceaa
open Go.RowKit
set_option linter.unusedVariables false

theorem lotN_mod (L n : Nat) : lotN (bitN L) n = L % 2 ^ n := by
  induction n with
  | zero => simp [lotN, Nat.mod_one]
  | succ n ih =>
    rw [lotN, ih, Nat.mod_pow_succ]
    have h2 : L / 2 ^ n % 2 = 0 ∨ L / 2 ^ n % 2 = 1 := by omega
    rcases h2 with h | h <;> simp [bitN, h]

theorem lotN_three {f f0 f1 f2 : Nat → Bool} {n : Nat} (h : ∀ k, k < n → (f k = false ∧ f0 k = false ∧ f1 k = false ∧ f2 k = false) ∨ (f k = true ∧ ((f0 k = true ∧ f1 k = false ∧ f2 k = false) ∨ (f0 k = false ∧ f1 k = true ∧ f2 k = false) ∨ (f0 k = false ∧ f1 k = false ∧ f2 k = true)))) :
    lotN f0 n + lotN f1 n + lotN f2 n = lotN f n := by
  induction n with
  | zero => simp [lotN]
  | succ n ih =>
    have ih := ih fun k hk => h k (by omega)
    have hn := h n (by omega)
    simp only [lotN]
    rcases hn with ⟨h, h0, h1, h2⟩ | ⟨h, ⟨h0, h1, h2⟩ | ⟨h0, h1, h2⟩ | ⟨h0, h1, h2⟩⟩ <;> simp only [h, h0, h1, h2, if_true, Bool.false_eq_true, if_false] <;> omega

/-- The lots behind the answers below k together. -/
def sumLot (xss : List (List Int)) (lot q : Int) : Nat → Int
  | 0 => 0
  | k + 1 => sumLot xss lot q k + lotAfterR xss lot q k

theorem lotAfterR_rng (xss : List (List Int)) (lot q a : Int) : -1 ≤ lotAfterR xss lot q a ∧ lotAfterR xss lot q a ≤ 128 := by
  unfold lotAfterR
  split
  · rename_i h
    simp only [Bool.and_eq_true] at h
    have h1 := lotN_lt (hitB xss lot.toNat q.toNat a) xss.length
    have h2 := (tableB_len h.1.1.1).2
    have h3 : 2 ^ xss.length ≤ 2 ^ 7 := Nat.pow_le_pow_right (by omega) h2
    omega
  · omega
theorem sumLot_rng (xss : List (List Int)) (lot q : Int) (k : Nat) (hk : k ≤ 3) : -3 ≤ sumLot xss lot q k ∧ sumLot xss lot q k ≤ 400 := by
  have h0 := lotAfterR_rng xss lot q (0 : Nat)
  have h1 := lotAfterR_rng xss lot q (1 : Nat)
  have h2 := lotAfterR_rng xss lot q (2 : Nat)
  have hc : k = 0 ∨ k = 1 ∨ k = 2 ∨ k = 3 := by omega
  rcases hc with rfl | rfl | rfl | rfl <;> simp only [sumLot] <;> omega

theorem row_value {xss : List (List Int)} (h : tableB xss = true) {k q : Nat} (hk : k < xss.length) (hq : q < (xss.headD []).length) : (xss.getD k []).getD q 0 = 0 ∨ (xss.getD k []).getD q 0 = 1 ∨ (xss.getD k []).getD q 0 = 2 := by
  unfold tableB at h
  simp only [Bool.and_eq_true, List.all_eq_true, decide_eq_true_eq] at h
  have := h.2.2 xss[k] (List.getElem_mem _)
  unfold rowOk at this
  simp only [Bool.and_eq_true, decide_eq_true_eq] at this
  have e : xss.getD k [] = xss[k] := by simp [List.getD, hk]
  rw [e]
  have hq' : q < xss[k].length := by omega
  have e2 : xss[k].getD q 0 = xss[k][q] := by simp [List.getD, hq']
  rw [e2]
  have h3 := this.2
  unfold allB at h3
  simp only [List.all_eq_true] at h3
  have := h3 xss[k][q] (List.getElem_mem _)
  have := inB_yes this
  omega

theorem sumLot_all {xss : List (List Int)} {lot q a : Int} (h : ¬ lotAfterR xss lot q a < 0) : sumLot xss lot q 3 = lot := by
  unfold lotAfterR at h
  split at h
  · rename_i hg
    simp only [Bool.and_eq_true] at hg
    obtain ⟨⟨⟨ht, hl⟩, hq⟩, ha⟩ := hg
    obtain ⟨L, rfl, hL⟩ := lotOk_nat hl
    have hq2 := inB_yes hq
    obtain ⟨Q, rfl⟩ := Int.eq_ofNat_of_zero_le hq2.1
    have hQ : Q < (xss.headD []).length := by omega
    have hR : ∀ c : Int, 0 ≤ c → c ≤ 2 → lotAfterR xss L Q c = (lotN (hitB xss L Q c) xss.length : Nat) := fun c h0 h2 => by
      unfold lotAfterR
      rw [if_pos (by simp [ht, hl, hq, inB, h0, h2])]
      simp
    have h3 := lotN_three (f := bitN L) (f0 := hitB xss L Q 0) (f1 := hitB xss L Q 1) (f2 := hitB xss L Q 2) (n := xss.length) fun k hk => by
      unfold hitB
      rcases row_value ht hk hQ with h | h | h <;> rw [h] <;> cases bitN L k <;> simp
    rw [lotN_mod, Nat.mod_eq_of_lt hL] at h3
    have e0 := hR 0 (by omega) (by omega)
    have e1 := hR 1 (by omega) (by omega)
    have e2 := hR 2 (by omega) (by omega)
    simp only [sumLot]
    have c0 : ((0 : Nat) : Int) = 0 := rfl
    have c1 : ((1 : Nat) : Int) = 1 := rfl
    have c2 : ((2 : Nat) : Int) = 2 := rfl
    simp only [c0, c1, c2, e0, e1, e2]
    omega
  · omega

theorem lotAfterR_neg {xss : List (List Int)} {lot q a : Int} (h : lotAfterR xss lot q a < 0) : lotAfterR xss lot q a = -1 := by
  have := lotAfterR_rng xss lot q a
  omega

end Go.Proofs.Ytpeogghiboaceaa
