/- The walk of FnNeededAt. -/
import Derived.Test.YtpeogghiboaceaaDrawNeed
import Derived.Test.YtpeogghiboaceaaPlaySpec
import Derived.Test.YtpeogghiboaceaaAlive
namespace Go.Proofs.Ytpeogghiboaceaa
open Go.RowKit
set_option linter.unusedVariables false
set_option maxRecDepth 100000

/-! ### Fewer things -/
theorem lotN_drop {f : Nat → Bool} {n i : Nat} (hi : i < n) (hf : f i = true) : lotN f n = lotN (fun k => f k && k != i) n + 2 ^ i := by
  induction n with
  | zero => omega
  | succ n ih =>
    simp only [lotN]
    by_cases e : i = n
    · subst e
      have : lotN f i = lotN (fun k => f k && k != i) i := lotN_same fun k hk => by
        have : (k != i) = true := by simp; omega
        rw [this, Bool.and_true]
      rw [this]
      simp [hf]
    · rw [ih (by omega)]
      have h2 : (f n && n != i) = f n := by
        have : (n != i) = true := by simp; omega
        rw [this, Bool.and_true]
      simp only [h2]
      omega
theorem drop_bit {n L i : Nat} (hL : L < 2 ^ n) (hi : i < n) (hb : bitN L i = true) : 2 ^ i ≤ L ∧ L - 2 ^ i < 2 ^ n ∧ ∀ k, k < n → bitN (L - 2 ^ i) k = true → bitN L k = true := by
  have h1 := lotN_mod L n
  rw [Nat.mod_eq_of_lt hL] at h1
  have h2 := lotN_drop hi hb
  rw [h1] at h2
  have h3 : L - 2 ^ i = lotN (fun k => bitN L k && k != i) n := by omega
  refine ⟨by omega, by rw [h3]; exact lotN_lt _ _, fun k hk h => ?_⟩
  rw [h3, bitN_lotN] at h
  simp only [hk, decide_true, Bool.true_and, Bool.and_eq_true] at h
  exact h.1
theorem idxN_succ_no {p : Nat → Bool} {k : Nat} (h : p k = false) : idxN p (k + 1) = idxN p k := by
  unfold idxN
  rw [List.range_succ, List.find?_append]
  cases hf : (List.range k).find? p with
  | some i => simp
  | none => simp [h]
theorem idxN_succ_first {p : Nat → Bool} {k : Nat} (h : p k = true) (h0 : idxN p k < 0) : idxN p (k + 1) = k := by
  unfold idxN at h0 ⊢
  rw [List.range_succ, List.find?_append]
  cases hf : (List.range k).find? p with
  | some i => rw [hf] at h0; simp at h0; omega
  | none => simp [h]
theorem idxN_succ_old {p : Nat → Bool} {k : Nat} (h0 : ¬ idxN p k < 0) : idxN p (k + 1) = idxN p k := by
  unfold idxN at h0 ⊢
  rw [List.range_succ, List.find?_append]
  cases hf : (List.range k).find? p with
  | some i => simp
  | none => rw [hf] at h0; simp at h0
theorem idxN_some {p : Nat → Bool} {n : Nat} (h : 1 ≤ cntN p n) : ∃ i : Nat, idxN p n = i ∧ i < n ∧ p i = true := by
  obtain ⟨j, hj, hp⟩ := cntN_one h
  unfold idxN
  cases hf : (List.range n).find? p with
  | some i =>
    rw [List.find?_range_eq_some] at hf
    exact ⟨i, rfl, by simpa using hf.2.1, hf.1⟩
  | none =>
    rw [List.find?_range_eq_none] at hf
    have := hf j hj
    rw [hp] at this
    cases this
theorem need_six {xss : List (List Int)} (hn : xss.length ≤ 7) {L : Nat} (hL : L < 2 ^ xss.length) : need xss L ≤ 6 := by
  by_cases h : 1 ≤ many xss L
  · have := need_le_many L hL h
    have := cntN_le (bitN L) xss.length
    unfold many at *
    omega
  · rw [need_small (by omega)]; omega
theorem pow3_small {j : Nat} (hj : j ≤ 6) : 1 ≤ 3 ^ j ∧ 3 ^ j ≤ 729 := by
  have h1 : 3 ^ j ≤ 3 ^ 6 := Nat.pow_le_pow_right (by omega) hj
  have h2 : 0 < 3 ^ j := Nat.pow_pos (by omega)
  omega

set_option maxHeartbeats 4000000 in
theorem FnNeededAt_walk (v : Value) (bs : List Int) (w : World) (h : Bytes 0 w v bs) :
    Calls Try.prog 5 #[v] w fun e w' => e = .returned (.bool true) ∧ Below w.heap.size w w' := by
  obtain ⟨a0, cap0, rfl, hc1, hc2, hc3⟩ := id h.1
  rw [List.length_map] at h ⊢
  clear hc1 hc2 hc3
  by_cases hs : 1048576 < bs.length
  · go_enter Try.func5, Try.ntmps5
    go_wp2
    go_ret
    exact ⟨rfl, Below.refl _ _⟩
  · go_enter Try.func5, Try.ntmps5
    go_wp2_with fail
    refine (drawNeededAt_any _ _ _ h).mono ?_
    rintro e w1 ⟨xss, a1, c1, lot, rfl, hl0, hl1, hx1, hb1⟩
    clear h
    go_wp2_with fail
    refine (implNeededAt_any _ _ _ _ hx1).mono ?_
    rintro e w2 ⟨rfl, hb2⟩
    have hx2 := hx1.below hb2
    have hbb2 := hb1.trans (hb2.mono hb1.size)
    clear hx1 hb1 hb2
    go_wp2_with fail
    refine (specNeededAt_any _ _ _ _ hx2).mono ?_
    rintro e w3 ⟨rfl, hb3⟩
    have hx3 := hx2.below hb3
    have hbb3 := hbb2.trans (hb3.mono hbb2.size)
    have hself : (needAtR xss lot != needAtR xss lot) = false := by simp
    clear hx2 hbb2 hb3
    by_cases hneg : needAtR xss lot < 0
    · have hm : needAtR xss lot = -1 := by
        unfold needAtR at hneg ⊢
        split at hneg
        · rename_i hh
          rw [if_pos hh]
          have := need_rng xss lot.toNat
          omega
        · rename_i hh
          rw [if_neg hh]
      rw [hm]
      clear hm hneg hself hx3
      go_wp2_with fail
      refine (alive_any _).mono ?_
      rintro e w7 ⟨rfl, rfl⟩
      go_wp2
      go_ret
      exact ⟨rfl, hbb3⟩
    · have hok := needAt_pos (xss := xss) (lot := lot) (by omega)
      obtain ⟨hT, L, rfl, hL⟩ := lot_parts hok
      rw [needAt_yes hok] at hneg hself ⊢
      have hn := tableB_len hT
      have hL7 := lot_128 hn.2 hL
      have h6 := need_six hn.2 hL
      have hdn : decide (need xss L < 0) = false := decide_eq_false hneg
      have HB3 := Lib.hid hbb3
      have HX3 := Lib.hid hx3
      have hlen : (xss.length : Int) ≤ 7 := by omega
      clear hok hbb3 hx3
      go_wp2
      go_loop [6, 7, 8] (fun m f k => ∃ j : Nat, j ≤ xss.length ∧ k = .int .i64 j ∧ m = .int .i64 (cntN (bitN L) j : Nat) ∧ f = .int .i64 (idxN (bitN L) j)) (fun _ _ k => xss.length - (intOf k).toNat)
      case atStart => exact ⟨0, Nat.zero_le _, rfl, rfl, rfl⟩
      case round =>
        obtain ⟨j, hj, rfl, rfl, rfl⟩ := hrel
        have hcl := cntN_le (bitN L) j
        have hir : -1 ≤ idxN (bitN L) j ∧ idxN (bitN L) j ≤ 7 := by have := idxN_range (bitN L) j; omega
        have HC := Lib.hid (show cntN (bitN L) (j + 1) = cntN (bitN L) j + if bitN L j = true then 1 else 0 from rfl)
        have HI0 := Lib.hid (@idxN_succ_no (bitN L) j)
        have HI1 := Lib.hid (@idxN_succ_first (bitN L) j)
        have HI2 := Lib.hid (@idxN_succ_old (bitN L) j)
        by_cases hlt : j < xss.length
        · obtain ⟨c, hc⟩ : ∃ c, c = cntN (bitN L) j := ⟨_, rfl⟩
          obtain ⟨f, hf⟩ : ∃ f, f = idxN (bitN L) j := ⟨_, rfl⟩
          rw [← hc] at hcl HC ⊢
          rw [← hf] at hir HI0 HI1 HI2 ⊢
          have hba := bit_mod L j
          have hnn : (0 : Int) ≤ (L : Int) / 2 ^ j := by rw [shr_cast]; exact Int.natCast_nonneg _
          have hd1 : (1 : Int) = 1 := rfl
          clear hc hf hd1
          cases hbit : bitN L j
          · rw [hbit] at hba
            have HB := Lib.hid hbit
            clear hbit
            go_wp2
            go_round
            case rel => exact ⟨j + 1, by omega, by go_num, by rw [HC.out, HB.out]; simp, by rw [HI0.out HB.out]⟩
            case measure => simp [intOf]; omega
          · rw [hbit] at hba
            have HB := Lib.hid hbit
            clear hbit
            by_cases hf0 : f < 0
            · have hd : decide (f < 0) = true := decide_eq_true hf0
              go_wp2
              go_round
              case rel => exact ⟨j + 1, by omega, by go_num, by rw [HC.out, HB.out]; simp, by rw [HI1.out HB.out hf0]⟩
              case measure => simp [intOf]; omega
            · have hd : decide (f < 0) = false := decide_eq_false hf0
              go_wp2
              go_round
              case rel => exact ⟨j + 1, by omega, by go_num, by rw [HC.out, HB.out]; simp, by rw [HI2.out (by omega)]⟩
              case measure => simp [intOf]; omega
        · obtain rfl : j = xss.length := by omega
          have hme : cntN (bitN L) xss.length = many xss L := rfl
          rw [hme] at hcl ⊢
          clear HC HI0 HI1 HI2 hme
          go_wp2
          obtain ⟨nn, hnn⟩ := Int.eq_ofNat_of_zero_le (show 0 ≤ need xss L by omega)
          have hpw := need_power hT nn L hL hnn
          have hn6 : nn ≤ 6 := by omega
          rw [hnn] at hdn ⊢
          have HNN := Lib.hid hnn
          clear hnn hself hneg hdn
          go_loop [9, 10] (fun p k => ∃ j : Nat, j ≤ nn ∧ k = .int .i64 j ∧ p = .int .i64 (3 ^ j : Nat)) (fun _ k => nn - (intOf k).toNat)
          case atStart => exact ⟨0, Nat.zero_le _, rfl, rfl⟩
          case round =>
            obtain ⟨j, hj, rfl, rfl⟩ := hrel
            have hp3 := pow3_small (j := j) (by omega)
            have HP := Lib.hid (show 3 ^ (j + 1) = 3 ^ j * 3 from Nat.pow_succ 3 j)
            obtain ⟨p, hp⟩ : ∃ p, p = 3 ^ j := ⟨_, rfl⟩
            rw [← hp] at hp3 HP ⊢
            by_cases hlt : j < nn
            · have hd : decide (j < nn) = true := by simp; omega
              clear hp
              go_wp2
              go_round
              case rel => exact ⟨j + 1, by omega, by go_num, by rw [HP.out]; go_num⟩
              case measure => simp [intOf]; omega
            · obtain rfl : j = nn := by omega
              have hd : decide (j < j) = false := by simp
              have hpm : many xss L ≤ p := by rw [hp]; exact hpw
              clear hp HP
              by_cases hm0 : many xss L = 0
              · have hz : j = 0 := by
                  have := need_small (xss := xss) (L := L) (by omega)
                  have := HNN.out
                  omega
                have hdz : ((many xss L : Int) == 0) = true := by simp [hm0]
                have hdj : ((j : Int) == 0) = true := by simp [hz]
                have HZ := Lib.hid hz
                clear hm0 hz
                go_wp2
                go_ret
                exact ⟨rfl, HB3.out⟩
              · have hdz : ((many xss L : Int) == 0) = false := by simp; exact hm0
                have hle := need_le_many L hL (by omega)
                obtain ⟨i, hi, hil, hib⟩ := idxN_some (p := bitN L) (n := xss.length) (show 1 ≤ cntN (bitN L) xss.length by unfold many at hm0; omega)
                obtain ⟨d1, d2, d3⟩ := drop_bit hL hil hib
                have hmono := need_mono L hL (L - 2 ^ i) d2 d3 (by have := HNN.out; omega)
                have hNd := implNeededAt_any _ xss (L - 2 ^ i : Nat) w3 HX3.out
                rw [needAt_yes (by rw [hT, lotOk_of d2]; rfl)] at hNd
                have hge : decide (many xss L ≤ p) = true := decide_eq_true hpm
                have hnm : decide ((j : Int) ≤ (many xss L : Int) - 1) = true := decide_eq_true (by have := HNN.out; rw [this] at hle; exact hle)
                have hsh := shl_cast (k := i) (Nat.le_trans (Nat.le_of_lt hil) (by have := hn.2; omega))
                have h2i : 2 ^ i ≤ 128 := Nat.le_trans d1 (Nat.le_of_lt hL7)
                obtain ⟨T, hTT⟩ : ∃ T, T = 2 ^ i := ⟨_, rfl⟩
                rw [← hTT] at hNd hmono hsh h2i d1
                obtain ⟨M, hMM⟩ : ∃ M, M = L - T := ⟨_, rfl⟩
                rw [← hMM] at hNd hmono
                obtain ⟨r, hr⟩ : ∃ r, r = need xss M := ⟨_, rfl⟩
                rw [← hr] at hNd hmono
                have hrj : decide (r ≤ (j : Int)) = true := decide_eq_true (by have := HNN.out; rw [this] at hmono; exact hmono.2)
                have hsub : ((L : Int) - (T : Int)) = (M : Int) := by rw [hMM, Int.ofNat_sub d1]
                have hi0 : (0 : Int) ≤ (i : Int) := Int.natCast_nonneg i
                have hi7 : (i : Int) < 64 := Int.ofNat_lt.2 (Nat.lt_of_lt_of_le hil (Nat.le_trans hn.2 (by decide)))
                have hM0 : (M : Int) ≤ 128 := Int.ofNat_le.2 (by rw [hMM]; exact Nat.le_trans (Nat.sub_le _ _) (Nat.le_of_lt hL7))
                have hm7 : many xss L ≤ 7 := Nat.le_trans hcl hn.2
                obtain ⟨m, hmm⟩ : ∃ m, m = many xss L := ⟨_, rfl⟩
                rw [hi]
                rw [← hmm] at hge hnm hm7 hdz ⊢
                clear hi hib d1 d2 d3 hmono hr hMM hTT hle hm0 hT hpm hmm hcl hir hil hL hn h6 hl0 hl1 hlen hp3 hs
                go_wp2_with fail
                refine hNd.mono ?_
                rintro e w5 ⟨rfl, hb5⟩
                have HB5 := Lib.hid (HB3.out.trans (hb5.mono HB3.out.size))
                clear hb5 hNd
                go_wp2
                go_ret
                exact ⟨rfl, HB5.out⟩

end Go.Proofs.Ytpeogghiboaceaa
