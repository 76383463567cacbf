/- The walk of FnAfterDay. -/
import Derived.Test.YtoddomhpdeoeeaaDrawAfter
import Derived.Test.YtoddomhpdeoeeaaCatMath
namespace Go.Proofs.Ytoddomhpdeoeeaa
open Go.RowKit
set_option linter.unusedVariables false

theorem afterR_nat {xss : List (List Int)} {s o : Int} (h : ¬ afterR xss s o < 0) : ∃ S : Nat, s = S ∧ S < 2 ^ xss.length ∧ besideB xss = true ∧ inB o 0 ((xss.length : Int) - 1) = true ∧ afterR xss s o = (afterN xss S o : Nat) := by
  unfold afterR at h ⊢
  split at h
  · rename_i hc
    rw [if_pos hc]
    simp only [Bool.and_eq_true] at hc
    obtain ⟨S, rfl, hS⟩ := wordB_nat hc.1.2
    exact ⟨S, rfl, hS, hc.1.1, hc.2, by simp⟩
  · omega
theorem afterR_neg {xss : List (List Int)} {s o : Int} (h : afterR xss s o < 0) : afterR xss s o = -1 := by
  unfold afterR at h ⊢
  split at h
  · rename_i hc; exfalso; omega
  · rename_i hc; rw [if_neg hc]

theorem tmod_bit (L k : Nat) : ((L : Int) / 2 ^ k).tmod 2 = ((L / 2 ^ k % 2 : Nat) : Int) := by
  rw [shr_cast]; rfl
theorem bitN_eq (L k : Nat) : bitN L k = (L / 2 ^ k % 2 == 1) := rfl
theorem wordB_of {n S : Nat} (h : S < 2 ^ n) : wordB n (S : Int) = true := by
  have e : (2 : Int) ^ n = ((2 ^ n : Nat) : Int) := by simp
  unfold wordB inB
  rw [e]
  simp
  omega
theorem afterR_of {xss : List (List Int)} {S : Nat} {o : Int} (hb : besideB xss = true) (hS : S < 2 ^ xss.length) (ho : inB o 0 ((xss.length : Int) - 1) = true) : afterR xss (S : Int) o = (afterN xss S o : Nat) := by
  unfold afterR
  rw [hb, wordB_of hS, show boxB xss.length o = true from ho]
  simp
theorem two_pow_le {S k : Nat} (h : bitN S k = true) : 2 ^ k ≤ S := by
  rw [bitN_testBit] at h
  exact Nat.ge_two_pow_of_testBit h

set_option maxHeartbeats 2000000 in
theorem FnAfterDay_walk (v : Value) (bs : List Int) (w : World) (h : Bytes 0 w v bs) :
    Calls Try.prog 5 #[v] w fun e w' => e = .returned (.bool true) ∧ Below w.heap.size w w' := by
  obtain ⟨a0, cap0, rfl, hc1, hc2, hc3⟩ := id h.1
  rw [List.length_map] at h ⊢
  clear hc1 hc2 hc3
  by_cases hs : 1048576 < bs.length
  · go_enter Try.func5, Try.ntmps5
    go_wp2
    go_ret
    exact ⟨rfl, Below.refl _ _⟩
  · go_enter Try.func5, Try.ntmps5
    go_wp2_with fail
    refine (drawAfterDay_any _ _ _ h).mono ?_
    rintro e w1 ⟨xss, a1, c1, s, o, rfl, hx1, hl, hb1⟩
    clear h
    go_wp2_with fail
    refine (implAfterDay_any _ _ _ _ _ hx1).mono ?_
    rintro e w2 ⟨rfl, hb2⟩
    have hx2 := hx1.below hb2
    have hbb2 := hb1.trans (hb2.mono hb1.size)
    clear hx1 hb1 hb2
    go_wp2_with fail
    refine (specAfterDay_any _ _ _ _ _ hx2).mono ?_
    rintro e w3 ⟨rfl, hq3⟩
    have hD3 : Drawn w2 w3 := hq3
    have hx3 := hx2.below hD3.below
    have hbb3 := hbb2.trans (hD3.below.mono hbb2.size)
    clear hq3 hx2 hbb2 hD3
    by_cases hn : afterR xss s o < 0
    · have he := afterR_neg hn
      have hself : ((-1 : Int) != -1) = false := rfl
      rw [he]
      clear hn he hx3
      go_wp2_with fail
      refine (alive_any _).mono ?_
      rintro e w7 ⟨rfl, rfl⟩
      go_wp2
      go_ret
      exact ⟨rfl, hbb3⟩
    · obtain ⟨S, rfl, hS, hbe, hob, he⟩ := afterR_nat hn
      obtain ⟨N, hN⟩ : ∃ N, N = afterN xss S o := ⟨_, rfl⟩
      rw [he, ← hN]
      have hself : ((N : Int) != (N : Int)) = false := by simp
      have hn6 := (besideB_spec hbe).1
      have HNN := Lib.hid hN
      have HBE := Lib.hid hbe
      have HOB := Lib.hid hob
      have HX := Lib.hid hx3
      have hNpos : ¬ ((N : Int) < 0) := by omega
      clear hn he hN hbe hob hx3
      go_wp2
      go_loopw [7] (fun c wi => ∃ k : Nat, k ≤ xss.length ∧ c = .int .i64 k ∧ Below w3.heap.size w3 wi) (fun c _ => xss.length - (intOf c).toNat)
      case atStart => exact ⟨0, Nat.zero_le _, rfl, Below.refl _ _⟩
      case round =>
        obtain ⟨k, hk, rfl, hbi⟩ := hrel
        by_cases hlt : (k : Int) < (xss.length : Int)
        · have HBI := Lib.hid hbi
          clear hbi
          cases hbk : bitN S k
          · have hb0 : (((S : Int) / 2 ^ k).tmod 2 == 0) = true := by
              rw [bitN_eq, beq_eq_false_iff_ne] at hbk
              rw [tmod_bit, beq_iff_eq]
              omega
            clear hbk
            go_wp2
            go_roundw
            case rel => exact ⟨k + 1, by omega, by go_num, HBI.out⟩
            case measure => simp [intOf]; omega
          · have hb0 : (((S : Int) / 2 ^ k).tmod 2 == 0) = false := by
              rw [bitN_eq, beq_iff_eq] at hbk
              rw [tmod_bit, beq_eq_false_iff_ne]
              omega
            have hle := two_pow_le hbk
            obtain ⟨L, hL⟩ : ∃ L, L = afterN xss (S - 2 ^ k) o := ⟨_, rfl⟩
            have hsub : wrap64 ((S : Int) - wrap64 (2 ^ k)) = ((S - 2 ^ k : Nat) : Int) := by
              rw [shl_cast (by omega)]
              have h1 := (pow_le64 hl).2
              have h2 : S < 64 := Nat.lt_of_lt_of_le hS h1
              clear h1
              generalize 2 ^ k = M at hle ⊢
              rw [IntWalk.wrap64_in _ ⟨by omega, by omega⟩]
              omega
            have hC := implAfterDay_any (.slice a1 xss.length c1) xss ((S - 2 ^ k : Nat) : Int) o wr (HX.out.below HBI.out)
            rw [afterR_of HBE.out (Nat.lt_of_le_of_lt (Nat.sub_le _ _) hS) HOB.out, ← hL] at hC
            have HBits := Lib.hid (show ∀ j, L / 2 ^ j % 2 ≤ N / 2 ^ j % 2 from fun j => by
              rw [hL, HNN.out]
              exact bit_le (after_grows (fun t ht => less_bit (by rw [bitN_testBit] at hbk; exact hbk) ht) j))
            clear hL hbk hle
            go_wp2_with fail
            rw [hsub]
            refine hC.mono ?_
            rintro e w5 ⟨rfl, hb5⟩
            have hLneg : ¬ ((L : Int) < 0) := by omega
            have HB5 := Lib.hid (HBI.out.trans (hb5.mono HBI.out.size))
            clear hb5 hC hsub hb0
            go_wp2
            go_loopw [9] (fun c wi => ∃ j : Nat, j ≤ xss.length ∧ c = .int .i64 j ∧ Drawn w5 wi) (fun c _ => xss.length - (intOf c).toNat)
            case atStart => exact ⟨0, Nat.zero_le _, rfl, Drawn.refl _⟩
            case round =>
              obtain ⟨j, hj, rfl, hD⟩ := hrel
              by_cases hjn : (j : Int) < (xss.length : Int)
              · have hbl : ¬ (((N : Int) / 2 ^ j).tmod 2 < ((L : Int) / 2 ^ j).tmod 2) := by
                  rw [tmod_bit, tmod_bit]
                  have := HBits.out j
                  omega
                have hbl2 : decide (((N : Int) / 2 ^ j).tmod 2 < ((L : Int) / 2 ^ j).tmod 2) = false := decide_eq_false hbl
                have hj6 : (j : Int) < 64 := by omega
                have hj0 : (0 : Int) ≤ (j : Int) := by omega
                go_wp2
                go_quiet (fail)
                go_wp2
                go_roundw
                case rel => exact ⟨j + 1, by omega, by go_num, hD.more _⟩
                case measure => simp [intOf]; omega
              · have hDb := HB5.out.trans (hD.below.mono HB5.out.size)
                have HDB := Lib.hid hDb
                clear hDb
                go_wp2
                go_roundw
                case rel => exact ⟨k + 1, by omega, by go_num, HDB.out⟩
                case measure => simp [intOf]; omega
        · have hC := implAfterDay_any (.slice a1 xss.length c1) xss ((0 : Nat) : Int) o wr (HX.out.below hbi)
          rw [afterR_of HBE.out (Nat.pow_pos (by omega)) HOB.out, after_none] at hC
          have hbb := hbb3.trans (hbi.mono hbb3.size)
          clear hbi
          go_wp2_with fail
          refine hC.mono ?_
          rintro e w5 ⟨rfl, hb5⟩
          have HB := Lib.hid (hbb.trans (hb5.mono hbb.size))
          clear hb5 hC hbb
          go_wp2
          go_ret
          exact ⟨rfl, HB.out⟩

end Go.Proofs.Ytoddomhpdeoeeaa
