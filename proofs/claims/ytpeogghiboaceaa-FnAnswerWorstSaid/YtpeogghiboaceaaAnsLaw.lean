/- The walk of FnAnswerWorst. -/
import Derived.Test.YtpeogghiboaceaaAskLaw
namespace Go.Proofs.Ytpeogghiboaceaa
open Go.RowKit
set_option linter.unusedVariables false
set_option maxRecDepth 100000

set_option maxHeartbeats 4000000 in
theorem FnAnswerWorst_walk (v : Value) (bs : List Int) (w : World) (h : Bytes 0 w v bs) :
    Calls Try.prog 8 #[v] w fun e w' => e = .returned (.bool true) ∧ Below w.heap.size w w' := by
  obtain ⟨a0, cap0, rfl, hc1, hc2, hc3⟩ := id h.1
  rw [List.length_map] at h ⊢
  clear hc1 hc2 hc3
  by_cases hs : 1048576 < bs.length
  · go_enter Try.func8, Try.ntmps8
    go_wp2
    go_ret
    exact ⟨rfl, Below.refl _ _⟩
  · go_enter Try.func8, Try.ntmps8
    go_wp2_with fail
    refine (drawAnswerWorst_any _ _ _ h).mono ?_
    rintro e w1 ⟨xss, a1, c1, lot, q, rfl, hl0, hl1, hq0, hq1, hx1, hb1⟩
    clear h
    go_wp2_with fail
    refine (implAnswerWorst_any _ _ _ _ _ hx1).mono ?_
    rintro e w2 ⟨rfl, hb2⟩
    unfold pairV
    have hx2 := hx1.below hb2
    have hbb2 := hb1.trans (hb2.mono hb1.size)
    clear hx1 hb1 hb2
    go_wp2_with fail
    refine (specAnswerWorst_any _ _ _ _ _ hx2).mono ?_
    rintro e w3 ⟨rfl, hb3⟩
    unfold pairV
    have hx3 := hx2.below hb3
    have hbb3 := hbb2.trans (hb3.mono hbb2.size)
    clear hx2 hbb2 hb3
    have hself : ((ansWorstR xss lot q).1 != (ansWorstR xss lot q).1) = false := by simp
    have hself2 : ((ansWorstR xss lot q).2 != (ansWorstR xss lot q).2) = false := by simp
    have HX3 := Lib.hid hx3
    have HB3 := Lib.hid hbb3
    clear hx3 hbb3
    rcases ansWorst_case xss lot q with ha | ⟨hT, L, Q, a, rfl, hL, h0, hn, rfl, hQ, ha3, ha, hp, hle⟩
    · rw [ha] at hself hself2 ⊢
      simp only at hself hself2 ⊢
      clear ha hself hself2
      go_wp2_with fail
      refine (alive_any _).mono ?_
      rintro e w7 ⟨rfl, rfl⟩
      go_wp2
      go_ret
      exact ⟨rfl, HB3.out⟩
    · rw [ha] at hself hself2 ⊢
      simp only at hself hself2 ⊢
      have hnn := tableB_len hT
      have hrng := need_rng xss L
      have hL7 := lot_128 hnn.2 hL
      have hleast := wor_least hT hL hn hQ ha3 hle
      have hLA := fun W (hb : Below w3.heap.size w3 W) => implLotAfter_any _ xss (L : Int) (Q : Int) (a : Int) W (HX3.out.below hb)
      rw [lotAfter_part hT hL hQ ha3] at hLA
      have hNa := fun W (hb : Below w3.heap.size w3 W) => implNeededAt_any _ xss (partN xss L Q a : Nat) W (HX3.out.below hb)
      rw [needAt_part hT] at hNa
      have hNL := fun W (hb : Below w3.heap.size w3 W) => implNeededAt_any _ xss (L : Nat) W (HX3.out.below hb)
      rw [needAt_yes (by rw [hT, lotOk_of hL]; rfl)] at hNL
      have hLB := fun (b : Nat) (hb3 : b < 3) W (hb : Below w3.heap.size w3 W) => by
        have := implLotAfter_any _ xss (L : Int) (Q : Int) (b : Int) W (HX3.out.below hb)
        rw [lotAfter_part hT hL hQ hb3] at this
        exact this
      have hNB := fun (b : Nat) W (hb : Below w3.heap.size w3 W) => by
        have := implNeededAt_any _ xss (partN xss L Q b : Nat) W (HX3.out.below hb)
        rw [needAt_part hT] at this
        exact this
      obtain ⟨P, hP⟩ : ∃ P, P = partN xss L Q a := ⟨_, rfl⟩
      rw [← hP] at hLA hNa hp hle hleast
      obtain ⟨n, hn'⟩ : ∃ n, n = need xss P := ⟨_, rfl⟩
      rw [← hn'] at hNa hle hleast
      have hd1 : decide (need xss L - 1 ≤ n) = true := decide_eq_true hleast
      have hd2 : decide (0 < (P : Int)) = true := by simp; omega
      have HLE := Lib.hid hle
      have HPD := Lib.hid (decide_eq_true hp : decide (0 < P) = true)
      clear ha hP hn' hp hleast hle
      go_wp2_with fail
      refine (hLA _ (Below.refl _ _)).mono ?_
      rintro e w4 ⟨rfl, hb4⟩
      have HB4 := Lib.hid hb4
      clear hb4 hself hself2
      go_wp2_with fail
      refine (hNa _ HB4.out).mono ?_
      rintro e w5 ⟨rfl, hb5⟩
      have HB5 := Lib.hid (HB4.out.trans (hb5.mono HB4.out.size))
      clear hb5 hNa HB4
      go_wp2
      go_loopw [11] (fun c wi => ∃ k : Nat, k ≤ 3 ∧ c = .int .i64 k ∧ Below w3.heap.size w3 wi) (fun c _ => 4 - (intOf c).toNat)
      case atStart => exact ⟨0, by omega, rfl, HB5.out⟩
      case round =>
        obtain ⟨k, hk, rfl, hbi⟩ := hrel
        have HBI := Lib.hid hbi
        by_cases hlt : k < 3
        · have hLA' := hLB k hlt _ hbi
          have hNp := hNB k
          have g := HLE.out k hlt
          obtain ⟨P', hP'⟩ : ∃ P', P' = partN xss L Q k := ⟨_, rfl⟩
          rw [← hP'] at hLA' hNp g
          obtain ⟨r, hr⟩ : ∃ r, r = need xss P' := ⟨_, rfl⟩
          rw [← hr] at hNp g
          have hdd : decide (n < r) = false := by simp; omega
          have hk2 : (k : Int) ≤ 2 := by omega
          clear hbi hP' hr
          go_wp2_with fail
          refine hLA'.mono ?_
          rintro e w6 ⟨rfl, hb6⟩
          have HB6 := Lib.hid (HBI.out.trans (hb6.mono HBI.out.size))
          clear hb6 hLA'
          go_wp2_with fail
          refine (hNp _ HB6.out).mono ?_
          rintro e w7 ⟨rfl, hb7⟩
          have HB7 := Lib.hid (HB6.out.trans (hb7.mono HB6.out.size))
          clear hb7 hNp
          go_wp2
          go_roundw
          case rel => exact ⟨k + 1, by omega, by go_num, HB7.out⟩
          case measure => simp [intOf]; omega
        · have e3 : k = 3 := by omega
          subst e3
          clear hbi
          go_wp2_with fail
          refine (hNL _ HBI.out).mono ?_
          rintro e w6 ⟨rfl, hb6⟩
          have HB6 := Lib.hid (HBI.out.trans (hb6.mono HBI.out.size))
          clear hb6 hNL
          go_wp2_with fail
          refine (hLA _ HB6.out).mono ?_
          rintro e w7 ⟨rfl, hb7⟩
          have HB7 := Lib.hid (HB6.out.trans (hb7.mono HB6.out.size))
          clear hb7 hLA
          go_wp2
          go_ret
          exact ⟨ret_bool HPD.out, HB3.out.trans (HB7.out.mono HB3.out.size)⟩

end Go.Proofs.Ytpeogghiboaceaa
