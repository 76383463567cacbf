/- The walks of FnAskNext and FnAnswerWorst. -/
import Derived.Test.YtpeogghiboaceaaDrawNeed
import Derived.Test.YtpeogghiboaceaaPlaySpec
import Derived.Test.YtpeogghiboaceaaAlive
namespace Go.Proofs.Ytpeogghiboaceaa
open Go.RowKit
set_option linter.unusedVariables false
set_option maxRecDepth 100000

theorem needAt_part {xss : List (List Int)} (hT : tableB xss = true) (L q a : Nat) : needAtR xss (partN xss L q a : Nat) = need xss (partN xss L q a) := needAt_yes (by rw [hT, lotOk_of (partN_lt xss L q a)]; rfl)
theorem askNext_case (xss : List (List Int)) (lot : Int) : (askNextR xss lot = (-1, false) ∧ needAtR xss lot ≤ 0) ∨
    (tableB xss = true ∧ ∃ L : Nat, lot = L ∧ L < 2 ^ xss.length ∧ 1 ≤ need xss L ∧ askNextR xss lot = (((askL xss L : Nat) : Int), true) ∧ needAtR xss lot = need xss L) := by
  by_cases hok : (tableB xss && lotOk xss lot) = true
  · obtain ⟨hT, L, rfl, hL⟩ := lot_parts hok
    by_cases h1 : 1 ≤ need xss L
    · exact .inr ⟨hT, L, rfl, hL, h1, askNext_is hT hL h1, needAt_yes hok⟩
    · exact .inl ⟨askNext_small (by omega), by rw [needAt_yes hok]; omega⟩
  · rw [Bool.not_eq_true] at hok
    exact .inl ⟨askNext_no hok, by rw [needAt_no hok]; omega⟩

set_option maxHeartbeats 4000000 in
theorem FnAskNext_walk (v : Value) (bs : List Int) (w : World) (h : Bytes 0 w v bs) :
    Calls Try.prog 10 #[v] w fun e w' => e = .returned (.bool true) ∧ Below w.heap.size w w' := by
  obtain ⟨a0, cap0, rfl, hc1, hc2, hc3⟩ := id h.1
  rw [List.length_map] at h ⊢
  clear hc1 hc2 hc3
  by_cases hs : 1048576 < bs.length
  · go_enter Try.func10, Try.ntmps10
    go_wp2
    go_ret
    exact ⟨rfl, Below.refl _ _⟩
  · go_enter Try.func10, Try.ntmps10
    go_wp2_with fail
    refine (drawAskNext_any _ _ _ h).mono ?_
    rintro e w1 ⟨xss, a1, c1, lot, rfl, hl0, hl1, hx1, hb1⟩
    clear h
    go_wp2_with fail
    refine (implAskNext_any _ _ _ _ hx1).mono ?_
    rintro e w2 ⟨rfl, hb2⟩
    unfold pairV
    have hx2 := hx1.below hb2
    have hbb2 := hb1.trans (hb2.mono hb1.size)
    clear hx1 hb1 hb2
    go_wp2_with fail
    refine (specAskNext_any _ _ _ _ hx2).mono ?_
    rintro e w3 ⟨rfl, hb3⟩
    unfold pairV
    have hx3 := hx2.below hb3
    have hbb3 := hbb2.trans (hb3.mono hbb2.size)
    clear hx2 hbb2 hb3
    have hself : ((askNextR xss lot).1 != (askNextR xss lot).1) = false := by simp
    have hself2 : ((askNextR xss lot).2 != (askNextR xss lot).2) = false := by simp
    have hNd := implNeededAt_any _ xss lot w3 hx3
    have HX3 := Lib.hid hx3
    have HB3 := Lib.hid hbb3
    clear hx3 hbb3
    rcases askNext_case xss lot with ⟨ha, hle⟩ | ⟨hT, L, rfl, hL, h1, ha, hn⟩
    · rw [ha] at hself hself2 ⊢
      simp only at hself hself2 ⊢
      obtain ⟨r, hr⟩ : ∃ r, r = needAtR xss lot := ⟨_, rfl⟩
      rw [← hr] at hNd hle
      have hd : decide (r ≤ 0) = true := decide_eq_true hle
      clear ha hr hself hself2
      go_wp2_with fail
      refine hNd.mono ?_
      rintro e w4 ⟨rfl, hb4⟩
      have HB4 := Lib.hid (HB3.out.trans (hb4.mono HB3.out.size))
      clear hb4 hNd
      go_wp2_with fail
      refine (alive_any _).mono ?_
      rintro e w7 ⟨rfl, rfl⟩
      go_wp2
      go_ret
      exact ⟨rfl, HB4.out⟩
    · rw [ha] at hself hself2 ⊢
      rw [hn] at hNd
      simp only at hself hself2 ⊢
      clear ha hn
      have hnn := tableB_len hT
      have hrng := need_rng xss L
      have hL7 := lot_128 hnn.2 hL
      obtain ⟨r1, r2, r3, r4, r5, r6, r7, r8⟩ := play_round hT hL h1
      have hgg := goodQ_iff.1 r3
      clear r1 r3 r4 r6 r7 r8
      go_wp2_with fail
      refine hNd.mono ?_
      rintro e w4 ⟨rfl, hb4⟩
      have HB4 := Lib.hid (HB3.out.trans (hb4.mono HB3.out.size))
      have HX4 := Lib.hid (HX3.out.below hb4)
      have HGG := Lib.hid hgg
      clear hb4 hNd hself hself2 hgg
      go_wp2
      go_loopw [10] (fun c wi => ∃ k : Nat, k ≤ 3 ∧ c = .int .i64 k ∧ Below w4.heap.size w4 wi) (fun c _ => 4 - (intOf c).toNat)
      case atStart => exact ⟨0, by omega, rfl, Below.refl _ _⟩
      case round =>
        obtain ⟨k, hk, rfl, hbi⟩ := hrel
        have HBI := Lib.hid hbi
        by_cases hlt : k < 3
        · have hLA := implLotAfter_any _ xss (L : Int) (askL xss L : Nat) (k : Int) _ (HX4.out.below hbi)
          rw [lotAfter_part hT hL r2 hlt] at hLA
          obtain ⟨g1, g2⟩ := HGG.out k hlt
          have hNp := fun W (hb : Below w4.heap.size w4 W) => implNeededAt_any _ xss (partN xss L (askL xss L) k : Nat) W (HX4.out.below hb)
          rw [needAt_part hT] at hNp
          obtain ⟨P, hP⟩ : ∃ P, P = partN xss L (askL xss L) k := ⟨_, rfl⟩
          rw [← hP] at hLA hNp g1 g2
          obtain ⟨r, hr⟩ : ∃ r, r = need xss P := ⟨_, rfl⟩
          rw [← hr] at hNp g1 g2
          have hd1 : decide (r < 0) = false := by simp; omega
          have hd2 : decide (need xss L ≤ r) = false := by simp; omega
          have hk2 : (k : Int) ≤ 2 := by omega
          clear hbi hP hr
          go_wp2_with fail
          refine hLA.mono ?_
          rintro e w5 ⟨rfl, hb5⟩
          have HB5 := Lib.hid (HBI.out.trans (hb5.mono HBI.out.size))
          clear hb5 hLA
          go_wp2_with fail
          refine (hNp _ HB5.out).mono ?_
          rintro e w6 ⟨rfl, hb6⟩
          have HB6 := Lib.hid (HB5.out.trans (hb6.mono HB5.out.size))
          clear hb6 hNp
          go_wp2
          go_roundw
          case rel => exact ⟨k + 1, by omega, by go_num, HB6.out⟩
          case measure => simp [intOf]; omega
        · have e3 : k = 3 := by omega
          subst e3
          have hd : decide (0 < need xss L) = true := by simp; omega
          clear hbi
          go_wp2
          go_ret
          exact ⟨rfl, HB4.out.trans (HBI.out.mono HB4.out.size)⟩

/-! ### AnswerWorst -/
theorem ansWorst_case (xss : List (List Int)) (lot q : Int) : (ansWorstR xss lot q = (-1, false)) ∨
    (tableB xss = true ∧ ∃ L Q a : Nat, lot = L ∧ L < 2 ^ xss.length ∧ L ≠ 0 ∧ 0 ≤ need xss L ∧ q = Q ∧ Q < asks xss ∧ a < 3 ∧ ansWorstR xss lot q = ((a : Int), true) ∧ 0 < partN xss L Q a ∧
      ∀ b, b < 3 → need xss (partN xss L Q b) ≤ need xss (partN xss L Q a)) := by
  by_cases hok : (tableB xss && lotOk xss lot) = true
  · obtain ⟨hT, L, rfl, hL⟩ := lot_parts hok
    by_cases h0 : L = 0
    · exact .inl (ansWorst_zero (by omega))
    · cases hq : askOk xss q
      · exact .inl (ansWorst_ask hq)
      · obtain ⟨Q, rfl, hQ⟩ := askOk_nat hq
        by_cases hn : 0 ≤ need xss L
        · obtain ⟨a, h1, h2, h3, h4⟩ := wor_some hT hL h0 hn hQ
          exact .inr ⟨hT, L, Q, a, rfl, hL, h0, hn, rfl, hQ, h1, by rw [ansWorst_yes hok h0 hq hn, h2], h3, h4⟩
        · exact .inl (ansWorst_neg (by omega))
  · rw [Bool.not_eq_true] at hok
    exact .inl (ansWorst_no hok)
/-- What the worst answer leaves needs at most one question fewer. -/
theorem wor_least {xss : List (List Int)} (hT : tableB xss = true) {L Q a : Nat} (hL : L < 2 ^ xss.length) (hn : 0 ≤ need xss L) (hQ : Q < asks xss) (ha : a < 3) (h : ∀ b, b < 3 → need xss (partN xss L Q b) ≤ need xss (partN xss L Q a)) : need xss L - 1 ≤ need xss (partN xss L Q a) := by
  have hsub : ∀ b, 0 ≤ need xss (partN xss L Q b) := fun b => (need_mono L hL _ (partN_lt xss L Q b) part_of hn).1
  by_cases he : ∃ b, b < 3 ∧ partN xss L Q b = L
  · obtain ⟨b, hb, he⟩ := he
    have := h b hb
    rw [he] at this
    omega
  · by_cases hm : 2 ≤ many xss L
    · have := need_least (xss := xss) (L := L) (q := Q) (W := need xss (partN xss L Q a)) hm hQ (hsub a) fun b hb => ⟨fun e => he ⟨b, hb, e⟩, hsub b, h b hb⟩
      omega
    · rw [need_small (by omega)]
      have := hsub a
      omega

end Go.Proofs.Ytpeogghiboaceaa
