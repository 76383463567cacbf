/- AnswerWorst of the reference. -/
import Derived.Test.YtpeogghiboaceaaNeedSpec
namespace Go.Proofs.Ytpeogghiboaceaa
open Go.RowKit
set_option linter.unusedVariables false
set_option maxRecDepth 100000

set_option maxHeartbeats 4000000 in
theorem specAnswerWorst_any {B : Nat} (v : Value) (xss : List (List Int)) (lot q : Int) (w : World) (h : Rows2 B w v xss) :
    Calls Try.prog 32 #[v, .int .i64 lot, .int .i64 q] w (TwoOut (ansWorstR xss lot q) w) := by
  have hNd := specNeededAt_any v xss lot w h
  have hrows := h
  obtain ⟨ad, cap, rfl, hcap, hmax, V, hcells, hV⟩ := h.opened
  by_cases hp : needAtR xss lot < 0
  · have hd : decide (needAtR xss lot < 0) = true := decide_eq_true hp
    have HN := Lib.hid (show ansWorstR xss lot q = (-1, false) from by
      unfold ansWorstR
      rw [if_neg]
      rintro ⟨h1, _, _, h2⟩
      unfold needAtR at hp
      rw [if_pos h1] at hp
      omega)
    clear hp hcells hV h hrows
    go_enter Try.func32, Try.ntmps32
    go_wp2_with fail
    refine hNd.mono ?_
    rintro e w2 ⟨rfl, hb2⟩
    have HB2 := Lib.hid hb2
    clear hb2
    go_wp2
    go_ret2
    exact ⟨by rw [HN.out]; rfl, HB2.out⟩
  · have hok := needAt_pos (xss := xss) (lot := lot) (by omega)
    obtain ⟨hT, L, rfl, hL⟩ := lot_parts hok
    rw [needAt_yes hok] at hp hNd
    have hn := tableB_len hT
    have hL7 := lot_128 hn.2 hL
    have hd : decide (need xss L < 0) = false := decide_eq_false hp
    have hrng := need_rng xss L
    obtain ⟨g0, off, rfl, _, hc⟩ := hcells (by omega)
    have hc0 := hc 0 (by omega)
    obtain ⟨a0, c0, hv0, h01, h02⟩ := (hV 0 (by omega)).shape
    have hhd : xss.headD [] = xss[0] := headD_get (by omega)
    rw [hv0, Nat.add_zero] at hc0
    have hm0 : xss[0].length = asks xss := by unfold asks; rw [hhd]
    have hm5 : asks xss ≤ 5 := by
      have := hT
      unfold tableB at this
      simp only [Bool.and_eq_true, decide_eq_true_eq] at this
      exact this.2.1
    rw [hm0] at hc0 h01
    have hn1 : (0 : Int) < (xss.length : Int) := by omega
    have hI := fun W => l1In_any q 0 ((asks xss : Int) - 1) W
    have e3 : inB q 0 ((asks xss : Int) - 1) = askOk xss q := rfl
    rw [e3] at hI
    have HOk := Lib.hid hok
    have HR := Lib.hid hrows
    clear hok hcells hV h hrows hc hv0 hhd hm0 e3
    go_enter Try.func32, Try.ntmps32
    go_wp2_with fail
    refine hNd.mono ?_
    rintro e w2 ⟨rfl, hb2⟩
    have hLeft := left14_any _ xss hT w2 (HR.out.below hb2)
    have hc2 := (Above.of_below (B := 0) hb2).cell (Nat.zero_le _) hc0
    have HB2 := Lib.hid hb2
    clear hb2 hNd
    by_cases hz : L = 0
    · have hdz : ((L : Int) == 0) = true := by simp [hz]
      have HN := Lib.hid (ansWorst_zero (xss := xss) (lot := (L : Int)) (q := q) (by omega))
      clear hz hI hT hL hLeft
      go_wp2
      go_ret2
      exact ⟨by rw [HN.out]; rfl, HB2.out⟩
    · have hdz : ((L : Int) == 0) = false := by simp; exact hz
      cases haq : askOk xss q
      · rw [haq] at hI
        have HN := Lib.hid (ansWorst_ask (xss := xss) (lot := (L : Int)) haq)
        clear haq hz hT hL hLeft
        go_wp2_with fail
        refine (hI _).mono ?_
        rintro e w4 ⟨rfl, rfl⟩
        clear hI
        go_wp2
        go_ret2
        exact ⟨by rw [HN.out]; rfl, HB2.out⟩
      · rw [haq] at hI
        obtain ⟨Q, rfl, hQ⟩ := askOk_nat haq
        have HN := Lib.hid (ansWorst_yes HOk.out hz haq (by omega))
        clear haq hz
        go_wp2_with fail
        refine (hI _).mono ?_
        rintro e w4 ⟨rfl, rfl⟩
        clear hI hc2
        go_wp2_with fail
        refine hLeft.mono ?_
        rintro e w3 ⟨g, rfl, ho3, hb3⟩
        have HB3 := Lib.hid (HB2.out.trans (hb3.mono HB2.out.size))
        have HR3 := Lib.hid (HR.out.below HB3.out)
        have HO3 := Lib.hid ho3
        obtain ⟨M, hM⟩ : ∃ M, M = 2 ^ xss.length := ⟨_, rfl⟩
        have hM7 : M ≤ 128 := by rw [hM]; exact Nat.pow_le_pow_right (n := 2) (by omega) hn.2
        have HM := Lib.hid hM
        rw [← hM]
        clear hb3 ho3 hc0 hLeft hM
        go_wp2
        go_loopw [9, 10, 11] (fun b m i wi => ∃ j : Nat, j ≤ 3 ∧ i = .int .i64 j ∧ b = .int .i64 (worK xss L Q j).1 ∧ m = .int .i64 (worK xss L Q j).2 ∧ Drawn w3 wi) (fun _ _ i _ => 3 - (intOf i).toNat)
        case atStart => exact ⟨0, Nat.zero_le _, rfl, rfl, rfl, Drawn.refl _⟩
        case round =>
          obtain ⟨j, hj, rfl, rfl, rfl, hDi⟩ := hrel
          have hrngj := worK_rng xss Q j hL7
          by_cases hjl : j < 3
          · have hpl := partN_le xss L Q j
            have hpt := partN_lt xss L Q j
            have hLA := specLotAfter_any _ xss (L : Int) (Q : Int) (j : Int) _ (HR3.out.below hDi.below)
            rw [lotAfter_part hT hL hQ hjl] at hLA
            have HCell := Lib.hid (show ∀ wi, Drawn w3 wi → wi.cell? ⟨g, partN xss L Q j, none⟩ = some (.int .i64 (need xss (partN xss L Q j))) from fun wi hDw => by
              have h9 := (OwnI.cellN (hDw.owns HO3.out) (partN xss L Q j) (by rw [leftK_length]; exact hpt)).1
              rw [leftK_getD xss hpt hpt] at h9
              exact h9)
            have hH := @worK_hit xss L Q j
            have hNm := @worK_miss xss L Q j
            have hrr := need_rng xss (partN xss L Q j)
            obtain ⟨P, hP⟩ : ∃ P, P = partN xss L Q j := ⟨_, rfl⟩
            have hPM : P < M := by rw [hP, HM.out]; exact hpt
            rw [← hP] at hpl hLA HCell hrr hH hNm
            obtain ⟨b, hb⟩ : ∃ b, b = (worK xss L Q j).1 := ⟨_, rfl⟩
            obtain ⟨m, hm⟩ : ∃ m, m = (worK xss L Q j).2 := ⟨_, rfl⟩
            have HBM := Lib.hid (show worK xss L Q j = (b, m) by rw [hb, hm])
            rw [← hm] at hH hNm
            rw [← hb, ← hm] at hrngj ⊢
            obtain ⟨r, hr⟩ : ∃ r, r = need xss P := ⟨_, rfl⟩
            rw [← hr] at hrr HCell hH hNm
            have HDi := Lib.hid hDi
            have HH := Lib.hid hH
            have HNm := Lib.hid hNm
            have hj2 : (j : Int) ≤ 2 := by omega
            clear hP hr hDi hpt hb hm hH hNm
            go_wp2_with fail
            refine hLA.mono ?_
            rintro e w4 ⟨rfl, hq4⟩
            have hD4' : Drawn _ w4 := hq4
            have HD4 := Lib.hid (HDi.out.trans hD4')
            have hcp := HCell.out w4 HD4.out
            clear hq4 hD4' hLA
            by_cases hp0 : 0 < P
            · have hdp : decide ((0 : Int) < (P : Int)) = true := by simp; omega
              have hdp' : decide (0 < P) = true := by simp; omega
              by_cases hmr : m < r
              · have hd2 : decide (m < r) = true := decide_eq_true hmr
                go_wp2
                go_roundw
                case rel => exact ⟨j + 1, by omega, by go_num, by rw [HH.out hp0 hmr], by rw [HH.out hp0 hmr], HD4.out⟩
                case measure => simp [intOf]; omega
              · have hd2 : decide (m < r) = false := decide_eq_false hmr
                go_wp2
                go_roundw
                case rel => exact ⟨j + 1, by omega, by go_num, by rw [HNm.out (by omega), HBM.out], by rw [HNm.out (by omega), HBM.out], HD4.out⟩
                case measure => simp [intOf]; omega
            · have hdp : decide ((0 : Int) < (P : Int)) = false := by simp; omega
              have hdp' : decide (0 < P) = false := by simp; omega
              go_wp2
              go_roundw
              case rel => exact ⟨j + 1, by omega, by go_num, by rw [HNm.out (by omega), HBM.out], by rw [HNm.out (by omega), HBM.out], HD4.out⟩
              case measure => simp [intOf]; omega
          · obtain rfl : j = 3 := by omega
            have HDi := Lib.hid hDi
            clear hDi
            go_wp2
            go_ret2
            exact ⟨by rw [HN.out]; rfl, HB3.out.trans (HDi.out.below.mono HB3.out.size)⟩

end Go.Proofs.Ytpeogghiboaceaa
