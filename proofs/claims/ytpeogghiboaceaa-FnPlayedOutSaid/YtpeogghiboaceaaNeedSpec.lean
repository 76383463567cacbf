/- NeededAt, AskNext and AnswerWorst of the reference. -/
import Derived.Test.YtpeogghiboaceaaLeft14
import Derived.Test.YtpeogghiboaceaaNextImpl
namespace Go.Proofs.Ytpeogghiboaceaa
open Go.RowKit
set_option linter.unusedVariables false
set_option maxRecDepth 100000

theorem two_pow_int (n : Nat) : (2 : Int) ^ n = ((2 ^ n : Nat) : Int) := by simp

set_option maxHeartbeats 1000000 in
theorem specNeededAt_any {B : Nat} (v : Value) (xss : List (List Int)) (lot : Int) (w : World) (h : Rows2 B w v xss) :
    Calls Try.prog 24 #[v, .int .i64 lot] w fun e w' => e = .returned (.int .i64 (needAtR xss lot)) ∧ Below w.heap.size w w' := by
  have hT := specTableOk_any v xss w h
  have hrows := h
  obtain ⟨ad, cap, rfl, hcap, hmax, V, hcells, hV⟩ := h.opened
  cases h1 : tableB xss
  · rw [h1] at hT
    have HN := Lib.hid (needAt_no (lot := lot) (show (tableB xss && lotOk xss lot) = false by rw [h1]; rfl))
    clear h1 hcells hV h hrows
    go_enter Try.func24, Try.ntmps24
    go_wp2_with fail
    refine hT.mono ?_
    rintro e w2 ⟨rfl, hq2⟩
    have hD : Drawn w w2 := hq2
    clear hq2
    go_wp2
    go_ret
    exact ⟨ret_int (by rw [HN.out]), hD.below⟩
  · rw [h1] at hT
    have hn := tableB_len h1
    have hn7 : (xss.length : Int) ≤ 7 := by omega
    have hwp : wrap64 (wrap64 ((2 : Int) ^ xss.length) - 1) = 2 ^ xss.length - 1 := by
      have := wrap_pow (n := (xss.length : Int)) (by omega) (by omega)
      simpa using this
    have e2 : inB lot 0 (wrap64 (wrap64 ((2 : Int) ^ xss.length) - 1)) = lotOk xss lot := by rw [hwp]; rfl
    have H1 := Lib.hid h1
    clear hcells hV h hwp
    cases h2 : lotOk xss lot
    · rw [h2] at e2
      have HN := Lib.hid (needAt_no (lot := lot) (show (tableB xss && lotOk xss lot) = false by rw [h1, h2]; rfl))
      clear h1 h2 hrows
      go_enter Try.func24, Try.ntmps24
      go_wp2_with fail
      refine hT.mono ?_
      rintro e w2 ⟨rfl, hq2⟩
      have hD : Drawn w w2 := hq2
      clear hq2
      go_wp2_with (first | (go_at_call 62; refine (l1In_any _ _ _ _).mono ?_; rintro e w3 ⟨rfl, rfl⟩))
      go_ret
      exact ⟨ret_int (by rw [HN.out]), hD.below⟩
    · rw [h2] at e2
      have hok : (tableB xss && lotOk xss lot) = true := by rw [h1, h2]; rfl
      obtain ⟨L, rfl, hL⟩ := lotOk_nat h2
      have hL7 := lot_128 hn.2 hL
      have HN := Lib.hid (needAt_yes hok)
      have hM1 := (two_pow_int xss.length)
      have hML : (L : Int) < ((2 ^ xss.length : Nat) : Int) := by omega
      have HR := Lib.hid hrows
      clear h1 h2 hok hrows hM1
      go_enter Try.func24, Try.ntmps24
      go_wp2_with fail
      refine hT.mono ?_
      rintro e w2 ⟨rfl, hq2⟩
      have hD : Drawn w w2 := hq2
      clear hq2
      go_wp2_with (first | (go_at_call 62; refine (l1In_any _ _ _ _).mono ?_; rintro e w3 ⟨rfl, rfl⟩))
      refine (left14_any _ xss H1.out w2 (HR.out.below hD.below)).mono ?_
      rintro e w4 ⟨g, rfl, ho4, hb4⟩
      have hc := (OwnI.cellN ho4 L (by rw [leftK_length]; exact hL)).1
      rw [leftK_getD xss hL hL] at hc
      have HB4 := Lib.hid (hD.below.trans (hb4.mono hD.below.size))
      obtain ⟨M, hM⟩ : ∃ M, M = 2 ^ xss.length := ⟨_, rfl⟩
      rw [← hM] at hML ⊢
      have hL' : L < M := by omega
      clear ho4 hb4 hM
      go_wp2
      go_ret
      exact ⟨ret_int (by rw [HN.out]), HB4.out⟩


/-- The reference's test, behind j answers. -/
def goodJ (xss : List (List Int)) (L q : Nat) : Nat → Bool
  | 0 => true
  | j + 1 => goodJ xss L q j && (partN xss L q j != L && decide (need xss (partN xss L q j) < need xss L))
theorem goodJ_all {xss : List (List Int)} {L q j : Nat} : goodJ xss L q j = true ↔ ∀ a, a < j → partN xss L q a ≠ L ∧ need xss (partN xss L q a) < need xss L := by
  induction j with
  | zero => simp [goodJ]
  | succ j ih =>
    rw [goodJ, Bool.and_eq_true, ih, Bool.and_eq_true, bne_iff_ne, decide_eq_true_eq]
    constructor
    · rintro ⟨h1, h2⟩ a ha
      by_cases e : a = j
      · subst e; exact h2
      · exact h1 a (by omega)
    · intro h
      exact ⟨fun a ha => h a (by omega), h j (by omega)⟩
theorem goodJ_three {xss : List (List Int)} {L q : Nat} (hL : L < 2 ^ xss.length) (h : 1 ≤ need xss L) : goodJ xss L q 3 = goodQ xss L q := by
  rw [Bool.eq_iff_iff, goodJ_all, goodQ_iff]
  constructor
  · intro hh a ha
    have := (need_mono L hL _ (partN_lt xss L q a) part_of (by omega)).1
    have := (hh a ha).2
    omega
  · intro hh a ha
    have h1 := hh a ha
    exact ⟨fun e => by rw [e] at h1; omega, by omega⟩

theorem needAt_pos {xss : List (List Int)} {lot : Int} (h : 0 ≤ needAtR xss lot) : (tableB xss && lotOk xss lot) = true := by
  unfold needAtR at h
  split at h
  · assumption
  · omega

set_option maxHeartbeats 4000000 in
theorem specAskNext_any {B : Nat} (v : Value) (xss : List (List Int)) (lot : Int) (w : World) (h : Rows2 B w v xss) :
    Calls Try.prog 36 #[v, .int .i64 lot] w (TwoOut (askNextR xss lot) w) := by
  have hNd := specNeededAt_any v xss lot w h
  have hrows := h
  obtain ⟨ad, cap, rfl, hcap, hmax, V, hcells, hV⟩ := h.opened
  by_cases hp : needAtR xss lot < 1
  · have hd : decide (needAtR xss lot < 1) = true := decide_eq_true hp
    have HN := Lib.hid (show askNextR xss lot = (-1, false) from by
      unfold askNextR
      rw [if_neg]
      rintro ⟨h1, h2⟩
      unfold needAtR at hp
      rw [if_pos h1] at hp
      omega)
    clear hp hcells hV h hrows
    go_enter Try.func36, Try.ntmps36
    go_wp2_with fail
    refine hNd.mono ?_
    rintro e w2 ⟨rfl, hb2⟩
    have HB2 := Lib.hid hb2
    clear hb2
    go_wp2
    go_ret2
    exact ⟨by rw [HN.out]; rfl, HB2.out⟩
  · have hok := needAt_pos (xss := xss) (lot := lot) (by omega)
    obtain ⟨hT, L, rfl, hL⟩ := lot_parts hok
    rw [needAt_yes hok] at hp hNd
    have hn := tableB_len hT
    have hL7 := lot_128 hn.2 hL
    have hd : decide (need xss L < 1) = false := decide_eq_false hp
    have HN := Lib.hid (askNext_yes hok (by omega : 1 ≤ need xss L))
    have hrng := need_rng xss L
    obtain ⟨g0, off, rfl, _, hc⟩ := hcells (by omega)
    have hc0 := hc 0 (by omega)
    obtain ⟨a0, c0, hv0, h01, h02⟩ := (hV 0 (by omega)).shape
    have hhd : xss.headD [] = xss[0] := headD_get (by omega)
    rw [hv0, Nat.add_zero] at hc0
    have hm0 : xss[0].length = asks xss := by unfold asks; rw [hhd]
    have hm5 : asks xss ≤ 5 := by
      have := hT
      unfold tableB at this
      simp only [Bool.and_eq_true, decide_eq_true_eq] at this
      exact this.2.1
    rw [hm0] at hc0 h01
    have hn1 : (0 : Int) < (xss.length : Int) := by omega
    have HR := Lib.hid hrows
    have h1n : 1 ≤ need xss L := by omega
    clear hok hcells hV h hrows hc hv0 hhd hm0 hp
    go_enter Try.func36, Try.ntmps36
    go_wp2_with fail
    refine hNd.mono ?_
    rintro e w2 ⟨rfl, hb2⟩
    have hLeft := left14_any _ xss hT w2 (HR.out.below hb2)
    have HB2 := Lib.hid hb2
    clear hb2 hNd
    go_wp2_with fail
    refine hLeft.mono ?_
    rintro e w3 ⟨g, rfl, ho3, hb3⟩
    have HB3 := Lib.hid (HB2.out.trans (hb3.mono HB2.out.size))
    have hc3 := (Above.of_below (B := 0) HB3.out).cell (Nat.zero_le _) hc0
    have HR3 := Lib.hid (HR.out.below HB3.out)
    have HO3 := Lib.hid ho3
    obtain ⟨M, hM⟩ : ∃ M, M = 2 ^ xss.length := ⟨_, rfl⟩
    have HML := Lib.hid (show L < M by rw [hM]; exact hL)
    have hM7 : M ≤ 128 := by rw [hM]; exact Nat.pow_le_pow_right (n := 2) (by omega) hn.2
    have HM := Lib.hid hM
    rw [← hM]
    clear hb3 ho3 hc0 hLeft hM
    go_wp2
    go_loopw [8] (fun i wr => ∃ q : Nat, q ≤ asks xss ∧ i = .int .i64 q ∧ (∀ j, j < q → goodQ xss L j = false) ∧ Drawn w3 wr) (fun i _ => asks xss - (intOf i).toNat)
    case atStart => exact ⟨0, Nat.zero_le _, rfl, by omega, Drawn.refl _⟩
    case round =>
      obtain ⟨q, hq, rfl, hno, hD⟩ := hrel
      have HNo := Lib.hid hno
      have hcw := hD.cell hc3
      have HD := Lib.hid hD
      clear hno hD
      by_cases hql : q < asks xss
      · go_wp2
        obtain ⟨wq, hwq⟩ : ∃ wq, wq = wr := ⟨_, rfl⟩
        rw [← hwq] at HD ⊢
        clear hwq hcw
        go_loopw [9, 10] (fun s i wi => ∃ j : Nat, j ≤ 3 ∧ i = .int .i64 j ∧ s = .bool (goodJ xss L q j) ∧ Drawn w3 wi) (fun _ i _ => 3 - (intOf i).toNat)
        case atStart => exact ⟨0, Nat.zero_le _, rfl, rfl, HD.out⟩
        case round =>
          obtain ⟨j, hj, rfl, rfl, hDi⟩ := hrel
          by_cases hjl : j < 3
          · have hpl := partN_le xss L q j
            have hpt := partN_lt xss L q j
            have hLA := specLotAfter_any _ xss (L : Int) (q : Int) (j : Int) _ (HR3.out.below hDi.below)
            rw [lotAfter_part hT hL hql hjl] at hLA
            have HCell := Lib.hid (show ∀ wi, Drawn w3 wi → wi.cell? ⟨g, partN xss L q j, none⟩ = some (.int .i64 (need xss (partN xss L q j))) from fun wi hDw => by
              have h9 := (OwnI.cellN (hDw.owns HO3.out) (partN xss L q j) (by rw [leftK_length]; exact hpt)).1
              rw [leftK_getD xss hpt hpt] at h9
              exact h9)
            have HStep := Lib.hid (show goodJ xss L q (j + 1) = (goodJ xss L q j && (partN xss L q j != L && decide (need xss (partN xss L q j) < need xss L))) from rfl)
            have hrr := need_rng xss (partN xss L q j)
            obtain ⟨P, hP⟩ : ∃ P, P = partN xss L q j := ⟨_, rfl⟩
            have hPM : P < M := by rw [hP, HM.out]; exact hpt
            rw [← hP] at hpl hLA HStep HCell hrr
            obtain ⟨r, hr⟩ : ∃ r, r = need xss P := ⟨_, rfl⟩
            rw [← hr] at hrr HCell HStep
            have HDi := Lib.hid hDi
            have hj2 : (j : Int) ≤ 2 := by omega
            clear hP hr hDi hpt
            go_wp2_with fail
            refine hLA.mono ?_
            rintro e w4 ⟨rfl, hq4⟩
            have hD4' : Drawn _ w4 := hq4
            have HD4 := Lib.hid (HDi.out.trans hD4')
            have hcp := HCell.out w4 HD4.out
            clear hq4 hD4' hLA
            cases hgj : goodJ xss L q j
            · have HG := Lib.hid (show goodJ xss L q (j + 1) = false by rw [HStep.out, hgj]; rfl)
              clear hgj
              go_wp2
              go_roundw
              case rel => exact ⟨j + 1, by omega, by go_num, by rw [HG.out], HD4.out⟩
              case measure => simp [intOf]; omega
            · by_cases hpk : P = L
              · have he : (P != L) = false := by simpa using hpk
                have he' : ((P : Int) != (L : Int)) = false := by simp [hpk]
                have HG := Lib.hid (show goodJ xss L q (j + 1) = false by rw [HStep.out, hgj, he]; rfl)
                clear hgj hpk
                go_wp2
                go_roundw
                case rel => exact ⟨j + 1, by omega, by go_num, by rw [HG.out], HD4.out⟩
                case measure => simp [intOf]; omega
              · have he : (P != L) = true := by simpa using hpk
                have he' : ((P : Int) != (L : Int)) = true := by simp; omega
                have HG := Lib.hid (show goodJ xss L q (j + 1) = decide (r < need xss L) by rw [HStep.out, hgj, he]; rfl)
                clear hgj hpk
                go_wp2
                go_roundw
                case rel => exact ⟨j + 1, by omega, by go_num, by rw [HG.out], HD4.out⟩
                case measure => simp [intOf]; omega
          · obtain rfl : j = 3 := by omega
            rw [goodJ_three hL h1n]
            have HDi := Lib.hid hDi
            clear hDi
            cases hg : goodQ xss L q
            · have HG := Lib.hid hg
              clear hg
              go_wp2
              go_roundw
              case rel => exact ⟨q + 1, by omega, by go_num, upto_step HNo.out HG.out, HDi.out⟩
              case measure => simp [intOf]; omega
            · have HG := Lib.hid hg
              clear hg
              go_wp2
              go_ret2
              exact ⟨by rw [HN.out]; unfold askI; rw [idxN_hit hql HNo.out HG.out]; rfl, HB3.out.trans (HDi.out.below.mono HB3.out.size)⟩
      · obtain ⟨q', _, hq', hg', _⟩ := ask_some h1n
        have := HNo.out q' (by omega)
        rw [hg'] at this
        cases this

end Go.Proofs.Ytpeogghiboaceaa
