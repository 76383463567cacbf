/- The reference's table of all lots. -/
import Derived.Test.YtpeogghiboaceaaNeed2
import Derived.Test.YtpeogghiboaceaaLot2
import Derived.Test.YtpeogghiboaceaaDepths
namespace Go.Proofs.Ytpeogghiboaceaa
open Go.RowKit
set_option linter.unusedVariables false
set_option maxRecDepth 100000

theorem cnt_half (L j : Nat) : cntN (bitN L) (j + 1) = cntN (bitN L) j + L / 2 ^ j % 2 := by
  rw [cntN]
  have h2 : L / 2 ^ j % 2 = 0 ∨ L / 2 ^ j % 2 = 1 := by omega
  rcases h2 with h | h <;> simp [bitN, h]
theorem half_step (L j : Nat) : L / 2 ^ j / 2 = L / 2 ^ (j + 1) := by rw [Nat.div_div_eq_div_mul, Nat.pow_succ]
theorem cnt_done {L j : Nat} (h : L / 2 ^ j = 0) (hj : j ≤ 7) : cntN (bitN L) 7 = cntN (bitN L) j := by
  refine cntN_up 7 hj fun k hk => bitN_high (n := j) ?_ hk
  have : 0 < 2 ^ j := Nat.pow_pos (by omega)
  rcases Nat.lt_or_ge L (2 ^ j) with h' | h'
  · exact h'
  · have := Nat.div_pos h' this; omega

theorem many_any (L : Nat) (hL : L < 128) (w : World) :
    Calls Try.prog 81 #[.int .i64 L] w fun e w' => e = .returned (.int .i64 (cntN (bitN L) 7 : Nat)) ∧ w = w' := by
  go_enter Try.func81, Try.ntmps81
  go_wp2
  go_loop [3, 4] (fun n k => ∃ j : Nat, j ≤ 7 ∧ k = .int .i64 (L / 2 ^ j : Nat) ∧ n = .int .i64 (cntN (bitN L) j : Nat)) (fun _ k => (intOf k).toNat)
  case atStart => exact ⟨0, Nat.zero_le _, by simp, rfl⟩
  case round =>
    obtain ⟨j, hj, rfl, rfl⟩ := hrel
    have hc := cnt_half L j
    have hs := half_step L j
    have hle : L / 2 ^ j ≤ L := Nat.div_le_self _ _
    have hcl := cntN_le (bitN L) j
    have HJ7 := Lib.hid (show 0 < L / 2 ^ j → j < 7 from fun h => by
      by_cases e : j = 7
      · subst e
        rw [Nat.div_eq_of_lt (by simpa using hL)] at h
        omega
      · omega)
    have HD := Lib.hid (show L / 2 ^ j = 0 → cntN (bitN L) 7 = cntN (bitN L) j from fun h => cnt_done h hj)
    obtain ⟨M, hM⟩ : ∃ M, M = L / 2 ^ j := ⟨_, rfl⟩
    obtain ⟨c, hcc⟩ : ∃ c, c = cntN (bitN L) j := ⟨_, rfl⟩
    rw [← hM] at hc hs hle HJ7 HD ⊢
    rw [← hcc] at hc hcl HD ⊢
    have HC := Lib.hid hc
    have HS := Lib.hid hs
    have HCC := Lib.hid hcc
    clear hc hs hM hcc
    by_cases hp : 0 < M
    · have hd : decide (0 < M) = true := by simp; omega
      have hd' : decide ((0 : Int) < (M : Int)) = true := by simp; omega
      go_wp2
      go_round
      case rel => exact ⟨j + 1, by have := HJ7.out (by omega); omega, by rw [← HS.out]; go_num, by rw [HC.out]; go_num⟩
      case measure => simp [intOf]; omega
    · have hd : decide (0 < M) = false := by simp; omega
      have hd' : decide ((0 : Int) < (M : Int)) = false := by simp; omega
      go_wp2
      go_ret
      exact ⟨ret_int (by rw [HD.out (by omega)]), rfl⟩

/-- The table with the lots below k filled in. -/
def leftK (xss : List (List Int)) (k : Nat) : List Int := (List.range (2 ^ xss.length)).map fun s => if s < k then need xss s else 0
theorem leftK_length (xss : List (List Int)) (k : Nat) : (leftK xss k).length = 2 ^ xss.length := by simp [leftK]
theorem leftK_zero (xss : List (List Int)) : leftK xss 0 = List.replicate (2 ^ xss.length) 0 := by
  refine List.ext_getElem (by simp [leftK]) fun i h1 h2 => by simp [leftK]
theorem leftK_getD (xss : List (List Int)) {k s : Nat} (hk : s < k) (hs : s < 2 ^ xss.length) : (leftK xss k).getD s 0 = need xss s := by
  simp [leftK, List.getD, hs, hk]
theorem leftK_set (xss : List (List Int)) {k : Nat} (hk : k < 2 ^ xss.length) : (leftK xss k).set k (need xss k) = leftK xss (k + 1) := by
  refine List.ext_getElem (by simp [leftK]) fun i h1 h2 => ?_
  simp only [leftK, List.getElem_set, List.getElem_map, List.getElem_range]
  by_cases e : k = i
  · subst e; simp
  · rw [if_neg e]
    by_cases h : i < k
    · rw [if_pos h, if_pos (by omega)]
    · rw [if_neg h, if_neg (by omega)]
theorem leftK_keep (xss : List (List Int)) {k : Nat} (hk : k < 2 ^ xss.length) (h : many xss k ≤ 1) : leftK xss k = leftK xss (k + 1) := by
  refine List.ext_getElem (by simp [leftK]) fun i h1 h2 => ?_
  simp only [leftK, List.getElem_map, List.getElem_range]
  by_cases e : k = i
  · subst e; rw [if_neg (by omega), if_pos (by omega), need_small h]
  · by_cases h : i < k
    · rw [if_pos h, if_pos (by omega)]
    · rw [if_neg h, if_neg (by omega)]

theorem OwnI.cellN {B : Nat} {w : World} {g n cap : Nat} {xs : List Int} (h : OwnI B w (.slice (some ⟨g, 0, none⟩) n cap) xs) (k : Nat) (hk : k < xs.length) :
    w.cell? ⟨g, k, none⟩ = some (.int .i64 (xs.getD k 0)) ∧ w.frozen? ⟨g, k, none⟩ = false := by
  obtain ⟨a, cap', he, _, _, hd⟩ := h.opened
  injection he with e1 _ _
  subst e1
  obtain ⟨g', hg, _, hc, hf⟩ := hd (by omega)
  injection hg with hg
  injection hg with hg _ _
  subst hg
  exact ⟨by rw [show xs.getD k 0 = xs[k] by simp [List.getD, hk]]; exact hc k hk, hf k⟩

theorem lotAfter_part {xss : List (List Int)} (hT : tableB xss = true) {L q a : Nat} (hL : L < 2 ^ xss.length) (hq : q < asks xss) (ha : a < 3) : lotAfterR xss (L : Int) (q : Int) (a : Int) = (partN xss L q a : Nat) := by
  have e : (2 : Int) ^ xss.length = ((2 ^ xss.length : Nat) : Int) := by simp
  have h1 : lotOk xss (L : Int) = true := by unfold lotOk inB; rw [e, decide_eq_true_eq]; omega
  have h2 : askOk xss (q : Int) = true := by unfold askOk inB; rw [decide_eq_true_eq]; unfold asks at hq; omega
  have h3 : inB (a : Int) 0 2 = true := by unfold inB; rw [decide_eq_true_eq]; omega
  unfold lotAfterR
  rw [if_pos (by simp [hT, h1, h2, h3])]
  simp [partN]

/-- l14Left: the table in new memory. -/
def LeftOut (xss : List (List Int)) (w : World) (e : Ending) (w' : World) : Prop :=
  ∃ g, e = .returned (.slice (some ⟨g, 0, none⟩) (2 ^ xss.length) (2 ^ xss.length)) ∧ OwnI w.heap.size w' (.slice (some ⟨g, 0, none⟩) (2 ^ xss.length) (2 ^ xss.length)) (leftK xss (2 ^ xss.length)) ∧ Below w.heap.size w w'


theorem worstK_low {xss : List (List Int)} {g : Nat → Int} {L q j : Nat} (h : worstK xss g L q j < 0) : ∀ d, worstK xss g L q (j + d) < 0 := by
  intro d
  induction d with
  | zero => exact h
  | succ d ih =>
    have := worstK_down ih
    show worstK xss g L q (j + d + 1) < 0
    omega
theorem worstK_three {xss : List (List Int)} {L q j : Nat} (h : worstK xss (need xss) L q (j + 1) < 0) (hj : j < 3) : worstK xss (need xss) L q 3 = -1 := by
  have h1 := worstK_low h (2 - j)
  rw [show j + 1 + (2 - j) = 3 by omega] at h1
  have := worst_rng xss (L := L) (q := q) 3
  omega
theorem wstep_whole {g : Nat → Int} {L p : Nat} {w : Int} (h : p = L) : wstep g L p w = -1 := by unfold wstep; rw [if_pos (.inr (.inl h))]
theorem Drawn.owns {w w' : World} {B : Nat} {v : Value} {xs : List Int} (h : Drawn w w') (ho : OwnI B w v xs) : OwnI B w' v xs := ho.below h.below

set_option maxHeartbeats 8000000 in
theorem left14_any {B : Nat} (v : Value) (xss : List (List Int)) (hT : tableB xss = true) (w : World) (h : Rows2 B w v xss) :
    Calls Try.prog 63 #[v] w (LeftOut xss w) := by
  have hn := tableB_len hT
  have hrows := h
  obtain ⟨ad, cap, rfl, hcap, hmax, V, hcells, hV⟩ := h.opened
  obtain ⟨g0, off, rfl, _, hc⟩ := hcells (by omega)
  have hc0 := hc 0 (by omega)
  obtain ⟨a0, c0, hv0, h01, h02⟩ := (hV 0 (by omega)).shape
  have hhd : xss.headD [] = xss[0] := headD_get (by omega)
  rw [hv0, Nat.add_zero] at hc0
  have hm0 : xss[0].length = asks xss := by unfold asks; rw [hhd]
  have hm5 : asks xss ≤ 5 := by
    have := hT
    unfold tableB at this
    simp only [Bool.and_eq_true, decide_eq_true_eq] at this
    exact this.2.1
  rw [hm0] at hc0 h01
  have hn1 : (0 : Int) < (xss.length : Int) := by omega
  have hpw : 2 ^ xss.length ≤ 128 := Nat.pow_le_pow_right (n := 2) (by omega) hn.2
  obtain ⟨M, hM⟩ : ∃ M, M = 2 ^ xss.length := ⟨_, rfl⟩
  have hMl : wrap64 ((2 : Int) ^ xss.length) = (M : Int) := by
    rw [hM]
    have e : (2 : Int) ^ xss.length = ((2 ^ xss.length : Nat) : Int) := by simp
    rw [e]
    exact IntWalk.wrap64_in _ ⟨by omega, by omega⟩
  rw [← hM] at hpw
  have HM := Lib.hid hM
  have HMl := Lib.hid hMl
  have HRows := Lib.hid hrows
  clear hcells hV h hrows hc hv0 hhd hm0 hM hMl
  go_enter Try.func63, Try.ntmps63
  go_wp2_with (at_make; refine wpList_make_ints _ rfl _ _ rfl _ _ M rfl rfl HMl.out HMl.out (by omega) ?_; intro w1 hown hb1 hs1)
  have hstart : leftK xss 0 = List.replicate M 0 := by rw [leftK_zero, HM.out]
  have HO1 := Lib.hid (show OwnI w.heap.size w1 (.slice (some ⟨w.heap.size, 0, none⟩) M M) (leftK xss 0) by rw [hstart]; exact hown)
  have HB1 := Lib.hid hb1
  clear hown hb1 hstart hs1
  go_loopw [4] (fun i wr => ∃ k : Nat, k ≤ M ∧ i = .int .i64 k ∧ OwnI w.heap.size wr (.slice (some ⟨w.heap.size, 0, none⟩) M M) (leftK xss k) ∧ Below w.heap.size w wr) (fun i _ => M - (intOf i).toNat)
  case atStart => exact ⟨0, Nat.zero_le _, rfl, HO1.out, HB1.out⟩
  case round =>
    obtain ⟨k, hk, rfl, ho, hb⟩ := hrel
    by_cases hlt : k < M
    · have hk2 : k < 2 ^ xss.length := by rw [← HM.out]; exact hlt
      have hMany := many_any k (by omega) wr
      rw [← many_seven hn.2 hk2] at hMany
      have HO := Lib.hid ho
      have HB := Lib.hid hb
      have hcb : many xss k ≤ 7 := by have := cntN_le (bitN k) xss.length; unfold many; omega
      clear ho hb
      by_cases hm : many xss k ≤ 1
      · have hd : decide (((many xss k : Nat) : Int) ≤ 1) = true := decide_eq_true (by omega)
        have HMm := Lib.hid (leftK_keep xss hk2 hm)
        clear hm
        go_wp2_with fail
        refine hMany.mono ?_
        rintro e w2 ⟨rfl, rfl⟩
        clear hMany
        go_wp2
        go_roundw
        case rel => exact ⟨k + 1, by omega, by go_num, by rw [← HMm.out]; exact HO.out, HB.out⟩
        case measure => simp [intOf]; omega
      · have hd : decide (((many xss k : Nat) : Int) ≤ 1) = false := decide_eq_false (by omega)
        have HMm := Lib.hid (need_big (xss := xss) (L := k) (by omega))
        clear hm
        go_wp2_with fail
        refine hMany.mono ?_
        rintro e w2 ⟨rfl, rfl⟩
        clear hMany
        go_wp2
        obtain ⟨wo, hwo⟩ : ∃ wo, wo = wr := ⟨_, rfl⟩
        rw [← hwo] at HO HB ⊢
        clear hwo
        have hco := (Above.of_below (B := 0) HB.out).cell (Nat.zero_le _) hc0
        have HRo := Lib.hid (HRows.out.below HB.out)
        clear hc0
        go_loopw [5, 6] (fun b i wi => ∃ q : Nat, q ≤ asks xss ∧ i = .int .i64 q ∧ b = .int .i64 (bestK xss (need xss) k q) ∧ Drawn wo wi) (fun _ i _ => asks xss - (intOf i).toNat)
        case atStart => exact ⟨0, Nat.zero_le _, rfl, rfl, Drawn.refl _⟩
        case round =>
          obtain ⟨q, hq, rfl, rfl, hD⟩ := hrel
          have hcw := hD.cell hco
          have HD := Lib.hid hD
          have hbr := best_rng xss (L := k) q
          obtain ⟨b, hb⟩ : ∃ b, b = bestK xss (need xss) k q := ⟨_, rfl⟩
          rw [← hb] at hbr ⊢
          have HBq := Lib.hid (show bestK xss (need xss) k (q + 1) = bstep (worstK xss (need xss) k q 3) b by rw [bestK, hb])
          have HBe := Lib.hid hb
          clear hD hb
          by_cases hql : q < asks xss
          · go_wp2
            obtain ⟨wq, hwq⟩ : ∃ wq, wq = wr := ⟨_, rfl⟩
            rw [← hwq] at HD ⊢
            clear hwq hcw
            go_loopw [7, 8] (fun s i wi => ∃ j : Nat, j ≤ 3 ∧ i = .int .i64 j ∧ s = .int .i64 (worstK xss (need xss) k q j) ∧ 0 ≤ worstK xss (need xss) k q j ∧ Drawn wo wi) (fun _ i _ => 3 - (intOf i).toNat)
            case atStart => exact ⟨0, Nat.zero_le _, rfl, rfl, by simp [worstK], HD.out⟩
            case round =>
              obtain ⟨j, hj, rfl, rfl, hw0, hDi⟩ := hrel
              have hwr := worst_rng xss (L := k) (q := q) j
              obtain ⟨W, hW⟩ : ∃ W, W = worstK xss (need xss) k q j := ⟨_, rfl⟩
              by_cases hjl : j < 3
              · have hpl := partN_le xss k q j
                have hpt := partN_lt xss k q j
                have hLA := specLotAfter_any _ xss (k : Int) (q : Int) (j : Int) _ (HRo.out.below hDi.below)
                rw [lotAfter_part hT hk2 hql hjl] at hLA
                have HStep := Lib.hid (show worstK xss (need xss) k q (j + 1) = wstep (need xss) k (partN xss k q j) W by rw [worstK, hW])
                have HCell := Lib.hid (show partN xss k q j < k → ∀ wi, Drawn wo wi → wi.cell? ⟨w.heap.size, partN xss k q j, none⟩ = some (.int .i64 (need xss (partN xss k q j))) from fun hpk wi hDw => by
                  have h9 := (OwnI.cellN (hDw.owns HO.out) (partN xss k q j) (by rw [leftK_length]; omega)).1
                  rw [leftK_getD xss hpk hpt] at h9
                  exact h9)
                have HDn := Lib.hid (show worstK xss (need xss) k q (j + 1) < 0 → worstK xss (need xss) k q 3 = -1 from fun h => worstK_three h hjl)
                have hrr := need_rng xss (partN xss k q j)
                obtain ⟨P, hP⟩ : ∃ P, P = partN xss k q j := ⟨_, rfl⟩
                rw [← hP] at hpl hpt hLA HStep HCell hrr
                rw [← hW] at hwr hw0 ⊢
                obtain ⟨r, hr⟩ : ∃ r, r = need xss P := ⟨_, rfl⟩
                rw [← hr] at hrr HCell
                have HRn := Lib.hid hr
                have HDi := Lib.hid hDi
                have hj2 : (j : Int) ≤ 2 := by omega
                clear hP hW hr hDi
                go_wp2_with fail
                refine hLA.mono ?_
                rintro e w3 ⟨rfl, hq3⟩
                have hD3' : Drawn _ w3 := hq3
                have HD3 := Lib.hid (HDi.out.trans hD3')
                clear hq3 hD3' hLA
                by_cases hpk : P = k
                · have he : (P == k) = true := by simpa using hpk
                  have he' : ((P : Int) == (k : Int)) = true := by simp [hpk]
                  have HPk := Lib.hid hpk
                  clear hpk
                  have hWW : worstK xss (need xss) k q 3 = -1 := HDn.out (by rw [HStep.out, wstep_whole HPk.out]; omega)
                  have HWW := Lib.hid (show bestK xss (need xss) k (q + 1) = b by rw [HBq.out, hWW, bstep_no (by omega)])
                  clear hWW
                  go_wp2
                  go_roundw
                  case rel => exact ⟨q + 1, by omega, by go_num, by rw [HWW.out], HD3.out⟩
                  case measure => simp [intOf]; omega
                · have he : (P == k) = false := by simpa using hpk
                  have he' : ((P : Int) == (k : Int)) = false := by simp; omega
                  have hcp := HCell.out (by omega) w3 HD3.out
                  have hP1 : P < M := by omega
                  have HPk := Lib.hid hpk
                  clear hpk
                  by_cases hr0 : r < 0
                  · have hd0 : decide (r < 0) = true := decide_eq_true hr0
                    have hWW : worstK xss (need xss) k q 3 = -1 := HDn.out (by rw [HStep.out, wstep_no (.inr (by rw [← HRn.out]; exact hr0))]; omega)
                    have HWW := Lib.hid (show bestK xss (need xss) k (q + 1) = b by rw [HBq.out, hWW, bstep_no (by omega)])
                    clear hWW
                    go_wp2
                    go_roundw
                    case rel => exact ⟨q + 1, by omega, by go_num, by rw [HWW.out], HD3.out⟩
                    case measure => simp [intOf]; omega
                  · have hd0 : decide (r < 0) = false := decide_eq_false hr0
                    go_wp2
                    go_roundw
                    case rel => exact ⟨j + 1, by omega, by go_num, by rw [HStep.out, wstep_yes HPk.out hw0 (by rw [← HRn.out]; omega), ← HRn.out]; congr 1; split <;> omega, by rw [HStep.out, wstep_yes HPk.out hw0 (by rw [← HRn.out]; omega)]; omega, HD3.out⟩
                    case measure => simp [intOf]; omega
              · obtain rfl : j = 3 := by omega
                rw [← hW] at hwr hw0 ⊢
                have HS := Lib.hid (show bestK xss (need xss) k (q + 1) = bstep W b by rw [HBq.out, hW])
                have HDi := Lib.hid hDi
                have hd : decide (0 ≤ W) = true := decide_eq_true hw0
                clear hW hDi
                by_cases hb0 : b < 0
                · have hd2 : decide (b < 0) = true := decide_eq_true hb0
                  go_wp2
                  go_roundw
                  case rel => exact ⟨q + 1, by omega, by go_num, by rw [HS.out, bstep_less hw0 (.inl hb0)]; go_num, HDi.out⟩
                  case measure => simp [intOf]; omega
                · have hd2 : decide (b < 0) = false := decide_eq_false hb0
                  by_cases hlb : W + 1 < b
                  · have hd3 : decide (W + 1 < b) = true := decide_eq_true hlb
                    go_wp2
                    go_roundw
                    case rel => exact ⟨q + 1, by omega, by go_num, by rw [HS.out, bstep_less hw0 (.inr (by omega))]; go_num, HDi.out⟩
                    case measure => simp [intOf]; omega
                  · have hd3 : decide (W + 1 < b) = false := decide_eq_false hlb
                    go_wp2
                    go_roundw
                    case rel => exact ⟨q + 1, by omega, by go_num, by rw [HS.out, bstep_keep (by omega) (by omega)], HDi.out⟩
                    case measure => simp [intOf]; omega
          · obtain rfl : q = asks xss := by omega
            have HF := Lib.hid (show b = need xss k by rw [HBe.out, HMm.out])
            have hoo := HD.out.owns HO.out
            obtain ⟨hc1, hf1⟩ := OwnI.cellN hoo k (by rw [leftK_length]; omega)
            have HOS := Lib.hid (OwnI.set hoo k b)
            have HBS := Lib.hid (Below.setCell (p := ⟨w.heap.size, k, none⟩) (HB.out.trans (HD.out.below.mono HB.out.size)) (Nat.le_refl _) (.int .i64 b))
            have HLS := Lib.hid (show (leftK xss k).set k b = leftK xss (k + 1) by rw [HF.out]; exact leftK_set xss hk2)
            have hszw := HD.out.below.size
            clear hoo
            go_wp2
            go_roundw
            case rel => exact ⟨k + 1, by omega, by go_num, by rw [← HLS.out]; exact HOS.out, HBS.out⟩
            case measure => simp [intOf]; omega
    · obtain rfl : k = M := by omega
      have HO := Lib.hid ho
      have HB := Lib.hid hb
      clear ho hb hc0
      go_wp2
      go_ret
      unfold LeftOut
      rw [← HM.out]
      exact ⟨w.heap.size, rfl, HO.out, HB.out⟩

end Go.Proofs.Ytpeogghiboaceaa
