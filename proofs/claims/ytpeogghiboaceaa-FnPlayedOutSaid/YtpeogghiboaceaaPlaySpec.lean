/- PlayedOut of the reference. -/
import Derived.Test.YtpeogghiboaceaaWorstSpec
import Derived.Test.YtpeogghiboaceaaPlayImpl
namespace Go.Proofs.Ytpeogghiboaceaa
open Go.RowKit
set_option linter.unusedVariables false
set_option maxRecDepth 100000

theorem lotOk_of {xss : List (List Int)} {L : Nat} (hL : L < 2 ^ xss.length) : lotOk xss (L : Int) = true := by
  unfold lotOk inB
  rw [two_pow_int, decide_eq_true_eq]
  omega
theorem askOk_of {xss : List (List Int)} {q : Nat} (hq : q < asks xss) : askOk xss (q : Int) = true := by
  unfold askOk inB
  rw [decide_eq_true_eq]
  unfold asks at hq
  omega
theorem askNext_is {xss : List (List Int)} (hT : tableB xss = true) {L : Nat} (hL : L < 2 ^ xss.length) (h : 1 ≤ need xss L) : askNextR xss (L : Int) = (((askL xss L : Nat) : Int), true) := by
  rw [askNext_yes (by rw [hT, lotOk_of hL]; rfl) h, (play_round hT hL h).1]
theorem ansWorst_is {xss : List (List Int)} (hT : tableB xss = true) {L : Nat} (hL : L < 2 ^ xss.length) (h : 1 ≤ need xss L) : ansWorstR xss (L : Int) ((askL xss L : Nat) : Int) = (((worL xss L : Nat) : Int), true) := by
  obtain ⟨r1, r2, r3, r4, r5, r6, r7, r8⟩ := play_round hT hL h
  rw [ansWorst_yes (by rw [hT, lotOk_of hL]; rfl) r8 (askOk_of r2) (by omega), r4]

set_option maxHeartbeats 4000000 in
theorem specPlayedOut_any {B : Nat} (v : Value) (xss : List (List Int)) (w : World) (h : Rows2 B w v xss) :
    Calls Try.prog 39 #[v] w (PlayOut xss w) := by
  obtain ⟨w1, hw1⟩ : ∃ w1, w1 = w.alloc (.cells #[] 3) := ⟨_, rfl⟩
  have hb1 : Below w.heap.size w w1 := by rw [hw1]; exact (Below.refl _ _).alloc (Nat.le_refl _) _
  have hlit : OwnI w.heap.size w1 (.slice (some ⟨w.heap.size, 0, none⟩) 0 0) [] := by rw [hw1]; exact OwnI.lit w
  have hA := specApartOk_any v xss w1 (h.below hb1)
  have h0 := h
  obtain ⟨ad, cap, rfl, hcap, hmax, V, hcells, hV⟩ := h.opened
  have HLit := Lib.hid hlit
  have HB1 := Lib.hid hb1
  rw [hw1] at hA
  have HW1 := Lib.hid hw1
  cases hap : apartB xss
  · rw [hap] at hA
    have HP := Lib.hid (show PlayIs xss [] false from ⟨by unfold playR; rw [hap]; rfl, hap.symm⟩)
    clear hap hcells hV h h0 hb1 hlit hw1
    go_enter Try.func39, Try.ntmps39
    go_wp2_with fail
    refine hA.mono ?_
    rintro e w2 ⟨rfl, hq2⟩
    rw [← HW1.out] at hq2
    have hD : Drawn w1 w2 := hq2
    have HB2 := Lib.hid (HB1.out.trans (hD.below.mono HB1.out.size))
    have HO2 := Lib.hid (hD.owns HLit.out)
    clear hq2 hA hD
    go_wp2
    go_ret2
    exact ⟨[], false, some ⟨w.heap.size, 0, none⟩, 0, rfl, HP.out, HO2.out, HB2.out⟩
  · rw [hap] at hA
    have hT := apartB_table hap
    have hn := tableB_len hT
    have hneed : 0 ≤ need xss (fullN xss) := by
      have := apart_need hT
      rw [hap] at this
      exact of_decide_eq_true this.symm
    have HPlay := Lib.hid (show PlayIs xss (playL xss (playN xss)) true from ⟨by unfold playR; rw [if_pos hap], hap.symm⟩)
    have hf := full_cast xss (by omega)
    have hn7 : (xss.length : Int) ≤ 7 := by omega
    have hfl := fullN_lt xss
    have hf7 := lot_128 hn.2 hfl
    have HR := Lib.hid h0
    clear hap hcells hV hlit hb1 hw1 h h0
    go_enter Try.func39, Try.ntmps39
    go_wp2_with fail
    refine hA.mono ?_
    rintro e w2 ⟨rfl, hq2⟩
    rw [← HW1.out] at hq2
    have hD : Drawn w1 w2 := hq2
    have HB2 := Lib.hid (HB1.out.trans (hD.below.mono HB1.out.size))
    have HO2 := Lib.hid (hD.owns HLit.out)
    clear hq2 hA hD
    go_wp2
    have HF := Lib.hid hf
    clear hf
    go_loopw [4, 5] (fun o l wr => ∃ k ao co, k ≤ playN xss ∧ l = .int .i64 (lotK xss k : Nat) ∧ o = .slice ao k co ∧ OwnI w.heap.size wr (.slice ao k co) (playL xss k) ∧ Below w.heap.size w wr) (fun _ l _ => (need xss (intOf l).toNat).toNat)
    case atStart => exact ⟨0, some ⟨w.heap.size, 0, none⟩, 0, Nat.zero_le _, by rw [HF.out]; rfl, rfl, HO2.out, HB2.out⟩
    case round =>
      obtain ⟨k, ao, co, hk, rfl, rfl, ho, hbr⟩ := hrel
      have hlk := lotK_lt xss k
      have hl7 := lot_128 hn.2 hlk
      have hnk := lotK_need hT hneed k hk
      have hN : (playN xss : Int) = need xss (fullN xss) := by unfold playN; omega
      have hMany := many_any (lotK xss k) hl7 wr
      rw [← many_seven hn.2 hlk] at hMany
      have hcb : many xss (lotK xss k) ≤ 7 := by have := cntN_le (bitN (lotK xss k)) xss.length; unfold many; omega
      have HO := Lib.hid ho
      have HBr := Lib.hid hbr
      clear ho hbr
      by_cases hlt : k < playN xss
      · have hone : 1 ≤ need xss (lotK xss k) := by omega
        have hm2 := need_many hone
        have hAsk := fun W (hb : Below w.heap.size w W) => specAskNext_any _ xss (lotK xss k : Nat) W (HR.out.below hb)
        have hWor := fun W (hb : Below w.heap.size w W) => specAnswerWorst_any _ xss (lotK xss k : Nat) (askL xss (lotK xss k) : Nat) W (HR.out.below hb)
        obtain ⟨r1, r2, r3, r4, r5, r6, r7, r8⟩ := play_round hT hlk hone
        have hLot := fun W (hb : Below w.heap.size w W) => specLotAfter_any _ xss (lotK xss k : Nat) (askL xss (lotK xss k) : Nat) (worL xss (lotK xss k) : Nat) W (HR.out.below hb)
        rw [lotAfter_part hT hlk r2 r5, show partN xss (lotK xss k) (askL xss (lotK xss k)) (worL xss (lotK xss k)) = lotK xss (k + 1) from rfl] at hLot
        rw [askNext_is hT hlk hone] at hAsk
        rw [ansWorst_is hT hlk hone] at hWor
        have HL0 := Lib.hid (show need xss (lotK xss (k + 1)) = need xss (lotK xss k) - 1 from r7)
        have R1 := Lib.hid r1
        have HNk := Lib.hid hnk
        have HPL := Lib.hid (playL_length xss k)
        have hN7 := playN_le hT
        obtain ⟨L, hL⟩ : ∃ L, L = lotK xss k := ⟨_, rfl⟩
        rw [← hL] at hMany hAsk hWor hLot hone hm2 hl7 hcb r2 r5 ⊢
        have HL := Lib.hid hL
        have hd : decide ((1 : Int) < ((many xss L : Nat) : Int)) = true := decide_eq_true (by omega)
        clear r1 r3 r4 r6 r7 r8 hnk hL
        go_wp2_with fail
        refine hMany.mono ?_
        rintro e w4 ⟨rfl, rfl⟩
        clear hMany
        go_wp2_with fail
        refine (hAsk _ HBr.out).mono ?_
        rintro e w5 ⟨rfl, hb5⟩
        have HB5 := Lib.hid (HBr.out.trans (hb5.mono HBr.out.size))
        have HO5 := Lib.hid (HO.out.below hb5)
        clear hb5 hAsk
        unfold pairV
        go_wp2_with fail
        refine (hWor _ HB5.out).mono ?_
        rintro e w6 ⟨rfl, hb6⟩
        have HB6 := Lib.hid (HB5.out.trans (hb6.mono HB5.out.size))
        have HO6 := Lib.hid (HO5.out.below hb6)
        clear hb6 hWor
        unfold pairV
        have ho7 : OwnI w.heap.size (w6.alloc (.cells #[.int .i64 (askL xss L : Nat)] 3)) (.slice ao k co) (playL xss k) := World.ownsRow.alloc HO6.out _
        have HLt := Lib.hid (World.ownsRow.lt ho7)
        have HO7 := Lib.hid ho7
        have hsz6 := HB6.out.size
        clear ho7
        go_wp2_with (at_builtin; refine wpList_push_int _ rfl (.tmp 35) (.tmp 37) rfl w.heap.size (.slice ao k co) (playL xss k) rfl HO7.out ⟨w6.heap.size, 0, none⟩ 1 (askL xss L : Nat) rfl (by simp) (by have := HPL.out; omega) (by simp; omega) ?_; intro a' cap' w8 ho8 hg8; (try rw [HPL.out] at ho8 ⊢); have HO8 := Lib.hid ho8; have HB8 := Lib.hid ((HB6.out.alloc HB6.out.size (.cells #[.int .i64 (askL xss L : Nat)] 3)).grown hg8 (by simp; omega) (fun j hj => (HLt.out j hj).1)); clear ho8 hg8)
        refine (hLot _ HB8.out).mono ?_
        rintro e w9 ⟨rfl, hq9⟩
        have hD9 : Drawn w8 w9 := hq9
        have HO9 := Lib.hid (hD9.owns HO8.out)
        have HB9 := Lib.hid (HB8.out.trans (hD9.below.mono HB8.out.size))
        clear hq9 hD9 hLot
        go_wp2
        go_roundw
        case rel => exact ⟨k + 1, a', cap', by omega, rfl, rfl, by rw [playL_succ, R1.out, ← HL.out]; exact HO9.out, HB9.out⟩
        case measure => simp only [intOf, Int.toNat_natCast]; rw [HL0.out, ← HL.out]; omega
      · obtain rfl : k = playN xss := by omega
        have hz : need xss (lotK xss (playN xss)) = 0 := by omega
        have hm1 : many xss (lotK xss (playN xss)) ≤ 1 := by
          by_cases h2 : 2 ≤ many xss (lotK xss (playN xss))
          · have := many_need h2 (by omega); omega
          · omega
        have hd : decide ((1 : Int) < ((many xss (lotK xss (playN xss)) : Nat) : Int)) = false := decide_eq_false (by omega)
        have HPL := Lib.hid (playL_length xss (playN xss))
        clear hnk hz hN hm1
        go_wp2_with fail
        refine hMany.mono ?_
        rintro e w4 ⟨rfl, rfl⟩
        clear hMany
        go_wp2
        go_ret2
        exact ⟨playL xss (playN xss), true, ao, co, congrArg (fun m => Ending.returned (.tuple #[.slice ao m co, .bool true])) HPL.out.symm, HPlay.out, by rw [HPL.out]; exact HO.out, HBr.out⟩

end Go.Proofs.Ytpeogghiboaceaa
