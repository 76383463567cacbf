/- spec.LotAfter. -/
import Derived.Test.YtpeogghiboaceaaLot
namespace Go.Proofs.Ytpeogghiboaceaa
open Go.RowKit Go.Shelf
set_option linter.unusedVariables false

set_option maxHeartbeats 1000000 in
theorem specLotAfter_any {B : Nat} (v : Value) (xss : List (List Int)) (lot q a : Int) (w : World) (h : Rows2 B w v xss) :
    Calls Try.prog 74 #[v, .int .i64 lot, .int .i64 q, .int .i64 a] w (Quiet (.int .i64 (lotAfterR xss lot q a)) w) := by
  have hT := specTableOk_any v xss w h
  obtain ⟨ad, cap, rfl, hcap, hmax, V, hcells, hV⟩ := h.opened
  cases h1 : tableB xss
  · rw [h1] at hT
    have HE := Lib.hid (show lotAfterR xss lot q a = -1 by unfold lotAfterR; rw [h1]; rfl)
    clear h1 hcells hV h
    go_enter Try.func74, Try.ntmps74
    go_wp2_with fail
    refine hT.mono ?_
    rintro e w2 ⟨rfl, hq2⟩
    have hD : Drawn w w2 := hq2
    clear hq2
    go_wp2
    go_ret
    exact ⟨ret_int (by rw [HE.out]), hD⟩
  · rw [h1] at hT
    have hn := tableB_len h1
    obtain ⟨g, off, rfl, _, hc⟩ := hcells (by omega)
    have hc0 := hc 0 (by omega)
    obtain ⟨a0, c0, hv0, h01, h02⟩ := (hV 0 (by omega)).shape
    rw [hv0, Nat.add_zero] at hc0
    have hhd : xss.headD [] = xss[0] := headD_get (by omega)
    have hn1 : (1 : Int) ≤ (xss.length : Int) := by omega
    have hn7 : (xss.length : Int) ≤ 7 := by omega
    have hl5 : xss[0].length ≤ 5 := by
      have := h1
      unfold tableB at this
      simp only [Bool.and_eq_true, decide_eq_true_eq] at this
      rw [hhd] at this
      exact this.2.1
    have hwp : wrap64 (wrap64 ((2 : Int) ^ xss.length) - 1) = 2 ^ xss.length - 1 := by
      have := wrap_pow (n := (xss.length : Int)) (by omega) (by omega)
      simpa using this
    have H1 := Lib.hid h1
    clear h hcells hv0
    have e2 : inB lot 0 (wrap64 (wrap64 ((2 : Int) ^ xss.length) - 1)) = lotOk xss lot := by rw [hwp]; rfl
    have e3 : inB q 0 ((xss[0].length : Int) - 1) = askOk xss q := by unfold askOk; rw [hhd]
    clear hwp
    cases h2 : lotOk xss lot
    · rw [h2] at e2
      have HE := Lib.hid (show lotAfterR xss lot q a = -1 by unfold lotAfterR; rw [h1, h2]; rfl)
      clear h1 h2 hhd hc hV
      go_enter Try.func74, Try.ntmps74
      go_wp2_with fail
      refine hT.mono ?_
      rintro e w2 ⟨rfl, hq2⟩
      have hD : Drawn w w2 := hq2
      clear hq2
      go_wp2_with (first | (go_at_call 62; refine (l1In_any _ _ _ _).mono ?_; rintro e w3 ⟨rfl, rfl⟩))
      go_ret
      exact ⟨ret_int (by rw [HE.out]), hD⟩
    · rw [h2] at e2
      cases h3 : askOk xss q
      · rw [h3] at e3
        have HE := Lib.hid (show lotAfterR xss lot q a = -1 by unfold lotAfterR; rw [h1, h2, h3]; rfl)
        clear h1 h2 h3 hhd hc hV
        go_enter Try.func74, Try.ntmps74
        go_wp2_with fail
        refine hT.mono ?_
        rintro e w2 ⟨rfl, hq2⟩
        have hD : Drawn w w2 := hq2
        have hc2 := hD.cell hc0
        clear hq2
        go_wp2_with (first | (go_at_call 62; refine (l1In_any _ _ _ _).mono ?_; rintro e w3 ⟨rfl, rfl⟩))
        go_ret
        exact ⟨ret_int (by rw [HE.out]), hD⟩
      · rw [h3] at e3
        cases h4 : inB a 0 2
        · have HE := Lib.hid (show lotAfterR xss lot q a = -1 by unfold lotAfterR; rw [h1, h2, h3, h4]; rfl)
          clear h1 h2 h3 hhd hc hV
          go_enter Try.func74, Try.ntmps74
          go_wp2_with fail
          refine hT.mono ?_
          rintro e w2 ⟨rfl, hq2⟩
          have hD : Drawn w w2 := hq2
          have hc2 := hD.cell hc0
          clear hq2
          go_wp2_with (first | (go_at_call 62; refine (l1In_any _ _ _ _).mono ?_; rintro e w3 ⟨rfl, rfl⟩))
          go_ret
          exact ⟨ret_int (by rw [HE.out]), hD⟩
        · obtain ⟨L, rfl, hL⟩ := lotOk_nat h2
          obtain ⟨Q, rfl⟩ := Int.eq_ofNat_of_zero_le (inB_yes h3).1
          have hQ : Q < (xss.headD []).length := by have := (inB_yes h3).2; omega
          have HE := Lib.hid (show lotAfterR xss L Q a = (lotN (hitB xss L Q a) xss.length : Nat) by unfold lotAfterR; rw [h1, h2, h3, h4]; rfl)
          have hL2 : L < 128 := Nat.lt_of_lt_of_le hL (Nat.pow_le_pow_right (by omega) hn.2)
          have HQ := Lib.hid hQ
          clear h1 h2 h3 hhd hL hQ
          go_enter Try.func74, Try.ntmps74
          go_wp2_with fail
          refine hT.mono ?_
          rintro e w2 ⟨rfl, hq2⟩
          have hD : Drawn w w2 := hq2
          have hc2 := hD.cell hc0
          clear hq2 hc0
          go_wp2_with (first | (go_at_call 62; refine (l1In_any _ _ _ _).mono ?_; rintro e w3 ⟨rfl, rfl⟩))
          go_loop [9, 10] (fun s i => ∃ k : Nat, k ≤ xss.length ∧ i = .int .i64 k ∧ s = .int .i64 (lotN (hitB xss L Q a) k : Nat)) (fun _ i => xss.length - (intOf i).toNat)
          case atStart => exact ⟨0, Nat.zero_le _, rfl, rfl⟩
          case round =>
            obtain ⟨k, hk, rfl, rfl⟩ := hrel
            clear e2 e3
            by_cases hlt : k < xss.length
            · have hck := hD.cell (hc k hlt)
              obtain ⟨ak, ck, hvk, hk1, hk2, hkc⟩ := (hV k hlt).opened
              rw [hvk] at hck
              have hlk : xss[k].length = (xss.headD []).length := by
                have hT := H1.out
                unfold tableB at hT
                simp only [Bool.and_eq_true, List.all_eq_true] at hT
                have := hT.2.2 xss[k] (List.getElem_mem _)
                unfold rowOk at this
                simp only [Bool.and_eq_true, decide_eq_true_eq] at this
                exact this.1
              have hql : Q < xss[k].length := by have := HQ.out; omega
              obtain ⟨b2, o2, rfl, _, hx⟩ := hkc (by omega)
              have hxq := hD.cell (hx Q hql)
              obtain ⟨x, hx2⟩ : ∃ x, x = xss[k][Q] := ⟨_, rfl⟩
              rw [← hx2] at hxq
              have HX := Lib.hid (show (xss.getD k []).getD Q 0 = x by rw [hx2]; simp [List.getD, List.getElem?_eq_getElem hlt, List.getElem?_eq_getElem hql])
              have hba := bit_mod L k
              have hnn : (0 : Int) ≤ (L : Int) / 2 ^ k := by rw [shr_cast]; exact Int.natCast_nonneg _
              have hlo := lotN_lt (hitB xss L Q a) k
              have hpo := pow_small (k := k) (by omega)
              have hlo2 : ((lotN (hitB xss L Q a) k : Nat) : Int) ≤ 1152921504606846976 := by omega
              have H60 := Lib.hid (show k ≤ 60 by omega)
              clear hlk hkc hx hx2 hvk hlo hpo hc hV
              cases hbit : bitN L k
              · rw [hbit] at hba
                have HH := Lib.hid (show hitB xss L Q a k = false by unfold hitB; rw [hbit]; rfl)
                clear hbit
                go_wp2
                go_round
                case rel => exact ⟨k + 1, by omega, by go_num, by rw [lotN_miss HH.out]⟩
                case measure => simp [intOf]; omega
              · rw [hbit] at hba
                by_cases hxa : x = a
                · have hxa1 : (x == a) = true := by simpa using hxa
                  have HH := Lib.hid (show hitB xss L Q a k = true by unfold hitB; rw [hbit, HX.out]; simpa using hxa)
                  clear hbit hxa
                  go_wp2
                  go_round
                  case rel => exact ⟨k + 1, by omega, by go_num, by rw [← add_hit H60.out HH.out]⟩
                  case measure => simp [intOf]; omega
                · have hxa1 : (x == a) = false := by simpa using hxa
                  have HH := Lib.hid (show hitB xss L Q a k = false by unfold hitB; rw [hbit, HX.out]; simpa using hxa)
                  clear hbit hxa
                  go_wp2
                  go_round
                  case rel => exact ⟨k + 1, by omega, by go_num, by rw [lotN_miss HH.out]⟩
                  case measure => simp [intOf]; omega
            · have HK := Lib.hid (show k = xss.length by omega)
              clear hV hc
              go_wp2
              go_ret
              exact ⟨ret_int (by rw [HE.out, HK.out]), hD⟩

end Go.Proofs.Ytpeogghiboaceaa
