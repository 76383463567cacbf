/- spec.ApartOk. -/
import Derived.Test.YtpeogghiboaceaaApart
namespace Go.Proofs.Ytpeogghiboaceaa
open Go.RowKit Go.Shelf
set_option linter.unusedVariables false

theorem tableB_row {xss : List (List Int)} (h : tableB xss = true) {k : Nat} (hk : k < xss.length) : xss[k].length = (xss.headD []).length ∧ (xss.headD []).length ≤ 5 := by
  unfold tableB at h
  simp only [Bool.and_eq_true, List.all_eq_true, decide_eq_true_eq] at h
  have := h.2.2 xss[k] (List.getElem_mem _)
  unfold rowOk at this
  simp only [Bool.and_eq_true, decide_eq_true_eq] at this
  exact ⟨this.1, h.2.1⟩

theorem take_ne_succ {xs ys : List Int} {k : Nat} (h : ¬ xs.take k = ys.take k) : ¬ xs.take (k+1) = ys.take (k+1) := by
  intro e
  apply h
  have := congrArg (List.take k) e
  simpa [List.take_take] using this
theorem take_ne_get {xs ys : List Int} {k : Nat} (hx : k < xs.length) (hy : k < ys.length) (h : ¬ xs[k] = ys[k]) : ¬ xs.take (k+1) = ys.take (k+1) := by
  intro e
  have h1 : (xs.take (k+1))[k]? = (ys.take (k+1))[k]? := by rw [e]
  simp [List.getElem?_eq_getElem hx, List.getElem?_eq_getElem hy] at h1
  exact h h1

set_option maxHeartbeats 2000000 in
theorem specApartOk_any {B : Nat} (v : Value) (xss : List (List Int)) (w : World) (h : Rows2 B w v xss) :
    Calls Try.prog 30 #[v] w (Quiet (.bool (apartB xss)) w) := by
  have hT := specTableOk_any v xss w h
  obtain ⟨ad, cap, rfl, hcap, hmax, V, hcells, hV⟩ := h.opened
  cases h1 : tableB xss
  · rw [h1] at hT
    have HE := Lib.hid (show apartB xss = false by unfold apartB; rw [h1]; rfl)
    clear h1 hcells h hV
    go_enter Try.func30, Try.ntmps30
    go_wp2_with fail
    refine hT.mono ?_
    rintro e w2 ⟨rfl, hq2⟩
    have hD : Drawn w w2 := hq2
    clear hq2
    go_wp2
    go_ret
    exact ⟨ret_bool (by rw [HE.out]), hD⟩
  · rw [h1] at hT
    have H1 := Lib.hid h1
    have hn := tableB_len h1
    clear h1 h
    obtain ⟨g, off, rfl, _, hc⟩ := hcells (by omega)
    clear hcells
    obtain ⟨a0, c0, hv0, h01, h02⟩ := (hV 0 (by omega)).shape
    have hc00 := hc 0 (by omega)
    rw [hv0, Nat.add_zero] at hc00
    have hhd : xss.headD [] = xss[0] := headD_get (by omega)
    have HH := Lib.hid hhd
    clear hhd hv0
    go_enter Try.func30, Try.ntmps30
    go_wp2_with fail
    refine hT.mono ?_
    rintro e w2 ⟨rfl, hq2⟩
    have hD2 : Drawn w w2 := hq2
    clear hq2
    go_wp2
    go_loopw [3] (fun i wr => ∃ k : Nat, k ≤ xss.length ∧ i = .int .i64 k ∧ upA xss k ∧ Drawn w wr) (fun i _ => xss.length - (intOf i).toNat)
    case atStart => exact ⟨0, Nat.zero_le _, rfl, fun i h => by omega, hD2⟩
    case round =>
      obtain ⟨k, hk, rfl, hu, hD⟩ := hrel
      have HU := Lib.hid hu
      clear hu hD2
      by_cases hlt : k < xss.length
      · obtain ⟨ak, ck, hvk, hk1, hk2, hkc⟩ := (hV k hlt).opened
        have hck0 := hc k hlt
        rw [hvk] at hck0
        have hlk := tableB_row H1.out hlt
        have hl0 : xss[k].length = xss[0].length := by rw [hlk.1, HH.out]
        have hl5 : xss[0].length ≤ 5 := by rw [← HH.out]; exact hlk.2
        have hlk1 : xss[k].length ≤ xss[0].length := by omega
        have hlk2 : xss[0].length ≤ xss[k].length := by omega
        clear hvk hlk hl0
        go_wp2
        obtain ⟨wo, hwo⟩ : ∃ wo : World, wo = wr := ⟨_, rfl⟩
        rw [← hwo] at hD ⊢
        clear hwo
        go_loopw [4] (fun i wi => ∃ j : Nat, j ≤ k ∧ i = .int .i64 j ∧ (∀ t, t < j → ¬ xss.getD k [] = xss.getD t []) ∧ Drawn w wi) (fun i _ => k - (intOf i).toNat)
        case atStart => exact ⟨0, Nat.zero_le _, rfl, by omega, hD⟩
        case round =>
          obtain ⟨j, hj, rfl, hp, hDi⟩ := hrel
          have HP := Lib.hid hp
          clear hp hD
          by_cases hjk : j < k
          · have hjn : j < xss.length := by omega
            obtain ⟨aj, cj, hvj, hj1, hj2, hjc⟩ := (hV j hjn).opened
            have hcj0 := hc j hjn
            rw [hvj] at hcj0
            have hlj := tableB_row H1.out hjn
            have hlj0 : xss[j].length = xss[0].length := by rw [hlj.1, HH.out]
            have hlj1 : xss[j].length ≤ xss[0].length := by omega
            have hlj2 : xss[0].length ≤ xss[j].length := by omega
            clear hvj hlj hlj0
            go_wp2
            obtain ⟨wp, hwp⟩ : ∃ wp : World, wp = wr := ⟨_, rfl⟩
            rw [← hwp] at hDi ⊢
            clear hwp
            go_loopw [5, 6] (fun s i wq => ∃ (q : Nat) (b : Bool), q ≤ xss[0].length ∧ i = .int .i64 q ∧ s = .bool b ∧ b = decide (xss[k].take q = xss[j].take q) ∧ Drawn w wq) (fun _ i _ => xss[0].length - (intOf i).toNat)
            case atStart => exact ⟨0, true, Nat.zero_le _, rfl, rfl, by simp, hDi⟩
            case round =>
              obtain ⟨q, b, hq, rfl, rfl, hbq, hDq⟩ := hrel
              have HBQ := Lib.hid hbq
              have hc0q := hDq.cell hc00
              have hckq := hDq.cell hck0
              have hcjq := hDq.cell hcj0
              clear hbq hDi
              by_cases hqm : q < xss[0].length
              · obtain ⟨b2, o2, rfl, _, hx⟩ := hkc (by omega)
                obtain ⟨b3, o3, rfl, _, hy⟩ := hjc (by omega)
                have hxq := hDq.cell (hx q (by omega))
                have hyq := hDq.cell (hy q (by omega))
                obtain ⟨x, hx1⟩ : ∃ x, x = (xss[k]'hlt)[q]'(by omega) := ⟨_, rfl⟩
                obtain ⟨y, hy1⟩ : ∃ y, y = (xss[j]'hjn)[q]'(by omega) := ⟨_, rfl⟩
                rw [← hx1] at hxq
                rw [← hy1] at hyq
                have HX := Lib.hid hx1
                have HY := Lib.hid hy1
                have hi0 : (0 : Int) ≤ (q : Int) := by omega
                have hi1 : (q : Int) < (xss[k].length : Int) := by omega
                have hi2 : (q : Int) < (xss[j].length : Int) := by omega
                have hi3 : (0 : Int) ≤ (k : Int) := by omega
                have hi4 : (k : Int) < (xss.length : Int) := by omega
                have hi5 : (0 : Int) ≤ (j : Int) := by omega
                have hi6 : (j : Int) < (xss.length : Int) := by omega
                clear hx hy hx1 hy1 hkc hjc
                cases b
                · have HN := Lib.hid (take_ne_succ (of_decide_eq_false HBQ.out.symm))
                  go_wp2
                  go_quiet (fail)
                  go_wp2
                  go_roundw
                  case rel => exact ⟨q + 1, false, by omega, by go_num, rfl, (decide_eq_false HN.out).symm, hDq.more _⟩
                  case measure => simp [intOf]; omega
                · by_cases hxy : x = y
                  · have hxy1 : (x == y) = true := by simpa using hxy
                    have HN := Lib.hid (take_eq_succ (show q < xss[k].length by omega) (show q < xss[j].length by omega) (of_decide_eq_true HBQ.out.symm) (by rw [← HX.out, ← HY.out]; exact hxy))
                    clear hxy
                    go_wp2
                    go_quiet (fail)
                    go_wp2
                    go_roundw
                    case rel => exact ⟨q + 1, true, by omega, by go_num, rfl, (decide_eq_true HN.out).symm, hDq.more _⟩
                    case measure => simp [intOf]; omega
                  · have hxy1 : (x == y) = false := by simpa using hxy
                    have HN := Lib.hid (take_ne_get (show q < xss[k].length by omega) (show q < xss[j].length by omega) (by rw [← HX.out, ← HY.out]; exact hxy))
                    clear hxy
                    go_wp2
                    go_quiet (fail)
                    go_wp2
                    go_roundw
                    case rel => exact ⟨q + 1, false, by omega, by go_num, rfl, (decide_eq_false HN.out).symm, hDq.more _⟩
                    case measure => simp [intOf]; omega
              · have hb2 : b = decide (xss[k] = xss[j]) := by
                  have := HBQ.out
                  rwa [List.take_of_length_le (by omega), List.take_of_length_le (by omega)] at this
                clear hkc hjc
                cases b
                · have HN := Lib.hid (show ∀ t, t < j + 1 → ¬ xss.getD k [] = xss.getD t [] from by
                    intro t ht
                    by_cases e : t < j
                    · exact HP.out t e
                    · have e2 : t = j := by omega
                      subst e2
                      rw [getD_get hlt, getD_get hjn]
                      exact of_decide_eq_false hb2.symm)
                  clear hb2
                  go_wp2
                  go_roundw
                  case rel => exact ⟨j + 1, by omega, by go_num, HN.out, hDq⟩
                  case measure => simp [intOf]; omega
                · have HN := Lib.hid (show apartB xss = false from apart_no hlt hjk (by rw [getD_get hlt, getD_get hjn]; exact of_decide_eq_true hb2.symm))
                  clear hb2
                  go_wp2
                  go_ret
                  exact ⟨ret_bool (by rw [HN.out]), hDq⟩
          · have HA := Lib.hid (show upA xss (k + 1) from upA_step HU.out (fun t ht => HP.out t (by omega)))
            clear hkc
            go_wp2
            go_roundw
            case rel => exact ⟨k + 1, by omega, by go_num, HA.out, hDi⟩
            case measure => simp [intOf]; omega
      · have e : k = xss.length := by omega
        have HA := Lib.hid (apart_yes H1.out (by have := HU.out; rwa [e] at this))
        clear hV hc e
        go_wp2
        go_ret
        exact ⟨ret_bool (by rw [HA.out]), hD⟩

end Go.Proofs.Ytpeogghiboaceaa
