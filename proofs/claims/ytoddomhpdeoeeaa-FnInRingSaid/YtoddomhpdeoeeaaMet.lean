/- MetOn, of the program and of the reference. -/
import Derived.Test.YtoddomhpdeoeeaaLeft
namespace Go.Proofs.Ytoddomhpdeoeeaa
open Go.RowKit Go.Shelf
set_option linter.unusedVariables false

/-- Whether the box of day k is beside the box of the day before. -/
def hop (xss : List (List Int)) (ys : List Int) (k : Nat) : Int := cell2 xss (ys.getD (k - 1) 0).toNat (ys.getD k 0).toNat
def hopsB (xss : List (List Int)) (ys : List Int) : Bool := (List.range ys.length).all fun k => k == 0 || hop xss ys k != 0
def metB (xss : List (List Int)) (xs ys : List Int) : Bool := daysB xss xs && daysB xss ys && hopsB xss ys
/-- The first day from k on, of m days, on which both are in the same box. -/
def metFrom (xs ys : List Int) : Nat → Nat → Int
  | 0, _ => 0
  | m + 1, k => if xs.getD k 0 = ys.getD k 0 then (k : Int) + 1 else metFrom xs ys m (k + 1)
def metR (xss : List (List Int)) (xs ys : List Int) : Int := if metB xss xs ys = true then metFrom xs ys (min xs.length ys.length) 0 else -1
theorem hopsB_no {xss : List (List Int)} {ys : List Int} {k : Nat} (hk : k < ys.length) (h0 : 0 < k) (h : hop xss ys k = 0) : hopsB xss ys = false := by
  cases hb : hopsB xss ys
  · rfl
  · unfold hopsB at hb
    simp only [List.all_eq_true] at hb
    have := hb k (by simpa using hk)
    simp [h] at this
    omega
theorem hopsB_yes {xss : List (List Int)} {ys : List Int} (h : ∀ k, k < ys.length → 0 < k → hop xss ys k ≠ 0) : hopsB xss ys = true := by
  unfold hopsB
  simp only [List.all_eq_true]
  intro k hk
  have hk : k < ys.length := by simpa using hk
  by_cases h0 : k = 0
  · simp [h0]
  · simp [h k hk (by omega)]
theorem metFrom_hit {xs ys : List Int} {N k : Nat} (hk : k < N) (h : xs.getD k 0 = ys.getD k 0) : metFrom xs ys (N - k) k = (k : Int) + 1 := by
  obtain ⟨m, hm⟩ : ∃ m, N - k = m + 1 := ⟨N - k - 1, by omega⟩
  rw [hm, metFrom, if_pos h]
theorem metFrom_miss {xs ys : List Int} {N k : Nat} (hk : k < N) (h : ¬ xs.getD k 0 = ys.getD k 0) : metFrom xs ys (N - k) k = metFrom xs ys (N - (k + 1)) (k + 1) := by
  obtain ⟨m, hm⟩ : ∃ m, N - k = m + 1 := ⟨N - k - 1, by omega⟩
  rw [hm, metFrom, if_neg h, show N - (k + 1) = m by omega]

set_option maxHeartbeats 1000000 in
theorem implMetOn_any {B C D : Nat} (v u z : Value) (xss : List (List Int)) (xs ys : List Int) (w : World) (h : Rows2 B w v xss) (hu : Ints C w u xs) (hz : Ints D w z ys) :
    Calls Try.prog 17 #[v, u, z] w fun e w' => e = .returned (.int .i64 (metR xss xs ys)) ∧ Below w.heap.size w w' := by
  have hT := daysOk_any v u xss xs w h hu
  have hT2 := fun (w2 : World) (hb : Below w.heap.size w w2) => daysOk_any v z xss ys w2 (h.below hb) (hz.below hb)
  have HRR := Lib.hid h
  have HU := Lib.hid hu
  have HZ := Lib.hid hz
  obtain ⟨ad, cap, rfl, hcap, hmax, V, hcells, hV⟩ := h.opened
  obtain ⟨au, cu, rfl, hu1, hu2, hucells⟩ := hu.opened
  obtain ⟨az, cz, rfl, hz1, hz2, hzcells⟩ := hz.opened
  clear h hu hz
  cases h1 : daysB xss xs
  · rw [h1] at hT
    have HE := Lib.hid (show metR xss xs ys = -1 by unfold metR metB; rw [h1]; rfl)
    clear h1 hcells hucells hzcells hV
    go_enter Try.func17, Try.ntmps17
    go_wp2_with fail
    refine hT.mono ?_
    rintro e w2 ⟨rfl, hb2⟩
    go_wp2
    go_ret
    exact ⟨ret_int (by rw [HE.out]), hb2⟩
  · rw [h1] at hT
    cases h2 : daysB xss ys
    · rw [h2] at hT2
      have HE := Lib.hid (show metR xss xs ys = -1 by unfold metR metB; rw [h1, h2]; rfl)
      clear h1 h2 hcells hucells hzcells hV
      go_enter Try.func17, Try.ntmps17
      go_wp2_with fail
      refine hT.mono ?_
      rintro e w2 ⟨rfl, hb2⟩
      go_wp2_with fail
      refine (hT2 _ hb2).mono ?_
      rintro e w3 ⟨rfl, hb3⟩
      go_wp2
      go_ret
      exact ⟨ret_int (by rw [HE.out]), hb2.trans (hb3.mono hb2.size)⟩
    · rw [h2] at hT2
      obtain ⟨hb, hl16, hin⟩ := daysB_spec h2
      obtain ⟨_, hx16, _⟩ := daysB_spec h1
      obtain ⟨hn, hrow⟩ := besideB_spec hb
      have H12 := Lib.hid (And.intro h1 h2)
      have HIN := Lib.hid hin
      have HROW := Lib.hid hrow
      clear h1 h2 hb hin hrow
      go_enter Try.func17, Try.ntmps17
      go_wp2_with fail
      refine hT.mono ?_
      rintro e w2 ⟨rfl, hb2⟩
      go_wp2_with fail
      refine (hT2 _ hb2).mono ?_
      rintro e w3 ⟨rfl, hb3⟩
      have hb3' := hb2.trans (hb3.mono hb2.size)
      clear hb2 hb3
      have HB3 := Lib.hid hb3'
      clear hb3'
      go_wp2
      go_loopw [7] (fun i wi => ∃ k : Nat, 1 ≤ k ∧ (k ≤ ys.length ∨ k = 1) ∧ i = .int .i64 k ∧ (∀ t, t < ys.length → t < k → 0 < t → hop xss ys t ≠ 0) ∧ Below w.heap.size w wi) (fun i _ => ys.length - (intOf i).toNat)
      case atStart => exact ⟨1, by omega, .inr rfl, rfl, fun t _ h h0 => by omega, HB3.out⟩
      case round =>
        obtain ⟨k, hk1, hk, rfl, hup, hbi⟩ := hrel
        have HUP := Lib.hid hup
        have HBI := Lib.hid hbi
        clear hup hbi
        by_cases hlt : k < ys.length
        · obtain ⟨az', cz', hez, _, _, hzc⟩ := (HZ.out.below HBI.out).opened
          injection hez with e1 _ e3
          subst e1 e3
          obtain ⟨b, off, rfl, _, hc⟩ := hzc (by omega)
          have hck := hc k hlt
          have hcp := hc (k - 1) (by omega)
          have hrp : 0 ≤ ys[k-1]'(by omega) ∧ ys[k-1]'(by omega) ≤ (xss.length : Int) - 1 := by simpa [inB] using HIN.out (k - 1) (by omega)
          have hrq : 0 ≤ ys[k] ∧ ys[k] ≤ (xss.length : Int) - 1 := by simpa [inB] using HIN.out k hlt
          obtain ⟨p, hp⟩ : ∃ p : Nat, ys[k-1]'(by omega) = (p : Int) := ⟨_, (Int.toNat_of_nonneg hrp.1).symm⟩
          obtain ⟨q, hq⟩ : ∃ q : Nat, ys[k] = (q : Int) := ⟨_, (Int.toNat_of_nonneg hrq.1).symm⟩
          rw [hp] at hcp hrp
          rw [hq] at hck hrq
          have hpn : p < xss.length := by omega
          have hqn : q < xss.length := by omega
          obtain ⟨ad', cap', hed, _, _, V', hvc, hV'⟩ := (HRR.out.below HBI.out).opened
          injection hed with f1 _ f3
          subst f1 f3
          obtain ⟨b2, off2, rfl, _, hr⟩ := hvc (by omega)
          have hrow := hr p hpn
          obtain ⟨a3, c3, hv3, _, _, h3c⟩ := (hV' p hpn).opened
          have hlen : xss[p].length = xss.length := (HROW.out p hpn).1
          obtain ⟨b3, off3, rfl, _, hx⟩ := h3c (by omega)
          rw [hv3, hlen] at hrow
          have hxq := hx q (by omega)
          obtain ⟨z, hz⟩ : ∃ z, z = (xss[p]'hpn)[q]'(by omega) := ⟨_, rfl⟩
          rw [← hz] at hxq
          have hHZ : hop xss ys k = z := by
            unfold hop
            rw [getD_get (show k - 1 < ys.length by omega), getD_get hlt, hp, hq]
            simp only [Int.toNat_natCast]
            rw [hz]
            exact cell2_eq hpn (by omega)
          have HZV := Lib.hid hHZ
          have hi1 : (1 : Int) ≤ (k : Int) := by omega
          have hi2 : (k : Int) - 1 < (ys.length : Int) := by omega
          have hi3 : (k : Int) < (ys.length : Int) := by omega
          have hi4 : (p : Int) < (xss.length : Int) := by omega
          have hi5 : (q : Int) < (xss.length : Int) := by omega
          have hi6 : (0 : Int) ≤ (p : Int) := by omega
          have hi7 : (0 : Int) ≤ (q : Int) := by omega
          have hwk : IntKind.i64.wrap ((k : Int) - 1) = (k : Int) - 1 := by rw [IntKind.wrap_i64]; omega
          clear hz hHZ hx h3c hv3 hr hV' hvc hc hzc hp hq hrp hrq hlen hcells hzcells hV
          by_cases z0 : z = 0
          · have hzb : (z == 0) = true := by simpa using z0
            have HE := Lib.hid (show metR xss xs ys = -1 by unfold metR metB; rw [hopsB_no hlt (by omega) (by rw [HZV.out]; exact z0)]; simp)
            clear z0
            go_wp2
            go_quiet (fail)
            go_wp2
            go_ret
            exact ⟨ret_int (by rw [HE.out]), HBI.out.trans (((Drawn.refl _).more _).below.mono HBI.out.size)⟩
          · have hzb : (z == 0) = false := by simpa using z0
            have HNZ := Lib.hid z0
            clear z0
            go_wp2
            go_quiet (fail)
            go_wp2
            go_roundw
            case rel => exact ⟨k + 1, by omega, by omega, by go_num, fun t ht htk h0 => by
              by_cases e : t = k
              · subst e; rw [HZV.out]; exact HNZ.out
              · exact HUP.out t ht (by omega) h0, HBI.out.trans (((Drawn.refl _).more _).below.mono HBI.out.size)⟩
            case measure => simp [intOf]; omega
        · have HM := Lib.hid (show metR xss xs ys = metFrom xs ys (min xs.length ys.length) 0 by
            unfold metR metB; rw [H12.out.1, H12.out.2, hopsB_yes (fun t ht h0 => HUP.out t ht (by omega) h0)]; rfl)
          clear HUP
          obtain ⟨az', cz', hez, _, _, hzc⟩ := (HZ.out.below HBI.out).opened
          injection hez with e1 _ e3
          subst e1 e3
          obtain ⟨au', cu', heu, _, _, huc⟩ := (HU.out.below HBI.out).opened
          injection heu with e1 _ e3
          subst e1 e3
          rcases Nat.lt_or_ge ys.length xs.length with hm | hm
          · have hN : min xs.length ys.length = ys.length := by omega
            rw [hN] at HM
            clear hN
            go_wp2
            go_loopw [45] (fun i wi => ∃ k : Nat, k ≤ ys.length ∧ i = .int .i64 k ∧ metR xss xs ys = metFrom xs ys (ys.length - k) k ∧ Drawn wr wi) (fun i _ => ys.length - (intOf i).toNat)
            case atStart => exact ⟨0, Nat.zero_le _, rfl, HM.out, Drawn.refl _⟩
            case round =>
              obtain ⟨k, hk, rfl, hm, hD⟩ := hrel
              have HM2 := Lib.hid hm
              clear hm
              by_cases hlt : k < ys.length
              · obtain ⟨b, off, rfl, _, hc⟩ := hzc (by omega)
                obtain ⟨b2, off2, rfl, _, hc2⟩ := huc (by omega)
                have hcz := hD.cell (hc k (by omega))
                have hcu := hD.cell (hc2 k (by omega))
                have hex : xs.getD k 0 = xs[k]'(by omega) := getD_get (by omega)
                have hey : ys.getD k 0 = ys[k]'(by omega) := getD_get (by omega)
                obtain ⟨x, hx⟩ : ∃ x, x = xs[k]'(by omega) := ⟨_, rfl⟩
                obtain ⟨y, hy⟩ : ∃ y, y = ys[k]'(by omega) := ⟨_, rfl⟩
                rw [← hx] at hcu hex
                rw [← hy] at hcz hey
                have HEX := Lib.hid hex
                have HEY := Lib.hid hey
                have hi1 : (0 : Int) ≤ (k : Int) := by omega
                have hi2 : (k : Int) < (xs.length : Int) := by omega
                have hi3 : (k : Int) < (ys.length : Int) := by omega
                clear hx hy hex hey hc hc2
                by_cases hxy : x = y
                · have hb : (x == y) = true := by simpa using hxy
                  have HR := Lib.hid (show metR xss xs ys = (k : Int) + 1 by
                    rw [HM2.out, metFrom_hit hlt (by rw [HEX.out, HEY.out]; exact hxy)])
                  clear hxy
                  go_wp2
                  go_quiet (fail)
                  go_wp2
                  go_ret
                  exact ⟨ret_int (by rw [HR.out]), HBI.out.trans ((hD.more _).below.mono HBI.out.size)⟩
                · have hb : (x == y) = false := by simpa using hxy
                  have HR := Lib.hid (show metR xss xs ys = metFrom xs ys (ys.length - (k + 1)) (k + 1) by
                    rw [HM2.out, metFrom_miss hlt (by rw [HEX.out, HEY.out]; exact hxy)])
                  clear hxy
                  go_wp2
                  go_quiet (fail)
                  go_wp2
                  go_roundw
                  case rel => exact ⟨k + 1, by omega, by go_num, HR.out, hD.more _⟩
                  case measure => simp [intOf]; omega
              · have HR := Lib.hid (show metR xss xs ys = 0 by rw [HM2.out, show ys.length - k = 0 by omega]; rfl)
                go_wp2
                go_ret
                exact ⟨ret_int (by rw [HR.out]), HBI.out.trans (hD.below.mono HBI.out.size)⟩
          · have hN : min xs.length ys.length = xs.length := by omega
            rw [hN] at HM
            clear hN
            go_wp2
            go_loopw [45] (fun i wi => ∃ k : Nat, k ≤ xs.length ∧ i = .int .i64 k ∧ metR xss xs ys = metFrom xs ys (xs.length - k) k ∧ Drawn wr wi) (fun i _ => xs.length - (intOf i).toNat)
            case atStart => exact ⟨0, Nat.zero_le _, rfl, HM.out, Drawn.refl _⟩
            case round =>
              obtain ⟨k, hk, rfl, hm, hD⟩ := hrel
              have HM2 := Lib.hid hm
              clear hm
              by_cases hlt : k < xs.length
              · obtain ⟨b, off, rfl, _, hc⟩ := hzc (by omega)
                obtain ⟨b2, off2, rfl, _, hc2⟩ := huc (by omega)
                have hcz := hD.cell (hc k (by omega))
                have hcu := hD.cell (hc2 k (by omega))
                have hex : xs.getD k 0 = xs[k]'(by omega) := getD_get (by omega)
                have hey : ys.getD k 0 = ys[k]'(by omega) := getD_get (by omega)
                obtain ⟨x, hx⟩ : ∃ x, x = xs[k]'(by omega) := ⟨_, rfl⟩
                obtain ⟨y, hy⟩ : ∃ y, y = ys[k]'(by omega) := ⟨_, rfl⟩
                rw [← hx] at hcu hex
                rw [← hy] at hcz hey
                have HEX := Lib.hid hex
                have HEY := Lib.hid hey
                have hi1 : (0 : Int) ≤ (k : Int) := by omega
                have hi2 : (k : Int) < (xs.length : Int) := by omega
                have hi3 : (k : Int) < (ys.length : Int) := by omega
                clear hx hy hex hey hc hc2
                by_cases hxy : x = y
                · have hb : (x == y) = true := by simpa using hxy
                  have HR := Lib.hid (show metR xss xs ys = (k : Int) + 1 by
                    rw [HM2.out, metFrom_hit hlt (by rw [HEX.out, HEY.out]; exact hxy)])
                  clear hxy
                  go_wp2
                  go_quiet (fail)
                  go_wp2
                  go_ret
                  exact ⟨ret_int (by rw [HR.out]), HBI.out.trans ((hD.more _).below.mono HBI.out.size)⟩
                · have hb : (x == y) = false := by simpa using hxy
                  have HR := Lib.hid (show metR xss xs ys = metFrom xs ys (xs.length - (k + 1)) (k + 1) by
                    rw [HM2.out, metFrom_miss hlt (by rw [HEX.out, HEY.out]; exact hxy)])
                  clear hxy
                  go_wp2
                  go_quiet (fail)
                  go_wp2
                  go_roundw
                  case rel => exact ⟨k + 1, by omega, by go_num, HR.out, hD.more _⟩
                  case measure => simp [intOf]; omega
              · have HR := Lib.hid (show metR xss xs ys = 0 by rw [HM2.out, show xs.length - k = 0 by omega]; rfl)
                go_wp2
                go_ret
                exact ⟨ret_int (by rw [HR.out]), HBI.out.trans (hD.below.mono HBI.out.size)⟩

theorem metR_no1 {xss : List (List Int)} {xs ys : List Int} (h : daysB xss xs = false) : metR xss xs ys = -1 := by unfold metR metB; rw [h]; rfl
theorem metR_no2 {xss : List (List Int)} {xs ys : List Int} (h : daysB xss ys = false) : metR xss xs ys = -1 := by unfold metR metB; rw [h]; simp
theorem metR_no3 {xss : List (List Int)} {xs ys : List Int} (h : hopsB xss ys = false) : metR xss xs ys = -1 := by unfold metR metB; rw [h]; simp
theorem daysB_far2 {xss : List (List Int)} {xs : List Int} {k : Nat} (hk : k < xs.length) (h : inB xs[k] 0 ((xss.length : Int) - 1) = false) : daysB xss xs = false := by
  unfold daysB
  rw [allB_not hk h]
  simp
theorem daysB_long {xss : List (List Int)} {xs : List Int} (h : ¬ xs.length ≤ 16) : daysB xss xs = false := by
  unfold daysB
  rw [decide_eq_false (show ¬ (xs.length : Int) ≤ 16 by omega)]
  simp
theorem daysB_yes {xss : List (List Int)} {xs : List Int} (hb : besideB xss = true) (h16 : xs.length ≤ 16) (h : ∀ k (hk : k < xs.length), inB xs[k] 0 ((xss.length : Int) - 1) = true) : daysB xss xs = true := by
  unfold daysB
  rw [hb, decide_eq_true (show (xs.length : Int) ≤ 16 by omega), allB_all h]
  rfl

set_option maxHeartbeats 2000000 in
theorem specMetOn_any {B C D : Nat} (v u z : Value) (xss : List (List Int)) (xs ys : List Int) (w : World) (h : Rows2 B w v xss) (hu : Ints C w u xs) (hz : Ints D w z ys) :
    Calls Try.prog 14 #[v, u, z] w (Quiet (.int .i64 (metR xss xs ys)) w) := by
  have hT := specLeftAfter_any v u xss xs w h hu
  obtain ⟨ad, cap, rfl, hcap, hmax, V, hcells, hV⟩ := h.opened
  obtain ⟨au, cu, rfl, hu1, hu2, hucells⟩ := hu.opened
  obtain ⟨az, cz, rfl, hz1, hz2, hzcells⟩ := hz.opened
  clear h hu hz
  cases h1 : daysB xss xs
  · rw [show leftR xss xs = -1 by unfold leftR; rw [h1]; rfl] at hT
    have HE := Lib.hid (metR_no1 (ys := ys) h1)
    clear h1 hcells hucells hzcells hV
    go_enter Try.func14, Try.ntmps14
    go_wp2_with fail
    refine hT.mono ?_
    rintro e w2 ⟨rfl, hq2⟩
    have hD : Drawn w w2 := hq2
    clear hq2
    go_wp2
    go_ret
    exact ⟨ret_int (by rw [HE.out]), hD⟩
  · obtain ⟨L, hL0, hL1⟩ : ∃ L : Int, leftR xss xs = L ∧ 0 ≤ L := ⟨_, rfl, by unfold leftR; rw [h1]; simp⟩
    rw [hL0] at hT
    clear hL0
    have H1 := Lib.hid h1
    by_cases h16 : ys.length ≤ 16
    · obtain ⟨hb, hx16, _⟩ := daysB_spec h1
      obtain ⟨hn, hrow⟩ := besideB_spec hb
      have HROW := Lib.hid hrow
      have HBS := Lib.hid hb
      have HC := Lib.hid hcells
      have HZC := Lib.hid hzcells
      have HUC := Lib.hid hucells
      have HV := Lib.hid hV
      have hn1 : (1 : Int) ≤ (xss.length : Int) := by omega
      have hwn : IntKind.i64.wrap ((xss.length : Int) - 1) = (xss.length : Int) - 1 := by rw [IntKind.wrap_i64]; omega
      have h16' : (ys.length : Int) ≤ 16 := by omega
      clear h1 hb hrow hcells hucells hzcells hV
      go_enter Try.func14, Try.ntmps14
      go_wp2_with fail
      refine hT.mono ?_
      rintro e w2 ⟨rfl, hq2⟩
      have hD : Drawn w w2 := hq2
      clear hq2
      go_wp2
      go_loopw [7] (fun i wi => ∃ k : Nat, k ≤ ys.length ∧ i = .int .i64 k ∧ (∀ t (ht : t < ys.length), t < k → inB ys[t] 0 ((xss.length : Int) - 1) = true) ∧ (∀ t, t < ys.length → t < k → 0 < t → hop xss ys t ≠ 0) ∧ Drawn w wi) (fun i _ => ys.length - (intOf i).toNat)
      case atStart => exact ⟨0, Nat.zero_le _, rfl, fun t _ h => by omega, fun t _ h => by omega, hD⟩
      case round =>
        obtain ⟨k, hk, rfl, hin, hup, hDi⟩ := hrel
        have HIN := Lib.hid hin
        have HUP := Lib.hid hup
        clear hin hup hD
        by_cases hlt : k < ys.length
        · obtain ⟨b, off, rfl, _, hc⟩ := HZC.out (by omega)
          have hck := hDi.cell (hc k hlt)
          have hi3 : (k : Int) < (ys.length : Int) := by omega
          have hi0 : (0 : Int) ≤ (k : Int) := by omega
          cases hib : inB ys[k] 0 ((xss.length : Int) - 1)
          · have HE := Lib.hid (metR_no2 (xs := xs) (daysB_far2 hlt hib))
            have hL := l1In_q ys[k] 0 ((xss.length : Int) - 1) wr
            rw [hib] at hL
            clear hib hc
            obtain ⟨x, hx⟩ : ∃ x, x = ys[k] := ⟨_, rfl⟩
            rw [← hx] at hck hL
            clear hx
            go_wp2
            go_quiet ((go_at_call 51; exact Calls.quiet_of_same (hL _)))
            go_wp2
            go_ret
            exact ⟨ret_int (by rw [HE.out]), hDi.more _⟩
          · have hL := l1In_q ys[k] 0 ((xss.length : Int) - 1) wr
            rw [hib] at hL
            have hrq : 0 ≤ ys[k] ∧ ys[k] ≤ (xss.length : Int) - 1 := by simpa [inB] using hib
            have HIB := Lib.hid hib
            obtain ⟨q, hq⟩ : ∃ q : Nat, ys[k] = (q : Int) := ⟨_, (Int.toNat_of_nonneg hrq.1).symm⟩
            rw [hq] at hck hrq hL
            have hqn : q < xss.length := by omega
            have hnext : ∀ t (ht : t < ys.length), t < k + 1 → inB ys[t] 0 ((xss.length : Int) - 1) = true := fun t ht htk => by
              by_cases e : t = k
              · subst e; exact HIB.out
              · exact HIN.out t ht (by omega)
            have HNX := Lib.hid hnext
            clear hib hnext
            by_cases hk0 : k = 0
            · have hd0 : ¬ (0 < k) := by omega
              have HUP2 := Lib.hid (show ∀ t, t < ys.length → t < k + 1 → 0 < t → hop xss ys t ≠ 0 from fun t _ h1 h2 => by omega)
              have HK0 := Lib.hid hk0
              clear hq hrq hc hk0
              go_wp2
              go_quiet ((go_at_call 51; exact Calls.quiet_of_same (hL _)))
              go_wp2
              go_roundw
              case rel => exact ⟨k + 1, by omega, by go_num, HNX.out, HUP2.out, hDi.more _⟩
              case measure => simp [intOf]; omega
            · have hd0 : 0 < k := by omega
              have hcp := hDi.cell (hc (k - 1) (by omega))
              have hrp : 0 ≤ ys[k-1]'(by omega) ∧ ys[k-1]'(by omega) ≤ (xss.length : Int) - 1 := by simpa [inB] using HIN.out (k - 1) (by omega) (by omega)
              obtain ⟨p, hp⟩ : ∃ p : Nat, ys[k-1]'(by omega) = (p : Int) := ⟨_, (Int.toNat_of_nonneg hrp.1).symm⟩
              rw [hp] at hcp hrp
              have hpn : p < xss.length := by omega
              obtain ⟨b2, off2, rfl, _, hr⟩ := HC.out (by omega)
              have hrow := hDi.cell (hr p hpn)
              obtain ⟨a3, c3, hv3, _, _, h3c⟩ := (HV.out p hpn).opened
              have hlen : xss[p].length = xss.length := (HROW.out p hpn).1
              obtain ⟨b3, off3, rfl, _, hx⟩ := h3c (by omega)
              rw [hv3, hlen] at hrow
              have hxq := hDi.cell (hx q (by omega))
              obtain ⟨z, hz⟩ : ∃ z, z = (xss[p]'hpn)[q]'(by omega) := ⟨_, rfl⟩
              rw [← hz] at hxq
              have hHZ : hop xss ys k = z := by
                unfold hop
                rw [getD_get (show k - 1 < ys.length by omega), getD_get hlt, hp, hq]
                simp only [Int.toNat_natCast]
                rw [hz]
                exact cell2_eq hpn (by omega)
              have HZV := Lib.hid hHZ
              have hi1 : (1 : Int) ≤ (k : Int) := by omega
              have hi2 : (k : Int) - 1 < (ys.length : Int) := by omega
              have hi4 : (p : Int) < (xss.length : Int) := by omega
              have hi5 : (q : Int) < (xss.length : Int) := by omega
              have hi6 : (0 : Int) ≤ (p : Int) := by omega
              have hi7 : (0 : Int) ≤ (q : Int) := by omega
              have hwk : IntKind.i64.wrap ((k : Int) - 1) = (k : Int) - 1 := by rw [IntKind.wrap_i64]; omega
              clear hz hHZ hx h3c hv3 hr hc hp hq hrp hrq hlen
              by_cases z0 : z = 0
              · have hzb : (z == 0) = true := by simpa using z0
                have HE := Lib.hid (metR_no3 (xs := xs) (hopsB_no (xss := xss) hlt (by omega) (by rw [HZV.out]; exact z0)))
                clear z0
                go_wp2
                go_quiet ((go_at_call 51; exact Calls.quiet_of_same (hL _)))
                go_wp2
                go_ret
                exact ⟨ret_int (by rw [HE.out]), hDi.more _⟩
              · have hzb : (z == 0) = false := by simpa using z0
                have HUP2 := Lib.hid (show ∀ t, t < ys.length → t < k + 1 → 0 < t → hop xss ys t ≠ 0 from fun t ht htk h0 => by
                  by_cases e : t = k
                  · subst e; rw [HZV.out]; exact z0
                  · exact HUP.out t ht (by omega) h0)
                clear z0
                go_wp2
                go_quiet ((go_at_call 51; exact Calls.quiet_of_same (hL _)))
                go_wp2
                go_roundw
                case rel => exact ⟨k + 1, by omega, by go_num, HNX.out, HUP2.out, hDi.more _⟩
                case measure => simp [intOf]; omega
        · have HM := Lib.hid (show metR xss xs ys = metFrom xs ys (min xs.length ys.length) 0 by
            unfold metR metB
            rw [H1.out, daysB_yes HBS.out h16 (fun t ht => HIN.out t ht (by omega)), hopsB_yes (fun t ht h0 => HUP.out t ht (by omega) h0)]; rfl)
          clear HUP HIN
          obtain ⟨N, hN⟩ : ∃ N, N = min xs.length ys.length := ⟨_, rfl⟩
          rw [← hN] at HM
          have hNx : N ≤ xs.length := by omega
          have hNy : N ≤ ys.length := by omega
          have hNe : N = xs.length ∨ N = ys.length := by omega
          have HD := Lib.hid hDi
          go_wp2
          go_loopw [8] (fun i wi => ∃ k : Nat, k ≤ N ∧ i = .int .i64 k ∧ metR xss xs ys = metFrom xs ys (N - k) k ∧ Drawn w wi) (fun i _ => N - (intOf i).toNat)
          case atStart => exact ⟨0, Nat.zero_le _, rfl, HM.out, hDi⟩
          case round =>
            obtain ⟨j, hj, rfl, hm, hDj⟩ := hrel
            have HM2 := Lib.hid hm
            clear hm hDi
            by_cases hltj : j < N
            · obtain ⟨b, off, rfl, _, hc⟩ := HZC.out (by omega)
              obtain ⟨b2, off2, rfl, _, hc2⟩ := HUC.out (by omega)
              have hcz := hDj.cell (hc j (by omega))
              have hcu := hDj.cell (hc2 j (by omega))
              have hex : xs.getD j 0 = xs[j]'(by omega) := getD_get (by omega)
              have hey : ys.getD j 0 = ys[j]'(by omega) := getD_get (by omega)
              obtain ⟨x, hx⟩ : ∃ x, x = xs[j]'(by omega) := ⟨_, rfl⟩
              obtain ⟨y, hy⟩ : ∃ y, y = ys[j]'(by omega) := ⟨_, rfl⟩
              rw [← hx] at hcu hex
              rw [← hy] at hcz hey
              have HEX := Lib.hid hex
              have HEY := Lib.hid hey
              have hi1 : (0 : Int) ≤ (j : Int) := by omega
              have hi2 : (j : Int) < (xs.length : Int) := by omega
              have hi3 : (j : Int) < (ys.length : Int) := by omega
              clear hx hy hex hey hc hc2
              by_cases hxy : x = y
              · have hb : (y == x) = true := by simpa using hxy.symm
                have HR := Lib.hid (show metR xss xs ys = (j : Int) + 1 by
                  rw [HM2.out, metFrom_hit hltj (by rw [HEX.out, HEY.out]; exact hxy)])
                clear hxy
                go_wp2
                go_quiet (fail)
                go_wp2
                go_ret
                exact ⟨ret_int (by rw [HR.out]), hDj.more _⟩
              · have hb : (y == x) = false := by simpa using fun h : y = x => hxy h.symm
                have HR := Lib.hid (show metR xss xs ys = metFrom xs ys (N - (j + 1)) (j + 1) by
                  rw [HM2.out, metFrom_miss hltj (by rw [HEX.out, HEY.out]; exact hxy)])
                clear hxy
                go_wp2
                go_quiet (fail)
                go_wp2
                go_roundw
                case rel => exact ⟨j + 1, by omega, by go_num, HR.out, hDj.more _⟩
                case measure => simp [intOf]; omega
            · have HR := Lib.hid (show metR xss xs ys = 0 by rw [HM2.out, show N - j = 0 by omega]; rfl)
              by_cases hjy : (j : Int) < (ys.length : Int)
              · have hjx : ¬ (j : Int) < (xs.length : Int) := by omega
                go_wp2
                go_ret
                exact ⟨ret_int (by rw [HR.out]), hDj⟩
              · go_wp2
                go_ret
                exact ⟨ret_int (by rw [HR.out]), hDj⟩
    · have HE := Lib.hid (metR_no2 (xss := xss) (xs := xs) (daysB_long h16))
      have h16' : (16 : Int) < (ys.length : Int) := by omega
      clear h1 hcells hucells hzcells hV
      go_enter Try.func14, Try.ntmps14
      go_wp2_with fail
      refine hT.mono ?_
      rintro e w2 ⟨rfl, hq2⟩
      have hD : Drawn w w2 := hq2
      clear hq2
      go_wp2
      go_ret
      exact ⟨ret_int (by rw [HE.out]), hD⟩

end Go.Proofs.Ytoddomhpdeoeeaa
