/- LotAfter, of the program and of the reference. -/
import Derived.Test.YtpeogghiboaceaaTable
import Derived.Test.YtpeogghiboaceaaBits
namespace Go.Proofs.Ytpeogghiboaceaa
open Go.RowKit Go.Shelf
set_option linter.unusedVariables false

def hitB (xss : List (List Int)) (L q : Nat) (a : Int) (k : Nat) : Bool := bitN L k && ((xss.getD k []).getD q 0 == a)

theorem lotAfter_any {B : Nat} (v : Value) (xss : List (List Int)) (L q : Nat) (a : Int) (w : World) (h : Rows2 B w v xss) (hT : tableB xss = true) (hL : L < 2 ^ xss.length) (hq : q < (xss.headD []).length) :
    Calls Try.prog 79 #[v, .int .i64 L, .int .i64 q, .int .i64 a] w fun e w' => e = .returned (.int .i64 (lotN (hitB xss L q a) xss.length : Nat)) ∧ w = w' := by
  obtain ⟨ad, cap, rfl, hcap, hmax, V, hcells, hV⟩ := h.opened
  clear h
  have hn : xss.length ≤ 7 := by
    unfold tableB at hT
    simp at hT
    omega
  have hL2 : L < 128 := Nat.lt_of_lt_of_le hL (Nat.pow_le_pow_right (by omega) hn)
  go_enter Try.func79, Try.ntmps79
  go_wp2
  go_loop [9, 14] (fun s i => ∃ k : Nat, k ≤ xss.length ∧ i = .int .i64 k ∧ s = .int .i64 (lotN (hitB xss L q a) k : Nat)) (fun _ i => xss.length - (intOf i).toNat)
  case atStart => exact ⟨0, Nat.zero_le _, rfl, rfl⟩
  case round =>
    obtain ⟨k, hk, rfl, rfl⟩ := hrel
    by_cases hlt : k < xss.length
    · obtain ⟨b, off, rfl, _, hc⟩ := hcells (by omega)
      have hck := hc k hlt
      obtain ⟨ak, ck, hvk, hk1, hk2, hkc⟩ := (hV k hlt).opened
      rw [hvk] at hck
      have hk60 : k < 7 := by omega
      clear hc hcells hV
      have hlk : xss[k].length = (xss.headD []).length := by
        unfold tableB at hT
        simp only [Bool.and_eq_true, List.all_eq_true] at hT
        have := hT.2.2 xss[k] (List.getElem_mem _)
        unfold rowOk at this
        simp only [Bool.and_eq_true, decide_eq_true_eq] at this
        exact this.1
      obtain ⟨b2, o2, rfl, _, hx⟩ := hkc (by omega)
      have hxq := hx q (by omega)
      have hql : q < xss[k].length := by omega
      obtain ⟨x, hx2⟩ : ∃ x, x = xss[k][q] := ⟨_, rfl⟩
      rw [← hx2] at hxq
      have HX := Lib.hid (show (xss.getD k []).getD q 0 = x by rw [hx2]; simp [List.getD, List.getElem?_eq_getElem hlt, List.getElem?_eq_getElem hql])
      have hba := bit_and L k (by omega)
      have hlo := lotN_lt (hitB xss L q a) k
      have hpo := pow_small (k := k) (by omega)
      have hlo2 : ((lotN (hitB xss L q a) k : Nat) : Int) ≤ 1152921504606846976 := by omega
      have H60 := Lib.hid (show k ≤ 60 by omega)
      clear hlk hkc hx hx2 hvk hT hL hlo hpo
      cases hbit : bitN L k
      · rw [hbit] at hba
        have HH := Lib.hid (show hitB xss L q a k = false by unfold hitB; rw [hbit]; rfl)
        clear hbit
        go_wp2
        go_round
        case rel => exact ⟨k + 1, by omega, by go_num, by rw [lotN_miss HH.out]⟩
        case measure => simp [intOf]; omega
      · rw [hbit] at hba
        by_cases hxa : x = a
        · have hxa1 : (x == a) = true := by simpa using hxa
          have HH := Lib.hid (show hitB xss L q a k = true by unfold hitB; rw [hbit, HX.out]; simpa using hxa)
          clear hbit hxa
          go_wp2
          go_round
          case rel => exact ⟨k + 1, by omega, by go_num, by rw [← or_hit H60.out HH.out]⟩
          case measure => simp [intOf]; omega
        · have hxa1 : (x == a) = false := by simpa using hxa
          have HH := Lib.hid (show hitB xss L q a k = false by unfold hitB; rw [hbit, HX.out]; simpa using hxa)
          clear hbit hxa
          go_wp2
          go_round
          case rel => exact ⟨k + 1, by omega, by go_num, by rw [lotN_miss HH.out]⟩
          case measure => simp [intOf]; omega
    · have HE := Lib.hid (show k = xss.length by omega)
      clear hcells hV hT hL
      go_wp2
      go_ret
      exact ⟨ret_int (by rw [HE.out]), rfl⟩

def lotOk (xss : List (List Int)) (lot : Int) : Bool := inB lot 0 ((2 : Int) ^ xss.length - 1)
def askOk (xss : List (List Int)) (q : Int) : Bool := inB q 0 (((xss.headD []).length : Int) - 1)
def lotAfterR (xss : List (List Int)) (lot q a : Int) : Int :=
  if (tableB xss && lotOk xss lot && askOk xss q && inB a 0 2) = true then (lotN (hitB xss lot.toNat q.toNat a) xss.length : Nat) else -1

theorem tableB_len {xss : List (List Int)} (h : tableB xss = true) : 1 ≤ xss.length ∧ xss.length ≤ 7 := by
  unfold tableB at h
  simp only [Bool.and_eq_true, decide_eq_true_eq] at h
  exact h.1
theorem headD_get {α : Type} {xss : List α} {d : α} (h : 0 < xss.length) : xss.headD d = xss[0] := by cases xss with | nil => simp at h | cons x t => rfl
theorem inB_yes {n lo hi : Int} (h : inB n lo hi = true) : lo ≤ n ∧ n ≤ hi := by simpa [inB] using h
theorem lotOk_nat {xss : List (List Int)} {lot : Int} (h : lotOk xss lot = true) : ∃ L : Nat, lot = L ∧ L < 2 ^ xss.length := by
  have := inB_yes h
  obtain ⟨L, rfl⟩ := Int.eq_ofNat_of_zero_le this.1
  refine ⟨L, rfl, ?_⟩
  have e : (2 : Int) ^ xss.length = ((2 ^ xss.length : Nat) : Int) := by simp
  rw [e] at this
  omega

theorem implLotAfter_any {B : Nat} (v : Value) (xss : List (List Int)) (lot q a : Int) (w : World) (h : Rows2 B w v xss) :
    Calls Try.prog 35 #[v, .int .i64 lot, .int .i64 q, .int .i64 a] w fun e w' => e = .returned (.int .i64 (lotAfterR xss lot q a)) ∧ Below w.heap.size w w' := by
  have hT := implTableOk_any v xss w h
  have hrows := h
  obtain ⟨ad, cap, rfl, hcap, hmax, V, hcells, hV⟩ := h.opened
  cases h1 : tableB xss
  · rw [h1] at hT
    have HE := Lib.hid (show lotAfterR xss lot q a = -1 by unfold lotAfterR; rw [h1]; rfl)
    clear h1 hcells hV h hrows
    go_enter Try.func35, Try.ntmps35
    go_wp2_with (first | (go_at_call 70; refine hT.mono ?_; rintro e w2 ⟨rfl, hb2⟩; have HB2 := Lib.hid hb2; clear hb2))
    go_ret
    exact ⟨ret_int (by rw [HE.out]), HB2.out⟩
  · rw [h1] at hT
    have hn := tableB_len h1
    have hW := fun W => isWord_any (xss.length : Int) lot W (by omega) (by omega)
    simp only [Int.toNat_natCast] at hW
    obtain ⟨g, off, rfl, _, hc⟩ := hcells (by omega)
    have hc0 := hc 0 (by omega)
    obtain ⟨a0, c0, hv0, h01, h02⟩ := (hV 0 (by omega)).shape
    rw [hv0, Nat.add_zero] at hc0
    have hhd : xss.headD [] = xss[0] := headD_get (by omega)
    have hn1 : (1 : Int) ≤ (xss.length : Int) := by omega
    have hn7 : (xss.length : Int) ≤ 7 := by omega
    have hl5 : xss[0].length ≤ 5 := by
      have := h1
      unfold tableB at this
      simp only [Bool.and_eq_true, decide_eq_true_eq] at this
      rw [hhd] at this
      exact this.2.1
    have HR := Lib.hid hrows
    have H1 := Lib.hid h1
    have HH := Lib.hid hhd
    clear hrows h hcells hV hc hv0
    have e2 : inB lot 0 ((2 : Int) ^ xss.length - 1) = lotOk xss lot := rfl
    have e3 : inB q 0 ((xss[0].length : Int) - 1) = askOk xss q := by unfold askOk; rw [hhd]
    cases h2 : lotOk xss lot
    · rw [h2] at e2
      have HE := Lib.hid (show lotAfterR xss lot q a = -1 by unfold lotAfterR; rw [h1, h2]; rfl)
      clear h1 h2 hhd
      go_enter Try.func35, Try.ntmps35
      go_wp2_with (first | (go_at_call 70; refine hT.mono ?_; rintro e w2 ⟨rfl, hb2⟩; have HB2 := Lib.hid hb2; clear hb2) | (go_at_call 78; refine (hW _).mono ?_; rintro e w3 ⟨rfl, rfl⟩))
      go_ret
      exact ⟨ret_int (by rw [HE.out]), HB2.out⟩
    · rw [h2] at e2
      cases h3 : askOk xss q
      · rw [h3] at e3
        have HE := Lib.hid (show lotAfterR xss lot q a = -1 by unfold lotAfterR; rw [h1, h2, h3]; rfl)
        clear h1 h2 h3 hhd
        go_enter Try.func35, Try.ntmps35
        go_wp2_with (first | (go_at_call 70; refine hT.mono ?_; rintro e w2 ⟨rfl, hb2⟩; have hc2 := (Above.of_below (B := 0) hb2).cell (Nat.zero_le _) hc0; have HB2 := Lib.hid hb2; clear hb2) | (go_at_call 78; refine (hW _).mono ?_; rintro e w3 ⟨rfl, rfl⟩) | (go_at_call 75; refine (in_any _ _ _ _).mono ?_; rintro e w3 ⟨rfl, rfl⟩))
        go_ret
        exact ⟨ret_int (by rw [HE.out]), HB2.out⟩
      · rw [h3] at e3
        cases h4 : inB a 0 2
        · have HE := Lib.hid (show lotAfterR xss lot q a = -1 by unfold lotAfterR; rw [h1, h2, h3, h4]; rfl)
          clear h1 h2 h3 hhd
          go_enter Try.func35, Try.ntmps35
          go_wp2_with (first | (go_at_call 70; refine hT.mono ?_; rintro e w2 ⟨rfl, hb2⟩; have hc2 := (Above.of_below (B := 0) hb2).cell (Nat.zero_le _) hc0; have HB2 := Lib.hid hb2; clear hb2) | (go_at_call 78; refine (hW _).mono ?_; rintro e w3 ⟨rfl, rfl⟩) | (go_at_call 75; refine (in_any _ _ _ _).mono ?_; rintro e w3 ⟨rfl, rfl⟩))
          go_ret
          exact ⟨ret_int (by rw [HE.out]), HB2.out⟩
        · obtain ⟨L, rfl, hL⟩ := lotOk_nat h2
          obtain ⟨Q, rfl⟩ := Int.eq_ofNat_of_zero_le (inB_yes h3).1
          have hQ : Q < (xss.headD []).length := by have := (inB_yes h3).2; omega
          have HE := Lib.hid (show lotAfterR xss L Q a = (lotN (hitB xss L Q a) xss.length : Nat) by unfold lotAfterR; rw [h1, h2, h3, h4]; rfl)
          have hA := fun W (hb : Below w.heap.size w W) => lotAfter_any (.slice (some ⟨g, off, none⟩) xss.length cap) xss L Q a W (HR.out.below hb) h1 hL hQ
          clear h1 h2 h3 hhd hL hQ
          go_enter Try.func35, Try.ntmps35
          go_wp2_with (first | (go_at_call 70; refine hT.mono ?_; rintro e w2 ⟨rfl, hb2⟩; have hc2 := (Above.of_below (B := 0) hb2).cell (Nat.zero_le _) hc0; have HB2 := Lib.hid hb2; clear hb2) | (go_at_call 78; refine (hW _).mono ?_; rintro e w3 ⟨rfl, rfl⟩) | (go_at_call 75; refine (in_any _ _ _ _).mono ?_; rintro e w3 ⟨rfl, rfl⟩) | (go_at_call 79; refine (hA _ HB2.out).mono ?_; rintro e w3 ⟨rfl, rfl⟩))
          go_ret
          exact ⟨ret_int (by rw [HE.out]), HB2.out⟩

end Go.Proofs.Ytpeogghiboaceaa
