/- SureHit of both, ShotsIn, the shots at all fields. -/
import Derived.Test.YtpeogghiboaceaaApartIn
namespace Go.Proofs.Ytpeogghiboaceaa
open Go.RowKit
set_option linter.unusedVariables false
set_option maxRecDepth 100000

def sureB (rows cols : Int) (xss : List (List Int)) (long : Int) : Bool := shotsB rows cols xss && inB long 1 6 && decide ((stillR rows cols xss long).length = 0)

theorem implSureHit_any {B : Nat} (rows cols : Int) (v : Value) (xss : List (List Int)) (long : Int) (w : World) (h : Rows2 B w v xss) :
    Calls Try.prog 50 #[.int .i64 rows, .int .i64 cols, v, .int .i64 long] w fun e w' => e = .returned (.bool (sureB rows cols xss long)) ∧ Below w.heap.size w w' := by
  have hSO := implShotsOk_any rows cols v xss w h
  have HH := Lib.hid h
  cases hok : shotsB rows cols xss
  · rw [hok] at hSO
    have HS := Lib.hid (show sureB rows cols xss long = false by unfold sureB; rw [hok]; simp)
    clear hok h
    go_enter Try.func50, Try.ntmps50
    go_wp2_with fail
    refine hSO.mono ?_
    rintro e w3 ⟨rfl, hb3⟩
    have HB3 := Lib.hid hb3
    clear hb3 hSO
    go_wp2
    go_ret
    exact ⟨ret_bool (by rw [HS.out]), HB3.out⟩
  · rw [hok] at hSO
    cases hin : inB long 1 6
    · have HS := Lib.hid (show sureB rows cols xss long = false by unfold sureB; rw [hin]; simp)
      clear hok h
      go_enter Try.func50, Try.ntmps50
      go_wp2_with fail
      refine hSO.mono ?_
      rintro e w3 ⟨rfl, hb3⟩
      have HB3 := Lib.hid hb3
      clear hb3 hSO
      go_wp2_with (go_at_call 75; refine (in_any _ _ _ _).mono ?_; rintro e w' ⟨rfl, rfl⟩; rw [hin])
      go_ret
      exact ⟨ret_bool (by rw [HS.out]), HB3.out⟩
    · have HS := Lib.hid (show sureB rows cols xss long = decide ((stillR rows cols xss long).length = 0) by unfold sureB; rw [hok, hin]; rfl)
      clear hok h
      go_enter Try.func50, Try.ntmps50
      go_wp2_with fail
      refine hSO.mono ?_
      rintro e w3 ⟨rfl, hb3⟩
      have HB3 := Lib.hid hb3
      have hST := implStillAt_any rows cols v xss long w3 (HH.out.below hb3)
      clear hb3 hSO
      go_wp2_with (first | (go_at_call 75; refine (in_any _ _ _ _).mono ?_; rintro e w' ⟨rfl, rfl⟩; rw [hin]) | fail)
      refine hST.mono ?_
      rintro e w4 ⟨a4, c4, rfl, ho4, hb4⟩
      obtain ⟨m, hm⟩ : ∃ m, m = (stillR rows cols xss long).length := ⟨_, rfl⟩
      rw [← hm]
      have HB4 := Lib.hid (HB3.out.trans (hb4.mono HB3.out.size))
      have HM := Lib.hid hm
      clear ho4 hb4 hST hm
      go_wp2
      go_ret
      refine ⟨ret_bool ?_, HB4.out⟩
      rw [HS.out, ← HM.out, Bool.eq_iff_iff]; simp

theorem specSureHit_any {B : Nat} (rows cols : Int) (v : Value) (xss : List (List Int)) (long : Int) (w : World) (h : Rows2 B w v xss) :
    Calls Try.prog 51 #[.int .i64 rows, .int .i64 cols, v, .int .i64 long] w fun e w' => e = .returned (.bool (sureB rows cols xss long)) ∧ Below w.heap.size w w' := by
  have hSO := specShotsOk_any rows cols v xss w h
  have HH := Lib.hid h
  cases hok : shotsB rows cols xss
  · rw [hok] at hSO
    have HS := Lib.hid (show sureB rows cols xss long = false by unfold sureB; rw [hok]; simp)
    clear hok h
    go_enter Try.func51, Try.ntmps51
    go_wp2_with fail
    refine hSO.mono ?_
    rintro e w3 ⟨rfl, rfl⟩
    clear hSO
    go_wp2
    go_ret
    exact ⟨ret_bool (by rw [HS.out]), Below.refl _ _⟩
  · rw [hok] at hSO
    cases hin : inB long 1 6
    · have HS := Lib.hid (show sureB rows cols xss long = false by unfold sureB; rw [hin]; simp)
      clear hok h
      go_enter Try.func51, Try.ntmps51
      go_wp2_with fail
      refine hSO.mono ?_
      rintro e w3 ⟨rfl, rfl⟩
      clear hSO
      go_wp2_with (go_at_call 62; refine (l1In_any _ _ _ _).mono ?_; rintro e w' ⟨rfl, rfl⟩; rw [hin])
      go_ret
      exact ⟨ret_bool (by rw [HS.out]), Below.refl _ _⟩
    · have HS := Lib.hid (show sureB rows cols xss long = decide ((stillR rows cols xss long).length = 0) by unfold sureB; rw [hok, hin]; rfl)
      have hST := specStillAt_any rows cols v xss long w h
      clear hok h
      go_enter Try.func51, Try.ntmps51
      go_wp2_with fail
      refine hSO.mono ?_
      rintro e w3 ⟨rfl, rfl⟩
      clear hSO
      go_wp2_with (first | (go_at_call 62; refine (l1In_any _ _ _ _).mono ?_; rintro e w' ⟨rfl, rfl⟩; rw [hin]) | fail)
      refine hST.mono ?_
      rintro e w4 ⟨a4, c4, rfl, ho4, hb4⟩
      obtain ⟨m, hm⟩ : ∃ m, m = (stillR rows cols xss long).length := ⟨_, rfl⟩
      rw [← hm]
      have HB4 := Lib.hid hb4
      have HM := Lib.hid hm
      clear ho4 hb4 hST hm
      go_wp2
      go_ret
      refine ⟨ret_bool ?_, HB4.out⟩
      rw [HS.out, ← HM.out, Bool.eq_iff_iff]; simp

/-! ### ShotsIn -/
theorem totalN_any {B : Nat} (v : Value) (xs : List Int) (w : World) (h : Ints B w v xs) (hl : xs.length ≤ 6) (h01 : ∀ i (h : i < xs.length), 0 ≤ xs[i] ∧ xs[i] ≤ 1) :
    Calls Try.prog 92 #[v] w fun e w' => e = .returned (.int .i64 (sumN (fun c => xs.getD c 0) xs.length)) ∧ w = w' := by
  obtain ⟨a, cap, rfl, hcap, hmax, hcells⟩ := h.opened
  have hr : ∀ k, k ≤ xs.length → 0 ≤ sumN (fun c => xs.getD c 0) k ∧ sumN (fun c => xs.getD c 0) k ≤ 6 := fun k hk => by
    have := sumN_rng (f := fun c => xs.getD c 0) (n := k) (m := 1) (fun j hj => by
      have : xs.getD j 0 = xs[j] := by simp [List.getD, List.getElem?_eq_getElem (show j < xs.length by omega)]
      simp only [this]; exact h01 j (by omega))
    omega
  have HR := Lib.hid hr
  clear h hr
  go_enter Try.func92, Try.ntmps92
  go_wp2
  go_loop [3, 8] (fun s i => ∃ k : Nat, k ≤ xs.length ∧ i = .int .i64 k ∧ s = .int .i64 (sumN (fun c => xs.getD c 0) k)) (fun _ i => xs.length - (intOf i).toNat)
  case atStart => exact ⟨0, Nat.zero_le _, rfl, rfl⟩
  case round =>
    obtain ⟨k, hk, rfl, rfl⟩ := hrel
    by_cases hlt : k < xs.length
    · obtain ⟨b, off, rfl, _, hc⟩ := hcells (by omega)
      have hck := hc k hlt
      have h1 := h01 k hlt
      have HST := Lib.hid (show sumN (fun c => xs.getD c 0) (k + 1) = sumN (fun c => xs.getD c 0) k + xs[k] by rw [sumN]; simp [List.getD, List.getElem?_eq_getElem hlt])
      have hrng := HR.out k hk
      obtain ⟨s, hs⟩ : ∃ s, s = sumN (fun c => xs.getD c 0) k := ⟨_, rfl⟩
      rw [← hs] at HST hrng ⊢
      obtain ⟨u, hu⟩ : ∃ u, u = xs[k] := ⟨_, rfl⟩
      rw [← hu] at HST hck h1
      have hi0 : (0 : Int) ≤ (k : Int) := by omega
      have hi1 : (k : Int) < (xs.length : Int) := by omega
      clear hc hcells hs hu
      go_wp2
      go_round
      case rel => exact ⟨k + 1, by omega, by go_num, by rw [HST.out]⟩
      case measure => simp [intOf]; omega
    · have e : k = xs.length := by omega
      have HE := Lib.hid e
      clear hcells e
      go_wp2
      go_ret
      exact ⟨ret_int (by rw [HE.out]), rfl⟩

set_option maxHeartbeats 1000000 in
theorem implShotsIn_any {B R C : Nat} (v : Value) (xss : List (List Int)) (w : World) (h : Rows2 B w v xss) (hok : shotsB R C xss = true) :
    Calls Try.prog 52 #[.int .i64 R, .int .i64 C, v] w fun e w' => e = .returned (.int .i64 (gridN xss R C)) ∧ Below w.heap.size w w' := by
  have hSO := implShotsOk_any R C v xss w h
  rw [hok] at hSO
  obtain ⟨R', C', q1, q2, hR1, hR2, hC1, hC2, hSh⟩ := shots_parts hok
  have q1' : R' = R := by omega
  have q2' : C' = C := by omega
  subst q1' q2'
  obtain ⟨a, cap, rfl, hcap, hmax, V, hcells, hV⟩ := h.opened
  have hr : ∀ k, k ≤ R' → 0 ≤ sumN (fun r => sumN (fun c => cellN xss r c) C') k ∧ sumN (fun r => sumN (fun c => cellN xss r c) C') k ≤ 36 := fun k hk => by
    have := sumN_rng (f := fun r => sumN (fun c => cellN xss r c) C') (n := k) (m := 6) (fun j hj => by
      have := sumN_rng (f := fun c => cellN xss j c) (n := C') (m := 1) (fun i hi => cellN_rng hSh j i)
      omega)
    omega
  have HR := Lib.hid hr
  have HSH := Lib.hid hSh
  clear h hok q1 q2 hr hSh
  go_enter Try.func52, Try.ntmps52
  go_wp2_with fail
  refine hSO.mono ?_
  rintro e w3 ⟨rfl, hb3⟩
  have HB3 := Lib.hid hb3
  have hc3 : ∀ b off, a = some ⟨b, off, none⟩ → ∀ i, i < xss.length → w.cell? ⟨b, off + i, none⟩ = some (V i) → w3.cell? ⟨b, off + i, none⟩ = some (V i) := fun b off _ i _ hc => (Above.of_below (B := 0) hb3).cell (Nat.zero_le _) hc
  have HC3 := Lib.hid hc3
  have hV3 : ∀ i (h : i < xss.length), Ints B w3 (V i) xss[i] := fun i hi => (hV i hi).below hb3
  have HV3 := Lib.hid hV3
  clear hb3 hSO hc3 hV3 hV
  go_wp2
  go_loop [7, 17] (fun s i => ∃ k : Nat, k ≤ R' ∧ i = .int .i64 k ∧ s = .int .i64 (sumN (fun r => sumN (fun c => cellN xss r c) C') k)) (fun _ i => R' - (intOf i).toNat)
  case atStart => exact ⟨0, Nat.zero_le _, rfl, rfl⟩
  case round =>
    obtain ⟨k, hk, rfl, rfl⟩ := hrel
    have hxl : xss.length = R' := HSH.out.1
    by_cases hlt : k < R'
    · have hkl : k < xss.length := by omega
      obtain ⟨b, off, rfl, _, hc⟩ := hcells (by omega)
      have hck := HC3.out b off rfl k hkl (hc k hkl)
      obtain ⟨ak, ck, hvk, _⟩ := (HV3.out k hkl).opened
      have hI := HV3.out k hkl
      obtain ⟨hrl, h01⟩ := HSH.out.2 k hkl
      have hT := totalN_any _ _ w3 hI (by omega) h01
      have e1 : sumN (fun c => xss[k].getD c 0) xss[k].length = sumN (fun c => cellN xss k c) C' := by
        rw [hrl]
        refine sumN_same fun c hc => ?_
        unfold cellN
        simp [List.getD, List.getElem?_eq_getElem hkl]
      rw [e1] at hT
      rw [hvk] at hck hT
      have HST := Lib.hid (show sumN (fun r => sumN (fun c => cellN xss r c) C') (k + 1) = sumN (fun r => sumN (fun c => cellN xss r c) C') k + sumN (fun c => cellN xss k c) C' from rfl)
      have hrng := HR.out k hk
      have hrng2 := sumN_rng (f := fun c => cellN xss k c) (n := C') (m := 1) (fun i hi => cellN_rng HSH.out k i)
      obtain ⟨s, hs⟩ : ∃ s, s = sumN (fun r => sumN (fun c => cellN xss r c) C') k := ⟨_, rfl⟩
      rw [← hs] at HST hrng ⊢
      obtain ⟨u, hu⟩ : ∃ u, u = sumN (fun c => cellN xss k c) C' := ⟨_, rfl⟩
      rw [← hu] at HST hrng2 hT
      have hi0 : (0 : Int) ≤ (k : Int) := by omega
      have hi1 : (k : Int) < (xss.length : Int) := by omega
      have hu6 : 0 ≤ u ∧ u ≤ 6 := by omega
      clear hc hcells hs hu hvk hI hrl h01 e1 hrng2 hxl
      go_wp2_with fail
      refine hT.mono ?_
      rintro e w4 ⟨rfl, rfl⟩
      clear hT
      go_wp2
      go_round
      case rel => exact ⟨k + 1, by omega, by go_num, by rw [HST.out]⟩
      case measure => simp [intOf]; omega
    · have e : k = R' := by omega
      have HE := Lib.hid e
      have hge : ¬ (k : Int) < (xss.length : Int) := by omega
      clear hcells e hxl
      go_wp2
      go_ret
      exact ⟨ret_int (by rw [HE.out]; rfl), HB3.out⟩

end Go.Proofs.Ytpeogghiboaceaa
