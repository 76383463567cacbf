/- AfterDay, of the program and of the reference. -/
import Derived.Test.YtpeogghiboaceaaCat
namespace Go.Proofs.Ytpeogghiboaceaa
open Go.RowKit Go.Shelf
set_option linter.unusedVariables false

def wordB (n : Nat) (s : Int) : Bool := inB s 0 ((2 : Int) ^ n - 1)
theorem wordB_nat {n : Nat} {s : Int} (h : wordB n s = true) : ∃ S : Nat, s = S ∧ S < 2 ^ n := by
  have h : 0 ≤ s ∧ s ≤ (2 : Int) ^ n - 1 := by simpa [wordB, inB] using h
  obtain ⟨S, rfl⟩ := Int.eq_ofNat_of_zero_le h.1
  refine ⟨S, rfl, ?_⟩
  have e : (2 : Int) ^ n = ((2 ^ n : Nat) : Int) := by simp
  have := h.2
  rw [e] at this
  omega
def boxB (n : Nat) (o : Int) : Bool := inB o 0 ((n : Int) - 1)
def afterR (xss : List (List Int)) (s o : Int) : Int :=
  if (besideB xss && wordB xss.length s && boxB xss.length o) = true then (afterN xss s.toNat o : Nat) else -1
theorem pow_64 {n S : Nat} (hn : n ≤ 6) (h : S < 2 ^ n) : S < 64 := Nat.lt_of_lt_of_le h (Nat.pow_le_pow_right (by omega) hn)

def there (b : Bool) : Int := if b then 1 else 0

set_option maxHeartbeats 1000000 in
theorem specAfterDay_any {B : Nat} (v : Value) (xss : List (List Int)) (s o : Int) (w : World) (h : Rows2 B w v xss) :
    Calls Try.prog 57 #[v, .int .i64 s, .int .i64 o] w (Quiet (.int .i64 (afterR xss s o)) w) := by
  have hT := specBesideOk_any v xss w h
  obtain ⟨ad, cap, rfl, hcap, hmax, V, hcells, hV⟩ := h.opened
  cases h1 : besideB xss
  · rw [h1] at hT
    have HE := Lib.hid (show afterR xss s o = -1 by unfold afterR; rw [h1]; rfl)
    clear h1 hcells hV h
    go_enter Try.func57, Try.ntmps57
    go_wp2_with fail
    refine hT.mono ?_
    rintro e w2 ⟨rfl, hq2⟩
    have hD : Drawn w w2 := hq2
    clear hq2
    go_wp2
    go_ret
    exact ⟨ret_int (by rw [HE.out]), hD⟩
  · rw [h1] at hT
    obtain ⟨hn, hrow⟩ := besideB_spec h1
    have HROW := Lib.hid hrow
    have hn1 : (1 : Int) ≤ (xss.length : Int) := by omega
    have hn6 : (xss.length : Int) ≤ 6 := by omega
    have hwp : wrap64 (wrap64 ((2 : Int) ^ xss.length) - 1) = 2 ^ xss.length - 1 := by
      have := wrap_pow (n := (xss.length : Int)) (by omega) (by omega)
      simpa using this
    clear h hrow
    have e2 : inB s 0 (wrap64 (wrap64 ((2 : Int) ^ xss.length) - 1)) = wordB xss.length s := by rw [hwp]; rfl
    have e3 : inB o 0 ((xss.length : Int) - 1) = boxB xss.length o := rfl
    clear hwp
    cases h2 : wordB xss.length s
    · rw [h2] at e2
      have HE := Lib.hid (show afterR xss s o = -1 by unfold afterR; rw [h1, h2]; rfl)
      clear h1 h2 hcells hV
      go_enter Try.func57, Try.ntmps57
      go_wp2_with fail
      refine hT.mono ?_
      rintro e w2 ⟨rfl, hq2⟩
      have hD : Drawn w w2 := hq2
      clear hq2
      go_wp2_with (first | (go_at_call 62; refine (l1In_any _ _ _ _).mono ?_; rintro e w3 ⟨rfl, rfl⟩))
      go_ret
      exact ⟨ret_int (by rw [HE.out]), hD⟩
    · rw [h2] at e2
      cases h3 : boxB xss.length o
      · rw [h3] at e3
        have HE := Lib.hid (show afterR xss s o = -1 by unfold afterR; rw [h1, h2, h3]; rfl)
        clear h1 h2 h3 hcells hV
        go_enter Try.func57, Try.ntmps57
        go_wp2_with fail
        refine hT.mono ?_
        rintro e w2 ⟨rfl, hq2⟩
        have hD : Drawn w w2 := hq2
        clear hq2
        go_wp2_with (first | (go_at_call 62; refine (l1In_any _ _ _ _).mono ?_; rintro e w3 ⟨rfl, rfl⟩))
        go_ret
        exact ⟨ret_int (by rw [HE.out]), hD⟩
      · rw [h3] at e3
        obtain ⟨S, rfl, hS⟩ := wordB_nat h2
        have ho : 0 ≤ o ∧ o ≤ (xss.length : Int) - 1 := by simpa [boxB, inB] using h3
        have hS64 := pow_64 hn.2 hS
        have HE := Lib.hid (show afterR xss S o = (afterN xss S o : Nat) by unfold afterR; rw [h1, h2, h3]; rfl)
        clear h1 h2 h3 hS
        go_enter Try.func57, Try.ntmps57
        go_wp2_with fail
        refine hT.mono ?_
        rintro e w2 ⟨rfl, hq2⟩
        have hD : Drawn w w2 := hq2
        clear hq2
        go_wp2_with (first | (go_at_call 62; refine (l1In_any _ _ _ _).mono ?_; rintro e w3 ⟨rfl, rfl⟩))
        clear e2 e3
        go_loop [7, 8] (fun s i => ∃ k : Nat, k ≤ xss.length ∧ i = .int .i64 k ∧ s = .int .i64 (lotN (fun j => reachN xss S o j xss.length) k : Nat)) (fun _ i => xss.length - (intOf i).toNat)
        case atStart => exact ⟨0, Nat.zero_le _, rfl, rfl⟩
        case round =>
          obtain ⟨j, hj, rfl, rfl⟩ := hrel
          by_cases hlt : j < xss.length
          · have hlo := lotN_lt (fun j => reachN xss S o j xss.length) j
            have hpo := pow_small (k := j) (by omega)
            have hlo2 : ((lotN (fun j => reachN xss S o j xss.length) j : Nat) : Int) ≤ 1152921504606846976 := by omega
            have H60 := Lib.hid (show j ≤ 60 by omega)
            clear hlo hpo
            go_wp2
            go_loop [9, 10] (fun t i => ∃ k : Nat, k ≤ xss.length ∧ i = .int .i64 k ∧ t = .int .i64 (there (reachN xss S o j k))) (fun _ i => xss.length - (intOf i).toNat)
            case atStart => exact ⟨0, Nat.zero_le _, rfl, rfl⟩
            case round =>
              obtain ⟨k, hk, rfl, rfl⟩ := hrel
              by_cases hkl : k < xss.length
              · have hba := bit_mod S k
                have hnn : (0 : Int) ≤ (S : Int) / 2 ^ k := by rw [shr_cast]; exact Int.natCast_nonneg _
                by_cases ho1 : (k : Int) = o
                · have hb1 : ((k : Int) != o) = false := by simpa using ho1
                  have HH := Lib.hid (show reachN xss S o j (k + 1) = reachN xss S o j k by simp [reachN, ho1])
                  clear ho1
                  go_wp2
                  go_round
                  case rel => exact ⟨k + 1, by omega, by go_num, by rw [HH.out]⟩
                  case measure => simp [intOf]; omega
                · have hb1 : ((k : Int) != o) = true := by simpa using ho1
                  cases hbit : bitN S k
                  · rw [hbit] at hba
                    have HH := Lib.hid (show reachN xss S o j (k + 1) = reachN xss S o j k by simp [reachN, hbit])
                    clear ho1 hbit
                    go_wp2
                    go_round
                    case rel => exact ⟨k + 1, by omega, by go_num, by rw [HH.out]⟩
                    case measure => simp [intOf]; omega
                  · rw [hbit] at hba
                    obtain ⟨b, off, rfl, _, hc⟩ := hcells (by omega)
                    have hck := hD.cell (hc k hkl)
                    obtain ⟨ak, ck, hvk, hk1, hk2, hkc⟩ := (hV k hkl).opened
                    rw [hvk] at hck
                    have hlk := (HROW.out k hkl).1
                    have hjl : j < xss[k].length := by omega
                    obtain ⟨b2, o2, rfl, _, hx⟩ := hkc (by omega)
                    have hxj := hD.cell (hx j hjl)
                    have hcl := cell2_eq hkl hjl
                    obtain ⟨x, hxe⟩ : ∃ x, x = xss[k][j] := ⟨_, rfl⟩
                    rw [← hxe] at hxj hcl
                    clear hcells hc hvk hkc hx hlk hxe hV
                    by_cases hx1 : x = 1
                    · have hb2 : (x == 1) = true := by simpa using hx1
                      have HH := Lib.hid (show there (reachN xss S o j (k + 1)) = 1 by simp [reachN, hbit, ho1, edge, hcl, hx1, there])
                      clear hx1 hcl ho1 hbit
                      go_wp2
                      go_round
                      case rel => exact ⟨k + 1, by omega, by go_num, by rw [HH.out]⟩
                      case measure => simp [intOf]; omega
                    · have hb2 : (x == 1) = false := by simpa using hx1
                      have HH := Lib.hid (show reachN xss S o j (k + 1) = reachN xss S o j k by simp [reachN, edge, hcl, hx1])
                      clear hx1 hcl ho1 hbit
                      go_wp2
                      go_round
                      case rel => exact ⟨k + 1, by omega, by go_num, by rw [HH.out]⟩
                      case measure => simp [intOf]; omega
              · have ek : k = xss.length := by omega
                subst ek
                cases hr : reachN xss S o j xss.length
                · have HH := Lib.hid (lotN_miss (f := fun j => reachN xss S o j xss.length) (k := j) hr)
                  have HW := Lib.hid (show wrap64 (((lotN (fun j => reachN xss S o j xss.length) j : Nat) : Int) + wrap64 0) = ((lotN (fun j => reachN xss S o j xss.length) j : Nat) : Int) by
                    rw [show wrap64 0 = 0 from IntWalk.wrap64_in _ ⟨by omega, by omega⟩, Int.add_zero]
                    exact IntWalk.wrap64_in _ ⟨by omega, by omega⟩)
                  clear hr
                  go_wp2
                  go_round
                  case rel => exact ⟨j + 1, by omega, by go_num, by rw [HH.out]; simp [there]; exact HW.out⟩
                  case measure => simp [intOf]; omega
                · have HH := Lib.hid (add_hit (f := fun j => reachN xss S o j xss.length) H60.out hr)
                  clear hr
                  go_wp2
                  go_round
                  case rel => exact ⟨j + 1, by omega, by go_num, by rw [← HH.out]; simp [there]⟩
                  case measure => simp [intOf]; omega
          · have HJ := Lib.hid (show j = xss.length by omega)
            go_wp2
            go_ret
            exact ⟨ret_int (by rw [HE.out, HJ.out]; rfl), hD⟩

end Go.Proofs.Ytpeogghiboaceaa
