/- The walk of FnSureHit. -/
import Derived.Test.YtpeogghiboaceaaDrawSure
import Derived.Test.YtpeogghiboaceaaAlive
namespace Go.Proofs.Ytpeogghiboaceaa
open Go.RowKit
set_option linter.unusedVariables false
set_option maxRecDepth 100000

theorem sure_parts {rows cols : Int} {xss : List (List Int)} {long : Int} (h : sureB rows cols xss long = true) : ∃ R C l : Nat, rows = R ∧ cols = C ∧ long = l ∧ 1 ≤ R ∧ R ≤ 6 ∧ 1 ≤ C ∧ C ≤ 6 ∧ shotsB rows cols xss = true ∧ inB long 1 6 = true ∧ apartR rows cols long ≤ gridN xss R C ∧ apartR rows cols long ≤ 72 ∧ 0 ≤ apartR rows cols long := by
  unfold sureB at h
  rw [Bool.and_eq_true, Bool.and_eq_true, decide_eq_true_eq] at h
  obtain ⟨⟨h1, h2⟩, h3⟩ := h
  obtain ⟨R, C, rfl, rfl, hR1, hR2, hC1, hC2, hS⟩ := shots_parts h1
  have hbo : boardB R C long = true := by
    unfold boardB
    rw [h2]; simp [inB]; omega
  obtain ⟨R', C', l, q1, q2, rfl, _, _, _, _, hl1, hl2⟩ := board_parts hbo
  have hap : apartR R C l = (apartN (placesR R C l) l (placesR R C l).length : Nat) := by unfold apartR; rw [if_pos hbo]; simp
  have hle := apartN_le (placesR R C l) l (placesR R C l).length
  have hle2 := placesR_le (R : Int) (C : Int) (l : Int)
  refine ⟨R, C, l, rfl, rfl, rfl, hR1, hR2, hC1, hC2, h1, h2, ?_, by rw [hap]; omega, by rw [hap]; omega⟩
  have hfit : ∀ p ∈ placesR R C l, FitsP R C l p := fun p hp => placesK_fits (Nat.le_refl _) hl1 (by rw [← placesR_nat hbo]; exact hp)
  have hnil : stillR R C xss l = [] := List.eq_nil_of_length_eq_zero h3
  unfold stillR at hnil
  rw [if_pos h1, List.filter_eq_nil_iff] at hnil
  have hh : ∀ p ∈ placesR R C l, 1 ≤ hitK xss p l := fun p hp => by
    have h4 := hnil p hp
    have e : ((l : Nat) : Int).toNat = l := by simp
    rw [e, decide_eq_true_eq] at h4
    have := hitK_rng hS (hfit p hp) l (Nat.le_refl _)
    omega
  have := apart_shots hR2 hC2 hfit hh (placesR R C l).length (Nat.le_refl _)
  have := sumT_grid hS hR2 hC2 (apartT (placesR R C l) l (placesR R C l).length)
  rw [hap]
  omega

set_option maxHeartbeats 4000000 in
theorem FnSureHit_walk (v : Value) (bs : List Int) (w : World) (h : Bytes 0 w v bs) :
    Calls Try.prog 14 #[v] w fun e w' => e = .returned (.bool true) ∧ Below w.heap.size w w' := by
  obtain ⟨a0, cap0, rfl, hc1, hc2, hc3⟩ := id h.1
  rw [List.length_map] at h ⊢
  clear hc1 hc2 hc3
  by_cases hs : 1048576 < bs.length
  · go_enter Try.func14, Try.ntmps14
    go_wp2
    go_ret
    exact ⟨rfl, Below.refl _ _⟩
  · go_enter Try.func14, Try.ntmps14
    go_wp2_with fail
    refine (drawSureHit_any _ _ _ h).mono ?_
    rintro e w1 ⟨rows, cols, xss, a1, c1, long, rfl, hx1, hb1⟩
    clear h
    go_wp2_with fail
    refine (implSureHit_any _ _ _ _ _ _ hx1).mono ?_
    rintro e w2 ⟨rfl, hb2⟩
    have hx2 := hx1.below hb2
    have hbb2 := hb1.trans (hb2.mono hb1.size)
    clear hx1 hb1 hb2
    go_wp2_with fail
    refine (specSureHit_any _ _ _ _ _ _ hx2).mono ?_
    rintro e w3 ⟨rfl, hb3⟩
    have hx3 := hx2.below hb3
    have hbb3 := hbb2.trans (hb3.mono hbb2.size)
    clear hx2 hbb2 hb3
    have HB3 := Lib.hid hbb3
    cases hsu : sureB rows cols xss long
    · clear hsu hx3 hbb3
      go_wp2_with fail
      refine (alive_any _).mono ?_
      rintro e w7 ⟨rfl, rfl⟩
      go_wp2
      go_ret
      exact ⟨rfl, HB3.out⟩
    · obtain ⟨R, C, l, rfl, rfl, rfl, hR1, hR2, hC1, hC2, hok, hin, hle, h72, h0⟩ := sure_parts hsu
      have hSI := implShotsIn_any _ xss w3 hx3 hok
      have HSU := Lib.hid (ones_sure hR1 hR2 hC1 hC2 hin)
      obtain ⟨g, hg⟩ : ∃ g, g = gridN xss R C := ⟨_, rfl⟩
      obtain ⟨n, hn⟩ : ∃ n, n = apartR (R : Int) (C : Int) (l : Int) := ⟨_, rfl⟩
      rw [← hg] at hSI hle
      have hAP := fun W => implApartIn_any (R : Int) (C : Int) (l : Int) W
      rw [← hn] at hAP hle
      have hd : decide (n ≤ g) = true := decide_eq_true hle
      clear hsu hx3 hbb3 hg hn hok h72 h0 hin
      go_wp2_with fail
      refine hSI.mono ?_
      rintro e w4 ⟨rfl, hb4⟩
      have HB4 := Lib.hid (HB3.out.trans (hb4.mono HB3.out.size))
      clear hb4 hSI
      go_wp2_with fail
      refine (hAP _).mono ?_
      rintro e w5 ⟨rfl, hb5⟩
      have HB5 := Lib.hid (HB4.out.trans (hb5.mono HB4.out.size))
      clear hb5 hAP
      go_wp2_with fail
      refine (diagOnes_any R C _ hR1 hR2 hC1 hC2).mono ?_
      rintro e w6 ⟨a6, c6, rfl, ho6, hb6⟩
      have HB6 := Lib.hid (HB5.out.trans (hb6.mono HB5.out.size))
      have hr6 : Rows2 w5.heap.size w6 (.slice a6 (ones R C).length c6) (ones R C) := ho6.rows (fun xs hx x hx2 => by
        have e1 := List.eq_of_mem_replicate hx
        rw [e1] at hx2
        have e2 := List.eq_of_mem_replicate hx2
        rw [e2]; unfold In64; omega)
      have hSU := implSureHit_any (R : Int) (C : Int) _ (ones R C) (l : Int) w6 hr6
      rw [HSU.out] at hSU
      clear hb6 ho6 hr6
      go_wp2_with fail
      refine hSU.mono ?_
      rintro e w7 ⟨rfl, hb7⟩
      have HB7 := Lib.hid (HB6.out.trans (hb7.mono HB6.out.size))
      clear hb7 hSU
      go_wp2
      go_ret
      exact ⟨rfl, HB7.out⟩

end Go.Proofs.Ytpeogghiboaceaa
