/- The walk of FnInRing. -/
import Derived.Test.YtoddomhpdeoeeaaRowLaw
namespace Go.Proofs.Ytoddomhpdeoeeaa
open Go.RowKit
set_option linter.unusedVariables false

theorem sumOf_any {B : Nat} (v : Value) (xs : List Int) (w : World) (h : Ints B w v xs) :
    Calls Try.prog 49 #[v] w fun e w' => e = .returned (.int .i64 (sum64 xs)) ∧ w = w' := by
  obtain ⟨a, cap, rfl, hcap, hmax, hcells⟩ := h.opened
  clear h
  go_enter Try.func49, Try.ntmps49
  go_wp2
  go_loop [3, 4] (fun s i => ∃ k : Nat, k ≤ xs.length ∧ i = .int .i64 k ∧ s = .int .i64 (sum64 (xs.take k))) (fun _ i => xs.length - (intOf i).toNat)
  case atStart => exact ⟨0, Nat.zero_le _, rfl, rfl⟩
  case round =>
    obtain ⟨k, hk, rfl, rfl⟩ := hrel
    by_cases hlt : k < xs.length
    · obtain ⟨b, off, rfl, _, hc⟩ := hcells (by omega)
      have hck := hc k hlt
      have H := Lib.hid (sum64_snoc xs k hlt)
      clear hc hcells
      go_wp2
      go_round
      case rel => exact ⟨k + 1, by omega, by go_num, by rw [H.out]⟩
      case measure => simp [intOf]; omega
    · go_wp2
      go_ret
      rw [List.take_of_length_le (by omega)]
      exact ⟨rfl, rfl⟩

theorem drawInRing_any {B : Nat} (v : Value) (bs : List Int) (w : World) (h : Bytes B w v bs) :
    Calls Try.prog 46 #[v] w fun e w' => ∃ r, e = .returned (.int .i64 r) ∧ 0 ≤ r ∧ r < 8 ∧ Below w.heap.size w w' := by
  go_enter Try.func46, Try.ntmps46
  go_wp2_with fail
  refine (open_any _ _ _ h).mono ?_
  rintro e w1 ⟨a, cap, cs, rfl, hR, hb⟩
  go_wp2_with fail
  refine (pick_any 8 _ _ _ _ _ _ hR (by omega) (by unfold In64; omega)).mono ?_
  rintro e w2 ⟨r, rfl, hr0, hr1, _, hg⟩
  have HB := Lib.hid (below_of_grown hb hg (Nat.le_refl _))
  clear hb hg hR
  go_wp2
  go_ret
  exact ⟨r, rfl, hr0, hr1 (by omega), HB.out⟩

theorem ring_sum {n : Nat} (h3 : 3 ≤ n) (h6 : n ≤ 6) : ∀ k, k < n → sum64 (rowR n true k) = 2 := by
  have : n = 3 ∨ n = 4 ∨ n = 5 ∨ n = 6 := by omega
  rcases this with rfl | rfl | rfl | rfl <;> decide +kernel

set_option maxHeartbeats 2000000 in
theorem FnInRing_walk (v : Value) (bs : List Int) (w : World) (h : Bytes 0 w v bs) :
    Calls Try.prog 12 #[v] w fun e w' => e = .returned (.bool true) ∧ Below w.heap.size w w' := by
  obtain ⟨a0, cap0, rfl, hc1, hc2, hc3⟩ := id h.1
  rw [List.length_map] at h ⊢
  clear hc1 hc2 hc3
  by_cases hs : 1048576 < bs.length
  · go_enter Try.func12, Try.ntmps12
    go_wp2
    go_ret
    exact ⟨rfl, Below.refl _ _⟩
  · go_enter Try.func12, Try.ntmps12
    go_wp2_with fail
    refine (drawInRing_any _ _ _ h).mono ?_
    rintro e w1 ⟨r, rfl, hr0, hr8, hb1⟩
    clear h
    have hI := implInRing_any r w1
    have hSp := specInRing_any r
    by_cases hr : 3 ≤ r ∧ r ≤ 6
    · obtain ⟨n, rfl⟩ := Int.eq_ofNat_of_zero_le hr0
      have e : inRingR (n : Int) = lineR n true := by unfold inRingR; rw [if_pos hr]; simp
      rw [e] at hI hSp
      clear e
      go_wp2_with fail
      refine hI.mono ?_
      rintro e w2 ⟨a2, c2, rfl, ho2, hb2⟩
      rw [lineR_length] at ho2 ⊢
      have hx2 := ho2.rows (line_in n true)
      have hbb2 := hb1.trans (hb2.mono hb1.size)
      clear hI ho2 hb2 hb1
      go_wp2_with fail
      refine (hSp w2).mono ?_
      rintro e w3 ⟨a3, c3, rfl, ho3, hb3⟩
      rw [lineR_length] at ho3 ⊢
      have hx3 := hx2.below hb3
      have hy3 := ho3.rows (line_in n true)
      have hbb3 := hbb2.trans (hb3.mono hbb2.size)
      clear hSp hx2 ho3 hb3 hbb2
      go_wp2_with fail
      refine (sameRows_any _ _ _ _ _ hx3 hy3).mono ?_
      rintro e w4 ⟨rfl, hq4⟩
      have hD4 : Drawn w3 w4 := hq4
      rw [decide_eq_true rfl]
      have hx4 := hx3.below hD4.below
      have hbb4 := hbb3.trans (hD4.below.mono hbb3.size)
      clear hx3 hy3 hbb3 hq4 hD4
      have hn0 : ((n : Int) == 0) = false := by rw [beq_eq_false_iff_ne]; omega
      have hsum := ring_sum (show 3 ≤ n by omega) (show n ≤ 6 by omega)
      have HSum := Lib.hid hsum
      have HX := Lib.hid hx4
      have HBB := Lib.hid hbb4
      clear hx4 hbb4 hsum
      go_wp2
      go_loop [5] (fun i => ∃ k : Nat, k ≤ n ∧ i = .int .i64 k) (fun i => n - (intOf i).toNat)
      case atStart => exact ⟨0, Nat.zero_le _, rfl⟩
      case round =>
        obtain ⟨k, hk, rfl⟩ := hrel
        by_cases hkn : (k : Int) < (n : Int)
        · obtain ⟨ad', cap2, hed, _, _, V', hvc, hV'⟩ := HX.out.opened
          injection hed with f1 f2 f3
          subst f1 f3
          have hkl : k < (lineR n true).length := by rw [lineR_length]; omega
          obtain ⟨b2, off2, rfl, _, hr⟩ := hvc (by omega)
          have hrow := hr k hkl
          have hS := sumOf_any _ _ w4 (hV' k hkl)
          rw [lineR_get, HSum.out k (by omega)] at hS
          obtain ⟨vk, hvk⟩ : ∃ vk, vk = V' k := ⟨_, rfl⟩
          rw [← hvk] at hrow hS
          clear hvk hr hV' hvc f2 hkl
          go_wp2_with fail
          refine hS.mono ?_
          rintro e wz ⟨rfl, rfl⟩
          go_wp2
          go_round
          case rel => exact ⟨k + 1, by omega, by go_num⟩
          case measure => simp [intOf]; omega
        · go_wp2_with fail
          refine (implShortestHunt_any _ _ _ HX.out).mono ?_
          rintro e w5 ⟨l, ok, al, cl, rfl, hh, ho5, hb5⟩
          obtain ⟨rfl, hbt⟩ := ring_hunt (by omega) (by omega) hh
          have hB := implBesideOk_any _ _ _ (HX.out.below hb5)
          rw [hbt] at hB
          have hbb5 := HBB.out.trans (hb5.mono HBB.out.size)
          clear hb5 ho5 hh hbt
          go_wp2_with fail
          refine hB.mono ?_
          rintro e w6 ⟨rfl, hb6⟩
          have HB6 := Lib.hid (hbb5.trans (hb6.mono hbb5.size))
          clear hB hb6 hbb5
          go_wp2
          go_ret
          exact ⟨rfl, HB6.out⟩
    · have e : inRingR r = [] := by unfold inRingR; rw [if_neg hr]
      rw [e] at hI hSp
      clear e hr
      go_wp2_with fail
      refine hI.mono ?_
      rintro e w2 ⟨a2, c2, rfl, ho2, hb2⟩
      have hx2 := ho2.rows (by simp)
      have hbb2 := hb1.trans (hb2.mono hb1.size)
      clear hI ho2 hb2 hb1
      go_wp2_with fail
      refine (hSp w2).mono ?_
      rintro e w3 ⟨a3, c3, rfl, ho3, hb3⟩
      have hx3 := hx2.below hb3
      have hy3 := ho3.rows (by simp)
      have hbb3 := hbb2.trans (hb3.mono hbb2.size)
      clear hSp hx2 ho3 hb3 hbb2
      go_wp2_with fail
      refine (sameRows_any _ _ _ _ _ hx3 hy3).mono ?_
      rintro e w4 ⟨rfl, hq4⟩
      have hD4 : Drawn w3 w4 := hq4
      rw [decide_eq_true rfl]
      have hbb4 := hbb3.trans (hD4.below.mono hbb3.size)
      clear hx3 hy3 hbb3 hq4 hD4
      go_wp2_with fail
      refine (alive_any _).mono ?_
      rintro e w5 ⟨rfl, rfl⟩
      go_wp2
      go_ret
      exact ⟨rfl, hbb4⟩

end Go.Proofs.Ytoddomhpdeoeeaa
