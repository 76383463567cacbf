/- The walk of FnShortestHunt. -/
import Derived.Test.YtoddomhpdeoeeaaHuntImpl
import Derived.Test.YtoddomhpdeoeeaaHuntMore
import Derived.Test.YtoddomhpdeoeeaaDrawOpened
import Derived.Test.YtoddomhpdeoeeaaSurely
namespace Go.Proofs.Ytoddomhpdeoeeaa
open Go.RowKit
set_option linter.unusedVariables false

theorem sameInts_any {B C : Nat} (a b : Value) (xs ys : List Int) (w : World) (ha : Ints B w a xs) (hb : Ints C w b ys) :
    Calls Try.prog 41 #[a, b] w (Quiet (.bool (decide (xs = ys))) w) := by
  obtain ⟨a, cap, rfl, hcap, hmax, hcells⟩ := ha.opened
  obtain ⟨b, cap', rfl, hcap', hmax', hcells'⟩ := hb.opened
  clear ha hb
  by_cases hl : xs.length = ys.length
  · have hl1 : ((xs.length : Int) != (ys.length : Int)) = false := by rw [bne_eq_false_iff_eq]; omega
    have hl2 : xs.length ≤ ys.length := by omega
    have hl3 : ys.length ≤ xs.length := by omega
    clear hl
    go_enter Try.func41, Try.ntmps41
    go_wp2
    go_loopw [5] (fun i wr => ∃ k q : Nat, k ≤ xs.length ∧ i = .int .i64 k ∧ xs.take k = ys.take k ∧ wr = w.drewN q) (fun i _ => xs.length - (intOf i).toNat)
    case atStart => exact ⟨0, 0, Nat.zero_le _, rfl, rfl, rfl⟩
    case round =>
      obtain ⟨k, q, hk, rfl, ht, rfl⟩ := hrel
      have HT := Lib.hid ht
      clear ht
      by_cases hlt : k < xs.length
      · obtain ⟨b1, o1, rfl, _, hc⟩ := hcells (by omega)
        obtain ⟨b2, o2, rfl, _, hc'⟩ := hcells' (by omega)
        have hck := hc k hlt
        have hck' := hc' k (by omega)
        have hlt' : k < ys.length := by omega
        have hi0 : (0 : Int) ≤ (k : Int) := by omega
        have hi1 : (k : Int) < (xs.length : Int) := by omega
        have hi2 : (k : Int) < (ys.length : Int) := by omega
        clear hc hcells hc' hcells'
        by_cases he : xs[k] = ys[k]
        · have he1 : (xs[k] != ys[k]) = false := by simpa using he
          have HE := Lib.hid he
          clear he
          go_wp2
          go_quiet (fail)
          go_wp2
          go_roundw
          case rel => exact ⟨k + 1, _, by omega, by go_num, take_eq_succ hlt hlt' HT.out HE.out, rfl⟩
          case measure => simp [intOf]; omega
        · have he1 : (xs[k] != ys[k]) = true := by simpa using he
          have HE := Lib.hid (ne_of_get hlt hlt' he)
          clear he
          go_wp2
          go_quiet (fail)
          go_wp2
          go_ret
          exact ⟨ret_bool (by simp [HE.out]), q + nq, by simp⟩
      · go_wp2
        go_ret
        have e : xs = ys := by
          have := HT.out
          rwa [List.take_of_length_le (by omega), List.take_of_length_le (by omega)] at this
        exact ⟨ret_bool (by simp [e]), _, rfl⟩
  · have hl1 : ((xs.length : Int) != (ys.length : Int)) = true := by simp; omega
    have HE := Lib.hid (show ¬ xs = ys from fun e => hl (by rw [e]))
    clear hl
    go_enter Try.func41, Try.ntmps41
    go_wp2
    go_ret
    exact ⟨ret_bool (by simp [HE.out]), 0, rfl⟩


theorem Ints.upto {B : Nat} {w : World} {a : Option Addr} {n cap : Nat} {xs : List Int} (h : Ints B w (.slice a n cap) xs) {k : Nat} (hk : k ≤ xs.length) : Ints B w (.slice a k cap) (xs.take k) := by
  refine ⟨?_, fun x hx => h.2 x (List.mem_of_mem_take hx)⟩
  have h9 := h.1.take (k := k) (by simpa using hk)
  unfold ints at h9 ⊢
  rwa [← List.map_take] at h9

set_option maxHeartbeats 2000000 in
theorem FnShortestHunt_walk (v : Value) (bs : List Int) (w : World) (h : Bytes 0 w v bs) :
    Calls Try.prog 10 #[v] w fun e w' => e = .returned (.bool true) ∧ Below w.heap.size w w' := by
  obtain ⟨a0, cap0, rfl, hc1, hc2, hc3⟩ := id h.1
  rw [List.length_map] at h ⊢
  clear hc1 hc2 hc3
  by_cases hs : 1048576 < bs.length
  · go_enter Try.func10, Try.ntmps10
    go_wp2
    go_ret
    exact ⟨rfl, Below.refl _ _⟩
  · go_enter Try.func10, Try.ntmps10
    go_wp2_with fail
    refine (drawShortestHunt_any _ _ _ h).mono ?_
    rintro e w1 ⟨xss, a1, c1, rfl, hx1, _, _, hb1⟩
    clear h
    go_wp2_with fail
    refine (implShortestHunt_any _ _ _ hx1).mono ?_
    rintro e w2 ⟨l, ok, al, cl, rfl, hh, ho2, hb2⟩
    have hx2 := hx1.below hb2
    have hbb2 := hb1.trans (hb2.mono hb1.size)
    have hs2 := hunt_small hh
    have hl2 := ho2.toInts hs2.2
    clear hx1 hb1 hb2 ho2
    go_wp2_with fail
    refine (specShortestHunt_any _ _ _ hx2).mono ?_
    rintro e w3 ⟨l2, ok2, a3, c3, rfl, hh2, ho3, hb3⟩
    obtain ⟨rfl, rfl⟩ := HuntIs.unique hh hh2
    have hx3 := hx2.below hb3
    have hl3 := hl2.below hb3
    have hr3 := ho3.toInts hs2.2
    have hbb3 := hbb2.trans (hb3.mono hbb2.size)
    clear hx2 hl2 hbb2 ho3 hh2
    go_wp2_with fail
    refine (sameInts_any _ _ _ _ _ hl3 hr3).mono ?_
    rintro e w4 ⟨rfl, hq4⟩
    have hD4 : Drawn w3 w4 := hq4
    rw [decide_eq_true rfl]
    have hx4 := hx3.below hD4.below
    have hl4 := hl3.below hD4.below
    have hbb4 := hbb3.trans (hD4.below.mono hbb3.size)
    have hoo : (ok != ok) = false := by simp
    clear hx3 hl3 hr3 hbb3 hq4 hD4
    rcases hh with ⟨hbe, rfl, wd, hw, rfl⟩ | ⟨rfl, rfl, _⟩
    · obtain ⟨q1, q2, q3⟩ := hunt_law hbe hw
      have hl16 : wd.length ≤ 16 := hw.2.2.1
      have hww : (wrap64 ((wd.length : Int) - 1)).toNat = wd.length - 1 := by
        rw [IntWalk.wrap64_in _ ⟨by omega, by omega⟩]; omega
      have hlen : (toI wd).length = wd.length := by simp [toI]
      rw [hlen] at hl4 ⊢
      have hl5 := hl4.upto (k := wd.length - 1) (by omega)
      have hS1 := implSurelyFound_any _ _ _ _ _ hx4 hl4
      rw [q2] at hS1
      have hlc : wd.length ≤ cl := by obtain ⟨_, _, he, h9, _⟩ := hl4.opened; injection he with _ _ e3; omega
      have hp1 : (0 : Int) < (wd.length : Int) := by omega
      have hp2 : (1 : Int) ≤ (wd.length : Int) := by omega
      have hp3 : (wd.length : Int) ≤ (cl : Int) := by omega
      have HX4 := Lib.hid hx4
      have HL5 := Lib.hid hl5
      have HQ3 := Lib.hid q3
      clear hl4 hl5 hx4 q2 q3 hlen hw hs2
      go_wp2_with fail
      refine hS1.mono ?_
      rintro e w5 ⟨rfl, hb5⟩
      have hbb5 := hbb4.trans (hb5.mono hbb4.size)
      have hx5 := HX4.out.below hb5
      have hl6 := HL5.out.below hb5
      clear hS1 hb5 hbb4
      go_wp2_with fail
      refine (implSurelyFound_any _ _ _ _ _ hx5 hl6).mono ?_
      rintro e w6 ⟨rfl, hb6⟩
      rw [HQ3.out]
      have hbb6 := hbb5.trans (hb6.mono hbb5.size)
      clear hx5 hl6 hb6 hbb5
      go_wp2
      go_ret
      exact ⟨rfl, hbb6⟩
    · clear hx4 hl4 hs2
      go_wp2_with fail
      refine (alive_any _).mono ?_
      rintro e w5 ⟨rfl, rfl⟩
      go_wp2
      go_ret
      exact ⟨rfl, hbb4⟩

end Go.Proofs.Ytoddomhpdeoeeaa
