/- The drawn table and lot. -/
import Derived.Test.YtpeogghiboaceaaTabs
namespace Go.Proofs.Ytpeogghiboaceaa
open Go.RowKit
set_option linter.unusedVariables false

/-- What a drawing of a table and a lot leaves. -/
def LotDrawn (K : Nat) (a : Option Addr) (cap : Nat) (bs : List Int) (p : Int) (w : World) (e : Ending) (w' : World) : Prop :=
  ∃ xss a' cap' lot, e = .returned (.tuple #[.slice a' xss.length cap', .int .i64 lot]) ∧ 0 ≤ lot ∧ lot ≤ 511 ∧ Rows2 w.heap.size w' (.slice a' xss.length cap') xss ∧ Drew K a cap bs p 110 w w'

theorem pow_min {n m : Nat} (h : m ≤ 8) : 1 ≤ 2 ^ m ∧ 2 ^ m ≤ 256 := by
  have h1 : 2 ^ m ≤ 2 ^ 8 := Nat.pow_le_pow_right (by omega) h
  have h2 : 0 < 2 ^ m := Nat.pow_pos (by omega)
  omega

set_option maxHeartbeats 1000000 in
theorem lot_any (w : World) (K : Nat) (a : Option Addr) (cap : Nat) (bs : List Int) (p : Int) (h : Rd w K a cap bs p) (hp : p ≤ 10000000000) :
    Calls Try.prog 66 #[.pointer (some ⟨K, 0, none⟩)] w (LotDrawn K a cap bs p w) := by
  have hKw := h.lt
  go_enter Try.func66, Try.ntmps66
  go_wp2_with fail
  refine (table_any 14 _ _ _ _ _ _ h (by omega) (by unfold In64; omega)).mono ?_
  rintro e w1 ⟨xss, a1, c1, rfl, hx1, ⟨p1, hR1, hp1⟩, hg1⟩
  have hz1 := hg1.size
  clear h
  obtain ⟨m, hm8, hmin⟩ : ∃ m : Nat, m ≤ 8 ∧ min (xss.length : Int) 8 = (m : Int) := ⟨min xss.length 8, by omega, by omega⟩
  have hmcase : ((xss.length : Int) ≤ 8 ∧ m = xss.length) ∨ (8 < (xss.length : Int) ∧ m = 8) := by omega
  obtain ⟨q1, q2⟩ := pow_min (n := 0) hm8
  have hsh : wrap64 ((2 : Int) ^ m) = ((2 ^ m : Nat) : Int) := shl_cast (by omega)
  obtain ⟨M, hM⟩ : ∃ M : Nat, M = 2 ^ m := ⟨_, rfl⟩
  rw [← hM] at hsh q1 q2
  clear hmin hM
  rcases hmcase with ⟨h8, rfl⟩ | ⟨h8, rfl⟩
  all_goals
    have HX := Lib.hid hx1
    have HG := Lib.hid hg1
    clear hx1 hg1
    go_wp2_with fail
    try rw [hsh]
    refine (pick_any 2 _ K a cap bs p1 hR1 (by omega) (by unfold In64; omega)).mono ?_
    rintro e w2 ⟨r, rfl, hr0, hr1, ⟨p2, hR2, hp2⟩, hg2⟩
    have hr1 := hr1 (by omega)
    have hM : 1 ≤ (M : Int) ∧ (M : Int) ≤ 256 := by omega
    have hx2 := HX.out.keep (Above.of_grown hg2 (by omega))
    have hg12 := grown_trans HG.out hg2
    have hz2 := hg12.size
    clear hR1 hg2 HX HG
    by_cases hr : r = 0
    · subst hr
      have HX := Lib.hid hx2
      have HG := Lib.hid hg12
      clear hx2 hg12
      go_wp2_with fail
      refine (pick_any 256 _ K a cap bs p2 hR2 (by omega) (by unfold In64; omega)).mono ?_
      rintro e w3 ⟨x, rfl, hx0, hx1, ⟨p3, hR3, hp3⟩, hg3⟩
      have hx1 := hx1 (by omega)
      have hx3 := HX.out.keep (Above.of_grown hg3 (by omega))
      have hg13 := grown_trans HG.out hg3
      have hz3 := hg13.size
      clear hR2 hg3 HX HG
      have HX := Lib.hid hx3
      have HG := Lib.hid hg13
      clear hx3 hg13
      have hxm : 0 ≤ x % (M : Int) ∧ x % (M : Int) < (M : Int) := ⟨Int.emod_nonneg _ (by omega), Int.emod_lt_of_pos _ (by omega)⟩
      go_wp2_with fail
      refine (pick_any 20 _ K a cap bs p3 hR3 (by omega) (by unfold In64; omega)).mono ?_
      rintro e w4 ⟨y, rfl, hy0, hy1, ⟨p4, hR4, hp4⟩, hg4⟩
      have hy1 := hy1 (by omega)
      have hx4 := HX.out.keep (Above.of_grown hg4 (by omega))
      have hg14 := grown_trans HG.out hg4
      have hyq : y.tdiv 19 = y / 19 := Int.tdiv_eq_ediv_of_nonneg hy0
      clear hR3 hg4 HX HG
      have HX := Lib.hid hx4
      have HG := Lib.hid hg14
      have HR := Lib.hid hR4
      clear hx4 hg14 hR4
      go_wp2
      go_ret2
      exact ⟨xss, a1, c1, _, rfl, by omega, by omega, HX.out, ⟨_, HR.out, by omega⟩, HG.out⟩
    · have HX := Lib.hid hx2
      have HG := Lib.hid hg12
      clear hx2 hg12
      go_wp2_with fail
      refine (pick_any 20 _ K a cap bs p2 hR2 (by omega) (by unfold In64; omega)).mono ?_
      rintro e w4 ⟨y, rfl, hy0, hy1, ⟨p4, hR4, hp4⟩, hg4⟩
      have hy1 := hy1 (by omega)
      have hx4 := HX.out.keep (Above.of_grown hg4 (by omega))
      have hg14 := grown_trans HG.out hg4
      have hyq : y.tdiv 19 = y / 19 := Int.tdiv_eq_ediv_of_nonneg hy0
      clear hR2 hg4 HX HG
      have HX := Lib.hid hx4
      have HG := Lib.hid hg14
      have HR := Lib.hid hR4
      clear hx4 hg14 hR4
      go_wp2
      go_ret2
      exact ⟨xss, a1, c1, _, rfl, by omega, by omega, HX.out, ⟨_, HR.out, by omega⟩, HG.out⟩

theorem results_tmp4 {fn : Func} {t u v x : Tmp} (h : fn.results = #[.tmp t, .tmp u, .tmp v, .tmp x]) (tmps : Array Value) (P : Program) (w : World) :
    (results fn tmps).run P w = .ok (.tuple #[tmps.getD t undef, tmps.getD u undef, tmps.getD v undef, tmps.getD x undef]) w := by
  simp [results, h]

/-- What DrawLotAfter gives. -/
def LotAfterOut (w : World) (e : Ending) (w' : World) : Prop :=
  ∃ xss a cap lot q x, e = .returned (.tuple #[.slice a xss.length cap, .int .i64 lot, .int .i64 q, .int .i64 x]) ∧ 0 ≤ lot ∧ lot ≤ 511 ∧ 0 ≤ q ∧ q < 5 ∧ 0 ≤ x ∧ x < 4 ∧ Rows2 w.heap.size w' (.slice a xss.length cap) xss ∧ Below w.heap.size w w'

end Go.Proofs.Ytpeogghiboaceaa
