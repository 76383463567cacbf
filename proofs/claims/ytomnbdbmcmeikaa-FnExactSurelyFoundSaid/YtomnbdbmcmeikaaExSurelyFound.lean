/- The walk of FnExactSurelyFound. -/
import Derived.Test.YtomnbdbmcmeikaaSurely
import Derived.Test.YtomnbdbmcmeikaaLeaf2
namespace Go.Proofs.Ytomnbdbmcmeikaa
open Go.RowKit
set_option linter.unusedVariables false

set_option maxHeartbeats 2000000 in
theorem FnExactSurelyFound_walk (v : Value) (xss : List (List Int)) (u : Value) (ys : List Int) (w : World) (h : Rows2 0 w v xss) (hu : Ints 0 w u ys) :
    Calls Try.prog 5 #[v, u] w fun e w' => e = .returned (.bool true) ∧ Below w.heap.size w w' := by
  have hs1 := szSS_ge xss 1048576 (by omega)
  obtain ⟨au, cu, rfl, hu1, hu2⟩ := hu.shape
  by_cases hlu : 1048576 < ys.length
  · go_enter Try.func5, Try.ntmps5
    go_wp2
    go_ret
    exact ⟨rfl, Below.refl _ _⟩
  by_cases hs : szSS xss 1048576 < 0
  · go_enter Try.func5, Try.ntmps5
    go_wp2_with fail
    refine (szIntSS_any _ _ _ _ h (by omega) (by omega)).mono ?_
    rintro e w1 ⟨rfl, rfl⟩
    go_wp2
    go_ret
    exact ⟨rfl, Below.refl _ _⟩
  · have hbd := szSS_bound (by omega : 0 ≤ szSS xss 1048576) (by omega)
    have hl2 : ∀ xs ∈ xss, xs.length ≤ 1099511627776 := fun xs hx => by have := tot_mem hx; omega
    obtain ⟨vs0, hv0⟩ := id h
    have hin : ∀ xs ∈ xss, ∀ x ∈ xs, In64 x := fun xs hx => by
      obtain ⟨i, hi, rfl⟩ := List.getElem_of_mem hx
      exact (hv0.2.2 i (by have := hv0.2.1; omega) hi).2
    have hinY : ∀ y ∈ ys, In64 y := hu.2
    clear hv0
    go_enter Try.func5, Try.ntmps5
    go_wp2_with fail
    refine (szIntSS_any _ _ _ _ h (by omega) (by omega)).mono ?_
    rintro e w1 ⟨rfl, rfl⟩
    go_wp2_with fail
    refine (toIntSS_any _ _ _ h (by omega) hl2).mono ?_
    rintro e w2 ⟨a2, c2, rfl, ho2, hb2⟩
    go_wp2_with fail
    refine (toIntS_any _ _ _ (hu.below hb2) (by omega)).mono ?_
    rintro e w3 ⟨a3, c3, rfl, ho3, hb3⟩
    have hb3' := hb2.trans (hb3.mono hb2.size)
    go_wp2_with fail
    refine (specSurelyFound_any _ _ _ _ _ ((ho2.rows hin).below hb3) (ho3.toInts hinY)).mono ?_
    rintro e w4 ⟨rfl, hq4⟩
    have hD4 : Drawn w3 w4 := hq4
    have hb4' := hb3'.trans (hD4.below.mono hb3'.size)
    clear hq4 ho2 ho3 hb2 hb3 hb3' hD4
    go_wp2_with fail
    refine (toIntSS_any _ _ _ (h.below hb4') (by omega) hl2).mono ?_
    rintro e w5 ⟨a5, c5, rfl, ho5, hb5⟩
    have hb5' := hb4'.trans (hb5.mono hb4'.size)
    clear hb5 hb4'
    go_wp2_with fail
    refine (toIntS_any _ _ _ (hu.below hb5') (by omega)).mono ?_
    rintro e w6 ⟨a6, c6, rfl, ho6, hb6⟩
    have hb6' := hb5'.trans (hb6.mono hb5'.size)
    have hx6 := (ho5.rows hin).below hb6
    have hy6 := ho6.toInts hinY
    clear ho5 ho6 hb6 hb5'
    go_wp2_with fail
    refine (implSurelyFound_any _ _ _ _ _ hx6 hy6).mono ?_
    rintro e w7 ⟨rfl, hb7⟩
    have hb7' := hb6'.trans (hb7.mono hb6'.size)
    have hx7 := hx6.below hb7
    have hy7 := hy6.below hb7
    clear hx6 hy6 hb7 hb6'
    have hself : (surelyB xss ys != surelyB xss ys) = false := by simp
    go_wp2_with fail
    refine (toIntSS_any _ _ _ (h.below hb7') (by omega) hl2).mono ?_
    rintro e w8 ⟨a8, c8, rfl, ho8, hb8⟩
    have hb8' := hb7'.trans (hb8.mono hb7'.size)
    have hx8 := hx7.below hb8
    have hy8 := hy7.below hb8
    clear hx7 hy7 hb8 hb7'
    go_wp2_with fail
    refine (eqIntSS_any _ _ _ _ _ hx8 (ho8.rows hin)).mono ?_
    rintro e w9 ⟨rfl, hq9⟩
    have hD9 : Drawn w8 w9 := hq9
    have hb9' := hb8'.trans (hD9.below.mono hb8'.size)
    have hy9 := hy8.below hD9.below
    rw [decide_eq_true rfl]
    clear hq9 hD9 hx8 hy8 ho8 hb8'
    go_wp2_with fail
    refine (toIntS_any _ _ _ (hu.below hb9') (by omega)).mono ?_
    rintro e w10 ⟨a10, c10, rfl, ho10, hb10⟩
    have hb10' := hb9'.trans (hb10.mono hb9'.size)
    have hy10 := hy9.below hb10
    clear hy9 hb10 hb9'
    go_wp2_with fail
    refine (eqIntS_any _ _ _ _ _ hy10 (ho10.toInts hinY)).mono ?_
    rintro e w11 ⟨rfl, hq11⟩
    have hD11 : Drawn w10 w11 := hq11
    rw [decide_eq_true rfl]
    clear hq11
    go_wp2
    go_ret
    exact ⟨rfl, hb10'.trans (hD11.below.mono hb10'.size)⟩

end Go.Proofs.Ytomnbdbmcmeikaa
