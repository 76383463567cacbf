/- The walk of FnExactAfterDay. -/
import Derived.Test.YtomnbdbmcmeikaaCat2
namespace Go.Proofs.Ytomnbdbmcmeikaa
open Go.RowKit
set_option linter.unusedVariables false

set_option maxHeartbeats 1000000 in
theorem FnExactAfterDay_walk (v : Value) (xss : List (List Int)) (s o : Int) (w : World) (h : Rows2 0 w v xss) (_ : In64 s) (_ : In64 o) :
    Calls Try.prog 3 #[v, .int .i64 s, .int .i64 o] w fun e w' => e = .returned (.bool true) ∧ Below w.heap.size w w' := by
  have hs1 := szSS_ge xss 1048576 (by omega)
  by_cases hs : szSS xss 1048576 < 0
  · go_enter Try.func3, Try.ntmps3
    go_wp2_with fail
    refine (szIntSS_any _ _ _ _ h (by omega) (by omega)).mono ?_
    rintro e w1 ⟨rfl, rfl⟩
    go_wp2
    go_ret
    exact ⟨rfl, Below.refl _ _⟩
  · have hbd := szSS_bound (by omega : 0 ≤ szSS xss 1048576) (by omega)
    have hl2 : ∀ xs ∈ xss, xs.length ≤ 1099511627776 := fun xs hx => by have := tot_mem hx; omega
    obtain ⟨vs0, hv0⟩ := id h
    have hin : ∀ xs ∈ xss, ∀ x ∈ xs, In64 x := fun xs hx => by
      obtain ⟨i, hi, rfl⟩ := List.getElem_of_mem hx
      exact (hv0.2.2 i (by have := hv0.2.1; omega) hi).2
    clear hv0
    go_enter Try.func3, Try.ntmps3
    go_wp2_with fail
    refine (szIntSS_any _ _ _ _ h (by omega) (by omega)).mono ?_
    rintro e w1 ⟨rfl, rfl⟩
    go_wp2_with fail
    refine (toIntSS_any _ _ _ h (by omega) hl2).mono ?_
    rintro e w2 ⟨a2, c2, rfl, ho2, hb2⟩
    go_wp2_with fail
    refine (specAfterDay_any _ _ _ _ _ (ho2.rows hin)).mono ?_
    rintro e w3 ⟨rfl, hq3⟩
    have hD3 : Drawn w2 w3 := hq3
    have hb3 := hb2.trans (hD3.below.mono hb2.size)
    clear hq3
    go_wp2_with fail
    refine (toIntSS_any _ _ _ (h.below hb3) (by omega) hl2).mono ?_
    rintro e w4 ⟨a4, c4, rfl, ho4, hb4⟩
    have hb4' := hb3.trans (hb4.mono hb3.size)
    go_wp2_with fail
    refine (implAfterDay_any _ _ _ _ _ (ho4.rows hin)).mono ?_
    rintro e w5 ⟨rfl, hb5⟩
    have hb5' := hb4'.trans (hb5.mono hb4'.size)
    have hself : (afterR xss s o != afterR xss s o) = false := by simp
    go_wp2_with fail
    refine (toIntSS_any _ _ _ (h.below hb5') (by omega) hl2).mono ?_
    rintro e w6 ⟨a6, c6, rfl, ho6, hb6⟩
    go_wp2_with fail
    refine (eqIntSS_any _ _ _ _ _ ((ho4.rows hin).below (hb5.trans (hb6.mono hb5.size))) (ho6.rows hin)).mono ?_
    rintro e w7 ⟨rfl, hq7⟩
    have hD7 : Drawn w6 w7 := hq7
    rw [decide_eq_true rfl]
    clear hq7
    go_wp2
    go_ret
    refine ⟨rfl, ?_⟩
    have hb6' := hb5'.trans (hb6.mono hb5'.size)
    exact hb6'.trans (hD7.below.mono hb6'.size)

end Go.Proofs.Ytomnbdbmcmeikaa
