/- The walk of FnExactNeededAt. -/
import Derived.Test.YtpeogghiboaceaaNeedSpec
import Derived.Test.YtpeogghiboaceaaLeaf2
namespace Go.Proofs.Ytpeogghiboaceaa
open Go.RowKit
set_option linter.unusedVariables false
set_option maxRecDepth 100000

set_option maxHeartbeats 2000000 in
theorem FnExactNeededAt_walk (v : Value) (xss : List (List Int)) (lot : Int) (w : World) (h : Rows2 0 w v xss) (_ : In64 lot) :
    Calls Try.prog 4 #[v, .int .i64 lot] w fun e w' => e = .returned (.bool true) ∧ Below w.heap.size w w' := by
  have hs1 := szSS_ge xss 1048576 (by omega)
  by_cases hs : szSS xss 1048576 < 0
  · go_enter Try.func4, Try.ntmps4
    go_wp2_with fail
    refine (szIntSS_any _ _ _ _ h (by omega) (by omega)).mono ?_
    rintro e w1 ⟨rfl, rfl⟩
    go_wp2
    go_ret
    exact ⟨rfl, Below.refl _ _⟩
  · have hbd := szSS_bound (by omega : 0 ≤ szSS xss 1048576) (by omega)
    have hl2 : ∀ xs ∈ xss, xs.length ≤ 1099511627776 := fun xs hx => by have := tot_mem hx; omega
    obtain ⟨vs0, hv0⟩ := id h
    have hin : ∀ xs ∈ xss, ∀ x ∈ xs, In64 x := fun xs hx => by
      obtain ⟨i, hi, rfl⟩ := List.getElem_of_mem hx
      exact (hv0.2.2 i (by have := hv0.2.1; omega) hi).2
    clear hv0
    go_enter Try.func4, Try.ntmps4
    go_wp2_with fail
    refine (szIntSS_any _ _ _ _ h (by omega) (by omega)).mono ?_
    rintro e w1 ⟨rfl, rfl⟩
    go_wp2_with fail
    refine (toIntSS_any _ _ _ h (by omega) hl2).mono ?_
    rintro e w2 ⟨a2, c2, rfl, ho2, hb2⟩
    go_wp2_with fail
    refine (specNeededAt_any _ _ _ _ (ho2.rows hin)).mono ?_
    rintro e w3 ⟨rfl, hb3⟩
    have hbb3 := hb2.trans (hb3.mono hb2.size)
    clear hb2 hb3 ho2
    go_wp2_with fail
    refine (toIntSS_any _ _ _ (h.below hbb3) (by omega) hl2).mono ?_
    rintro e w4 ⟨a4, c4, rfl, ho4, hb4⟩
    have hbb4 := hbb3.trans (hb4.mono hbb3.size)
    clear hb4 hbb3
    go_wp2_with fail
    refine (implNeededAt_any _ _ _ _ (ho4.rows hin)).mono ?_
    rintro e w5 ⟨rfl, hb5⟩
    have hbb5 := hbb4.trans (hb5.mono hbb4.size)
    have hx5 := (ho4.rows hin).below hb5
    clear ho4 hb5 hbb4
    have hself : (needAtR xss lot != needAtR xss lot) = false := by simp
    go_wp2_with fail
    refine (toIntSS_any _ _ _ (h.below hbb5) (by omega) hl2).mono ?_
    rintro e w6 ⟨a6, c6, rfl, ho6, hb6⟩
    have hbb6 := hbb5.trans (hb6.mono hbb5.size)
    have hx6 := hx5.below hb6
    clear hx5 hbb5 hb6
    go_wp2_with fail
    refine (eqIntSS_any _ _ _ _ _ hx6 (ho6.rows hin)).mono ?_
    rintro e w7 ⟨rfl, hq7⟩
    have hD7 : Drawn w6 w7 := hq7
    rw [decide_eq_true rfl]
    clear hq7
    go_wp2
    go_ret
    exact ⟨rfl, hbb6.trans (hD7.below.mono hbb6.size)⟩

end Go.Proofs.Ytpeogghiboaceaa
