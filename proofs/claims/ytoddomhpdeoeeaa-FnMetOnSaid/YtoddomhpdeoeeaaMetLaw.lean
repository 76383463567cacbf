/- The walk of FnMetOn. -/
import Derived.Test.YtoddomhpdeoeeaaDrawMet
namespace Go.Proofs.Ytoddomhpdeoeeaa
open Go.RowKit
set_option linter.unusedVariables false

theorem metR_neg {xss : List (List Int)} {xs ys : List Int} (h : metR xss xs ys < 0) : metR xss xs ys = -1 := by
  unfold metR at h ⊢
  split at h
  · have := (@metFrom_range xs ys (min xs.length ys.length) 0).1; exfalso; omega
  · rename_i hd; rw [if_neg hd]

set_option maxHeartbeats 2000000 in
theorem FnMetOn_walk (v : Value) (bs : List Int) (w : World) (h : Bytes 0 w v bs) :
    Calls Try.prog 8 #[v] w fun e w' => e = .returned (.bool true) ∧ Below w.heap.size w w' := by
  obtain ⟨a0, cap0, rfl, hc1, hc2, hc3⟩ := id h.1
  rw [List.length_map] at h ⊢
  clear hc1 hc2 hc3
  by_cases hs : 1048576 < bs.length
  · go_enter Try.func8, Try.ntmps8
    go_wp2
    go_ret
    exact ⟨rfl, Below.refl _ _⟩
  · go_enter Try.func8, Try.ntmps8
    go_wp2_with fail
    refine (drawMetOn_any _ _ _ h).mono ?_
    rintro e w1 ⟨xss, a1, c1, xs, a2, c2, ys, a3, c3, rfl, hx1, _, hu1, _, hz1, _, hb1⟩
    clear h
    go_wp2_with fail
    refine (implMetOn_any _ _ _ _ _ _ _ hx1 hu1 hz1).mono ?_
    rintro e w2 ⟨rfl, hb2⟩
    have hx2 := hx1.below hb2
    have hu2 := hu1.below hb2
    have hz2 := hz1.below hb2
    have hbb2 := hb1.trans (hb2.mono hb1.size)
    clear hx1 hu1 hz1 hb1 hb2
    go_wp2_with fail
    refine (specMetOn_any _ _ _ _ _ _ _ hx2 hu2 hz2).mono ?_
    rintro e w3 ⟨rfl, hq3⟩
    have hD3 : Drawn w2 w3 := hq3
    have hx3 := hx2.below hD3.below
    have hu3 := hu2.below hD3.below
    have hbb3 := hbb2.trans (hD3.below.mono hbb2.size)
    clear hq3 hx2 hu2 hz2 hbb2 hD3
    by_cases hn : metR xss xs ys < 0
    · have he := metR_neg hn
      have hself : ((-1 : Int) != -1) = false := rfl
      rw [he]
      clear hn he hx3 hu3
      go_wp2_with fail
      refine (alive_any _).mono ?_
      rintro e w7 ⟨rfl, rfl⟩
      go_wp2
      go_ret
      exact ⟨rfl, hbb3⟩
    · obtain ⟨h1, h2, h3⟩ := met_surely (show 0 ≤ metR xss xs ys by omega)
      obtain ⟨N, hN⟩ : ∃ N, N = metR xss xs ys := ⟨_, rfl⟩
      rw [← hN] at h1 h2 h3 hn ⊢
      have hself : (N != N) = false := by simp
      have hS := implSurelyFound_any (.slice a1 xss.length c1) (.slice a2 xs.length c2) xss xs w3 hx3 hu3
      obtain ⟨sb, hsb⟩ : ∃ sb, sb = surelyB xss xs := ⟨_, rfl⟩
      rw [← hsb] at hS h3
      have H3 := Lib.hid h3
      clear hN hx3 hu3 hsb h3
      cases sb
      · go_wp2_with fail
        refine hS.mono ?_
        rintro e w5 ⟨rfl, hb5⟩
        have HB := Lib.hid (hbb3.trans (hb5.mono hbb3.size))
        clear hS hb5 hbb3
        go_wp2
        go_ret
        exact ⟨rfl, HB.out⟩
      · have hor := H3.out rfl
        by_cases hlt : (ys.length : Int) < (xs.length : Int)
        · clear hor
          go_wp2_with fail
          refine hS.mono ?_
          rintro e w5 ⟨rfl, hb5⟩
          have HB := Lib.hid (hbb3.trans (hb5.mono hbb3.size))
          clear hS hb5 hbb3
          go_wp2
          go_ret
          exact ⟨rfl, HB.out⟩
        · have hpos : 0 < N := by omega
          clear hor
          go_wp2_with fail
          refine hS.mono ?_
          rintro e w5 ⟨rfl, hb5⟩
          have HB := Lib.hid (hbb3.trans (hb5.mono hbb3.size))
          clear hS hb5 hbb3
          go_wp2
          go_ret
          exact ⟨rfl, HB.out⟩

end Go.Proofs.Ytoddomhpdeoeeaa
