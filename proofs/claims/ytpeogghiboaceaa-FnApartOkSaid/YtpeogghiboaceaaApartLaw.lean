/- The walk of FnApartOk. -/
import Derived.Test.YtpeogghiboaceaaDrawNeed
import Derived.Test.YtpeogghiboaceaaPlaySpec
import Derived.Test.YtpeogghiboaceaaAlive
namespace Go.Proofs.Ytpeogghiboaceaa
open Go.RowKit
set_option linter.unusedVariables false
set_option maxRecDepth 100000

set_option maxHeartbeats 1000000 in
theorem FnApartOk_walk (v : Value) (bs : List Int) (w : World) (h : Bytes 0 w v bs) :
    Calls Try.prog 6 #[v] w fun e w' => e = .returned (.bool true) ∧ Below w.heap.size w w' := by
  obtain ⟨a0, cap0, rfl, hc1, hc2, hc3⟩ := id h.1
  rw [List.length_map] at h ⊢
  clear hc1 hc2 hc3
  by_cases hs : 1048576 < bs.length
  · go_enter Try.func6, Try.ntmps6
    go_wp2
    go_ret
    exact ⟨rfl, Below.refl _ _⟩
  · go_enter Try.func6, Try.ntmps6
    go_wp2_with fail
    refine (drawApartOk_any _ _ _ h).mono ?_
    rintro e w1 ⟨xss, a1, c1, rfl, hx1, hb1⟩
    clear h
    go_wp2_with fail
    refine (implApartOk_any _ _ _ hx1).mono ?_
    rintro e w2 ⟨rfl, hb2⟩
    have hx2 := hx1.below hb2
    have hbb2 := hb1.trans (hb2.mono hb1.size)
    clear hx1 hb1 hb2
    go_wp2_with fail
    refine (specApartOk_any _ _ _ hx2).mono ?_
    rintro e w3 ⟨rfl, hq3⟩
    have hD3 : Drawn w2 w3 := hq3
    have hx3 := hx2.below hD3.below
    have hbb3 := hbb2.trans (hD3.below.mono hbb2.size)
    clear hq3 hx2 hbb2 hD3
    have hself : (apartB xss != apartB xss) = false := by simp
    go_wp2_with fail
    refine (specTableOk_any _ _ _ hx3).mono ?_
    rintro e w4 ⟨rfl, hq4⟩
    have hD4 : Drawn w3 w4 := hq4
    have hx4 := hx3.below hD4.below
    have hbb4 := hbb3.trans (hD4.below.mono hbb3.size)
    clear hq4 hx3 hbb3 hD4 hself
    cases ht : tableB xss
    · have ha : apartB xss = false := by unfold apartB; rw [ht]; rfl
      rw [ha]
      clear ht ha hx4
      go_wp2_with fail
      refine (alive_any _).mono ?_
      rintro e w7 ⟨rfl, rfl⟩
      go_wp2
      go_ret
      exact ⟨rfl, hbb4⟩
    · have hn := tableB_len ht
      have hf := full_cast xss (by omega)
      have hn7 : (xss.length : Int) ≤ 7 := by omega
      have hcap : (xss.length : Int) ≤ 9223372036854775807 := by omega
      have hNd := implNeededAt_any _ xss (fullN xss : Nat) w4 hx4
      rw [needAt_yes (by rw [ht, full_ok]; rfl), ] at hNd
      have HA := Lib.hid (apart_need ht)
      obtain ⟨r, hr⟩ : ∃ r, r = need xss (fullN xss) := ⟨_, rfl⟩
      rw [← hr] at hNd HA
      have HB4 := Lib.hid hbb4
      clear ht hx4 hbb4 hr
      go_wp2_with fail
      refine hNd.mono ?_
      rintro e w5 ⟨rfl, hb5⟩
      have HB5 := Lib.hid (HB4.out.trans (hb5.mono HB4.out.size))
      have hab := HA.out
      clear hb5 hNd hf
      rw [hab]
      have hself : (decide (0 ≤ r) == decide (0 ≤ r)) = true := by simp
      clear hab
      go_wp2
      go_ret
      exact ⟨rfl, HB5.out⟩

end Go.Proofs.Ytpeogghiboaceaa
