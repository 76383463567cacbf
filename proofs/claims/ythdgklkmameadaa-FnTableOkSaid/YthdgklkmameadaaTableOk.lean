/- The walk of FnTableOk. -/
import Derived.Test.YthdgklkmameadaaTabs
namespace Go.Proofs.Ythdgklkmameadaa
open Go.RowKit
set_option linter.unusedVariables false

set_option maxHeartbeats 1000000 in
theorem FnTableOk_walk (v : Value) (bs : List Int) (w : World) (h : Bytes 0 w v bs) :
    Calls Try.prog 6 #[v] w fun e w' => e = .returned (.bool true) ∧ Below w.heap.size w w' := by
  obtain ⟨a0, cap0, rfl, hc1, hc2, hc3⟩ := id h.1
  rw [List.length_map] at h ⊢
  clear hc1 hc2 hc3
  by_cases hs : 1048576 < bs.length
  · go_enter Try.func6, Try.ntmps6
    go_wp2
    go_ret
    exact ⟨rfl, Below.refl _ _⟩
  · go_enter Try.func6, Try.ntmps6
    go_wp2_with fail
    refine (drawTableOk_any _ _ _ h).mono ?_
    rintro e w1 ⟨xss, a1, c1, rfl, hx1, hb1⟩
    have hlen : xss.length ≤ c1 ∧ c1 ≤ 9223372036854775807 := by
      obtain ⟨vs, ⟨a', cap', he, h4, h5, _⟩, h3, _⟩ := hx1
      injection he with _ _ e3
      subst e3
      exact ⟨by omega, by have := h5; unfold maxLen at this; omega⟩
    clear h
    go_wp2_with fail
    refine (implTableOk_any _ _ _ hx1).mono ?_
    rintro e w2 ⟨rfl, hb2⟩
    have hx2 := hx1.below hb2
    have hbb2 := hb1.trans (hb2.mono hb1.size)
    clear hx1 hb1 hb2
    go_wp2_with fail
    refine (specTableOk_any _ _ _ hx2).mono ?_
    rintro e w3 ⟨rfl, hq3⟩
    have hD3 : Drawn w2 w3 := hq3
    have hx3 := hx2.below hD3.below
    have hbb3 := hbb2.trans (hD3.below.mono hbb2.size)
    clear hq3 hx2 hbb2 hD3
    have hself : (tableB xss != tableB xss) = false := by simp
    by_cases hA : tableB xss = true ∧ 2 ≤ xss.length
    · obtain ⟨ht, h2⟩ := hA
      have hpre := tableB_take ht (k := xss.length - 1) (by omega) (by omega)
      have hxp := hx3.upto (k := xss.length - 1) (by omega)
      have HP := Lib.hid hpre
      have hL7 := (tableB_len ht).2
      have hnot : (!tableB xss) = false := by simp [ht]
      clear hpre ht
      go_wp2_with fail
      refine (implTableOk_any _ _ _ hxp).mono ?_
      rintro e w4 ⟨rfl, hb4⟩
      rw [HP.out]
      have hbb4 := hbb3.trans (hb4.mono hbb3.size)
      clear hb4 hxp hx3 hbb3
      go_wp2_with fail
      refine (implTableOk_any _ _ _ (rows_one_empty w4 _ rfl)).mono ?_
      rintro e w5 ⟨rfl, hb5⟩
      have hbb5 := hbb4.trans ((((Below.refl _ _).alloc (Nat.le_refl _) _).alloc (by simp) _ |>.trans (hb5.mono (by simp; omega))).mono hbb4.size)
      clear hb5 hbb4
      rw [show tableB [[]] = true from rfl]
      go_wp2_with fail
      refine (implTableOk_any _ _ _ (Rows2.nil 0 w5)).mono ?_
      rintro e w6 ⟨rfl, hb6⟩
      have hbb6 := hbb5.trans (hb6.mono hbb5.size)
      clear hb6 hbb5
      rw [show tableB [] = false from rfl]
      go_wp2_with fail
      refine (alive_any _).mono ?_
      rintro e w7 ⟨rfl, rfl⟩
      go_wp2
      go_ret
      exact ⟨rfl, hbb6⟩
    · have hfact : (!tableB xss) = true ∨ ((!tableB xss) = false ∧ xss.length < 2) := by
        by_cases ht : tableB xss = true
        · exact .inr ⟨by simp [ht], Nat.lt_of_not_le fun h => hA ⟨ht, h⟩⟩
        · exact .inl (by simp at ht; simp [ht])
      clear hx3
      rcases hfact with hn | ⟨hn, hl2⟩
      all_goals
        go_wp2_with fail
        refine (implTableOk_any _ _ _ (rows_one_empty w3 _ rfl)).mono ?_
        rintro e w5 ⟨rfl, hb5⟩
        have hbb5 := hbb3.trans ((((Below.refl _ _).alloc (Nat.le_refl _) _).alloc (by simp) _ |>.trans (hb5.mono (by simp; omega))).mono hbb3.size)
        clear hb5 hbb3
        rw [show tableB [[]] = true from rfl]
        go_wp2_with fail
        refine (implTableOk_any _ _ _ (Rows2.nil 0 w5)).mono ?_
        rintro e w6 ⟨rfl, hb6⟩
        have hbb6 := hbb5.trans (hb6.mono hbb5.size)
        clear hb6 hbb5
        rw [show tableB [] = false from rfl]
        go_wp2_with fail
        refine (alive_any _).mono ?_
        rintro e w7 ⟨rfl, rfl⟩
        go_wp2
        go_ret
        exact ⟨rfl, hbb6⟩

end Go.Proofs.Ythdgklkmameadaa
