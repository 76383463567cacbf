/- The walk of FnExactMetOn. -/
import Derived.Test.YtoddomhpdeoeeaaMet
import Derived.Test.YtoddomhpdeoeeaaLeaf2
namespace Go.Proofs.Ytoddomhpdeoeeaa
open Go.RowKit
set_option linter.unusedVariables false

set_option maxHeartbeats 4000000 in
theorem FnExactMetOn_walk (v : Value) (xss : List (List Int)) (u : Value) (xs : List Int) (z : Value) (ys : List Int) (w : World) (h : Rows2 0 w v xss) (hu : Ints 0 w u xs) (hz : Ints 0 w z ys) :
    Calls Try.prog 3 #[v, u, z] w fun e w' => e = .returned (.bool true) ∧ Below w.heap.size w w' := by
  have hs1 := szSS_ge xss 1048576 (by omega)
  obtain ⟨au, cu, rfl, hu1, hu2⟩ := hu.shape
  obtain ⟨az, cz, rfl, hz1, hz2⟩ := hz.shape
  by_cases hlu : 1048576 < xs.length
  · go_enter Try.func3, Try.ntmps3
    go_wp2
    go_ret
    exact ⟨rfl, Below.refl _ _⟩
  by_cases hlz : 1048576 < ys.length
  · go_enter Try.func3, Try.ntmps3
    go_wp2
    go_ret
    exact ⟨rfl, Below.refl _ _⟩
  by_cases hs : szSS xss 1048576 < 0
  · go_enter Try.func3, Try.ntmps3
    go_wp2_with fail
    refine (szIntSS_any _ _ _ _ h (by omega) (by omega)).mono ?_
    rintro e w1 ⟨rfl, rfl⟩
    go_wp2
    go_ret
    exact ⟨rfl, Below.refl _ _⟩
  · have hbd := szSS_bound (by omega : 0 ≤ szSS xss 1048576) (by omega)
    have hl2 : ∀ xs ∈ xss, xs.length ≤ 1099511627776 := fun xs hx => by have := tot_mem hx; omega
    obtain ⟨vs0, hv0⟩ := id h
    have hin : ∀ xs ∈ xss, ∀ x ∈ xs, In64 x := fun xs hx => by
      obtain ⟨i, hi, rfl⟩ := List.getElem_of_mem hx
      exact (hv0.2.2 i (by have := hv0.2.1; omega) hi).2
    have hinX : ∀ y ∈ xs, In64 y := hu.2
    have hinY : ∀ y ∈ ys, In64 y := hz.2
    clear hv0
    go_enter Try.func3, Try.ntmps3
    go_wp2_with fail
    refine (szIntSS_any _ _ _ _ h (by omega) (by omega)).mono ?_
    rintro e w1 ⟨rfl, rfl⟩
    go_wp2_with fail
    refine (toIntSS_any _ _ _ h (by omega) hl2).mono ?_
    rintro e w2 ⟨a2, c2, rfl, ho2, hb2⟩
    have hc2 := hb2
    have p0 := ho2.rows hin
    clear ho2 hb2
    go_wp2_with fail
    refine (toIntS_any _ _ _ (hu.below hc2) (by omega)).mono ?_
    rintro e w3 ⟨a3, c3, rfl, ho3, hb3⟩
    have p0' := p0.below hb3
    clear p0
    have p0 := p0'
    clear p0'
    have hc3 := hc2.trans (hb3.mono hc2.size)
    have p1 := ho3.toInts hinX
    clear ho3 hb3 hc2
    go_wp2_with fail
    refine (toIntS_any _ _ _ (hz.below hc3) (by omega)).mono ?_
    rintro e w4 ⟨a4, c4, rfl, ho4, hb4⟩
    have p0' := p0.below hb4
    clear p0
    have p0 := p0'
    clear p0'
    have p1' := p1.below hb4
    clear p1
    have p1 := p1'
    clear p1'
    have hc4 := hc3.trans (hb4.mono hc3.size)
    have p2 := ho4.toInts hinY
    clear ho4 hb4 hc3
    go_wp2_with fail
    refine (specMetOn_any _ _ _ _ _ _ _ p0 p1 p2).mono ?_
    rintro e w5 ⟨rfl, hq5⟩
    have hD5 : Drawn w4 w5 := hq5
    have hb5 := hD5.below
    clear hq5 hD5
    have p0' := p0.below hb5
    clear p0
    have p0 := p0'
    clear p0'
    have p1' := p1.below hb5
    clear p1
    have p1 := p1'
    clear p1'
    have p2' := p2.below hb5
    clear p2
    have p2 := p2'
    clear p2'
    have hc5 := hc4.trans (hb5.mono hc4.size)
    clear hb5 hc4
    clear p0 p1 p2
    go_wp2_with fail
    refine (toIntSS_any _ _ _ (h.below hc5) (by omega) hl2).mono ?_
    rintro e w6 ⟨a6, c6, rfl, ho6, hb6⟩
    have hc6 := hc5.trans (hb6.mono hc5.size)
    have x0 := ho6.rows hin
    clear ho6 hb6 hc5
    go_wp2_with fail
    refine (toIntS_any _ _ _ (hu.below hc6) (by omega)).mono ?_
    rintro e w7 ⟨a7, c7, rfl, ho7, hb7⟩
    have x0' := x0.below hb7
    clear x0
    have x0 := x0'
    clear x0'
    have hc7 := hc6.trans (hb7.mono hc6.size)
    have x1 := ho7.toInts hinX
    clear ho7 hb7 hc6
    go_wp2_with fail
    refine (toIntS_any _ _ _ (hz.below hc7) (by omega)).mono ?_
    rintro e w8 ⟨a8, c8, rfl, ho8, hb8⟩
    have x0' := x0.below hb8
    clear x0
    have x0 := x0'
    clear x0'
    have x1' := x1.below hb8
    clear x1
    have x1 := x1'
    clear x1'
    have hc8 := hc7.trans (hb8.mono hc7.size)
    have x2 := ho8.toInts hinY
    clear ho8 hb8 hc7
    go_wp2_with fail
    refine (implMetOn_any _ _ _ _ _ _ _ x0 x1 x2).mono ?_
    rintro e w9 ⟨rfl, hb9⟩
    have x0' := x0.below hb9
    clear x0
    have x0 := x0'
    clear x0'
    have x1' := x1.below hb9
    clear x1
    have x1 := x1'
    clear x1'
    have x2' := x2.below hb9
    clear x2
    have x2 := x2'
    clear x2'
    have hc9 := hc8.trans (hb9.mono hc8.size)
    clear hb9 hc8
    have hself : (metR xss xs ys != metR xss xs ys) = false := by simp
    go_wp2_with fail
    refine (toIntSS_any _ _ _ (h.below hc9) (by omega) hl2).mono ?_
    rintro e w10 ⟨a10, c10, rfl, ho10, hb10⟩
    have x0' := x0.below hb10
    clear x0
    have x0 := x0'
    clear x0'
    have x1' := x1.below hb10
    clear x1
    have x1 := x1'
    clear x1'
    have x2' := x2.below hb10
    clear x2
    have x2 := x2'
    clear x2'
    have hc10 := hc9.trans (hb10.mono hc9.size)
    have y0 := ho10.rows hin
    clear ho10 hb10 hc9
    go_wp2_with fail
    refine (eqIntSS_any _ _ _ _ _ x0 y0).mono ?_
    rintro e w11 ⟨rfl, hq11⟩
    have hD11 : Drawn w10 w11 := hq11
    have hb11 := hD11.below
    clear hq11 hD11
    have x0' := x0.below hb11
    clear x0
    have x0 := x0'
    clear x0'
    have x1' := x1.below hb11
    clear x1
    have x1 := x1'
    clear x1'
    have x2' := x2.below hb11
    clear x2
    have x2 := x2'
    clear x2'
    have y0' := y0.below hb11
    clear y0
    have y0 := y0'
    clear y0'
    have hc11 := hc10.trans (hb11.mono hc10.size)
    clear hb11 hc10
    rw [decide_eq_true rfl]
    clear x0 y0
    go_wp2_with fail
    refine (toIntS_any _ _ _ (hu.below hc11) (by omega)).mono ?_
    rintro e w12 ⟨a12, c12, rfl, ho12, hb12⟩
    have x1' := x1.below hb12
    clear x1
    have x1 := x1'
    clear x1'
    have x2' := x2.below hb12
    clear x2
    have x2 := x2'
    clear x2'
    have hc12 := hc11.trans (hb12.mono hc11.size)
    have y1 := ho12.toInts hinX
    clear ho12 hb12 hc11
    go_wp2_with fail
    refine (eqIntS_any _ _ _ _ _ x1 y1).mono ?_
    rintro e w13 ⟨rfl, hq13⟩
    have hD13 : Drawn w12 w13 := hq13
    have hb13 := hD13.below
    clear hq13 hD13
    have x1' := x1.below hb13
    clear x1
    have x1 := x1'
    clear x1'
    have x2' := x2.below hb13
    clear x2
    have x2 := x2'
    clear x2'
    have y1' := y1.below hb13
    clear y1
    have y1 := y1'
    clear y1'
    have hc13 := hc12.trans (hb13.mono hc12.size)
    clear hb13 hc12
    rw [decide_eq_true rfl]
    clear x1 y1
    go_wp2_with fail
    refine (toIntS_any _ _ _ (hz.below hc13) (by omega)).mono ?_
    rintro e w14 ⟨a14, c14, rfl, ho14, hb14⟩
    have x2' := x2.below hb14
    clear x2
    have x2 := x2'
    clear x2'
    have hc14 := hc13.trans (hb14.mono hc13.size)
    have y2 := ho14.toInts hinY
    clear ho14 hb14 hc13
    go_wp2_with fail
    refine (eqIntS_any _ _ _ _ _ x2 y2).mono ?_
    rintro e w15 ⟨rfl, hq15⟩
    have hD15 : Drawn w14 w15 := hq15
    have hb15 := hD15.below
    clear hq15 hD15
    have x2' := x2.below hb15
    clear x2
    have x2 := x2'
    clear x2'
    have y2' := y2.below hb15
    clear y2
    have y2 := y2'
    clear y2'
    have hc15 := hc14.trans (hb15.mono hc14.size)
    clear hb15 hc14
    rw [decide_eq_true rfl]
    clear x2 y2
    go_wp2
    go_ret
    exact ⟨rfl, hc15⟩

end Go.Proofs.Ytoddomhpdeoeeaa
