/- The walk of FnExactWorstLot. -/
import Derived.Test.YtkjdlpbfalojdaaExDeskOk
import Derived.Test.YtkjdlpbfalojdaaNextI
namespace Go.Proofs.Ytkjdlpbfalojdaa
open Go.RowKit Go.Shelf
set_option linter.unusedVariables false
set_option maxRecDepth 100000

theorem toGuessS_gl {B : Nat} {v : Value} {gs : List Gs} {w : World} (h : GL B w v gs) (hs : 0 ≤ szSS (gs.map Gs.code) 1048576) :
    Calls Try.prog 33 #[v] w fun e w' => ∃ a cap, e = .returned (.slice a gs.length cap) ∧ OwnG w.heap.size w' (.slice a gs.length cap) gs ∧ GL w.heap.size w' (.slice a gs.length cap) gs ∧ Below w.heap.size w w' := by
  have hz := szG_bound hs (by omega) (by omega)
  refine (toGuessS_any v gs w h hz.1 hz.2).mono ?_
  rintro e w' ⟨a, cap, rfl, ho, hb⟩
  exact ⟨a, cap, rfl, ho, ho.toGL h.in64, hb⟩

set_option maxHeartbeats 2000000 in
theorem FnExactWorstLot_walk (p c : Int) (v : Value) (gs : List Gs) (u : Value) (ys : List Int) (w : World) (hp : In64 p) (hc : In64 c) (h : GL 0 w v gs) (hu : Ints 0 w u ys) :
    Calls Try.prog 7 #[.int .i64 p, .int .i64 c, v, u] w fun e w' => e = .returned (.bool true) ∧ Below w.heap.size w w' := by
  obtain ⟨a, cap, rfl⟩ : ∃ a cap, v = .slice a gs.length cap := by obtain ⟨a, cap, _, hv, _⟩ := h; exact ⟨a, cap, hv⟩
  obtain ⟨au, cu, rfl, _⟩ := hu.opened
  have hge := szSS_ge (gs.map Gs.code) 1048576 (by omega)
  have hS := szGuessS_any _ gs 1048576 _ h (by omega) (by omega)
  have H64 := Lib.hid hu.2
  have HH := Lib.hid h
  have HU := Lib.hid hu
  have HSZ := Lib.hid (fun (hs : 0 ≤ szSS (gs.map Gs.code) 1048576) (W : World) (h : GL 0 W (.slice a gs.length cap) gs) => toGuessS_gl h hs)
  obtain ⟨r, hr⟩ : ∃ r, r = szSS (gs.map Gs.code) 1048576 := ⟨_, rfl⟩
  rw [← hr] at hS hge HSZ
  clear hr h hu hp hc
  by_cases hl : (1048576 : Int) < (ys.length : Int)
  · go_enter Try.func7, Try.ntmps7
    go_wp2
    go_ret
    exact ⟨rfl, Below.refl _ _⟩
  · by_cases hs : r < 0
    · go_enter Try.func7, Try.ntmps7
      go_wp2_with fail
      refine hS.mono ?_
      rintro e w1 ⟨rfl, hb1⟩
      have HB1 := Lib.hid hb1
      clear hS hb1
      go_wp2
      go_ret
      exact ⟨rfl, HB1.out⟩
    · have HG := Lib.hid (HSZ.out (by omega))
      have HL := Lib.hid (show ys.length ≤ 1099511627776 by omega)
      clear HSZ
      go_enter Try.func7, Try.ntmps7
      go_wp2_with fail
      refine hS.mono ?_
      rintro e w1 ⟨rfl, hb1⟩
      have HB1 := Lib.hid hb1
      clear hS hb1
      go_wp2_with fail
      refine (HG.out _ (HH.out.below HB1.out)).mono ?_
      rintro e w2 ⟨a2, c2, rfl, _, hg2, hb2⟩
      have HB2 := Lib.hid (HB1.out.trans (hb2.mono HB1.out.size))
      have HG2 := Lib.hid hg2
      clear hg2 hb2
      go_wp2_with fail
      refine (toIntS_any _ _ _ (HU.out.below HB2.out) HL.out).mono ?_
      rintro e w3 ⟨a3, c3, rfl, ho3, hb3⟩
      have HB3 := Lib.hid (HB2.out.trans (hb3.mono HB2.out.size))
      have HG3 := Lib.hid (HG2.out.below hb3)
      have HU3 := Lib.hid (ho3.toInts H64.out)
      clear HG2 ho3 hb3
      go_wp2_with fail
      refine (worstLotS_any p c _ _ gs ys _ HG3.out HU3.out).mono ?_
      rintro e w4 ⟨rfl, hb4⟩
      have HB4 := Lib.hid (HB3.out.trans (hb4.mono HB3.out.size))
      clear HG3 HU3 hb4
      obtain ⟨z, hz⟩ : ∃ z, z = worstLotZ p c gs ys := ⟨_, rfl⟩
      rw [← hz]
      have HZ := Lib.hid hz
      clear hz
      go_wp2_with fail
      refine (HG.out _ (HH.out.below HB4.out)).mono ?_
      rintro e w5 ⟨a5, c5, rfl, _, hg5, hb5⟩
      have HB5 := Lib.hid (HB4.out.trans (hb5.mono HB4.out.size))
      have HG5 := Lib.hid hg5
      clear hg5 hb5
      go_wp2_with fail
      refine (toIntS_any _ _ _ (HU.out.below HB5.out) HL.out).mono ?_
      rintro e w6 ⟨a6, c6, rfl, ho6, hb6⟩
      have HB6 := Lib.hid (HB5.out.trans (hb6.mono HB5.out.size))
      have HG6 := Lib.hid (HG5.out.below hb6)
      have HU6 := Lib.hid (ho6.toInts H64.out)
      clear HG5 ho6 hb6
      go_wp2_with fail
      refine (worstLotI_any p c _ _ gs ys _ HG6.out HU6.out).mono ?_
      rintro e w7 ⟨rfl, hb7⟩
      have HB7 := Lib.hid (HB6.out.trans (hb7.mono HB6.out.size))
      have HG7 := Lib.hid (HG6.out.below hb7)
      have HU7 := Lib.hid (HU6.out.below hb7)
      clear HG6 HU6 hb7
      rw [← HZ.out]
      have hzz : (z != z) = false := by simp
      go_wp2_with fail
      refine (HG.out _ (HH.out.below HB7.out)).mono ?_
      rintro e w8 ⟨a8, c8, rfl, _, hg8, hb8⟩
      have HB8 := Lib.hid (HB7.out.trans (hb8.mono HB7.out.size))
      have HG8 := Lib.hid hg8
      have HG7' := Lib.hid (HG7.out.below hb8)
      have HU8 := Lib.hid (HU7.out.below hb8)
      clear hg8 hb8 HG7 HU7
      go_wp2_with fail
      refine (eqGuessS_self _ _ gs _ HG7'.out HG8.out).mono ?_
      rintro e w9 ⟨rfl, hb9⟩
      have HB9 := Lib.hid (HB8.out.trans (hb9.mono HB8.out.size))
      have HU9 := Lib.hid (HU8.out.below hb9)
      clear hb9 HG7' HG8 HU8
      go_wp2_with fail
      refine (toIntS_any _ _ _ (HU.out.below HB9.out) HL.out).mono ?_
      rintro e w10 ⟨a10, c10, rfl, ho10, hb10⟩
      have HB10 := Lib.hid (HB9.out.trans (hb10.mono HB9.out.size))
      have HU10 := Lib.hid (ho10.toInts H64.out)
      have HU9' := Lib.hid (HU9.out.below hb10)
      clear ho10 hb10 HU9
      go_wp2_with fail
      refine (eqIntS_any _ _ ys ys _ HU9'.out HU10.out).mono ?_
      rintro e w11 ⟨rfl, hq⟩
      have hD : Drawn w10 w11 := hq
      have HB11 := Lib.hid (HB10.out.trans (hD.below.mono HB10.out.size))
      rw [decide_eq_true rfl]
      clear hq hD
      go_wp2
      go_ret
      exact ⟨rfl, HB11.out⟩

end Go.Proofs.Ytkjdlpbfalojdaa
