/- The drawing of guesses. -/
import Derived.Test.YtkjdlpbfalojdaaDrawGs
namespace Go.Proofs.Ytkjdlpbfalojdaa
open Go.RowKit
set_option linter.unusedVariables false
set_option maxRecDepth 100000

theorem gs_done {w w2 wi : World} {K : Nat} {a : Option Addr} {cap : Nat} {bs : List Int} {p q : Int} {ao : Option Addr} {k co : Nat} {n x c : Int} (h : GsW w w2 K a cap bs q ao k co wi) (hz : w.heap.size ≤ w2.heap.size) (hk : k ≤ 4) (hq : q ≤ p + 100)
    (h1 : 1 ≤ x) (h2 : x ≤ 4) (h3 : 0 ≤ c) (h4 : c ≤ 4) (h5 : n = 0 → x ≤ 3 ∧ 1 ≤ c) : GsDrawn K a cap bs p n w (.returned (.tuple #[.int .i64 x, .int .i64 c, .slice ao k co])) wi := by
  obtain ⟨gs, rfl, ho, h64, h10, ⟨p', hR, hp⟩, hg, _, _⟩ := h
  exact ⟨x, c, gs, ao, co, rfl, ho.mono hz, h64, hk, h1, h2, h3, h4, h5, h10, ⟨p', hR, by omega⟩, hg⟩

set_option maxHeartbeats 1000000 in
theorem guessing_any (n : Int) (w : World) (K : Nat) (a : Option Addr) (cap : Nat) (bs : List Int) (p : Int) (h : Rd w K a cap bs p) (hp : p ≤ 1000000000) (hn0 : 0 ≤ n) (hn1 : n ≤ 100) :
    Calls Try.prog 72 #[.pointer (some ⟨K, 0, none⟩), .int .i64 n] w (GsDrawn K a cap bs p n w) := by
  have hKw := h.lt
  have hS := size_any w K a cap bs p h (by omega)
  clear h
  go_enter Try.func72, Try.ntmps72
  go_wp2_with fail
  refine hS.mono ?_
  rintro e w1 ⟨N, m, rfl, hN1, hN3, hm1, hm4, ⟨p1, hR1, hp1⟩, hg1⟩
  have hz1 := hg1.size
  have hC := code_any N m 0 m w1 K a cap bs p1 hR1 (by omega) (by omega) (by omega) (by omega) (by omega) (by omega) (by omega) (.inl rfl) (by omega)
  have HG1 := Lib.hid hg1
  clear hS hR1 hg1
  go_wp2_with fail
  refine hC.mono ?_
  rintro e w2 ⟨ys, a2, c2, rfl, hy2, hyp, _, _, ⟨p2, hR2, hp2⟩, hg2⟩
  have hyp := hyp rfl
  have hz2 := hg2.size
  have HCP := Lib.hid (show CodeP N m ys from ⟨⟨⟨by omega, by omega⟩, by omega, by omega⟩, hyp.1, fun y hy => by have := hyp.2 y hy; omega⟩)
  have HY := Lib.hid (hy2.mono hz1)
  have hW0 : GsW w w2 K a cap bs p2 (some ⟨w2.heap.size, 0, none⟩) 0 0 (w2.alloc (.cells #[] 69)) :=
    ⟨[], rfl, OwnG.lit w2, fun g hg => by simp at hg, fun g hg => by simp at hg, ⟨p2, hR2.below ((Below.refl _ _).alloc (Nat.le_refl _) _), by omega⟩, (grown_trans HG1.out hg2).andThen (World.grownBy_alloc w2 _ none) (fun _ e => by cases e), Above.of_below ((Below.refl _ _).alloc (Nat.le_refl _) _), by simp⟩
  have hz02 : w.heap.size ≤ w2.heap.size := by omega
  have hP := hW0.pick (n := 4) hz02 hKw (by omega) (by unfold In64; omega)
  clear hC hR2 hg2 hy2 hyp HG1 hW0
  go_wp2_with fail
  refine hP.mono ?_
  rintro e w3 ⟨kk, rfl, hk0, hk1, hW3⟩
  have hk1 := hk1 (by omega)
  have HW3 := Lib.hid hW3
  clear hP hW3
  go_wp2
  go_loopw [10, 11] (fun lv kv wi => ∃ (k : Nat) (ao : Option Addr) (co : Nat), k ≤ 3 ∧ (k : Int) ≤ kk ∧ kv = .int .i64 (kk - k) ∧ lv = .slice ao k co ∧ GsW w w2 K a cap bs (p + 20 + 20 * k) ao k co wi) (fun _ kv _ => (intOf kv).toNat)
  case atStart =>
    obtain ⟨gs, q1, q2, q3, q4, ⟨p', q5, q6⟩, q7, q8, q9⟩ := HW3.out
    exact ⟨0, _, 0, by omega, by omega, by simp, rfl, gs, q1, q2, q3, q4, ⟨p', q5, by omega⟩, q7, q8, q9⟩
  case round =>
    obtain ⟨k, ao, co, hk3, hkk, rfl, rfl, hW⟩ := hrel
    obtain ⟨wk, rfl⟩ : ∃ x, x = wr := ⟨_, rfl⟩
    clear HW3
    by_cases hlt : 0 < kk - (k : Int)
    · obtain ⟨gs, hl, ho, h64, h10, ⟨p', hR, hp'⟩, hg, hA, hzz⟩ := hW
      have hC := code_any N m 0 m wk K a cap bs p' hR (by omega) (by omega) (by omega) (by omega) (by omega) (by omega) (by omega) (.inl rfl) (by omega)
      have HL := Lib.hid hl
      have HO := Lib.hid ho
      have H64 := Lib.hid h64
      have H10 := Lib.hid h10
      have HG := Lib.hid hg
      have HA := Lib.hid hA
      clear hl ho h64 h10 hR hg hA
      go_wp2_with fail
      refine hC.mono ?_
      rintro e w4 ⟨zs, a4, c4, rfl, hu4, hzp, hzi, hz10, ⟨p4, hR4, hp4⟩, hg4⟩
      have hzp := hzp rfl
      have hz4 := hg4.size
      have HCZ := Lib.hid (show CodeP N m zs from ⟨⟨⟨by omega, by omega⟩, by omega, by omega⟩, hzp.1, fun y hy => by have := hzp.2 y hy; omega⟩)
      have hA4 : Above w.heap.size w2 w4 := above_step HA.out hzz (Above.of_grown hg4 hKw)
      have hAn := answerS_ok N m _ _ ys zs w4 ((HY.out.keep hA4).toInts (code_in64 HCP.out)) (hu4.toInts (code_in64 HCZ.out)) HCP.out HCZ.out
      have hbd := ans_bounds HCP.out HCZ.out
      have HU4 := Lib.hid hu4
      have HR4 := Lib.hid hR4
      have HG4 := Lib.hid hg4
      have HA4 := Lib.hid hA4
      have HZI := Lib.hid hzi
      have HZ10 := Lib.hid hz10
      clear hC hu4 hzp hR4 hg4 hA4 hzi hz10
      obtain ⟨r, hr⟩ : ∃ r, r = rightZ ys zs := ⟨_, rfl⟩
      obtain ⟨nr, hnr⟩ : ∃ nr, nr = nearZ ys zs := ⟨_, rfl⟩
      rw [← hr, ← hnr] at hAn hbd
      obtain ⟨hbd1, hbd2, hbd3, hbd4⟩ := hbd
      clear hr hnr
      go_wp2_with fail
      refine hAn.mono ?_
      rintro e w5 ⟨rfl, hq⟩
      have hD : Drawn w4 w5 := hq
      have hz5 := hD.below.size
      have hP := pick_any 20 w5 K a cap bs p4 (HR4.out.below hD.below) (by omega) (by unfold In64; omega)
      have HU5 := Lib.hid (HU4.out.below hD.below)
      have HG5 := Lib.hid (grown_trans HG4.out (grown_of_below hD.below))
      have HA5 := Lib.hid (above_step HA4.out (by omega) (.of_below hD.below))
      clear hAn hq hD
      go_wp2_with fail
      refine hP.mono ?_
      rintro e w6 ⟨z, rfl, hz0, hz1', ⟨p6, hR6, hp6⟩, hg6⟩
      have hz1' := hz1' (by omega)
      have hz6 := hg6.size
      have hyq : z.tdiv 19 = z / 19 := Int.tdiv_eq_ediv_of_nonneg hz0
      have HU6 := Lib.hid (HU5.out.keep (Above.of_grown hg6 (by omega)))
      have HG6 := Lib.hid (grown_trans HG5.out hg6)
      have HA6 := Lib.hid (above_step HA5.out (by omega) (Above.of_grown hg6 hKw))
      have HR6 := Lib.hid hR6
      clear hP hR6 hg6
      obtain ⟨T, hT⟩ : ∃ T, T = r + z / 19 := ⟨_, rfl⟩
      have HT := Lib.hid hT
      have HK := Lib.hid (show Above w2.heap.size wk w6 from Above.of_grown HG6.out (by omega))
      have HO6 := Lib.hid (HO.out.keep HK.out)
      have hbG : Below w6.heap.size w6 (w6.alloc (.cells #[.slice a4 zs.length c4, .int .i64 (r + z / 19), .int .i64 nr] 69)) := (Below.refl _ _).alloc (Nat.le_refl _) _
      have HOA := Lib.hid (HO6.out.below hbG)
      have HUA := Lib.hid ((HU6.out.below hbG).mono hzz)
      have HDI := Lib.hid (guess_oldA HO.out (above_step HK.out (by omega) (.of_below hbG)) (HU6.out.below hbG))
      have HCC := Lib.hid (row3_cells (heap_alloc_new w6 (.cells #[.slice a4 zs.length c4, .int .i64 (r + z / 19), .int .i64 nr] 69)))
      have HSZ := Lib.hid (show w2.heap.size ≤ (w6.alloc (.cells #[.slice a4 zs.length c4, .int .i64 (r + z / 19), .int .i64 nr] 69)).heap.size by rw [World.size_alloc]; omega)
      clear hbG hT
      go_wp2_with (at_builtin; refine wpList_push_g (w6.alloc (.cells #[.slice a4 zs.length c4, .int .i64 (r + z / 19), .int .i64 nr] 69)) rfl (.tmp 43) (.tmp 52) rfl w2.heap.size (.slice ao k co) gs rfl HOA.out w6.heap.size 1 (.slice a4 zs.length c4) ⟨zs, r + z / 19, nr⟩ rfl HCC.out HUA.out HDI.out (by have := HL.out; omega) HSZ.out ?_; intro a7 c7 w7 ho7 hg7; rw [HL.out] at ho7 ⊢; have HW7 := Lib.hid (GsW.push (q' := p + 20 + 20 * ((k + 1 : Nat) : Int)) hz02 hKw HL.out H64.out H10.out HO6.out HR6.out (by omega) (grown_trans HG.out HG6.out) HA6.out (by omega) HZI.out HZ10.out ho7 hg7); clear ho7 hg7)
      go_roundw
      case rel => exact ⟨k + 1, a7, c7, by omega, by omega, by go_num, rfl, HW7.out⟩
      case measure => simp [intOf]; omega
    · have hkz : (k : Int) = kk := by omega
      have hO := hW.odd (n := n) hz02 hKw (by omega) (by unfold In64; omega)
      clear hW
      go_wp2_with fail
      refine hO.mono ?_
      rintro e w5 ⟨b, rfl, hb0, hW5⟩
      have HB0 := Lib.hid hb0
      clear hO hb0
      cases b
      · have HF := Lib.hid (gs_done (p := p) (n := n) (x := (N : Int)) (c := (m : Int)) hW5 hz02 (by omega) (by omega) (by omega) (by omega) (by omega) (by omega) (fun _ => ⟨by omega, by omega⟩))
        clear hW5
        go_wp2
        go_ret3
        exact HF.out
      · have hnz : n ≠ 0 := fun e => by have := HB0.out e; cases this
        have hP := hW5.pick (n := 3) hz02 hKw (by omega) (by unfold In64; omega)
        clear hW5
        go_wp2_with fail
        refine hP.mono ?_
        rintro e w6 ⟨r, rfl, hr0, hr1, hW6⟩
        clear hP
        have HNZ := Lib.hid hnz
        clear hnz
        by_cases hr : r = 0
        · subst hr
          have HF := Lib.hid (gs_done (p := p) (n := n) (x := 4) (c := (m : Int)) hW6 hz02 (by omega) (by omega) (by omega) (by omega) (by omega) (by omega) (fun e => absurd e HNZ.out))
          clear hW6
          go_wp2
          go_ret3
          exact HF.out
        · by_cases hr' : r = 1
          · subst hr'
            have HF := Lib.hid (gs_done (p := p) (n := n) (x := (N : Int)) (c := 0) hW6 hz02 (by omega) (by omega) (by omega) (by omega) (by omega) (by omega) (fun e => absurd e HNZ.out))
            clear hW6
            go_wp2
            go_ret3
            exact HF.out
          · have hb1 : (r == 0) = false := by simpa using hr
            have hb2 : (r == 1) = false := by simpa using hr'
            obtain ⟨gs, hl, ho, h64, h10, ⟨p', hR, hp'⟩, hg, hA, hzz⟩ := hW6
            have hbG : Below w6.heap.size w6 (w6.alloc (.cells #[.slice none 0 0, .int .i64 (-1), .int .i64 0] 69)) := (Below.refl _ _).alloc (Nat.le_refl _) _
            have HL := Lib.hid hl
            have HO := Lib.hid ho
            have H64 := Lib.hid h64
            have H10 := Lib.hid h10
            have HG := Lib.hid hg
            have HA := Lib.hid hA
            have HR := Lib.hid hR
            have HOA := Lib.hid (ho.below hbG)
            have HUA := Lib.hid (OwnI.empty w2.heap.size (w6.alloc (.cells #[.slice none 0 0, .int .i64 (-1), .int .i64 0] 69)))
            have HCC := Lib.hid (row3_cells (heap_alloc_new w6 (.cells #[.slice none 0 0, .int .i64 (-1), .int .i64 0] 69)))
            have HSZ := Lib.hid (show w2.heap.size ≤ (w6.alloc (.cells #[.slice none 0 0, .int .i64 (-1), .int .i64 0] 69)).heap.size by rw [World.size_alloc]; omega)
            clear hl ho h64 h10 hR hg hA hr hr' hbG
            go_wp2_with (at_builtin; refine wpList_push_g (w6.alloc (.cells #[.slice none 0 0, .int .i64 (-1), .int .i64 0] 69)) rfl (.tmp 61) (.tmp 63) rfl w2.heap.size (.slice ao k co) gs rfl HOA.out w6.heap.size 1 (.slice none 0 0) ⟨[], -1, 0⟩ rfl HCC.out HUA.out (fun ts _ i _ => .inl rfl) (by have := HL.out; omega) HSZ.out ?_; intro a7 c7 w7 ho7 hg7; rw [HL.out] at ho7 ⊢; have HW7 := Lib.hid (GsW.push (q' := p + 100) hz02 hKw HL.out H64.out H10.out HO.out HR.out (by omega) HG.out HA.out hzz (by simp) (by simp) ho7 hg7); clear ho7 hg7)
            have HF := Lib.hid (gs_done (p := p) (n := n) (x := (N : Int)) (c := (m : Int)) HW7.out hz02 (by omega) (by omega) (by omega) (by omega) (by omega) (by omega) (fun e => absurd e HNZ.out))
            go_ret3
            exact HF.out

end Go.Proofs.Ytkjdlpbfalojdaa
