/- The walk of FnExactGamePlayed. -/
import Derived.Test.YtkjdlpbfalojdaaGameI
import Derived.Test.YtkjdlpbfalojdaaExNextGuess
namespace Go.Proofs.Ytkjdlpbfalojdaa
open Go.RowKit
set_option linter.unusedVariables false
set_option maxRecDepth 100000

theorem gameK_inv {p c : Int} {x : List Int} (hx : CodeP p c x) : ∀ (f : Nat) (out : List Gs), GameInv p c x out → out.length + f ≤ 9 → GameInv p c x (gameK p c x f out) ∧ (gameK p c x f out).length ≤ 9
  | 0, out, h, hl => ⟨h, by rw [gameK]; omega⟩
  | f + 1, out, h, hl => by
    have hs := h.step hx (by omega)
    rw [gameK]
    split
    · exact ⟨hs, by simp; omega⟩
    · exact gameK_inv hx f _ hs (by simp; omega)
theorem totG_small : ∀ gs : List Gs, (∀ g ∈ gs, g.code.length ≤ 3) → totG gs ≤ 5 * gs.length
  | [], _ => Nat.le_refl _
  | g :: gs, h => by
    have h1 := h g (List.mem_cons_self ..)
    have h2 := totG_small gs fun y hy => h y (List.mem_cons_of_mem _ hy)
    simp only [totG, List.length_cons]
    omega
theorem gameL_small (p c : Int) (x : List Int) : In64G (gameL p c x) ∧ totG (gameL p c x) ≤ 45 := by
  unfold gameL
  split
  · rename_i h
    have hx := codeOkB_iff.1 h
    obtain ⟨h1, h2⟩ := gameK_inv hx 9 [] (GameInv.start _ _ _) (by simp)
    refine ⟨game_in64 h1, ?_⟩
    have := totG_small (gameK p c x 9 []) (fun g hg => by
      have := h1.1 g hg
      unfold guessOkB at this
      rw [Bool.and_eq_true] at this
      have := codeOkB_iff.1 this.1
      have h3 := this.2.1
      have h4 := this.1.1
      omega)
    omega
  · exact ⟨fun g hg => by simp at hg, by simp [totG]⟩

set_option maxHeartbeats 4000000 in
theorem FnExactGamePlayed_walk (p c : Int) (u : Value) (x : List Int) (w : World) (hp : In64 p) (hc : In64 c) (hu : Ints 0 w u x) :
    Calls Try.prog 11 #[.int .i64 p, .int .i64 c, u] w fun e w' => e = .returned (.bool true) ∧ Below w.heap.size w w' := by
  obtain ⟨au, cu, rfl, _⟩ := hu.opened
  have H64 := Lib.hid hu.2
  have HU := Lib.hid hu
  clear hu hp hc
  by_cases hl : (1048576 : Int) < (x.length : Int)
  · go_enter Try.func11, Try.ntmps11
    go_wp2
    go_ret
    exact ⟨rfl, Below.refl _ _⟩
  · have HL := Lib.hid (show x.length ≤ 1099511627776 by omega)
    have hxl : x.length ≤ 1048576 := by omega
    have HS0 := Lib.hid (fun (B : Nat) (v : Value) (W : World) (h : Ints B W v x) => gameS_any p c v x W h)
    have HI0 := Lib.hid (fun (B : Nat) (v : Value) (W : World) (h : Ints B W v x) => gameI_any p c v x W h)
    have hsm := gameL_small p c x
    unfold PlayedG at HS0 HI0
    obtain ⟨gs, hgs⟩ : ∃ gs, gs = gameL p c x := ⟨_, rfl⟩
    rw [← hgs] at HS0 HI0 hsm
    have HG := Lib.hid hsm.1
    have htg := hsm.2
    have HEK := Lib.hid (endK_tot gs 1)
    clear hsm hgs
    go_enter Try.func11, Try.ntmps11
    go_wp2_with fail
    refine (toIntS_any _ _ _ HU.out HL.out).mono ?_
    rintro e w1 ⟨a1, c1, rfl, ho1, hb1⟩
    have HB1 := Lib.hid hb1
    have HU1 := Lib.hid (ho1.toInts H64.out)
    clear ho1 hb1
    go_wp2_with fail
    refine (HS0.out _ _ _ HU1.out).mono ?_
    rintro e w2 ⟨a2, c2, rfl, ho2, hb2⟩
    have HB2 := Lib.hid (HB1.out.trans (hb2.mono HB1.out.size))
    have HW := Lib.hid ho2
    clear ho2 hb2 HU1
    go_wp2_with fail
    refine (toIntS_any _ _ _ (HU.out.below HB2.out) HL.out).mono ?_
    rintro e w3 ⟨a3, c3, rfl, ho3, hb3⟩
    have HB3 := Lib.hid (HB2.out.trans (hb3.mono HB2.out.size))
    have HX3 := Lib.hid ho3
    have HK3 := Lib.hid (ownI_lt ho3)
    have HC3 := Lib.hid hb3
    have hs23 := hb3.size
    have hs02 := HB2.out.size
    clear ho3 hb3
    go_wp2_with fail
    refine (HI0.out _ _ _ (HX3.out.toInts H64.out)).mono ?_
    rintro e w4 ⟨a4, c4, rfl, ho4, hb4⟩
    have HB4 := Lib.hid (HB3.out.trans (hb4.mono HB3.out.size))
    have HX4 := Lib.hid (HX3.out.below hb4)
    have HC4 := Lib.hid (HC3.out.trans (hb4.mono hs23))
    have HQ4 := Lib.hid ho4
    have hs34 := hb4.size
    clear HX3 HC3 ho4 hb4
    go_wp2_with fail
    refine (eqGuessS_self _ _ gs _ (HQ4.out.toGL HG.out) ((HW.out.below HC4.out).toGL HG.out)).mono ?_
    rintro e w5 ⟨rfl, hb5⟩
    have HB5 := Lib.hid (HB4.out.trans (hb5.mono HB4.out.size))
    have HX5 := Lib.hid (HX4.out.below hb5)
    have HQ5 := Lib.hid (HQ4.out.below hb5)
    have HC5 := Lib.hid (HC4.out.trans (hb5.mono HC4.out.size))
    have hs45 := hb5.size
    clear HX4 HQ4 HC4 hb5
    go_wp2_with fail
    refine (toIntS_any _ _ _ (HU.out.below HB5.out) HL.out).mono ?_
    rintro e w6 ⟨a6, c6, rfl, ho6, hb6⟩
    have HB6 := Lib.hid (HB5.out.trans (hb6.mono HB5.out.size))
    have HX6 := Lib.hid (HX5.out.below hb6)
    have HQ6 := Lib.hid (HQ5.out.below hb6)
    have HC6 := Lib.hid (HC5.out.trans (hb6.mono HC5.out.size))
    have HY6 := Lib.hid (ho6.toInts H64.out)
    have hs56 := hb6.size
    clear HX5 HQ5 HC5 ho6 hb6
    go_wp2_with fail
    refine (eqIntS_any _ _ x x _ (HX6.out.toInts H64.out) HY6.out).mono ?_
    rintro e w7 ⟨rfl, hq⟩
    have hD : Drawn w6 w7 := hq
    rw [decide_eq_true rfl]
    have hb7 := hD.below
    have HB7 := Lib.hid (HB6.out.trans (hb7.mono HB6.out.size))
    have HX7 := Lib.hid (HX6.out.below hb7)
    have HQ7 := Lib.hid (HQ6.out.below hb7)
    have HC7 := Lib.hid (HC6.out.trans (hb7.mono HC6.out.size))
    have hs67 := hb7.size
    clear HX6 HQ6 HC6 HY6 hq hD hb7
    go_wp2_with fail
    refine (markIntS_any _ _ 1 _ HX7.out (by omega) (by omega) HL.out).mono ?_
    rintro e w8 ⟨rfl, _, hgr8⟩
    have hs78 := hgr8.size
    have HB8 := Lib.hid (HB7.out.grown hgr8 HB7.out.size (fun j hj => by have := (HK3.out j hj).1; omega))
    have HC8 := Lib.hid (HC7.out.grown hgr8 HC7.out.size (fun j hj => (HK3.out j hj).1))
    have HQ8 := Lib.hid (HQ7.out.keep (fun b h1 h2 => hgr8.block b h2 (fun e => by have := (HK3.out b e.symm).2; omega)))
    have hk1 : ¬ (1 + (x.length : Int) < 0) := by omega
    clear HX7 HQ7 HC7 hgr8
    go_wp2_with fail
    refine (eqGuessS_self _ _ gs _ (HQ8.out.toGL HG.out) ((HW.out.below HC8.out).toGL HG.out)).mono ?_
    rintro e w9 ⟨rfl, hb9⟩
    have HB9 := Lib.hid (HB8.out.trans (hb9.mono HB8.out.size))
    have HC9 := Lib.hid (HC8.out.trans (hb9.mono HC8.out.size))
    have HQ9 := Lib.hid (HQ8.out.below hb9)
    have hs89 := hb9.size
    have hM := markGuessS_any (B := w3.heap.size) (C := w9.heap.size) _ gs 1 w9 HQ9.out (HQ9.out.low (fun b h1 h2 => rfl)) (by omega) (by omega) (by omega)
    clear HQ8 HC8 hb9
    go_wp2_with fail
    refine hM.mono ?_
    rintro e w10 ⟨rfl, ho10, hb10, _⟩
    have HB10 := Lib.hid (HB9.out.trans (hb10.mono (by omega)))
    have HC10 := Lib.hid (HC9.out.trans (hb10.mono (by omega)))
    have HQ10 := Lib.hid (ho10.toGL (markGs_in64 gs 1 (by omega) (by omega)))
    have hH := heldGuessS_any _ gs 1 w10 HQ10.out (by omega) (by omega)
    rw [HEK.out] at hH ⊢
    have hk2 : ¬ (1 + (totG gs : Int) < 0) := by omega
    have hk3 : ((1 : Int) + (totG gs : Int) != 1 + (totG gs : Int)) = false := by simp
    clear HQ9 HC9 hM ho10 hb10
    go_wp2_with fail
    refine hH.mono ?_
    rintro e w11 ⟨rfl, rfl⟩
    clear hH
    go_wp2_with fail
    refine (toIntS_any _ _ _ (HU.out.below HB10.out) HL.out).mono ?_
    rintro e w12 ⟨a12, c12, rfl, ho12, hb12⟩
    have HB12 := Lib.hid (HB10.out.trans (hb12.mono HB10.out.size))
    have HC12 := Lib.hid (HC10.out.trans (hb12.mono HC10.out.size))
    have HQ12 := Lib.hid (HQ10.out.below hb12)
    have HU12 := Lib.hid (ho12.toInts H64.out)
    clear HC10 HQ10 ho12 hb12
    go_wp2_with fail
    refine (HI0.out _ _ _ HU12.out).mono ?_
    rintro e w13 ⟨a13, c13, rfl, ho13, hb13⟩
    have HB13 := Lib.hid (HB12.out.trans (hb13.mono HB12.out.size))
    have HC13 := Lib.hid (HC12.out.trans (hb13.mono HC12.out.size))
    have HQ13 := Lib.hid (HQ12.out.below hb13)
    have HT13 := Lib.hid (ho13.toGL HG.out)
    clear HC12 HQ12 HU12 ho13 hb13
    go_wp2_with fail
    refine (eqGuessS_self _ _ gs _ HT13.out ((HW.out.below HC13.out).toGL HG.out)).mono ?_
    rintro e w14 ⟨rfl, hb14⟩
    have HB14 := Lib.hid (HB13.out.trans (hb14.mono HB13.out.size))
    have hH := heldGuessS_any _ gs 1 w14 (HQ13.out.below hb14) (by omega) (by omega)
    rw [HEK.out] at hH
    clear hb14 HC13 HQ13 HT13
    go_wp2_with fail
    refine hH.mono ?_
    rintro e w15 ⟨rfl, rfl⟩
    clear hH
    go_wp2
    go_ret
    exact ⟨rfl, HB14.out⟩

end Go.Proofs.Ytkjdlpbfalojdaa
