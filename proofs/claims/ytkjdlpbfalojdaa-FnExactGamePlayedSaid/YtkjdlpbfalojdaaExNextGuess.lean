/- The walk of FnExactNextGuess. -/
import Derived.Test.YtkjdlpbfalojdaaExWorstLot
namespace Go.Proofs.Ytkjdlpbfalojdaa
open Go.RowKit Go.Shelf
set_option linter.unusedVariables false
set_option maxRecDepth 100000

theorem ownI_block {B : Nat} {w w' : World} {v : Value} {xs : List Int} (h : OwnI B w v xs) (hk : ∀ j, v.ownBlock = some j → w'.heap[j]? = w.heap[j]?) : OwnI B w' v xs := by
  refine ⟨h.1, ?_⟩
  rcases h.2 with h2 | ⟨g, cap, cur, rfl, hb, hg, r⟩
  · exact .inl h2
  · exact .inr ⟨g, cap, cur, rfl, hb, by rw [hk g rfl]; exact hg, r⟩
theorem ownI_lt {B : Nat} {w : World} {v : Value} {xs : List Int} (h : OwnI B w v xs) : ∀ j, v.ownBlock = some j → B ≤ j ∧ j < w.heap.size := fun j hj => World.ownsRow.lt h j hj
theorem totG_eq : ∀ gs : List Gs, totG gs = tot (gs.map Gs.code) + 2 * gs.length
  | [] => rfl
  | g :: gs => by
    have := totG_eq gs
    simp only [totG, List.map_cons, List.length_cons, tot, List.sum_cons] at this ⊢
    omega
theorem totG_bound {gs : List Gs} (hs : 0 ≤ szSS (gs.map Gs.code) 1048576) : (totG gs : Int) ≤ 4000000 := by
  have hb := szSS_bound hs (by omega)
  rw [List.length_map] at hb
  have := totG_eq gs
  omega
theorem next_small (p c : Int) (gs : List Gs) : (nextL (fitL p c gs)).length ≤ 3 ∧ ∀ y ∈ nextL (fitL p c gs), In64 y := by
  by_cases h : 0 < (fitL p c gs).length
  · have hc := fit_codes _ (nextL_mem h)
    exact ⟨by have h1 := hc.2.1; have h2 := hc.1.1; omega, code_in64 hc⟩
  · have e : fitL p c gs = [] := List.length_eq_zero_iff.1 (by omega)
    rw [e]
    exact ⟨by simp [nextL, bestK], by simp [nextL, bestK]⟩

set_option maxHeartbeats 4000000 in
theorem FnExactNextGuess_walk (p c : Int) (v : Value) (gs : List Gs) (w : World) (hp : In64 p) (hc : In64 c) (h : GL 0 w v gs) :
    Calls Try.prog 10 #[.int .i64 p, .int .i64 c, v] w fun e w' => e = .returned (.bool true) ∧ Below w.heap.size w w' := by
  obtain ⟨a, cap, rfl⟩ : ∃ a cap, v = .slice a gs.length cap := by obtain ⟨a, cap, _, hv, _⟩ := h; exact ⟨a, cap, hv⟩
  have hge := szSS_ge (gs.map Gs.code) 1048576 (by omega)
  have hS := szGuessS_any _ gs 1048576 _ h (by omega) (by omega)
  have HH := Lib.hid h
  have HSZ := Lib.hid (fun (hs : 0 ≤ szSS (gs.map Gs.code) 1048576) (W : World) (h : GL 0 W (.slice a gs.length cap) gs) => toGuessS_gl h hs)
  have HTB := Lib.hid (fun hs => totG_bound (gs := gs) hs)
  obtain ⟨r, hr⟩ : ∃ r, r = szSS (gs.map Gs.code) 1048576 := ⟨_, rfl⟩
  rw [← hr] at hS hge HSZ HTB
  have HNS := Lib.hid (fun W (h : GL 0 W (.slice a gs.length cap) gs) => h)
  have HS0 := Lib.hid (fun (B : Nat) (v : Value) (W : World) (h : GL B W v gs) => nextS_any p c v gs W h)
  have HI0 := Lib.hid (fun (B : Nat) (v : Value) (W : World) (h : GL B W v gs) => nextI_any p c v gs W h)
  have hsm := next_small p c gs
  unfold NextOut at HS0 HI0
  obtain ⟨l, hl⟩ : ∃ l, l = nextL (fitL p c gs) := ⟨_, rfl⟩
  obtain ⟨ok, hok⟩ : ∃ ok, ok = decide (0 < (fitL p c gs).length) := ⟨_, rfl⟩
  rw [← hl, ← hok] at HS0 HI0
  rw [← hl] at hsm
  clear hr h hp hc hl hok HNS
  have HIN := Lib.hid hsm.2
  have hlen := hsm.1
  clear hsm
  by_cases hs : r < 0
  · go_enter Try.func10, Try.ntmps10
    go_wp2_with fail
    refine hS.mono ?_
    rintro e w1 ⟨rfl, hb1⟩
    have HB1 := Lib.hid hb1
    clear hS hb1
    go_wp2
    go_ret
    exact ⟨rfl, HB1.out⟩
  · have HG := Lib.hid (HSZ.out (by omega))
    have htb := HTB.out (by omega)
    have HEK := Lib.hid (endK_tot gs 1)
    clear HSZ HTB
    go_enter Try.func10, Try.ntmps10
    go_wp2_with fail
    refine hS.mono ?_
    rintro e w1 ⟨rfl, hb1⟩
    have HB1 := Lib.hid hb1
    clear hS hb1
    go_wp2_with fail
    refine (HG.out _ (HH.out.below HB1.out)).mono ?_
    rintro e w2 ⟨a2, c2, rfl, _, hg2, hb2⟩
    have HB2 := Lib.hid (HB1.out.trans (hb2.mono HB1.out.size))
    have HG2 := Lib.hid hg2
    clear hg2 hb2
    go_wp2_with fail
    refine (HS0.out _ _ _ HG2.out).mono ?_
    rintro e w3 ⟨a3, c3, rfl, ho3, hb3⟩
    have HB3 := Lib.hid (HB2.out.trans (hb3.mono HB2.out.size))
    have HR3 := Lib.hid (ownI_lt ho3)
    have HO3 := Lib.hid ho3
    have hs23 := HB2.out.size
    clear HG2 ho3 hb3
    go_wp2_with fail
    refine (HG.out _ (HH.out.below HB3.out)).mono ?_
    rintro e w4 ⟨a4, c4, rfl, hx4, hg4, hb4⟩
    have HB4 := Lib.hid (HB3.out.trans (hb4.mono HB3.out.size))
    have HO4 := Lib.hid (HO3.out.below hb4)
    have HX4 := Lib.hid hx4
    have HG4 := Lib.hid hg4
    have hs34 := hb4.size
    have hs03 := HB3.out.size
    clear HO3 hx4 hg4 hb4
    go_wp2_with fail
    refine (HI0.out _ _ _ HG4.out).mono ?_
    rintro e w5 ⟨a5, c5, rfl, ho5, hb5⟩
    have HB5 := Lib.hid (HB4.out.trans (hb5.mono HB4.out.size))
    have HO5 := Lib.hid (HO4.out.below hb5)
    have HX5 := Lib.hid (HX4.out.below hb5)
    have HQ5 := Lib.hid ho5
    have HG5 := Lib.hid (HG4.out.below hb5)
    have HA5 := Lib.hid (show Above 0 w4 w5 from .of_below hb5)
    have HQ := Lib.hid (ownI_lt ho5)
    have hs45 := hb5.size
    clear HO4 HG4 ho5 hb5
    have hoo : (ok != ok) = false := by simp
    go_wp2_with fail
    refine (eqIntS_any _ _ l l _ (HQ5.out.toInts HIN.out) (HO5.out.toInts HIN.out)).mono ?_
    rintro e w6 ⟨rfl, hq6⟩
    have hD6 : Drawn w5 w6 := hq6
    rw [decide_eq_true rfl]
    have HB6 := Lib.hid (HB5.out.trans (hD6.below.mono HB5.out.size))
    have HO6 := Lib.hid (HO5.out.below hD6.below)
    have HX6 := Lib.hid (HX5.out.below hD6.below)
    have HQ6 := Lib.hid (HQ5.out.below hD6.below)
    have HG6 := Lib.hid (HG5.out.below hD6.below)
    have hs56 := hD6.below.size
    have HA6 := Lib.hid (show Above 0 w4 w6 from fun b h1 h2 => (hD6.below.block b (by omega)).trans (HA5.out b h1 h2))
    clear hq6 hD6 HO5 HX5 HQ5 HG5 HA5
    go_wp2_with fail
    refine (HG.out _ (HH.out.below HB6.out)).mono ?_
    rintro e w7 ⟨a7, c7, rfl, _, hg7, hb7⟩
    have HB7 := Lib.hid (HB6.out.trans (hb7.mono HB6.out.size))
    have HO7 := Lib.hid (HO6.out.below hb7)
    have HX7 := Lib.hid (HX6.out.below hb7)
    have HQ7 := Lib.hid (HQ6.out.below hb7)
    have HG7 := Lib.hid (HG6.out.below hb7)
    have HGG7 := Lib.hid hg7
    have hs67 := hb7.size
    have HA7 := Lib.hid (show Above 0 w4 w7 from fun b h1 h2 => (hb7.block b (by omega)).trans (HA6.out b h1 h2))
    clear hg7 hb7 HO6 HX6 HQ6 HG6 HA6
    go_wp2_with fail
    refine (eqGuessS_self _ _ gs _ HG7.out HGG7.out).mono ?_
    rintro e w8 ⟨rfl, hb8⟩
    have HB8 := Lib.hid (HB7.out.trans (hb8.mono HB7.out.size))
    have HO8 := Lib.hid (HO7.out.below hb8)
    have hX8 := HX7.out.below hb8
    have HQ8 := Lib.hid (HQ7.out.below hb8)
    have hs78 := hb8.size
    have hA8 : Above 0 w4 w8 := fun b h1 h2 => (hb8.block b (by omega)).trans (HA7.out b h1 h2)
    have hM := markGuessS_any (B := w3.heap.size) (C := w4.heap.size) _ gs 1 w8 hX8 (HX4.out.low (fun b h1 h2 => hA8 b (Nat.zero_le _) h2)) (by omega) (by omega) (by omega)
    clear hb8 HO7 HX7 HQ7 HG7 HGG7 HA7 hA8 hX8
    go_wp2_with fail
    refine hM.mono ?_
    rintro e w9 ⟨rfl, _, hb9, hfar⟩
    rw [HEK.out]
    have hs89 := hb9.size
    have HB9 := Lib.hid (HB8.out.trans (hb9.mono (by omega)))
    have HO9 := Lib.hid (ownI_block HO8.out (fun j hj => hb9.block j (HR3.out j hj).2))
    have HQ9 := Lib.hid (ownI_block HQ8.out (fun j hj => hfar j (HQ.out j hj).1 (by have := (HQ.out j hj).2; omega)))
    have hk0 : (0 : Int) ≤ 1 + (totG gs : Int) := by omega
    have hk1 : ¬ (1 + (totG gs : Int) < 0) := by omega
    clear hM hb9 hfar HO8 HQ8
    go_wp2_with fail
    refine (eqIntS_any _ _ l l _ (HQ9.out.toInts HIN.out) (HO9.out.toInts HIN.out)).mono ?_
    rintro e w10 ⟨rfl, hq10⟩
    have hD10 : Drawn w9 w10 := hq10
    rw [decide_eq_true rfl]
    have HB10 := Lib.hid (HB9.out.trans (hD10.below.mono HB9.out.size))
    have HO10 := Lib.hid (HO9.out.below hD10.below)
    have HQ10 := Lib.hid (HQ9.out.below hD10.below)
    have hs910 := hD10.below.size
    clear hq10 hD10 HO9 HQ9
    go_wp2_with fail
    refine (markIntS_any _ _ 1 _ HQ10.out (by omega) (by omega) (by omega)).mono ?_
    rintro e w11 ⟨rfl, hq11, hgr11⟩
    have HB11 := Lib.hid (HB10.out.grown hgr11 HB10.out.size (fun j hj => by have := (HQ.out j hj).1; omega))
    have HO11 := Lib.hid ((ownI_block HO10.out (fun j hj => hgr11.block j (ownI_lt HO10.out j hj).2 (fun e => by have := (HR3.out j hj).2; have := (HQ.out j e.symm).1; omega))).toInts HIN.out)
    have hI11 := hq11.toInts (markL_in64 (by omega) (by omega) (by omega))
    have HI11 := Lib.hid hI11
    have hH := heldIntS_any _ _ 1 w11 hI11 (by omega) (by omega) (by rw [markL_length]; omega)
    rw [heldL_mark] at hH
    clear hI11 HO10 HQ10 hq11 hgr11
    go_wp2_with fail
    refine hH.mono ?_
    rintro e w12 ⟨rfl, rfl⟩
    have hneq : ((1 : Int) + (l.length : Int) != 1 + (l.length : Int)) = false := by simp
    have hm0 : (0 : Int) ≤ 1 + (l.length : Int) := by omega
    have hm1 : ¬ (1 + (l.length : Int) < 0) := by omega
    clear hH
    go_wp2_with fail
    refine (HG.out _ (HH.out.below HB11.out)).mono ?_
    rintro e w13 ⟨a13, c13, rfl, _, hg13, hb13⟩
    have HB13 := Lib.hid (HB11.out.trans (hb13.mono HB11.out.size))
    have HO13 := Lib.hid (HO11.out.below hb13)
    have HI13 := Lib.hid (HI11.out.below hb13)
    have HG13 := Lib.hid hg13
    clear HO11 HI11 hb13 hg13
    go_wp2_with fail
    refine (HI0.out _ _ _ HG13.out).mono ?_
    rintro e w14 ⟨a14, c14, rfl, ho14, hb14⟩
    have HB14 := Lib.hid (HB13.out.trans (hb14.mono HB13.out.size))
    have HO14 := Lib.hid (HO13.out.below hb14)
    have HI14 := Lib.hid (HI13.out.below hb14)
    have HT14 := Lib.hid (ho14.toInts HIN.out)
    clear HO13 HI13 HG13 hb14 ho14
    go_wp2_with fail
    refine (eqIntS_any _ _ l l _ HT14.out HO14.out).mono ?_
    rintro e w15 ⟨rfl, hq15⟩
    have hD15 : Drawn w14 w15 := hq15
    rw [decide_eq_true rfl]
    have HB15 := Lib.hid (HB14.out.trans (hD15.below.mono HB14.out.size))
    have hI15 := HI14.out.below hD15.below
    have hH := heldIntS_any _ _ 1 w15 hI15 (by omega) (by omega) (by rw [markL_length]; omega)
    rw [heldL_mark] at hH
    clear hq15 hD15 hI15 HO14 HI14 HT14
    go_wp2_with fail
    refine hH.mono ?_
    rintro e w16 ⟨rfl, rfl⟩
    clear hH
    go_wp2
    go_ret
    exact ⟨rfl, HB15.out⟩

end Go.Proofs.Ytkjdlpbfalojdaa
