/- The walk of FnExactStillAt. -/
import Derived.Test.YtpeogghiboaceaaShip11
import Derived.Test.YtpeogghiboaceaaExList
import Derived.Test.YtpeogghiboaceaaLeaf2
namespace Go.Proofs.Ytpeogghiboaceaa
open Go.RowKit
set_option linter.unusedVariables false
set_option maxRecDepth 100000

theorem stillR_le (rows cols : Int) (xss : List (List Int)) (long : Int) : (stillR rows cols xss long).length ≤ 72 := by
  unfold stillR
  split
  · have := List.length_filter_le (fun p => decide (hitK xss p long.toNat = 0)) (placesR rows cols long)
    have := placesR_le rows cols long
    omega
  · simp
theorem OwnP.block {B : Nat} {w w' : World} {v : Value} {ps : List Pl} (h : OwnP B w v ps) (hk : ∀ j, v.ownBlock = some j → w'.heap[j]? = w.heap[j]?) : OwnP B w' v ps := by
  refine ⟨h.1, ?_⟩
  rcases h.2 with h2 | ⟨g, cap, cur, hv, hb, hg, r⟩
  · exact .inl h2
  · exact .inr ⟨g, cap, cur, hv, hb, by rw [hk g (by rw [hv]; rfl)]; exact hg, r⟩

set_option maxHeartbeats 4000000 in
theorem FnExactStillAt_walk (rows cols : Int) (v : Value) (xss : List (List Int)) (long : Int) (w : World) (_ : In64 rows) (_ : In64 cols) (h : Rows2 0 w v xss) (_ : In64 long) :
    Calls Try.prog 13 #[.int .i64 rows, .int .i64 cols, v, .int .i64 long] w fun e w' => e = .returned (.bool true) ∧ Below w.heap.size w w' := by
  have hs1 := szSS_ge xss 1048576 (by omega)
  by_cases hs : szSS xss 1048576 < 0
  · go_enter Try.func13, Try.ntmps13
    go_wp2_with fail
    refine (szIntSS_any _ _ _ _ h (by omega) (by omega)).mono ?_
    rintro e w1 ⟨rfl, rfl⟩
    go_wp2
    go_ret
    exact ⟨rfl, Below.refl _ _⟩
  · have hbd := szSS_bound (by omega : 0 ≤ szSS xss 1048576) (by omega)
    have hl2 : ∀ xs ∈ xss, xs.length ≤ 1099511627776 := fun xs hx => by have := tot_mem hx; omega
    obtain ⟨vs0, hv0⟩ := id h
    have hin : ∀ xs ∈ xss, ∀ x ∈ xs, In64 x := fun xs hx => by
      obtain ⟨i, hi, rfl⟩ := List.getElem_of_mem hx
      exact (hv0.2.2 i (by have := hv0.2.1; omega) hi).2
    clear hv0
    go_enter Try.func13, Try.ntmps13
    go_wp2_with fail
    refine (szIntSS_any _ _ _ _ h (by omega) (by omega)).mono ?_
    rintro e w1 ⟨rfl, rfl⟩
    go_wp2_with fail
    refine (toIntSS_any _ _ _ h (by omega) hl2).mono ?_
    rintro e w2 ⟨a2, c2, rfl, ho2, hb2⟩
    go_wp2_with fail
    refine (specStillAt_any _ _ _ _ _ _ (ho2.rows hin)).mono ?_
    rintro e w3 ⟨a3, c3, rfl, ho3, hb3⟩
    have hn72 : (stillR rows cols xss long).length ≤ 72 := stillR_le rows cols xss long
    obtain ⟨l, hl⟩ : ∃ l, l = stillR rows cols xss long := ⟨_, rfl⟩
    rw [← hl] at ho3 hn72 ⊢
    have HL := Lib.hid hl
    clear hl
    have hbb3 := hb2.trans (hb3.mono hb2.size)
    have HR3 := Lib.hid (ho3.lt)
    clear hb2 ho2 hb3
    go_wp2_with fail
    refine (toIntSS_any _ _ _ (h.below hbb3) (by omega) hl2).mono ?_
    rintro e w4 ⟨a4, c4, rfl, ho4, hb4⟩
    have hbb4 := hbb3.trans (hb4.mono hbb3.size)
    have hr4 := ho3.below hb4
    clear ho3
    have HX4 := Lib.hid ho4
    go_wp2_with fail
    refine (implStillAt_any _ _ _ _ _ _ (ho4.rows hin)).mono ?_
    rintro e w5 ⟨a5, c5, rfl, ho5, hb5⟩
    rw [← HL.out] at ho5 ⊢
    have hbb5 := hbb4.trans (hb5.mono hbb4.size)
    have hr5 := hr4.below hb5
    have hx5 := (ho4.rows hin).below hb5
    have hA5 : Above 0 w4 w5 := Above.of_below hb5
    have HG5 := Lib.hid (ho5.lt)
    have hs34 := hb4.size
    have hs45 := hb5.size
    clear hr4 hb4 hb5 hbb4
    go_wp2_with fail
    refine (eqPlaceS_any _ _ _ _ _ ho5 hr5).mono ?_
    rintro e w6 ⟨rfl, hD6⟩
    rw [decide_eq_true rfl]
    have hbb6 := hbb5.trans (hD6.mono hbb5.size)
    have hx6 := hx5.below hD6
    have hr6 := hr5.below hD6
    have hg6 := ho5.below hD6
    have hA6 : Above 0 w4 w6 := fun b h1 h2 => (hD6.block b (by omega)).trans (hA5 b h1 h2)
    have hs56 := hD6.size
    clear hD6 hx5 hr5 ho5 hA5
    go_wp2_with fail
    refine (toIntSS_any _ _ _ (h.below hbb6) (by omega) hl2).mono ?_
    rintro e w7 ⟨a7, c7, rfl, ho7, hb7⟩
    have hbb7 := hbb6.trans (hb7.mono hbb6.size)
    have hs67 := hb7.size
    have hA7 : Above 0 w4 w7 := fun b h1 h2 => (hb7.block b (by omega)).trans (hA6 b h1 h2)
    have hr7 := hr6.below hb7
    have hg7 := hg6.below hb7
    have hx7 := hx6.below hb7
    clear hb7 hr6 hg6 hx6 hA6 hbb6
    go_wp2_with fail
    refine (eqIntSS_any _ _ _ _ _ hx7 (ho7.rows hin)).mono ?_
    rintro e w8 ⟨rfl, hq8⟩
    have hD8 : Drawn w7 w8 := hq8
    rw [decide_eq_true rfl]
    have hbb8 := hbb7.trans (hD8.below.mono hbb7.size)
    have hs78 := hD8.below.size
    have hA8 : Above 0 w4 w8 := fun b h1 h2 => (hD8.below.block b (by omega)).trans (hA7 b h1 h2)
    have hr8 := hr7.below hD8.below
    have hg8 := hg7.below hD8.below
    have hM := markIntSS_far _ xss 1 w4 w8 HX4.out (fun b hb1 hb2 => hA8 b (Nat.zero_le _) hb2) (by omega) (by omega) (by omega)
    clear hq8 hD8 hA7 hr7 hg7 hx7 ho7 hbb7
    go_wp2_with fail
    refine hM.mono ?_
    rintro e w9 ⟨⟨rfl, _, hb9⟩, hfar⟩
    have hs89 := hb9.size
    have hbb9 : Below w.heap.size w w9 := hbb8.trans (hb9.mono (by have := hbb3.size; omega))
    have hr9 := hr8.block (fun j hj => hb9.block j (HR3.out j hj).2)
    have hg9 := hg8.block (fun j hj => hfar j (HG5.out j hj).1 (by have := (HG5.out j hj).2; omega))
    have hk0 : (0 : Int) ≤ 1 + (tot xss : Int) := by omega
    have hk1 : 1 + (tot xss : Int) ≤ 1099511627776 := by omega
    clear hM hb9 hfar hr8 hg8 hA8 hbb8
    go_wp2_with fail
    refine (eqPlaceS_any _ _ _ _ _ hg9 hr9).mono ?_
    rintro e w10 ⟨rfl, hD10⟩
    rw [decide_eq_true rfl]
    have hbb10 := hbb9.trans (hD10.mono hbb9.size)
    have hs910 := hD10.size
    have hr10 := hr9.below hD10
    have hg10 := hg9.below hD10
    clear hD10 hr9 hg9 hbb9
    go_wp2_with fail
    refine (markPlaceS_any _ _ _ hg10 (by omega)).mono ?_
    rintro e w11 ⟨rfl, hg11, hgr11⟩
    obtain ⟨m, hm⟩ : ∃ m, m = 3 * (l.length : Int) + 1 := ⟨_, rfl⟩
    rw [← hm]
    have HM := Lib.hid hm
    have hm0 : (0 : Int) ≤ m := by omega
    have hm1 : m ≤ 1000 := by omega
    have hbb11 : Below w.heap.size w w11 := hbb10.grown hgr11 hbb10.size (fun j hj => by have := (HG5.out j hj).1; have := hbb3.size; omega)
    have hr11 := hr10.block (fun j hj => hgr11.block j (hr10.lt j hj).2 (fun e => by have := (HR3.out j hj).2; have := (HG5.out j e.symm).1; omega))
    have HR11 := Lib.hid hr11
    have hI11' : OwnP w4.heap.size w11 (.slice a5 l.length c5) (markP l.length) := hg11
    have hH := heldPlaceS_any _ _ w11 hI11' (by omega)
    rw [← hm] at hH
    clear hm hr10 hg10 hgr11 hr11 hbb10 hg11
    go_wp2_with fail
    refine hH.mono ?_
    rintro e w12 ⟨rfl, rfl⟩
    have hneq : (m != m) = false := by simp
    clear hH
    go_wp2_with fail
    refine (toIntSS_any _ _ _ (h.below hbb11) (by omega) hl2).mono ?_
    rintro e w13 ⟨a13, c13, rfl, ho13, hb13⟩
    have hbb13 := hbb11.trans (hb13.mono hbb11.size)
    have hr13 := HR11.out.below hb13
    have hg13 := hI11'.below hb13
    clear HR11 hI11' hb13 hbb11
    go_wp2_with fail
    refine (implStillAt_any _ _ _ _ _ _ (ho13.rows hin)).mono ?_
    rintro e w14 ⟨a14, c14, rfl, ho14, hb14⟩
    rw [← HL.out] at ho14 ⊢
    have hbb14 := hbb13.trans (hb14.mono hbb13.size)
    have hr14 := hr13.below hb14
    have hg14 := hg13.below hb14
    clear hr13 hg13 hb14 ho13 hbb13
    go_wp2_with fail
    refine (eqPlaceS_any _ _ _ _ _ ho14 hr14).mono ?_
    rintro e w15 ⟨rfl, hD15⟩
    rw [decide_eq_true rfl]
    have hbb15 := hbb14.trans (hD15.mono hbb14.size)
    have hg15 := hg14.below hD15
    have hH := heldPlaceS_any _ _ w15 hg15 (by omega)
    rw [← HM.out] at hH
    clear hD15 hr14 hg14 ho14 hbb14 hg15
    go_wp2_with fail
    refine hH.mono ?_
    rintro e w16 ⟨rfl, rfl⟩
    clear hH
    go_wp2
    go_ret
    exact ⟨rfl, hbb15⟩

end Go.Proofs.Ytpeogghiboaceaa
