/- The walk of FnDeskDo. Printed by wip/tools/gen_dolaw.py. -/
import Derived.Test.YtjecolbodelniaaKeep
import Derived.Test.YtjecolbodelniaaDrawDo
import Derived.Test.YtjecolbodelniaaSameG
import Derived.Test.YtjecolbodelniaaAlive
import Derived.Deep.RegionHeld3
namespace Go.Proofs.Ytjecolbodelniaa
open Go.RowKit
set_option linter.unusedVariables false
set_option maxRecDepth 100000

theorem DoRes.done {p c : Int} {gs : List Gs} {d : Dd} {w : World} {e : Ending} {w' : World} (h : deskB p c gs = true) (q : DoRes p c gs d w e w') : DoOut p c (doneG p c gs d).1 (doneG p c gs d).2 w e w' := by
  unfold DoRes at q; rw [if_pos h] at q; exact q
theorem DoRes.not {p c : Int} {gs : List Gs} {d : Dd} {w : World} {e : Ending} {w' : World} (h : deskB p c gs = false) (q : DoRes p c gs d w e w') : DoOut 0 0 [] false w e w' := by
  unfold DoRes at q; rw [if_neg (by simp [h])] at q; exact q
theorem done_i64 {p c : Int} {gs : List Gs} {d : Dd} (h64 : In64G gs) (hx : ∀ y ∈ d.code, In64 y) : In64G (doneG p c gs d).1 := by
  unfold doneG
  split
  · split
    · exact fun g hg => h64 g (List.mem_of_mem_take hg)
    · exact h64
  · split
    · exact h64.snoc (x := d.gs) hx
    · exact h64
theorem done_codes {p c : Int} {gs : List Gs} {d : Dd} {N : Nat} (h : ∀ g ∈ gs, g.code.length ≤ N) (hx : d.code.length ≤ N) : ∀ g ∈ (doneG p c gs d).1, g.code.length ≤ N := by
  unfold doneG
  split
  · split
    · exact fun g hg => h g (List.mem_of_mem_take hg)
    · exact h
  · split
    · intro g hg
      rcases List.mem_append.1 hg with q | q
      · exact h g q
      · rw [List.mem_singleton.1 q]; exact hx
    · exact h
theorem done_back_len {p c : Int} {gs : List Gs} {d : Dd} (hb : d.back = true) (h : (doneG p c gs d).2 = true) : (doneG p c gs d).1.length = gs.length - 1 ∧ 0 < gs.length := by
  revert h
  unfold doneG
  rw [if_pos hb]
  split
  · rename_i q
    intro _
    exact ⟨by simp, q.2⟩
  · intro h; cases h

/-- The zero desk against another one. -/
theorem sameDesk_zero {B C : Nat} (a0 : Option Addr) (cap0 : Nat) (p c : Int) (v : Value) (gs : List Gs) (w : World) (h0 : GL C w (.slice a0 0 cap0) []) (h : GL B w v gs) :
    Calls Try.prog 12 #[dkV 0 0 (.slice a0 0 cap0), dkV p c v] w fun e w' => (∃ t, e = .returned (.bool t)) ∧ Below w.heap.size w w' := by
  obtain ⟨a, cap, rfl⟩ : ∃ a cap, v = .slice a gs.length cap := by obtain ⟨a, cap, _, hv, _⟩ := h; exact ⟨a, cap, hv⟩
  have hb1 : Below w.heap.size w ((w.alloc (.cells #[.int .i64 0, .int .i64 0, .slice a0 0 cap0] 25)).alloc (.cells #[.int .i64 p, .int .i64 c, .slice a gs.length cap] 25)) := ((Below.refl _ _).alloc (Nat.le_refl _) _).alloc (by simp) _
  have HB1 := Lib.hid hb1
  unfold dkV
  by_cases hp : p = 0
  · subst hp
    by_cases hc : c = 0
    · subst hc
      by_cases hl : gs.length = 0
      · have hg : gs = [] := List.eq_nil_of_length_eq_zero hl
        subst hg
        have hS := sameGuesses_self (.slice a0 0 cap0) (.slice a 0 cap) [] _ (h0.below hb1) (h.below hb1)
        clear h h0 hb1 hl
        go_enter Try.func12, Try.ntmps12
        go_wp2_with fail
        refine hS.mono ?_
        rintro e w2 ⟨rfl, hb2⟩
        have HB2 := Lib.hid (HB1.out.trans (hb2.mono HB1.out.size))
        clear hS hb2
        go_wp2
        go_ret
        exact ⟨⟨_, rfl⟩, HB2.out⟩
      · have hl' : ((0 : Int) != (gs.length : Int)) = true := by simp; omega
        clear h h0 hb1 hl
        go_enter Try.func12, Try.ntmps12
        go_wp2_with go_in
        go_ret
        exact ⟨⟨_, rfl⟩, HB1.out⟩
    · have hc' : ((0 : Int) == c) = false := by rw [beq_eq_false_iff_ne]; exact fun e => hc e.symm
      clear h h0 hb1 hc
      go_enter Try.func12, Try.ntmps12
      go_wp2
      go_ret
      exact ⟨⟨_, rfl⟩, HB1.out⟩
  · have hp' : ((0 : Int) == p) = false := by rw [beq_eq_false_iff_ne]; exact fun e => hp e.symm
    clear h h0 hb1 hp
    go_enter Try.func12, Try.ntmps12
    go_wp2
    go_ret
    exact ⟨⟨_, rfl⟩, HB1.out⟩

set_option maxHeartbeats 8000000 in
theorem FnDeskDo_walk (v : Value) (bs : List Int) (w : World) (h : Bytes 0 w v bs) :
    Calls Try.prog 3 #[v] w fun e w' => e = .returned (.bool true) ∧ Below w.heap.size w w' := by
  obtain ⟨a0, cap0, rfl, hc1, hc2, hc3⟩ := id h.1
  rw [List.length_map] at h ⊢
  clear hc1 hc2 hc3
  have hDr := drawDeskDo_any _ bs w h
  clear h
  by_cases hs : 1048576 < bs.length
  · go_enter Try.func3, Try.ntmps3
    go_wp2
    go_ret
    exact ⟨rfl, Below.refl _ _⟩
  go_enter Try.func3, Try.ntmps3
  go_wp2_with fail
  refine hDr.mono ?_
  rintro e w1 ⟨p, c, gs, a1, c1, b, ys, r, n, a2, c2, rfl, ho1, h64, hl5, hcl, hi1, hy, hyl, hb1⟩
  have HD := Lib.hid (fun p c v => show dkV p c v = .agg #[.int .i64 p, .int .i64 c, v] from rfl)
  have HDD := Lib.hid (fun b v r n => show dV b v r n = .agg #[.bool b, v, .int .i64 r, .int .i64 n] from rfl)
  rw [HD.out, HDD.out]
  have HB := Lib.hid hb1
  have HO := Lib.hid ho1
  have HI := Lib.hid hi1
  have H64 := Lib.hid h64
  have HY := Lib.hid hy
  have HCL := Lib.hid (show ∀ g ∈ gs, g.code.length ≤ 2000000 from fun g hg => Nat.le_trans (hcl g hg) (by omega))
  clear hDr ho1 hi1 h64 hy hcl hb1
  go_wp2_with fail
  obtain ⟨wa, hwa⟩ : ∃ z, z = (w1.alloc (.cells #[.int .i64 p, .int .i64 c, .slice a1 gs.length c1] 25)).alloc (.cells #[.bool b, .slice a2 ys.length c2, .int .i64 r, .int .i64 n] 30) := ⟨_, rfl⟩
  have hba : Below w1.heap.size w1 wa := by rw [hwa]; exact ((Below.refl _ _).alloc (Nat.le_refl _) _).alloc (by simp) _
  have hAD : At wa w1.heap.size (.cells #[.int .i64 p, .int .i64 c, .slice a1 gs.length c1] 25) := by rw [hwa]; exact (At.new w1 _).below ((Below.refl _ _).alloc (Nat.le_refl _) _)
  have hAA : At wa (w1.heap.size + 1) (.cells #[.bool b, .slice a2 ys.length c2, .int .i64 r, .int .i64 n] 30) := by rw [hwa]; have q := At.new (w1.alloc (.cells #[.int .i64 p, .int .i64 c, .slice a1 gs.length c1] 25)) (.cells #[.bool b, .slice a2 ys.length c2, .int .i64 r, .int .i64 n] 30); rw [World.size_alloc] at q; exact q
  rw [← hwa]
  obtain ⟨t3, ht3⟩ : ∃ z, z = w1.heap.size := ⟨_, rfl⟩
  rw [← ht3] at hAD hAA ⊢
  have HR := Lib.hid ((HO.out.rg H64.out).below hba)
  have HU := Lib.hid (show OwnI w.heap.size wa _ _ from owns_below HI.out hba)
  replace HB := Lib.hid (HB.out.trans (hba.mono HB.out.size))
  have A3 := Lib.hid hAD
  have A4 := Lib.hid hAA
  clear hwa hba hAD hAA HO HI ht3
  have HID := Lib.hid (fun (B C : Nat) (gs : List Gs) (b : Bool) (xs : List Int) (r n : Int) (W : World) (v u : Value) (hg : ∀ g ∈ gs, g.code.length ≤ 2000000) (hx : xs.length ≤ 2000000) (q1 : RG B W v gs) (q2 : OwnI C W u xs) (hy : ∀ y ∈ xs, In64 y) => deskDoI_any p c v gs b u xs r n W q1 (q2.toInts hy) q2.nilOr hg hx)
  have HSD := Lib.hid (fun (B C : Nat) (W : World) (v u : Value) (q1 : RG B W v gs) (q2 : OwnI C W u ys) => deskDoS_any p c v gs b u ys r n W q1.toGL (q2.toInts HY.out) HCL.out (by omega))
  have HSM := Lib.hid (fun (B C : Nat) (p c : Int) (gs : List Gs) (v v' : Value) (W : World) (q1 : GL B W v gs) (q2 : GL C W v' gs) => sameDesk_self p c v v' gs W q1 q2)
  have HOK := Lib.hid (fun (B : Nat) (p c : Int) (gs : List Gs) (v : Value) (W : World) (q : GL B W v gs) => deskOkI_any p c v gs W q)
  have hT := HID.out _ _ gs b ys r n wa _ _ HCL.out (by omega) HR.out HU.out HY.out
  rcases hdk : deskB p c gs with _ | _
  · have HK := Lib.hid hdk
    clear hdk
    have hff : (false != false) = false := rfl
    rw [HD.out, HDD.out] at hT
    refine hT.mono ?_
    rintro e w2 hq2
    obtain ⟨a3, c3, cc3, rfl, q1, q2, ho2, hb2⟩ := DoRes.not HK.out hq2
    rw [HD.out]
    simp only [List.length_nil]
    clear hT
    have hr2 : RG wa.heap.size w2 (.slice a3 0 cc3) (([] : List Gs)) := ⟨a3, c3, cc3, rfl, q1, q2, ho2, (fun g hg => by cases hg)⟩
    replace HR := Lib.hid (HR.out.below hb2)
    replace HU := Lib.hid (show OwnI w.heap.size _ _ _ from owns_below HU.out hb2)
    replace A3 := Lib.hid (A3.out.below hb2)
    replace A4 := Lib.hid (A4.out.below hb2)
    replace HB := Lib.hid (HB.out.trans (hb2.mono HB.out.size))
    clear hb2 ho2 q1 q2 hq2
    obtain ⟨x0, x1, x2⟩ := A3.out.three
    have xz := A3.out.lt
    obtain ⟨d0, d1, d2, d3⟩ := A4.out.four
    have dz := A4.out.lt
    go_wp2_with fail
    have HX := Lib.hid hr2
    clear hr2
    obtain ⟨w3, hwn⟩ : ∃ z, z = w2.alloc (.cells #[.int .i64 0, .int .i64 0, .slice a3 0 cc3] 25) := ⟨_, rfl⟩
    have hbn : Below w2.heap.size w2 w3 := by rw [hwn]; exact (Below.refl _ _).alloc (Nat.le_refl _) _
    have han : At w3 w2.heap.size (.cells #[.int .i64 0, .int .i64 0, .slice a3 0 cc3] 25) := by rw [hwn]; exact At.new _ _
    rw [← hwn]
    clear hwn
    obtain ⟨t5, hblk⟩ : ∃ z, z = w2.heap.size := ⟨_, rfl⟩
    rw [← hblk] at han ⊢
    replace HR := Lib.hid (HR.out.below hbn)
    replace HU := Lib.hid (show OwnI w.heap.size _ _ _ from owns_below HU.out hbn)
    replace A3 := Lib.hid (A3.out.below hbn)
    replace A4 := Lib.hid (A4.out.below hbn)
    replace HX := Lib.hid (HX.out.below hbn)
    replace HB := Lib.hid (HB.out.trans (hbn.mono HB.out.size))
    have A5 := Lib.hid han
    clear hbn han hblk
    clear x0 x1 x2 xz d0 d1 d2 d3 dz
    have hT := HSD.out _ _ w3 _ _ HR.out HU.out
    rw [HD.out, HDD.out] at hT
    refine hT.mono ?_
    rintro e w4 hq2
    obtain ⟨a4, c4, cc4, rfl, q1, q2, ho4, hb4⟩ := DoRes.not HK.out hq2
    rw [HD.out]
    simp only [List.length_nil]
    clear hT
    have hr4 : RG w3.heap.size w4 (.slice a4 0 cc4) (([] : List Gs)) := ⟨a4, c4, cc4, rfl, q1, q2, ho4, (fun g hg => by cases hg)⟩
    replace HR := Lib.hid (HR.out.below hb4)
    replace HU := Lib.hid (show OwnI w.heap.size _ _ _ from owns_below HU.out hb4)
    replace A3 := Lib.hid (A3.out.below hb4)
    replace A4 := Lib.hid (A4.out.below hb4)
    replace HX := Lib.hid (HX.out.below hb4)
    replace A5 := Lib.hid (A5.out.below hb4)
    replace HB := Lib.hid (HB.out.trans (hb4.mono HB.out.size))
    clear hb4 ho4 q1 q2 hq2
    obtain ⟨x0, x1, x2⟩ := A5.out.three
    have xz := A5.out.lt
    go_wp2_with fail
    have HY2 := Lib.hid hr4
    clear hr4
    obtain ⟨w5, hwn⟩ : ∃ z, z = w4.alloc (.cells #[.int .i64 0, .int .i64 0, .slice a4 0 cc4] 25) := ⟨_, rfl⟩
    have hbn : Below w4.heap.size w4 w5 := by rw [hwn]; exact (Below.refl _ _).alloc (Nat.le_refl _) _
    have han : At w5 w4.heap.size (.cells #[.int .i64 0, .int .i64 0, .slice a4 0 cc4] 25) := by rw [hwn]; exact At.new _ _
    rw [← hwn]
    clear hwn
    obtain ⟨t7, hblk⟩ : ∃ z, z = w4.heap.size := ⟨_, rfl⟩
    rw [← hblk] at han ⊢
    replace HR := Lib.hid (HR.out.below hbn)
    replace HU := Lib.hid (show OwnI w.heap.size _ _ _ from owns_below HU.out hbn)
    replace A3 := Lib.hid (A3.out.below hbn)
    replace A4 := Lib.hid (A4.out.below hbn)
    replace HX := Lib.hid (HX.out.below hbn)
    replace A5 := Lib.hid (A5.out.below hbn)
    replace HY2 := Lib.hid (HY2.out.below hbn)
    replace HB := Lib.hid (HB.out.trans (hbn.mono HB.out.size))
    have A7 := Lib.hid han
    clear hbn han hblk
    clear x0 x1 x2 xz
    have hT := HSM.out _ _ (0) (0) (([] : List Gs)) _ _ w5 HX.out.toGL HY2.out.toGL
    rw [HD.out, HD.out] at hT
    refine hT.mono ?_
    rintro e w6 ⟨rfl, hb6⟩
    clear hT
    replace HR := Lib.hid (HR.out.below hb6)
    replace HU := Lib.hid (show OwnI w.heap.size _ _ _ from owns_below HU.out hb6)
    replace A3 := Lib.hid (A3.out.below hb6)
    replace A4 := Lib.hid (A4.out.below hb6)
    replace HX := Lib.hid (HX.out.below hb6)
    replace A5 := Lib.hid (A5.out.below hb6)
    replace HB := Lib.hid (HB.out.trans (hb6.mono HB.out.size))
    clear hb6 HY2 A7
    obtain ⟨x0, x1, x2⟩ := A5.out.three
    have xz := A5.out.lt
    obtain ⟨u0, u1, u2⟩ := A3.out.three
    have uz := A3.out.lt
    go_wp2_with fail
    have hT := sameDesk_zero _ _ p c _ gs w6 HX.out.toGL HR.out.toGL
    rw [HD.out, HD.out] at hT
    refine hT.mono ?_
    rintro e w7 ⟨⟨t, rfl⟩, hb7⟩
    clear hT
    replace HR := Lib.hid (HR.out.below hb7)
    replace A3 := Lib.hid (A3.out.below hb7)
    replace HB := Lib.hid (HB.out.trans (hb7.mono HB.out.size))
    clear hb7
    clear x0 x1 x2 xz u0 u1 u2 uz
    obtain ⟨u0, u1, u2⟩ := A3.out.three
    have uz := A3.out.lt
    cases t
    · go_wp2_with fail
      have hT := HOK.out _ p c gs _ w7 HR.out.toGL
      rw [HD.out, HK.out] at hT
      refine hT.mono ?_
      rintro e w8 ⟨rfl, hb8⟩
      replace HB := Lib.hid (HB.out.trans (hb8.mono HB.out.size))
      clear hT hb8
      go_wp2_with fail
      refine (alive_any _).mono ?_
      rintro e w9 ⟨rfl, rfl⟩
      go_wp2
      go_ret
      exact ⟨rfl, HB.out⟩
    · go_wp2_with fail
      refine (alive_any _).mono ?_
      rintro e w9 ⟨rfl, rfl⟩
      go_wp2
      go_ret
      exact ⟨rfl, HB.out⟩
  · have HK := Lib.hid hdk
    have HQ := Lib.hid (show ∀ W e W', DoRes p c gs ⟨b, ys, r, n⟩ W e W' → DoOut p c (doneG p c gs ⟨b, ys, r, n⟩).1 (doneG p c gs ⟨b, ys, r, n⟩).2 W e W' from fun W e W' q => DoRes.done hdk q)
    have HG64 := Lib.hid (done_i64 (p := p) (c := c) (d := ⟨b, ys, r, n⟩) H64.out HY.out)
    have HGC := Lib.hid (done_codes (p := p) (c := c) (d := ⟨b, ys, r, n⟩) HCL.out (show ys.length ≤ 2000000 by omega))
    have HGD := Lib.hid (done_desk (d := ⟨b, ys, r, n⟩) hdk)
    have HSA := Lib.hid (fun q => done_same (p := p) (c := c) (gs := gs) (d := ⟨b, ys, r, n⟩) q)
    have HBL := Lib.hid (fun q1 q2 => done_back_len (p := p) (c := c) (gs := gs) (d := ⟨b, ys, r, n⟩) q1 q2)
    have HUN := Lib.hid (fun q1 q2 => done_undo (p := p) (c := c) (gs := gs) (d := ⟨b, ys, r, n⟩) q1 q2)
    simp only at HBL HUN
    obtain ⟨gs', hgs⟩ : ∃ z, z = (doneG p c gs ⟨b, ys, r, n⟩).1 := ⟨_, rfl⟩
    obtain ⟨ok, hok⟩ : ∃ z, z = (doneG p c gs ⟨b, ys, r, n⟩).2 := ⟨_, rfl⟩
    rw [← hgs, ← hok] at HQ HUN HBL
    rw [← hgs] at HG64 HGC HGD
    rw [← hok, ← hgs] at HSA
    have hoo : (ok != ok) = false := by simp
    clear hdk hgs hok
    rw [HD.out, HDD.out] at hT
    refine hT.mono ?_
    rintro e w2 hq2
    obtain ⟨a3, c3, cc3, rfl, q1, q2, ho2, hb2⟩ := HQ.out _ _ _ hq2
    rw [HD.out]
    clear hT
    have hr2 : RG wa.heap.size w2 (.slice a3 (gs').length cc3) (gs') := ⟨a3, c3, cc3, rfl, q1, q2, ho2, HG64.out⟩
    replace HR := Lib.hid (HR.out.below hb2)
    replace HU := Lib.hid (show OwnI w.heap.size _ _ _ from owns_below HU.out hb2)
    replace A3 := Lib.hid (A3.out.below hb2)
    replace A4 := Lib.hid (A4.out.below hb2)
    replace HB := Lib.hid (HB.out.trans (hb2.mono HB.out.size))
    clear hb2 ho2 q1 q2 hq2
    obtain ⟨x0, x1, x2⟩ := A3.out.three
    have xz := A3.out.lt
    obtain ⟨d0, d1, d2, d3⟩ := A4.out.four
    have dz := A4.out.lt
    go_wp2_with fail
    have HX := Lib.hid hr2
    clear hr2
    obtain ⟨w3, hwn⟩ : ∃ z, z = w2.alloc (.cells #[.int .i64 p, .int .i64 c, .slice a3 (gs').length cc3] 25) := ⟨_, rfl⟩
    have hbn : Below w2.heap.size w2 w3 := by rw [hwn]; exact (Below.refl _ _).alloc (Nat.le_refl _) _
    have han : At w3 w2.heap.size (.cells #[.int .i64 p, .int .i64 c, .slice a3 (gs').length cc3] 25) := by rw [hwn]; exact At.new _ _
    rw [← hwn]
    clear hwn
    obtain ⟨t5, hblk⟩ : ∃ z, z = w2.heap.size := ⟨_, rfl⟩
    rw [← hblk] at han ⊢
    replace HR := Lib.hid (HR.out.below hbn)
    replace HU := Lib.hid (show OwnI w.heap.size _ _ _ from owns_below HU.out hbn)
    replace A3 := Lib.hid (A3.out.below hbn)
    replace A4 := Lib.hid (A4.out.below hbn)
    replace HX := Lib.hid (HX.out.below hbn)
    replace HB := Lib.hid (HB.out.trans (hbn.mono HB.out.size))
    have A5 := Lib.hid han
    clear hbn han hblk
    clear x0 x1 x2 xz d0 d1 d2 d3 dz
    have hT := HSD.out _ _ w3 _ _ HR.out HU.out
    rw [HD.out, HDD.out] at hT
    refine hT.mono ?_
    rintro e w4 hq2
    obtain ⟨a4, c4, cc4, rfl, q1, q2, ho4, hb4⟩ := HQ.out _ _ _ hq2
    rw [HD.out]
    clear hT
    have hr4 : RG w3.heap.size w4 (.slice a4 (gs').length cc4) (gs') := ⟨a4, c4, cc4, rfl, q1, q2, ho4, HG64.out⟩
    replace HR := Lib.hid (HR.out.below hb4)
    replace HU := Lib.hid (show OwnI w.heap.size _ _ _ from owns_below HU.out hb4)
    replace A3 := Lib.hid (A3.out.below hb4)
    replace A4 := Lib.hid (A4.out.below hb4)
    replace HX := Lib.hid (HX.out.below hb4)
    replace A5 := Lib.hid (A5.out.below hb4)
    replace HB := Lib.hid (HB.out.trans (hb4.mono HB.out.size))
    clear hb4 ho4 q1 q2 hq2
    obtain ⟨x0, x1, x2⟩ := A5.out.three
    have xz := A5.out.lt
    go_wp2_with fail
    have HY2 := Lib.hid hr4
    clear hr4
    obtain ⟨w5, hwn⟩ : ∃ z, z = w4.alloc (.cells #[.int .i64 p, .int .i64 c, .slice a4 (gs').length cc4] 25) := ⟨_, rfl⟩
    have hbn : Below w4.heap.size w4 w5 := by rw [hwn]; exact (Below.refl _ _).alloc (Nat.le_refl _) _
    have han : At w5 w4.heap.size (.cells #[.int .i64 p, .int .i64 c, .slice a4 (gs').length cc4] 25) := by rw [hwn]; exact At.new _ _
    rw [← hwn]
    clear hwn
    obtain ⟨t7, hblk⟩ : ∃ z, z = w4.heap.size := ⟨_, rfl⟩
    rw [← hblk] at han ⊢
    replace HR := Lib.hid (HR.out.below hbn)
    replace HU := Lib.hid (show OwnI w.heap.size _ _ _ from owns_below HU.out hbn)
    replace A3 := Lib.hid (A3.out.below hbn)
    replace A4 := Lib.hid (A4.out.below hbn)
    replace HX := Lib.hid (HX.out.below hbn)
    replace A5 := Lib.hid (A5.out.below hbn)
    replace HY2 := Lib.hid (HY2.out.below hbn)
    replace HB := Lib.hid (HB.out.trans (hbn.mono HB.out.size))
    have A7 := Lib.hid han
    clear hbn han hblk
    clear x0 x1 x2 xz
    have hT := HSM.out _ _ (p) (c) (gs') _ _ w5 HX.out.toGL HY2.out.toGL
    rw [HD.out, HD.out] at hT
    refine hT.mono ?_
    rintro e w6 ⟨rfl, hb6⟩
    clear hT
    replace HR := Lib.hid (HR.out.below hb6)
    replace HU := Lib.hid (show OwnI w.heap.size _ _ _ from owns_below HU.out hb6)
    replace A3 := Lib.hid (A3.out.below hb6)
    replace A4 := Lib.hid (A4.out.below hb6)
    replace HX := Lib.hid (HX.out.below hb6)
    replace A5 := Lib.hid (A5.out.below hb6)
    replace HB := Lib.hid (HB.out.trans (hb6.mono HB.out.size))
    clear hb6 HY2 A7
    obtain ⟨x0, x1, x2⟩ := A5.out.three
    have xz := A5.out.lt
    obtain ⟨u0, u1, u2⟩ := A3.out.three
    have uz := A3.out.lt
    cases ok
    · obtain rfl := HSA.out rfl
      go_wp2_with fail
      have hT := HSM.out _ _ p c gs' _ _ w6 HX.out.toGL HR.out.toGL
      rw [HD.out, HD.out] at hT
      refine hT.mono ?_
      rintro e w7 ⟨rfl, hb7⟩
      replace HB := Lib.hid (HB.out.trans (hb7.mono HB.out.size))
      clear hT hb7 x0 x1 x2 xz u0 u1 u2 uz
      go_wp2_with fail
      refine (alive_any _).mono ?_
      rintro e w9 ⟨rfl, rfl⟩
      go_wp2
      go_ret
      exact ⟨rfl, HB.out⟩
    · cases b
      · obtain ⟨hun, _, hfit⟩ := HUN.out rfl rfl
        have HUND := Lib.hid hun
        clear hun
        obtain ⟨d0, d1, d2, d3⟩ := A4.out.four
        go_wp2_with fail
        have hT := HID.out _ 0 gs' true [] 0 0 w6 _ (.slice none 0 0) HGC.out (by simp) HX.out (OwnI.empty _ _) (by simp)
        rw [HD.out, HDD.out] at hT
        refine hT.mono ?_
        rintro e w7 hq7
        have hq7 := DoRes.done HGD.out hq7
        rw [show (⟨true, [], 0, 0⟩ : Dd) = Dd.undo from rfl, HUND.out] at hq7
        obtain ⟨a7, c7, cc7, rfl, q1, q2, ho7, hb7⟩ := hq7
        rw [HD.out]
        have hr7 : RG w6.heap.size w7 (.slice a7 gs.length cc7) gs := ⟨a7, c7, cc7, rfl, q1, q2, ho7, H64.out⟩
        clear hT x0 x1 x2 xz u0 u1 u2 uz d0 d1 d2 d3
        replace HR := Lib.hid (HR.out.below hb7)
        replace A3 := Lib.hid (A3.out.below hb7)
        replace HX := Lib.hid (HX.out.below hb7)
        replace A5 := Lib.hid (A5.out.below hb7)
        replace HB := Lib.hid (HB.out.trans (hb7.mono HB.out.size))
        clear hb7 ho7 q1 q2
        obtain ⟨x0, x1, x2⟩ := A5.out.three
        have xz := A5.out.lt
        go_wp2
        have HZ := Lib.hid hr7
        clear hr7
        obtain ⟨w8, hwn⟩ : ∃ z, z = w7.alloc (.cells #[.int .i64 p, .int .i64 c, .slice a7 gs.length cc7] 25) := ⟨_, rfl⟩
        have hbn : Below w7.heap.size w7 w8 := by rw [hwn]; exact (Below.refl _ _).alloc (Nat.le_refl _) _
        have han : At w8 w7.heap.size (.cells #[.int .i64 p, .int .i64 c, .slice a7 gs.length cc7] 25) := by rw [hwn]; exact At.new _ _
        rw [← hwn]
        clear hwn
        obtain ⟨t9, hblk⟩ : ∃ z, z = w7.heap.size := ⟨_, rfl⟩
        rw [← hblk] at han ⊢
        replace HR := Lib.hid (HR.out.below hbn)
        replace A3 := Lib.hid (A3.out.below hbn)
        replace HX := Lib.hid (HX.out.below hbn)
        replace A5 := Lib.hid (A5.out.below hbn)
        replace HZ := Lib.hid (HZ.out.below hbn)
        replace HB := Lib.hid (HB.out.trans (hbn.mono HB.out.size))
        have A9 := Lib.hid han
        clear hbn han hblk
        clear x0 x1 x2 xz
        obtain ⟨x0, x1, x2⟩ := A5.out.three
        have xz := A5.out.lt
        obtain ⟨u0, u1, u2⟩ := A3.out.three
        have uz := A3.out.lt
        obtain ⟨y0, y1, y2⟩ := A9.out.three
        have yz := A9.out.lt
        have HFI := Lib.hid (fun (B : Nat) (gs : List Gs) (v : Value) (W : World) (q : GL B W v gs) => fitI_any p c v gs W q)
        unfold FreshR at HFI
        obtain ⟨n1, hn1⟩ : ∃ z, z = (fitL p c gs').length := ⟨_, rfl⟩
        obtain ⟨n2, hn2⟩ : ∃ z, z = (fitL p c gs).length := ⟨_, rfl⟩
        rw [← hn1, ← hn2] at hfit
        have HN1 := Lib.hid hn1.symm
        have HN2 := Lib.hid hn2.symm
        have hle : (n1 : Int) ≤ (n2 : Int) := by omega
        clear hn1 hn2
        go_region_held3 (fun w' => w'.cell? ⟨t5, 0, none⟩ = some (.int .i64 p) ∧ w'.cell? ⟨t5, 1, none⟩ = some (.int .i64 c) ∧ w'.cell? ⟨t5, 2, none⟩ = some (.slice a3 gs'.length cc3) ∧ w'.cell? ⟨t3, 0, none⟩ = some (.int .i64 p) ∧ w'.cell? ⟨t3, 1, none⟩ = some (.int .i64 c) ∧ w'.cell? ⟨t3, 2, none⟩ = some (.slice a1 gs.length c1) ∧ w'.cell? ⟨t9, 0, none⟩ = some (.int .i64 p) ∧ w'.cell? ⟨t9, 1, none⟩ = some (.int .i64 c) ∧ w'.cell? ⟨t9, 2, none⟩ = some (.slice a7 gs.length cc7))
          (first
            | go_keep
            | (go_split_ands; exact ⟨(hbA.cell (by simp; omega)).trans (by assumption), (hbA.cell (by simp; omega)).trans (by assumption), (hbA.cell (by simp; omega)).trans (by assumption), (hbA.cell (by simp; omega)).trans (by assumption), (hbA.cell (by simp; omega)).trans (by assumption), (hbA.cell (by simp; omega)).trans (by assumption), (hbA.cell (by simp; omega)).trans (by assumption), (hbA.cell (by simp; omega)).trans (by assumption), (hbA.cell (by simp; omega)).trans (by assumption)⟩)
            | (go_split_ands; exact ⟨(hbB.cell (by simp; omega)).trans (by assumption), (hbB.cell (by simp; omega)).trans (by assumption), (hbB.cell (by simp; omega)).trans (by assumption), (hbB.cell (by simp; omega)).trans (by assumption), (hbB.cell (by simp; omega)).trans (by assumption), (hbB.cell (by simp; omega)).trans (by assumption), (hbB.cell (by simp; omega)).trans (by assumption), (hbB.cell (by simp; omega)).trans (by assumption), (hbB.cell (by simp; omega)).trans (by assumption)⟩)
            | (go_split_ands; exact ⟨(hbC.cell (by simp; omega)).trans (by assumption), (hbC.cell (by simp; omega)).trans (by assumption), (hbC.cell (by simp; omega)).trans (by assumption), (hbC.cell (by simp; omega)).trans (by assumption), (hbC.cell (by simp; omega)).trans (by assumption), (hbC.cell (by simp; omega)).trans (by assumption), (hbC.cell (by simp; omega)).trans (by assumption), (hbC.cell (by simp; omega)).trans (by assumption), (hbC.cell (by simp; omega)).trans (by assumption)⟩)
            | (go_split_ands; exact ⟨(hbD.cell (by simp; omega)).trans (by assumption), (hbD.cell (by simp; omega)).trans (by assumption), (hbD.cell (by simp; omega)).trans (by assumption), (hbD.cell (by simp; omega)).trans (by assumption), (hbD.cell (by simp; omega)).trans (by assumption), (hbD.cell (by simp; omega)).trans (by assumption), (hbD.cell (by simp; omega)).trans (by assumption), (hbD.cell (by simp; omega)).trans (by assumption), (hbD.cell (by simp; omega)).trans (by assumption)⟩))
          (first
            | (go_at_call 13; have hT := HOK.out _ p c gs' _ w8.drew (show GL _ w8.drew _ _ from HX.out.toGL); rw [HD.out, HGD.out] at hT; refine hT.mono ?_; clear hT; rintro e wA ⟨rfl, hbA⟩; have HKA := Lib.hid (show Below w8.heap.size w8 wA from (below_drw _).trans hbA); have hzA := HKA.out.size)
            | (go_at_call 12; have hT := HSM.out _ _ p c gs _ _ wA (HZ.out.below HKA.out).toGL (HR.out.below HKA.out).toGL; rw [HD.out, HD.out] at hT; refine hT.mono ?_; clear hT; rintro e wB ⟨rfl, hbB⟩; have HKB := Lib.hid (HKA.out.trans (hbB.mono HKA.out.size)); have hzB := HKB.out.size)
            | (go_at_call 15; (with_reducible refine (HFI.out _ _ _ wB (HX.out.below HKB.out).toGL).mono ?_); rintro e wC ⟨b8, d8, rfl, _, hbC⟩; rw [HN1.out]; have HKC := Lib.hid (HKB.out.trans (hbC.mono HKB.out.size)); have hzC := HKC.out.size)
            | (go_at_call 15; (with_reducible refine (HFI.out _ _ _ wC (HR.out.below HKC.out).toGL).mono ?_); rintro e wD ⟨b9, d9, rfl, _, hbD⟩; rw [HN2.out]; have HKD := Lib.hid (HKC.out.trans (hbD.mono HKC.out.size)))
            | fail)
        go_wp2
        go_ret
        exact ⟨rfl, HB.out.trans (HKD.out.mono HB.out.size)⟩
      · obtain ⟨hlen, hpos⟩ := HBL.out rfl rfl
        have hle : ((gs'.length : Int) == (gs.length : Int) - 1) = true := by rw [beq_iff_eq]; omega
        have hh0 : (1 : Int) ≤ (gs.length : Int) := by omega
        obtain ⟨d0, d1, d2, d3⟩ := A4.out.four
        have HLEN := Lib.hid hlen
        clear hlen
        go_wp2_with fail
        have hT := HOK.out _ p c gs' _ w6 HX.out.toGL
        rw [HD.out, HGD.out] at hT
        refine hT.mono ?_
        rintro e w7 ⟨rfl, hb7⟩
        clear hT x0 x1 x2 xz u0 u1 u2 uz d0 d1 d2 d3
        replace A3 := Lib.hid (A3.out.below hb7)
        replace A5 := Lib.hid (A5.out.below hb7)
        replace HB := Lib.hid (HB.out.trans (hb7.mono HB.out.size))
        obtain ⟨x0, x1, x2⟩ := A5.out.three
        have xz := A5.out.lt
        obtain ⟨u0, u1, u2⟩ := A3.out.three
        have uz := A3.out.lt
        clear hb7
        go_wp2
        go_ret
        exact ⟨rfl, HB.out⟩

end Go.Proofs.Ytjecolbodelniaa