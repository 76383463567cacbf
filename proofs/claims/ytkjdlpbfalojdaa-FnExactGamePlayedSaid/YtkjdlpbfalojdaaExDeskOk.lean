/- The walk of FnExactDeskOk. -/
import Derived.Test.YtkjdlpbfalojdaaDeskT
import Derived.Test.YtkjdlpbfalojdaaExDeskNew
import Derived.Deep.RegionWith
namespace Go.Proofs.Ytkjdlpbfalojdaa
open Go.RowKit Go.Shelf
set_option linter.unusedVariables false
set_option maxRecDepth 100000

theorem GL.in64 {B : Nat} {w : World} {v : Value} {gs : List Gs} (h : GL B w v gs) : In64G gs := by
  obtain ⟨a, cap, V, _, _, _, _, hV⟩ := h
  intro x hx y hy
  obtain ⟨i, hi, rfl⟩ := List.getElem_of_mem hx
  exact (hV i hi).2 y hy
theorem szG_bound {gs : List Gs} {l : Int} (h : 0 ≤ szSS (gs.map Gs.code) l) (hl : 0 ≤ l) (hl2 : l ≤ 1048576) : gs.length ≤ 2000000 ∧ ∀ g ∈ gs, g.code.length ≤ 1099511627776 := by
  have hb := szSS_bound h hl
  rw [List.length_map] at hb
  refine ⟨by omega, fun g hg => ?_⟩
  have := tot_mem (List.mem_map_of_mem (f := Gs.code) hg)
  omega
theorem below_drew1 (w : World) : Below w.heap.size w w.drew := (show Drawn w (w.drewN 1) from ⟨1, rfl⟩).below
theorem Below.drew' {n : Nat} {w w' : World} (h : Below n w w') : Below n w w'.drew := below_drewN h 1
theorem below_drew2 (w : World) : Below w.heap.size w w.drew.drew := Below.drew' (below_drew1 w)
theorem GL.drew {B : Nat} {w : World} {v : Value} {gs : List Gs} (h : GL B w v gs) : GL B w.drew v gs := h.below (below_drew1 w)

set_option maxHeartbeats 4000000 in
theorem FnExactDeskOk_walk (p c : Int) (v : Value) (gs : List Gs) (w : World) (h : GL 0 w v gs) :
    Calls Try.prog 6 #[dkV p c v] w fun e w' => e = .returned (.bool true) ∧ Below w.heap.size w w' := by
  obtain ⟨a, cap, hv⟩ : ∃ a cap, v = .slice a gs.length cap := by obtain ⟨a, cap, _, hv, _⟩ := h; exact ⟨a, cap, hv⟩
  have hge := szSS_ge (gs.map Gs.code) 1048576 (by omega)
  have H64 := Lib.hid h.in64
  have hb0 : Below w.heap.size w (w.alloc (.cells #[.int .i64 p, .int .i64 c, v] 44)) := (Below.refl _ _).alloc (Nat.le_refl _) _
  have hg0 : (w.alloc (.cells #[.int .i64 p, .int .i64 c, v] 44)).heap[w.heap.size]? = some (.cells #[.int .i64 p, .int .i64 c, v] 44 (0, 0)) := heap_alloc_new w _
  have hS := szDesk_any p c v gs 1048576 _ (h.below hb0) (by omega) (by omega)
  have HD := Lib.hid (fun v => show dkV p c v = .agg #[.int .i64 p, .int .i64 c, v] from rfl)
  rw [HD.out v]
  rw [HD.out v, hv] at hS
  obtain ⟨r, hr⟩ : ∃ r, r = szSS (gs.map Gs.code) 1048576 := ⟨_, rfl⟩
  rw [← hr] at hS hge
  have HR := Lib.hid hr
  clear hr
  subst hv
  have HB0 := Lib.hid hb0
  have HG0 := Lib.hid hg0
  have HH := Lib.hid (h.below hb0)
  clear h hb0 hg0
  by_cases hs : r < 0
  · go_enter Try.func6, Try.ntmps6
    go_wp2_with fail
    refine hS.mono ?_
    rintro e w1 ⟨rfl, hb1⟩
    have HB1 := Lib.hid (HB0.out.trans (hb1.mono HB0.out.size))
    clear hS hb1
    go_wp2
    go_ret
    exact ⟨rfl, HB1.out⟩
  · have HSZ := Lib.hid (szG_bound (gs := gs) (l := 1048576) (by rw [← HR.out]; omega) (by omega) (by omega))
    go_enter Try.func6, Try.ntmps6
    go_wp2_with fail
    refine hS.mono ?_
    rintro e w1 ⟨rfl, hb1⟩
    have HX1 := Lib.hid (show w1.heap[w.heap.size]? = _ from (hb1.block _ (by simp)).trans HG0.out)
    have HB1 := Lib.hid (HB0.out.trans (hb1.mono HB0.out.size))
    have HH1 := Lib.hid (HH.out.below hb1)
    have x0 := cell_of_row _ _ 0 _ _ (0, 0) HX1.out
    have x1 := cell_of_row _ _ 1 _ _ (0, 0) HX1.out
    have x2 := cell_of_row _ _ 2 _ _ (0, 0) HX1.out
    simp only [List.getElem?_toArray, List.getElem?_cons_zero, List.getElem?_cons_succ] at x0 x1 x2
    clear hS hb1 HH HG0
    go_wp2_with fail
    have hT := toDesk_any p c _ gs w1 HH1.out HSZ.out.1 HSZ.out.2
    rw [HD.out] at hT
    refine hT.mono ?_
    rintro e w2 ⟨a2, c2, rfl, ho2, hb2⟩
    have HB2 := Lib.hid (HB1.out.trans (hb2.mono HB1.out.size))
    have HH2 := Lib.hid (HH1.out.below hb2)
    have HX2 := Lib.hid (show w2.heap[w.heap.size]? = _ from (hb2.block _ (Array.getElem?_eq_some_iff.1 HX1.out).1).trans HX1.out)
    have HO2 := Lib.hid (ho2.toGL H64.out)
    clear hT ho2 hb2 x0 x1 x2
    rw [HD.out]
    go_wp2_with fail
    have hT := deskOkS_any p c _ gs w2 HO2.out
    rw [HD.out] at hT
    refine hT.mono ?_
    rintro e w3 ⟨rfl, hb3⟩
    have HB3 := Lib.hid (HB2.out.trans (hb3.mono HB2.out.size))
    have HH3 := Lib.hid (HH2.out.below hb3)
    have HX3 := Lib.hid (show w3.heap[w.heap.size]? = _ from (hb3.block _ (Array.getElem?_eq_some_iff.1 HX2.out).1).trans HX2.out)
    clear hT hb3
    have x0 := cell_of_row _ _ 0 _ _ (0, 0) HX3.out
    have x1 := cell_of_row _ _ 1 _ _ (0, 0) HX3.out
    have x2 := cell_of_row _ _ 2 _ _ (0, 0) HX3.out
    simp only [List.getElem?_toArray, List.getElem?_cons_zero, List.getElem?_cons_succ] at x0 x1 x2
    obtain ⟨b, hb⟩ : ∃ b, b = deskB p c gs := ⟨_, rfl⟩
    rw [← hb]
    have HBB := Lib.hid hb
    clear hb
    go_wp2_with fail
    have hT := toDesk_any p c _ gs w3 HH3.out HSZ.out.1 HSZ.out.2
    rw [HD.out] at hT
    refine hT.mono ?_
    rintro e w4 ⟨a4, c4, rfl, ho4, hb4⟩
    have HB4 := Lib.hid (HB3.out.trans (hb4.mono HB3.out.size))
    have HH4 := Lib.hid (HH3.out.below hb4)
    have HX4 := Lib.hid (show w4.heap[w.heap.size]? = _ from (hb4.block _ (Array.getElem?_eq_some_iff.1 HX3.out).1).trans HX3.out)
    have HO4 := Lib.hid (ho4.toGL H64.out)
    clear hT ho4 hb4 x0 x1 x2
    rw [HD.out]
    go_wp2_with fail
    have ha := DeskAt.new w4 p c (.slice a4 gs.length c4)
    have hba : Below w4.heap.size w4 (w4.alloc (.cells #[.int .i64 p, .int .i64 c, .slice a4 gs.length c4] 27)) := (Below.refl _ _).alloc (Nat.le_refl _) _
    obtain ⟨wa, hwa⟩ : ∃ x, x = w4.alloc (.cells #[.int .i64 p, .int .i64 c, .slice a4 gs.length c4] 27) := ⟨_, rfl⟩
    rw [← hwa] at ha hba ⊢
    have HBA := Lib.hid (HB4.out.trans (hba.mono HB4.out.size))
    have HHA := Lib.hid (HH4.out.below hba)
    have HOA := Lib.hid (HO4.out.below hba)
    have HXA := Lib.hid (show wa.heap[w.heap.size]? = _ from (hba.block _ (Array.getElem?_eq_some_iff.1 HX4.out).1).trans HX4.out)
    obtain ⟨ga, hga⟩ : ∃ x, x = w4.heap.size := ⟨_, rfl⟩
    rw [← hga] at ha ⊢
    clear hwa hba hga
    have hT := deskOkI_any p c _ gs wa HOA.out
    rw [HD.out, ← HBB.out] at hT
    refine hT.mono ?_
    rintro e w5 ⟨rfl, hb5⟩
    have HB5 := Lib.hid (HBA.out.trans (hb5.mono HBA.out.size))
    have HH5 := Lib.hid (HHA.out.below hb5)
    have HO5 := Lib.hid (HOA.out.below hb5)
    have HX5 := Lib.hid (show w5.heap[w.heap.size]? = _ from (hb5.block _ (Array.getElem?_eq_some_iff.1 HXA.out).1).trans HXA.out)
    have HA5 := Lib.hid (ha.below hb5)
    clear hT hb5 ha
    have x0 := cell_of_row _ _ 0 _ _ (0, 0) HX5.out
    have x1 := cell_of_row _ _ 1 _ _ (0, 0) HX5.out
    have x2 := cell_of_row _ _ 2 _ _ (0, 0) HX5.out
    simp only [List.getElem?_toArray, List.getElem?_cons_zero, List.getElem?_cons_succ] at x0 x1 x2
    obtain ⟨y0, y1, y2⟩ := HA5.out.cells
    have hbb : (b != b) = false := by simp
    go_wp2_with fail
    have HT := Lib.hid (fun (W : World) (hb : Below w5.heap.size w5 W) => (show Calls Try.prog 30 #[.agg #[.int .i64 p, .int .i64 c, .slice a gs.length cap]] W (fun e W' => ∃ a6 c6, e = .returned (.agg #[.int .i64 p, .int .i64 c, .slice a6 gs.length c6]) ∧ GL 0 W' (.slice a6 gs.length c6) gs ∧ Below w5.heap.size w5 W' ∧
        W'.cell? ⟨ga, 0, none⟩ = some (.int .i64 p) ∧ W'.cell? ⟨ga, 1, none⟩ = some (.int .i64 c) ∧ W'.cell? ⟨ga, 2, none⟩ = some (.slice a4 gs.length c4)) from by
      have hT := toDesk_any p c _ gs W (HH5.out.below hb) HSZ.out.1 HSZ.out.2
      rw [HD.out] at hT
      refine hT.mono ?_
      rintro e W' ⟨a6, c6, rfl, ho6, hb6⟩
      have hB := hb.trans (hb6.mono hb.size)
      obtain ⟨q0, q1, q2⟩ := (HA5.out.below hB).cells
      exact ⟨a6, c6, by rw [HD.out], (ho6.toGL H64.out).mono (Nat.zero_le _), hB, q0, q1, q2⟩))
    have HE := Lib.hid (fun (W : World) (a6 : Option Addr) (c6 : Nat) (h1 : GL 0 W (.slice a6 gs.length c6) gs) (hb : Below w5.heap.size w5 W) => (show Calls Try.prog 31 #[.agg #[.int .i64 p, .int .i64 c, .slice a4 gs.length c4], .agg #[.int .i64 p, .int .i64 c, .slice a6 gs.length c6]] W (fun e W' => e = .returned (.bool true) ∧ Below w5.heap.size w5 W') from by
      have hE := eqDesk_self p c _ _ gs W (HO5.out.below hb) h1
      rw [HD.out, HD.out] at hE
      exact hE.mono fun e W' ⟨he, hb'⟩ => ⟨he, hb.trans (hb'.mono hb.size)⟩))
    go_region_with (first
      | (go_at_call 30; refine (HT.out _ (by first | exact Below.refl _ _ | exact below_drew1 _ | exact below_drew2 _)).mono ?_; rintro e w6 ⟨a6, c6, rfl, hg6, hb6, z0, z1, z2⟩)
      | (go_at_call 31; refine (HE.out _ _ _ (by first | assumption | exact GL.drew (by assumption) | exact GL.drew (GL.drew (by assumption))) (by first | assumption | exact Below.drew' (by assumption) | exact Below.drew' (Below.drew' (by assumption)))).mono ?_; rintro e w7 ⟨rfl, hb7⟩))
    all_goals
      go_wp2
      go_ret
      exact ⟨rfl, HB5.out.trans (Below.mono (by assumption) HB5.out.size)⟩

end Go.Proofs.Ytkjdlpbfalojdaa
