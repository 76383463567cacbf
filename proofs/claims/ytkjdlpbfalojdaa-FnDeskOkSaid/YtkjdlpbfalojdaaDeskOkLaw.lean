/- The walk of FnDeskOk. -/
import Derived.Test.YtkjdlpbfalojdaaDrawDesk
import Derived.Test.YtkjdlpbfalojdaaAlive
namespace Go.Proofs.Ytkjdlpbfalojdaa
open Go.RowKit
set_option linter.unusedVariables false
set_option maxRecDepth 100000

theorem deskB_codes {p c : Int} {gs : List Gs} (h : deskB p c gs = true) : codesB p c = true := by
  cases hg : guessesB p c gs
  · rw [deskB_no hg] at h; cases h
  · unfold guessesB at hg
    rw [Bool.and_eq_true] at hg
    exact hg.1

theorem drawDeskOk_any {B : Nat} (v : Value) (bs : List Int) (w : World) (h : Bytes B w v bs) :
    Calls Try.prog 24 #[v] w fun e w' => ∃ (x c : Int) (gs : List Gs) (a' : Option Addr) (c' : Nat), e = .returned (dkV x c (.slice a' gs.length c')) ∧ GL w.heap.size w' (.slice a' gs.length c') gs ∧ Below w.heap.size w w' := by
  obtain ⟨a0, cap0, rfl, _⟩ := id h.1
  rw [List.length_map] at h ⊢
  obtain ⟨w1, hw1⟩ : ∃ w1, w1 = w.alloc (.cells #[.int .i64 0, .int .i64 0, .slice none 0 0] 27) := ⟨_, rfl⟩
  have hb1 : Below w.heap.size w w1 := by rw [hw1]; exact (Below.refl _ _).alloc (Nat.le_refl _) _
  have hr1 : w1.heap[w.heap.size]? = some (.cells #[.int .i64 0, .int .i64 0, .slice none 0 0] 27 (0, 0)) := by rw [hw1]; exact heap_alloc_new w _
  have hO := open_any _ bs w1 (h.below hb1)
  have HB1 := Lib.hid hb1
  have HR1 := Lib.hid hr1
  have hz1 := hb1.size
  have hlt1 : w.heap.size < w1.heap.size := (Array.getElem?_eq_some_iff.1 hr1).1
  clear h hb1 hr1
  go_enter Try.func24, Try.ntmps24
  go_wp2_with fail
  rw [← hw1]
  clear hw1
  refine hO.mono ?_
  rintro e w2 ⟨a, cap, bs1, rfl, hR2, hb2⟩
  have HB2 := Lib.hid (HB1.out.trans (hb2.mono hz1))
  have HR2 := Lib.hid ((hb2.block _ hlt1).trans HR1.out)
  have hz2 := hb2.size
  have hG := desk_any 2 w2 _ a cap bs1 0 hR2 (by omega) (by omega) (by omega)
  clear hO hb2 hR2
  go_wp2_with fail
  refine hG.mono ?_
  rintro e w3 ⟨x, c, gs, a', c', rfl, ho, h64, _, _, _, _, _, _, _, hg3⟩
  have hR3 : w3.heap[w.heap.size]? = some (.cells #[.int .i64 0, .int .i64 0, .slice none 0 0] 27 (0, 0)) := by rw [hg3.block _ (by omega) (by simp; omega)]; exact HR2.out
  have HO := Lib.hid ((ho.toGL h64).below ((((Below.refl w3.heap.size w3)))))
  have HOW := Lib.hid ho
  have H64 := Lib.hid h64
  have HB3 := Lib.hid (HB2.out.grown hg3 HB2.out.size (fun j hj => by cases hj; exact hz1))
  have d0 := cell_of_row _ _ 0 _ _ (0, 0) hR3
  have d1 := cell_of_row _ _ 1 _ _ (0, 0) hR3
  have d2 := cell_of_row _ _ 2 _ _ (0, 0) hR3
  have k1 : ∀ j, w3.frozen? ⟨w.heap.size, j, none⟩ = false := fun j => frozen_of_row _ _ j _ _ hR3
  simp only [List.getElem?_toArray, List.getElem?_cons_zero, List.getElem?_cons_succ] at d0 d1 d2
  have HQ := Lib.hid (heap_setCell_same _ _ 2 _ _ (.slice a' gs.length c') (heap_setCell_same _ _ 1 _ _ (.int .i64 c) (heap_setCell_same _ _ 0 _ _ (.int .i64 x) hR3)))
  unfold dkV
  clear hG ho h64 hg3 hR3
  go_wp2
  ((try simp only [Exit.inBlock, Exit.then]); refine bodyPost_ret (results_cell_row rfl _ _ w.heap.size _ _ (0, 0) _ rfl HQ.out Try.underlying27 rfl (by kernel_rfl)) rfl ?_)
  refine ⟨x, c, gs, a', c', rfl, ((HOW.out.keep (fun b hb hlt => ?_)).toGL H64.out).mono (by omega), ?_⟩
  · rw [heap_setCell_other _ _ _ _ (by simp; omega), heap_setCell_other _ _ _ _ (by simp; omega), heap_setCell_other _ _ _ _ (by simp; omega)]
  · exact ((HB3.out.setCell (p := ⟨w.heap.size, 0, none⟩) (by simp) _).setCell (p := ⟨w.heap.size, 1, none⟩) (by simp) _).setCell (p := ⟨w.heap.size, 2, none⟩) (by simp) _

set_option maxHeartbeats 1000000 in
theorem FnDeskOk_walk (v : Value) (bs : List Int) (w : World) (h : Bytes 0 w v bs) :
    Calls Try.prog 4 #[v] w fun e w' => e = .returned (.bool true) ∧ Below w.heap.size w w' := by
  obtain ⟨a0, cap0, rfl, hc1, hc2, hc3⟩ := id h.1
  rw [List.length_map] at h ⊢
  clear hc1 hc2 hc3
  have hDr := drawDeskOk_any _ bs w h
  clear h
  by_cases hs : 1048576 < bs.length
  · go_enter Try.func4, Try.ntmps4
    go_wp2
    go_ret
    exact ⟨rfl, Below.refl _ _⟩
  · go_enter Try.func4, Try.ntmps4
    go_wp2_with fail
    refine hDr.mono ?_
    rintro e w1 ⟨x, c, gs, a1, c1, rfl, hg1, hb1⟩
    have HB1 := Lib.hid hb1
    have HG1 := Lib.hid hg1
    have HDK := Lib.hid (fun v => show dkV x c v = .agg #[.int .i64 x, .int .i64 c, v] from rfl)
    have HI := Lib.hid (fun (W : World) (h : GL w.heap.size W (.slice a1 gs.length c1) gs) => deskOkI_any x c _ gs W h)
    have HS := Lib.hid (fun (W : World) (h : GL w.heap.size W (.slice a1 gs.length c1) gs) => deskOkS_any x c _ gs W h)
    have HCD := Lib.hid (fun h => deskB_codes (p := x) (c := c) (gs := gs) h)
    obtain ⟨b, hb⟩ : ∃ b, b = deskB x c gs := ⟨_, rfl⟩
    rw [← hb] at HI HS HCD
    rw [HDK.out] at HI HS ⊢
    clear hDr hb1 hg1 hb
    go_wp2_with fail
    obtain ⟨wa, hwa⟩ : ∃ z, z = w1.alloc (.cells #[.int .i64 x, .int .i64 c, .slice a1 gs.length c1] 27) := ⟨_, rfl⟩
    have ha : wa.heap[w1.heap.size]? = some (.cells #[.int .i64 x, .int .i64 c, .slice a1 gs.length c1] 27 (0, 0)) := by rw [hwa]; exact heap_alloc_new w1 _
    have hba : Below w1.heap.size w1 wa := by rw [hwa]; exact (Below.refl _ _).alloc (Nat.le_refl _) _
    rw [← hwa]
    obtain ⟨ga, hga⟩ : ∃ z, z = w1.heap.size := ⟨_, rfl⟩
    rw [← hga] at ha ⊢
    have HBA := Lib.hid (HB1.out.trans (hba.mono HB1.out.size))
    have HGA := Lib.hid (HG1.out.below hba)
    clear hwa hba hga
    refine (HI.out wa HGA.out).mono ?_
    rintro e w2 ⟨rfl, hb2⟩
    have HX2 := Lib.hid (show w2.heap[ga]? = _ from (hb2.block _ (Array.getElem?_eq_some_iff.1 ha).1).trans ha)
    have HB2 := Lib.hid (HBA.out.trans (hb2.mono HBA.out.size))
    have HG2 := Lib.hid (HGA.out.below hb2)
    have x0 := cell_of_row _ _ 0 _ _ (0, 0) HX2.out
    have x1 := cell_of_row _ _ 1 _ _ (0, 0) HX2.out
    have x2 := cell_of_row _ _ 2 _ _ (0, 0) HX2.out
    simp only [List.getElem?_toArray, List.getElem?_cons_zero, List.getElem?_cons_succ] at x0 x1 x2
    clear HI hb2 ha HGA
    go_wp2_with fail
    refine (HS.out w2 HG2.out).mono ?_
    rintro e w3 ⟨rfl, hb3⟩
    have HX3 := Lib.hid (show w3.heap[ga]? = _ from (hb3.block _ (Array.getElem?_eq_some_iff.1 HX2.out).1).trans HX2.out)
    have HB3 := Lib.hid (HB2.out.trans (hb3.mono HB2.out.size))
    clear HS hb3 x0 x1 x2 HG2 HG1
    have x0 := cell_of_row _ _ 0 _ _ (0, 0) HX3.out
    have x1 := cell_of_row _ _ 1 _ _ (0, 0) HX3.out
    have x2 := cell_of_row _ _ 2 _ _ (0, 0) HX3.out
    simp only [List.getElem?_toArray, List.getElem?_cons_zero, List.getElem?_cons_succ] at x0 x1 x2
    have hbb : (b != b) = false := by simp
    have HZ := Lib.hid (fun (W : World) => show Calls Try.prog 21 #[.agg #[.int .i64 0, .int .i64 0, .slice none 0 0]] W (fun e W' => e = .returned (.bool false) ∧ Below W.heap.size W W') from by
      have := deskOkI_any 0 0 (.slice none 0 0) [] W (GL.nil 0 W)
      rw [deskB_new] at this
      exact this)
    cases b
    · go_wp2_with fail
      refine (HZ.out w3).mono ?_
      rintro e w4 ⟨rfl, hb4⟩
      have HB4 := Lib.hid (HB3.out.trans (hb4.mono HB3.out.size))
      clear hb4
      go_wp2_with fail
      refine (alive_any _).mono ?_
      rintro e w5 ⟨rfl, rfl⟩
      go_wp2
      go_ret
      exact ⟨rfl, HB4.out⟩
    · have HC := Lib.hid (fun (W : World) => show Calls Try.prog 21 #[.agg #[.int .i64 x, .int .i64 c, .slice none 0 0]] W (fun e W' => e = .returned (.bool true) ∧ Below W.heap.size W W') from by
        have := deskOkI_any x c (.slice none 0 0) [] W (GL.nil 0 W)
        rw [deskB_new, HCD.out rfl] at this
        exact this)
      go_wp2_with fail
      refine (HC.out w3).mono ?_
      rintro e w4 ⟨rfl, hb4⟩
      have HB4 := Lib.hid (HB3.out.trans (hb4.mono HB3.out.size))
      clear hb4 x0 x1 x2
      go_wp2_with fail
      refine (HZ.out w4).mono ?_
      rintro e w5 ⟨rfl, hb5⟩
      have HB5 := Lib.hid (HB4.out.trans (hb5.mono HB4.out.size))
      clear hb5
      go_wp2_with fail
      refine (alive_any _).mono ?_
      rintro e w6 ⟨rfl, rfl⟩
      go_wp2
      go_ret
      exact ⟨rfl, HB5.out⟩

end Go.Proofs.Ytkjdlpbfalojdaa
