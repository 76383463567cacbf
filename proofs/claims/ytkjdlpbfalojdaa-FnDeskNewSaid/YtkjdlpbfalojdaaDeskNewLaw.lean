/- The walk of FnDeskNew. -/
import Derived.Test.YtkjdlpbfalojdaaDrawG
import Derived.Test.YtkjdlpbfalojdaaSameG
import Derived.Test.YtkjdlpbfalojdaaAlive
namespace Go.Proofs.Ytkjdlpbfalojdaa
open Go.RowKit Go.Shelf
set_option linter.unusedVariables false
set_option maxRecDepth 100000

theorem fitL_nil_length {n m : Nat} (h : codesB n m = true) : (fitL n m []).length = (allL m n).length := by
  have hg : guessesB n m [] = true := by unfold guessesB; rw [h]; simp
  unfold fitL
  rw [if_pos hg]
  unfold allP
  simp [fitsB]

set_option maxHeartbeats 4000000 in
theorem FnDeskNew_walk (v : Value) (bs : List Int) (w : World) (h : Bytes 0 w v bs) :
    Calls Try.prog 3 #[v] w fun e w' => e = .returned (.bool true) ∧ Below w.heap.size w w' := by
  obtain ⟨a0, cap0, rfl, hc1, hc2, hc3⟩ := id h.1
  rw [List.length_map] at h ⊢
  clear hc1 hc2 hc3
  have hDr := drawDeskNew_any _ bs w h
  clear h
  by_cases hs : 1048576 < bs.length
  · go_enter Try.func3, Try.ntmps3
    go_wp2
    go_ret
    exact ⟨rfl, Below.refl _ _⟩
  · go_enter Try.func3, Try.ntmps3
    go_wp2_with fail
    refine hDr.mono ?_
    rintro e w1 ⟨x, y, rfl, hx0, hx1, hy0, hy1, hb1⟩
    have HB1 := Lib.hid hb1
    clear hDr hb1
    have HI := Lib.hid (deskNewI_any x y w1)
    have HS := Lib.hid (fun W => deskNewS_any x y W)
    cases hk : codesB x y
    · unfold newV at HI HS
      rw [hk] at HI HS
      simp only [Bool.false_eq_true, if_false] at HI HS
      have HD := Lib.hid (show dkV 0 0 (.slice none 0 0) = .agg #[.int .i64 0, .int .i64 0, .slice none 0 0] from rfl)
      rw [HD.out] at HI HS
      clear hk
      go_wp2_with fail
      refine HI.out.mono ?_
      rintro e w2 ⟨rfl, hb2⟩
      have HB2 := Lib.hid (HB1.out.trans (hb2.mono HB1.out.size))
      clear HI hb2
      go_wp2_with fail
      obtain ⟨wa, hwa⟩ : ∃ z, z = w2.alloc (.cells #[.int .i64 0, .int .i64 0, .slice none 0 0] 27) := ⟨_, rfl⟩
      have ha : wa.heap[w2.heap.size]? = some (.cells #[.int .i64 0, .int .i64 0, .slice none 0 0] 27 (0, 0)) := by rw [hwa]; exact heap_alloc_new w2 _
      have hba : Below w2.heap.size w2 wa := by rw [hwa]; exact (Below.refl _ _).alloc (Nat.le_refl _) _
      rw [← hwa]
      obtain ⟨ga, hga⟩ : ∃ z, z = w2.heap.size := ⟨_, rfl⟩
      rw [← hga] at ha ⊢
      have HBA := Lib.hid (HB2.out.trans (hba.mono HB2.out.size))
      clear hwa hba hga
      refine (HS.out wa).mono ?_
      rintro e w3 ⟨rfl, hb3⟩
      have HX3 := Lib.hid (show w3.heap[ga]? = _ from (hb3.block _ (Array.getElem?_eq_some_iff.1 ha).1).trans ha)
      have HB3 := Lib.hid (HBA.out.trans (hb3.mono HBA.out.size))
      have hg3 : ga < w3.heap.size := (Array.getElem?_eq_some_iff.1 HX3.out).1
      have x0 := cell_of_row _ _ 0 _ _ (0, 0) HX3.out
      have x1 := cell_of_row _ _ 1 _ _ (0, 0) HX3.out
      have x2 := cell_of_row _ _ 2 _ _ (0, 0) HX3.out
      simp only [List.getElem?_toArray, List.getElem?_cons_zero, List.getElem?_cons_succ] at x0 x1 x2
      clear HS hb3 ha
      go_wp2_with fail
      have hE := sameDesk_self 0 0 (.slice none 0 0) (.slice none 0 0) [] (w3.alloc (.cells #[.int .i64 0, .int .i64 0, .slice none 0 0] 27)) (GL.nil 0 _) (GL.nil 0 _)
      rw [HD.out] at hE
      have HX4 := Lib.hid (show (w3.alloc (.cells #[.int .i64 0, .int .i64 0, .slice none 0 0] 27)).heap[ga]? = _ from (heap_alloc_old w3 _ hg3).trans HX3.out)
      have HB4 := Lib.hid (HB3.out.alloc HB3.out.size (.cells #[.int .i64 0, .int .i64 0, .slice none 0 0] 27))
      refine hE.mono ?_
      rintro e w5 ⟨rfl, hb5⟩
      have HX5 := Lib.hid (show w5.heap[ga]? = _ from (hb5.block _ (by rw [World.size_alloc]; omega)).trans HX4.out)
      have HB5 := Lib.hid (HB4.out.trans (hb5.mono HB4.out.size))
      clear x0 x1 x2 hE hb5
      have x0 := cell_of_row _ _ 0 _ _ (0, 0) HX5.out
      have x1 := cell_of_row _ _ 1 _ _ (0, 0) HX5.out
      have x2 := cell_of_row _ _ 2 _ _ (0, 0) HX5.out
      simp only [List.getElem?_toArray, List.getElem?_cons_zero, List.getElem?_cons_succ] at x0 x1 x2
      go_wp2_with fail
      have hN := noDesk_zero w5
      rw [HD.out] at hN
      refine hN.mono ?_
      rintro e w6 ⟨rfl, hb6⟩
      have HB6 := Lib.hid (HB5.out.trans (hb6.mono HB5.out.size))
      clear hN hb6 x0 x1 x2
      go_wp2_with fail
      refine (alive_any _).mono ?_
      rintro e w7 ⟨rfl, rfl⟩
      go_wp2
      go_ret
      exact ⟨rfl, HB6.out⟩
    · unfold newV at HI HS
      obtain ⟨n, m, rfl, rfl, hn3, hm5⟩ := own_nat (codesB_iff.1 hk)
      rw [hk] at HI HS
      simp only [if_true] at HI HS
      have HD := Lib.hid (show dkV n m (.slice none 0 0) = .agg #[.int .i64 n, .int .i64 m, .slice none 0 0] from rfl)
      rw [HD.out] at HI HS
      have HK := Lib.hid hk
      have HLL := Lib.hid (fitL_nil_length hk)
      clear hk
      go_wp2_with fail
      refine HI.out.mono ?_
      rintro e w2 ⟨rfl, hb2⟩
      have HB2 := Lib.hid (HB1.out.trans (hb2.mono HB1.out.size))
      clear HI hb2
      go_wp2_with fail
      obtain ⟨wa, hwa⟩ : ∃ z, z = w2.alloc (.cells #[.int .i64 n, .int .i64 m, .slice none 0 0] 27) := ⟨_, rfl⟩
      have ha : wa.heap[w2.heap.size]? = some (.cells #[.int .i64 n, .int .i64 m, .slice none 0 0] 27 (0, 0)) := by rw [hwa]; exact heap_alloc_new w2 _
      have hba : Below w2.heap.size w2 wa := by rw [hwa]; exact (Below.refl _ _).alloc (Nat.le_refl _) _
      rw [← hwa]
      obtain ⟨ga, hga⟩ : ∃ z, z = w2.heap.size := ⟨_, rfl⟩
      rw [← hga] at ha ⊢
      have HBA := Lib.hid (HB2.out.trans (hba.mono HB2.out.size))
      clear hwa hba hga
      refine (HS.out wa).mono ?_
      rintro e w3 ⟨rfl, hb3⟩
      have HX3 := Lib.hid (show w3.heap[ga]? = _ from (hb3.block _ (Array.getElem?_eq_some_iff.1 ha).1).trans ha)
      have HB3 := Lib.hid (HBA.out.trans (hb3.mono HBA.out.size))
      have hg3 : ga < w3.heap.size := (Array.getElem?_eq_some_iff.1 HX3.out).1
      have x0 := cell_of_row _ _ 0 _ _ (0, 0) HX3.out
      have x1 := cell_of_row _ _ 1 _ _ (0, 0) HX3.out
      have x2 := cell_of_row _ _ 2 _ _ (0, 0) HX3.out
      simp only [List.getElem?_toArray, List.getElem?_cons_zero, List.getElem?_cons_succ] at x0 x1 x2
      clear HS hb3 ha
      go_wp2_with fail
      have hE := sameDesk_self n m (.slice none 0 0) (.slice none 0 0) [] (w3.alloc (.cells #[.int .i64 n, .int .i64 m, .slice none 0 0] 27)) (GL.nil 0 _) (GL.nil 0 _)
      rw [HD.out] at hE
      have HX4 := Lib.hid (show (w3.alloc (.cells #[.int .i64 n, .int .i64 m, .slice none 0 0] 27)).heap[ga]? = _ from (heap_alloc_old w3 _ hg3).trans HX3.out)
      have HB4 := Lib.hid (HB3.out.alloc HB3.out.size (.cells #[.int .i64 n, .int .i64 m, .slice none 0 0] 27))
      refine hE.mono ?_
      rintro e w5 ⟨rfl, hb5⟩
      have HX5 := Lib.hid (show w5.heap[ga]? = _ from (hb5.block _ (by rw [World.size_alloc]; omega)).trans HX4.out)
      have HB5 := Lib.hid (HB4.out.trans (hb5.mono HB4.out.size))
      clear x0 x1 x2 hE hb5
      have x0 := cell_of_row _ _ 0 _ _ (0, 0) HX5.out
      have x1 := cell_of_row _ _ 1 _ _ (0, 0) HX5.out
      have x2 := cell_of_row _ _ 2 _ _ (0, 0) HX5.out
      simp only [List.getElem?_toArray, List.getElem?_cons_zero, List.getElem?_cons_succ] at x0 x1 x2
      go_wp2_with fail
      have hO := deskOkI_any n m (.slice none 0 0) [] w5 (GL.nil 0 _)
      rw [HD.out, deskB_new, HK.out] at hO
      refine hO.mono ?_
      rintro e w6 ⟨rfl, hb6⟩
      have HX6 := Lib.hid (show w6.heap[ga]? = _ from (hb6.block _ (Array.getElem?_eq_some_iff.1 HX5.out).1).trans HX5.out)
      have HB6 := Lib.hid (HB5.out.trans (hb6.mono HB5.out.size))
      clear hO hb6 x0 x1 x2
      have x0 := cell_of_row _ _ 0 _ _ (0, 0) HX6.out
      have x1 := cell_of_row _ _ 1 _ _ (0, 0) HX6.out
      have x2 := cell_of_row _ _ 2 _ _ (0, 0) HX6.out
      simp only [List.getElem?_toArray, List.getElem?_cons_zero, List.getElem?_cons_succ] at x0 x1 x2
      go_wp2_with fail
      refine (fitI_any n m (.slice none 0 0) [] w6 (GL.nil 0 _)).mono ?_
      rintro e w7 ⟨a7, c7, rfl, _, hb7⟩
      have HB7 := Lib.hid (HB6.out.trans (hb7.mono HB6.out.size))
      rw [HLL.out]
      obtain ⟨N, hN⟩ : ∃ N, N = (allL m n).length := ⟨_, rfl⟩
      have HN := Lib.hid hN
      rw [← hN]
      clear hb7 x0 x1 x2 hN
      go_wp2_with fail
      refine (allCodesI_any n m w7 (codesB_iff.1 HK.out)).mono ?_
      rintro e w8 ⟨a8, c8, rfl, _, hb8⟩
      have HB8 := Lib.hid (HB7.out.trans (hb8.mono HB7.out.size))
      rw [← HN.out]
      have hNN : ((N : Int) == (N : Int)) = true := by simp
      clear hb8
      go_wp2
      go_ret
      exact ⟨rfl, HB8.out⟩

end Go.Proofs.Ytkjdlpbfalojdaa
