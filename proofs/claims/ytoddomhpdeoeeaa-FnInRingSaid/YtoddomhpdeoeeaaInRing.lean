/- spec.InRing. -/
import Derived.Test.YtoddomhpdeoeeaaInRow
namespace Go.Proofs.Ytoddomhpdeoeeaa
open Go.RowKit
set_option linter.unusedVariables false

theorem ring_of_row {n : Nat} (h0 : 3 ≤ n) (h1 : n ≤ 6) :
    ((lineR n false).set 0 ((rowR n false 0).set (n - 1) 1)).set (n - 1) ((rowR n false (n - 1)).set 0 1) = lineR n true := by
  have : n = 3 ∨ n = 4 ∨ n = 5 ∨ n = 6 := by omega
  rcases this with rfl | rfl | rfl | rfl <;> decide

set_option maxHeartbeats 1000000 in
theorem specInRing_any (boxes : Int) (w : World) : Calls Try.prog 48 #[.int .i64 boxes] w (FreshII (inRingR boxes) w) := by
  by_cases h : 3 ≤ boxes ∧ boxes ≤ 6
  · obtain ⟨n, rfl⟩ := Int.eq_ofNat_of_zero_le (show 0 ≤ boxes by omega)
    have hI : inB (n : Int) 3 6 = true := by simp [inB]; omega
    have HE := Lib.hid (show inRingR (n : Int) = lineR n true by unfold inRingR; rw [if_pos h]; simp)
    have hS := specInRow_any (n : Int) w
    have e : inRowR (n : Int) = lineR n false := by unfold inRowR; rw [if_pos (by omega)]; simp
    rw [e] at hS
    have h3 : 3 ≤ n := by omega
    have h6 : n ≤ 6 := by omega
    have HR := Lib.hid (ring_of_row h3 h6)
    clear h e
    go_enter Try.func48, Try.ntmps48
    go_wp2_with fail
    refine (l1In_any _ _ _ _).mono ?_
    rintro e w' ⟨rfl, rfl⟩
    go_wp2_with fail
    refine hS.mono ?_
    rintro e w2 ⟨a, cap, rfl, ho, hb⟩
    rw [lineR_length] at ho ⊢
    obtain ⟨g, rfl, hB⟩ := ho.head (by simp; omega)
    have l0 : (lineR n false)[0]'(by simp; omega) = rowR n false 0 := lineR_get _ _ _ _
    obtain ⟨g1, c1, hc1, hB1, hp1, hq1, hx1, hf1, hs1⟩ := ho.elem 0 (by simp; omega) (by rw [l0]; simp; omega)
    have hs := hs1 (n - 1) 1
    rw [l0] at hs
    obtain ⟨x1, hx1⟩ : ∃ x1, w2.cell? ⟨g1, n - 1, none⟩ = some (.int .i64 x1) := ⟨_, hx1 (n - 1) (by rw [l0]; simp; omega)⟩
    have hf1 := hf1 (n - 1)
    rw [l0, rowR_length] at hc1 hp1
    have l1 : ((lineR n false).set 0 ((rowR n false 0).set (n - 1) 1))[n - 1]'(by simp; omega) = rowR n false (n - 1) := by rw [List.getElem_set_ne (by omega), lineR_get]
    obtain ⟨g2, c2, hc2, hB2, hp2, hq2, hx2, hf2, hs2⟩ := hs.elem (n - 1) (by simp; omega) (by rw [l1]; simp; omega)
    have hss := hs2 0 1
    rw [l1] at hss
    obtain ⟨x2, hx2⟩ : ∃ x2, (w2.setCell ⟨g1, n - 1, none⟩ (.int .i64 1)).cell? ⟨g2, 0, none⟩ = some (.int .i64 x2) := ⟨_, hx2 0 (by rw [l1]; simp; omega)⟩
    have hf2 := hf2 0
    rw [l1, rowR_length] at hc2 hp2
    have HS := Lib.hid hss
    have HB := Lib.hid ((hb.setCell (p := ⟨g1, n - 1, none⟩) hB1 (.int .i64 1)).setCell (p := ⟨g2, 0, none⟩) hB2 (.int .i64 1))
    clear hss hs hs1 hs2 l0 l1 hb ho
    go_wp2
    go_ret
    exact ⟨_, _, by rw [HE.out, lineR_length]; rfl, by rw [HE.out, lineR_length, ← HR.out]; exact HS.out, HB.out⟩
  · have hI : inB boxes 3 6 = false := by simp [inB]; omega
    have HE := Lib.hid (show inRingR boxes = [] by unfold inRingR; rw [if_neg h])
    have HO := Lib.hid (OwnII.lit w)
    clear h
    go_enter Try.func48, Try.ntmps48
    go_wp2_with (first | (go_at_call 51; refine (l1In_any _ _ _ _).mono ?_; rintro e w' ⟨rfl, rfl⟩))
    go_ret
    exact ⟨_, 0, by rw [HE.out]; rfl, by rw [HE.out]; exact HO.out, (Below.refl _ _).alloc (Nat.le_refl _) _⟩

end Go.Proofs.Ytoddomhpdeoeeaa
