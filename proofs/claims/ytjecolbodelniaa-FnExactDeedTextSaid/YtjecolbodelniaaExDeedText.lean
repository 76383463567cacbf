/- The walk of FnExactDeedText. -/
import Derived.Test.YtjecolbodelniaaTextI
import Derived.Test.YtjecolbodelniaaBunF
import Derived.Test.YtjecolbodelniaaKeep
import Derived.Deep.RegionHeld3
namespace Go.Proofs.Ytjecolbodelniaa
open Go.RowKit
set_option linter.unusedVariables false
set_option maxRecDepth 100000

set_option maxHeartbeats 4000000 in
theorem FnExactDeedText_walk (b : Bool) (u : Value) (xs : List Int) (r n : Int) (w : World) (h : Ints 0 w u xs) :
    Calls Try.prog 7 #[dV b u r n] w fun e w' => e = .returned (.bool true) ∧ Below w.heap.size w w' := by
  have HX64 := Lib.hid h.2
  obtain ⟨au, cu, rfl, hmax, _⟩ := h.opened
  obtain ⟨wa, hwa⟩ : ∃ z, z = w.alloc (.cells #[.bool b, .slice au xs.length cu, .int .i64 r, .int .i64 n] 46) := ⟨_, rfl⟩
  have hba : Below w.heap.size w wa := by rw [hwa]; exact (Below.refl _ _).alloc (Nat.le_refl _) _
  have hAA : At wa w.heap.size (.cells #[.bool b, .slice au xs.length cu, .int .i64 r, .int .i64 n] 46) := by rw [hwa]; exact At.new w _
  have HDD := Lib.hid (fun b v r n => show dV b v r n = .agg #[.bool b, v, .int .i64 r, .int .i64 n] from rfl)
  have hS := szDeed_any b _ xs r n 1048576 wa (h.below hba) (by omega) (by omega)
  have HIN := Lib.hid (h.below hba)
  have HAA := Lib.hid hAA
  have HB := Lib.hid hba
  have K0 := Lib.hid (Kp.refl 0 wa)
  have hge : ¬ (szR xs 1048576 < 0) → xs.length ≤ 1048576 := by
    intro q
    unfold szR at q
    split at q <;> omega
  obtain ⟨r1, hr1⟩ : ∃ q, q = szR xs 1048576 := ⟨_, rfl⟩
  rw [← hr1] at hS hge
  rw [HDD.out] at hS
  rw [HDD.out]
  clear h hba hAA hr1
  go_enter Try.func7, Try.ntmps7
  go_wp2_with fail
  rw [← hwa]
  clear hwa
  refine hS.mono ?_
  rintro e w1 ⟨rfl, hb1⟩
  replace K0 := Lib.hid (K0.out.below hb1)
  replace HB := Lib.hid (HB.out.trans (hb1.mono HB.out.size))
  clear hS hb1
  by_cases hs1 : r1 < 0
  · go_wp2
    go_ret
    exact ⟨rfl, HB.out⟩
  have hxl := hge (by omega)
  have HTE := Lib.hid (show ∀ W, Ints 0 W (.slice au xs.length cu) xs → Calls Try.prog 19 #[.agg #[.bool b, .slice au xs.length cu, .int .i64 r, .int .i64 n]] W (DeedOut b xs r n W) from fun W q => toDeed_any b _ xs r n W q (by omega))
  have HEE := Lib.hid (fun (B C : Nat) (v v' : Value) (W : World) (q1 : Ints B W v xs) (q2 : Ints C W v' xs) => eqDeed_self b v v' xs r n W q1 q2)
  have HJS := Lib.hid (fun (B : Nat) (v : Value) (W : World) (q : OwnI B W v xs) => deedTextS_any b v xs r n W (q.toInts HX64.out))
  have HJI := Lib.hid (fun (B : Nat) (v : Value) (W : World) (q : OwnI B W v xs) => deedTextI_any b v xs r n W (q.toInts HX64.out))
  obtain ⟨L, hL⟩ : ∃ L, L = textD ⟨b, xs, r, n⟩ := ⟨_, rfl⟩
  rw [← hL] at HJS HJI
  clear hL hge
  obtain ⟨y0, y1, y2, y3⟩ := (K0.out.at_ HAA.out (Nat.zero_le _)).four
  go_wp2_with fail
  refine (HTE.out _ (K0.out.ints HIN.out)).mono ?_
  rintro e w2 ⟨a2, c2, rfl, ho2, hb2⟩
  rw [HDD.out]
  replace K0 := Lib.hid (K0.out.below hb2)
  replace HB := Lib.hid (HB.out.trans (hb2.mono HB.out.size))
  have hT := HJS.out _ _ w2 ho2
  rw [HDD.out] at hT
  clear y0 y1 y2 y3
  go_wp2_with fail
  refine hT.mono ?_
  rintro e w3 ⟨rfl, hb3⟩
  replace K0 := Lib.hid (K0.out.below hb3)
  replace HB := Lib.hid (HB.out.trans (hb3.mono HB.out.size))
  obtain ⟨y0, y1, y2, y3⟩ := (K0.out.at_ HAA.out (Nat.zero_le _)).four
  clear hT ho2 hb2 hb3
  unfold strV
  go_wp2_with fail
  refine (HTE.out _ (K0.out.ints HIN.out)).mono ?_
  rintro e w4 ⟨a4, c4, rfl, ho4, hb4⟩
  rw [HDD.out]
  replace K0 := Lib.hid (K0.out.below hb4)
  replace HB := Lib.hid (HB.out.trans (hb4.mono HB.out.size))
  clear y0 y1 y2 y3
  obtain ⟨wq, hwq⟩ : ∃ z, z = w4.alloc (.cells #[.bool b, .slice a4 xs.length c4, .int .i64 r, .int .i64 n] 30) := ⟨_, rfl⟩
  have hbq : Below w4.heap.size w4 wq := by rw [hwq]; exact (Below.refl _ _).alloc (Nat.le_refl _) _
  have hq : At wq w4.heap.size (.cells #[.bool b, .slice a4 xs.length c4, .int .i64 r, .int .i64 n] 30) := by rw [hwq]; exact At.new _ _
  have HO := Lib.hid (show OwnI w3.heap.size wq _ _ from owns_below ho4 hbq)
  replace K0 := Lib.hid (K0.out.below hbq)
  replace HB := Lib.hid (HB.out.trans (hbq.mono HB.out.size))
  have hT := HJI.out _ _ wq HO.out
  rw [HDD.out] at hT
  have HQ := Lib.hid hq
  clear ho4 hb4 hbq hq
  go_wp2_with fail
  rw [← hwq]
  clear hwq
  refine hT.mono ?_
  rintro e w5 ⟨rfl, hb5⟩
  obtain ⟨T, hTT⟩ : ∃ z, z = w4.heap.size := ⟨_, rfl⟩
  rw [← hTT] at HQ ⊢
  replace K0 := Lib.hid (K0.out.below hb5)
  replace HB := Lib.hid (HB.out.trans (hb5.mono HB.out.size))
  replace HO := Lib.hid (show OwnI w3.heap.size w5 _ _ from owns_below HO.out hb5)
  replace HQ := Lib.hid (HQ.out.below hb5)
  obtain ⟨y0, y1, y2, y3⟩ := (K0.out.at_ HAA.out (Nat.zero_le _)).four
  obtain ⟨u0, u1, u2, u3⟩ := HQ.out.four
  have hz0 := (K0.out.at_ HAA.out (Nat.zero_le _)).lt
  have hzt := HQ.out.lt
  clear hT hb5 hTT
  unfold strV
  go_wp2_with fail
  go_region_held3 (fun w' => w'.cell? ⟨T, 0, none⟩ = some (.bool b) ∧ w'.cell? ⟨T, 1, none⟩ = some (.slice a4 xs.length c4) ∧ w'.cell? ⟨T, 2, none⟩ = some (.int .i64 r) ∧ w'.cell? ⟨T, 3, none⟩ = some (.int .i64 n) ∧ w'.cell? ⟨w.heap.size, 0, none⟩ = some (.bool b) ∧ w'.cell? ⟨w.heap.size, 1, none⟩ = some (.slice au xs.length cu) ∧ w'.cell? ⟨w.heap.size, 2, none⟩ = some (.int .i64 r) ∧ w'.cell? ⟨w.heap.size, 3, none⟩ = some (.int .i64 n))
    (first
      | go_keep
      | (go_split_ands; exact ⟨(hbA.cell (by simp; omega)).trans (by assumption), (hbA.cell (by simp; omega)).trans (by assumption), (hbA.cell (by simp; omega)).trans (by assumption), (hbA.cell (by simp; omega)).trans (by assumption), (hbA.cell (by simp; omega)).trans (by assumption), (hbA.cell (by simp; omega)).trans (by assumption), (hbA.cell (by simp; omega)).trans (by assumption), (hbA.cell (by simp; omega)).trans (by assumption)⟩)
      | (go_split_ands; exact ⟨(hbB.cell (by simp; omega)).trans (by assumption), (hbB.cell (by simp; omega)).trans (by assumption), (hbB.cell (by simp; omega)).trans (by assumption), (hbB.cell (by simp; omega)).trans (by assumption), (hbB.cell (by simp; omega)).trans (by assumption), (hbB.cell (by simp; omega)).trans (by assumption), (hbB.cell (by simp; omega)).trans (by assumption), (hbB.cell (by simp; omega)).trans (by assumption)⟩))
    (first
      | (go_at_call 19; refine (HTE.out _ (show Ints 0 w5.drew _ _ from K0.out.ints HIN.out)).mono ?_; rintro e wA ⟨aA, cA, rfl, hoA, hbA⟩; rw [HDD.out]; have HKA := Lib.hid (show Below w5.heap.size w5 wA from (below_drw _).trans hbA); have HOA := Lib.hid hoA; have hzA := hbA.size; simp at hzA; clear hoA)
      | (go_at_call 21; have hT := HEE.out _ _ _ _ wA ((show OwnI w3.heap.size wA _ _ from owns_below HO.out HKA.out).toInts HX64.out) (HOA.out.toInts HX64.out); rw [HDD.out, HDD.out] at hT; refine hT.mono ?_; clear hT; rintro e wB ⟨rfl, hbB⟩; have HKB := Lib.hid (HKA.out.trans (hbB.mono HKA.out.size)); have hzB := hbB.size)
      | fail)
  go_wp2
  go_ret
  exact ⟨rfl, HB.out.trans (HKB.out.mono HB.out.size)⟩

end Go.Proofs.Ytjecolbodelniaa
