/- worst and ask of the program, with their map of known lots. -/
import Derived.Test.YtpeogghiboaceaaDepths
import Derived.Test.YtpeogghiboaceaaNeed2
namespace Go.Proofs.Ytpeogghiboaceaa
open Go.RowKit
set_option linter.unusedVariables false
set_option maxRecDepth 100000

/-- The search's table and map, as the program hands them on. -/
def depV (v : Value) (bm : Nat) : Value := .agg #[v, .map (some bm)]

set_option maxHeartbeats 2000000 in
theorem worst_any {B : Nat} (v : Value) (xss : List (List Int)) (hT : tableB xss = true) (bm L q : Nat) (hL : L < 2 ^ xss.length) (hq : q < asks xss) (w : World) (hrows : Rows2 B w v xss) (hm : Memo xss bm w) :
    Calls Try.prog 76 #[.agg #[v, .map (some bm)], .int .i64 L, .int .i64 q] w (Needs xss bm (worI xss L q) w) := by
  have hn := tableB_len hT
  have hL7 := lot_128 hn.2 hL
  obtain ⟨ad, cap, rfl, hcap, hmax, V, hcells, hV⟩ := hrows.opened
  obtain ⟨w1, hw1⟩ : ∃ w1, w1 = w.alloc (.cells #[.slice ad xss.length cap, .map (some bm)] 64) := ⟨_, rfl⟩
  have hb1 : Below w.heap.size w w1 := by rw [hw1]; exact (Below.refl _ _).alloc (Nat.le_refl _) _
  have hm1 := hm.below hb1
  have hLots := lots_any _ xss L q w1 (hrows.below hb1) hT hL hq
  unfold threeV at hLots
  have hbx0 : w1.cell? ⟨w.heap.size, 0, none⟩ = some (.slice ad xss.length cap) := by rw [hw1]; exact cell_of_row _ _ 0 _ _ (0, 0) (heap_alloc_new w _)
  have hbx1 : w1.cell? ⟨w.heap.size, 1, none⟩ = some (.map (some bm)) := by rw [hw1]; exact cell_of_row _ _ 1 _ _ (0, 0) (heap_alloc_new w _)
  have HB1 := Lib.hid hb1
  have HM1 := Lib.hid hm1
  have HR1 := Lib.hid (hrows.below hb1)
  clear hcells hV hrows hm hm1 hb1
  go_enter Try.func76, Try.ntmps76
  go_wp2_with fail
  rw [← hw1]
  have HW1 := Lib.hid hw1
  clear hw1
  refine hLots.mono ?_
  rintro e w2 ⟨rfl, hb2⟩
  have hc0 := (Above.of_below (B := 0) hb2).cell (Nat.zero_le _) hbx0
  have hc1 := (Above.of_below (B := 0) hb2).cell (Nat.zero_le _) hbx1
  have HM2 := Lib.hid (HM1.out.below hb2)
  have HR2 := Lib.hid (HR1.out.below hb2)
  have HB2 := Lib.hid (HB1.out.trans (hb2.mono HB1.out.size))
  clear hLots hb2 hbx0 hbx1
  go_wp2
  go_loopw [7, 8, 17] (fun b m i wr => ∃ j : Nat, j ≤ 3 ∧ i = .int .i64 j ∧ b = .int .i64 (worK xss L q j).1 ∧ m = .int .i64 (worK xss L q j).2 ∧ Memo xss bm wr ∧ w2.grownBy wr (some bm)) (fun _ _ i _ => 3 - (intOf i).toNat)
  case atStart => exact ⟨0, Nat.zero_le _, rfl, rfl, rfl, HM2.out, World.grownBy.refl _ _⟩
  case round =>
    obtain ⟨j, hj, rfl, rfl, rfl, hmi, hgi⟩ := hrel
    have hci0 := HM2.out.cell hgi hc0
    have hci1 := HM2.out.cell hgi hc1
    have hrng := worK_rng xss q j hL7
    by_cases hjl : j < 3
    · have hpl := partN_le xss L q j
      have hrec := needed_any _ xss hT bm (partN xss L q j + 1) (partN xss L q j) (by omega) (partN_lt xss L q j) _ (HR2.out.cells (fun p u => HM2.out.cell hgi)) hmi
      have hrr := need_rng xss (partN xss L q j)
      have hidx := fun W => index_three xss L q j hjl W
      have hH := @worK_hit xss L q j
      have hN := @worK_miss xss L q j
      obtain ⟨P, hP⟩ : ∃ P, P = partN xss L q j := ⟨_, rfl⟩
      rw [← hP] at hrec hrr hidx hpl hH hN
      obtain ⟨b, hb⟩ : ∃ b, b = (worK xss L q j).1 := ⟨_, rfl⟩
      obtain ⟨m, hm⟩ : ∃ m, m = (worK xss L q j).2 := ⟨_, rfl⟩
      rw [← hm] at hH hN
      rw [← hb, ← hm] at hrng ⊢
      have HBM := Lib.hid (show worK xss L q j = (b, m) by rw [hb, hm])
      obtain ⟨r, hr⟩ : ∃ r, r = need xss P := ⟨_, rfl⟩
      rw [← hr] at hrec hrr hH hN
      have HH := Lib.hid hH
      have HN := Lib.hid hN
      have HGi := Lib.hid hgi
      have hj3 : (j : Int) < 3 := by omega
      clear hgi hmi hP hr hb hm hH hN
      go_wp2_with fail
      refine hrec.mono ?_
      rintro e w5 ⟨rfl, hm5, hg5⟩
      have HM5 := Lib.hid hm5
      have HG5 := Lib.hid hg5
      clear hm5 hg5 hrec hci0 hci1 hidx
      by_cases hp0 : 0 < P
      · have hd : decide ((0 : Int) < (P : Int)) = true := by simp; omega
        have hd' : decide (0 < P) = true := by simp; omega
        by_cases hmr : m < r
        · have hd2 : decide (m < r) = true := decide_eq_true hmr
          go_wp2
          go_roundw
          case rel => exact ⟨j + 1, by omega, by go_num, by rw [HH.out hp0 hmr], by rw [HH.out hp0 hmr], HM5.out, grown_then HGi.out HG5.out⟩
          case measure => simp [intOf]; omega
        · have hd2 : decide (m < r) = false := decide_eq_false hmr
          go_wp2
          go_roundw
          case rel => exact ⟨j + 1, by omega, by go_num, by rw [HN.out (by omega), HBM.out], by rw [HN.out (by omega), HBM.out], HM5.out, grown_then HGi.out HG5.out⟩
          case measure => simp [intOf]; omega
      · have hd : decide ((0 : Int) < (P : Int)) = false := by simp; omega
        have hd' : decide (0 < P) = false := by simp; omega
        go_wp2
        go_roundw
        case rel => exact ⟨j + 1, by omega, by go_num, by rw [HN.out (by omega), HBM.out], by rw [HN.out (by omega), HBM.out], HM5.out, grown_then HGi.out HG5.out⟩
        case measure => simp [intOf]; omega
    · obtain rfl : j = 3 := by omega
      have HMi := Lib.hid hmi
      have HGi := Lib.hid (grown_then (grown_any (row := some bm) HB2.out) hgi)
      clear hmi hgi hci0 hci1
      go_wp2
      go_ret
      exact ⟨rfl, HMi.out, HGi.out⟩

end Go.Proofs.Ytpeogghiboaceaa
