/- The reference's ReadJournal. -/
import Derived.Test.YtjecolbodelniaaDoorReadJI
namespace Go.Proofs.YtjecolbodelniaaDoor
open Go.RowKit
set_option linter.unusedVariables false
set_option maxRecDepth 100000

set_option maxHeartbeats 4000000 in
theorem readJS_any (l : List UInt8) (w : World) (hl : l.length ≤ 4000000) :
    Calls Tryd.prog 13 #[strV l] w (JOut l w) := by
  unfold strV
  have HS := Lib.hid (show JAt l w 0 [] (some ⟨w.heap.size, 0, none⟩) 0 (w.alloc (.cells #[] 26)) from ⟨Nat.zero_le _, by simp, OwnD.lit w, Nat.le_refl _, (Below.refl _ _).alloc (Nat.le_refl _) _⟩)
  go_enter Tryd.func13, Tryd.ntmps13
  go_wp2
  go_loopw [4, 5, 6] (fun s f i wr => ∃ (j k : Nat) (ds : List Dd) (a : Option Addr) (cap : Nat), i = .int .i64 j ∧ f = .int .i64 k ∧ s = .slice a ds.length cap ∧ j ≤ l.length ∧ k ≤ j ∧ (∀ b ∈ (l.drop k).take (j - k), b ≠ 10) ∧ JAt l w k ds a cap wr) (fun _ _ i _ => l.length - (intOf i).toNat)
  case atStart => exact ⟨0, 0, [], _, 0, rfl, rfl, rfl, Nat.zero_le _, Nat.le_refl _, by simp, HS.out⟩
  case round =>
    obtain ⟨j, k, ds, a, cap, rfl, rfl, rfl, hj, hkj, hno, hat⟩ := hrel
    obtain ⟨wk, rfl⟩ : ∃ x, x = wr := ⟨_, rfl⟩
    have HAT := Lib.hid hat
    have HNO := Lib.hid hno
    clear HS hat hno
    by_cases hlt : j < l.length
    · have hj0 : (0 : Int) ≤ (j : Int) := by omega
      have hj1 : (j : Int) < (l.length : Int) := by omega
      have hj2 : (j : Int) ≤ (l.length : Int) := by omega
      have hk0 : (0 : Int) ≤ (k : Int) := by omega
      have hk1 : (k : Int) ≤ (j : Int) := by omega
      have hx := byte_at l j hlt
      by_cases hc : l[j] = 10
      · have hx' : ∀ W : World, (Instr.index 9 (.string ⟨l.toArray⟩) (.int .i64 j)).run Tryd.prog W = .ok (.int .u8 10) W := by
          intro W
          rw [hx W, hc]
          rfl
        have hut := piece_cut hkj hlt
        rw [hc] at hut
        obtain ⟨u, hu⟩ : ∃ u, u = (l.drop k).take (j - k) := ⟨_, rfl⟩
        have HEX := Lib.hid (show (ByteArray.mk l.toArray).extract k j = ByteArray.mk u.toArray by rw [hu]; exact ByteArray.extract_mk l k j)
        have hul : u.length = j - k := by rw [hu, List.length_take, List.length_drop]; omega
        rw [← hu] at hut HNO
        have HUT := Lib.hid hut
        have hI := readDeedS_any u wk (by omega)
        unfold strV at hI
        clear hx hc hut hu
        rcases hd : readD u with _ | d
        · obtain ⟨hd1, hd2⟩ := rd_none hd
          have HEND := Lib.hid (show readJ (l.drop k) = ([], 0) by rw [HUT.out, readJ_no HNO.out hd])
          unfold ReadOut at hI
          rw [hd1, hd2] at hI
          clear hd hd1 hd2
          go_wp2_with fail
          rw [HEX.out]
          refine hI.mono ?_
          rintro e w3 ⟨a3, k3, rfl, ho3, hb3⟩
          have HA3 := Lib.hid ((HAT.out.below hb3).below (wr' := w3.alloc (.cells #[.bool false, .slice a3 0 k3, .int .i64 0, .int .i64 0] 26)) ((Below.refl _ _).alloc (Nat.le_refl _) _))
          unfold dV
          clear hI ho3 hb3
          go_wp2
          go_ret2
          exact HA3.out.out HEND.out
        · obtain ⟨hd1, hd2⟩ := rd_some hd
          have HD := Lib.hid hd
          unfold ReadOut at hI
          rw [hd1, hd2] at hI
          clear hd hd1 hd2
          go_wp2_with fail
          rw [HEX.out]
          refine hI.mono ?_
          rintro e w3 ⟨a3, k3, rfl, ho3, hb3⟩
          obtain ⟨b, ys, r, n⟩ := d
          simp only at ho3
          unfold dV
          obtain ⟨w4, hw4⟩ : ∃ z, z = w3.alloc (.cells #[.bool b, .slice a3 ys.length k3, .int .i64 r, .int .i64 n] 26) := ⟨_, rfl⟩
          have hb34 : Below w3.heap.size w3 w4 := by rw [hw4]; exact (Below.refl _ _).alloc (Nat.le_refl _) _
          have hrow : w4.heap[w3.heap.size]? = some (.cells #[.bool b, .slice a3 ys.length k3, .int .i64 r, .int .i64 n] 26 (0, 0)) := by rw [hw4]; exact heap_alloc_new w3 _
          obtain ⟨x0, x1, x2, x3⟩ := deed_cells hrow
          have hb24 := hb3.trans (hb34.mono hb3.size)
          have HA4 := Lib.hid (HAT.out.below hb24)
          have hbG : Below w4.heap.size w4 (w4.alloc (.cells #[.bool b, .slice a3 ys.length k3, .int .i64 r, .int .i64 n] 26)) := (Below.refl _ _).alloc (Nat.le_refl _) _
          have hoG := owns_below (owns_below ho3 hb34) hbG
          have HOA := Lib.hid (HA4.out.2.2.1.below hbG)
          have HUA := Lib.hid (show OwnI w.heap.size _ _ _ from OwnI.mono hoG HAT.out.2.2.2.2.size)
          have HDI := Lib.hid (deed_oldA HAT.out.2.2.1 (above_step (.of_below hb24) hb24.size (.of_below hbG)) hoG)
          have HCC := Lib.hid (heap_alloc_new w4 (.cells #[.bool b, .slice a3 ys.length k3, .int .i64 r, .int .i64 n] 26))
          have HSZ := Lib.hid (show w.heap.size ≤ (w4.alloc (.cells #[.bool b, .slice a3 ys.length k3, .int .i64 r, .int .i64 n] 26)).heap.size by rw [World.size_alloc]; have := HA4.out.2.2.2.2.size; omega)
          have hdk := HAT.out.2.2.2.1
          clear hI ho3 hb3 hb34 hb24 hbG hoG hrow
          go_upto_region 8 with fail
          rw [← hw4]
          clear hw4
          go_wp2_with (at_builtin; refine wpList_push_d (w4.alloc (.cells #[.bool b, .slice a3 ys.length k3, .int .i64 r, .int .i64 n] 26)) rfl (.tmp 32) (.tmp 34) rfl w.heap.size (.slice a ds.length cap) ds rfl HOA.out w4.heap.size 1 (.slice a3 ys.length k3) ⟨b, ys, r, n⟩ rfl HCC.out HUA.out HDI.out (by omega) HSZ.out ?_; intro a7 c7 w7 ho7 hg7; have HB7 := Lib.hid (((HA4.out.2.2.2.2.alloc HA4.out.2.2.2.2.size _).grown hg7 (by have := HSZ.out; omega) (fun q hq => (OwnD.lt HOA.out q hq).1))); have HO7 := Lib.hid ho7; clear ho7 hg7)
          have HNX := Lib.hid (HAT.out.next HUT.out HNO.out HD.out HO7.out HB7.out)
          rw [show k + (u.length + 1) = j + 1 by omega] at HNX
          go_roundw
          case rel => exact ⟨j + 1, j + 1, ds ++ [⟨b, ys, r, n⟩], a7, c7, by go_num, by go_num, by simp, by omega, Nat.le_refl _, by simp, HNX.out⟩
          case measure => simp [intOf]; omega
      · have HN := Lib.hid (show ∀ b ∈ (l.drop k).take (j + 1 - k), b ≠ 10 from fun b hb => by
          rw [piece_next hkj hlt] at hb
          rcases List.mem_append.1 hb with q | q
          · exact HNO.out b q
          · rw [List.mem_singleton.1 q]; exact hc)
        have hne : ¬ ((l[j].toNat : Int) = 10) := fun e => hc (UInt8.toNat_inj.1 (by have : (10 : UInt8).toNat = 10 := rfl; omega))
        obtain ⟨x, hxx⟩ : ∃ x, x = l[j].toNat := ⟨_, rfl⟩
        rw [← hxx] at hx hne
        clear hc hxx HNO
        go_wp2
        go_roundw
        case rel => exact ⟨j + 1, k, ds, a, cap, by go_num, rfl, rfl, by omega, by omega, HN.out, HAT.out⟩
        case measure => simp [intOf]; omega
    · have hjl : j = l.length := by omega
      have HEND := Lib.hid (show readJ (l.drop k) = ([], 0) from readJ_end (fun b hb => HNO.out b (by rw [List.take_of_length_le (by rw [List.length_drop]; omega)]; exact hb)))
      clear HNO
      go_wp2
      go_ret2
      exact HAT.out.out HEND.out

end Go.Proofs.YtjecolbodelniaaDoor
