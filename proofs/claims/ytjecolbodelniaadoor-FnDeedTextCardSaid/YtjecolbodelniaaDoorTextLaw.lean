/- The law FnDeedText, walked. -/
import Derived.Test.YtjecolbodelniaaDoorDrawText
import Derived.Test.YtjecolbodelniaaDoorSameD
import Derived.Test.YtjecolbodelniaaDoorReadI
import Derived.Test.YtjecolbodelniaaDoorAlive
namespace Go.Proofs.YtjecolbodelniaaDoor
open Go.RowKit
set_option linter.unusedVariables false
set_option maxRecDepth 100000

set_option maxHeartbeats 4000000 in
theorem FnDeedText_walk {B : Nat} (v : Value) (bs : List Int) (w : World) (hm : MaxIs w) (h : Bytes B w v bs) :
    Calls Tryd.prog 5 #[v] w fun e w' => e = .returned (.bool true) ∧ Below w.heap.size w w' := by
  have hD0 := drawDeedText_any v bs w h
  obtain ⟨a0, cap0, rfl, _⟩ := id h.1
  rw [List.length_map] at hD0 ⊢
  clear h
  by_cases hbig : (1048576 : Int) < (bs.length : Int)
  · clear hD0
    go_enter Tryd.func5, Tryd.ntmps5
    go_wp2
    go_ret
    exact ⟨rfl, Below.refl _ _⟩
  · have HM := Lib.hid hm
    clear hm
    go_enter Tryd.func5, Tryd.ntmps5
    go_wp2_with fail
    refine hD0.mono ?_
    rintro e w1 ⟨b, ys, r, n, a, c, rfl, ho, hy, hl, hb1⟩
    obtain ⟨w2, hw2⟩ : ∃ z, z = w1.alloc (.cells #[.bool b, .slice a ys.length c, .int .i64 r, .int .i64 n] 26) := ⟨_, rfl⟩
    have hb12 : Below w1.heap.size w1 w2 := by rw [hw2]; exact (Below.refl _ _).alloc (Nat.le_refl _) _
    have HR := Lib.hid (show w2.heap[w1.heap.size]? = some (.cells #[.bool b, .slice a ys.length c, .int .i64 r, .int .i64 n] 26 (0, 0)) by rw [hw2]; exact heap_alloc_new w1 _)
    have HB2 := Lib.hid (hb1.trans (hb12.mono hb1.size))
    have HI2 := Lib.hid ((OwnI.below ho hb12).toInts hy)
    have hT := deedTextI_any b _ ys r n w2 HI2.out
    have HREAD := Lib.hid (show ∀ l, textD ⟨b, ys, r, n⟩ = l → l ≠ [] → readD l = some ⟨b, ys, r, n⟩ from fun l q1 q2 => readD_iff.2 ⟨q1, q2⟩)
    have hlen := textD_len ⟨b, ys, r, n⟩
    have HT2 := Lib.hid (fun W (q : Ints w.heap.size W (.slice a ys.length c) ys) => deedTextS_any b _ ys r n W q)
    obtain ⟨T, hTT⟩ : ∃ T, T = textD ⟨b, ys, r, n⟩ := ⟨_, rfl⟩
    rw [← hTT] at hT HREAD hlen HT2
    unfold TextOut strV dV at hT
    unfold TextOut strV dV at HT2
    obtain ⟨x0, x1, x2, x3⟩ := deed_cells HR.out
    clear hD0 ho hy hb1 hb12 hTT hbig
    go_upto_region 4 with fail
    rw [← hw2]
    clear hw2
    go_wp2_with fail
    refine hT.mono ?_
    rintro e w3 ⟨rfl, hb3⟩
    have HB3 := Lib.hid (HB2.out.trans (hb3.mono HB2.out.size))
    have HR3 := Lib.hid ((hb3.block _ (Array.getElem?_eq_some_iff.1 HR.out).1).trans HR.out)
    have HI3 := Lib.hid (HI2.out.below hb3)
    have hT2 := HT2.out w3 HI3.out
    obtain ⟨x0, x1, x2, x3⟩ := deed_cells HR3.out
    clear hT hb3
    go_wp2_with fail
    refine hT2.mono ?_
    rintro e w4 ⟨rfl, hb4⟩
    have HB4 := Lib.hid (HB3.out.trans (hb4.mono HB3.out.size))
    have HR4 := Lib.hid ((hb4.block _ (Array.getElem?_eq_some_iff.1 HR3.out).1).trans HR3.out)
    have HI4 := Lib.hid (HI3.out.below hb4)
    have hsame : (T == T) = true := by simp
    clear hT2 hb4 x0 x1 x2 x3
    by_cases hE : T = []
    · have hA := alive_any w4
      have hEE : (T == []) = true := by simp [hE]
      subst hE
      clear hlen
      go_wp2_with fail
      refine hA.mono ?_
      rintro e w5 ⟨rfl, rfl⟩
      clear hA
      go_wp2
      go_ret
      exact ⟨rfl, HB4.out⟩
    · have hEE : (T == []) = false := by simpa using hE
      obtain ⟨q1, q2⟩ := rd_some (HREAD.out T rfl hE)
      have hI := readDeedI_any T w4 (by omega) (HM.out.below HB4.out)
      unfold ReadOut strV dV at hI
      rw [q1, q2] at hI
      clear q1 q2 hE hlen
      go_wp2_with fail
      refine hI.mono ?_
      rintro e w5 ⟨a5, k5, rfl, ho5, hb5⟩
      try simp only at ho5
      obtain ⟨w6, hw6⟩ : ∃ z, z = w5.alloc (.cells #[.bool b, .slice a5 ys.length k5, .int .i64 r, .int .i64 n] 26) := ⟨_, rfl⟩
      have hb56 : Below w5.heap.size w5 w6 := by rw [hw6]; exact (Below.refl _ _).alloc (Nat.le_refl _) _
      have HR6 := Lib.hid (show w6.heap[w5.heap.size]? = some (.cells #[.bool b, .slice a5 ys.length k5, .int .i64 r, .int .i64 n] 26 (0, 0)) by rw [hw6]; exact heap_alloc_new w5 _)
      have hb46 := hb5.trans (hb56.mono hb5.size)
      have HB6 := Lib.hid (HB4.out.trans (hb46.mono HB4.out.size))
      have HRA := Lib.hid ((hb46.block _ (Array.getElem?_eq_some_iff.1 HR4.out).1).trans HR4.out)
      have hS := sameDeed_self b _ _ ys r n w6 ((OwnI.below ho5 hb56).toInts HI4.out.2) (HI4.out.below hb46) hb46.size HB6.out.size
      obtain ⟨x0, x1, x2, x3⟩ := deed_cells HR6.out
      obtain ⟨y0, y1, y2, y3⟩ := deed_cells HRA.out
      clear hI ho5 hb5 hb56 hb46
      go_upto_region 10 with fail
      rw [← hw6]
      clear hw6
      go_wp2_with fail
      refine hS.mono ?_
      rintro e w7 ⟨rfl, hb7⟩
      have HB7 := Lib.hid (HB6.out.trans (hb7.mono HB6.out.size))
      clear hS hb7
      go_wp2
      go_ret
      exact ⟨rfl, HB7.out⟩

end Go.Proofs.YtjecolbodelniaaDoor
