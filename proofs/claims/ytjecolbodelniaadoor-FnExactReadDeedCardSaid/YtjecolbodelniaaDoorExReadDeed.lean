/- The exact law of ReadDeed, walked. -/
import Derived.Test.YtjecolbodelniaaDoorReadS
import Derived.Test.YtjecolbodelniaaDoorHeldD
namespace Go.Proofs.YtjecolbodelniaaDoor
open Go.RowKit
set_option linter.unusedVariables false
set_option maxRecDepth 100000

/-- What a reading leaves, in letters. -/
def ROut (b : Bool) (xs : List Int) (r n : Int) (ok : Bool) (w : World) (e : Ending) (w' : World) : Prop :=
  ∃ a cap, e = .returned (.tuple #[.agg #[.bool b, .slice a xs.length cap, .int .i64 r, .int .i64 n], .bool ok]) ∧ OwnI w.heap.size w' (.slice a xs.length cap) xs ∧ Below w.heap.size w w'
theorem readOut_form (l : List UInt8) : ∃ b xs r n ok, xs.length ≤ 3 ∧ (∀ y ∈ xs, In64 y) ∧ ∀ w e w', ReadOut l w e w' → ROut b xs r n ok w e w' := by
  refine ⟨(rdD l).back, (rdD l).code, (rdD l).right, (rdD l).near, rdB l, (rd_code l).1, fun y hy => ?_, fun w e w' h => h⟩
  have := (rd_code l).2 y hy
  unfold In64; omega
/-- A deed's row is made. -/
theorem row_new (w : World) (b : Bool) (v : Value) (r n : Int) : (w.alloc (.cells #[.bool b, v, .int .i64 r, .int .i64 n] 26)).heap[w.heap.size]? = some (.cells #[.bool b, v, .int .i64 r, .int .i64 n] 26 (0, 0)) := heap_alloc_new w _
theorem row_of {w z : World} {b : Bool} {v : Value} {r n : Int} (h : z = w.alloc (.cells #[.bool b, v, .int .i64 r, .int .i64 n] 26)) : z.heap[w.heap.size]? = some (.cells #[.bool b, v, .int .i64 r, .int .i64 n] 26 (0, 0)) := by rw [h]; exact row_new w b v r n
theorem row_keep {w w' : World} {g : Nat} {o : Obj} (hb : Below w.heap.size w w') (h : w.heap[g]? = some o) : w'.heap[g]? = some o := (hb.block _ (Array.getElem?_eq_some_iff.1 h).1).trans h
theorem row_lt {w : World} {g : Nat} {o : Obj} (h : w.heap[g]? = some o) : g < w.heap.size := (Array.getElem?_eq_some_iff.1 h).1

set_option maxHeartbeats 4000000 in
theorem FnExactReadDeed_walk (l : List UInt8) (w : World) (hm : MaxIs w) :
    Calls Tryd.prog 3 #[strV l] w fun e w' => e = .returned (.bool true) ∧ Below w.heap.size w w' := by
  obtain ⟨b, xs, r, n, ok, hx3, h64, hform⟩ := readOut_form l
  unfold strV
  by_cases hbig : (1048576 : Int) < (l.length : Int)
  · go_enter Tryd.func3, Tryd.ntmps3
    go_wp2
    go_ret
    exact ⟨rfl, Below.refl _ _⟩
  · have hS : Calls Tryd.prog 8 #[.string ⟨l.toArray⟩] w (ROut b xs r n ok w) := (readDeedS_any l w (by omega)).mono (hform w)
    have HI := Lib.hid (show ∀ W, MaxIs W → Calls Tryd.prog 9 #[.string ⟨l.toArray⟩] W (ROut b xs r n ok W) from fun W q => (readDeedI_any l W (by omega) q).mono (hform W))
    have H64 := Lib.hid h64
    have HM := Lib.hid hm
    have hok : (ok != ok) = false := by simp
    clear hform h64 hm
    go_enter Tryd.func3, Tryd.ntmps3
    go_wp2_with fail
    refine hS.mono ?_
    rintro e w1 ⟨a0, k0, rfl, ho0, hb1⟩
    obtain ⟨w2, hw2⟩ : ∃ z, z = w1.alloc (.cells #[.bool b, .slice a0 xs.length k0, .int .i64 r, .int .i64 n] 26) := ⟨_, rfl⟩
    have hb12 : Below w1.heap.size w1 w2 := by rw [hw2]; exact (Below.refl _ _).alloc (Nat.le_refl _) _
    have HB2 := Lib.hid (hb1.trans (hb12.mono hb1.size))
    have HR0 := Lib.hid (row_of hw2)
    have HO0 := Lib.hid (OwnI.below ho0 hb12)
    have hI := HI.out w2 (HM.out.below HB2.out)
    clear hS ho0 hb1 hb12 hbig
    go_wp2_with fail
    rw [← hw2]
    clear hw2
    refine hI.mono ?_
    rintro e w3 ⟨a1, k1, rfl, ho1, hb3⟩
    obtain ⟨w4, hw4⟩ : ∃ z, z = w3.alloc (.cells #[.bool b, .slice a1 xs.length k1, .int .i64 r, .int .i64 n] 26) := ⟨_, rfl⟩
    have hb34 : Below w3.heap.size w3 w4 := by rw [hw4]; exact (Below.refl _ _).alloc (Nat.le_refl _) _
    have HB24 := Lib.hid (hb3.trans (hb34.mono hb3.size))
    have HR1 := Lib.hid (row_of hw4)
    have HR0' := Lib.hid HR0.out
    have HR0 := Lib.hid (row_keep HB24.out HR0.out)
    have HO1 := Lib.hid (OwnI.below ho1 hb34)
    have HO0' := Lib.hid HO0.out
    have HO0 := Lib.hid (OwnI.below HO0.out HB24.out)
    have HL1 := Lib.hid (show ∀ j, (Value.slice a1 xs.length k1).ownBlock = some j → j < w3.heap.size from fun j hj => (World.ownsRow.lt ho1 j hj).2)
    have hE := eqDeed_self b _ _ xs r n w4 (HO1.out.toInts H64.out) (HO0.out.toInts H64.out)
    unfold dV at hE
    obtain ⟨y0, y1, y2, y3⟩ := deed_cells HR0.out
    obtain ⟨x0, x1, x2, x3⟩ := deed_cells HR1.out
    obtain ⟨T0, hT0⟩ : ∃ z, z = w1.heap.size := ⟨_, rfl⟩
    obtain ⟨T1, hT1⟩ : ∃ z, z = w3.heap.size := ⟨_, rfl⟩
    have HBW4 := Lib.hid (HB2.out.trans (HB24.out.mono HB2.out.size))
    have HS1 := Lib.hid (show w3.heap.size < w4.heap.size from row_lt HR1.out)
    clear hI ho1 hb3 hb34
    go_upto_region 5 with fail
    rw [← hw4]
    clear hw4
    go_wp2_with fail
    refine hE.mono ?_
    rintro e w5 ⟨rfl, hb5⟩
    have HB25 := Lib.hid (HB24.out.trans (hb5.mono HB24.out.size))
    have HR1 := Lib.hid (row_keep hb5 HR1.out)
    have HR0 := Lib.hid (row_keep hb5 HR0.out)
    have HO1 := Lib.hid (OwnI.below HO1.out hb5)
    have HO0 := Lib.hid (OwnI.below HO0.out hb5)
    have hM := markDeed_any b _ xs r n 1 w5 HO1.out HB25.out.size (by omega) (by omega) (by omega)
    unfold dV at hM
    obtain ⟨x0, x1, x2, x3⟩ := deed_cells HR1.out
    clear hE y0 y1 y2 y3 hb5
    go_wp2_with fail
    refine hM.mono ?_
    rintro e w6 ⟨rfl, ho6, hb6, hf6⟩
    have HB26 := Lib.hid (show Below w2.heap.size w2 w6 from HB25.out.trans hb6)
    have HBW6 := Lib.hid (HB2.out.trans (HB26.out.mono HB2.out.size))
    have HR1 := Lib.hid ((hf6 _ (row_lt HR1.out) (fun q => by have := HL1.out _ q; omega)).trans HR1.out)
    have hs5 := HB25.out.size
    have HO6 := Lib.hid ho6
    have hmk : ∀ y ∈ markL xs.length 1, In64 y := by
      intro y hy
      simp only [markL, List.mem_map, List.mem_range] at hy
      obtain ⟨j, hj, rfl⟩ := hy
      unfold In64; omega
    have HMK := Lib.hid hmk
    have hD := heldDeed_mark b _ xs.length r n 1 w6 ((show OwnI w2.heap.size w6 (.slice a1 xs.length k1) (markL xs.length 1) from HO6.out).toInts HMK.out) (by omega) (by omega)
    obtain ⟨x0, x1, x2, x3⟩ := deed_cells HR1.out
    have hnn : ¬ (1 + (xs.length : Int) < 0) := by omega
    clear hM ho6 hb6 hf6 hmk HR0 HO1
    go_wp2_with fail
    refine hD.mono ?_
    rintro e w7 ⟨rfl, hb7⟩
    have HB27 := Lib.hid (HB26.out.trans (hb7.mono HB26.out.size))
    have HBW7 := Lib.hid (HB2.out.trans (HB27.out.mono HB2.out.size))
    have HR1 := Lib.hid (row_keep hb7 HR1.out)
    have HO7 := Lib.hid (OwnI.below HO6.out hb7)
    have hI := HI.out w7 (HM.out.below HBW7.out)
    clear hD hb7 x0 x1 x2 x3 HO6
    go_wp2_with fail
    refine hI.mono ?_
    rintro e w8 ⟨a2, k2, rfl, ho2, hb8⟩
    obtain ⟨w9, hw9⟩ : ∃ z, z = w8.alloc (.cells #[.bool b, .slice a2 xs.length k2, .int .i64 r, .int .i64 n] 26) := ⟨_, rfl⟩
    have hb89 : Below w8.heap.size w8 w9 := by rw [hw9]; exact (Below.refl _ _).alloc (Nat.le_refl _) _
    have HB79 := Lib.hid (hb8.trans (hb89.mono hb8.size))
    have HB29 := Lib.hid (HB27.out.trans (HB79.out.mono HB27.out.size))
    have HBW9 := Lib.hid (HB2.out.trans (HB29.out.mono HB2.out.size))
    have HR2 := Lib.hid (row_of hw9)
    have HR1 := Lib.hid (row_keep HB79.out HR1.out)
    have HR0 := Lib.hid (row_keep HB29.out HR0'.out)
    have HO9 := Lib.hid (OwnI.below HO7.out HB79.out)
    have hE := eqDeed_self b _ _ xs r n w9 ((OwnI.below ho2 hb89).toInts H64.out) ((OwnI.below HO0'.out HB29.out).toInts H64.out)
    unfold dV at hE
    obtain ⟨y0, y1, y2, y3⟩ := deed_cells HR0.out
    obtain ⟨x0, x1, x2, x3⟩ := deed_cells HR2.out
    clear hI ho2 hb8 hb89 HO7
    go_upto_region 16 with fail
    rw [← hw9]
    clear hw9
    go_wp2_with fail
    refine hE.mono ?_
    rintro e w10 ⟨rfl, hb10⟩
    have HBW10 := Lib.hid (HBW9.out.trans (hb10.mono HBW9.out.size))
    have HR1 := Lib.hid (row_keep hb10 HR1.out)
    have HO10 := Lib.hid (OwnI.below HO9.out hb10)
    have hD := heldDeed_mark b _ xs.length r n 1 w10 (OwnI.toInts HO10.out HMK.out) (by omega) (by omega)
    obtain ⟨v0, v1, v2, v3⟩ := deed_cells HR1.out
    clear hE hb10 x0 x1 x2 x3 y0 y1 y2 y3
    go_wp2_with fail
    refine hD.mono ?_
    rintro e w11 ⟨rfl, hb11⟩
    have HBW11 := Lib.hid (HBW10.out.trans (hb11.mono HBW10.out.size))
    clear hD hb11 v0 v1 v2 v3
    go_wp2
    go_ret
    exact ⟨rfl, HBW11.out⟩

end Go.Proofs.YtjecolbodelniaaDoor
