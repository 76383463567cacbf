/- The law FnReadDeed, walked. -/
import Derived.Test.YtjecolbodelniaaDoorDrawRead
import Derived.Test.YtjecolbodelniaaDoorSameD
import Derived.Test.YtjecolbodelniaaDoorReadS
import Derived.Test.YtjecolbodelniaaDoorAlive
namespace Go.Proofs.YtjecolbodelniaaDoor
open Go.RowKit
set_option linter.unusedVariables false
set_option maxRecDepth 100000

/-- What a reading leaves, in letters. -/
def ROutL (b : Bool) (xs : List Int) (r n : Int) (ok : Bool) (w : World) (e : Ending) (w' : World) : Prop :=
  ∃ a cap, e = .returned (.tuple #[.agg #[.bool b, .slice a xs.length cap, .int .i64 r, .int .i64 n], .bool ok]) ∧ OwnI w.heap.size w' (.slice a xs.length cap) xs ∧ Below w.heap.size w w'
/-- A deed's row is made. -/
theorem rowL_new (w : World) (b : Bool) (v : Value) (r n : Int) : (w.alloc (.cells #[.bool b, v, .int .i64 r, .int .i64 n] 26)).heap[w.heap.size]? = some (.cells #[.bool b, v, .int .i64 r, .int .i64 n] 26 (0, 0)) := heap_alloc_new w _
theorem rowL_of {w z : World} {b : Bool} {v : Value} {r n : Int} (h : z = w.alloc (.cells #[.bool b, v, .int .i64 r, .int .i64 n] 26)) : z.heap[w.heap.size]? = some (.cells #[.bool b, v, .int .i64 r, .int .i64 n] 26 (0, 0)) := by rw [h]; exact rowL_new w b v r n
theorem rowL_keep {w w' : World} {g : Nat} {o : Obj} (hb : Below w.heap.size w w') (h : w.heap[g]? = some o) : w'.heap[g]? = some o := (hb.block _ (Array.getElem?_eq_some_iff.1 h).1).trans h
theorem read_facts (l : List UInt8) : ∃ b xs r n ok, xs.length ≤ 3 ∧ (∀ y ∈ xs, In64 y) ∧ (∀ w e w', ReadOut l w e w' → ROutL b xs r n ok w e w') ∧
    (ok = false → b = false ∧ xs = [] ∧ r = 0 ∧ n = 0) ∧ (ok = true → textD ⟨b, xs, r, n⟩ = l ∧ rdB (l ++ [32]) = false) := by
  refine ⟨(rdD l).back, (rdD l).code, (rdD l).right, (rdD l).near, rdB l, (rd_code l).1, fun y hy => ?_, fun w e w' h => h, fun h => ?_, fun h => ?_⟩
  · have := (rd_code l).2 y hy
    unfold In64; omega
  · rcases e : readD l with _ | d
    · rw [(rd_none e).1]; simp
    · rw [(rd_some e).2] at h; cases h
  · rcases e : readD l with _ | d
    · rw [(rd_none e).2] at h; cases h
    · rw [(rd_some e).1]
      exact ⟨(readD_iff.1 e).1, (rd_none (readD_space e)).2⟩
theorem cat_list (l : List UInt8) : (⟨l.toArray⟩ : ByteArray) ++ ⟨#[32]⟩ = ⟨(l ++ [32]).toArray⟩ := by
  apply ByteArray.ext
  simp

set_option maxHeartbeats 4000000 in
theorem FnReadDeed_walk {B : Nat} (v : Value) (bs : List Int) (w : World) (hm : MaxIs w) (h : Bytes B w v bs) :
    Calls Tryd.prog 6 #[v] w fun e w' => e = .returned (.bool true) ∧ Below w.heap.size w w' := by
  have hD0 := drawReadDeed_any v bs w h
  obtain ⟨a0, cap0, rfl, _⟩ := id h.1
  rw [List.length_map] at hD0 ⊢
  clear h
  by_cases hbig : (1048576 : Int) < (bs.length : Int)
  · clear hD0
    go_enter Tryd.func6, Tryd.ntmps6
    go_wp2
    go_ret
    exact ⟨rfl, Below.refl _ _⟩
  · have HM := Lib.hid hm
    clear hm
    go_enter Tryd.func6, Tryd.ntmps6
    go_wp2_with fail
    refine hD0.mono ?_
    rintro e w1 ⟨l, rfl, hl, hb1⟩
    obtain ⟨b, xs, r, n, ok, hx3, h64, hform, hno, hyes⟩ := read_facts l
    have HB1 := Lib.hid hb1
    have H64 := Lib.hid h64
    have HNO := Lib.hid hno
    have HYES := Lib.hid hyes
    have HSP := Lib.hid (show ∀ W, Calls Tryd.prog 8 #[.string ⟨l.toArray⟩] W (ROutL b xs r n ok W) from fun W => (readDeedS_any l W (by omega)).mono (hform W))
    have hI : Calls Tryd.prog 9 #[.string ⟨l.toArray⟩] w1 (ROutL b xs r n ok w1) := (readDeedI_any l w1 (by omega) (HM.out.below hb1)).mono (hform w1)
    have hok : (ok != ok) = false := by simp
    clear hD0 hb1 h64 hno hyes hform hbig
    go_wp2_with fail
    refine hI.mono ?_
    rintro e w2 ⟨a1, k1, rfl, ho1, hb2⟩
    obtain ⟨w3, hw3⟩ : ∃ z, z = w2.alloc (.cells #[.bool b, .slice a1 xs.length k1, .int .i64 r, .int .i64 n] 26) := ⟨_, rfl⟩
    have hb23 : Below w2.heap.size w2 w3 := by rw [hw3]; exact (Below.refl _ _).alloc (Nat.le_refl _) _
    have HB13 := Lib.hid (hb2.trans (hb23.mono hb2.size))
    have HB3 := Lib.hid (HB1.out.trans (HB13.out.mono HB1.out.size))
    have HR1 := Lib.hid (rowL_of hw3)
    have HO1 := Lib.hid (OwnI.below ho1 hb23)
    have hS := HSP.out w3
    clear hI ho1 hb2 hb23
    go_wp2_with fail
    rw [← hw3]
    clear hw3
    refine hS.mono ?_
    rintro e w4 ⟨a2, k2, rfl, ho2, hb4⟩
    obtain ⟨w5, hw5⟩ : ∃ z, z = w4.alloc (.cells #[.bool b, .slice a2 xs.length k2, .int .i64 r, .int .i64 n] 26) := ⟨_, rfl⟩
    have hb45 : Below w4.heap.size w4 w5 := by rw [hw5]; exact (Below.refl _ _).alloc (Nat.le_refl _) _
    have HB35 := Lib.hid (hb4.trans (hb45.mono hb4.size))
    have HB5 := Lib.hid (HB3.out.trans (HB35.out.mono HB3.out.size))
    have HR2 := Lib.hid (rowL_of hw5)
    have HR1 := Lib.hid (rowL_keep HB35.out HR1.out)
    have HI1 := Lib.hid ((OwnI.below HO1.out HB35.out).toInts H64.out)
    have hE := sameDeed_self b _ _ xs r n w5 HI1.out ((OwnI.below ho2 hb45).toInts H64.out) (by have := HB13.out.size; have := HB35.out.size; omega) HB35.out.size
    obtain ⟨x0, x1, x2, x3⟩ := deed_cells HR1.out
    obtain ⟨y0, y1, y2, y3⟩ := deed_cells HR2.out
    clear hS ho2 hb4 hb45 HSP
    go_upto_region 6 with fail
    rw [← hw5]
    clear hw5
    go_wp2_with fail
    refine hE.mono ?_
    rintro e w6 ⟨rfl, hb6⟩
    have HB6 := Lib.hid (HB5.out.trans (hb6.mono HB5.out.size))
    have HR1 := Lib.hid (rowL_keep hb6 HR1.out)
    have HI1 := Lib.hid (HI1.out.below hb6)
    obtain ⟨v0, v1, v2, v3⟩ := deed_cells HR1.out
    have HS16 := Lib.hid (show w1.heap.size ≤ w6.heap.size by have := HB13.out.size; have := HB35.out.size; have := hb6.size; omega)
    clear hE hb6 x0 x1 x2 x3 y0 y1 y2 y3
    cases ok
    · obtain ⟨rfl, rfl, rfl, rfl⟩ := HNO.out rfl
      have hE := sameDeed_self (C := 0) false _ (.slice none 0 0) [] 0 0 w6 HI1.out (Ints.nil 0 w6) HS16.out (Nat.zero_le _)
      go_wp2_with fail
      refine hE.mono ?_
      rintro e w7 ⟨rfl, hb7⟩
      have HB7 := Lib.hid (HB6.out.trans (hb7.mono HB6.out.size))
      have hA := alive_any w7
      clear hE hb7
      go_wp2_with fail
      refine hA.mono ?_
      rintro e w8 ⟨rfl, rfl⟩
      clear hA
      go_wp2
      go_ret
      exact ⟨rfl, HB7.out⟩
    · obtain ⟨hT, hsp⟩ := HYES.out rfl
      have hI := readDeedI_any (l ++ [32]) w6 (by simp; omega) (HM.out.below HB6.out)
      unfold ReadOut strV dV at hI
      rw [hsp] at hI
      have HCAT := Lib.hid (cat_list l)
      have HTT := Lib.hid hT
      clear hT hsp
      go_wp2_with fail
      rw [HCAT.out]
      refine hI.mono ?_
      rintro e w7 ⟨a7, k7, rfl, ho7, hb7⟩
      obtain ⟨w8, hw8⟩ : ∃ z, z = w7.alloc (.cells #[.bool (rdD (l ++ [32])).back, .slice a7 (rdD (l ++ [32])).code.length k7, .int .i64 (rdD (l ++ [32])).right, .int .i64 (rdD (l ++ [32])).near] 26) := ⟨_, rfl⟩
      have hb78 : Below w7.heap.size w7 w8 := by rw [hw8]; exact (Below.refl _ _).alloc (Nat.le_refl _) _
      have HB68 := Lib.hid (hb7.trans (hb78.mono hb7.size))
      have HB8 := Lib.hid (HB6.out.trans (HB68.out.mono HB6.out.size))
      have HR1 := Lib.hid (rowL_keep HB68.out HR1.out)
      have hTX := deedTextI_any b _ xs r n w8 (HI1.out.below HB68.out)
      rw [HTT.out] at hTX
      unfold TextOut strV dV at hTX
      have hll : (l == l) = true := by simp
      obtain ⟨u0, u1, u2, u3⟩ := deed_cells HR1.out
      clear hI ho7 hb7 hb78 v0 v1 v2 v3
      go_upto_region 11 with fail
      rw [← hw8]
      clear hw8
      go_wp2_with fail
      refine hTX.mono ?_
      rintro e w9 ⟨rfl, hb9⟩
      have HB9 := Lib.hid (HB8.out.trans (hb9.mono HB8.out.size))
      clear hTX hb9 u0 u1 u2 u3
      go_wp2
      go_ret
      exact ⟨rfl, HB9.out⟩

end Go.Proofs.YtjecolbodelniaaDoor
