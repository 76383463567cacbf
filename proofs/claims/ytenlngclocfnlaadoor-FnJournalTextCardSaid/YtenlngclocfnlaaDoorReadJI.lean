/- The program's ReadJournal. -/
import Derived.Test.YtenlngclocfnlaaDoorReadS
import Derived.Test.YtenlngclocfnlaaDoorOwnD2
namespace Go.Proofs.YtenlngclocfnlaaDoor
open Go.RowKit
set_option linter.unusedVariables false
set_option maxRecDepth 100000

theorem cut_any (l : List UInt8) (W : World) (hs : l.length ≤ 4000000) (hm : MaxIs W) :
    Calls Tryd.prog 36 #[.string ⟨l.toArray⟩, .string ⟨#[10]⟩] W fun e w' => e = .returned (.tuple #[.string ⟨(Lib.cut l [10]).1.toArray⟩, .string ⟨(Lib.cut l [10]).2.1.toArray⟩, .bool (Lib.cut l [10]).2.2]) ∧ Below W.heap.size W w' := by
  obtain ⟨m, hm⟩ := hm
  have hlen : (⟨l.toArray⟩ : ByteArray).size < 4294967281 := by simp only [ByteArray.size, List.size_toArray]; omega
  refine (Tryd.strings_Cut ⟨l.toArray⟩ ⟨#[10]⟩ m W hlen hm).mono ?_
  rintro e w' ⟨rfl, n, rfl⟩
  exact ⟨rfl, ⟨rfl, rfl, rfl, Nat.le_refl _, fun _ _ => rfl⟩⟩

/-- What a reading of a journal leaves. -/
def JOut (l : List UInt8) (w : World) (e : Ending) (w' : World) : Prop :=
  ∃ a cap, e = .returned (.tuple #[.slice a (readJ l).1.length cap, .int .i64 ((readJ l).2 : Nat)]) ∧ OwnD w.heap.size w' (.slice a (readJ l).1.length cap) (readJ l).1 ∧ Below w.heap.size w w'
/-- Between two lines. -/
def JAt (l : List UInt8) (w : World) (k : Nat) (ds : List Dd) (a : Option Addr) (cap : Nat) (wr : World) : Prop :=
  k ≤ l.length ∧ readJ l = (ds ++ (readJ (l.drop k)).1, k + (readJ (l.drop k)).2) ∧ OwnD w.heap.size wr (.slice a ds.length cap) ds ∧ ds.length ≤ k ∧ Below w.heap.size w wr
theorem JAt.below {l : List UInt8} {w wr wr' : World} {k : Nat} {ds : List Dd} {a : Option Addr} {cap : Nat} (h : JAt l w k ds a cap wr) (hb : Below wr.heap.size wr wr') : JAt l w k ds a cap wr' := by
  obtain ⟨h1, h2, h3, h4, h5⟩ := h
  exact ⟨h1, h2, h3.below hb, h4, h5.trans (hb.mono h5.size)⟩
theorem JAt.out {l : List UInt8} {w wr : World} {k : Nat} {ds : List Dd} {a : Option Addr} {cap : Nat} (h : JAt l w k ds a cap wr) (hr : readJ (l.drop k) = ([], 0)) : JOut l w (.returned (.tuple #[.slice a ds.length cap, .int .i64 k])) wr := by
  obtain ⟨h1, h2, h3, h4, h5⟩ := h
  rw [hr] at h2
  simp only [List.append_nil, Nat.add_zero] at h2
  refine ⟨a, cap, ?_, ?_, h5⟩
  · rw [h2]
  · rw [h2]; exact h3
theorem JAt.next {l u t : List UInt8} {w wr wr' : World} {k : Nat} {ds : List Dd} {a a' : Option Addr} {cap cap' : Nat} {d : Dd} (h : JAt l w k ds a cap wr) (hut : l.drop k = u ++ 10 :: t) (hno : ∀ b ∈ u, b ≠ 10) (hd : readD u = some d)
    (ho : OwnD w.heap.size wr' (.slice a' (ds.length + 1) cap') (ds ++ [d])) (hb : Below w.heap.size w wr') : JAt l w (k + (u.length + 1)) (ds ++ [d]) a' cap' wr' := by
  obtain ⟨h1, h2, h3, h4, h5⟩ := h
  have hl : (l.drop k).length = u.length + (t.length + 1) := by rw [hut]; simp
  rw [List.length_drop] at hl
  have ht : l.drop (k + (u.length + 1)) = t := by
    rw [← List.drop_drop, hut, show u ++ 10 :: t = (u ++ [10]) ++ t by simp, show u.length + 1 = (u ++ [10]).length by simp, List.drop_left]
  refine ⟨by omega, ?_, by simpa using ho, by simp; omega, hb⟩
  rw [h2, hut, readJ_yes hno hd, ht]
  simp; omega

set_option maxHeartbeats 4000000 in
theorem readJI_any (l : List UInt8) (w : World) (hl : l.length ≤ 4000000) (hm : MaxIs w) :
    Calls Tryd.prog 14 #[strV l] w (JOut l w) := by
  unfold strV
  have HM := Lib.hid hm
  have HS := Lib.hid (show JAt l w 0 [] none 0 w from ⟨Nat.zero_le _, by simp, OwnD.empty _ _, Nat.le_refl _, Below.refl _ _⟩)
  clear hm
  go_enter Tryd.func14, Tryd.ntmps14
  go_wp2
  go_loopw [4, 5] (fun s i wr => ∃ (k : Nat) (ds : List Dd) (a : Option Addr) (cap : Nat), i = .int .i64 k ∧ s = .slice a ds.length cap ∧ JAt l w k ds a cap wr) (fun _ i _ => l.length - (intOf i).toNat)
  case atStart => exact ⟨0, [], none, 0, rfl, rfl, HS.out⟩
  case round =>
    obtain ⟨k, ds, a, cap, rfl, rfl, hat⟩ := hrel
    obtain ⟨wk, rfl⟩ : ∃ x, x = wr := ⟨_, rfl⟩
    have hk := hat.1
    have HAT := Lib.hid hat
    have hk0 : (0 : Int) ≤ (k : Int) := by omega
    have hk1 : (k : Int) ≤ (l.length : Int) := by omega
    have HEX := Lib.hid (show (ByteArray.mk l.toArray).extract k l.length = ByteArray.mk (l.drop k).toArray by
      rw [ByteArray.extract_mk, List.take_of_length_le (by rw [List.length_drop]; omega)])
    have hdl : (l.drop k).length ≤ 4000000 := by rw [List.length_drop]; omega
    have hC := cut_any (l.drop k) wk hdl (HM.out.below hat.2.2.2.2)
    clear HS hat
    rcases line_cases (l.drop k) with hno | ⟨u, t, hut, hno⟩
    · rw [cut_no 10 _ hno] at hC
      have HEND := Lib.hid (readJ_end hno)
      have hR := fun W q => readDeedI_any (l.drop k) W hdl q
      have HR := Lib.hid hR
      clear hR
      go_wp2_with fail
      rw [HEX.out]
      refine hC.mono ?_
      rintro e w2 ⟨rfl, hb2⟩
      have HA2 := Lib.hid (HAT.out.below hb2)
      have hI := HR.out w2 (HM.out.below HA2.out.2.2.2.2)
      clear hC hb2
      unfold strV at hI
      go_wp2_with fail
      refine hI.mono ?_
      rintro e w3 ⟨a3, k3, rfl, ho3, hb3⟩
      have HA3 := Lib.hid ((HA2.out.below hb3).below (wr' := w3.alloc (.cells #[.bool (rdD (l.drop k)).back, .slice a3 (rdD (l.drop k)).code.length k3, .int .i64 (rdD (l.drop k)).right, .int .i64 (rdD (l.drop k)).near] 26)) ((Below.refl _ _).alloc (Nat.le_refl _) _))
      unfold dV
      clear hI ho3 hb3
      go_wp2
      go_ret2
      exact HA3.out.out HEND.out
    · rw [hut, cut_yes 10 u t hno] at hC
      have hul : u.length + (t.length + 1) = l.length - k := by
        have := congrArg List.length hut
        rw [List.length_drop] at this
        simpa using this.symm
      have HR := Lib.hid (fun W q => readDeedI_any u W (by omega) q)
      rw [hut] at HEX
      have HUT := Lib.hid hut
      have HNO := Lib.hid hno
      clear hut hno
      go_wp2_with fail
      rw [HEX.out]
      refine hC.mono ?_
      rintro e w2 ⟨rfl, hb2⟩
      have HA2 := Lib.hid (HAT.out.below hb2)
      have hI := HR.out w2 (HM.out.below HA2.out.2.2.2.2)
      clear hC hb2
      unfold strV at hI
      rcases hd : readD u with _ | d
      · obtain ⟨hd1, hd2⟩ := rd_none hd
        have HEND := Lib.hid (show readJ (l.drop k) = ([], 0) by rw [HUT.out, readJ_no HNO.out hd])
        unfold ReadOut at hI
        rw [hd1, hd2] at hI
        clear hd hd1 hd2
        go_wp2_with fail
        refine hI.mono ?_
        rintro e w3 ⟨a3, k3, rfl, ho3, hb3⟩
        have HA3 := Lib.hid ((HA2.out.below hb3).below (wr' := w3.alloc (.cells #[.bool false, .slice a3 0 k3, .int .i64 0, .int .i64 0] 26)) ((Below.refl _ _).alloc (Nat.le_refl _) _))
        unfold dV
        clear hI ho3 hb3
        go_wp2
        go_ret2
        exact HA3.out.out HEND.out
      · obtain ⟨hd1, hd2⟩ := rd_some hd
        have HD := Lib.hid hd
        unfold ReadOut at hI
        rw [hd1, hd2] at hI
        clear hd hd1 hd2
        go_wp2_with fail
        refine hI.mono ?_
        rintro e w3 ⟨a3, k3, rfl, ho3, hb3⟩
        obtain ⟨b, ys, r, n⟩ := d
        simp only at ho3
        unfold dV
        obtain ⟨w4, hw4⟩ : ∃ z, z = w3.alloc (.cells #[.bool b, .slice a3 ys.length k3, .int .i64 r, .int .i64 n] 26) := ⟨_, rfl⟩
        have hb34 : Below w3.heap.size w3 w4 := by rw [hw4]; exact (Below.refl _ _).alloc (Nat.le_refl _) _
        have hrow : w4.heap[w3.heap.size]? = some (.cells #[.bool b, .slice a3 ys.length k3, .int .i64 r, .int .i64 n] 26 (0, 0)) := by rw [hw4]; exact heap_alloc_new w3 _
        obtain ⟨x0, x1, x2, x3⟩ := deed_cells hrow
        have hb24 := hb3.trans (hb34.mono hb3.size)
        have HA4 := Lib.hid (HA2.out.below hb24)
        have hbG : Below w4.heap.size w4 (w4.alloc (.cells #[.bool b, .slice a3 ys.length k3, .int .i64 r, .int .i64 n] 26)) := (Below.refl _ _).alloc (Nat.le_refl _) _
        have hoG := owns_below (owns_below ho3 hb34) hbG
        have HOA := Lib.hid (HA4.out.2.2.1.below hbG)
        have HUA := Lib.hid (show OwnI w.heap.size _ _ _ from OwnI.mono hoG HA2.out.2.2.2.2.size)
        have HDI := Lib.hid (deed_oldA HA2.out.2.2.1 (above_step (.of_below hb24) hb24.size (.of_below hbG)) hoG)
        have HCC := Lib.hid (heap_alloc_new w4 (.cells #[.bool b, .slice a3 ys.length k3, .int .i64 r, .int .i64 n] 26))
        have HSZ := Lib.hid (show w.heap.size ≤ (w4.alloc (.cells #[.bool b, .slice a3 ys.length k3, .int .i64 r, .int .i64 n] 26)).heap.size by rw [World.size_alloc]; have := HA4.out.2.2.2.2.size; omega)
        clear hI ho3 hb3 hb34 hrow hb24 hbG hoG
        have hsum : (k : Int) + ((u.length : Int) + 1) ≤ 4000000 := by omega
        have hdk := HAT.out.2.2.2.1
        go_upto_region 5 with fail
        rw [← hw4]
        clear hw4
        go_wp2_with (at_builtin; refine wpList_push_d (w4.alloc (.cells #[.bool b, .slice a3 ys.length k3, .int .i64 r, .int .i64 n] 26)) rfl (.tmp 32) (.tmp 34) rfl w.heap.size (.slice a ds.length cap) ds rfl HOA.out w4.heap.size 1 (.slice a3 ys.length k3) ⟨b, ys, r, n⟩ rfl HCC.out HUA.out HDI.out (by omega) HSZ.out ?_; intro a7 c7 w7 ho7 hg7; have HB7 := Lib.hid (((HA4.out.2.2.2.2.alloc HA4.out.2.2.2.2.size _).grown hg7 (by have := HSZ.out; omega) (fun q hq => (OwnD.lt HOA.out q hq).1))); have HO7 := Lib.hid ho7; clear ho7 hg7)
        have HNX := Lib.hid (HAT.out.next HUT.out HNO.out HD.out HO7.out HB7.out)
        go_roundw
        case rel => exact ⟨k + (u.length + 1), ds ++ [⟨b, ys, r, n⟩], a7, c7, by go_num, by simp, HNX.out⟩
        case measure => simp [intOf]; omega

end Go.Proofs.YtenlngclocfnlaaDoor
