/- The program's JournalText. -/
import Derived.Test.YtenlngclocfnlaaDoorJourS
import Derived.Test.YtenlngclocfnlaaDoorTextI
namespace Go.Proofs.YtenlngclocfnlaaDoor
open Go.RowKit
set_option linter.unusedVariables false
set_option maxRecDepth 100000

theorem Bld.below {B b : Nat} {l : List UInt8} {w w' : World} (h : Bld B b l w) (hb : Below w.heap.size w w') : Bld B b l w' := by
  rcases h with ⟨hB, v, hk, ho, hn⟩ | ⟨hB, v, hk, ho, hn⟩
  · exact .inl ⟨hB, v, (hb.block _ (Array.getElem?_eq_some_iff.1 hk).1).trans hk, owns_keep ho (.of_below hb), hn⟩
  · exact .inr ⟨hB, v, (hb.block _ (Array.getElem?_eq_some_iff.1 hk).1).trans hk, owns_keep ho (.of_below hb), hn⟩

set_option maxHeartbeats 2000000 in
theorem journalTextI_any {B : Nat} (v : Value) (ds : List Dd) (w : World) (h : DL B w v ds) (hl : ds.length ≤ 2000000) :
    Calls Tryd.prog 25 #[v] w (TextOut (textJ ds) w) := by
  obtain ⟨a, cap, V, rfl, hcap, hmax, hcells, hV⟩ := h
  have HCE := Lib.hid hcells
  have HV := Lib.hid hV
  have HB0 := Lib.hid (Bld.new w)
  have HBW := Lib.hid (show Below w.heap.size w (w.alloc (.cells #[.pointer none, .slice none 0 0] 74)) from (Below.refl _ _).alloc (Nat.le_refl _) _)
  clear hcells hV
  go_enter Tryd.func25, Tryd.ntmps25
  go_wp2
  go_loopw [9] (fun i wr => ∃ k : Nat, k ≤ ds.length ∧ i = .int .i64 k ∧ Bld w.heap.size w.heap.size (linesJ (ds.take k)) wr ∧ allText (ds.take k) = true ∧ Below w.heap.size w wr) (fun i _ => ds.length - (intOf i).toNat)
  case atStart => exact ⟨0, Nat.zero_le _, rfl, HB0.out, rfl, HBW.out⟩
  case round =>
    obtain ⟨k, hk, rfl, hbl, hall, hw⟩ := hrel
    obtain ⟨wk, rfl⟩ : ∃ x, x = wr := ⟨_, rfl⟩
    have HW := Lib.hid hw
    clear HB0 HBW
    by_cases hlt : k < ds.length
    · obtain ⟨b, off, rfl, _, hcs⟩ := HCE.out (by omega)
      obtain ⟨c0, c1, c2, c3⟩ := hcs k hlt
      have q0 := (Above.of_below (B := 0) hw).cell (Nat.zero_le _) c0
      have q1 := (Above.of_below (B := 0) hw).cell (Nat.zero_le _) c1
      have q2 := (Above.of_below (B := 0) hw).cell (Nat.zero_le _) c2
      have q3 := (Above.of_below (B := 0) hw).cell (Nat.zero_le _) c3
      have hI := HV.out k hlt
      obtain ⟨av, cv, hvv, _⟩ := hI.opened
      have HNX := Lib.hid (linesJ_next hlt)
      have HAN := Lib.hid (allText_next hlt hall)
      have HNO := Lib.hid (textJ_none hlt)
      have hlen := linesJ_len (ds.take k)
      rw [List.length_take] at hlen
      have hlen2 := textD_len ds[k]
      obtain ⟨x, hx⟩ : ∃ x, x = ds[k] := ⟨_, rfl⟩
      rw [← hx] at q0 q2 q3 hI hvv HNX HAN HNO hlen2
      rw [hvv] at q1 hI
      obtain ⟨wq, hwq⟩ : ∃ z, z = wk.alloc (.cells #[.bool x.back, .slice av x.code.length cv, .int .i64 x.right, .int .i64 x.near] 26) := ⟨_, rfl⟩
      have hbq : Below wk.heap.size wk wq := by rw [hwq]; exact (Below.refl _ _).alloc (Nat.le_refl _) _
      have hD := deedTextI_any x.back (.slice av x.code.length cv) x.code x.right x.near wq ((hI.below hw).below hbq)
      unfold dV at hD
      obtain ⟨T, hT⟩ : ∃ T, T = textD x := ⟨_, rfl⟩
      have hTx : textD ⟨x.back, x.code, x.right, x.near⟩ = T := by rw [hT]
      rw [hTx] at hD
      rw [← hT] at HNX HAN HNO hlen2
      obtain ⟨L, hL⟩ : ∃ L, L = linesJ (ds.take k) := ⟨_, rfl⟩
      rw [← hL] at HNX hlen hbl
      have HBQ := Lib.hid (hbl.below hbq)
      have HWQ := Lib.hid (hw.trans (hbq.mono hw.size))
      have hi0 : (0 : Int) ≤ (k : Int) := by omega
      have hi1 : (k : Int) < (ds.length : Int) := by omega
      have hb1 : L.length ≤ 30000000 := by omega
      have hb13 : T.length ≤ 13 := hlen2
      clear hcs c0 c1 c2 c3 hvv hx hw hI hT hTx hL hlen hlen2 hall hbl hbq
      go_wp2_with fail
      rw [← hwq]
      clear hwq q0 q1 q2 q3
      refine hD.mono ?_
      rintro e w2 ⟨rfl, hb2⟩
      have HB2 := Lib.hid (HBQ.out.below hb2)
      have HW2 := Lib.hid (HWQ.out.trans (hb2.mono HWQ.out.size))
      clear hD hb2
      unfold strV
      cases T with
      | nil =>
        go_wp2
        go_ret
        exact ⟨by rw [HNO.out (by first | rfl | trivial)]; rfl, HW2.out⟩
      | cons t T =>
        have hS := writeString_any (t :: T) HB2.out (by omega) (by omega) HW2.out.size
        go_wp2_with fail
        refine hS.mono ?_
        rintro e w3 ⟨rfl, hb3, hw3⟩
        have HB3 := Lib.hid hb3
        have HW3 := Lib.hid (HW2.out.trans hw3)
        have hC := writeByte_any 10 hb3 (by rw [List.length_append]; omega) HW3.out.size
        rw [show ((10 : UInt8).toNat : Int) = 10 from rfl] at hC
        clear hS hb3 hw3
        go_wp2_with fail
        refine hC.mono ?_
        rintro e w4 ⟨rfl, hb4, hw4⟩
        have HB4 := Lib.hid hb4
        have HW4 := Lib.hid (HW3.out.trans hw4)
        clear hC hb4 hw4
        go_wp2
        go_roundw
        case rel => exact ⟨k + 1, by omega, by go_num, by rw [HNX.out]; exact HB4.out, HAN.out (by simp), HW4.out⟩
        case measure => simp [intOf]; omega
    · have e : ds.take k = ds := List.take_of_length_le (by omega)
      rw [e] at hall hbl
      have HR := Lib.hid (textJ_all hall)
      have hT := text_any hbl hw.size
      clear hall hw e hbl
      go_wp2_with fail
      refine hT.mono ?_
      rintro e w2 ⟨rfl, hw2⟩
      have HW2 := Lib.hid (HW.out.trans hw2)
      clear hT hw2
      go_wp2
      go_ret
      exact ⟨by rw [HR.out]; rfl, HW2.out⟩

end Go.Proofs.YtenlngclocfnlaaDoor
