/- The reference's JournalText. -/
import Derived.Test.YtenlngclocfnlaaDoorTextS
import Derived.Test.YtenlngclocfnlaaDoorOwnD
namespace Go.Proofs.YtenlngclocfnlaaDoor
open Go.RowKit
set_option linter.unusedVariables false
set_option maxRecDepth 100000

theorem cell_lt' {w : World} {b j : Nat} {v : Value} (h : w.cell? ⟨b, j, none⟩ = some v) : b < w.heap.size := by
  rcases Nat.lt_or_ge b w.heap.size with q | q
  · exact q
  · exfalso
    have e : w.heap[b]? = none := Array.getElem?_eq_none q
    simp [World.cell?, e] at h
theorem line_cat (L T : List UInt8) : (ByteArray.mk L.toArray ++ ByteArray.mk T.toArray ++ ByteArray.mk #[10]) = ByteArray.mk (L ++ T ++ [10]).toArray := by
  apply ByteArray.ext
  simp [ByteArray.data_append]
theorem textD_len (d : Dd) : (textD d).length ≤ 13 := by
  by_cases h : textD d = []
  · rw [h]; simp
  · rcases textD_cases h with rfl | ⟨_, h2, h3⟩
    · rw [textD_undo]; simp [wordBack]
    · rw [h3]
      have := (textOk_iff.1 h2).1
      simp [guessText, wordGuess]
      omega
theorem linesJ_len : ∀ ds : List Dd, (linesJ ds).length ≤ 14 * ds.length
  | [] => by simp [linesJ]
  | d :: ds => by
    have := linesJ_len ds
    have h2 := textD_len d
    rw [linesJ_cons, List.length_append, List.length_cons, List.length_cons]
    omega
theorem linesJ_next {ds : List Dd} {k : Nat} (h : k < ds.length) : linesJ (ds.take (k + 1)) = linesJ (ds.take k) ++ textD ds[k] ++ [10] := by
  rw [List.take_succ_eq_append_getElem h, linesJ_app]
  simp [linesJ]
theorem allText_next {ds : List Dd} {k : Nat} (h : k < ds.length) (ha : allText (ds.take k) = true) (hn : textD ds[k] ≠ []) : allText (ds.take (k + 1)) = true := by
  unfold allText at ha ⊢
  rw [List.take_succ_eq_append_getElem h, List.all_append, ha]
  simp [hn]
theorem textJ_none {ds : List Dd} {k : Nat} (h : k < ds.length) (hn : textD ds[k] = []) : textJ ds = [] := by
  rw [textJ_eq, if_neg]
  intro q
  have := List.all_eq_true.1 q ds[k] (List.getElem_mem h)
  simp [hn] at this
theorem textJ_all {ds : List Dd} (h : allText ds = true) : textJ ds = linesJ ds := by rw [textJ_eq, if_pos h]

set_option maxHeartbeats 2000000 in
theorem journalTextS_any {B : Nat} (v : Value) (ds : List Dd) (w : World) (h : DL B w v ds) (hl : ds.length ≤ 2000000) :
    Calls Tryd.prog 26 #[v] w (TextOut (textJ ds) w) := by
  obtain ⟨a, cap, V, rfl, hcap, hmax, hcells, hV⟩ := h
  have HCE := Lib.hid hcells
  have HV := Lib.hid hV
  clear hcells hV
  go_enter Tryd.func26, Tryd.ntmps26
  go_wp2
  go_loopw [3, 4] (fun s i wr => ∃ k : Nat, k ≤ ds.length ∧ i = .int .i64 k ∧ s = strV (linesJ (ds.take k)) ∧ allText (ds.take k) = true ∧ Below w.heap.size w wr) (fun _ i _ => ds.length - (intOf i).toNat)
  case atStart => exact ⟨0, Nat.zero_le _, rfl, rfl, rfl, Below.refl _ _⟩
  case round =>
    obtain ⟨k, hk, rfl, rfl, hall, hw⟩ := hrel
    obtain ⟨wk, rfl⟩ : ∃ x, x = wr := ⟨_, rfl⟩
    have HW := Lib.hid hw
    by_cases hlt : k < ds.length
    · obtain ⟨b, off, rfl, _, hcs⟩ := HCE.out (by omega)
      obtain ⟨c0, c1, c2, c3⟩ := hcs k hlt
      have q0 := (Above.of_below (B := 0) hw).cell (Nat.zero_le _) c0
      have q1 := (Above.of_below (B := 0) hw).cell (Nat.zero_le _) c1
      have q2 := (Above.of_below (B := 0) hw).cell (Nat.zero_le _) c2
      have q3 := (Above.of_below (B := 0) hw).cell (Nat.zero_le _) c3
      have hI := HV.out k hlt
      obtain ⟨av, cv, hvv, _⟩ := hI.opened
      have HNX := Lib.hid (linesJ_next hlt)
      have HAN := Lib.hid (allText_next hlt hall)
      have HNO := Lib.hid (textJ_none hlt)
      have hlen := linesJ_len (ds.take k)
      rw [List.length_take] at hlen
      have hlen2 := textD_len ds[k]
      obtain ⟨x, hx⟩ : ∃ x, x = ds[k] := ⟨_, rfl⟩
      rw [← hx] at q0 q2 q3 hI hvv HNX HAN HNO hlen2
      rw [hvv] at q1 hI
      have HD := Lib.hid (show ∀ W, Below w.heap.size w W → Calls Tryd.prog 20 #[.agg #[.bool x.back, .slice av x.code.length cv, .int .i64 x.right, .int .i64 x.near]] W (TextOut (textD x) W) from fun W q => deedTextS_any x.back _ x.code x.right x.near W (hI.below q))
      obtain ⟨T, hT⟩ : ∃ T, T = textD x := ⟨_, rfl⟩
      rw [← hT] at HD HNX HAN HNO hlen2
      obtain ⟨L, hL⟩ : ∃ L, L = linesJ (ds.take k) := ⟨_, rfl⟩
      rw [← hL] at HNX hlen ⊢
      have hzk := cell_lt' q0
      have hi0 : (0 : Int) ≤ (k : Int) := by omega
      have hi1 : (k : Int) < (ds.length : Int) := by omega
      have hb1 : L.length ≤ 30000000 := by omega
      clear hcs c0 c1 c2 c3 hvv hx hw hI hT hL hlen hall
      unfold strV
      cases T with
      | nil =>
        go_wp2_with fail
        refine (HD.out _ HW.out).mono ?_
        rintro e w2 ⟨rfl, hb2⟩
        have HB2 := Lib.hid (HW.out.trans (hb2.mono HW.out.size))
        clear hb2
        unfold strV
        go_wp2
        go_ret
        exact ⟨by rw [HNO.out (by first | rfl | trivial)]; rfl, HB2.out⟩
      | cons t T =>
        have hb3 : T.length ≤ 12 := by simpa using hlen2
        clear hlen2
        go_wp2_with fail
        refine (HD.out _ HW.out).mono ?_
        rintro e w2 ⟨rfl, hb2⟩
        have HB2 := Lib.hid (HW.out.trans (hb2.mono HW.out.size))
        have q0 := (hb2.cell hzk).trans q0
        have q1 := (hb2.cell hzk).trans q1
        have q2 := (hb2.cell hzk).trans q2
        have q3 := (hb2.cell hzk).trans q3
        clear hb2
        unfold strV
        go_wp2_with fail
        refine (HD.out _ HB2.out).mono ?_
        rintro e w3 ⟨rfl, hb3⟩
        have HB3 := Lib.hid (HB2.out.trans (hb3.mono HB2.out.size))
        clear hb3
        unfold strV
        go_wp2
        go_roundw
        case rel => exact ⟨k + 1, by omega, by go_num, by rw [HNX.out]; exact congrArg Value.string (line_cat L (t :: T)), HAN.out (by simp), HB3.out⟩
        case measure => simp [intOf]; omega
    · have e : ds.take k = ds := List.take_of_length_le (by omega)
      rw [e] at hall ⊢
      have HR := Lib.hid (textJ_all hall)
      clear hall hw e
      unfold strV
      go_wp2
      go_ret
      exact ⟨by rw [HR.out]; rfl, HW.out⟩

end Go.Proofs.YtenlngclocfnlaaDoor
