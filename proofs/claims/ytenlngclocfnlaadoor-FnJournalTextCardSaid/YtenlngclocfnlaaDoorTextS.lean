/- The reference's DeedText. -/
import Derived.Test.YtenlngclocfnlaaDoorDigits
import Derived.Test.YtenlngclocfnlaaDoorBunF
import Derived.Test.YtenlngclocfnlaaDoorBunK
namespace Go.Proofs.YtenlngclocfnlaaDoor
open Go.RowKit
set_option linter.unusedVariables false
set_option maxRecDepth 100000

/-- What DeedText returns. -/
def TextOut (l : List UInt8) (w : World) (e : Ending) (w' : World) : Prop := e = .returned (strV l) ∧ Below w.heap.size w w'
theorem textD_of {b : Bool} {xs : List Int} {r n : Int} (hb : b = false) (h : textOk xs r n = true) : textD ⟨b, xs, r, n⟩ = guessText xs r n := by subst hb; exact textD_guess h
theorem textOk_no {xs : List Int} {r n : Int} (h : ∃ x ∈ xs, inB x 0 9 = false) : textOk xs r n = false := by
  obtain ⟨x, hx, he⟩ := h
  rcases q : textOk xs r n with _ | _
  · rfl
  · have := List.all_eq_true.1 (textOk_iff.1 q).2.1 x hx
    rw [he] at this; cases this
theorem textOk_split {xs : List Int} {r n : Int} (h : allD xs = true) : textOk xs r n = (inB xs.length 1 3 && (inB r 0 9 && inB n 0 9)) := by
  unfold allD at h
  unfold textOk
  rw [h]
  simp [Bool.and_assoc]
theorem text_cat (L : List UInt8) (x y : UInt8) : (ByteArray.mk #[103, 117, 101, 115, 115, 32] ++ ByteArray.mk L.toArray ++ ByteArray.mk #[32] ++ ByteArray.mk #[x] ++ ByteArray.mk #[32] ++ ByteArray.mk #[y]) = ByteArray.mk (wordGuess ++ 32 :: (L ++ 32 :: (x :: 32 :: [y]))).toArray := by
  apply ByteArray.ext
  simp [ByteArray.data_append, wordGuess]
theorem back_text {xs : List Int} {r n : Int} : textD ⟨true, xs, r, n⟩ = if nothingB xs r n = true then wordBack else [] := rfl

set_option maxHeartbeats 4000000 in
theorem deedTextS_any {B : Nat} (b : Bool) (u : Value) (xs : List Int) (r n : Int) (w : World) (h : Ints B w u xs) :
    Calls Tryd.prog 20 #[dV b u r n] w (TextOut (textD ⟨b, xs, r, n⟩) w) := by
  have HX := Lib.hid h
  obtain ⟨a, cap, rfl, hcap, hmax, _⟩ := h.opened
  clear h
  obtain ⟨w1, hw1⟩ : ∃ w1, w1 = w.alloc (.cells #[.bool b, .slice a xs.length cap, .int .i64 r, .int .i64 n] 26) := ⟨_, rfl⟩
  have hb1 : Below w.heap.size w w1 := by rw [hw1]; exact (Below.refl _ _).alloc (Nat.le_refl _) _
  have hz1 : w1.heap[w.heap.size]? = some (.cells #[.bool b, .slice a xs.length cap, .int .i64 r, .int .i64 n] 26 (0, 0)) := by rw [hw1]; exact heap_alloc_new w _
  have hs1 : w1.heap.size = w.heap.size + 1 := by rw [hw1]; simp
  have HB1 := Lib.hid hb1
  have HZ1 := Lib.hid hz1
  have c0 := cell_of_row _ _ 0 _ _ (0, 0) hz1
  have c1 := cell_of_row _ _ 1 _ _ (0, 0) hz1
  have c2 := cell_of_row _ _ 2 _ _ (0, 0) hz1
  have c3 := cell_of_row _ _ 3 _ _ (0, 0) hz1
  simp only [List.getElem?_toArray, List.getElem?_cons_zero, List.getElem?_cons_succ] at c0 c1 c2 c3
  clear hb1 hz1
  unfold dV
  cases b
  · go_enter Tryd.func20, Tryd.ntmps20
    go_wp2
    rw [← hw1]
    clear hw1 c0 c1 c2 c3
    go_loopw [3] (fun i wr => ∃ k : Nat, k ≤ xs.length ∧ i = .int .i64 k ∧ allD (xs.take k) = true ∧ Below w1.heap.size w1 wr) (fun i _ => xs.length - (intOf i).toNat)
    case atStart => exact ⟨0, Nat.zero_le _, rfl, rfl, Below.refl _ _⟩
    case round =>
      obtain ⟨k, hk, rfl, hall, hw⟩ := hrel
      obtain ⟨wk, rfl⟩ : ∃ x, x = wr := ⟨_, rfl⟩
      have hz := (hw.block w.heap.size (by omega)).trans HZ1.out
      have c1 := cell_of_row _ _ 1 _ _ (0, 0) hz
      have c2 := cell_of_row _ _ 2 _ _ (0, 0) hz
      have c3 := cell_of_row _ _ 3 _ _ (0, 0) hz
      simp only [List.getElem?_toArray, List.getElem?_cons_zero, List.getElem?_cons_succ] at c1 c2 c3
      have HW := Lib.hid hw
      by_cases hlt : k < xs.length
      · obtain ⟨a', cap', e, _, _, hc⟩ := HX.out.opened
        obtain ⟨bb, off, rfl, _, hcs⟩ := hc (by omega)
        injection e with e1 _ e3
        subst e1 e3
        have hx := (Above.of_below (B := 0) (HB1.out.trans (hw.mono HB1.out.size))).cell (Nat.zero_le _) (hcs k hlt)
        have HALL := Lib.hid hall
        have HMEM := Lib.hid (List.getElem_mem hlt)
        have HTK := Lib.hid (show xs.take (k + 1) = xs.take k ++ [xs[k]] from List.take_succ_eq_append_getElem hlt)
        obtain ⟨y, hy⟩ : ∃ y, y = xs[k] := ⟨_, rfl⟩
        rw [← hy] at hx HMEM HTK
        have hI := l1In_any y 0 9 wk
        have hi0 : (0 : Int) ≤ (k : Int) := by omega
        have hi1 : (k : Int) < (xs.length : Int) := by omega
        clear hc hcs hy hw hz hall
        rcases hin : inB y 0 9 with _ | _
        · rw [hin] at hI
          have HR := Lib.hid (textOk_no (r := r) (n := n) ⟨y, HMEM.out, hin⟩)
          clear hin
          go_wp2_with fail
          refine hI.mono ?_
          rintro e w2 ⟨rfl, rfl⟩
          clear hI
          go_wp2
          go_ret
          exact ⟨by rw [textD_bad HR.out]; rfl, HB1.out.trans (HW.out.mono HB1.out.size)⟩
        · rw [hin] at hI
          have HR := Lib.hid hin
          clear hin
          go_wp2_with fail
          refine hI.mono ?_
          rintro e w2 ⟨rfl, rfl⟩
          clear hI
          go_wp2
          go_roundw
          case rel => exact ⟨k + 1, by omega, by go_num, by unfold allD; rw [HTK.out, List.all_append]; have := HALL.out; unfold allD at this; rw [this]; simp [HR.out], HW.out⟩
          case measure => simp [intOf]; omega
      · have e : xs.take k = xs := List.take_of_length_le (by omega)
        rw [e] at hall
        have HALL0 := Lib.hid hall
        have HALL := Lib.hid hall
        clear hz e
        have HT := Lib.hid (textOk_split (r := r) (n := n) hall)
        have hI1 := l1In_any (xs.length : Int) 1 3 wk
        have hI2 := l1In_any r 0 9 wk
        have hI3 := l1In_any n 0 9 wk
        clear HALL
        rcases h1 : inB (xs.length : Int) 1 3 with _ | _
        · rw [h1] at hI1
          have HR := Lib.hid (show textOk xs r n = false by rw [HT.out, h1]; rfl)
          clear h1 hI2 hI3
          go_wp2_with fail
          refine hI1.mono ?_
          rintro e w2 ⟨rfl, rfl⟩
          clear hI1
          go_wp2
          go_ret
          exact ⟨by rw [textD_bad HR.out]; rfl, HB1.out.trans (HW.out.mono HB1.out.size)⟩
        · rcases h2 : inB r 0 9 with _ | _
          · rw [h1] at hI1
            rw [h2] at hI2
            have HR := Lib.hid (show textOk xs r n = false by rw [HT.out, h1, h2]; rfl)
            clear h1 h2 hI3
            go_wp2_with fail
            refine hI1.mono ?_
            rintro e w2 ⟨rfl, rfl⟩
            clear hI1
            go_wp2_with fail
            refine hI2.mono ?_
            rintro e w2 ⟨rfl, rfl⟩
            clear hI2
            go_wp2
            go_ret
            exact ⟨by rw [textD_bad HR.out]; rfl, HB1.out.trans (HW.out.mono HB1.out.size)⟩
          · rcases h3 : inB n 0 9 with _ | _
            · rw [h1] at hI1
              rw [h2] at hI2
              rw [h3] at hI3
              have HR := Lib.hid (show textOk xs r n = false by rw [HT.out, h1, h2, h3]; rfl)
              clear h1 h2 h3
              go_wp2_with fail
              refine hI1.mono ?_
              rintro e w2 ⟨rfl, rfl⟩
              clear hI1
              go_wp2_with fail
              refine hI2.mono ?_
              rintro e w2 ⟨rfl, rfl⟩
              clear hI2
              go_wp2_with fail
              refine hI3.mono ?_
              rintro e w2 ⟨rfl, rfl⟩
              clear hI3
              go_wp2
              go_ret
              exact ⟨by rw [textD_bad HR.out]; rfl, HB1.out.trans (HW.out.mono HB1.out.size)⟩
            · have HR := Lib.hid (show textOk xs r n = true by rw [HT.out, h1, h2, h3]; rfl)
              have hlen := inB_iff.1 h1
              have hr := inB_iff.1 h2
              have hn := inB_iff.1 h3
              rw [h1] at hI1
              rw [h2] at hI2
              rw [h3] at hI3
              have hzz := hw.size
              have hC : ∀ z : GrownC wk, Calls Tryd.prog 48 #[.slice a xs.length cap] z.val (fun e w'' => e = .returned (.string ⟨(dgs xs).toArray⟩) ∧ ∃ z' : GrownC wk, w'' = z'.val) := fun z =>
                (l15Code_any _ xs z.val (HX.out.below (HB1.out.trans ((HW.out.mono HB1.out.size).trans (z.ok.mono (by omega))))) HALL0.out (by omega)).mono (fun e w'' ⟨he, hbb⟩ => ⟨he, ⟨w'', z.ok.trans (hbb.mono z.ok.size)⟩, rfl⟩)
              have hN1 : ∀ z : GrownC wk, Calls Tryd.prog 49 #[.int .i64 r] z.val (fun e w'' => e = .returned (.string ⟨[dg r].toArray⟩) ∧ ∃ z' : GrownC wk, w'' = z'.val) := fun z =>
                (l1Number_any r z.val hr.1 hr.2).mono (fun e w'' ⟨he, hbb⟩ => ⟨he, ⟨w'', z.ok.trans (hbb.mono z.ok.size)⟩, rfl⟩)
              have hN2 : ∀ z : GrownC wk, Calls Tryd.prog 49 #[.int .i64 n] z.val (fun e w'' => e = .returned (.string ⟨[dg n].toArray⟩) ∧ ∃ z' : GrownC wk, w'' = z'.val) := fun z =>
                (l1Number_any n z.val hn.1 hn.2).mono (fun e w'' ⟨he, hbb⟩ => ⟨he, ⟨w'', z.ok.trans (hbb.mono z.ok.size)⟩, rfl⟩)
              have K1 : ∀ z : GrownC wk, z.val.cell? ⟨w.heap.size, 1, none⟩ = some (.slice a xs.length cap) := fun z => (z.ok.cell (by simp; omega)).trans c1
              have K2 : ∀ z : GrownC wk, z.val.cell? ⟨w.heap.size, 2, none⟩ = some (.int .i64 r) := fun z => (z.ok.cell (by simp; omega)).trans c2
              have K3 : ∀ z : GrownC wk, z.val.cell? ⟨w.heap.size, 3, none⟩ = some (.int .i64 n) := fun z => (z.ok.cell (by simp; omega)).trans c3
              have hL3 : (dgs xs).length ≤ 3 := by unfold dgs; rw [List.length_map]; omega
              obtain ⟨L, hL⟩ : ∃ L, L = dgs xs := ⟨_, rfl⟩
              rw [← hL] at hC hL3
              have HL := Lib.hid hL
              clear h1 h2 h3 hr hn hL
              go_wp2_with fail
              refine hI1.mono ?_
              rintro e w2 ⟨rfl, rfl⟩
              clear hI1
              go_wp2_with fail
              refine hI2.mono ?_
              rintro e w2 ⟨rfl, rfl⟩
              clear hI2
              go_wp2_with fail
              refine hI3.mono ?_
              rintro e w2 ⟨rfl, rfl⟩
              clear hI3 c1 c2 c3
              go_wp2_with fail
              refine wp_region_grownC (by kernel_rfl) (by kernel_rfl) ?_
              repeat (first | go_big_quiet_skip | (go_big_quiet_want; go_big_quiet_op; first | go_big_quiet_on | go_big_quiet_call (first | (go_at_call 48; exact hC _) | (go_at_call 49; first | (with_reducible exact hN1 _) | (with_reducible exact hN2 _)))))
              refine wpQuiet_nil ?_
              intro w8 hw8
              obtain ⟨z8, rfl⟩ := hw8
              have HB8 := Lib.hid (HB1.out.trans ((HW.out.mono HB1.out.size).trans (z8.ok.mono (by omega))))
              clear hC hN1 hN2 K1 K2 K3
              go_wp2
              go_ret
              exact ⟨by rw [textD_guess HR.out, text_cat, HL.out]; rfl, HB8.out⟩
  · go_enter Tryd.func20, Tryd.ntmps20
    clear hw1 HB1 HZ1 c0 c1 c2 c3 hs1
    by_cases hx : xs = []
    · by_cases hr : r = 0
      · by_cases hn : n = 0
        · have HR := Lib.hid (show textD ⟨true, xs, r, n⟩ = wordBack by rw [back_text, if_pos (show nothingB xs r n = true from decide_eq_true ⟨hx, hr, hn⟩)])
          subst hx hr hn
          go_wp2
          go_ret
          exact ⟨by rw [HR.out]; rfl, (Below.refl _ _).alloc (Nat.le_refl _) _⟩
        · have HR := Lib.hid (show textD ⟨true, xs, r, n⟩ = [] by rw [back_text, if_neg (by simp [nothingB, hn])])
          have hn' : (n != 0) = true := by simp [hn]
          subst hx hr
          go_wp2
          go_ret
          exact ⟨by rw [HR.out]; rfl, (Below.refl _ _).alloc (Nat.le_refl _) _⟩
      · have HR := Lib.hid (show textD ⟨true, xs, r, n⟩ = [] by rw [back_text, if_neg (by simp [nothingB, hr])])
        have hr' : (r != 0) = true := by simp [hr]
        subst hx
        go_wp2
        go_ret
        exact ⟨by rw [HR.out]; rfl, (Below.refl _ _).alloc (Nat.le_refl _) _⟩
    · have HR := Lib.hid (show textD ⟨true, xs, r, n⟩ = [] by rw [back_text, if_neg (by simp [nothingB, hx])])
      have hl : (0 : Int) < (xs.length : Int) := by have := List.length_pos_iff.2 hx; omega
      have hl2 : 0 < xs.length := List.length_pos_iff.2 hx
      go_wp2
      go_ret
      exact ⟨by rw [HR.out]; rfl, (Below.refl _ _).alloc (Nat.le_refl _) _⟩

end Go.Proofs.YtenlngclocfnlaaDoor
