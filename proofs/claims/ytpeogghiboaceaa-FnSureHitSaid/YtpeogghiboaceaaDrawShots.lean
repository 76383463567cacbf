/- The drawn shots. -/
import Derived.Test.YtpeogghiboaceaaDiag
import Derived.Test.YtpeogghiboaceaaDrawTable
namespace Go.Proofs.Ytpeogghiboaceaa
open Go.RowKit
set_option linter.unusedVariables false
set_option maxRecDepth 100000

def All01 (xss : List (List Int)) : Prop := ∀ xs ∈ xss, ∀ x ∈ xs, 0 ≤ x ∧ x ≤ 1
def ShotsOut (w : World) (e : Ending) (w' : World) : Prop :=
  ∃ xss a cap, e = .returned (.slice a xss.length cap) ∧ OwnII w.heap.size w' (.slice a xss.length cap) xss ∧ All01 xss ∧ xss.length ≤ 6 ∧ (∀ xs ∈ xss, xs.length ≤ 6) ∧ Below w.heap.size w w'

set_option maxHeartbeats 4000000 in
theorem specDiag_any (rows cols long rem : Int) (w : World) (hl : 1 ≤ long ∧ long ≤ 7) :
    Calls Try.prog 109 #[.int .i64 rows, .int .i64 cols, .int .i64 long, .int .i64 rem] w (ShotsOut w) := by
  have HL := Lib.hid (OwnII.lit w)
  have HBL := Lib.hid ((Below.refl w.heap.size w).alloc (Nat.le_refl _) (.cells #[] 24))
  cases hbo : boardB rows cols long
  · go_enter Try.func109, Try.ntmps109
    go_wp2_with (go_at_call 104; refine (l12Board_any _ _ _ _).mono ?_; rintro e w' ⟨rfl, rfl⟩; rw [hbo])
    go_ret
    exact ⟨[], _, 0, rfl, HL.out, (fun xs hx => by cases hx), by simp, by simp, HBL.out⟩
  · cases hin : inB rem 0 (long - 1)
    · go_enter Try.func109, Try.ntmps109
      go_wp2_with (first | (go_at_call 104; refine (l12Board_any _ _ _ _).mono ?_; rintro e w' ⟨rfl, rfl⟩; rw [hbo]) | (go_at_call 62; refine (l1In_any _ _ _ _).mono ?_; rintro e w' ⟨rfl, rfl⟩; rw [hin]))
      go_ret
      exact ⟨[], _, 0, rfl, HL.out, (fun xs hx => by cases hx), by simp, by simp, HBL.out⟩
    · obtain ⟨R, C, l, rfl, rfl, rfl, hR1, hR2, hC1, hC2, hl1, hl2⟩ := board_parts hbo
      obtain ⟨w1, hw1⟩ : ∃ w1, w1 = w.alloc (.cells #[] 24) := ⟨_, rfl⟩
      go_enter Try.func109, Try.ntmps109
      go_wp2_with (first | (go_at_call 104; refine (l12Board_any _ _ _ _).mono ?_; rintro e w' ⟨rfl, rfl⟩; rw [hbo]) | (go_at_call 62; refine (l1In_any _ _ _ _).mono ?_; rintro e w' ⟨rfl, rfl⟩; rw [hin]))
      go_loopw [9, 10] (fun o r wr => ∃ (a : Option Addr) (cap k : Nat) (xss : List (List Int)), k ≤ R ∧ r = .int .i64 k ∧ o = .slice a k cap ∧ xss.length = k ∧ OwnII w.heap.size wr (.slice a k cap) xss ∧ All01 xss ∧ (∀ xs ∈ xss, xs.length ≤ 6) ∧ Below w.heap.size w wr) (fun _ r _ => R - (intOf r).toNat)
      case atStart => exact ⟨_, 0, 0, [], Nat.zero_le _, rfl, rfl, rfl, HL.out, (fun xs hx => by cases hx), by simp, HBL.out⟩
      case round =>
        obtain ⟨a, cap, k, xss, hk, rfl, rfl, hxl, ho, h01, hl6, hb⟩ := hrel
        by_cases hlt : k < R
        · have HO := Lib.hid ho
          have HB := Lib.hid hb
          have HXL := Lib.hid hxl
          have H01 := Lib.hid h01
          have HL6 := Lib.hid hl6
          have hbs := hb.size
          obtain ⟨wo, hwo⟩ : ∃ wo, wo = wr := ⟨_, rfl⟩
          rw [← hwo] at HO HB hbs ⊢
          have hrl := OwnI.lit wo
          have hrb := (Below.refl wo.heap.size wo).alloc (Nat.le_refl _) (.cells #[] 3)
          have HRL := Lib.hid hrl
          have HRB := Lib.hid hrb
          clear ho hb hxl h01 hl6 hwo hrl hrb
          go_wp2
          go_loopw [11, 12] (fun o c wi => ∃ (a : Option Addr) (cap j : Nat) (ys : List Int), j ≤ C ∧ c = .int .i64 j ∧ o = .slice a j cap ∧ ys.length = j ∧ OwnI wo.heap.size wi (.slice a j cap) ys ∧ (∀ y ∈ ys, 0 ≤ y ∧ y ≤ 1) ∧ Below wo.heap.size wo wi) (fun _ c _ => C - (intOf c).toNat)
          case atStart => exact ⟨_, 0, 0, [], Nat.zero_le _, rfl, rfl, rfl, HRL.out, by simp, HRB.out⟩
          case round =>
            obtain ⟨a3, c3, j, ys, hj, rfl, rfl, hyl, ho3, hy01, hb3⟩ := hrel
            by_cases hlt2 : j < C
            · have HY := Lib.hid hyl
              have HY01 := Lib.hid hy01
              have HB3 := Lib.hid hb3
              have hbs3 := hb3.size
              have HO3 := Lib.hid ho3
              have hlen : ys.length ≤ 6 := by omega
              clear hyl hy01 hb3 ho3
              have hl0 : ¬ (l : Int) = 0 := by omega
              cases hq : (((k : Int) + (j : Int)).tmod (l : Int) == rem)
              · have hown : OwnI wo.heap.size (wr.alloc (.cells #[.int .i64 0] 3)) (.slice a3 j c3) ys := World.ownsRow.alloc HO3.out _
                have hq2 : (((k : Int) + (j : Int)) % (l : Int) == rem) = false := by rw [← hq, Int.tmod_eq_emod_of_nonneg (by omega)]
                go_wp2_with (at_builtin; refine wpList_push_int _ rfl (.tmp 48) (.tmp 49) rfl wo.heap.size (.slice a3 j c3) ys rfl hown ⟨wr.heap.size, 0, none⟩ 1 0 rfl ?_ ?_ ?_ ?_)
                · exact cell_of_one (heap_alloc_new wr _)
                · omega
                · simp; omega
                intro a5 c5 w5 ho5 hg5
                rw [HY.out] at ho5 ⊢
                have HO5 := Lib.hid ho5
                have HG5 := Lib.hid hg5
                have HOW := Lib.hid hown
                clear ho5 hg5 hown hq hq2
                go_wp2
                go_roundw
                case rel =>
                  refine ⟨a5, c5, j + 1, ys ++ [0], by omega, by go_num, rfl, by simp [HY.out], HO5.out, fun y hy => ?_, (HB3.out.alloc hbs3 _).grown HG5.out (by simp; omega) (fun j hj => (World.ownsRow.lt HOW.out j hj).1)⟩
                  rcases List.mem_append.1 hy with h | h
                  · exact HY01.out y h
                  · simp at h; omega
                case measure => simp [intOf]; omega
              · have hown : OwnI wo.heap.size (wr.alloc (.cells #[.int .i64 1] 3)) (.slice a3 j c3) ys := World.ownsRow.alloc HO3.out _
                have hq2 : (((k : Int) + (j : Int)) % (l : Int) == rem) = true := by rw [← hq, Int.tmod_eq_emod_of_nonneg (by omega)]
                go_wp2_with (at_builtin; refine wpList_push_int _ rfl (.tmp 45) (.tmp 46) rfl wo.heap.size (.slice a3 j c3) ys rfl hown ⟨wr.heap.size, 0, none⟩ 1 1 rfl ?_ ?_ ?_ ?_)
                · exact cell_of_one (heap_alloc_new wr _)
                · omega
                · simp; omega
                intro a5 c5 w5 ho5 hg5
                rw [HY.out] at ho5 ⊢
                have HO5 := Lib.hid ho5
                have HG5 := Lib.hid hg5
                have HOW := Lib.hid hown
                clear ho5 hg5 hown hq hq2
                go_wp2
                go_roundw
                case rel =>
                  refine ⟨a5, c5, j + 1, ys ++ [1], by omega, by go_num, rfl, by simp [HY.out], HO5.out, fun y hy => ?_, (HB3.out.alloc hbs3 _).grown HG5.out (by simp; omega) (fun j hj => (World.ownsRow.lt HOW.out j hj).1)⟩
                  rcases List.mem_append.1 hy with h | h
                  · exact HY01.out y h
                  · simp at h; omega
                case measure => simp [intOf]; omega
            · have e : j = C := by omega
              have HO3 := Lib.hid ho3
              have HB3 := Lib.hid hb3
              have HY := Lib.hid (show ys.length ≤ 6 by omega)
              have HY01 := Lib.hid hy01
              have hxk : k ≤ 6 := by omega
              have HN := Lib.hid (show xss.length = k from HXL.out)
              clear ho3 hb3 hyl hy01 e
              go_wp2_with (at_builtin; refine wpList_push_new wo _ rfl (.tmp 51) (.tmp 53) rfl w.heap.size (.slice a k cap) xss rfl HO.out HB3.out wr.heap.size rfl (.slice a3 j c3) ys rfl HO3.out (by rw [HN.out]; omega) hbs ?_; intro a' cap' w8 ho8 hb8; rw [HN.out] at ho8 ⊢; have HO8 := Lib.hid ho8; have HB8 := Lib.hid hb8; clear ho8 hb8)
              go_roundw
              case rel =>
                refine ⟨a', cap', k + 1, xss ++ [ys], by omega, by go_num, rfl, by simp [HXL.out], HO8.out, fun xs hx => ?_, fun xs hx => ?_, HB.out.trans HB8.out⟩
                · rcases List.mem_append.1 hx with h | h
                  · exact H01.out xs h
                  · simp at h; rw [h]; exact HY01.out
                · rcases List.mem_append.1 hx with h | h
                  · exact HL6.out xs h
                  · simp at h; rw [h]; exact HY.out
              case measure => simp [intOf]; omega
        · have e : k = R := by omega
          have HF := Lib.hid (show ShotsOut w (.returned (.slice a k cap)) wr from ⟨xss, a, cap, by rw [hxl], by rw [hxl]; exact ho, h01, by omega, hl6, hb⟩)
          clear ho hb h01 hl6 hxl
          go_wp2
          go_ret
          exact HF.out

end Go.Proofs.Ytpeogghiboaceaa
