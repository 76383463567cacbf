/- AskNext and AnswerWorst of the program. -/
import Derived.Test.YtpeogghiboaceaaAsk2
namespace Go.Proofs.Ytpeogghiboaceaa
open Go.RowKit
set_option linter.unusedVariables false
set_option maxRecDepth 100000

def pairV (r : Int × Bool) : Value := .tuple #[.int .i64 r.1, .bool r.2]
def askNextR (xss : List (List Int)) (lot : Int) : Int × Bool := if (tableB xss && lotOk xss lot) = true ∧ 1 ≤ need xss lot.toNat then (askI xss lot.toNat, true) else (-1, false)
def ansWorstR (xss : List (List Int)) (lot q : Int) : Int × Bool := if (tableB xss && lotOk xss lot) = true ∧ lot ≠ 0 ∧ askOk xss q = true ∧ 0 ≤ need xss lot.toNat then (worI xss lot.toNat q.toNat, true) else (-1, false)

theorem askNext_no {xss : List (List Int)} {lot : Int} (h : (tableB xss && lotOk xss lot) = false) : askNextR xss lot = (-1, false) := by unfold askNextR; rw [if_neg (by rw [h]; simp)]
theorem askNext_small {xss : List (List Int)} {L : Nat} (h : need xss L < 1) : askNextR xss (L : Int) = (-1, false) := by unfold askNextR; rw [if_neg (by simp; omega)]
theorem askNext_yes {xss : List (List Int)} {L : Nat} (h : (tableB xss && lotOk xss (L : Int)) = true) (h1 : 1 ≤ need xss L) : askNextR xss (L : Int) = (askI xss L, true) := by unfold askNextR; rw [if_pos ⟨h, by simpa using h1⟩]; simp

def TwoOut (r : Int × Bool) (w : World) (e : Ending) (w' : World) : Prop := e = .returned (pairV r) ∧ Below w.heap.size w w'

set_option maxHeartbeats 2000000 in
theorem implAskNext_any {B : Nat} (v : Value) (xss : List (List Int)) (lot : Int) (w : World) (h : Rows2 B w v xss) :
    Calls Try.prog 37 #[v, .int .i64 lot] w (TwoOut (askNextR xss lot) w) := by
  have hD := depthsOf_any v xss lot w h
  obtain ⟨ad, cap, rfl, hcap, hmax, V, hcells, hV⟩ := h.opened
  cases hok : (tableB xss && lotOk xss lot)
  · rw [hok] at hD
    have HN := Lib.hid (askNext_no hok)
    clear hok hcells hV h
    go_enter Try.func37, Try.ntmps37
    go_wp2_with fail
    refine hD.mono ?_
    rintro e w2 ⟨hb2, he⟩
    have he2 : e = .returned (.tuple #[.agg #[.slice none 0 0, .map none], .bool false]) := he
    subst he2
    have HB2 := Lib.hid hb2
    clear hb2 he
    go_wp2
    go_ret2
    exact ⟨by rw [HN.out]; rfl, HB2.out.alloc HB2.out.size _⟩
  · rw [hok] at hD
    obtain ⟨hT, L, rfl, hL⟩ := lot_parts hok
    have HOk := Lib.hid hok
    have HR := Lib.hid h
    clear hok hcells hV h
    go_enter Try.func37, Try.ntmps37
    go_wp2_with fail
    refine hD.mono ?_
    rintro e w2 ⟨hb2, he⟩
    rw [if_pos rfl] at he
    obtain ⟨bm, rfl, hm, hbm⟩ := he
    obtain ⟨w3, hw3⟩ : ∃ w3, w3 = w2.alloc (.cells #[.slice ad xss.length cap, .map (some bm)] 64) := ⟨_, rfl⟩
    have hb23 : Below w2.heap.size w2 w3 := by rw [hw3]; exact (Below.refl _ _).alloc (Nat.le_refl _) _
    have hb3 := hb2.trans (hb23.mono hb2.size)
    have hm3 := hm.below hb23
    have hx0 : w3.cell? ⟨w2.heap.size, 0, none⟩ = some (.slice ad xss.length cap) := by rw [hw3]; exact cell_of_row _ _ 0 _ _ (0, 0) (heap_alloc_new w2 _)
    have hx1 : w3.cell? ⟨w2.heap.size, 1, none⟩ = some (.map (some bm)) := by rw [hw3]; exact cell_of_row _ _ 1 _ _ (0, 0) (heap_alloc_new w2 _)
    have hN := needed_any _ xss hT bm (L + 1) L (by omega) hL w3 (HR.out.below hb3) hm3
    rw [hw3] at hN
    have HB3 := Lib.hid hb3
    have HM3 := Lib.hid hm3
    have HX0 := Lib.hid hx0
    have HX1 := Lib.hid hx1
    have HW3 := Lib.hid hw3
    have HR3 := Lib.hid (HR.out.below hb3)
    clear hb3 hm3 hb2 hm hb23 hw3 hx0 hx1
    go_wp2_with fail
    refine hN.mono ?_
    rintro e w4 ⟨rfl, hm4, hg4⟩
    rw [← HW3.out] at hg4
    have hy0 := HM3.out.cell hg4 HX0.out
    have hy1 := HM3.out.cell hg4 HX1.out
    have HR4 := Lib.hid (HR3.out.cells (fun p u => HM3.out.cell hg4))
    have HB4 := Lib.hid (HB3.out.grown hg4 HB3.out.size (fun j hj => by cases hj; exact hbm))
    have HM4 := Lib.hid hm4
    clear hm4 hg4 hN
    by_cases h1 : need xss L < 1
    · have hd : decide (need xss L < 1) = true := decide_eq_true h1
      have HN := Lib.hid (askNext_small h1)
      clear h1 hy0 hy1
      go_wp2
      go_ret2
      exact ⟨by rw [HN.out]; rfl, HB4.out⟩
    · have hd : decide (need xss L < 1) = false := decide_eq_false h1
      have hA := ask_any _ xss hT bm L hL w4 HR4.out HM4.out
      obtain ⟨q, hq, _, _, _⟩ := ask_some (xss := xss) (L := L) (by omega)
      have HN := Lib.hid (askNext_yes HOk.out (L := L) (by omega))
      rw [hq] at HN hA
      clear h1
      have HQ := Lib.hid hq
      clear hq hT hL
      go_wp2_with fail
      refine hA.mono ?_
      rintro e w5 ⟨rfl, hm5, hg5⟩
      have HB5 := Lib.hid (HB4.out.grown hg5 HB4.out.size (fun j hj => by cases hj; exact hbm))
      clear hm5 hg5 hA hy0 hy1
      go_wp2
      go_ret2
      exact ⟨by rw [HN.out]; rfl, HB5.out⟩

theorem ansWorst_no {xss : List (List Int)} {lot q : Int} (h : (tableB xss && lotOk xss lot) = false) : ansWorstR xss lot q = (-1, false) := by unfold ansWorstR; rw [if_neg (by rw [h]; simp)]
theorem ansWorst_zero {xss : List (List Int)} {lot q : Int} (h : lot = 0) : ansWorstR xss lot q = (-1, false) := by unfold ansWorstR; rw [if_neg (by simp [h])]
theorem ansWorst_ask {xss : List (List Int)} {lot q : Int} (h : askOk xss q = false) : ansWorstR xss lot q = (-1, false) := by unfold ansWorstR; rw [if_neg (by simp [h])]
theorem ansWorst_neg {xss : List (List Int)} {L : Nat} {q : Int} (h : need xss L < 0) : ansWorstR xss (L : Int) q = (-1, false) := by unfold ansWorstR; rw [if_neg (by simp; omega)]
theorem ansWorst_yes {xss : List (List Int)} {L Q : Nat} (h : (tableB xss && lotOk xss (L : Int)) = true) (h0 : L ≠ 0) (hq : askOk xss (Q : Int) = true) (hn : 0 ≤ need xss L) : ansWorstR xss (L : Int) (Q : Int) = (worI xss L Q, true) := by
  unfold ansWorstR; rw [if_pos ⟨h, by omega, hq, by simpa using hn⟩]; simp
theorem askOk_nat {xss : List (List Int)} {q : Int} (h : askOk xss q = true) : ∃ Q : Nat, q = Q ∧ Q < asks xss := by
  have hh := inB_yes h
  obtain ⟨Q, rfl⟩ := Int.eq_ofNat_of_zero_le hh.1
  exact ⟨Q, rfl, by unfold asks; omega⟩

set_option maxHeartbeats 4000000 in
theorem implAnswerWorst_any {B : Nat} (v : Value) (xss : List (List Int)) (lot q : Int) (w : World) (h : Rows2 B w v xss) :
    Calls Try.prog 33 #[v, .int .i64 lot, .int .i64 q] w (TwoOut (ansWorstR xss lot q) w) := by
  have hD := depthsOf_any v xss lot w h
  have h0 := h
  obtain ⟨ad, cap, rfl, hcap, hmax, V, hcells, hV⟩ := h.opened
  cases hok : (tableB xss && lotOk xss lot)
  · rw [hok] at hD
    have HN := Lib.hid (ansWorst_no (q := q) hok)
    clear hok hcells hV h h0
    go_enter Try.func33, Try.ntmps33
    go_wp2_with fail
    refine hD.mono ?_
    rintro e w2 ⟨hb2, he⟩
    have he2 : e = .returned (.tuple #[.agg #[.slice none 0 0, .map none], .bool false]) := he
    subst he2
    have HB2 := Lib.hid hb2
    clear hb2 he
    go_wp2
    go_ret2
    exact ⟨by rw [HN.out]; rfl, HB2.out.alloc HB2.out.size _⟩
  · rw [hok] at hD
    obtain ⟨hT, L, rfl, hL⟩ := lot_parts hok
    have hn := tableB_len hT
    obtain ⟨g, off, rfl, _, hc⟩ := hcells (by omega)
    have hc0 := hc 0 (by omega)
    obtain ⟨a0, c0, hv0, h01, h02⟩ := (hV 0 (by omega)).shape
    have hhd : xss.headD [] = xss[0] := headD_get (by omega)
    rw [hv0, Nat.add_zero] at hc0
    have hm5 : xss[0].length ≤ 5 := by
      have := hT
      unfold tableB at this
      simp only [Bool.and_eq_true, decide_eq_true_eq] at this
      rw [hhd] at this
      exact this.2.1
    have hn1 : (0 : Int) < (xss.length : Int) := by omega
    have hI := fun W => in_any q 0 ((xss[0].length : Int) - 1) W
    have e3 : inB q 0 ((xss[0].length : Int) - 1) = askOk xss q := by unfold askOk; rw [hhd]
    rw [e3] at hI
    obtain ⟨m0, hm0⟩ : ∃ m0, m0 = xss[0].length := ⟨_, rfl⟩
    rw [← hm0] at hc0 hI hm5 h01
    have HOk := Lib.hid hok
    have HR := Lib.hid h
    clear hok hcells hV h h0 hc hv0 hhd e3 hm0
    go_enter Try.func33, Try.ntmps33
    go_wp2_with fail
    refine hD.mono ?_
    rintro e w2 ⟨hb2, he⟩
    rw [if_pos rfl] at he
    obtain ⟨bm, rfl, hm, hbm⟩ := he
    obtain ⟨w3, hw3⟩ : ∃ w3, w3 = w2.alloc (.cells #[.slice (some ⟨g, off, none⟩) xss.length cap, .map (some bm)] 64) := ⟨_, rfl⟩
    have hb23 : Below w2.heap.size w2 w3 := by rw [hw3]; exact (Below.refl _ _).alloc (Nat.le_refl _) _
    have hb3 := hb2.trans (hb23.mono hb2.size)
    have hm3 := hm.below hb23
    have hx0 : w3.cell? ⟨w2.heap.size, 0, none⟩ = some (.slice (some ⟨g, off, none⟩) xss.length cap) := by rw [hw3]; exact cell_of_row _ _ 0 _ _ (0, 0) (heap_alloc_new w2 _)
    have hx1 : w3.cell? ⟨w2.heap.size, 1, none⟩ = some (.map (some bm)) := by rw [hw3]; exact cell_of_row _ _ 1 _ _ (0, 0) (heap_alloc_new w2 _)
    have hc3 := (Above.of_below (B := 0) hb3).cell (Nat.zero_le _) hc0
    have hN := needed_any _ xss hT bm (L + 1) L (by omega) hL w3 (HR.out.below hb3) hm3
    rw [hw3] at hN hc3
    have HB3 := Lib.hid hb3
    have HM3 := Lib.hid hm3
    have HX0 := Lib.hid hx0
    have HX1 := Lib.hid hx1
    have HW3 := Lib.hid hw3
    have HR3 := Lib.hid (HR.out.below hb3)
    clear hb3 hm3 hb2 hm hb23 hw3 hx0 hx1 hc0 hD
    by_cases hz : L = 0
    · have hd : ((L : Int) == 0) = true := by simp [hz]
      have HN := Lib.hid (ansWorst_zero (xss := xss) (lot := (L : Int)) (q := q) (by omega))
      clear hz hN hI hc3 hT hL
      go_wp2
      go_ret2
      exact ⟨by rw [HN.out]; rfl, by rw [← HW3.out]; exact HB3.out⟩
    · have hd : ((L : Int) == 0) = false := by simp; exact hz
      cases haq : askOk xss q
      · rw [haq] at hI
        have HN := Lib.hid (ansWorst_ask (xss := xss) (lot := (L : Int)) haq)
        clear haq hz hN hT hL
        go_wp2_with fail
        refine (hI _).mono ?_
        rintro e w4 ⟨rfl, rfl⟩
        clear hI hc3
        go_wp2
        go_ret2
        exact ⟨by rw [HN.out]; rfl, by rw [← HW3.out]; exact HB3.out⟩
      · rw [haq] at hI
        obtain ⟨Q, rfl, hQ⟩ := askOk_nat haq
        have HAQ := Lib.hid haq
        have HZ := Lib.hid hz
        clear haq hz
        go_wp2_with fail
        refine (hI _).mono ?_
        rintro e w4 ⟨rfl, rfl⟩
        clear hI hc3
        go_wp2_with fail
        refine hN.mono ?_
        rintro e w4 ⟨rfl, hm4, hg4⟩
        rw [← HW3.out] at hg4
        have hy0 := HM3.out.cell hg4 HX0.out
        have hy1 := HM3.out.cell hg4 HX1.out
        have HR4 := Lib.hid (HR3.out.cells (fun p u => HM3.out.cell hg4))
        have HB4 := Lib.hid (HB3.out.grown hg4 HB3.out.size (fun j hj => by cases hj; exact hbm))
        have HM4 := Lib.hid hm4
        clear hm4 hg4 hN
        by_cases h1 : need xss L < 0
        · have hd : decide (need xss L < 0) = true := decide_eq_true h1
          have HN := Lib.hid (ansWorst_neg (q := (Q : Int)) h1)
          clear h1 hy0 hy1
          go_wp2
          go_ret2
          exact ⟨by rw [HN.out]; rfl, HB4.out⟩
        · have hd : decide (need xss L < 0) = false := decide_eq_false h1
          have hA := worst_any _ xss hT bm L Q hL hQ w4 HR4.out HM4.out
          obtain ⟨a, ha3, ha, _, _⟩ := wor_some hT hL HZ.out (by omega) hQ
          have HN := Lib.hid (ansWorst_yes HOk.out HZ.out HAQ.out (by omega))
          rw [ha] at HN hA
          clear h1
          have HA := Lib.hid ha
          clear ha hT hL
          go_wp2_with fail
          refine hA.mono ?_
          rintro e w5 ⟨rfl, hm5, hg5⟩
          have HB5 := Lib.hid (HB4.out.grown hg5 HB4.out.size (fun j hj => by cases hj; exact hbm))
          clear hm5 hg5 hA hy0 hy1
          go_wp2
          go_ret2
          exact ⟨by rw [HN.out]; rfl, HB5.out⟩

end Go.Proofs.Ytpeogghiboaceaa
