/- PlacesOf of the program. -/
import Derived.Test.YtpeogghiboaceaaShip5
namespace Go.Proofs.Ytpeogghiboaceaa
open Go.RowKit
set_option linter.unusedVariables false
set_option maxRecDepth 100000

def downP (R C l r c : Nat) : Nat → List Pl
  | 0 => []
  | j + 1 => downP R C l r c j ++ (if r + (l - 1) * j < R ∧ c + (l - 1) * (1 - j) < C then [⟨r, c, j⟩] else [])
theorem downP_le (R C l r c j : Nat) : (downP R C l r c j).length ≤ j := by
  induction j with
  | zero => simp [downP]
  | succ j ih => rw [downP, List.length_append]; split <;> simp <;> omega
theorem downP_row {R C l r c : Nat} (hr : r < R) (hc : c < C) (hl : 1 ≤ l) : downP R C l r c (if l ≤ 2 then l else 2) = rowP R C l r c := by
  unfold rowP
  by_cases h1 : l = 1
  · subst h1
    rw [if_pos (by omega), if_pos (by omega), if_neg (by omega)]
    simp [downP, hr, hc]
  · have e : (if l ≤ 2 then l else 2) = 2 := by split <;> omega
    rw [e]
    have a1 : (r + (l - 1) * 0 < R ∧ c + (l - 1) * (1 - 0) < C) ↔ c + l ≤ C := by simp; omega
    have a2 : (r + (l - 1) * 1 < R ∧ c + (l - 1) * (1 - 1) < C) ↔ (r + l ≤ R ∧ 1 < l) := by simp; omega
    simp only [downP, List.nil_append]
    by_cases b1 : c + l ≤ C <;> by_cases b2 : r + l ≤ R ∧ 1 < l
    · rw [if_pos (a1.2 b1), if_pos (a2.2 b2), if_pos b1, if_pos b2]
    · rw [if_pos (a1.2 b1), if_neg (fun h => b2 (a2.1 h)), if_pos b1, if_neg b2]
    · rw [if_neg (fun h => b1 (a1.1 h)), if_pos (a2.2 b2), if_neg b1, if_pos b2]
    · rw [if_neg (fun h => b1 (a1.1 h)), if_neg (fun h => b2 (a2.1 h)), if_neg b1, if_neg b2]

set_option maxHeartbeats 4000000 in
theorem implPlacesOf_any (rows cols long : Int) (w : World) :
    Calls Try.prog 87 #[.int .i64 rows, .int .i64 cols, .int .i64 long] w (PlOut (placesR rows cols long) w) := by
  have HN := Lib.hid (OwnP.nil w w.heap.size)
  by_cases hbo : boardB rows cols long = true
  · obtain ⟨R, C, l, rfl, rfl, rfl, hR1, hR2, hC1, hC2, hl1, hl2⟩ := board_parts hbo
    have HPL := Lib.hid (placesR_nat hbo)
    have hi1 : (inB (R : Int) 1 6 && inB (C : Int) 1 6) = true := by simp [inB]; omega
    have hi2 : inB (l : Int) 1 6 = true := by simp [inB]; omega
    obtain ⟨M, hM⟩ : ∃ M, M = if l ≤ 2 then l else 2 := ⟨_, rfl⟩
    have hM2 : M ≤ 2 := by rw [hM]; split <;> omega
    have hMI : min (l : Int) 2 = (M : Int) := by rw [hM]; split <;> omega
    have hdw : ∀ k j, k < R → j < C → downP R C l k j M = rowP R C l k j := fun k j h1 h2 => by rw [hM]; exact downP_row h1 h2 hl1
    have hcase : (M = l ∧ ¬ (2 : Int) < (l : Int)) ∨ (M = 2 ∧ (2 : Int) < (l : Int)) := by rw [hM]; split <;> omega
    clear hbo hMI
    rcases hcase with ⟨hm, hml⟩ | ⟨hm, hml⟩
    · rw [hm] at hdw hM2
      have HDW := Lib.hid hdw
      clear hm hM hdw
      go_enter Try.func87, Try.ntmps87
      go_wp2_with (first | (go_at_call 93; refine (isBoard_any _ _ _).mono ?_; rintro e w' ⟨rfl, rfl⟩; rw [hi1]) | (go_at_call 75; refine (in_any _ _ _ _).mono ?_; rintro e w' ⟨rfl, rfl⟩; rw [hi2]))
      go_loopw [7, 24] (fun o r wr => ∃ (a : Option Addr) (cap k : Nat), k ≤ R ∧ r = .int .i64 k ∧ o = .slice a (placesK R C l k).length cap ∧ OwnP w.heap.size wr (.slice a (placesK R C l k).length cap) (placesK R C l k) ∧ Below w.heap.size w wr) (fun _ r _ => R - (intOf r).toNat)
      case atStart => exact ⟨none, 0, 0, Nat.zero_le _, rfl, rfl, HN.out, Below.refl _ _⟩
      case round =>
        obtain ⟨a, cap, k, hk, rfl, rfl, ho, hb⟩ := hrel
        by_cases hlt : k < R
        · have HLN := Lib.hid (placesK_le R C l k hC2)
          obtain ⟨L0, hL0⟩ : ∃ L0, L0 = placesK R C l k := ⟨_, rfl⟩
          rw [← hL0] at ho HLN ⊢
          have HL0 := Lib.hid hL0
          have HO := Lib.hid ho
          have HB := Lib.hid hb
          obtain ⟨wo, hwo⟩ : ∃ wo, wo = wr := ⟨_, rfl⟩
          rw [← hwo] at HO HB ⊢
          clear ho hb hL0 hwo
          go_wp2
          go_loopw [7, 28] (fun o c wi => ∃ (a : Option Addr) (cap j : Nat), j ≤ C ∧ c = .int .i64 j ∧ o = .slice a (L0 ++ colsP R C l k j).length cap ∧ OwnP w.heap.size wi (.slice a (L0 ++ colsP R C l k j).length cap) (L0 ++ colsP R C l k j) ∧ Below w.heap.size w wi) (fun _ c _ => C - (intOf c).toNat)
          case atStart => exact ⟨a, cap, 0, Nat.zero_le _, rfl, by simp [colsP], by simpa [colsP] using HO.out, HB.out⟩
          case round =>
            obtain ⟨a, cap, j, hj, rfl, rfl, ho, hb⟩ := hrel
            by_cases hlt2 : j < C
            · have hlen : (L0 ++ colsP R C l k j).length ≤ 1000 := by rw [List.length_append]; have := colsP_le R C l k j; have := HLN.out; omega
              have HCS := Lib.hid (show L0 ++ colsP R C l k (j + 1) = (L0 ++ colsP R C l k j) ++ downP R C l k j l by rw [colsP, List.append_assoc, HDW.out k j hlt hlt2])
              obtain ⟨L1, hL1⟩ : ∃ L1, L1 = L0 ++ colsP R C l k j := ⟨_, rfl⟩
              rw [← hL1] at ho hlen HCS ⊢
              have HO1 := Lib.hid ho
              have HB1 := Lib.hid hb
              obtain ⟨wp, hwp⟩ : ∃ wp, wp = wr := ⟨_, rfl⟩
              rw [← hwp] at HO1 HB1 ⊢
              clear hL1 hb ho hwp
              go_wp2
              go_loopw [7, 33] (fun o d wi => ∃ (a : Option Addr) (cap d' : Nat), d' ≤ l ∧ d = .int .i64 d' ∧ o = .slice a (L1 ++ downP R C l k j d').length cap ∧ OwnP w.heap.size wi (.slice a (L1 ++ downP R C l k j d').length cap) (L1 ++ downP R C l k j d') ∧ Below w.heap.size w wi) (fun _ d _ => l - (intOf d).toNat)
              case atStart => exact ⟨a, cap, 0, Nat.zero_le _, rfl, by simp [downP], by simpa [downP] using HO1.out, HB1.out⟩
              case round =>
                obtain ⟨a, cap, d, hd, rfl, rfl, ho, hb⟩ := hrel
                by_cases hlt3 : d < l
                · have hlen1 : (L1 ++ downP R C l k j d).length ≤ 1002 := by rw [List.length_append]; have := downP_le R C l k j d; omega
                  have HDS := Lib.hid (show L1 ++ downP R C l k j (d + 1) = (L1 ++ downP R C l k j d) ++ (if k + (l - 1) * d < R ∧ j + (l - 1) * (1 - d) < C then [⟨k, j, d⟩] else []) by rw [downP, List.append_assoc])
                  obtain ⟨L2, hL2⟩ : ∃ L2, L2 = L1 ++ downP R C l k j d := ⟨_, rfl⟩
                  rw [← hL2] at ho hlen1 HDS ⊢
                  have hbs := hb.size
                  have HB2 := Lib.hid hb
                  obtain ⟨W1, hW1⟩ : ∃ W1, W1 = wr.alloc (.cells #[.int .i64 k, .int .i64 j, .int .i64 d] 80) := ⟨_, rfl⟩
                  have hb1 : Below wr.heap.size wr W1 := by rw [hW1]; exact (Below.refl _ _).alloc (Nat.le_refl _) _
                  have hs1 : wr.heap.size < W1.heap.size := by rw [hW1]; simp
                  have x1 : W1.cell? ⟨wr.heap.size, 0, none⟩ = some (.int .i64 k) := by rw [hW1]; exact cell_of_row _ _ 0 _ _ (0, 0) (heap_alloc_new wr _)
                  have x2 : W1.cell? ⟨wr.heap.size, 1, none⟩ = some (.int .i64 j) := by rw [hW1]; exact cell_of_row _ _ 1 _ _ (0, 0) (heap_alloc_new wr _)
                  have x3 : W1.cell? ⟨wr.heap.size, 2, none⟩ = some (.int .i64 d) := by rw [hW1]; exact cell_of_row _ _ 2 _ _ (0, 0) (heap_alloc_new wr _)
                  have hF := field_any ⟨k, j, d⟩ (l - 1) (by show k ≤ 100; omega) (by show j ≤ 100; omega) (by show d ≤ 1; omega) (by omega) W1
                  have el : ((l - 1 : Nat) : Int) = (l : Int) - 1 := by omega
                  unfold plV at hF
                  simp only [el] at hF
                  obtain ⟨X, hX⟩ : ∃ X, X = k + (l - 1) * d := ⟨_, rfl⟩
                  obtain ⟨Y, hY⟩ : ∃ Y, Y = j + (l - 1) * (1 - d) := ⟨_, rfl⟩
                  rw [← hX, ← hY] at HDS hF
                  rw [hW1] at hF
                  have HW1 := Lib.hid hW1
                  clear hL2 hb hX hY hW1 el
                  go_wp2_with fail
                  refine hF.mono ?_
                  rintro e w3 ⟨rfl, hb3⟩
                  rw [← HW1.out] at hb3
                  have ho3 := (ho.below hb1).below hb3
                  have y1 := (Above.of_below (B := 0) hb3).cell (Nat.zero_le _) x1
                  have y2 := (Above.of_below (B := 0) hb3).cell (Nat.zero_le _) x2
                  have y3 := (Above.of_below (B := 0) hb3).cell (Nat.zero_le _) x3
                  have hb33 := (HB2.out.trans (hb1.mono hbs)).trans (hb3.mono (by omega))
                  have hbs3 := hb33.size
                  have HB3 := Lib.hid hb33
                  clear hb3 hb33 hb1 x1 x2 x3 ho hF hs1
                  by_cases hfit : X < R ∧ Y < C
                  · have z1 : (X : Int) < (R : Int) := by omega
                    have z2 : (Y : Int) < (C : Int) := by omega
                    have HFIT := Lib.hid hfit
                    have hown := ho3.alloc (.cells #[.int .i64 k, .int .i64 j, .int .i64 d] 80)
                    have hbn := HB3.out.trans ((Below.refl w.heap.size w3).alloc hbs3 (.cells #[.int .i64 k, .int .i64 j, .int .i64 d] 80))
                    go_wp2_with (at_builtin; refine wpList_push_pl _ rfl (.tmp 55) (.tmp 57) rfl w.heap.size _ L2 rfl hown ⟨w3.heap.size, 0, none⟩ 1 ⟨k, j, d⟩ rfl ?_ ?_ ?_ ?_ ?_ ?_)
                    · first | omega | (simp; omega)
                    · first | omega | (simp; omega)
                    intro a5 c5 w5 ho5 hg5
                    have HB5 := Lib.hid (hbn.grown hg5 (by simp; omega) (OwnP.blk hown))
                    have HO5 := Lib.hid ho5
                    have HRW := Lib.hid (show L1 ++ downP R C l k j (d + 1) = L2 ++ [⟨k, j, d⟩] by rw [HDS.out, if_pos HFIT.out])
                    clear ho5 hg5 hbn hown ho3 hfit
                    go_wp2
                    go_roundw
                    case rel => exact ⟨a5, c5, d + 1, by omega, by go_num, by rw [HRW.out]; simp, by rw [HRW.out]; simpa using HO5.out, HB5.out⟩
                    case measure => simp [intOf]; omega
                  · have HO3 := Lib.hid ho3
                    have HRW := Lib.hid (show L1 ++ downP R C l k j (d + 1) = L2 by rw [HDS.out, if_neg hfit, List.append_nil])
                    clear ho3
                    by_cases z1 : (X : Int) < (R : Int)
                    · have z2 : decide ((Y : Int) < (C : Int)) = false := decide_eq_false (by omega)
                      have z3 : ¬ Y < C := by omega
                      have z4 : X < R := by omega
                      have z5 : decide (Y < C) = false := decide_eq_false z3
                      clear hfit
                      go_wp2
                      go_roundw
                      case rel => exact ⟨a, cap, d + 1, by omega, by go_num, by rw [HRW.out], by rw [HRW.out]; exact HO3.out, HB3.out⟩
                      case measure => simp [intOf]; omega
                    · have z2 : decide ((X : Int) < (R : Int)) = false := decide_eq_false z1
                      have z5 : decide (X < R) = false := decide_eq_false (by omega)
                      clear hfit
                      go_wp2
                      go_roundw
                      case rel => exact ⟨a, cap, d + 1, by omega, by go_num, by rw [HRW.out], by rw [HRW.out]; exact HO3.out, HB3.out⟩
                      case measure => simp [intOf]; omega
                · have e : d = l := by omega
                  rw [e] at ho ⊢
                  have HF := Lib.hid ho
                  have HB2 := Lib.hid hb
                  clear ho hb
                  go_wp2
                  go_roundw
                  case rel => exact ⟨a, cap, j + 1, by omega, by go_num, by rw [HCS.out], by rw [HCS.out]; exact HF.out, HB2.out⟩
                  case measure => simp [intOf]; omega
            · have e : j = C := by omega
              subst e
              have HF := Lib.hid ho
              have HB2 := Lib.hid hb
              have HPS := Lib.hid (show placesK R j l (k + 1) = L0 ++ colsP R j l k j by rw [placesK, HL0.out])
              clear ho hb
              go_wp2
              go_roundw
              case rel => exact ⟨a, cap, k + 1, by omega, by go_num, by rw [HPS.out], by rw [HPS.out]; exact HF.out, HB2.out⟩
              case measure => simp [intOf]; omega
        · have e : k = R := by omega
          subst e
          have HF := Lib.hid ho
          have HB2 := Lib.hid hb
          clear ho hb
          go_wp2
          go_ret
          exact ⟨a, cap, by rw [HPL.out]; rfl, by rw [HPL.out]; exact HF.out, HB2.out⟩
    · rw [hm] at hdw hM2
      have HDW := Lib.hid hdw
      clear hm hM hdw
      go_enter Try.func87, Try.ntmps87
      go_wp2_with (first | (go_at_call 93; refine (isBoard_any _ _ _).mono ?_; rintro e w' ⟨rfl, rfl⟩; rw [hi1]) | (go_at_call 75; refine (in_any _ _ _ _).mono ?_; rintro e w' ⟨rfl, rfl⟩; rw [hi2]))
      go_loopw [7, 24] (fun o r wr => ∃ (a : Option Addr) (cap k : Nat), k ≤ R ∧ r = .int .i64 k ∧ o = .slice a (placesK R C l k).length cap ∧ OwnP w.heap.size wr (.slice a (placesK R C l k).length cap) (placesK R C l k) ∧ Below w.heap.size w wr) (fun _ r _ => R - (intOf r).toNat)
      case atStart => exact ⟨none, 0, 0, Nat.zero_le _, rfl, rfl, HN.out, Below.refl _ _⟩
      case round =>
        obtain ⟨a, cap, k, hk, rfl, rfl, ho, hb⟩ := hrel
        by_cases hlt : k < R
        · have HLN := Lib.hid (placesK_le R C l k hC2)
          obtain ⟨L0, hL0⟩ : ∃ L0, L0 = placesK R C l k := ⟨_, rfl⟩
          rw [← hL0] at ho HLN ⊢
          have HL0 := Lib.hid hL0
          have HO := Lib.hid ho
          have HB := Lib.hid hb
          obtain ⟨wo, hwo⟩ : ∃ wo, wo = wr := ⟨_, rfl⟩
          rw [← hwo] at HO HB ⊢
          clear ho hb hL0 hwo
          go_wp2
          go_loopw [7, 28] (fun o c wi => ∃ (a : Option Addr) (cap j : Nat), j ≤ C ∧ c = .int .i64 j ∧ o = .slice a (L0 ++ colsP R C l k j).length cap ∧ OwnP w.heap.size wi (.slice a (L0 ++ colsP R C l k j).length cap) (L0 ++ colsP R C l k j) ∧ Below w.heap.size w wi) (fun _ c _ => C - (intOf c).toNat)
          case atStart => exact ⟨a, cap, 0, Nat.zero_le _, rfl, by simp [colsP], by simpa [colsP] using HO.out, HB.out⟩
          case round =>
            obtain ⟨a, cap, j, hj, rfl, rfl, ho, hb⟩ := hrel
            by_cases hlt2 : j < C
            · have hlen : (L0 ++ colsP R C l k j).length ≤ 1000 := by rw [List.length_append]; have := colsP_le R C l k j; have := HLN.out; omega
              have HCS := Lib.hid (show L0 ++ colsP R C l k (j + 1) = (L0 ++ colsP R C l k j) ++ downP R C l k j 2 by rw [colsP, List.append_assoc, HDW.out k j hlt hlt2])
              obtain ⟨L1, hL1⟩ : ∃ L1, L1 = L0 ++ colsP R C l k j := ⟨_, rfl⟩
              rw [← hL1] at ho hlen HCS ⊢
              have HO1 := Lib.hid ho
              have HB1 := Lib.hid hb
              obtain ⟨wp, hwp⟩ : ∃ wp, wp = wr := ⟨_, rfl⟩
              rw [← hwp] at HO1 HB1 ⊢
              clear hL1 hb ho hwp
              go_wp2
              go_loopw [7, 33] (fun o d wi => ∃ (a : Option Addr) (cap d' : Nat), d' ≤ 2 ∧ d = .int .i64 d' ∧ o = .slice a (L1 ++ downP R C l k j d').length cap ∧ OwnP w.heap.size wi (.slice a (L1 ++ downP R C l k j d').length cap) (L1 ++ downP R C l k j d') ∧ Below w.heap.size w wi) (fun _ d _ => 2 - (intOf d).toNat)
              case atStart => exact ⟨a, cap, 0, Nat.zero_le _, rfl, by simp [downP], by simpa [downP] using HO1.out, HB1.out⟩
              case round =>
                obtain ⟨a, cap, d, hd, rfl, rfl, ho, hb⟩ := hrel
                by_cases hlt3 : d < 2
                · have hlen1 : (L1 ++ downP R C l k j d).length ≤ 1002 := by rw [List.length_append]; have := downP_le R C l k j d; omega
                  have HDS := Lib.hid (show L1 ++ downP R C l k j (d + 1) = (L1 ++ downP R C l k j d) ++ (if k + (l - 1) * d < R ∧ j + (l - 1) * (1 - d) < C then [⟨k, j, d⟩] else []) by rw [downP, List.append_assoc])
                  obtain ⟨L2, hL2⟩ : ∃ L2, L2 = L1 ++ downP R C l k j d := ⟨_, rfl⟩
                  rw [← hL2] at ho hlen1 HDS ⊢
                  have hbs := hb.size
                  have HB2 := Lib.hid hb
                  obtain ⟨W1, hW1⟩ : ∃ W1, W1 = wr.alloc (.cells #[.int .i64 k, .int .i64 j, .int .i64 d] 80) := ⟨_, rfl⟩
                  have hb1 : Below wr.heap.size wr W1 := by rw [hW1]; exact (Below.refl _ _).alloc (Nat.le_refl _) _
                  have hs1 : wr.heap.size < W1.heap.size := by rw [hW1]; simp
                  have x1 : W1.cell? ⟨wr.heap.size, 0, none⟩ = some (.int .i64 k) := by rw [hW1]; exact cell_of_row _ _ 0 _ _ (0, 0) (heap_alloc_new wr _)
                  have x2 : W1.cell? ⟨wr.heap.size, 1, none⟩ = some (.int .i64 j) := by rw [hW1]; exact cell_of_row _ _ 1 _ _ (0, 0) (heap_alloc_new wr _)
                  have x3 : W1.cell? ⟨wr.heap.size, 2, none⟩ = some (.int .i64 d) := by rw [hW1]; exact cell_of_row _ _ 2 _ _ (0, 0) (heap_alloc_new wr _)
                  have hF := field_any ⟨k, j, d⟩ (l - 1) (by show k ≤ 100; omega) (by show j ≤ 100; omega) (by show d ≤ 1; omega) (by omega) W1
                  have el : ((l - 1 : Nat) : Int) = (l : Int) - 1 := by omega
                  unfold plV at hF
                  simp only [el] at hF
                  obtain ⟨X, hX⟩ : ∃ X, X = k + (l - 1) * d := ⟨_, rfl⟩
                  obtain ⟨Y, hY⟩ : ∃ Y, Y = j + (l - 1) * (1 - d) := ⟨_, rfl⟩
                  rw [← hX, ← hY] at HDS hF
                  rw [hW1] at hF
                  have HW1 := Lib.hid hW1
                  clear hL2 hb hX hY hW1 el
                  go_wp2_with fail
                  refine hF.mono ?_
                  rintro e w3 ⟨rfl, hb3⟩
                  rw [← HW1.out] at hb3
                  have ho3 := (ho.below hb1).below hb3
                  have y1 := (Above.of_below (B := 0) hb3).cell (Nat.zero_le _) x1
                  have y2 := (Above.of_below (B := 0) hb3).cell (Nat.zero_le _) x2
                  have y3 := (Above.of_below (B := 0) hb3).cell (Nat.zero_le _) x3
                  have hb33 := (HB2.out.trans (hb1.mono hbs)).trans (hb3.mono (by omega))
                  have hbs3 := hb33.size
                  have HB3 := Lib.hid hb33
                  clear hb3 hb33 hb1 x1 x2 x3 ho hF hs1
                  by_cases hfit : X < R ∧ Y < C
                  · have z1 : (X : Int) < (R : Int) := by omega
                    have z2 : (Y : Int) < (C : Int) := by omega
                    have HFIT := Lib.hid hfit
                    have hown := ho3.alloc (.cells #[.int .i64 k, .int .i64 j, .int .i64 d] 80)
                    have hbn := HB3.out.trans ((Below.refl w.heap.size w3).alloc hbs3 (.cells #[.int .i64 k, .int .i64 j, .int .i64 d] 80))
                    go_wp2_with (at_builtin; refine wpList_push_pl _ rfl (.tmp 55) (.tmp 57) rfl w.heap.size _ L2 rfl hown ⟨w3.heap.size, 0, none⟩ 1 ⟨k, j, d⟩ rfl ?_ ?_ ?_ ?_ ?_ ?_)
                    · first | omega | (simp; omega)
                    · first | omega | (simp; omega)
                    intro a5 c5 w5 ho5 hg5
                    have HB5 := Lib.hid (hbn.grown hg5 (by simp; omega) (OwnP.blk hown))
                    have HO5 := Lib.hid ho5
                    have HRW := Lib.hid (show L1 ++ downP R C l k j (d + 1) = L2 ++ [⟨k, j, d⟩] by rw [HDS.out, if_pos HFIT.out])
                    clear ho5 hg5 hbn hown ho3 hfit
                    go_wp2
                    go_roundw
                    case rel => exact ⟨a5, c5, d + 1, by omega, by go_num, by rw [HRW.out]; simp, by rw [HRW.out]; simpa using HO5.out, HB5.out⟩
                    case measure => simp [intOf]; omega
                  · have HO3 := Lib.hid ho3
                    have HRW := Lib.hid (show L1 ++ downP R C l k j (d + 1) = L2 by rw [HDS.out, if_neg hfit, List.append_nil])
                    clear ho3
                    by_cases z1 : (X : Int) < (R : Int)
                    · have z2 : decide ((Y : Int) < (C : Int)) = false := decide_eq_false (by omega)
                      have z3 : ¬ Y < C := by omega
                      have z4 : X < R := by omega
                      have z5 : decide (Y < C) = false := decide_eq_false z3
                      clear hfit
                      go_wp2
                      go_roundw
                      case rel => exact ⟨a, cap, d + 1, by omega, by go_num, by rw [HRW.out], by rw [HRW.out]; exact HO3.out, HB3.out⟩
                      case measure => simp [intOf]; omega
                    · have z2 : decide ((X : Int) < (R : Int)) = false := decide_eq_false z1
                      have z5 : decide (X < R) = false := decide_eq_false (by omega)
                      clear hfit
                      go_wp2
                      go_roundw
                      case rel => exact ⟨a, cap, d + 1, by omega, by go_num, by rw [HRW.out], by rw [HRW.out]; exact HO3.out, HB3.out⟩
                      case measure => simp [intOf]; omega
                · have e : d = 2 := by omega
                  rw [e] at ho ⊢
                  have HF := Lib.hid ho
                  have HB2 := Lib.hid hb
                  clear ho hb
                  go_wp2
                  go_roundw
                  case rel => exact ⟨a, cap, j + 1, by omega, by go_num, by rw [HCS.out], by rw [HCS.out]; exact HF.out, HB2.out⟩
                  case measure => simp [intOf]; omega
            · have e : j = C := by omega
              subst e
              have HF := Lib.hid ho
              have HB2 := Lib.hid hb
              have HPS := Lib.hid (show placesK R j l (k + 1) = L0 ++ colsP R j l k j by rw [placesK, HL0.out])
              clear ho hb
              go_wp2
              go_roundw
              case rel => exact ⟨a, cap, k + 1, by omega, by go_num, by rw [HPS.out], by rw [HPS.out]; exact HF.out, HB2.out⟩
              case measure => simp [intOf]; omega
        · have e : k = R := by omega
          subst e
          have HF := Lib.hid ho
          have HB2 := Lib.hid hb
          clear ho hb
          go_wp2
          go_ret
          exact ⟨a, cap, by rw [HPL.out]; rfl, by rw [HPL.out]; exact HF.out, HB2.out⟩
  · have hb : boardB rows cols long = false := by simpa using hbo
    rw [placesR_no hb]
    cases hi1 : (inB rows 1 6 && inB cols 1 6)
    · clear hb hbo
      go_enter Try.func87, Try.ntmps87
      go_wp2_with (first | (go_at_call 93; refine (isBoard_any _ _ _).mono ?_; rintro e w' ⟨rfl, rfl⟩; rw [hi1]))
      go_ret
      exact ⟨none, 0, rfl, HN.out, Below.refl _ _⟩
    · have hi2 : inB long 1 6 = false := by unfold boardB at hb; rw [hi1] at hb; simpa using hb
      clear hb hbo
      go_enter Try.func87, Try.ntmps87
      go_wp2_with (first | (go_at_call 93; refine (isBoard_any _ _ _).mono ?_; rintro e w' ⟨rfl, rfl⟩; rw [hi1]) | (go_at_call 75; refine (in_any _ _ _ _).mono ?_; rintro e w' ⟨rfl, rfl⟩; rw [hi2]))
      go_ret
      exact ⟨none, 0, rfl, HN.out, Below.refl _ _⟩

end Go.Proofs.Ytpeogghiboaceaa
