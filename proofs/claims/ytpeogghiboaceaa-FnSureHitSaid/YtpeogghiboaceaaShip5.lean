/- PlacesOf, of both. -/
import Derived.Test.YtpeogghiboaceaaShip4
namespace Go.Proofs.Ytpeogghiboaceaa
open Go.RowKit
set_option linter.unusedVariables false
set_option maxRecDepth 100000

def rowP (R C l r c : Nat) : List Pl := (if c + l ≤ C then [⟨r, c, 0⟩] else []) ++ (if r + l ≤ R ∧ 1 < l then [⟨r, c, 1⟩] else [])
def colsP (R C l r : Nat) : Nat → List Pl
  | 0 => []
  | k + 1 => colsP R C l r k ++ rowP R C l r k
def placesK (R C l : Nat) : Nat → List Pl
  | 0 => []
  | k + 1 => placesK R C l k ++ colsP R C l k C
def boardB (rows cols long : Int) : Bool := inB rows 1 6 && inB cols 1 6 && inB long 1 6
def placesR (rows cols long : Int) : List Pl := if boardB rows cols long = true then placesK rows.toNat cols.toNat long.toNat rows.toNat else []
theorem rowP_le (R C l r c : Nat) : (rowP R C l r c).length ≤ 2 := by
  unfold rowP; split <;> split <;> simp
theorem colsP_le (R C l r k : Nat) : (colsP R C l r k).length ≤ 2 * k := by
  induction k with
  | zero => simp [colsP]
  | succ k ih => rw [colsP, List.length_append]; have := rowP_le R C l r k; omega
theorem placesK_le (R C l k : Nat) (hC : C ≤ 6) : (placesK R C l k).length ≤ 12 * k := by
  induction k with
  | zero => simp [placesK]
  | succ k ih => rw [placesK, List.length_append]; have := colsP_le R C l k C; omega
theorem board_parts {rows cols long : Int} (h : boardB rows cols long = true) : ∃ R C l : Nat, rows = R ∧ cols = C ∧ long = l ∧ 1 ≤ R ∧ R ≤ 6 ∧ 1 ≤ C ∧ C ≤ 6 ∧ 1 ≤ l ∧ l ≤ 6 := by
  simp [boardB, inB] at h
  exact ⟨rows.toNat, cols.toNat, long.toNat, by omega, by omega, by omega, by omega, by omega, by omega, by omega, by omega, by omega⟩
theorem placesR_nat {R C l : Nat} (h : boardB R C l = true) : placesR R C l = placesK R C l R := by unfold placesR; rw [if_pos h]; simp
theorem placesR_no {rows cols long : Int} (h : boardB rows cols long = false) : placesR rows cols long = [] := by unfold placesR; rw [h]; rfl
theorem placesR_le (rows cols long : Int) : (placesR rows cols long).length ≤ 72 := by
  by_cases h : boardB rows cols long = true
  · obtain ⟨R, C, l, rfl, rfl, rfl, h1, h2, h3, h4, h5, h6⟩ := board_parts h
    rw [placesR_nat h]
    have := placesK_le R C l R h4
    omega
  · rw [placesR_no (by simpa using h)]; simp

theorem isBoard_any (n m : Int) (w : World) :
    Calls Try.prog 93 #[.int .i64 n, .int .i64 m] w fun e w' => e = .returned (.bool (inB n 1 6 && inB m 1 6)) ∧ w = w' := by
  cases h1 : inB n 1 6
  · go_enter Try.func93, Try.ntmps93
    go_wp2_with (go_at_call 75; refine (in_any _ _ _ _).mono ?_; rintro e w' ⟨rfl, rfl⟩)
    go_ret
    exact ⟨rfl, rfl⟩
  · go_enter Try.func93, Try.ntmps93
    go_wp2_with (go_at_call 75; refine (in_any _ _ _ _).mono ?_; rintro e w' ⟨rfl, rfl⟩)
    go_ret
    exact ⟨rfl, rfl⟩
theorem l12Board_any (n m l : Int) (w : World) :
    Calls Try.prog 104 #[.int .i64 n, .int .i64 m, .int .i64 l] w fun e w' => e = .returned (.bool (boardB n m l)) ∧ w = w' := by
  unfold boardB
  cases h1 : inB n 1 6 <;> cases h2 : inB m 1 6 <;>
  · go_enter Try.func104, Try.ntmps104
    go_wp2_with (go_at_call 62; refine (l1In_any _ _ _ _).mono ?_; rintro e w' ⟨rfl, rfl⟩)
    go_ret
    exact ⟨rfl, rfl⟩

theorem infoPl : (Try.prog.info? 80).map (fun i => (i.zero, i.size, i.bytes)) = some (some (.agg #[.int .i64 0, .int .i64 0, .int .i64 0]), 3, 24) := by kernel_rfl
/-- 'out = append(out, p)'. -/
theorem wpList_push_pl (w : World) {ops : Array Oper} {rest : List Oper} {o : Oper} {a : Act} {Q : Exit → Act → World → Prop}
    (hg : o.guard = none) (s x : Operand) (hop : o.op = Op.call { callee := Callee.builtin Builtin.append, args := #[s, x], argTypes := #[47, 47] })
    (B : Nat) (v : Value) (ps : List Pl) (hs : a.eval s = v) (hown : OwnP B w v ps) (ad : Addr) (c : Nat) (p : Pl) (hx : a.eval x = .slice (some ad) 1 c)
    (hc1 : w.cell? (ad.add 0) = some (.int .i64 p.r)) (hc2 : w.cell? (ad.add 1) = some (.int .i64 p.c)) (hc3 : w.cell? (ad.add 2) = some (.int .i64 p.d))
    (hlen : ps.length ≤ 1000000) (hB : B ≤ w.heap.size)
    (hK : ∀ a' cap' w', OwnP B w' (.slice a' (ps.length + 1) cap') (ps ++ [p]) → w.grownBy w' v.ownBlock → wpList Try.prog ops Q rest (a.put o.dst (.slice a' (ps.length + 1) cap')) w') :
    wpList Try.prog ops Q (o :: rest) a w := by
  obtain ⟨i0, hi, hz0, hz1, hz2⟩ := info_parts infoPl
  refine wpList_append_own w hg s x 47 hop B 80 i0 (.agg #[.int .i64 0, .int .i64 0, .int .i64 0]) 3 24 Try.underlying47 hi hz0 hz1 hz2 rfl (by decide) v ps.length (cellsP ps) hs hown ad 1 c (plC p) hx rfl ?_ (by intro u hu; simp [plC] at hu; rcases hu with rfl | rfl | rfl <;> rfl) (by unfold maxLen; omega) (by omega) hB ?_
  · intro j u hj
    match j, hj with
    | 0, hj => simp [plC] at hj; subst hj; exact hc1
    | 1, hj => simp [plC] at hj; subst hj; exact hc2
    | 2, hj => simp [plC] at hj; subst hj; exact hc3
  · intro v' w' h1 h2 _
    obtain ⟨a', cap', rfl, _⟩ := own_shape h1
    refine hK a' cap' w' ?_ h2
    unfold OwnP
    rw [cellsP_append]
    simpa [cellsP] using h1

def PlOut (ps : List Pl) (w : World) (e : Ending) (w' : World) : Prop :=
  ∃ a cap, e = .returned (.slice a ps.length cap) ∧ OwnP w.heap.size w' (.slice a ps.length cap) ps ∧ Below w.heap.size w w'
theorem OwnP.lit (w : World) : OwnP w.heap.size (w.alloc (.cells #[] 80)) (.slice (some ⟨w.heap.size, 0, none⟩) 0 0) [] :=
  World.ownsRow_made w #[] 0 (Nat.le_refl _) (by simp [maxLen]) rfl
theorem OwnP.alloc {B : Nat} {w : World} {v : Value} {ps : List Pl} (h : OwnP B w v ps) (o : Obj) : OwnP B (w.alloc o) v ps := World.ownsRow.alloc h o
theorem OwnP.blk {B : Nat} {w : World} {v : Value} {ps : List Pl} (h : OwnP B w v ps) : ∀ j, v.ownBlock = some j → B ≤ j := fun j hj => (World.ownsRow.lt h j hj).1

set_option maxHeartbeats 4000000 in
theorem specPlacesOf_any (rows cols long : Int) (w : World) :
    Calls Try.prog 83 #[.int .i64 rows, .int .i64 cols, .int .i64 long] w (PlOut (placesR rows cols long) w) := by
  have hlit := OwnP.lit w
  have hbl : Below w.heap.size w (w.alloc (.cells #[] 80)) := (Below.refl _ _).alloc (Nat.le_refl _) _
  cases hbo : boardB rows cols long
  · rw [placesR_no hbo]
    have HL := Lib.hid hlit
    have HB := Lib.hid hbl
    clear hlit hbl
    go_enter Try.func83, Try.ntmps83
    go_wp2_with (go_at_call 104; refine (l12Board_any _ _ _ _).mono ?_; rintro e w' ⟨rfl, rfl⟩; rw [hbo])
    go_ret
    exact ⟨_, 0, rfl, HL.out, HB.out⟩
  · obtain ⟨R, C, l, rfl, rfl, rfl, hR1, hR2, hC1, hC2, hl1, hl2⟩ := board_parts hbo
    have HPL := Lib.hid (placesR_nat hbo)
    obtain ⟨w1, hw1⟩ : ∃ w1, w1 = w.alloc (.cells #[] 80) := ⟨_, rfl⟩
    have HL := Lib.hid hlit
    have HB := Lib.hid hbl
    clear hlit hbl
    go_enter Try.func83, Try.ntmps83
    go_wp2_with (go_at_call 104; refine (l12Board_any _ _ _ _).mono ?_; rintro e w' ⟨rfl, rfl⟩; rw [hbo])
    go_loopw [7, 8] (fun o r wr => ∃ (a : Option Addr) (cap k : Nat), k ≤ R ∧ r = .int .i64 k ∧ o = .slice a (placesK R C l k).length cap ∧ OwnP w.heap.size wr (.slice a (placesK R C l k).length cap) (placesK R C l k) ∧ Below w.heap.size w wr) (fun _ r _ => R - (intOf r).toNat)
    case atStart => exact ⟨some ⟨w.heap.size, 0, none⟩, 0, 0, Nat.zero_le _, rfl, rfl, HL.out, HB.out⟩
    case round =>
      obtain ⟨a, cap, k, hk, rfl, rfl, ho, hb⟩ := hrel
      by_cases hlt : k < R
      · have HLN := Lib.hid (placesK_le R C l k hC2)
        obtain ⟨L0, hL0⟩ : ∃ L0, L0 = placesK R C l k := ⟨_, rfl⟩
        rw [← hL0] at ho HLN ⊢
        have HL0 := Lib.hid hL0
        have HO := Lib.hid ho
        have HB := Lib.hid hb
        obtain ⟨wo, hwo⟩ : ∃ wo, wo = wr := ⟨_, rfl⟩
        rw [← hwo] at HO HB ⊢
        clear ho hb hL0 hwo
        go_wp2
        go_loopw [7, 9] (fun o c wi => ∃ (a : Option Addr) (cap j : Nat), j ≤ C ∧ c = .int .i64 j ∧ o = .slice a (L0 ++ colsP R C l k j).length cap ∧ OwnP w.heap.size wi (.slice a (L0 ++ colsP R C l k j).length cap) (L0 ++ colsP R C l k j) ∧ Below w.heap.size w wi) (fun _ c _ => C - (intOf c).toNat)
        case atStart => exact ⟨a, cap, 0, Nat.zero_le _, rfl, by simp [colsP], by simpa [colsP] using HO.out, HB.out⟩
        case round =>
          obtain ⟨a, cap, j, hj, rfl, rfl, ho, hb⟩ := hrel
          by_cases hlt2 : j < C
          · have hlen : (L0 ++ colsP R C l k j).length ≤ 1000 := by rw [List.length_append]; have := colsP_le R C l k j; have := HLN.out; omega
            have HCS := Lib.hid (show L0 ++ colsP R C l k (j + 1) = (L0 ++ colsP R C l k j) ++ rowP R C l k j by rw [colsP, List.append_assoc])
            obtain ⟨L1, hL1⟩ : ∃ L1, L1 = L0 ++ colsP R C l k j := ⟨_, rfl⟩
            rw [← hL1] at ho hlen HCS ⊢
            have hbs := hb.size
            have HB2 := Lib.hid hb
            clear hL1 hb
            have hj0 : (j : Int) + (l : Int) < 9223372036854775807 := by omega
            have hj1 : (k : Int) + (l : Int) < 9223372036854775807 := by omega
            by_cases q1 : j + l ≤ C
            · have z1 : ((j : Int) + (l : Int) ≤ (C : Int)) := by omega
              by_cases q2 : k + l ≤ R ∧ 1 < l
              · have z2 : ((k : Int) + (l : Int) ≤ (R : Int)) := by omega
                have z3 : (1 : Int) < (l : Int) := by omega
                have hown := ho.alloc (.cells #[.int .i64 (k : Nat), .int .i64 (j : Nat), .int .i64 0] 80)
                have hbn := HB2.out.trans ((Below.refl w.heap.size wr).alloc hbs (.cells #[.int .i64 (k : Nat), .int .i64 (j : Nat), .int .i64 0] 80))
                go_wp2_with (at_builtin; refine wpList_push_pl _ rfl (.tmp 32) (.tmp 36) rfl w.heap.size _ L1 rfl hown ⟨wr.heap.size, 0, none⟩ 1 ⟨k, j, 0⟩ rfl ?_ ?_ ?_ ?_ ?_ ?_)
                · omega
                · first | omega | (simp; omega)
                intro a5 c5 w5 ho5 hg5
                have hb5 : Below w.heap.size w w5 := hbn.grown hg5 (by simp; omega) (OwnP.blk hown)
                have hbs5 := hb5.size
                have HB5 := Lib.hid hb5
                obtain ⟨L2, hL2⟩ : ∃ L2, L2 = L1 ++ [⟨k, j, 0⟩] := ⟨_, rfl⟩
                have hn5 : L1.length + 1 = L2.length := by rw [hL2]; simp
                rw [← hL2, hn5] at ho5
                rw [hn5]
                have HL2 := Lib.hid hL2
                have hlen2 : L2.length ≤ 1001 := by omega
                clear hg5 hb5 hbn hown ho hL2 hn5
                have hown := ho5.alloc (.cells #[.int .i64 (k : Nat), .int .i64 (j : Nat), .int .i64 1] 80)
                have hbn := HB5.out.trans ((Below.refl w.heap.size w5).alloc hbs5 (.cells #[.int .i64 (k : Nat), .int .i64 (j : Nat), .int .i64 1] 80))
                go_wp2_with (at_builtin; refine wpList_push_pl _ rfl (.tmp 47) (.tmp 51) rfl w.heap.size _ L2 rfl hown ⟨w5.heap.size, 0, none⟩ 1 ⟨k, j, 1⟩ rfl ?_ ?_ ?_ ?_ ?_ ?_)
                · omega
                · first | omega | (simp; omega)
                intro a6 c6 w6 ho6 hg6
                have hb6 : Below w.heap.size w w6 := hbn.grown hg6 (by simp; omega) (OwnP.blk hown)
                have HB6 := Lib.hid hb6
                clear hg6 hb6 hbn hown ho5
                have HF := Lib.hid ho6
                have HRW := Lib.hid (show L0 ++ colsP R C l k (j + 1) = (L2 ++ [⟨k, j, 1⟩]) by rw [HCS.out, HL2.out]; unfold rowP; rw [if_pos q1, if_pos q2]; simp)
                clear ho6
                go_wp2
                go_roundw
                case rel => exact ⟨a6, c6, j + 1, by omega, by go_num, by first | (rw [HRW.out]; done) | (rw [HRW.out]; simp), by rw [HRW.out]; simpa using HF.out, HB6.out⟩
                case measure => simp [intOf]; omega
              · by_cases z2 : ((k : Int) + (l : Int) ≤ (R : Int))
                · have z3 : decide ((1 : Int) < (l : Int)) = false := decide_eq_false (by omega)
                  have hown := ho.alloc (.cells #[.int .i64 (k : Nat), .int .i64 (j : Nat), .int .i64 0] 80)
                  have hbn := HB2.out.trans ((Below.refl w.heap.size wr).alloc hbs (.cells #[.int .i64 (k : Nat), .int .i64 (j : Nat), .int .i64 0] 80))
                  go_wp2_with (at_builtin; refine wpList_push_pl _ rfl (.tmp 32) (.tmp 36) rfl w.heap.size _ L1 rfl hown ⟨wr.heap.size, 0, none⟩ 1 ⟨k, j, 0⟩ rfl ?_ ?_ ?_ ?_ ?_ ?_)
                  · omega
                  · first | omega | (simp; omega)
                  intro a5 c5 w5 ho5 hg5
                  have hb5 : Below w.heap.size w w5 := hbn.grown hg5 (by simp; omega) (OwnP.blk hown)
                  have hbs5 := hb5.size
                  have HB5 := Lib.hid hb5
                  obtain ⟨L2, hL2⟩ : ∃ L2, L2 = L1 ++ [⟨k, j, 0⟩] := ⟨_, rfl⟩
                  have hn5 : L1.length + 1 = L2.length := by rw [hL2]; simp
                  rw [← hL2, hn5] at ho5
                  rw [hn5]
                  have HL2 := Lib.hid hL2
                  have hlen2 : L2.length ≤ 1001 := by omega
                  clear hg5 hb5 hbn hown ho hL2 hn5
                  have HF := Lib.hid ho5
                  have HRW := Lib.hid (show L0 ++ colsP R C l k (j + 1) = L2 by rw [HCS.out, HL2.out]; unfold rowP; rw [if_pos q1, if_neg q2]; simp)
                  clear ho5
                  go_wp2
                  go_roundw
                  case rel => exact ⟨a5, c5, j + 1, by omega, by go_num, by first | (rw [HRW.out]; done) | (rw [HRW.out]; simp), by rw [HRW.out]; simpa using HF.out, HB5.out⟩
                  case measure => simp [intOf]; omega
                · have z4 : decide ((k : Int) + (l : Int) ≤ (R : Int)) = false := decide_eq_false z2
                  have hown := ho.alloc (.cells #[.int .i64 (k : Nat), .int .i64 (j : Nat), .int .i64 0] 80)
                  have hbn := HB2.out.trans ((Below.refl w.heap.size wr).alloc hbs (.cells #[.int .i64 (k : Nat), .int .i64 (j : Nat), .int .i64 0] 80))
                  go_wp2_with (at_builtin; refine wpList_push_pl _ rfl (.tmp 32) (.tmp 36) rfl w.heap.size _ L1 rfl hown ⟨wr.heap.size, 0, none⟩ 1 ⟨k, j, 0⟩ rfl ?_ ?_ ?_ ?_ ?_ ?_)
                  · omega
                  · first | omega | (simp; omega)
                  intro a5 c5 w5 ho5 hg5
                  have hb5 : Below w.heap.size w w5 := hbn.grown hg5 (by simp; omega) (OwnP.blk hown)
                  have hbs5 := hb5.size
                  have HB5 := Lib.hid hb5
                  obtain ⟨L2, hL2⟩ : ∃ L2, L2 = L1 ++ [⟨k, j, 0⟩] := ⟨_, rfl⟩
                  have hn5 : L1.length + 1 = L2.length := by rw [hL2]; simp
                  rw [← hL2, hn5] at ho5
                  rw [hn5]
                  have HL2 := Lib.hid hL2
                  have hlen2 : L2.length ≤ 1001 := by omega
                  clear hg5 hb5 hbn hown ho hL2 hn5
                  have HF := Lib.hid ho5
                  have HRW := Lib.hid (show L0 ++ colsP R C l k (j + 1) = L2 by rw [HCS.out, HL2.out]; unfold rowP; rw [if_pos q1, if_neg q2]; simp)
                  clear ho5
                  go_wp2
                  go_roundw
                  case rel => exact ⟨a5, c5, j + 1, by omega, by go_num, by first | (rw [HRW.out]; done) | (rw [HRW.out]; simp), by rw [HRW.out]; simpa using HF.out, HB5.out⟩
                  case measure => simp [intOf]; omega
            · have z1 : ¬ ((j : Int) + (l : Int) ≤ (C : Int)) := by omega
              by_cases q2 : k + l ≤ R ∧ 1 < l
              · have z2 : ((k : Int) + (l : Int) ≤ (R : Int)) := by omega
                have z3 : (1 : Int) < (l : Int) := by omega
                have hown := ho.alloc (.cells #[.int .i64 (k : Nat), .int .i64 (j : Nat), .int .i64 1] 80)
                have hbn := HB2.out.trans ((Below.refl w.heap.size wr).alloc hbs (.cells #[.int .i64 (k : Nat), .int .i64 (j : Nat), .int .i64 1] 80))
                go_wp2_with (at_builtin; refine wpList_push_pl _ rfl (.tmp 47) (.tmp 51) rfl w.heap.size _ L1 rfl hown ⟨wr.heap.size, 0, none⟩ 1 ⟨k, j, 1⟩ rfl ?_ ?_ ?_ ?_ ?_ ?_)
                · omega
                · first | omega | (simp; omega)
                intro a6 c6 w6 ho6 hg6
                have hb6 : Below w.heap.size w w6 := hbn.grown hg6 (by simp; omega) (OwnP.blk hown)
                have HB6 := Lib.hid hb6
                clear hg6 hb6 hbn hown ho
                have HF := Lib.hid ho6
                have HRW := Lib.hid (show L0 ++ colsP R C l k (j + 1) = (L1 ++ [⟨k, j, 1⟩]) by rw [HCS.out]; unfold rowP; rw [if_neg q1, if_pos q2]; simp)
                clear ho6
                go_wp2
                go_roundw
                case rel => exact ⟨a6, c6, j + 1, by omega, by go_num, by first | (rw [HRW.out]; done) | (rw [HRW.out]; simp), by rw [HRW.out]; simpa using HF.out, HB6.out⟩
                case measure => simp [intOf]; omega
              · by_cases z2 : ((k : Int) + (l : Int) ≤ (R : Int))
                · have z3 : decide ((1 : Int) < (l : Int)) = false := decide_eq_false (by omega)
                  have HF := Lib.hid ho
                  have HRW := Lib.hid (show L0 ++ colsP R C l k (j + 1) = L1 by rw [HCS.out]; unfold rowP; rw [if_neg q1, if_neg q2]; simp)
                  clear ho
                  go_wp2
                  go_roundw
                  case rel => exact ⟨a, cap, j + 1, by omega, by go_num, by first | (rw [HRW.out]; done) | (rw [HRW.out]; simp), by rw [HRW.out]; simpa using HF.out, HB2.out⟩
                  case measure => simp [intOf]; omega
                · have z4 : decide ((k : Int) + (l : Int) ≤ (R : Int)) = false := decide_eq_false z2
                  have HF := Lib.hid ho
                  have HRW := Lib.hid (show L0 ++ colsP R C l k (j + 1) = L1 by rw [HCS.out]; unfold rowP; rw [if_neg q1, if_neg q2]; simp)
                  clear ho
                  go_wp2
                  go_roundw
                  case rel => exact ⟨a, cap, j + 1, by omega, by go_num, by first | (rw [HRW.out]; done) | (rw [HRW.out]; simp), by rw [HRW.out]; simpa using HF.out, HB2.out⟩
                  case measure => simp [intOf]; omega
          · have e : j = C := by omega
            subst e
            have HF := Lib.hid ho
            have HB2 := Lib.hid hb
            have HPS := Lib.hid (show placesK R j l (k + 1) = L0 ++ colsP R j l k j by rw [placesK, HL0.out])
            clear ho hb
            go_wp2
            go_roundw
            case rel => exact ⟨a, cap, k + 1, by omega, by go_num, by rw [HPS.out], by rw [HPS.out]; exact HF.out, HB2.out⟩
            case measure => simp [intOf]; omega
      · have e : k = R := by omega
        subst e
        have HF := Lib.hid ho
        have HB2 := Lib.hid hb
        clear ho hb
        go_wp2
        go_ret
        exact ⟨a, cap, by rw [HPL.out]; rfl, by rw [HPL.out]; exact HF.out, HB2.out⟩

end Go.Proofs.Ytpeogghiboaceaa
