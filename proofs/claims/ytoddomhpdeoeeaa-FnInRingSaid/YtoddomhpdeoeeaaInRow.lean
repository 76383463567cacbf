/- The rows of boxes in a row and in a ring: spec.InRow, spec.InRing, impl.line, impl.InRow, impl.InRing, all by one plain function. -/
import Derived.Test.YtoddomhpdeoeeaaLeaf2
namespace Go.Proofs.Ytoddomhpdeoeeaa
open Go.RowKit
set_option linter.unusedVariables false

/-- Whether box k is beside box i. -/
def adjI (n : Nat) (ring : Bool) (i k : Nat) : Int := if k + 1 = i ∨ i + 1 = k ∨ (ring = true ∧ (k + (n - 1) = i ∨ i + (n - 1) = k)) then 1 else 0
def rowR (n : Nat) (ring : Bool) (i : Nat) : List Int := (List.range n).map (adjI n ring i)
def lineR (n : Nat) (ring : Bool) : List (List Int) := (List.range n).map (rowR n ring)
@[simp] theorem rowR_length (n : Nat) (ring : Bool) (i : Nat) : (rowR n ring i).length = n := by simp [rowR]
@[simp] theorem lineR_length (n : Nat) (ring : Bool) : (lineR n ring).length = n := by simp [lineR]
theorem lineR_get (n : Nat) (ring : Bool) (i : Nat) (h : i < (lineR n ring).length) : (lineR n ring)[i] = rowR n ring i := by simp [lineR]
theorem rowR_get (n : Nat) (ring : Bool) (i k : Nat) (h : k < (rowR n ring i).length) : (rowR n ring i)[k] = adjI n ring i k := by simp [rowR]

def inRowR (boxes : Int) : List (List Int) := if 1 ≤ boxes ∧ boxes ≤ 6 then lineR boxes.toNat false else []
def inRingR (boxes : Int) : List (List Int) := if 3 ≤ boxes ∧ boxes ≤ 6 then lineR boxes.toNat true else []

/-- The row i up to place j. -/
def rowP (n : Nat) (ring : Bool) (i j : Nat) : List Int := (rowR n ring i).take j ++ List.replicate (n - j) 0
@[simp] theorem rowP_length {n : Nat} {ring : Bool} {i j : Nat} (h : j ≤ n) : (rowP n ring i j).length = n := by simp [rowP]; omega
theorem rowP_zero (n : Nat) (ring : Bool) (i : Nat) : rowP n ring i 0 = List.replicate n 0 := by simp [rowP]
theorem rowP_full (n : Nat) (ring : Bool) (i : Nat) : rowP n ring i n = rowR n ring i := by simp [rowP, List.take_of_length_le]
theorem rowP_hit {n : Nat} {ring : Bool} {i j : Nat} (h : j < n) (ha : adjI n ring i j = 1) : (rowP n ring i j).set j 1 = rowP n ring i (j + 1) := by
  have e := copy_step (xs := rowR n ring i) (k := j) (n := n) (by simpa using h) (by simp)
  rw [rowR_get, ha] at e
  exact e
theorem rowP_miss {n : Nat} {ring : Bool} {i j : Nat} (h : j < n) (ha : adjI n ring i j = 0) : rowP n ring i j = rowP n ring i (j + 1) := by
  have e := copy_step (xs := rowR n ring i) (k := j) (n := n) (by simpa using h) (by simp)
  rw [rowR_get, ha] at e
  unfold rowP
  rw [← e, List.set_append_right _ _ (by simp; omega)]
  have e0 : j - (List.take j (rowR n ring i)).length = 0 := by simp; omega
  rw [e0]
  obtain ⟨m, hm⟩ : ∃ m, n - j = m + 1 := ⟨n - j - 1, by omega⟩
  rw [hm, List.replicate_succ, List.set_cons_zero]

/-- All rows up to row i, of row i all up to place j. -/
def lineP (n : Nat) (ring : Bool) (i j : Nat) : List (List Int) := ((lineR n ring).take i ++ List.replicate (n - i) []).set i (rowP n ring i j)
def lineQ (n : Nat) (ring : Bool) (i : Nat) : List (List Int) := (lineR n ring).take i ++ List.replicate (n - i) []
@[simp] theorem lineQ_length {n : Nat} {ring : Bool} {i : Nat} (h : i ≤ n) : (lineQ n ring i).length = n := by simp [lineQ]; omega
@[simp] theorem lineP_length {n : Nat} {ring : Bool} {i j : Nat} (h : i ≤ n) : (lineP n ring i j).length = n := by simp [lineP]; omega
theorem lineP_get {n : Nat} {ring : Bool} {i j : Nat} (h : i < n) (h' : i < (lineP n ring i j).length) : (lineP n ring i j)[i] = rowP n ring i j := by simp [lineP]
theorem lineP_full {n : Nat} {ring : Bool} {i : Nat} (h : i < n) : lineP n ring i n = lineQ n ring (i + 1) := by
  unfold lineP lineQ
  rw [rowP_full, ← lineR_get n ring i (by simpa using h)]
  exact copy_step2 (by simpa using h) (by simp)
theorem lineP_set {n : Nat} {ring : Bool} {i j : Nat} (h : i < n) (x : List Int) (hx : x = rowP n ring i (j + 1)) : (lineP n ring i j).set i x = lineP n ring i (j + 1) := by
  subst hx
  simp [lineP]

theorem lineP_miss {n : Nat} {ring : Bool} {i j : Nat} (h : i < n) (hj : j < n) (ha : adjI n ring i j = 0) : lineP n ring i j = lineP n ring i (j + 1) := by
  unfold lineP
  rw [rowP_miss hj ha]

theorem set_get_self' {α : Type} {l : List α} {i : Nat} {x : α} {h : i < l.length} (e : l[i] = x) : l.set i x = l := by subst e; simp

theorem max_nat (i j : Nat) : max ((i : Int) - (j : Int)) ((j : Int) - (i : Int)) = if i ≤ j then (j : Int) - i else (i : Int) - j := by
  split <;> omega

set_option maxHeartbeats 1000000 in
theorem line_any (n : Nat) (ring : Bool) (w : World) (h0 : 1 ≤ n) (h1 : n ≤ 6) (h2 : ring = true → 3 ≤ n) :
    Calls Try.prog 66 #[.int .i64 n, .bool ring] w (FreshII (lineR n ring) w) := by
  go_enter Try.func66, Try.ntmps66
  go_wp2_with (at_make; refine wpList_make_rows _ rfl _ _ rfl _ _ n rfl rfl rfl rfl (by omega) ?_; intro w1 hown hb1 hs1)
  go_loopw [13] (fun c wr => ∃ i : Nat, i ≤ n ∧ c = .int .i64 i ∧ OwnII w.heap.size wr (.slice (some ⟨w.heap.size, 0, none⟩) n n) (lineQ n ring i) ∧ Below w.heap.size w wr) (fun c _ => n - (intOf c).toNat)
  case atStart => exact ⟨0, Nat.zero_le _, rfl, by simpa [lineQ] using hown, hb1⟩
  case round =>
    obtain ⟨i, hi, rfl, ho, hb⟩ := hrel
    clear hown hb1
    by_cases hlt : i < n
    · obtain ⟨⟨u0, hc0, _⟩, hf0⟩ := ho.at i (by rw [lineQ_length hi]; exact hlt)
      have hsz := hb.size
      have HO := Lib.hid ho
      have HB := Lib.hid hb
      clear ho hb
      go_wp2_with (at_make; refine wpList_make_ints _ rfl _ _ rfl _ _ n rfl rfl rfl rfl (by omega) ?_; intro w2 hr2 hb2 hs2; obtain ⟨hcx, hfx⟩ := keep_cf hb2 hc0 hf0; have HR := Lib.hid hr2; have HB2 := Lib.hid hb2; clear hr2 hb2)
      have hW : OwnII w.heap.size (w2.setCell ⟨w.heap.size, i, none⟩ (.slice (some ⟨wr.heap.size, 0, none⟩) n n)) (.slice (some ⟨w.heap.size, 0, none⟩) n n) (lineP n ring i 0) := by
        have := HO.out.setFresh HB2.out hsz i HR.out
        unfold lineP; rw [rowP_zero]; exact this
      have hWB : Below w.heap.size w (w2.setCell ⟨w.heap.size, i, none⟩ (.slice (some ⟨wr.heap.size, 0, none⟩) n n)) := (HB.out.trans (HB2.out.mono hsz)).setCell (p := ⟨w.heap.size, i, none⟩) (Nat.le_refl _) _
      obtain ⟨wo, hwo⟩ : ∃ wo : World, wo = w2.setCell ⟨w.heap.size, i, none⟩ (.slice (some ⟨wr.heap.size, 0, none⟩) n n) := ⟨_, rfl⟩
      rw [← hwo] at hW hWB ⊢
      clear hwo hcx hfx hc0 hf0 HO HB HR HB2 hs2 hs1
      go_loopw [26] (fun c wi => ∃ j : Nat, j ≤ n ∧ c = .int .i64 j ∧ OwnII w.heap.size wi (.slice (some ⟨w.heap.size, 0, none⟩) n n) (lineP n ring i j) ∧ Below w.heap.size w wi) (fun c _ => n - (intOf c).toNat)
      case atStart => exact ⟨0, Nat.zero_le _, rfl, hW, hWB⟩
      case round =>
        obtain ⟨j, hj, rfl, ho, hb⟩ := hrel
        clear hW hWB
        by_cases hjn : j < n
        · have hlen : (lineP n ring i j).length = n := lineP_length hi
          have hrow : (lineP n ring i j)[i]'(by omega) = rowP n ring i j := lineP_get hlt (by omega)
          obtain ⟨g', cap', hc1, hB1, hcap1, hcap2, hcell, hfr, hset⟩ := ho.elem i (by omega) (by rw [hrow, rowP_length hj]; omega)
          rw [hrow, rowP_length hj] at hc1
          have hck := hcell j (by rw [hrow, rowP_length hj]; exact hjn)
          have hfk := hfr j
          have hlen2 : ((lineP n ring i j)[i]'(by omega)).length = n := by rw [hrow, rowP_length hj]
          rw [hlen2] at hcap1
          have HO := Lib.hid ho
          have HB := Lib.hid hb
          obtain ⟨e0, he0⟩ : ∃ e0, e0 = ((lineP n ring i j)[i]'(by omega))[j]'(by omega) := ⟨_, rfl⟩
          rw [← he0] at hck
          have hst := hset j 1
          rw [hrow] at hst
          have HS := Lib.hid hst
          have HL := Lib.hid hlen
          clear ho hb hcell hfr hset he0 hlen hrow hlen2 hst
          have hcase : (adjI n ring i j = 1 ∧ ((j : Int) - i = 1 ∨ (i : Int) - j = 1)) ∨ (¬ ((j : Int) - i = 1 ∨ (i : Int) - j = 1) ∧ ring = false ∧ adjI n ring i j = 0) ∨
              (¬ ((j : Int) - i = 1 ∨ (i : Int) - j = 1) ∧ ring = true ∧ ((j : Int) - i = n - 1 ∨ (i : Int) - j = n - 1) ∧ adjI n ring i j = 1) ∨
              (¬ ((j : Int) - i = 1 ∨ (i : Int) - j = 1) ∧ ring = true ∧ ¬ ((j : Int) - i = n - 1 ∨ (i : Int) - j = n - 1) ∧ adjI n ring i j = 0) := by
            unfold adjI
            by_cases q1 : (j : Int) - i = 1 ∨ (i : Int) - j = 1
            · left; exact ⟨if_pos (by omega), q1⟩
            · right
              cases hr : ring
              · left; exact ⟨q1, rfl, if_neg (by simp; omega)⟩
              · right
                have := h2 hr
                by_cases q2 : (j : Int) - i = n - 1 ∨ (i : Int) - j = n - 1
                · left; exact ⟨q1, rfl, q2, if_pos (by right; right; exact ⟨rfl, by omega⟩)⟩
                · right; exact ⟨q1, rfl, q2, if_neg (by simp; omega)⟩
          rcases Nat.lt_or_ge i j with hij | hij
          · rcases hcase with ⟨ha, hq⟩ | ⟨hq, hr, ha⟩ | ⟨hq, hr, hq2, ha⟩ | ⟨hq, hr, hq2, ha⟩
            · have hm1 : (((j : Int) - (i : Int)) == 1) = true := by rw [beq_iff_eq]; omega
              have HA := Lib.hid ha
              clear ha hq
              go_wp2
              go_roundw
              case rel => exact ⟨j + 1, by omega, by go_num, by rw [← lineP_set hlt _ (rowP_hit hjn HA.out)]; exact HS.out, HB.out.setCell (by exact hB1) _⟩
              case measure => simp [intOf]; omega
            · have hm1 : (((j : Int) - (i : Int)) == 1) = false := by rw [beq_eq_false_iff_ne]; omega
              have HA := Lib.hid ha
              subst hr
              clear ha hq
              go_wp2
              go_roundw
              case rel => exact ⟨j + 1, by omega, by go_num, by rw [← lineP_miss hlt hjn HA.out]; exact HO.out, HB.out⟩
              case measure => simp [intOf]; omega
            · have hm1 : (((j : Int) - (i : Int)) == 1) = false := by rw [beq_eq_false_iff_ne]; omega
              have hm2 : (((j : Int) - (i : Int)) == (n : Int) - 1) = true := by rw [beq_iff_eq]; omega
              have HA := Lib.hid ha
              subst hr
              clear ha hq hq2
              go_wp2
              go_roundw
              case rel => exact ⟨j + 1, by omega, by go_num, by rw [← lineP_set hlt _ (rowP_hit hjn HA.out)]; exact HS.out, HB.out.setCell (by exact hB1) _⟩
              case measure => simp [intOf]; omega
            · have hm1 : (((j : Int) - (i : Int)) == 1) = false := by rw [beq_eq_false_iff_ne]; omega
              have hm2 : (((j : Int) - (i : Int)) == (n : Int) - 1) = false := by rw [beq_eq_false_iff_ne]; omega
              have HA := Lib.hid ha
              subst hr
              clear ha hq hq2
              go_wp2
              go_roundw
              case rel => exact ⟨j + 1, by omega, by go_num, by rw [← lineP_miss hlt hjn HA.out]; exact HO.out, HB.out⟩
              case measure => simp [intOf]; omega
          · rcases hcase with ⟨ha, hq⟩ | ⟨hq, hr, ha⟩ | ⟨hq, hr, hq2, ha⟩ | ⟨hq, hr, hq2, ha⟩
            · have hm1 : (((i : Int) - (j : Int)) == 1) = true := by rw [beq_iff_eq]; omega
              have HA := Lib.hid ha
              clear ha hq
              go_wp2
              go_roundw
              case rel => exact ⟨j + 1, by omega, by go_num, by rw [← lineP_set hlt _ (rowP_hit hjn HA.out)]; exact HS.out, HB.out.setCell (by exact hB1) _⟩
              case measure => simp [intOf]; omega
            · have hm1 : (((i : Int) - (j : Int)) == 1) = false := by rw [beq_eq_false_iff_ne]; omega
              have HA := Lib.hid ha
              subst hr
              clear ha hq
              go_wp2
              go_roundw
              case rel => exact ⟨j + 1, by omega, by go_num, by rw [← lineP_miss hlt hjn HA.out]; exact HO.out, HB.out⟩
              case measure => simp [intOf]; omega
            · have hm1 : (((i : Int) - (j : Int)) == 1) = false := by rw [beq_eq_false_iff_ne]; omega
              have hm2 : (((i : Int) - (j : Int)) == (n : Int) - 1) = true := by rw [beq_iff_eq]; omega
              have HA := Lib.hid ha
              subst hr
              clear ha hq hq2
              go_wp2
              go_roundw
              case rel => exact ⟨j + 1, by omega, by go_num, by rw [← lineP_set hlt _ (rowP_hit hjn HA.out)]; exact HS.out, HB.out.setCell (by exact hB1) _⟩
              case measure => simp [intOf]; omega
            · have hm1 : (((i : Int) - (j : Int)) == 1) = false := by rw [beq_eq_false_iff_ne]; omega
              have hm2 : (((i : Int) - (j : Int)) == (n : Int) - 1) = false := by rw [beq_eq_false_iff_ne]; omega
              have HA := Lib.hid ha
              subst hr
              clear ha hq hq2
              go_wp2
              go_roundw
              case rel => exact ⟨j + 1, by omega, by go_num, by rw [← lineP_miss hlt hjn HA.out]; exact HO.out, HB.out⟩
              case measure => simp [intOf]; omega
        · have e : j = n := by omega
          subst e
          have HO := Lib.hid (show OwnII w.heap.size wr (.slice (some ⟨w.heap.size, 0, none⟩) j j) (lineQ j ring (i + 1)) by rw [← lineP_full hlt]; exact ho)
          have HB := Lib.hid hb
          clear ho hb
          go_wp2
          go_roundw
          case rel => exact ⟨i + 1, by omega, by go_num, HO.out, HB.out⟩
          case measure => simp [intOf]; omega
    · have e : i = n := by omega
      subst e
      have HO := Lib.hid (show OwnII w.heap.size wr (.slice (some ⟨w.heap.size, 0, none⟩) i i) (lineR i ring) by have := ho; unfold lineQ at this; rwa [Nat.sub_self, List.replicate_zero, List.append_nil, List.take_of_length_le (by simp)] at this)
      have HB := Lib.hid hb
      clear ho hb
      go_wp2
      go_ret
      exact ⟨_, _, by rw [lineR_length]; rfl, by rw [lineR_length]; exact HO.out, HB.out⟩


theorem implInRow_any (boxes : Int) (w : World) : Calls Try.prog 43 #[.int .i64 boxes] w (FreshII (inRowR boxes) w) := by
  by_cases h : 1 ≤ boxes ∧ boxes ≤ 6
  · obtain ⟨n, rfl⟩ := Int.eq_ofNat_of_zero_le (show 0 ≤ boxes by omega)
    have hI : inB (n : Int) 1 6 = true := by simp [inB]; omega
    have hL := line_any n false w (by omega) (by omega) (by simp)
    have HE := Lib.hid (show inRowR (n : Int) = lineR n false by unfold inRowR; rw [if_pos h]; simp)
    clear h
    go_enter Try.func43, Try.ntmps43
    go_wp2_with (first | (go_at_call 55; refine (in_any _ _ _ _).mono ?_; rintro e w' ⟨rfl, rfl⟩) | (go_at_call 66; refine hL.mono ?_; rintro e w2 ⟨ua, uc, rfl, hu, hb⟩; have HU := Lib.hid hu; have HB := Lib.hid hb; clear hu hb))
    go_ret
    exact ⟨ua, uc, by rw [HE.out, lineR_length]; rfl, by rw [HE.out]; exact HU.out, HB.out⟩
  · have hI : inB boxes 1 6 = false := by simp [inB]; omega
    have HE := Lib.hid (show inRowR boxes = [] by unfold inRowR; rw [if_neg h])
    clear h
    go_enter Try.func43, Try.ntmps43
    go_wp2_with (first | (go_at_call 55; refine (in_any _ _ _ _).mono ?_; rintro e w' ⟨rfl, rfl⟩))
    go_ret
    exact ⟨none, 0, by rw [HE.out]; rfl, by rw [HE.out]; exact OwnII.empty _ _, Below.refl _ _⟩

theorem implInRing_any (boxes : Int) (w : World) : Calls Try.prog 47 #[.int .i64 boxes] w (FreshII (inRingR boxes) w) := by
  by_cases h : 3 ≤ boxes ∧ boxes ≤ 6
  · obtain ⟨n, rfl⟩ := Int.eq_ofNat_of_zero_le (show 0 ≤ boxes by omega)
    have hI : inB (n : Int) 3 6 = true := by simp [inB]; omega
    have hL := line_any n true w (by omega) (by omega) (by omega)
    have HE := Lib.hid (show inRingR (n : Int) = lineR n true by unfold inRingR; rw [if_pos h]; simp)
    clear h
    go_enter Try.func47, Try.ntmps47
    go_wp2_with (first | (go_at_call 55; refine (in_any _ _ _ _).mono ?_; rintro e w' ⟨rfl, rfl⟩) | (go_at_call 66; refine hL.mono ?_; rintro e w2 ⟨ua, uc, rfl, hu, hb⟩; have HU := Lib.hid hu; have HB := Lib.hid hb; clear hu hb))
    go_ret
    exact ⟨ua, uc, by rw [HE.out, lineR_length]; rfl, by rw [HE.out]; exact HU.out, HB.out⟩
  · have hI : inB boxes 3 6 = false := by simp [inB]; omega
    have HE := Lib.hid (show inRingR boxes = [] by unfold inRingR; rw [if_neg h])
    clear h
    go_enter Try.func47, Try.ntmps47
    go_wp2_with (first | (go_at_call 55; refine (in_any _ _ _ _).mono ?_; rintro e w' ⟨rfl, rfl⟩))
    go_ret
    exact ⟨none, 0, by rw [HE.out]; rfl, by rw [HE.out]; exact OwnII.empty _ _, Below.refl _ _⟩

/-! ### The reference -/
def rowS (n k : Nat) : List Int := if k + 1 < n then (if 0 < k then (List.replicate n 0).set (k - 1) 1 else List.replicate n 0).set (k + 1) 1 else (if 0 < k then (List.replicate n 0).set (k - 1) 1 else List.replicate n 0)

theorem rowS_eq {n k : Nat} (h : k < n) : rowS n k = rowR n false k := by
  apply List.ext_getElem
  · unfold rowS; split <;> split <;> simp
  · intro j h1 h2
    rw [rowR_get]
    unfold rowS adjI
    split <;> split <;> simp [List.getElem_set] <;> (try split) <;> (try split) <;> (try split) <;> (try omega) <;> simp_all <;> omega

/-- The rows so far. -/
theorem rows_snoc {n k : Nat} (h : k < n) : (lineR n false).take k ++ [rowS n k] = (lineR n false).take (k + 1) := by
  rw [List.take_succ_eq_append_getElem (by simpa using h), lineR_get, rowS_eq h]

set_option maxHeartbeats 1000000 in
theorem specInRow_any (boxes : Int) (w : World) : Calls Try.prog 45 #[.int .i64 boxes] w (FreshII (inRowR boxes) w) := by
  by_cases h : 1 ≤ boxes ∧ boxes ≤ 6
  · obtain ⟨n, rfl⟩ := Int.eq_ofNat_of_zero_le (show 0 ≤ boxes by omega)
    have hI : inB (n : Int) 1 6 = true := by simp [inB]; omega
    have HE := Lib.hid (show inRowR (n : Int) = lineR n false by unfold inRowR; rw [if_pos h]; simp)
    have h6 : n ≤ 6 := by omega
    have h1 : 1 ≤ n := by omega
    clear h
    go_enter Try.func45, Try.ntmps45
    go_wp2
    go_loopw [3, 4] (fun o c wr => ∃ (k : Nat) (a : Option Addr) (cap : Nat), k ≤ n ∧ c = .int .i64 k ∧ o = .slice a k cap ∧ OwnII w.heap.size wr (.slice a k cap) ((lineR n false).take k) ∧ Below w.heap.size w wr) (fun _ c _ => n - (intOf c).toNat)
    case atStart => exact ⟨0, _, 0, Nat.zero_le _, rfl, rfl, OwnII.lit w, (Below.refl _ _).alloc (Nat.le_refl _) _⟩
    case round =>
      obtain ⟨k, a, cap, hk, rfl, rfl, ho, hb⟩ := hrel
      by_cases hlt : k < n
      · have hsz := hb.size
        have hlk : ((lineR n false).take k).length = k := by simp; omega
        have HO := Lib.hid ho
        have HB := Lib.hid hb
        have HL := Lib.hid hlk
        have HS := Lib.hid (rows_snoc hlt)
        clear ho hb hlk
        by_cases hp : 0 < k <;> by_cases hn : k + 1 < n
        · go_wp2_with (first
            | (go_at_call 51; refine (l1In_any _ _ _ _).mono ?_; rintro e w' ⟨rfl, rfl⟩)
            | (at_make; refine wpList_make_ints _ rfl _ _ rfl _ _ n rfl rfl rfl rfl (by omega) ?_; intro w2 hr2 hb2 hs2; obtain ⟨⟨u1, hc1⟩, hf1⟩ := hr2.at (k - 1) (by simp; omega); obtain ⟨⟨u2, hc2⟩, hf2⟩ := hr2.at (k + 1) (by simp; omega); have HR := Lib.hid hr2; have HB2 := Lib.hid hb2; clear hr2 hb2)
            | (at_builtin; refine wpList_push_new wr _ rfl (.tmp 32) (.tmp 34) rfl w.heap.size (.slice a k cap) ((lineR n false).take k) rfl HO.out ((HB2.out.setCell (p := ⟨wr.heap.size, k - 1, none⟩) (Nat.le_refl _) (.int .i64 1)).setCell (p := ⟨wr.heap.size, k + 1, none⟩) (Nat.le_refl _) (.int .i64 1)) w2.heap.size (by simp) (.slice (some ⟨wr.heap.size, 0, none⟩) n n) _ rfl (show OwnI wr.heap.size _ _ (rowS n k) by unfold rowS; rw [if_pos hn, if_pos hp]; exact ((HR.out.set (k - 1) 1).set (k + 1) 1)) (by have := HL.out; omega) hsz ?_; intro a' cap' w4 ho4 hb4; rw [HL.out] at ho4 ⊢; have HO4 := Lib.hid ho4; have HB4 := Lib.hid hb4; clear ho4 hb4))
          go_roundw
          case rel => exact ⟨k + 1, _, _, by omega, by go_num, rfl, by rw [← HS.out]; exact HO4.out, HB.out.trans HB4.out⟩
          case measure => simp [intOf]; omega
        · go_wp2_with (first
            | (go_at_call 51; refine (l1In_any _ _ _ _).mono ?_; rintro e w' ⟨rfl, rfl⟩)
            | (at_make; refine wpList_make_ints _ rfl _ _ rfl _ _ n rfl rfl rfl rfl (by omega) ?_; intro w2 hr2 hb2 hs2; obtain ⟨⟨u1, hc1⟩, hf1⟩ := hr2.at (k - 1) (by simp; omega); have HR := Lib.hid hr2; have HB2 := Lib.hid hb2; clear hr2 hb2)
            | (at_builtin; refine wpList_push_new wr _ rfl (.tmp 32) (.tmp 34) rfl w.heap.size (.slice a k cap) ((lineR n false).take k) rfl HO.out (HB2.out.setCell (p := ⟨wr.heap.size, k - 1, none⟩) (Nat.le_refl _) (.int .i64 1)) w2.heap.size (by simp) (.slice (some ⟨wr.heap.size, 0, none⟩) n n) _ rfl (show OwnI wr.heap.size _ _ (rowS n k) by unfold rowS; rw [if_neg hn, if_pos hp]; exact (HR.out.set (k - 1) 1)) (by have := HL.out; omega) hsz ?_; intro a' cap' w4 ho4 hb4; rw [HL.out] at ho4 ⊢; have HO4 := Lib.hid ho4; have HB4 := Lib.hid hb4; clear ho4 hb4))
          go_roundw
          case rel => exact ⟨k + 1, _, _, by omega, by go_num, rfl, by rw [← HS.out]; exact HO4.out, HB.out.trans HB4.out⟩
          case measure => simp [intOf]; omega
        · go_wp2_with (first
            | (go_at_call 51; refine (l1In_any _ _ _ _).mono ?_; rintro e w' ⟨rfl, rfl⟩)
            | (at_make; refine wpList_make_ints _ rfl _ _ rfl _ _ n rfl rfl rfl rfl (by omega) ?_; intro w2 hr2 hb2 hs2; obtain ⟨⟨u2, hc2⟩, hf2⟩ := hr2.at (k + 1) (by simp; omega); have HR := Lib.hid hr2; have HB2 := Lib.hid hb2; clear hr2 hb2)
            | (at_builtin; refine wpList_push_new wr _ rfl (.tmp 32) (.tmp 34) rfl w.heap.size (.slice a k cap) ((lineR n false).take k) rfl HO.out (HB2.out.setCell (p := ⟨wr.heap.size, k + 1, none⟩) (Nat.le_refl _) (.int .i64 1)) w2.heap.size (by simp) (.slice (some ⟨wr.heap.size, 0, none⟩) n n) _ rfl (show OwnI wr.heap.size _ _ (rowS n k) by unfold rowS; rw [if_pos hn, if_neg hp]; exact (HR.out.set (k + 1) 1)) (by have := HL.out; omega) hsz ?_; intro a' cap' w4 ho4 hb4; rw [HL.out] at ho4 ⊢; have HO4 := Lib.hid ho4; have HB4 := Lib.hid hb4; clear ho4 hb4))
          go_roundw
          case rel => exact ⟨k + 1, _, _, by omega, by go_num, rfl, by rw [← HS.out]; exact HO4.out, HB.out.trans HB4.out⟩
          case measure => simp [intOf]; omega
        · go_wp2_with (first
            | (go_at_call 51; refine (l1In_any _ _ _ _).mono ?_; rintro e w' ⟨rfl, rfl⟩)
            | (at_make; refine wpList_make_ints _ rfl _ _ rfl _ _ n rfl rfl rfl rfl (by omega) ?_; intro w2 hr2 hb2 hs2; have HR := Lib.hid hr2; have HB2 := Lib.hid hb2; clear hr2 hb2)
            | (at_builtin; refine wpList_push_new wr _ rfl (.tmp 32) (.tmp 34) rfl w.heap.size (.slice a k cap) ((lineR n false).take k) rfl HO.out HB2.out w2.heap.size (by simp) (.slice (some ⟨wr.heap.size, 0, none⟩) n n) _ rfl (show OwnI wr.heap.size _ _ (rowS n k) by unfold rowS; rw [if_neg hn, if_neg hp]; exact HR.out) (by have := HL.out; omega) hsz ?_; intro a' cap' w4 ho4 hb4; rw [HL.out] at ho4 ⊢; have HO4 := Lib.hid ho4; have HB4 := Lib.hid hb4; clear ho4 hb4))
          go_roundw
          case rel => exact ⟨k + 1, _, _, by omega, by go_num, rfl, by rw [← HS.out]; exact HO4.out, HB.out.trans HB4.out⟩
          case measure => simp [intOf]; omega
      · have e : k = n := by omega
        subst e
        have HO := Lib.hid (show OwnII w.heap.size wr (.slice a k cap) (lineR k false) by rwa [List.take_of_length_le (by simp)] at ho)
        have HB := Lib.hid hb
        clear ho hb
        go_wp2_with (first | (go_at_call 51; refine (l1In_any _ _ _ _).mono ?_; rintro e w' ⟨rfl, rfl⟩))
        go_ret
        exact ⟨a, cap, by rw [HE.out, lineR_length]; rfl, by rw [HE.out, lineR_length]; exact HO.out, HB.out⟩
  · have hI : inB boxes 1 6 = false := by simp [inB]; omega
    have HE := Lib.hid (show inRowR boxes = [] by unfold inRowR; rw [if_neg h])
    have HO := Lib.hid (OwnII.lit w)
    clear h
    by_cases hp : (0 : Int) < boxes
    all_goals
      go_enter Try.func45, Try.ntmps45
      go_wp2
      refine wp_loop_rounds 1 ?_; rw [rounds_succ]
      go_wp2_with (first | (go_at_call 51; refine (l1In_any _ _ _ _).mono ?_; rintro e w' ⟨rfl, rfl⟩))
      go_ret
      exact ⟨_, 0, by rw [HE.out]; rfl, by rw [HE.out]; exact HO.out, (Below.refl _ _).alloc (Nat.le_refl _) _⟩

end Go.Proofs.Ytoddomhpdeoeeaa
