/- The program's answerTo. -/
import Derived.Test.YtkjdlpbfalojdaaCodeI
import Derived.Test.YtkjdlpbfalojdaaCode3
namespace Go.Proofs.Ytkjdlpbfalojdaa
open Go.RowKit
set_option linter.unusedVariables false
set_option maxRecDepth 100000

/-- The program's counts: of x's first k numbers, and of y's first m ones. -/
def manyL (x y : List Int) (k m : Nat) : List Int := ((List.range 5).map fun (c : Nat) => ((cntK x c k : Nat) : Int)) ++ (List.range 5).map fun (c : Nat) => ((cntK y c m : Nat) : Int)
def manyA (x y : List Int) (k m : Nat) : Array Value := (ints (manyL x y k m)).toArray
theorem manyA_x (x y : List Int) (k m : Nat) {c : Nat} (h : c < 5) : (manyA x y k m)[c]? = some (.int .i64 (cntK x c k : Nat)) := by
  have : c = 0 ∨ c = 1 ∨ c = 2 ∨ c = 3 ∨ c = 4 := by omega
  rcases this with rfl | rfl | rfl | rfl | rfl <;> rfl
theorem manyA_y (x y : List Int) (k m : Nat) {c : Nat} (h : c < 5) : (manyA x y k m)[5 + c]? = some (.int .i64 (cntK y c m : Nat)) := by
  have : c = 0 ∨ c = 1 ∨ c = 2 ∨ c = 3 ∨ c = 4 := by omega
  rcases this with rfl | rfl | rfl | rfl | rfl <;> rfl
theorem manyL_x {x y : List Int} {k m c : Nat} (hk : k < x.length) (hx : x[k] = (c : Int)) (h : c < 5) : (manyL x y k m).set c ((cntK x c k : Nat) + 1 : Int) = manyL x y (k + 1) m := by
  refine List.ext_getElem (by simp [manyL]) fun i h1 h2 => ?_
  rw [List.getElem_set]
  split
  · rename_i e
    subst e
    simp only [manyL]
    rw [List.getElem_append_left (by simpa using h)]
    simp only [List.getElem_map, List.getElem_range]
    rw [cntK_hit hk hx]; push_cast; rfl
  · rename_i e
    simp only [manyL]
    by_cases hi : i < 5
    · rw [List.getElem_append_left (by simpa using hi), List.getElem_append_left (by simpa using hi)]
      simp only [List.getElem_map, List.getElem_range]
      rw [cntK_miss hk (by rw [hx]; omega)]
    · rw [List.getElem_append_right (by simp; omega), List.getElem_append_right (by simp; omega)]
      simp only [List.getElem_map, List.getElem_range, List.length_map]
theorem manyL_y {x y : List Int} {k m c : Nat} (hk : m < y.length) (hy : y[m] = (c : Int)) (h : c < 5) : (manyL x y k m).set (5 + c) ((cntK y c m : Nat) + 1 : Int) = manyL x y k (m + 1) := by
  refine List.ext_getElem (by simp [manyL]) fun i h1 h2 => ?_
  rw [List.getElem_set]
  split
  · rename_i e
    subst e
    simp only [manyL]
    rw [List.getElem_append_right (by simp)]
    simp only [List.getElem_map, List.getElem_range, List.length_map, List.length_range, Nat.add_sub_cancel_left]
    rw [cntK_hit hk hy]; push_cast; rfl
  · rename_i e
    simp only [manyL]
    by_cases hi : i < 5
    · rw [List.getElem_append_left (by simpa using hi), List.getElem_append_left (by simpa using hi)]
    · rw [List.getElem_append_right (by simp; omega)]
      rw [List.getElem_append_right (by simp; omega)]
      simp only [List.getElem_map, List.getElem_range, List.length_map, List.length_range]
      rw [cntK_miss hk (by rw [hy]; omega)]
theorem manyA_setx {x y : List Int} {k m c : Nat} (hk : k < x.length) (hx : x[k] = (c : Int)) (h : c < 5) : (manyA x y k m).setIfInBounds c (.int .i64 ((cntK x c k : Nat) + 1 : Int)) = manyA x y (k + 1) m := by
  unfold manyA
  rw [List.setIfInBounds_toArray, ints_set, manyL_x hk hx h]
theorem manyA_sety {x y : List Int} {k m c : Nat} (hk : m < y.length) (hy : y[m] = (c : Int)) (h : c < 5) : (manyA x y k m).setIfInBounds (5 + c) (.int .i64 ((cntK y c m : Nat) + 1 : Int)) = manyA x y k (m + 1) := by
  unfold manyA
  rw [List.setIfInBounds_toArray, ints_set, manyL_y hk hy h]

/-- What lies in the three blocks of the call. -/
def AnsSt (b : Nat) (x y : List Int) (k : Nat) (r n : Int) (w : World) : Prop :=
  w.heap[b]? = some (.cells #[.int .i64 0, .int .i64 0] 100 (0, 0)) ∧ w.heap[b + 1]? = some (.cells #[.int .i64 r, .int .i64 n] 100 (0, 0)) ∧ w.heap[b + 1 + 1]? = some (.cells (manyA x y k k) 121 (0, 0))

theorem ansSt_start (w : World) (x y : List Int) : AnsSt w.heap.size x y 0 0 0 (((w.alloc (.cells #[.int .i64 0, .int .i64 0] 100)).alloc (.cells #[.int .i64 0, .int .i64 0] 100)).alloc (.cells (manyA x y 0 0) 121)) := by
  refine ⟨?_, ?_, ?_⟩
  · rw [heap_alloc_old _ _ (by simp; omega), heap_alloc_old _ _ (by simp)]; exact heap_alloc_new w _
  · rw [heap_alloc_old _ _ (by simp)]; have q := @Go.heap_alloc_new (w.alloc (.cells #[.int .i64 0, .int .i64 0] 100)) (.cells #[.int .i64 0, .int .i64 0] 100); rw [World.size_alloc] at q; exact q
  · have q := @Go.heap_alloc_new ((w.alloc (.cells #[.int .i64 0, .int .i64 0] 100)).alloc (.cells #[.int .i64 0, .int .i64 0] 100)) (.cells (manyA x y 0 0) 121); rw [World.size_alloc, World.size_alloc] at q; exact q

def AnsOut (x y : List Int) (w : World) (e : Ending) (w' : World) : Prop := e = .returned (.agg #[.int .i64 (rightZ x y), .int .i64 (nearZ x y)]) ∧ Below w.heap.size w w'

set_option maxHeartbeats 4000000 in
theorem answerI_any {B C : Nat} (u v : Value) (x y : List Int) (w : World) (hx : Ints B w u x) (hy : Ints C w v y) (hl : x.length = y.length) (hl3 : x.length ≤ 1000) (h5 : ∀ z ∈ x, 0 ≤ z ∧ z < 5) (h6 : ∀ z ∈ y, 0 ≤ z ∧ z < 5) :
    Calls Try.prog 81 #[u, v] w (AnsOut x y w) := by
  obtain ⟨a, cap, rfl, hcap, hmax, hcells⟩ := hx.opened
  obtain ⟨b, cap', rfl, hcap', hmax', hcells'⟩ := hy.opened
  have HLL := Lib.hid hl
  have H5 := Lib.hid h5
  have H6 := Lib.hid h6
  have HST := Lib.hid (ansSt_start w x y)
  have HBS := Lib.hid ((((Below.refl w.heap.size w).alloc (Nat.le_refl _) (.cells #[.int .i64 0, .int .i64 0] 100)).alloc (by simp) (.cells #[.int .i64 0, .int .i64 0] 100)).alloc (by simp; omega) (.cells (manyA x y 0 0) 121))
  clear hl h5 h6 hx hy
  go_enter Try.func81, Try.ntmps81
  go_wp2
  go_loopw [12] (fun i wr => ∃ k : Nat, k ≤ x.length ∧ i = .int .i64 k ∧ AnsSt w.heap.size x y k (rightN x y k : Nat) 0 wr ∧ Below w.heap.size w wr) (fun i _ => x.length - (intOf i).toNat)
  case atStart => exact ⟨0, Nat.zero_le _, rfl, HST.out, HBS.out⟩
  case round =>
    obtain ⟨k, hk, rfl, hst, hb⟩ := hrel
    obtain ⟨wk, rfl⟩ : ∃ x, x = wr := ⟨_, rfl⟩
    have hR := right_le x y k
    obtain ⟨s0, s1, s2⟩ := hst
    clear HST HBS
    by_cases hlt : k < x.length
    · have hll := HLL.out
      obtain ⟨b1, o1, rfl, _, hc⟩ := hcells (by omega)
      obtain ⟨b2, o2, rfl, _, hc'⟩ := hcells' (by omega)
      have hk2 : k < y.length := by omega
      have hck := (Above.of_below (B := 0) hb).cell (Nat.zero_le _) (hc k hlt)
      have hck' := (Above.of_below (B := 0) hb).cell (Nat.zero_le _) (hc' k hk2)
      have q5 := H5.out _ (List.getElem_mem hlt)
      have q6 := H6.out _ (List.getElem_mem hk2)
      obtain ⟨c, hcx⟩ : ∃ c : Nat, x[k] = (c : Int) := ⟨x[k].toNat, by omega⟩
      obtain ⟨d, hdy⟩ : ∃ d : Nat, y[k] = (d : Int) := ⟨y[k].toNat, by omega⟩
      have hc5 : c < 5 := by omega
      have hd5 : d < 5 := by omega
      have HT1 := Lib.hid (manyA_setx (y := y) (m := k) hlt hcx hc5)
      have HT2 := Lib.hid (manyA_sety (x := x) (k := k + 1) hk2 hdy hd5)
      rw [hcx] at hck
      rw [hdy] at hck'
      have HCY := Lib.hid (hdy ▸ hc' k hk2)
      have hi0 : (0 : Int) ≤ (k : Int) := by omega
      have hi1 : (k : Int) < (x.length : Int) := by omega
      have hi2 : (k : Int) < (y.length : Int) := by omega
      have hi3 : (0 : Int) ≤ (c : Int) := by omega
      have hi4 : (c : Int) < 5 := by omega
      have hi5 : (0 : Int) ≤ (d : Int) := by omega
      have hi6 : (d : Int) < 5 := by omega
      have hn1 := cntK_le x c k
      have hn2 := cntK_le y d k
      have HLT := Lib.hid (And.intro hlt hk2)
      clear hc hcells hc' hcells' hll q5 q6
      by_cases e : c = d
      · have e1 : ((c : Int) == (d : Int)) = true := by rw [e]; simp
        have u1 := heap_setCell_same _ _ 0 _ _ (.int .i64 ((rightN x y k : Nat) + 1 : Int)) s1
        have u2 : (wk.setCell ⟨w.heap.size + 1, 0, none⟩ (.int .i64 ((rightN x y k : Nat) + 1 : Int))).heap[w.heap.size + 1 + 1]? = _ := (heap_setCell_other _ _ _ _ (by simp)).trans s2
        have u0 : (wk.setCell ⟨w.heap.size + 1, 0, none⟩ (.int .i64 ((rightN x y k : Nat) + 1 : Int))).heap[w.heap.size]? = _ := (heap_setCell_other _ _ _ _ (by simp)).trans s0
        have l0 := cell_of_row _ _ 0 _ _ (0, 0) s1
        have f0 := frozen_of_row _ _ 0 _ _ s1
        have HN := Lib.hid (rightN_hit (x := x) (y := y) hlt hk2 (by rw [hcx, hdy, e]))
        simp only [List.getElem?_toArray, List.getElem?_cons_zero] at l0
        have v2 := heap_setCell_same (wk.setCell ⟨w.heap.size + 1, 0, none⟩ (.int .i64 ((rightN x y k : Nat) + 1 : Int))) _ c _ _ (.int .i64 ((cntK x c k : Nat) + 1 : Int)) u2
        rw [HT1.out] at v2
        have v1 : ((wk.setCell ⟨w.heap.size + 1, 0, none⟩ (.int .i64 ((rightN x y k : Nat) + 1 : Int))).setCell ⟨w.heap.size + 1 + 1, c, none⟩ (.int .i64 ((cntK x c k : Nat) + 1 : Int))).heap[w.heap.size + 1]? = _ := (heap_setCell_other _ _ _ _ (by simp)).trans u1
        have v0 : ((wk.setCell ⟨w.heap.size + 1, 0, none⟩ (.int .i64 ((rightN x y k : Nat) + 1 : Int))).setCell ⟨w.heap.size + 1 + 1, c, none⟩ (.int .i64 ((cntK x c k : Nat) + 1 : Int))).heap[w.heap.size]? = _ := (heap_setCell_other _ _ _ _ (by simp; omega)).trans u0
        have l1 := (cell_of_row _ _ c _ _ (0, 0) u2).trans (manyA_x x y k k hc5)
        have l2 := (cell_of_row _ _ (5 + d) _ _ (0, 0) v2).trans (manyA_y x y (k + 1) k hd5)
        have f1 := frozen_of_row _ _ c _ _ u2
        have f2 := frozen_of_row _ _ (5 + d) _ _ v2
        have w2 := heap_setCell_same _ _ (5 + d) _ _ (.int .i64 ((cntK y d k : Nat) + 1 : Int)) v2
        rw [HT2.out] at w2
        have w1 := (heap_setCell_other ((wk.setCell ⟨w.heap.size + 1, 0, none⟩ (.int .i64 ((rightN x y k : Nat) + 1 : Int))).setCell ⟨w.heap.size + 1 + 1, c, none⟩ (.int .i64 ((cntK x c k : Nat) + 1 : Int))) ⟨w.heap.size + 1 + 1, 5 + d, none⟩ (w.heap.size + 1) (.int .i64 ((cntK y d k : Nat) + 1 : Int)) (by simp)).trans v1
        have w0 := (heap_setCell_other ((wk.setCell ⟨w.heap.size + 1, 0, none⟩ (.int .i64 ((rightN x y k : Nat) + 1 : Int))).setCell ⟨w.heap.size + 1 + 1, c, none⟩ (.int .i64 ((cntK x c k : Nat) + 1 : Int))) ⟨w.heap.size + 1 + 1, 5 + d, none⟩ (w.heap.size) (.int .i64 ((cntK y d k : Nat) + 1 : Int)) (by simp; omega)).trans v0
        have m2 := (Above.of_below (B := 0) ((hb.setCell (p := ⟨w.heap.size + 1, 0, none⟩) (by simp) (.int .i64 ((rightN x y k : Nat) + 1 : Int))).setCell (p := ⟨w.heap.size + 1 + 1, c, none⟩) (by simp; omega) (.int .i64 ((cntK x c k : Nat) + 1 : Int)))).cell (Nat.zero_le _) HCY.out
        have HS := Lib.hid (And.intro w0 (And.intro w1 w2))
        have HB := Lib.hid hb
        clear w0 w1 w2 v0 v1 v2 u0 u1 u2 hb s0 s1 s2 hcx hdy HT1 HT2
        clear e
        go_wp2
        go_roundw
        case rel => exact ⟨k + 1, by omega, by go_num, by rw [HN.out]; exact HS.out, ((HB.out.setCell (p := ⟨w.heap.size + 1, 0, none⟩) (by simp) _).setCell (p := ⟨w.heap.size + 1 + 1, c, none⟩) (by simp; omega) _).setCell (p := ⟨w.heap.size + 1 + 1, 5 + d, none⟩) (by simp; omega) _⟩
        case measure => simp [intOf]; omega
      · have e1 : ((c : Int) == (d : Int)) = false := by rw [beq_eq_false_iff_ne]; omega
        have u1 := s1
        have u2 := s2
        have u0 := s0
        have HN := Lib.hid (rightN_miss (x := x) (y := y) hlt hk2 (by rw [hcx, hdy]; omega))
        have v2 := heap_setCell_same wk _ c _ _ (.int .i64 ((cntK x c k : Nat) + 1 : Int)) u2
        rw [HT1.out] at v2
        have v1 : (wk.setCell ⟨w.heap.size + 1 + 1, c, none⟩ (.int .i64 ((cntK x c k : Nat) + 1 : Int))).heap[w.heap.size + 1]? = _ := (heap_setCell_other _ _ _ _ (by simp)).trans u1
        have v0 : (wk.setCell ⟨w.heap.size + 1 + 1, c, none⟩ (.int .i64 ((cntK x c k : Nat) + 1 : Int))).heap[w.heap.size]? = _ := (heap_setCell_other _ _ _ _ (by simp; omega)).trans u0
        have l1 := (cell_of_row _ _ c _ _ (0, 0) u2).trans (manyA_x x y k k hc5)
        have l2 := (cell_of_row _ _ (5 + d) _ _ (0, 0) v2).trans (manyA_y x y (k + 1) k hd5)
        have f1 := frozen_of_row _ _ c _ _ u2
        have f2 := frozen_of_row _ _ (5 + d) _ _ v2
        have w2 := heap_setCell_same _ _ (5 + d) _ _ (.int .i64 ((cntK y d k : Nat) + 1 : Int)) v2
        rw [HT2.out] at w2
        have w1 := (heap_setCell_other (wk.setCell ⟨w.heap.size + 1 + 1, c, none⟩ (.int .i64 ((cntK x c k : Nat) + 1 : Int))) ⟨w.heap.size + 1 + 1, 5 + d, none⟩ (w.heap.size + 1) (.int .i64 ((cntK y d k : Nat) + 1 : Int)) (by simp)).trans v1
        have w0 := (heap_setCell_other (wk.setCell ⟨w.heap.size + 1 + 1, c, none⟩ (.int .i64 ((cntK x c k : Nat) + 1 : Int))) ⟨w.heap.size + 1 + 1, 5 + d, none⟩ (w.heap.size) (.int .i64 ((cntK y d k : Nat) + 1 : Int)) (by simp; omega)).trans v0
        have m2 := (Above.of_below (B := 0) (hb.setCell (p := ⟨w.heap.size + 1 + 1, c, none⟩) (by simp; omega) (.int .i64 ((cntK x c k : Nat) + 1 : Int)))).cell (Nat.zero_le _) HCY.out
        have HS := Lib.hid (And.intro w0 (And.intro w1 w2))
        have HB := Lib.hid hb
        clear w0 w1 w2 v0 v1 v2 u0 u1 u2 hb s0 s1 s2 hcx hdy HT1 HT2
        clear e
        go_wp2
        go_roundw
        case rel => exact ⟨k + 1, by omega, by go_num, by rw [HN.out]; exact HS.out, (HB.out.setCell (p := ⟨w.heap.size + 1 + 1, c, none⟩) (by simp; omega) _).setCell (p := ⟨w.heap.size + 1 + 1, 5 + d, none⟩) (by simp; omega) _⟩
        case measure => simp [intOf]; omega
    · have e : k = x.length := by omega
      subst e
      have HLX := Lib.hid (fun (c : Nat) => show cntK x c x.length = cntC x c from cntK_full _ (Nat.le_refl _))
      have HLY := Lib.hid (fun (c : Nat) => show cntK y c x.length = cntC y c from cntK_full _ (by rw [HLL.out]; exact Nat.le_refl _))
      have HS := Lib.hid (And.intro s0 (And.intro s1 s2))
      have HB := Lib.hid hb
      clear hcells hcells' s0 s1 s2 hb hlt
      go_wp2
      go_loopw [45] (fun i wr => ∃ j : Nat, j ≤ 5 ∧ i = .int .i64 j ∧ AnsSt w.heap.size x y x.length (rightN x y x.length : Nat) (bothN x y j : Nat) wr ∧ Below w.heap.size w wr) (fun i _ => 5 - (intOf i).toNat)
      case atStart => exact ⟨0, Nat.zero_le _, rfl, HS.out, HB.out⟩
      case round =>
        obtain ⟨j, hj, rfl, hst, hb⟩ := hrel
        obtain ⟨wj, rfl⟩ : ∃ x, x = wr := ⟨_, rfl⟩
        obtain ⟨s0, s1, s2⟩ := hst
        have hB := both_len (x := x) (y := y) (c := j)
        clear HS HB
        by_cases hlt : j < 5
        · have l1 := (cell_of_row _ _ j _ _ (0, 0) s2).trans (manyA_x x y x.length x.length hlt)
          have l2 := (cell_of_row _ _ (5 + j) _ _ (0, 0) s2).trans (manyA_y x y x.length x.length hlt)
          have l3 := cell_of_row _ _ 1 _ _ (0, 0) s1
          have f3 := frozen_of_row _ _ 1 _ _ s1
          rw [HLX.out] at l1
          rw [HLY.out] at l2
          simp only [List.getElem?_toArray, List.getElem?_cons_zero, List.getElem?_cons_succ] at l3
          have u1 := heap_setCell_same _ _ 1 _ _ (.int .i64 (((bothN x y j : Nat) : Int) + (min (cntC x j) (cntC y j) : Nat))) s1
          have u2 := (heap_setCell_other wj ⟨w.heap.size + 1, 1, none⟩ (w.heap.size + 1 + 1) (.int .i64 (((bothN x y j : Nat) : Int) + (min (cntC x j) (cntC y j) : Nat))) (by simp)).trans s2
          have u0 := (heap_setCell_other wj ⟨w.heap.size + 1, 1, none⟩ (w.heap.size) (.int .i64 (((bothN x y j : Nat) : Int) + (min (cntC x j) (cntC y j) : Nat))) (by simp)).trans s0
          have HS := Lib.hid (And.intro u0 (And.intro u1 u2))
          have HB := Lib.hid hb
          have hi0 : (0 : Int) ≤ (j : Int) := by omega
          have hi1 : (j : Int) < 5 := by omega
          have hc1 : cntC x j ≤ x.length := List.count_le_length
          have HST := Lib.hid (show bothN x y (j + 1) = bothN x y j + min (cntC x j) (cntC y j) from rfl)
          clear s0 s1 s2 u0 u1 u2 hb
          rcases Nat.lt_or_ge (cntC y j) (cntC x j) with hm | hm
          · have hm1 : ((cntC y j : Nat) : Int) < (cntC x j : Nat) := by omega
            have HM := Lib.hid (Nat.min_eq_right (Nat.le_of_lt hm))
            clear hm
            go_wp2
            go_region
            go_wp2
            go_roundw
            case rel =>
              refine ⟨j + 1, by omega, by go_num, ?_, ?_⟩
              · have q := HS.out
                have e : ((bothN x y j : Nat) : Int) + (min (cntC x j) (cntC y j) : Nat) = ((bothN x y (j + 1) : Nat) : Int) := by rw [HST.out]; push_cast; rfl
                rw [e] at q
                rw [HM.out] at e
                rw [e]
                exact q
              · exact (show Drawn _ _ from ⟨1, rfl⟩).below.mono (by have := HB.out.size; simpa using this) |> fun q => (HB.out.setCell (p := ⟨w.heap.size + 1, 1, none⟩) (by simp) _).trans q
            case measure => simp [intOf]; omega
          · have hm1 : ¬ ((cntC y j : Nat) : Int) < (cntC x j : Nat) := by omega
            have HM := Lib.hid (Nat.min_eq_left hm)
            clear hm
            go_wp2
            go_region
            go_wp2
            go_roundw
            case rel =>
              refine ⟨j + 1, by omega, by go_num, ?_, ?_⟩
              · have q := HS.out
                have e : ((bothN x y j : Nat) : Int) + (min (cntC x j) (cntC y j) : Nat) = ((bothN x y (j + 1) : Nat) : Int) := by rw [HST.out]; push_cast; rfl
                rw [e] at q
                rw [HM.out] at e
                rw [e]
                exact q
              · exact (show Drawn _ _ from ⟨1, rfl⟩).below.mono (by have := HB.out.size; simpa using this) |> fun q => (HB.out.setCell (p := ⟨w.heap.size + 1, 1, none⟩) (by simp) _).trans q
            case measure => simp [intOf]; omega
        · have e : j = 5 := by omega
          subst e
          have l3 := cell_of_row _ _ 1 _ _ (0, 0) s1
          have l4 := cell_of_row _ _ 0 _ _ (0, 0) s1
          have f3 := frozen_of_row _ _ 1 _ _ s1
          simp only [List.getElem?_toArray, List.getElem?_cons_zero, List.getElem?_cons_succ] at l3 l4
          have u1 := heap_setCell_same _ _ 1 _ _ (.int .i64 (((bothN x y 5 : Nat) : Int) - (rightN x y x.length : Nat))) s1
          have u0 := (heap_setCell_other wj ⟨w.heap.size + 1, 1, none⟩ (w.heap.size) (.int .i64 (((bothN x y 5 : Nat) : Int) - (rightN x y x.length : Nat))) (by simp)).trans s0
          have m0 := cell_of_row _ _ 0 _ _ (0, 0) u1
          have m1 := cell_of_row _ _ 1 _ _ (0, 0) u1
          have n0 := cell_of_row _ _ 0 _ _ (0, 0) u0
          have n1 := cell_of_row _ _ 1 _ _ (0, 0) u0
          have g0 := frozen_of_row _ _ 0 _ _ u0
          have g1 := frozen_of_row _ _ 1 _ _ u0
          have v0 := heap_setCell_same _ _ 1 _ _ (.int .i64 (((bothN x y 5 : Nat) : Int) - (rightN x y x.length : Nat))) (heap_setCell_same _ _ 0 _ _ (.int .i64 (rightN x y x.length : Nat)) u0)
          simp only [List.setIfInBounds_toArray, List.set_cons_succ, List.set_cons_zero, List.getElem?_toArray, List.getElem?_cons_zero, List.getElem?_cons_succ] at u1 m0 m1 n0 n1 v0
          have HB := Lib.hid hb
          have HV := Lib.hid v0
          have hR := right_le x y x.length
          clear s0 s1 s2 u0 u1 v0 hb
          go_wp2
          ((try simp only [Exit.inBlock, Exit.then]); refine bodyPost_ret (results_cell_row rfl _ _ w.heap.size _ _ (0, 0) _ rfl HV.out Try.underlying100 rfl (by kernel_rfl)) rfl ?_)
          exact ⟨rfl, ((HB.out.setCell (p := ⟨w.heap.size + 1, 1, none⟩) (by simp) _).setCell (p := ⟨w.heap.size, 0, none⟩) (by simp) _).setCell (p := ⟨w.heap.size, 1, none⟩) (by simp) _⟩

end Go.Proofs.Ytkjdlpbfalojdaa
