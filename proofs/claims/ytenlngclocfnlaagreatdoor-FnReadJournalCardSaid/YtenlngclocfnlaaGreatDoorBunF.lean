/- Guesses and deeds as values: sizes, copies, comparisons. -/
import Derived.Test.YtenlngclocfnlaaGreatDoorBunA
/- Guesses and deeds as values: sizes, copies, comparisons. -/
namespace Go.Proofs.YtenlngclocfnlaaGreatDoor
open Go.RowKit
set_option linter.unusedVariables false
set_option maxRecDepth 100000

/-- A guess's value: the code's slice, two numbers. -/
def gV (v : Value) (r n : Int) : Value := .agg #[v, .int .i64 r, .int .i64 n]
/-- A deed's value. -/
def dV (b : Bool) (v : Value) (r n : Int) : Value := .agg #[.bool b, v, .int .i64 r, .int .i64 n]
def szR (xs : List Int) (k : Int) : Int := if (xs.length : Int) ≤ k then k - xs.length else -1

theorem szGuess_any {B : Nat} (v : Value) (xs : List Int) (r n k : Int) (w : World) (h : Ints B w v xs) (h0 : 0 ≤ k) (h1 : k ≤ 1099511627776) :
    Calls Tryz.prog 116 #[gV v r n, .int .i64 k] w fun e w' => e = .returned (.int .i64 (szR xs k)) ∧ Below w.heap.size w w' := by
  obtain ⟨a, cap, rfl, _⟩ := h.opened
  have hb1 : Below w.heap.size w (w.alloc (.cells #[.slice a xs.length cap, .int .i64 r, .int .i64 n] 137)) := (Below.refl _ _).alloc (Nat.le_refl _) _
  have hS := szIntS_any _ xs k _ (h.below hb1) h0 h1
  have HB1 := Lib.hid hb1
  unfold gV
  by_cases hle : (xs.length : Int) ≤ k
  · rw [if_pos hle] at hS
    have HR := Lib.hid (show szR xs k = k - xs.length by unfold szR; rw [if_pos hle])
    have hd : ¬ (k - (xs.length : Int) < 0) := by omega
    clear h hb1
    go_enter Tryz.func116, Tryz.ntmps116
    go_wp2_with fail
    refine hS.mono ?_
    rintro e w2 ⟨rfl, rfl⟩
    clear hS
    go_wp2
    go_ret
    exact ⟨ret_int (by rw [HR.out]), HB1.out⟩
  · rw [if_neg hle] at hS
    have HR := Lib.hid (show szR xs k = -1 by unfold szR; rw [if_neg hle])
    clear h hb1
    go_enter Tryz.func116, Tryz.ntmps116
    go_wp2_with fail
    refine hS.mono ?_
    rintro e w2 ⟨rfl, rfl⟩
    clear hS
    go_wp2
    go_ret
    exact ⟨ret_int (by rw [HR.out]), HB1.out⟩

theorem eqGuess_any {B C : Nat} (v v' : Value) (xs ys : List Int) (r n r' n' : Int) (w : World) (h : Ints B w v xs) (h' : Ints C w v' ys) :
    Calls Tryz.prog 118 #[gV v r n, gV v' r' n'] w fun e w' => e = .returned (.bool (decide (xs = ys ∧ r = r' ∧ n = n'))) ∧ Below w.heap.size w w' := by
  obtain ⟨a, cap, rfl, _⟩ := h.opened
  obtain ⟨a', cap', rfl, _⟩ := h'.opened
  have hb1 : Below w.heap.size w ((w.alloc (.cells #[.slice a xs.length cap, .int .i64 r, .int .i64 n] 39)).alloc (.cells #[.slice a' ys.length cap', .int .i64 r', .int .i64 n'] 39)) := ((Below.refl _ _).alloc (Nat.le_refl _) _).alloc (by simp) _
  have hE := eqIntS_any _ _ xs ys _ (h.below hb1) (h'.below hb1)
  have HB1 := Lib.hid hb1
  unfold gV
  by_cases hx : xs = ys
  · rw [decide_eq_true hx] at hE
    by_cases hr : r = r'
    · by_cases hn : n = n'
      · have HR := Lib.hid (show decide (xs = ys ∧ r = r' ∧ n = n') = true from decide_eq_true ⟨hx, hr, hn⟩)
        have hr1 : (r != r') = false := by rw [hr]; simp
        have hn1 : (n != n') = false := by rw [hn]; simp
        clear h h' hb1 hx hr hn
        go_enter Tryz.func118, Tryz.ntmps118
        go_wp2_with fail
        refine hE.mono ?_
        rintro e w2 ⟨rfl, hq⟩
        obtain ⟨q, rfl⟩ : Drawn _ w2 := hq
        clear hE
        go_wp2
        go_ret
        exact ⟨ret_bool (by rw [HR.out]), HB1.out.trans ((show Drawn _ _ from ⟨q, rfl⟩).below.mono HB1.out.size)⟩
      · have HR := Lib.hid (show decide (xs = ys ∧ r = r' ∧ n = n') = false from decide_eq_false (fun hh => hn hh.2.2))
        have hr1 : (r != r') = false := by rw [hr]; simp
        have hn1 : (n != n') = true := by simpa using hn
        clear h h' hb1 hx hr hn
        go_enter Tryz.func118, Tryz.ntmps118
        go_wp2_with fail
        refine hE.mono ?_
        rintro e w2 ⟨rfl, hq⟩
        obtain ⟨q, rfl⟩ : Drawn _ w2 := hq
        clear hE
        go_wp2
        go_ret
        exact ⟨ret_bool (by rw [HR.out]), HB1.out.trans ((show Drawn _ _ from ⟨q, rfl⟩).below.mono HB1.out.size)⟩
    · have HR := Lib.hid (show decide (xs = ys ∧ r = r' ∧ n = n') = false from decide_eq_false (fun hh => hr hh.2.1))
      have hr1 : (r != r') = true := by simpa using hr
      clear h h' hb1 hx hr
      go_enter Tryz.func118, Tryz.ntmps118
      go_wp2_with fail
      refine hE.mono ?_
      rintro e w2 ⟨rfl, hq⟩
      obtain ⟨q, rfl⟩ : Drawn _ w2 := hq
      clear hE
      go_wp2
      go_ret
      exact ⟨ret_bool (by rw [HR.out]), HB1.out.trans ((show Drawn _ _ from ⟨q, rfl⟩).below.mono HB1.out.size)⟩
  · rw [decide_eq_false hx] at hE
    have HR := Lib.hid (show decide (xs = ys ∧ r = r' ∧ n = n') = false from decide_eq_false (fun hh => hx hh.1))
    clear h h' hb1 hx
    go_enter Tryz.func118, Tryz.ntmps118
    go_wp2_with fail
    refine hE.mono ?_
    rintro e w2 ⟨rfl, hq⟩
    obtain ⟨q, rfl⟩ : Drawn _ w2 := hq
    clear hE
    go_wp2
    go_ret
    exact ⟨ret_bool (by rw [HR.out]), HB1.out.trans ((show Drawn _ _ from ⟨q, rfl⟩).below.mono HB1.out.size)⟩

def nothingB (xs : List Int) (r n : Int) : Bool := decide (xs = [] ∧ r = 0 ∧ n = 0)
theorem nothing_any (a : Option Addr) (cap : Nat) (xs : List Int) (r n : Int) (w : World) (hl : xs.length ≤ 9223372036854775807) :
    Calls Tryz.prog 53 #[gV (.slice a xs.length cap) r n] w fun e w' => e = .returned (.bool (nothingB xs r n)) ∧ Below w.heap.size w w' := by
  unfold gV
  have hb : ∀ o, Below w.heap.size w (w.alloc o) := fun o => (Below.refl _ _).alloc (Nat.le_refl _) _
  by_cases hx : xs = []
  · have hx1 : ((xs.length : Int) == 0) = true := by rw [hx]; rfl
    by_cases hr : r = 0
    · have hr1 : (r == 0) = true := by rw [hr]; rfl
      by_cases hn : n = 0
      · have HR := Lib.hid (show nothingB xs r n = true from decide_eq_true ⟨hx, hr, hn⟩)
        have hn1 : (n == 0) = true := by rw [hn]; rfl
        clear hx hr hn
        go_enter Tryz.func53, Tryz.ntmps53
        go_wp2
        go_ret
        exact ⟨ret_bool (by rw [HR.out]), hb _⟩
      · have HR := Lib.hid (show nothingB xs r n = false from decide_eq_false (fun h => hn h.2.2))
        have hn1 : (n == 0) = false := by simpa using hn
        clear hx hr hn
        go_enter Tryz.func53, Tryz.ntmps53
        go_wp2
        go_ret
        exact ⟨ret_bool (by rw [HR.out]), hb _⟩
    · have HR := Lib.hid (show nothingB xs r n = false from decide_eq_false (fun h => hr h.2.1))
      have hr1 : (r == 0) = false := by simpa using hr
      clear hx hr
      go_enter Tryz.func53, Tryz.ntmps53
      go_wp2
      go_ret
      exact ⟨ret_bool (by rw [HR.out]), hb _⟩
  · have HR := Lib.hid (show nothingB xs r n = false from decide_eq_false (fun h => hx h.1))
    have hx1 : ((xs.length : Int) == 0) = false := by
      rw [beq_eq_false_iff_ne]
      intro e
      exact hx (List.eq_nil_of_length_eq_zero (by omega))
    clear hx
    go_enter Tryz.func53, Tryz.ntmps53
    go_wp2
    go_ret
    exact ⟨ret_bool (by rw [HR.out]), hb _⟩

end Go.Proofs.YtenlngclocfnlaaGreatDoor

/- Copies of guesses and deeds. -/
namespace Go.Proofs.YtenlngclocfnlaaGreatDoor
open Go.RowKit
set_option linter.unusedVariables false
set_option maxRecDepth 100000

/-- A guess with its code in new memory. -/
def GuessOut (xs : List Int) (r n : Int) (w : World) (e : Ending) (w' : World) : Prop :=
  ∃ a cap, e = .returned (gV (.slice a xs.length cap) r n) ∧ OwnI w.heap.size w' (.slice a xs.length cap) xs ∧ Below w.heap.size w w'

set_option maxHeartbeats 1000000 in
theorem toGuess_any {B : Nat} (v : Value) (xs : List Int) (r n : Int) (w : World) (h : Ints B w v xs) (hl : xs.length ≤ 1099511627776) :
    Calls Tryz.prog 117 #[gV v r n] w (GuessOut xs r n w) := by
  obtain ⟨a, cap, rfl, _⟩ := h.opened
  obtain ⟨w1, hw1⟩ : ∃ w1, w1 = ((w.alloc (.cells #[.slice a xs.length cap, .int .i64 r, .int .i64 n] 137)).alloc (.cells #[.slice none 0 0, .int .i64 0, .int .i64 0] 39)).alloc (.cells #[.slice none 0 0, .int .i64 0, .int .i64 0] 39) := ⟨_, rfl⟩
  have hb1 : Below w.heap.size w w1 := by rw [hw1]; exact (((Below.refl _ _).alloc (Nat.le_refl _) _).alloc (by simp) _).alloc (by simp; omega) _
  have hs1 : w1.heap.size = w.heap.size + 3 := by rw [hw1]; simp
  have hT := toIntS_any _ xs w1 (h.below hb1) hl
  rw [hw1] at hT
  have HB1 := Lib.hid hb1
  have HW1 := Lib.hid hw1
  have HS1 := Lib.hid hs1
  unfold gV
  clear h hb1 hs1 hw1
  go_enter Tryz.func117, Tryz.ntmps117
  go_wp2_with fail
  refine hT.mono ?_
  rintro e w2 ⟨a2, c2, rfl, ho2, hb2⟩
  rw [← HW1.out] at ho2 hb2
  have hg0 : w2.heap[w.heap.size]? = some (.cells #[.slice a xs.length cap, .int .i64 r, .int .i64 n] 137 (0, 0)) := by
    rw [hb2.block _ (by have := HS1.out; omega), HW1.out, heap_alloc_old _ _ (by simp; try omega), heap_alloc_old _ _ (by simp; try omega)]; exact heap_alloc_new w _
  have hg1 : w2.heap[w.heap.size + 1]? = some (.cells #[.slice none 0 0, .int .i64 0, .int .i64 0] 39 (0, 0)) := by
    rw [hb2.block _ (by have := HS1.out; omega), HW1.out, heap_alloc_old _ _ (by simp; try omega)]; have q := @Go.heap_alloc_new (w.alloc (.cells #[.slice a xs.length cap, .int .i64 r, .int .i64 n] 137)) (.cells #[.slice none 0 0, .int .i64 0, .int .i64 0] 39); rw [World.size_alloc] at q; exact q
  have hg2 : w2.heap[w.heap.size + 2]? = some (.cells #[.slice none 0 0, .int .i64 0, .int .i64 0] 39 (0, 0)) := by
    rw [hb2.block _ (by have := HS1.out; omega), HW1.out]; have q := @Go.heap_alloc_new ((w.alloc (.cells #[.slice a xs.length cap, .int .i64 r, .int .i64 n] 137)).alloc (.cells #[.slice none 0 0, .int .i64 0, .int .i64 0] 39)) (.cells #[.slice none 0 0, .int .i64 0, .int .i64 0] 39); rw [World.size_alloc, World.size_alloc] at q; exact q
  have cc0 := cell_of_row _ _ 0 _ _ (0, 0) hg0
  have cc1 := cell_of_row _ _ 1 _ _ (0, 0) hg0
  have cc2 := cell_of_row _ _ 2 _ _ (0, 0) hg0
  have d0 := cell_of_row _ _ 0 _ _ (0, 0) hg1
  have d1 := cell_of_row _ _ 1 _ _ (0, 0) hg1
  have d2 := cell_of_row _ _ 2 _ _ (0, 0) hg1
  have e0 := cell_of_row _ _ 0 _ _ (0, 0) hg2
  have e1 := cell_of_row _ _ 1 _ _ (0, 0) hg2
  have e2 := cell_of_row _ _ 2 _ _ (0, 0) hg2
  have k1 : ∀ j, w2.frozen? ⟨w.heap.size + 1, j, none⟩ = false := fun j => frozen_of_row _ _ j _ _ hg1
  have k2 : ∀ j, w2.frozen? ⟨w.heap.size + 2, j, none⟩ = false := fun j => frozen_of_row _ _ j _ _ hg2
  simp at cc0 cc1 cc2 d0 d1 d2 e0 e1 e2
  clear hT
  go_wp2
  have HO2 := Lib.hid ho2
  have HB2 := Lib.hid (HB1.out.trans (hb2.mono HB1.out.size))
  have hs1 := HS1.out
  have q3 : (((w2.setCell ⟨w.heap.size + 1 + 1, 0, none⟩ (.slice a2 xs.length c2)).setCell ⟨w.heap.size + 1 + 1, 1, none⟩ (.int .i64 r)).setCell ⟨w.heap.size + 1 + 1, 2, none⟩ (.int .i64 n)).heap[w.heap.size + 1]? = some (.cells #[.slice none 0 0, .int .i64 0, .int .i64 0] 39 (0, 0)) := by
    rw [heap_setCell_other _ _ _ _ (by simp), heap_setCell_other _ _ _ _ (by simp), heap_setCell_other _ _ _ _ (by simp)]; exact hg1
  have q6 := heap_setCell_same _ _ 2 _ _ (.int .i64 n) (heap_setCell_same _ _ 1 _ _ (.int .i64 r) (heap_setCell_same _ _ 0 _ _ (.slice a2 xs.length c2) q3))
  ((try simp only [Exit.inBlock, Exit.then]); refine bodyPost_ret (results_cell_row rfl _ _ (w.heap.size + 1) _ _ (0, 0) _ rfl q6 Tryz.underlying39 rfl (by kernel_rfl)) rfl ?_)
  refine ⟨a2, c2, rfl, (HO2.out.keep (fun b hb hlt => ?_)).mono (by omega), ?_⟩
  · rw [heap_setCell_other _ _ _ _ (by simp; omega), heap_setCell_other _ _ _ _ (by simp; omega), heap_setCell_other _ _ _ _ (by simp; omega), heap_setCell_other _ _ _ _ (by simp; omega), heap_setCell_other _ _ _ _ (by simp; omega), heap_setCell_other _ _ _ _ (by simp; omega)]
  · exact (((((HB2.out.setCell (p := ⟨w.heap.size + 1 + 1, 0, none⟩) (by simp; omega) _).setCell (p := ⟨w.heap.size + 1 + 1, 1, none⟩) (by simp; omega) _).setCell (p := ⟨w.heap.size + 1 + 1, 2, none⟩) (by simp; omega) _).setCell (p := ⟨w.heap.size + 1, 0, none⟩) (by simp) _).setCell (p := ⟨w.heap.size + 1, 1, none⟩) (by simp) _).setCell (p := ⟨w.heap.size + 1, 2, none⟩) (by simp) _

end Go.Proofs.YtenlngclocfnlaaGreatDoor

/- Copies of deeds. -/
namespace Go.Proofs.YtenlngclocfnlaaGreatDoor
open Go.RowKit
set_option linter.unusedVariables false
set_option maxRecDepth 100000

/-- A deed with its code in new memory. -/
def DeedOut (b : Bool) (xs : List Int) (r n : Int) (w : World) (e : Ending) (w' : World) : Prop :=
  ∃ a cap, e = .returned (dV b (.slice a xs.length cap) r n) ∧ OwnI w.heap.size w' (.slice a xs.length cap) xs ∧ Below w.heap.size w w'

end Go.Proofs.YtenlngclocfnlaaGreatDoor
