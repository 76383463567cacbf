/- Guesses and deeds as values: sizes, copies, comparisons. -/
import Derived.Test.YtenlngclocfnlaaDoorBunA
/- Guesses and deeds as values: sizes, copies, comparisons. -/
namespace Go.Proofs.YtenlngclocfnlaaDoor
open Go.RowKit
set_option linter.unusedVariables false
set_option maxRecDepth 100000

/-- A guess's value: the code's slice, two numbers. -/
def gV (v : Value) (r n : Int) : Value := .agg #[v, .int .i64 r, .int .i64 n]
/-- A deed's value. -/
def dV (b : Bool) (v : Value) (r n : Int) : Value := .agg #[.bool b, v, .int .i64 r, .int .i64 n]
def szR (xs : List Int) (k : Int) : Int := if (xs.length : Int) ≤ k then k - xs.length else -1

theorem eqGuess_any {B C : Nat} (v v' : Value) (xs ys : List Int) (r n r' n' : Int) (w : World) (h : Ints B w v xs) (h' : Ints C w v' ys) :
    Calls Tryd.prog 33 #[gV v r n, gV v' r' n'] w fun e w' => e = .returned (.bool (decide (xs = ys ∧ r = r' ∧ n = n'))) ∧ Below w.heap.size w w' := by
  obtain ⟨a, cap, rfl, _⟩ := h.opened
  obtain ⟨a', cap', rfl, _⟩ := h'.opened
  have hb1 : Below w.heap.size w ((w.alloc (.cells #[.slice a xs.length cap, .int .i64 r, .int .i64 n] 24)).alloc (.cells #[.slice a' ys.length cap', .int .i64 r', .int .i64 n'] 24)) := ((Below.refl _ _).alloc (Nat.le_refl _) _).alloc (by simp) _
  have hE := eqIntS_any _ _ xs ys _ (h.below hb1) (h'.below hb1)
  have HB1 := Lib.hid hb1
  unfold gV
  by_cases hx : xs = ys
  · rw [decide_eq_true hx] at hE
    by_cases hr : r = r'
    · by_cases hn : n = n'
      · have HR := Lib.hid (show decide (xs = ys ∧ r = r' ∧ n = n') = true from decide_eq_true ⟨hx, hr, hn⟩)
        have hr1 : (r != r') = false := by rw [hr]; simp
        have hn1 : (n != n') = false := by rw [hn]; simp
        clear h h' hb1 hx hr hn
        go_enter Tryd.func33, Tryd.ntmps33
        go_wp2_with fail
        refine hE.mono ?_
        rintro e w2 ⟨rfl, hq⟩
        obtain ⟨q, rfl⟩ : Drawn _ w2 := hq
        clear hE
        go_wp2
        go_ret
        exact ⟨ret_bool (by rw [HR.out]), HB1.out.trans ((show Drawn _ _ from ⟨q, rfl⟩).below.mono HB1.out.size)⟩
      · have HR := Lib.hid (show decide (xs = ys ∧ r = r' ∧ n = n') = false from decide_eq_false (fun hh => hn hh.2.2))
        have hr1 : (r != r') = false := by rw [hr]; simp
        have hn1 : (n != n') = true := by simpa using hn
        clear h h' hb1 hx hr hn
        go_enter Tryd.func33, Tryd.ntmps33
        go_wp2_with fail
        refine hE.mono ?_
        rintro e w2 ⟨rfl, hq⟩
        obtain ⟨q, rfl⟩ : Drawn _ w2 := hq
        clear hE
        go_wp2
        go_ret
        exact ⟨ret_bool (by rw [HR.out]), HB1.out.trans ((show Drawn _ _ from ⟨q, rfl⟩).below.mono HB1.out.size)⟩
    · have HR := Lib.hid (show decide (xs = ys ∧ r = r' ∧ n = n') = false from decide_eq_false (fun hh => hr hh.2.1))
      have hr1 : (r != r') = true := by simpa using hr
      clear h h' hb1 hx hr
      go_enter Tryd.func33, Tryd.ntmps33
      go_wp2_with fail
      refine hE.mono ?_
      rintro e w2 ⟨rfl, hq⟩
      obtain ⟨q, rfl⟩ : Drawn _ w2 := hq
      clear hE
      go_wp2
      go_ret
      exact ⟨ret_bool (by rw [HR.out]), HB1.out.trans ((show Drawn _ _ from ⟨q, rfl⟩).below.mono HB1.out.size)⟩
  · rw [decide_eq_false hx] at hE
    have HR := Lib.hid (show decide (xs = ys ∧ r = r' ∧ n = n') = false from decide_eq_false (fun hh => hx hh.1))
    clear h h' hb1 hx
    go_enter Tryd.func33, Tryd.ntmps33
    go_wp2_with fail
    refine hE.mono ?_
    rintro e w2 ⟨rfl, hq⟩
    obtain ⟨q, rfl⟩ : Drawn _ w2 := hq
    clear hE
    go_wp2
    go_ret
    exact ⟨ret_bool (by rw [HR.out]), HB1.out.trans ((show Drawn _ _ from ⟨q, rfl⟩).below.mono HB1.out.size)⟩

theorem eqDeed_self {B C : Nat} (b : Bool) (v v' : Value) (xs : List Int) (r n : Int) (w : World) (h : Ints B w v xs) (h' : Ints C w v' xs) :
    Calls Tryd.prog 10 #[dV b v r n, dV b v' r n] w fun e w' => e = .returned (.bool true) ∧ Below w.heap.size w w' := by
  obtain ⟨a, cap, rfl, _⟩ := h.opened
  obtain ⟨a', cap', rfl, _⟩ := h'.opened
  have hb1 : Below w.heap.size w ((w.alloc (.cells #[.bool b, .slice a xs.length cap, .int .i64 r, .int .i64 n] 26)).alloc (.cells #[.bool b, .slice a' xs.length cap', .int .i64 r, .int .i64 n] 26)) := ((Below.refl _ _).alloc (Nat.le_refl _) _).alloc (by simp) _
  have hE := eqGuess_any _ _ xs xs r n r n _ (h.below hb1) (h'.below hb1)
  have HB1 := Lib.hid hb1
  rw [decide_eq_true ⟨rfl, rfl, rfl⟩] at hE
  unfold gV at hE
  unfold dV
  have hbb : (b != b) = false := by simp
  clear h h' hb1
  go_enter Tryd.func10, Tryd.ntmps10
  go_wp2_with fail
  refine hE.mono ?_
  rintro e w2 ⟨rfl, hb2⟩
  have HB2 := Lib.hid (HB1.out.trans (hb2.mono HB1.out.size))
  clear hE hb2
  go_wp2
  go_ret
  exact ⟨rfl, HB2.out⟩

def nothingB (xs : List Int) (r n : Int) : Bool := decide (xs = [] ∧ r = 0 ∧ n = 0)
theorem nothing_any (a : Option Addr) (cap : Nat) (xs : List Int) (r n : Int) (w : World) (hl : xs.length ≤ 9223372036854775807) :
    Calls Tryd.prog 43 #[gV (.slice a xs.length cap) r n] w fun e w' => e = .returned (.bool (nothingB xs r n)) ∧ Below w.heap.size w w' := by
  unfold gV
  have hb : ∀ o, Below w.heap.size w (w.alloc o) := fun o => (Below.refl _ _).alloc (Nat.le_refl _) _
  by_cases hx : xs = []
  · have hx1 : ((xs.length : Int) == 0) = true := by rw [hx]; rfl
    by_cases hr : r = 0
    · have hr1 : (r == 0) = true := by rw [hr]; rfl
      by_cases hn : n = 0
      · have HR := Lib.hid (show nothingB xs r n = true from decide_eq_true ⟨hx, hr, hn⟩)
        have hn1 : (n == 0) = true := by rw [hn]; rfl
        clear hx hr hn
        go_enter Tryd.func43, Tryd.ntmps43
        go_wp2
        go_ret
        exact ⟨ret_bool (by rw [HR.out]), hb _⟩
      · have HR := Lib.hid (show nothingB xs r n = false from decide_eq_false (fun h => hn h.2.2))
        have hn1 : (n == 0) = false := by simpa using hn
        clear hx hr hn
        go_enter Tryd.func43, Tryd.ntmps43
        go_wp2
        go_ret
        exact ⟨ret_bool (by rw [HR.out]), hb _⟩
    · have HR := Lib.hid (show nothingB xs r n = false from decide_eq_false (fun h => hr h.2.1))
      have hr1 : (r == 0) = false := by simpa using hr
      clear hx hr
      go_enter Tryd.func43, Tryd.ntmps43
      go_wp2
      go_ret
      exact ⟨ret_bool (by rw [HR.out]), hb _⟩
  · have HR := Lib.hid (show nothingB xs r n = false from decide_eq_false (fun h => hx h.1))
    have hx1 : ((xs.length : Int) == 0) = false := by
      rw [beq_eq_false_iff_ne]
      intro e
      exact hx (List.eq_nil_of_length_eq_zero (by omega))
    clear hx
    go_enter Tryd.func43, Tryd.ntmps43
    go_wp2
    go_ret
    exact ⟨ret_bool (by rw [HR.out]), hb _⟩

end Go.Proofs.YtenlngclocfnlaaDoor

/- Copies of guesses and deeds. -/
namespace Go.Proofs.YtenlngclocfnlaaDoor
open Go.RowKit
set_option linter.unusedVariables false
set_option maxRecDepth 100000

/-- A guess with its code in new memory. -/
def GuessOut (xs : List Int) (r n : Int) (w : World) (e : Ending) (w' : World) : Prop :=
  ∃ a cap, e = .returned (gV (.slice a xs.length cap) r n) ∧ OwnI w.heap.size w' (.slice a xs.length cap) xs ∧ Below w.heap.size w w'

end Go.Proofs.YtenlngclocfnlaaDoor

/- Copies of deeds. -/
namespace Go.Proofs.YtenlngclocfnlaaDoor
open Go.RowKit
set_option linter.unusedVariables false
set_option maxRecDepth 100000

/-- A deed with its code in new memory. -/
def DeedOut (b : Bool) (xs : List Int) (r n : Int) (w : World) (e : Ending) (w' : World) : Prop :=
  ∃ a cap, e = .returned (dV b (.slice a xs.length cap) r n) ∧ OwnI w.heap.size w' (.slice a xs.length cap) xs ∧ Below w.heap.size w w'

end Go.Proofs.YtenlngclocfnlaaDoor
