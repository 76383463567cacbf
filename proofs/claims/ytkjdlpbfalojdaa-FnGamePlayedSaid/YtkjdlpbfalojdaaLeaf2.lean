/- Slices of slices of ints: copied, compared, marked, measured. -/
import Derived.Test.YtkjdlpbfalojdaaLeaf
namespace Go.Proofs.Ytkjdlpbfalojdaa
open Go.RowKit
set_option linter.unusedVariables false

/-- The call returns a slice of slices of ints of its own. -/
def FreshII (xss : List (List Int)) (w : World) (e : Ending) (w' : World) : Prop := ∃ a cap, e = .returned (.slice a xss.length cap) ∧ OwnII w.heap.size w' (.slice a xss.length cap) xss ∧ Below w.heap.size w w'

theorem copy_step2 {α : Type} {xs : List α} {z : α} {k n : Nat} (h : k < xs.length) (hn : n = xs.length) : (xs.take k ++ List.replicate (n - k) z).set k xs[k] = xs.take (k + 1) ++ List.replicate (n - (k + 1)) z := by
  subst hn
  rw [List.take_succ_eq_append_getElem h, List.set_append_right _ _ (by rw [List.length_take]; omega)]
  have e : k - (xs.take k).length = 0 := by rw [List.length_take]; omega
  rw [e, show xs.length - k = (xs.length - (k + 1)) + 1 from by omega, List.replicate_succ, List.set_cons_zero, List.append_assoc]
  rfl

/-! ### Marks -/
def tot (xss : List (List Int)) : Nat := (xss.map List.length).sum
theorem tot_snoc {xss : List (List Int)} {k : Nat} (h : k < xss.length) : tot (xss.take (k + 1)) = tot (xss.take k) + xss[k].length := by
  unfold tot
  rw [List.take_succ_eq_append_getElem h]
  simp only [List.map_append, List.sum_append, List.map_cons, List.map_nil, List.sum_cons, List.sum_nil]
  omega
theorem tot_take_le (xss : List (List Int)) (k : Nat) : tot (xss.take k) ≤ tot xss := by
  have : tot (xss.take k) + tot (xss.drop k) = tot xss := by
    unfold tot
    rw [← List.sum_append, ← List.map_append, List.take_append_drop]
  omega

def markSS : List (List Int) → Int → List (List Int)
  | [], _ => []
  | x :: t, m => markL x.length m :: markSS t (m + (x.length : Int))

theorem markSS_length (xss : List (List Int)) (m : Int) : (markSS xss m).length = xss.length := by
  induction xss generalizing m with
  | nil => rfl
  | cons x t ih => simp [markSS, ih]
theorem markSS_append (xss yss : List (List Int)) (m : Int) : markSS (xss ++ yss) m = markSS xss m ++ markSS yss (m + (tot xss : Int)) := by
  induction xss generalizing m with
  | nil => simp [markSS, tot]
  | cons x t ih =>
    simp only [List.cons_append, markSS, ih, List.cons.injEq, true_and, List.append_cancel_left_eq]
    congr 1
    simp [tot]; omega

theorem mark2_step {xss : List (List Int)} {k : Nat} {m : Int} (h : k < xss.length) :
    (markSS (xss.take k) m ++ xss.drop k).set k (markL xss[k].length (m + (tot (xss.take k) : Int))) = markSS (xss.take (k + 1)) m ++ xss.drop (k + 1) := by
  rw [List.set_append_right _ _ (by rw [markSS_length]; simp; omega)]
  have e : k - (markSS (xss.take k) m).length = 0 := by rw [markSS_length]; simp; omega
  rw [e, List.drop_eq_getElem_cons h, List.set_cons_zero, List.take_succ_eq_append_getElem h, markSS_append]
  simp [markSS]

theorem mark2_get {xss : List (List Int)} {k : Nat} {m : Int} (h : k < xss.length) (h' : k < (markSS (xss.take k) m ++ xss.drop k).length) : (markSS (xss.take k) m ++ xss.drop k)[k] = xss[k] := by
  rw [List.getElem_append_right (by rw [markSS_length]; simp; omega)]
  have e : k - (markSS (xss.take k) m).length = 0 := by rw [markSS_length]; simp; omega
  simp [e]

/-- What a marking of rows leaves. -/
def MarkedII (B : Nat) (v : Value) (xss : List (List Int)) (m : Int) (w : World) (e : Ending) (w' : World) : Prop :=
  e = .returned (.int .i64 (m + (tot xss : Int))) ∧ OwnII B w' v (markSS xss m) ∧ Below B w w'

/-- What heldIntSS returns. -/
def heldSS : List (List Int) → Int → Int
  | [], k => k
  | x :: t, k => if heldL x k < 0 then -1 else heldSS t (heldL x k)

theorem heldL_mark (n : Nat) (m : Int) : heldL (markL n m) m = m + (n : Int) := by
  unfold heldL; simp
theorem heldSS_mark (xss : List (List Int)) (m : Int) (h : 0 ≤ m) : heldSS (markSS xss m) m = m + (tot xss : Int) := by
  induction xss generalizing m with
  | nil => simp [heldSS, markSS, tot]
  | cons x t ih =>
    rw [markSS, heldSS, heldL_mark, if_neg (by omega), ih _ (by omega)]
    simp [tot]; omega
theorem heldL_range (xs : List Int) (k : Int) : heldL xs k = -1 ∨ heldL xs k = k + xs.length := by
  unfold heldL; split <;> simp

/-- What szIntSS returns. -/
def szGo : List (List Int) → Int → Int
  | [], l => l
  | x :: t, l => if (x.length : Int) ≤ l then szGo t (l - (x.length : Int)) else -1
def szSS (xss : List (List Int)) (l : Int) : Int := if (xss.length : Int) ≤ l then szGo xss (l - (xss.length : Int)) else -1

theorem szGo_neg (xss : List (List Int)) : ∀ l, 0 ≤ l → 0 ≤ szGo xss l → szGo xss l = l - (tot xss : Int) := by
  induction xss with
  | nil => intro l _ _; simp [szGo, tot]
  | cons x t ih =>
    intro l h0 h
    rw [szGo] at h ⊢
    split at h
    · rename_i hx
      rw [if_pos hx, ih _ (by omega) h]
      simp [tot]; omega
    · omega
theorem szSS_bound {xss : List (List Int)} {l : Int} (h : 0 ≤ szSS xss l) (hl : 0 ≤ l) : (xss.length : Int) + (tot xss : Int) ≤ l := by
  unfold szSS at h
  split at h
  · rename_i hx
    have := szGo_neg xss _ (by omega) h
    omega
  · omega
theorem tot_mem {xss : List (List Int)} {xs : List Int} (h : xs ∈ xss) : xs.length ≤ tot xss := by
  induction xss with
  | nil => simp at h
  | cons x t ih =>
    simp only [List.mem_cons] at h
    rcases h with rfl | h
    · simp [tot]
    · have := ih h
      simp [tot] at this ⊢; omega
theorem szSS_ge (xss : List (List Int)) (l : Int) (hl : 0 ≤ l) : -1 ≤ szSS xss l := by
  have key : ∀ (xss : List (List Int)) (l : Int), 0 ≤ l → -1 ≤ szGo xss l := by
    intro xss
    induction xss with
    | nil => intro l h; simp [szGo]; omega
    | cons x t ih => intro l h; rw [szGo]; split <;> first | exact ih _ (by omega) | omega
  unfold szSS
  split
  · exact key _ _ (by omega)
  · omega

end Go.Proofs.Ytkjdlpbfalojdaa
