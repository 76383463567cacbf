/- Lots of answers as a row of numbers. Plain. -/
import Derived.Test.YtkjdlpbfalojdaaFitS
namespace Go.Proofs.Ytkjdlpbfalojdaa
set_option linter.unusedVariables false

/-- Where the reference keeps the lot of an answer. -/
def atN (n : Nat) (a : Int × Int) : Nat := a.1.toNat * (n + 1) + a.2.toNat
def GoodA (n : Nat) (a : Int × Int) : Prop := 0 ≤ a.1 ∧ a.1 ≤ n ∧ 0 ≤ a.2 ∧ a.2 ≤ n
theorem atN_lt {n : Nat} {a : Int × Int} (h : GoodA n a) (hn : n ≤ 3) : atN n a < (n + 1) * (n + 1) := by
  obtain ⟨h1, h2, h3, h4⟩ := h
  unfold atN
  have : n = 0 ∨ n = 1 ∨ n = 2 ∨ n = 3 := by omega
  rcases this with rfl | rfl | rfl | rfl <;> omega
theorem atN_inj {n : Nat} {a b : Int × Int} (h : GoodA n a) (k : GoodA n b) (hn : n ≤ 3) (e : atN n a = atN n b) : a = b := by
  obtain ⟨h1, h2, h3, h4⟩ := h
  obtain ⟨k1, k2, k3, k4⟩ := k
  unfold atN at e
  have : n = 0 ∨ n = 1 ∨ n = 2 ∨ n = 3 := by omega
  have q : a.1 = b.1 ∧ a.2 = b.2 := by
    rcases this with rfl | rfl | rfl | rfl <;> omega
  exact Prod.ext q.1 q.2
def lotsK (n : Nat) (ws : List (Int × Int)) (k : Nat) : List Int := (List.range ((n + 1) * (n + 1))).map fun i => (((ws.take k).countP fun a => atN n a == i : Nat) : Int)
@[simp] theorem lotsK_length (n : Nat) (ws : List (Int × Int)) (k : Nat) : (lotsK n ws k).length = (n + 1) * (n + 1) := by simp [lotsK]
theorem lotsK_zero (n : Nat) (ws : List (Int × Int)) : lotsK n ws 0 = List.replicate ((n + 1) * (n + 1)) 0 := by
  refine List.ext_getElem (by simp) fun i h1 h2 => ?_
  simp [lotsK]
theorem lotsK_get {n : Nat} {ws : List (Int × Int)} {k : Nat} (hg : ∀ a ∈ ws, GoodA n a) (hn : n ≤ 3) {a : Int × Int} (ha : GoodA n a) (h : atN n a < (lotsK n ws k).length) : (lotsK n ws k)[atN n a] = (((ws.take k).count a : Nat) : Int) := by
  simp only [lotsK, List.getElem_map, List.getElem_range]
  rw [List.count]
  congr 1
  refine List.countP_congr fun b hb => ?_
  have hb' := hg b (List.mem_of_mem_take hb)
  constructor
  · intro q
    have := atN_inj hb' ha hn (by simpa using q)
    simp [this]
  · intro q
    have : b = a := by simpa using q
    simp [this]
theorem lotsK_set {n : Nat} {ws : List (Int × Int)} {k : Nat} (hk : k < ws.length) (hg : ∀ a ∈ ws, GoodA n a) (hn : n ≤ 3) :
    (lotsK n ws k).set (atN n ws[k]) ((((ws.take k).count ws[k] : Nat) : Int) + 1) = lotsK n ws (k + 1) := by
  have hgk := hg _ (List.getElem_mem hk)
  have hlt := atN_lt hgk hn
  refine List.ext_getElem (by simp) fun i h1 h2 => ?_
  rw [List.getElem_set]
  split
  · rename_i e
    subst e
    rw [lotsK_get hg hn hgk, List.take_succ_eq_append_getElem hk, List.count_append]
    simp
  · rename_i e
    simp only [lotsK, List.getElem_map, List.getElem_range]
    rw [List.take_succ_eq_append_getElem hk, List.countP_append]
    simp [e]
theorem count_next {ws : List (Int × Int)} {k : Nat} (hk : k < ws.length) : (ws.take (k + 1)).count ws[k] = (ws.take k).count ws[k] + 1 := by
  rw [List.take_succ_eq_append_getElem hk, List.count_append]; simp
theorem worst_next {ws : List (Int × Int)} {k : Nat} (hk : k < ws.length) : worstK ws (k + 1) = max (worstK ws k) ((ws.take k).count ws[k] + 1) := by
  rw [worstK, show ws.getD k (0, 0) = ws[k] from by simp [List.getD, List.getElem?_eq_getElem hk], count_next hk]
theorem good_ans {n c : Nat} {x y : List Int} (hx : CodeP n c x) (hy : CodeP n c y) : GoodA n (ansZ x y) := ans_bounds hx hy

end Go.Proofs.Ytkjdlpbfalojdaa
