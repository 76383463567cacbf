/- Places taken one by one: a plain law: each one that is surely hit takes a shot of its own. No program is walked here. -/
import Derived.Test.YtpeogghiboaceaaShip8
namespace Go.Proofs.Ytpeogghiboaceaa
set_option linter.unusedVariables false

def sumN (f : Nat → Int) : Nat → Int
  | 0 => 0
  | k + 1 => sumN f k + f k
theorem sumN_same {f g : Nat → Int} {n : Nat} (h : ∀ k, k < n → f k = g k) : sumN f n = sumN g n := by
  induction n with
  | zero => rfl
  | succ n ih => rw [sumN, sumN, ih (fun k hk => h k (by omega)), h n (by omega)]
theorem sumN_le {f g : Nat → Int} {n : Nat} (h : ∀ k, k < n → f k ≤ g k) : sumN f n ≤ sumN g n := by
  induction n with
  | zero => exact Int.le_refl _
  | succ n ih =>
    rw [sumN, sumN]
    have := ih (fun k hk => h k (by omega))
    have := h n (by omega)
    omega
theorem sumN_one {f g : Nat → Int} {n i : Nat} {d : Int} (hi : i < n) (h : ∀ k, k < n → k ≠ i → f k = g k) (hd : f i = g i + d) : sumN f n = sumN g n + d := by
  induction n with
  | zero => omega
  | succ n ih =>
    rw [sumN, sumN]
    by_cases e : i = n
    · subst e
      rw [sumN_same (fun k hk => h k (by omega) (by omega)), hd]; omega
    · rw [ih (by omega) (fun k hk hn => h k (by omega) hn), h n (by omega) (by omega)]; omega
theorem sumN_ext {f : Nat → Int} {n : Nat} : ∀ d, (∀ k, n ≤ k → k < n + d → f k = 0) → sumN f (n + d) = sumN f n
  | 0, _ => rfl
  | d + 1, h => by
    rw [← Nat.add_assoc, sumN, sumN_ext d (fun k h1 h2 => h k h1 (by omega)), h (n + d) (by omega) (by omega)]; omega
theorem sumN_zero (n : Nat) : sumN (fun _ => (0 : Int)) n = 0 := by
  induction n with
  | zero => rfl
  | succ n ih => rw [sumN, ih]; rfl
theorem sumN_rng {f : Nat → Int} {n : Nat} {m : Int} (h : ∀ k, k < n → 0 ≤ f k ∧ f k ≤ m) : 0 ≤ sumN f n ∧ sumN f n ≤ n * m := by
  induction n with
  | zero => simp [sumN]
  | succ n ih =>
    have h1 := ih (fun k hk => h k (by omega))
    have h2 := h n (by omega)
    have e : ((n + 1 : Nat) : Int) * m = n * m + m := by rw [Int.natCast_add, Int.add_mul]; simp
    rw [sumN, e]
    omega

/-- What is taken. -/
def setT (T : Nat → Nat → Bool) (r c : Nat) : Nat → Nat → Bool := fun r' c' => (decide (r' = r) && decide (c' = c)) || T r' c'
def sumT (xss : List (List Int)) (T : Nat → Nat → Bool) : Int := sumN (fun r => sumN (fun c => if T r c = true then cellN xss r c else 0) 6) 6
def gridN (xss : List (List Int)) (R C : Nat) : Int := sumN (fun r => sumN (fun c => cellN xss r c) C) R
theorem sumT_set {xss : List (List Int)} {T : Nat → Nat → Bool} {r c : Nat} (hr : r < 6) (hc : c < 6) (h : T r c = false) : sumT xss (setT T r c) = sumT xss T + cellN xss r c := by
  unfold sumT
  refine sumN_one hr (fun k hk hn => ?_) (sumN_one hc (fun k hk hn => ?_) ?_)
  · refine sumN_same fun j hj => ?_
    have : setT T r c k j = T k j := by unfold setT; rw [decide_eq_false hn, Bool.false_and, Bool.false_or]
    rw [this]
  · have : setT T r c r k = T r k := by unfold setT; rw [decide_eq_false hn, Bool.and_false, Bool.false_or]
    rw [this]
  · have : setT T r c r c = true := by unfold setT; simp
    rw [this, h]; simp
def addK (T : Nat → Nat → Bool) (p : Pl) : Nat → Nat → Nat → Bool
  | 0 => T
  | k + 1 => setT (addK T p k) (p.r + k * p.d) (p.c + k * (1 - p.d))
def freeK (T : Nat → Nat → Bool) (p : Pl) : Nat → Bool
  | 0 => true
  | k + 1 => freeK T p k && !T (p.r + k * p.d) (p.c + k * (1 - p.d))
theorem free_all {T : Nat → Nat → Bool} {p : Pl} {l : Nat} (h : freeK T p l = true) : ∀ k, k < l → T (p.r + k * p.d) (p.c + k * (1 - p.d)) = false := by
  induction l with
  | zero => intro k hk; omega
  | succ l ih =>
    rw [freeK, Bool.and_eq_true] at h
    intro k hk
    by_cases e : k < l
    · exact ih h.1 k e
    · have e2 : k = l := by omega
      subst e2
      simpa using h.2
theorem field_apart {p : Pl} (hd : p.d ≤ 1) {i k : Nat} (h : i < k) : ¬ (p.r + k * p.d = p.r + i * p.d ∧ p.c + k * (1 - p.d) = p.c + i * (1 - p.d)) := by
  rcases (show p.d = 0 ∨ p.d = 1 by omega) with e | e
  · rw [e]; simp; omega
  · rw [e]; simp; omega
theorem addK_free {T : Nat → Nat → Bool} {p : Pl} {l : Nat} (hd : p.d ≤ 1) (h : freeK T p l = true) {k : Nat} (hk : k < l) : ∀ i, i ≤ k → addK T p i (p.r + k * p.d) (p.c + k * (1 - p.d)) = false
  | 0, _ => free_all h k hk
  | i + 1, hi => by
    rw [addK]
    unfold setT
    rw [addK_free hd h hk i (by omega), Bool.or_false]
    have := field_apart hd (show i < k by omega)
    rw [Bool.and_eq_false_iff, decide_eq_false_iff_not, decide_eq_false_iff_not]
    by_cases e : p.r + k * p.d = p.r + i * p.d
    · exact .inr fun e2 => this ⟨e, e2⟩
    · exact .inl e
theorem sumT_add {R C l : Nat} {xss : List (List Int)} {T : Nat → Nat → Bool} {p : Pl} (hf : FitsP R C l p) (hR : R ≤ 6) (hC : C ≤ 6) (h : freeK T p l = true) : ∀ k, k ≤ l → sumT xss (addK T p k) = sumT xss T + hitK xss p k
  | 0, _ => by simp [addK, hitK]
  | k + 1, hk => by
    have q := fits_field hf (show k < l by omega)
    rw [addK, hitK, sumT_set (by omega) (by omega) (addK_free hf.1 h (by omega) k (Nat.le_refl _)), sumT_add hf hR hC h k (by omega)]
    omega

/-- What is taken, and how many, after the first k places. -/
def apartT (ps : List Pl) (l : Nat) : Nat → (Nat → Nat → Bool)
  | 0 => fun _ _ => false
  | k + 1 => if freeK (apartT ps l k) (atP ps k) l = true then addK (apartT ps l k) (atP ps k) l else apartT ps l k
def apartN (ps : List Pl) (l : Nat) : Nat → Nat
  | 0 => 0
  | k + 1 => if freeK (apartT ps l k) (atP ps k) l = true then apartN ps l k + 1 else apartN ps l k
theorem apartN_le (ps : List Pl) (l k : Nat) : apartN ps l k ≤ k := by
  induction k with
  | zero => simp [apartN]
  | succ k ih => rw [apartN]; split <;> omega
theorem apart_shots {R C l : Nat} {xss : List (List Int)} {ps : List Pl} (hR : R ≤ 6) (hC : C ≤ 6) (hf : ∀ p ∈ ps, FitsP R C l p) (hh : ∀ p ∈ ps, 1 ≤ hitK xss p l) : ∀ k, k ≤ ps.length → (apartN ps l k : Int) ≤ sumT xss (apartT ps l k)
  | 0, _ => by
    have : sumT xss (apartT ps l 0) = 0 := by
      have e : sumT xss (apartT ps l 0) = sumN (fun _ => (0 : Int)) 6 := by
        unfold sumT apartT
        refine sumN_same fun r hr => ?_
        have := sumN_same (f := fun c => if (false : Bool) = true then cellN xss r c else 0) (g := fun _ => (0 : Int)) (n := 6) (fun c hc => by simp)
        rw [this]; rfl
      rw [e]; rfl
    rw [this]; simp [apartN]
  | k + 1, hk => by
    have ih := apart_shots hR hC hf hh k (by omega)
    have hmem : atP ps k ∈ ps := by rw [atP_get (by omega)]; exact List.getElem_mem _
    rw [apartN, apartT]
    by_cases h : freeK (apartT ps l k) (atP ps k) l = true
    · rw [if_pos h, if_pos h, sumT_add (hf _ hmem) hR hC h l (Nat.le_refl _)]
      have := hh _ hmem
      omega
    · rw [if_neg h, if_neg h]; exact ih
theorem cellN_rng {R C : Nat} {xss : List (List Int)} (hS : Shots R C xss) (r c : Nat) : 0 ≤ cellN xss r c ∧ cellN xss r c ≤ 1 := by
  by_cases h : r < xss.length
  · by_cases h' : c < xss[r].length
    · rw [cellN_at h h']; exact (hS.2 r h).2 c h'
    · unfold cellN
      simp [List.getD, List.getElem?_eq_getElem h, List.getElem?_eq_none (Nat.le_of_not_lt h')]
  · unfold cellN
    simp [List.getD, List.getElem?_eq_none (Nat.le_of_not_lt h)]
theorem cellN_out {R C : Nat} {xss : List (List Int)} (hS : Shots R C xss) {r c : Nat} (h : R ≤ r ∨ C ≤ c) : cellN xss r c = 0 := by
  by_cases h1 : r < xss.length
  · have h2 : xss[r].length ≤ c := by
      have := (hS.2 r h1).1
      have := hS.1
      rcases h with h | h <;> omega
    unfold cellN
    simp [List.getD, List.getElem?_eq_getElem h1, List.getElem?_eq_none h2]
  · unfold cellN
    simp [List.getD, List.getElem?_eq_none (Nat.le_of_not_lt h1)]
theorem sumT_grid {R C : Nat} {xss : List (List Int)} (hS : Shots R C xss) (hR : R ≤ 6) (hC : C ≤ 6) (T : Nat → Nat → Bool) : sumT xss T ≤ gridN xss R C := by
  have h1 : sumT xss T ≤ gridN xss 6 6 := by
    unfold sumT gridN
    refine sumN_le fun r hr => sumN_le fun c hc => ?_
    have := cellN_rng hS r c
    split <;> omega
  have h2 : gridN xss 6 6 = gridN xss R C := by
    unfold gridN
    have e : ∀ r, sumN (fun c => cellN xss r c) 6 = sumN (fun c => cellN xss r c) C := fun r => by
      have := sumN_ext (f := fun c => cellN xss r c) (n := C) (6 - C) (fun k h1 h2 => cellN_out hS (.inr h1))
      rw [← this, show C + (6 - C) = 6 by omega]
    rw [sumN_same (fun r _ => e r)]
    have := sumN_ext (f := fun r => sumN (fun c => cellN xss r c) C) (n := R) (6 - R) (fun k h1 h2 => by
      have : sumN (fun c => cellN xss k c) C = sumN (fun _ => (0 : Int)) C := sumN_same fun c hc => cellN_out hS (.inl h1)
      rw [this, sumN_zero])
    rw [← this, show R + (6 - R) = 6 by omega]
  omega

end Go.Proofs.Ytpeogghiboaceaa
