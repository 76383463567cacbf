/- Codes: answers, fitting codes, worst lots, the next guess, games. Plain: no program is walked here. -/
import Derived.Test.YtkjdlpbfalojdaaCodesMath
namespace Go.Proofs.Ytkjdlpbfalojdaa
set_option linter.unusedVariables false

/-- A guess, with its answer. -/
structure Gs where
  code : List Int
  right : Int
  near : Int

/-- The sum of f below c. -/
def sumN (f : Nat → Nat) : Nat → Nat
  | 0 => 0
  | c + 1 => sumN f c + f c
theorem sumN_le {f g : Nat → Nat} : ∀ {c : Nat}, (∀ i, i < c → f i ≤ g i) → sumN f c ≤ sumN g c
  | 0, _ => Nat.le_refl _
  | c + 1, h => Nat.add_le_add (sumN_le fun i hi => h i (by omega)) (h c (by omega))
theorem sumN_one {f g : Nat → Nat} {a : Nat} : ∀ {c : Nat}, (∀ i, i < c → f i + (if i = a then 1 else 0) ≤ g i) → a < c → sumN f c + 1 ≤ sumN g c
  | 0, _, h => by omega
  | c + 1, h, ha => by
    have h1 := h c (by omega)
    by_cases e : c = a
    · have : sumN f c ≤ sumN g c := sumN_le fun i hi => by have := h i (by omega); rw [if_neg (by omega)] at this; omega
      rw [if_pos e] at h1
      simp only [sumN]; omega
    · have := sumN_one (c := c) (fun i hi => h i (by omega)) (by omega)
      rw [if_neg e] at h1
      simp only [sumN]; omega
theorem sumN_up {f g : Nat → Nat} {a : Nat} : ∀ {c : Nat}, (∀ i, i < c → g i ≤ f i + (if i = a then 1 else 0)) → sumN g c ≤ sumN f c + 1
  | 0, _ => by simp [sumN]
  | c + 1, h => by
    have h1 := h c (by omega)
    by_cases e : c = a
    · have : sumN g c ≤ sumN f c := sumN_le fun i hi => by have := h i (by omega); rw [if_neg (by omega)] at this; omega
      rw [if_pos e] at h1
      simp only [sumN]; omega
    · have := sumN_up (c := c) (fun i hi => h i (by omega))
      rw [if_neg e] at h1
      simp only [sumN]; omega
theorem both_sum (x y : List Int) : ∀ c, bothN x y c = sumN (fun i => min (cntC x i) (cntC y i)) c
  | 0 => rfl
  | c + 1 => by rw [bothN, both_sum x y c]; rfl
theorem cnt_cons (a : Int) (x : List Int) (i : Nat) : cntC (a :: x) i = cntC x i + if (i : Int) = a then 1 else 0 := by
  unfold cntC
  rw [List.count_cons]
  by_cases e : (i : Int) = a
  · simp [e]
  · rw [if_neg e, if_neg (by simp; exact fun h => e h.symm)]
theorem right_cons (a b : Int) (x y : List Int) : ∀ k, rightN (a :: x) (b :: y) (k + 1) = rightN x y k + if a = b then 1 else 0
  | 0 => by simp [rightN]
  | k + 1 => by
    rw [rightN, right_cons a b x y k, rightN]
    simp only [List.getD_cons_succ]
    omega
theorem right_both {c : Nat} : ∀ {x y : List Int}, x.length = y.length → (∀ z ∈ x, 0 ≤ z ∧ z < c) → rightN x y x.length ≤ bothN x y c
  | [], y, _, _ => by simp [rightN]
  | a :: x, [], h, _ => by simp at h
  | a :: x, b :: y, h, hx => by
    have ih := right_both (c := c) (x := x) (y := y) (by simpa using h) (fun z hz => hx z (by simp [hz]))
    have ha := hx a (by simp)
    rw [both_sum] at ih ⊢
    rw [List.length_cons, right_cons]
    by_cases e : a = b
    · subst e
      rw [if_pos rfl]
      have := sumN_one (f := fun i => min (cntC x i) (cntC y i)) (g := fun i => min (cntC (a :: x) i) (cntC (a :: y) i)) (a := a.toNat) (c := c) (fun i hi => by
        simp only [cnt_cons]
        by_cases e : i = a.toNat
        · rw [if_pos e, if_pos (by omega)]; omega
        · rw [if_neg e, if_neg (by omega)]; omega) (by omega)
      omega
    · rw [if_neg e]
      have : sumN (fun i => min (cntC x i) (cntC y i)) c ≤ sumN (fun i => min (cntC (a :: x) i) (cntC (b :: y) i)) c := sumN_le fun i hi => by
        simp only [cnt_cons]; omega
      omega
theorem both_len {y : List Int} {c : Nat} : ∀ {x : List Int}, bothN x y c ≤ x.length
  | [] => by
    rw [both_sum]
    have : sumN (fun i => min (cntC [] i) (cntC y i)) c ≤ sumN (fun _ => 0) c := sumN_le fun i _ => by simp [cntC]
    have h0 : ∀ c, sumN (fun _ => 0) c = 0 := fun c => by induction c with | zero => rfl | succ c ih => simp [sumN, ih]
    rw [h0] at this
    simpa using this
  | a :: x => by
    have ih := both_len (c := c) (y := y) (x := x)
    rw [both_sum] at ih ⊢
    have := sumN_up (f := fun i => min (cntC x i) (cntC y i)) (g := fun i => min (cntC (a :: x) i) (cntC y i)) (a := a.toNat) (c := c) (fun i hi => by
      simp only [cnt_cons]
      by_cases e : (i : Int) = a
      · rw [if_pos e, if_pos (by omega)]; omega
      · rw [if_neg e]; omega)
    simp only [List.length_cons]
    omega
theorem right_self (x : List Int) : ∀ k, rightN x x k = k
  | 0 => rfl
  | k + 1 => by simp [rightN, right_self x k]
theorem right_le (x y : List Int) : ∀ k, rightN x y k ≤ k
  | 0 => Nat.le_refl _
  | k + 1 => by have := right_le x y k; simp only [rightN]; split <;> omega
theorem right_eq {x y : List Int} : ∀ k, rightN x y k = k → ∀ i, i < k → x.getD i 0 = y.getD i 0
  | 0, _, i, hi => by omega
  | k + 1, h, i, hi => by
    have hl := right_le x y k
    simp only [rightN] at h
    by_cases e : x.getD k 0 = y.getD k 0
    · rw [if_pos e] at h
      by_cases e2 : i = k
      · rw [e2]; exact e
      · exact right_eq k (by omega) i (by omega)
    · rw [if_neg e] at h; omega

def rightZ (x y : List Int) : Int := (rightN x y x.length : Nat)
def nearZ (x y : List Int) : Int := (bothN x y 5 : Nat) - (rightN x y x.length : Nat)
def ansZ (x y : List Int) : Int × Int := (rightZ x y, nearZ x y)

def codesB (p c : Int) : Bool := decide ((1 ≤ p ∧ p ≤ 3) ∧ 1 ≤ c ∧ c ≤ 5)
def inRow (c : Int) (x : List Int) : Bool := x.all fun y => decide (0 ≤ y ∧ y ≤ c - 1)
def codeOkB (p c : Int) (x : List Int) : Bool := codesB p c && (decide ((x.length : Int) = p) && inRow c x)
def codesP (p c : Int) : Prop := (1 ≤ p ∧ p ≤ 3) ∧ 1 ≤ c ∧ c ≤ 5
theorem codesB_iff {p c : Int} : codesB p c = true ↔ codesP p c := by unfold codesB codesP; simp
def CodeP (p c : Int) (x : List Int) : Prop := codesP p c ∧ (x.length : Int) = p ∧ ∀ y ∈ x, 0 ≤ y ∧ y ≤ c - 1
theorem codeOkB_iff {p c : Int} {x : List Int} : codeOkB p c x = true ↔ CodeP p c x := by
  unfold codeOkB CodeP inRow
  rw [Bool.and_eq_true, Bool.and_eq_true, codesB_iff, List.all_eq_true]
  simp

theorem ans_bounds {p c : Int} {x y : List Int} (hx : CodeP p c x) (hy : CodeP p c y) : 0 ≤ rightZ x y ∧ rightZ x y ≤ p ∧ 0 ≤ nearZ x y ∧ nearZ x y ≤ p := by
  obtain ⟨⟨_, h1, h2⟩, h3, h4⟩ := hx
  obtain ⟨_, h5, h6⟩ := hy
  have a := right_both (c := 5) (x := x) (y := y) (by omega) (fun z hz => by have := h4 z hz; omega)
  have b := both_len (y := y) (c := 5) (x := x)
  unfold rightZ nearZ
  omega
theorem both_five {p c : Int} {x y : List Int} (hx : CodeP p c x) : bothN x y 5 = bothN x y c.toNat := by
  obtain ⟨⟨_, h1, h2⟩, h3, h4⟩ := hx
  have := both_more (x := x) (y := y) (c := c.toNat) (fun z hz => by have := h4 z hz; omega) (5 - c.toNat)
  rw [← this]; congr 1; omega
theorem ans_self {p c : Int} {x y : List Int} (hx : CodeP p c x) (hy : CodeP p c y) : rightZ x y = p ↔ x = y := by
  constructor
  · intro h
    unfold rightZ at h
    have e : rightN x y x.length = x.length := by have := hx.2.1; omega
    have hl : x.length = y.length := by have := hx.2.1; have := hy.2.1; omega
    refine List.ext_getElem hl fun i h1 h2 => ?_
    have := right_eq _ e i h1
    simpa [List.getD, List.getElem?_eq_getElem h1, List.getElem?_eq_getElem h2] using this
  · rintro rfl
    unfold rightZ
    rw [right_self]; exact hx.2.1

def fitsB (x : List Int) (gs : List Gs) : Bool := gs.all fun g => decide (rightZ x g.code = g.right ∧ nearZ x g.code = g.near)
def guessOkB (p c : Int) (g : Gs) : Bool := codeOkB p c g.code && decide (0 ≤ g.right ∧ 0 ≤ g.near)
def guessesB (p c : Int) (gs : List Gs) : Bool := codesB p c && (decide (gs.length ≤ 9) && gs.all (guessOkB p c))
def allP (p c : Int) : List (List Int) := allL c.toNat p.toNat
theorem allP_mem {p c : Int} (h : codesP p c) {x : List Int} : x ∈ allP p c ↔ CodeP p c x := by
  obtain ⟨⟨h0, h1⟩, h2, h3⟩ := h
  constructor
  · intro hx
    obtain ⟨h4, h5⟩ := allL_row hx
    exact ⟨⟨⟨h0, h1⟩, h2, h3⟩, by omega, fun y hy => by have := h5 y hy; omega⟩
  · rintro ⟨_, h4, h5⟩
    exact allL_mem (by omega) (fun y hy => by have := h5 y hy; omega)
def fitL (p c : Int) (gs : List Gs) : List (List Int) := if guessesB p c gs = true then (allP p c).filter (fun x => fitsB x gs) else []
theorem fitL_mem {p c : Int} {gs : List Gs} {x : List Int} : x ∈ fitL p c gs ↔ guessesB p c gs = true ∧ CodeP p c x ∧ fitsB x gs = true := by
  unfold fitL
  split
  · rename_i h
    have hc : codesP p c := by unfold guessesB at h; rw [Bool.and_eq_true] at h; exact codesB_iff.1 h.1
    rw [List.mem_filter, allP_mem hc]
    simp [h]
  · rename_i h
    simp [h]
theorem allL_length (c : Nat) : ∀ k, (allL c k).length = c ^ k
  | 0 => rfl
  | k + 1 => by
    rw [allL, Nat.pow_succ, ← allL_length c k]
    induction allL c k with
    | nil => simp
    | cons a r ih => rw [List.flatMap_cons, List.length_append, ih, List.length_map, List.length_range, List.length_cons, Nat.succ_mul]; omega
theorem fitL_len (p c : Int) (gs : List Gs) : (fitL p c gs).length ≤ 125 := by
  unfold fitL
  split
  · rename_i h
    have hc : codesP p c := by unfold guessesB at h; rw [Bool.and_eq_true] at h; exact codesB_iff.1 h.1
    refine Nat.le_trans (List.length_filter_le _ _) ?_
    unfold allP
    rw [allL_length]
    obtain ⟨⟨h0, h1⟩, h2, h3⟩ := hc
    have : c.toNat ^ p.toNat ≤ 5 ^ p.toNat := Nat.pow_le_pow_left (by omega) _
    have : 5 ^ p.toNat ≤ 5 ^ 3 := Nat.pow_le_pow_right (by omega) (by omega)
    omega
  · simp

/-- How great the greatest lot of the first k answers is. -/
def worstK (ws : List (Int × Int)) : Nat → Nat
  | 0 => 0
  | k + 1 => max (worstK ws k) ((ws.take (k + 1)).count (ws.getD k (0, 0)))
def worstN (left : List (List Int)) (g : List Int) : Nat := worstK (left.map fun x => ansZ x g) left.length
theorem worstK_le (ws : List (Int × Int)) : ∀ k, worstK ws k ≤ k
  | 0 => Nat.le_refl _
  | k + 1 => by
    have := worstK_le ws k
    have h2 : (ws.take (k + 1)).count (ws.getD k (0, 0)) ≤ k + 1 := Nat.le_trans List.count_le_length (by simp; omega)
    simp only [worstK]; omega
theorem worstN_le (left : List (List Int)) (g : List Int) : worstN left g ≤ left.length := worstK_le _ _
theorem worstK_pos (ws : List (Int × Int)) (k : Nat) (h : k < ws.length) : 0 < worstK ws (k + 1) := by
  have : 0 < (ws.take (k + 1)).count (ws.getD k (0, 0)) := by
    rw [List.count_pos_iff]
    rw [List.getD, List.getElem?_eq_getElem h]
    simp only [Option.getD_some]
    exact List.mem_take_iff_getElem.2 ⟨k, by omega, rfl⟩
  simp only [worstK]; omega

/-- The best guess of the first k ones, and its worst lot; -1 if there is none. -/
def bestK (left : List (List Int)) : Nat → List Int × Int
  | 0 => ([], -1)
  | k + 1 => if (bestK left k).2 < 0 ∨ (worstN left (left.getD k []) : Int) < (bestK left k).2 then (left.getD k [], (worstN left (left.getD k []) : Int)) else bestK left k
def nextL (left : List (List Int)) : List Int := (bestK left left.length).1
theorem bestK_pos (left : List (List Int)) : ∀ k, 0 < k → 0 ≤ (bestK left k).2
  | 0, h => by omega
  | k + 1, _ => by
    simp only [bestK]
    split
    · simp
    · rename_i h; omega
theorem bestK_mem (left : List (List Int)) : ∀ k, 0 < k → k ≤ left.length → (bestK left k).1 ∈ left ∧ (bestK left k).2 = worstN left (bestK left k).1
  | 0, h, _ => by omega
  | k + 1, _, hk => by
    have hm : left.getD k [] ∈ left := by
      rw [List.getD, List.getElem?_eq_getElem (by omega : k < left.length)]
      exact List.getElem_mem _
    by_cases h : (bestK left k).2 < 0 ∨ (worstN left (left.getD k []) : Int) < (bestK left k).2
    · simp only [bestK]
      rw [if_pos h]
      exact ⟨hm, rfl⟩
    · simp only [bestK]
      rw [if_neg h]
      by_cases h0 : k = 0
      · subst h0; simp [bestK] at h
      · exact bestK_mem left k (by omega) (by omega)
theorem bestK_least (left : List (List Int)) : ∀ k, k ≤ left.length → ∀ i, i < k → (bestK left k).2 ≤ worstN left (left.getD i [])
  | 0, _, i, h => by omega
  | k + 1, hk, i, hi => by
    by_cases h : (bestK left k).2 < 0 ∨ (worstN left (left.getD k []) : Int) < (bestK left k).2
    · simp only [bestK]
      rw [if_pos h]
      by_cases e : i = k
      · subst e; exact Int.le_refl _
      · have := bestK_least left k (by omega) i (by omega)
        have := bestK_pos left k (by omega)
        omega
    · simp only [bestK]
      rw [if_neg h]
      by_cases e : i = k
      · subst e; omega
      · exact bestK_least left k (by omega) i (by omega)
theorem nextL_mem {left : List (List Int)} (h : 0 < left.length) : nextL left ∈ left := (bestK_mem left _ h (Nat.le_refl _)).1
theorem bestK_one (left : List (List Int)) : bestK left 1 = (left.getD 0 [], (worstN left (left.getD 0 []) : Int)) := by simp [bestK]

/-- A game: what is guessed behind what has been. -/
def stepG (p c : Int) (x : List Int) (out : List Gs) : Gs := ⟨nextL (fitL p c out), rightZ x (nextL (fitL p c out)), nearZ x (nextL (fitL p c out))⟩
def gameK (p c : Int) (x : List Int) : Nat → List Gs → List Gs
  | 0, out => out
  | f + 1, out => if (stepG p c x out).right = p then out ++ [stepG p c x out] else gameK p c x f (out ++ [stepG p c x out])
def gameL (p c : Int) (x : List Int) : List Gs := if codeOkB p c x = true then gameK p c x 9 [] else []
def GameInv (p c : Int) (x : List Int) (out : List Gs) : Prop := (∀ g ∈ out, guessOkB p c g = true) ∧ fitsB x out = true
theorem GameInv.start (p c : Int) (x : List Int) : GameInv p c x [] := ⟨by simp, by simp [fitsB]⟩
theorem GameInv.fit {p c : Int} {x : List Int} {out : List Gs} (h : GameInv p c x out) (hx : CodeP p c x) (hl : out.length ≤ 9) : x ∈ fitL p c out := by
  rw [fitL_mem]
  refine ⟨?_, hx, h.2⟩
  unfold guessesB
  rw [codesB_iff.2 hx.1, decide_eq_true hl]
  simpa using h.1
theorem GameInv.next {p c : Int} {x : List Int} {out : List Gs} (h : GameInv p c x out) (hx : CodeP p c x) (hl : out.length ≤ 9) : nextL (fitL p c out) ∈ fitL p c out ∧ CodeP p c (nextL (fitL p c out)) := by
  have h1 := h.fit hx hl
  have h2 := nextL_mem (List.length_pos_of_mem h1)
  exact ⟨h2, (fitL_mem.1 h2).2.1⟩
theorem GameInv.step {p c : Int} {x : List Int} {out : List Gs} (h : GameInv p c x out) (hx : CodeP p c x) (hl : out.length ≤ 9) : GameInv p c x (out ++ [stepG p c x out]) := by
  have h1 := (h.next hx hl).2
  have h2 := ans_bounds hx h1
  constructor
  · intro g hg
    rcases List.mem_append.1 hg with hg | hg
    · exact h.1 g hg
    · simp only [List.mem_singleton] at hg
      subst hg
      unfold guessOkB stepG
      rw [codeOkB_iff.2 h1]
      simp only [Bool.true_and, decide_eq_true_eq]
      exact ⟨h2.1, h2.2.2.1⟩
  · unfold fitsB
    rw [List.all_append, Bool.and_eq_true]
    refine ⟨h.2, ?_⟩
    simp [stepG]
end Go.Proofs.Ytkjdlpbfalojdaa
