/- Codes: all rows of numbers in both orders of making; answers. Plain: no program is walked here. -/
import Derived.Test.YtenlngclocfnlaaGreatDoorRows
import Derived.Test.YtenlngclocfnlaaGreatDoorBunA
/- Codes: all rows of numbers in both orders of making; answers. Plain: no program is walked here. -/
namespace Go.Proofs.YtenlngclocfnlaaGreatDoor
set_option linter.unusedVariables false

/-- All rows of k numbers less than c, as the reference makes them: a number more behind. -/
def allL (c : Nat) : Nat → List (List Int)
  | 0 => [[]]
  | k + 1 => (allL c k).flatMap fun x => (List.range c).map fun (n : Nat) => x ++ [(n : Int)]
/-- .. as the program makes them: behind a beginning. -/
def fillL (c : Nat) (pre : List Int) : Nat → List (List Int)
  | 0 => [pre]
  | k + 1 => (List.range c).flatMap fun (n : Nat) => fillL c (pre ++ [(n : Int)]) k
theorem allL_front (c : Nat) : ∀ k, allL c (k + 1) = (List.range c).flatMap fun (n : Nat) => (allL c k).map fun x => (n : Int) :: x
  | 0 => by
    simp only [allL, List.flatMap_cons, List.flatMap_nil, List.append_nil, List.nil_append, List.map_cons, List.map_nil]
    induction (List.range c) with
    | nil => rfl
    | cons n r ih => simp [List.flatMap_cons, ih]
  | k + 1 => by
    have e : allL c (k + 1 + 1) = (allL c (k + 1)).flatMap fun x => (List.range c).map fun (n : Nat) => x ++ [(n : Int)] := rfl
    have ih := allL_front c k
    have e2 : allL c (k + 1 + 1) = ((List.range c).flatMap fun (n : Nat) => (allL c k).map fun x => (n : Int) :: x).flatMap fun x => (List.range c).map fun (n : Nat) => x ++ [(n : Int)] := by rw [e, ih]
    rw [e2, List.flatMap_assoc]
    congr 1
    funext n
    have e3 : allL c (k + 1) = (allL c k).flatMap fun x => (List.range c).map fun (n : Nat) => x ++ [(n : Int)] := rfl
    rw [e3]
    induction allL c k with
    | nil => rfl
    | cons x r ih =>
      simp only [List.map_cons, List.flatMap_cons, List.map_append, ih, List.map_map]
      rfl
theorem fill_all (c : Nat) : ∀ k pre, fillL c pre k = (allL c k).map fun x => pre ++ x
  | 0, pre => by simp [fillL, allL]
  | k + 1, pre => by
    rw [fillL, allL_front, List.map_flatMap]
    congr 1
    funext n
    rw [fill_all c k, List.map_map]
    congr 1
    funext x
    simp
theorem fill_nil (c k : Nat) : fillL c [] k = allL c k := by rw [fill_all]; simp
theorem allL_row {c k : Nat} {x : List Int} (h : x ∈ allL c k) : x.length = k ∧ ∀ y ∈ x, 0 ≤ y ∧ y < c := by
  induction k generalizing x with
  | zero => simp [allL] at h; subst h; simp
  | succ k ih =>
    rw [allL, List.mem_flatMap] at h
    obtain ⟨a, ha, h⟩ := h
    obtain ⟨n, hn, rfl⟩ := List.mem_map.1 h
    have := ih ha
    refine ⟨by simp [this.1], fun y hy => ?_⟩
    rcases List.mem_append.1 hy with hy | hy
    · exact this.2 y hy
    · simp at hy hn; omega
theorem allL_mem {c k : Nat} {x : List Int} (hl : x.length = k) (hx : ∀ y ∈ x, 0 ≤ y ∧ y < c) : x ∈ allL c k := by
  induction k generalizing x with
  | zero => rw [List.length_eq_zero_iff] at hl; subst hl; simp [allL]
  | succ k ih =>
    cases x with
    | nil => simp at hl
    | cons a r =>
      rw [allL_front, List.mem_flatMap]
      have ha := hx a (by simp)
      refine ⟨a.toNat, by simp; omega, List.mem_map.2 ⟨r, ih (by simpa using hl) (fun y hy => hx y (by simp [hy])), ?_⟩⟩
      congr 1
      omega

/-- How many places of a row hold a number. -/
def cntC (x : List Int) (c : Int) : Nat := x.count c
/-- How many places of two rows are alike. -/
def rightN (x y : List Int) : Nat → Nat
  | 0 => 0
  | k + 1 => rightN x y k + if x.getD k 0 = y.getD k 0 then 1 else 0
def bothN (x y : List Int) : Nat → Nat
  | 0 => 0
  | c + 1 => bothN x y c + min (cntC x c) (cntC y c)
theorem both_more {x y : List Int} {c : Nat} (hx : ∀ z ∈ x, 0 ≤ z ∧ z < c) : ∀ d, bothN x y (c + d) = bothN x y c
  | 0 => rfl
  | d + 1 => by
    rw [← Nat.add_assoc, bothN, both_more hx d]
    have : cntC x ((c + d : Nat) : Int) = 0 := by
      unfold cntC
      rw [List.count_eq_zero]
      intro h
      have := hx _ h
      omega
    rw [this]; simp
/-- The answer to a guess for a code. -/
def ansR (c : Nat) (x y : List Int) : Nat × Nat := (rightN x y x.length, bothN x y c - rightN x y x.length)

end Go.Proofs.YtenlngclocfnlaaGreatDoor

/- Codes: answers, fitting codes, worst lots, the next guess, games. Plain: no program is walked here. -/
namespace Go.Proofs.YtenlngclocfnlaaGreatDoor
set_option linter.unusedVariables false

/-- A guess, with its answer. -/
structure Gs where
  code : List Int
  right : Int
  near : Int

/-- The sum of f below c. -/
def sumN (f : Nat → Nat) : Nat → Nat
  | 0 => 0
  | c + 1 => sumN f c + f c
theorem sumN_le {f g : Nat → Nat} : ∀ {c : Nat}, (∀ i, i < c → f i ≤ g i) → sumN f c ≤ sumN g c
  | 0, _ => Nat.le_refl _
  | c + 1, h => Nat.add_le_add (sumN_le fun i hi => h i (by omega)) (h c (by omega))
theorem sumN_one {f g : Nat → Nat} {a : Nat} : ∀ {c : Nat}, (∀ i, i < c → f i + (if i = a then 1 else 0) ≤ g i) → a < c → sumN f c + 1 ≤ sumN g c
  | 0, _, h => by omega
  | c + 1, h, ha => by
    have h1 := h c (by omega)
    by_cases e : c = a
    · have : sumN f c ≤ sumN g c := sumN_le fun i hi => by have := h i (by omega); rw [if_neg (by omega)] at this; omega
      rw [if_pos e] at h1
      simp only [sumN]; omega
    · have := sumN_one (c := c) (fun i hi => h i (by omega)) (by omega)
      rw [if_neg e] at h1
      simp only [sumN]; omega
theorem sumN_up {f g : Nat → Nat} {a : Nat} : ∀ {c : Nat}, (∀ i, i < c → g i ≤ f i + (if i = a then 1 else 0)) → sumN g c ≤ sumN f c + 1
  | 0, _ => by simp [sumN]
  | c + 1, h => by
    have h1 := h c (by omega)
    by_cases e : c = a
    · have : sumN g c ≤ sumN f c := sumN_le fun i hi => by have := h i (by omega); rw [if_neg (by omega)] at this; omega
      rw [if_pos e] at h1
      simp only [sumN]; omega
    · have := sumN_up (c := c) (fun i hi => h i (by omega))
      rw [if_neg e] at h1
      simp only [sumN]; omega
theorem both_sum (x y : List Int) : ∀ c, bothN x y c = sumN (fun i => min (cntC x i) (cntC y i)) c
  | 0 => rfl
  | c + 1 => by rw [bothN, both_sum x y c]; rfl
theorem cnt_cons (a : Int) (x : List Int) (i : Nat) : cntC (a :: x) i = cntC x i + if (i : Int) = a then 1 else 0 := by
  unfold cntC
  rw [List.count_cons]
  by_cases e : (i : Int) = a
  · simp [e]
  · rw [if_neg e, if_neg (by simp; exact fun h => e h.symm)]
theorem right_cons (a b : Int) (x y : List Int) : ∀ k, rightN (a :: x) (b :: y) (k + 1) = rightN x y k + if a = b then 1 else 0
  | 0 => by simp [rightN]
  | k + 1 => by
    rw [rightN, right_cons a b x y k, rightN]
    simp only [List.getD_cons_succ]
    omega
theorem right_both {c : Nat} : ∀ {x y : List Int}, x.length = y.length → (∀ z ∈ x, 0 ≤ z ∧ z < c) → rightN x y x.length ≤ bothN x y c
  | [], y, _, _ => by simp [rightN]
  | a :: x, [], h, _ => by simp at h
  | a :: x, b :: y, h, hx => by
    have ih := right_both (c := c) (x := x) (y := y) (by simpa using h) (fun z hz => hx z (by simp [hz]))
    have ha := hx a (by simp)
    rw [both_sum] at ih ⊢
    rw [List.length_cons, right_cons]
    by_cases e : a = b
    · subst e
      rw [if_pos rfl]
      have := sumN_one (f := fun i => min (cntC x i) (cntC y i)) (g := fun i => min (cntC (a :: x) i) (cntC (a :: y) i)) (a := a.toNat) (c := c) (fun i hi => by
        simp only [cnt_cons]
        by_cases e : i = a.toNat
        · rw [if_pos e, if_pos (by omega)]; omega
        · rw [if_neg e, if_neg (by omega)]; omega) (by omega)
      omega
    · rw [if_neg e]
      have : sumN (fun i => min (cntC x i) (cntC y i)) c ≤ sumN (fun i => min (cntC (a :: x) i) (cntC (b :: y) i)) c := sumN_le fun i hi => by
        simp only [cnt_cons]; omega
      omega
theorem both_len {y : List Int} {c : Nat} : ∀ {x : List Int}, bothN x y c ≤ x.length
  | [] => by
    rw [both_sum]
    have : sumN (fun i => min (cntC [] i) (cntC y i)) c ≤ sumN (fun _ => 0) c := sumN_le fun i _ => by simp [cntC]
    have h0 : ∀ c, sumN (fun _ => 0) c = 0 := fun c => by induction c with | zero => rfl | succ c ih => simp [sumN, ih]
    rw [h0] at this
    simpa using this
  | a :: x => by
    have ih := both_len (c := c) (y := y) (x := x)
    rw [both_sum] at ih ⊢
    have := sumN_up (f := fun i => min (cntC x i) (cntC y i)) (g := fun i => min (cntC (a :: x) i) (cntC y i)) (a := a.toNat) (c := c) (fun i hi => by
      simp only [cnt_cons]
      by_cases e : (i : Int) = a
      · rw [if_pos e, if_pos (by omega)]; omega
      · rw [if_neg e]; omega)
    simp only [List.length_cons]
    omega
theorem right_self (x : List Int) : ∀ k, rightN x x k = k
  | 0 => rfl
  | k + 1 => by simp [rightN, right_self x k]
theorem right_le (x y : List Int) : ∀ k, rightN x y k ≤ k
  | 0 => Nat.le_refl _
  | k + 1 => by have := right_le x y k; simp only [rightN]; split <;> omega
theorem right_eq {x y : List Int} : ∀ k, rightN x y k = k → ∀ i, i < k → x.getD i 0 = y.getD i 0
  | 0, _, i, hi => by omega
  | k + 1, h, i, hi => by
    have hl := right_le x y k
    simp only [rightN] at h
    by_cases e : x.getD k 0 = y.getD k 0
    · rw [if_pos e] at h
      by_cases e2 : i = k
      · rw [e2]; exact e
      · exact right_eq k (by omega) i (by omega)
    · rw [if_neg e] at h; omega

def rightZ (x y : List Int) : Int := (rightN x y x.length : Nat)
def nearZ (x y : List Int) : Int := (bothN x y 5 : Nat) - (rightN x y x.length : Nat)
def ansZ (x y : List Int) : Int × Int := (rightZ x y, nearZ x y)

def codesB (p c : Int) : Bool := decide ((1 ≤ p ∧ p ≤ 3) ∧ 1 ≤ c ∧ c ≤ 5)
def inRow (c : Int) (x : List Int) : Bool := x.all fun y => decide (0 ≤ y ∧ y ≤ c - 1)
def codeOkB (p c : Int) (x : List Int) : Bool := codesB p c && (decide ((x.length : Int) = p) && inRow c x)
def codesP (p c : Int) : Prop := (1 ≤ p ∧ p ≤ 3) ∧ 1 ≤ c ∧ c ≤ 5
theorem codesB_iff {p c : Int} : codesB p c = true ↔ codesP p c := by unfold codesB codesP; simp
def CodeP (p c : Int) (x : List Int) : Prop := codesP p c ∧ (x.length : Int) = p ∧ ∀ y ∈ x, 0 ≤ y ∧ y ≤ c - 1
theorem codeOkB_iff {p c : Int} {x : List Int} : codeOkB p c x = true ↔ CodeP p c x := by
  unfold codeOkB CodeP inRow
  rw [Bool.and_eq_true, Bool.and_eq_true, codesB_iff, List.all_eq_true]
  simp

theorem ans_bounds {p c : Int} {x y : List Int} (hx : CodeP p c x) (hy : CodeP p c y) : 0 ≤ rightZ x y ∧ rightZ x y ≤ p ∧ 0 ≤ nearZ x y ∧ nearZ x y ≤ p := by
  obtain ⟨⟨_, h1, h2⟩, h3, h4⟩ := hx
  obtain ⟨_, h5, h6⟩ := hy
  have a := right_both (c := 5) (x := x) (y := y) (by omega) (fun z hz => by have := h4 z hz; omega)
  have b := both_len (y := y) (c := 5) (x := x)
  unfold rightZ nearZ
  omega
theorem both_five {p c : Int} {x y : List Int} (hx : CodeP p c x) : bothN x y 5 = bothN x y c.toNat := by
  obtain ⟨⟨_, h1, h2⟩, h3, h4⟩ := hx
  have := both_more (x := x) (y := y) (c := c.toNat) (fun z hz => by have := h4 z hz; omega) (5 - c.toNat)
  rw [← this]; congr 1; omega
theorem ans_self {p c : Int} {x y : List Int} (hx : CodeP p c x) (hy : CodeP p c y) : rightZ x y = p ↔ x = y := by
  constructor
  · intro h
    unfold rightZ at h
    have e : rightN x y x.length = x.length := by have := hx.2.1; omega
    have hl : x.length = y.length := by have := hx.2.1; have := hy.2.1; omega
    refine List.ext_getElem hl fun i h1 h2 => ?_
    have := right_eq _ e i h1
    simpa [List.getD, List.getElem?_eq_getElem h1, List.getElem?_eq_getElem h2] using this
  · rintro rfl
    unfold rightZ
    rw [right_self]; exact hx.2.1

def fitsB (x : List Int) (gs : List Gs) : Bool := gs.all fun g => decide (rightZ x g.code = g.right ∧ nearZ x g.code = g.near)
def guessOkB (p c : Int) (g : Gs) : Bool := codeOkB p c g.code && decide (0 ≤ g.right ∧ 0 ≤ g.near)
def guessesB (p c : Int) (gs : List Gs) : Bool := codesB p c && (decide (gs.length ≤ 9) && gs.all (guessOkB p c))
def allP (p c : Int) : List (List Int) := allL c.toNat p.toNat
theorem allP_mem {p c : Int} (h : codesP p c) {x : List Int} : x ∈ allP p c ↔ CodeP p c x := by
  obtain ⟨⟨h0, h1⟩, h2, h3⟩ := h
  constructor
  · intro hx
    obtain ⟨h4, h5⟩ := allL_row hx
    exact ⟨⟨⟨h0, h1⟩, h2, h3⟩, by omega, fun y hy => by have := h5 y hy; omega⟩
  · rintro ⟨_, h4, h5⟩
    exact allL_mem (by omega) (fun y hy => by have := h5 y hy; omega)
def fitL (p c : Int) (gs : List Gs) : List (List Int) := if guessesB p c gs = true then (allP p c).filter (fun x => fitsB x gs) else []
theorem fitL_mem {p c : Int} {gs : List Gs} {x : List Int} : x ∈ fitL p c gs ↔ guessesB p c gs = true ∧ CodeP p c x ∧ fitsB x gs = true := by
  unfold fitL
  split
  · rename_i h
    have hc : codesP p c := by unfold guessesB at h; rw [Bool.and_eq_true] at h; exact codesB_iff.1 h.1
    rw [List.mem_filter, allP_mem hc]
    simp [h]
  · rename_i h
    simp [h]
theorem allL_length (c : Nat) : ∀ k, (allL c k).length = c ^ k
  | 0 => rfl
  | k + 1 => by
    rw [allL, Nat.pow_succ, ← allL_length c k]
    induction allL c k with
    | nil => simp
    | cons a r ih => rw [List.flatMap_cons, List.length_append, ih, List.length_map, List.length_range, List.length_cons, Nat.succ_mul]; omega
theorem fitL_len (p c : Int) (gs : List Gs) : (fitL p c gs).length ≤ 125 := by
  unfold fitL
  split
  · rename_i h
    have hc : codesP p c := by unfold guessesB at h; rw [Bool.and_eq_true] at h; exact codesB_iff.1 h.1
    refine Nat.le_trans (List.length_filter_le _ _) ?_
    unfold allP
    rw [allL_length]
    obtain ⟨⟨h0, h1⟩, h2, h3⟩ := hc
    have : c.toNat ^ p.toNat ≤ 5 ^ p.toNat := Nat.pow_le_pow_left (by omega) _
    have : 5 ^ p.toNat ≤ 5 ^ 3 := Nat.pow_le_pow_right (by omega) (by omega)
    omega
  · simp

/-- How great the greatest lot of the first k answers is. -/
def worstK (ws : List (Int × Int)) : Nat → Nat
  | 0 => 0
  | k + 1 => max (worstK ws k) ((ws.take (k + 1)).count (ws.getD k (0, 0)))
def worstN (left : List (List Int)) (g : List Int) : Nat := worstK (left.map fun x => ansZ x g) left.length
theorem worstK_le (ws : List (Int × Int)) : ∀ k, worstK ws k ≤ k
  | 0 => Nat.le_refl _
  | k + 1 => by
    have := worstK_le ws k
    have h2 : (ws.take (k + 1)).count (ws.getD k (0, 0)) ≤ k + 1 := Nat.le_trans List.count_le_length (by simp; omega)
    simp only [worstK]; omega
theorem worstN_le (left : List (List Int)) (g : List Int) : worstN left g ≤ left.length := worstK_le _ _
theorem worstK_pos (ws : List (Int × Int)) (k : Nat) (h : k < ws.length) : 0 < worstK ws (k + 1) := by
  have : 0 < (ws.take (k + 1)).count (ws.getD k (0, 0)) := by
    rw [List.count_pos_iff]
    rw [List.getD, List.getElem?_eq_getElem h]
    simp only [Option.getD_some]
    exact List.mem_take_iff_getElem.2 ⟨k, by omega, rfl⟩
  simp only [worstK]; omega

/-- The best guess of the first k ones, and its worst lot; -1 if there is none. -/
def bestK (left : List (List Int)) : Nat → List Int × Int
  | 0 => ([], -1)
  | k + 1 => if (bestK left k).2 < 0 ∨ (worstN left (left.getD k []) : Int) < (bestK left k).2 then (left.getD k [], (worstN left (left.getD k []) : Int)) else bestK left k
def nextL (left : List (List Int)) : List Int := (bestK left left.length).1
theorem bestK_pos (left : List (List Int)) : ∀ k, 0 < k → 0 ≤ (bestK left k).2
  | 0, h => by omega
  | k + 1, _ => by
    simp only [bestK]
    split
    · simp
    · rename_i h; omega
theorem bestK_mem (left : List (List Int)) : ∀ k, 0 < k → k ≤ left.length → (bestK left k).1 ∈ left ∧ (bestK left k).2 = worstN left (bestK left k).1
  | 0, h, _ => by omega
  | k + 1, _, hk => by
    have hm : left.getD k [] ∈ left := by
      rw [List.getD, List.getElem?_eq_getElem (by omega : k < left.length)]
      exact List.getElem_mem _
    by_cases h : (bestK left k).2 < 0 ∨ (worstN left (left.getD k []) : Int) < (bestK left k).2
    · simp only [bestK]
      rw [if_pos h]
      exact ⟨hm, rfl⟩
    · simp only [bestK]
      rw [if_neg h]
      by_cases h0 : k = 0
      · subst h0; simp [bestK] at h
      · exact bestK_mem left k (by omega) (by omega)
theorem bestK_least (left : List (List Int)) : ∀ k, k ≤ left.length → ∀ i, i < k → (bestK left k).2 ≤ worstN left (left.getD i [])
  | 0, _, i, h => by omega
  | k + 1, hk, i, hi => by
    by_cases h : (bestK left k).2 < 0 ∨ (worstN left (left.getD k []) : Int) < (bestK left k).2
    · simp only [bestK]
      rw [if_pos h]
      by_cases e : i = k
      · subst e; exact Int.le_refl _
      · have := bestK_least left k (by omega) i (by omega)
        have := bestK_pos left k (by omega)
        omega
    · simp only [bestK]
      rw [if_neg h]
      by_cases e : i = k
      · subst e; omega
      · exact bestK_least left k (by omega) i (by omega)
theorem nextL_mem {left : List (List Int)} (h : 0 < left.length) : nextL left ∈ left := (bestK_mem left _ h (Nat.le_refl _)).1
theorem bestK_one (left : List (List Int)) : bestK left 1 = (left.getD 0 [], (worstN left (left.getD 0 []) : Int)) := by simp [bestK]

/-- A game: what is guessed behind what has been. -/
def stepG (p c : Int) (x : List Int) (out : List Gs) : Gs := ⟨nextL (fitL p c out), rightZ x (nextL (fitL p c out)), nearZ x (nextL (fitL p c out))⟩
def gameK (p c : Int) (x : List Int) : Nat → List Gs → List Gs
  | 0, out => out
  | f + 1, out => if (stepG p c x out).right = p then out ++ [stepG p c x out] else gameK p c x f (out ++ [stepG p c x out])
def gameL (p c : Int) (x : List Int) : List Gs := if codeOkB p c x = true then gameK p c x 9 [] else []
def GameInv (p c : Int) (x : List Int) (out : List Gs) : Prop := (∀ g ∈ out, guessOkB p c g = true) ∧ fitsB x out = true
theorem GameInv.start (p c : Int) (x : List Int) : GameInv p c x [] := ⟨by simp, by simp [fitsB]⟩
theorem GameInv.fit {p c : Int} {x : List Int} {out : List Gs} (h : GameInv p c x out) (hx : CodeP p c x) (hl : out.length ≤ 9) : x ∈ fitL p c out := by
  rw [fitL_mem]
  refine ⟨?_, hx, h.2⟩
  unfold guessesB
  rw [codesB_iff.2 hx.1, decide_eq_true hl]
  simpa using h.1
theorem GameInv.next {p c : Int} {x : List Int} {out : List Gs} (h : GameInv p c x out) (hx : CodeP p c x) (hl : out.length ≤ 9) : nextL (fitL p c out) ∈ fitL p c out ∧ CodeP p c (nextL (fitL p c out)) := by
  have h1 := h.fit hx hl
  have h2 := nextL_mem (List.length_pos_of_mem h1)
  exact ⟨h2, (fitL_mem.1 h2).2.1⟩
theorem GameInv.step {p c : Int} {x : List Int} {out : List Gs} (h : GameInv p c x out) (hx : CodeP p c x) (hl : out.length ≤ 9) : GameInv p c x (out ++ [stepG p c x out]) := by
  have h1 := (h.next hx hl).2
  have h2 := ans_bounds hx h1
  constructor
  · intro g hg
    rcases List.mem_append.1 hg with hg | hg
    · exact h.1 g hg
    · simp only [List.mem_singleton] at hg
      subst hg
      unfold guessOkB stepG
      rw [codeOkB_iff.2 h1]
      simp only [Bool.true_and, decide_eq_true_eq]
      exact ⟨h2.1, h2.2.2.1⟩
  · unfold fitsB
    rw [List.all_append, Bool.and_eq_true]
    refine ⟨h.2, ?_⟩
    simp [stepG]
end Go.Proofs.YtenlngclocfnlaaGreatDoor

/- The reference's CodeOk and AnswerTo. -/
namespace Go.Proofs.YtenlngclocfnlaaGreatDoor
open Go.RowKit
set_option linter.unusedVariables false
set_option maxRecDepth 100000

theorem l1In_yes (n lo hi : Int) (w : World) (h : lo ≤ n ∧ n ≤ hi) :
    Calls Tryz.prog 88 #[.int .i64 n, .int .i64 lo, .int .i64 hi] w fun e w' => e = .returned (.bool true) ∧ w = w' := by
  have q := l1In_any n lo hi w
  rw [show inB n lo hi = true from decide_eq_true h] at q
  exact q
theorem l1In_no (n lo hi : Int) (w : World) (h : ¬ (lo ≤ n ∧ n ≤ hi)) :
    Calls Tryz.prog 88 #[.int .i64 n, .int .i64 lo, .int .i64 hi] w fun e w' => e = .returned (.bool false) ∧ w = w' := by
  have q := l1In_any n lo hi w
  rw [show inB n lo hi = false from decide_eq_false h] at q
  exact q

theorem codesB_no {p c : Int} (h : ¬ codesP p c) (xs : List Int) : codeOkB p c xs = false := by
  unfold codeOkB
  rw [show codesB p c = false from by rw [← Bool.not_eq_true, codesB_iff]; exact h]
  rfl
theorem codeOkB_row {p c : Int} (h : codesP p c) (xs : List Int) (hx : ∀ y ∈ xs, 0 ≤ y ∧ y ≤ c - 1) : codeOkB p c xs = ((xs.length : Int) == p) := by
  unfold codeOkB inRow
  rw [codesB_iff.2 h, List.all_eq_true.2 (fun y hy => decide_eq_true (hx y hy))]
  simp only [Bool.true_and, Bool.and_true]
  by_cases e : (xs.length : Int) = p <;> simp [e]
theorem codeOkB_bad {p c : Int} {xs : List Int} {k : Nat} (hk : k < xs.length) (h : ¬ (0 ≤ xs[k] ∧ xs[k] ≤ c - 1)) : codeOkB p c xs = false := by
  rw [← Bool.not_eq_true, codeOkB_iff]
  exact fun q => h (q.2.2 _ (List.getElem_mem hk))

set_option maxHeartbeats 1000000 in
theorem codeOkS_any {B : Nat} (p c : Int) (v : Value) (xs : List Int) (w : World) (h : Ints B w v xs) :
    Calls Tryz.prog 87 #[.int .i64 p, .int .i64 c, v] w fun e w' => e = .returned (.bool (codeOkB p c xs)) ∧ w = w' := by
  obtain ⟨a, cap, rfl, hcap, hmax, hcells⟩ := h.opened
  clear h
  by_cases hp : codesP p c
  · have HP := Lib.hid hp
    obtain ⟨⟨hp1, hp2⟩, hp3, hp4⟩ := hp
    go_enter Tryz.func87, Tryz.ntmps87
    go_wp2
    go_loop [7] (fun i => ∃ k : Nat, k ≤ xs.length ∧ i = .int .i64 k ∧ ∀ j (hj : j < k) (hl : j < xs.length), 0 ≤ xs[j] ∧ xs[j] ≤ c - 1) (fun i => xs.length - (intOf i).toNat)
    case atStart => exact ⟨0, Nat.zero_le _, rfl, by omega⟩
    case round =>
      obtain ⟨k, hk, rfl, ht⟩ := hrel
      have HT := Lib.hid ht
      clear ht
      by_cases hlt : k < xs.length
      · obtain ⟨b, off, rfl, _, hc⟩ := hcells (by omega)
        have hck := hc k hlt
        clear hc hcells
        by_cases hin : 0 ≤ xs[k] ∧ xs[k] ≤ c - 1
        · have HI := Lib.hid hin
          have hI := l1In_yes xs[k] 0 (c - 1) w hin
          clear hin
          go_wp2_with fail
          refine hI.mono ?_
          rintro e w2 ⟨rfl, rfl⟩
          clear hI
          go_wp2
          go_round
          case rel => exact ⟨k + 1, by omega, by go_num, fun j hj hl => by
            by_cases e : j = k
            · subst e; exact HI.out
            · exact HT.out j (by omega) hl⟩
          case measure => simp [intOf]; omega
        · have HI := Lib.hid (codeOkB_bad (p := p) hlt hin)
          have hI := l1In_no xs[k] 0 (c - 1) w hin
          clear hin
          go_wp2_with fail
          refine hI.mono ?_
          rintro e w2 ⟨rfl, rfl⟩
          clear hI
          go_wp2
          go_ret
          exact ⟨ret_bool (by rw [HI.out]), rfl⟩
      · have HR := Lib.hid (codeOkB_row HP.out xs (fun y hy => by
          obtain ⟨j, hj, rfl⟩ := List.getElem_of_mem hy
          exact HT.out j (by omega) hj))
        have h1 := l1In_yes p 1 3 w ⟨hp1, hp2⟩
        have h2 := l1In_yes c 1 5 w ⟨hp3, hp4⟩
        clear hcells
        cases he : ((xs.length : Int) == p)
        · have HR2 := Lib.hid (HR.out.trans he)
          clear HR
          go_wp2_with fail
          refine h1.mono ?_
          rintro e w2 ⟨rfl, rfl⟩
          clear h1
          go_wp2_with fail
          refine h2.mono ?_
          rintro e w2 ⟨rfl, rfl⟩
          clear h2
          go_wp2
          go_ret
          exact ⟨ret_bool (by rw [HR2.out]), rfl⟩
        · have HR2 := Lib.hid (HR.out.trans he)
          clear HR
          go_wp2_with fail
          refine h1.mono ?_
          rintro e w2 ⟨rfl, rfl⟩
          clear h1
          go_wp2_with fail
          refine h2.mono ?_
          rintro e w2 ⟨rfl, rfl⟩
          clear h2
          go_wp2
          go_ret
          exact ⟨ret_bool (by rw [HR2.out]), rfl⟩
  · have HN := Lib.hid (codesB_no hp xs)
    have HP := Lib.hid hp
    clear hp
    go_enter Tryz.func87, Tryz.ntmps87
    go_wp2
    go_loop [7] (fun i => ∃ k : Nat, k ≤ xs.length ∧ i = .int .i64 k) (fun i => xs.length - (intOf i).toNat)
    case atStart => exact ⟨0, Nat.zero_le _, rfl⟩
    case round =>
      obtain ⟨k, hk, rfl⟩ := hrel
      by_cases hlt : k < xs.length
      · obtain ⟨b, off, rfl, _, hc⟩ := hcells (by omega)
        have hck := hc k hlt
        clear hc hcells
        have hI := l1In_any xs[k] 0 (wrap64 (c - 1)) w
        cases hin : inB xs[k] 0 (wrap64 (c - 1))
        · rw [hin] at hI
          clear hin
          go_wp2_with fail
          refine hI.mono ?_
          rintro e w2 ⟨rfl, rfl⟩
          clear hI
          go_wp2
          go_ret
          exact ⟨ret_bool (by rw [HN.out]), rfl⟩
        · rw [hin] at hI
          clear hin
          go_wp2_with fail
          refine hI.mono ?_
          rintro e w2 ⟨rfl, rfl⟩
          clear hI
          go_wp2
          go_round
          case rel => exact ⟨k + 1, by omega, by go_num⟩
          case measure => simp [intOf]; omega
      · clear hcells
        by_cases hp1 : 1 ≤ p ∧ p ≤ 3
        · have h1 := l1In_yes p 1 3 w hp1
          have h2 := l1In_no c 1 5 w (fun q => HP.out ⟨hp1, q⟩)
          clear hp1
          go_wp2_with fail
          refine h1.mono ?_
          rintro e w2 ⟨rfl, rfl⟩
          clear h1
          go_wp2_with fail
          refine h2.mono ?_
          rintro e w2 ⟨rfl, rfl⟩
          clear h2
          go_wp2
          go_ret
          exact ⟨ret_bool (by rw [HN.out]), rfl⟩
        · have h1 := l1In_no p 1 3 w hp1
          clear hp1
          go_wp2_with fail
          refine h1.mono ?_
          rintro e w2 ⟨rfl, rfl⟩
          clear h1
          go_wp2
          go_ret
          exact ⟨ret_bool (by rw [HN.out]), rfl⟩

end Go.Proofs.YtenlngclocfnlaaGreatDoor

/- The reference's AnswerTo. -/
namespace Go.Proofs.YtenlngclocfnlaaGreatDoor
open Go.RowKit
set_option linter.unusedVariables false
set_option maxRecDepth 100000

def cntK (x : List Int) (c : Int) (k : Nat) : Nat := (x.take k).count c
theorem cntK_full {x : List Int} (c : Int) {k : Nat} (h : x.length ≤ k) : cntK x c k = cntC x c := by unfold cntK cntC; rw [List.take_of_length_le h]
theorem cntK_hit {x : List Int} {c : Int} {k : Nat} (h : k < x.length) (e : x[k] = c) : cntK x c (k + 1) = cntK x c k + 1 := by
  unfold cntK
  rw [List.take_succ_eq_append_getElem h, List.count_append, e]
  simp
theorem cntK_miss {x : List Int} {c : Int} {k : Nat} (h : k < x.length) (e : ¬ x[k] = c) : cntK x c (k + 1) = cntK x c k := by
  unfold cntK
  rw [List.take_succ_eq_append_getElem h, List.count_append]
  simp [e]
theorem cntK_le (x : List Int) (c : Int) (k : Nat) : cntK x c k ≤ k := Nat.le_trans List.count_le_length (by simp; omega)
theorem rightN_hit {x y : List Int} {k : Nat} (h : k < x.length) (h' : k < y.length) (e : x[k] = y[k]) : rightN x y (k + 1) = rightN x y k + 1 := by
  simp [rightN, List.getD, List.getElem?_eq_getElem h, List.getElem?_eq_getElem h', e]
theorem rightN_miss {x y : List Int} {k : Nat} (h : k < x.length) (h' : k < y.length) (e : ¬ x[k] = y[k]) : rightN x y (k + 1) = rightN x y k := by
  simp [rightN, List.getD, List.getElem?_eq_getElem h, List.getElem?_eq_getElem h', e]

set_option maxHeartbeats 2000000 in
theorem answerS_ok {B C : Nat} (n : Nat) (c : Nat) (u v : Value) (x y : List Int) (w : World) (hx : Ints B w u x) (hy : Ints C w v y) (hcx : CodeP n c x) (hcy : CodeP n c y) :
    Calls Tryz.prog 125 #[.int .i64 n, .int .i64 c, u, v] w (Quiet (.tuple #[.int .i64 (rightZ x y), .int .i64 (nearZ x y)]) w) := by
  have hOx := codeOkS_any n c u x w hx
  have hOy := codeOkS_any n c v y w hy
  rw [codeOkB_iff.2 hcx] at hOx
  rw [codeOkB_iff.2 hcy] at hOy
  obtain ⟨a, cap, rfl, hcap, hmax, hcells⟩ := hx.opened
  obtain ⟨b, cap', rfl, hcap', hmax', hcells'⟩ := hy.opened
  have hnl : n = x.length := by have := hcx.2.1; omega
  have hly : y.length = x.length := by have := hcy.2.1; omega
  have hn3 : n ≤ 3 := by have := hcx.1; unfold codesP at this; omega
  have hc5 : c ≤ 5 := by have := hcx.1; unfold codesP at this; omega
  have HE := Lib.hid (both_five (y := y) hcx)
  have HLY := Lib.hid hly
  subst hnl
  clear hx hy hcx hcy hly
  go_enter Tryz.func125, Tryz.ntmps125
  go_wp2_with fail
  refine hOx.mono ?_
  rintro e w2 ⟨rfl, rfl⟩
  clear hOx
  go_wp2_with fail
  refine hOy.mono ?_
  rintro e w2 ⟨rfl, rfl⟩
  clear hOy
  go_wp2
  go_loopw [10, 12] (fun s i wr => ∃ k q : Nat, k ≤ x.length ∧ i = .int .i64 k ∧ s = .int .i64 (rightN x y k : Nat) ∧ wr = w.drewN q) (fun _ i _ => x.length - (intOf i).toNat)
  case atStart => exact ⟨0, 0, Nat.zero_le _, rfl, rfl, rfl⟩
  case round =>
    obtain ⟨k, q, hk, rfl, rfl, rfl⟩ := hrel
    have hR := right_le x y k
    by_cases hlt : k < x.length
    · have hly := HLY.out
      obtain ⟨b1, o1, rfl, _, hc⟩ := hcells (by omega)
      obtain ⟨b2, o2, rfl, _, hc'⟩ := hcells' (by omega)
      have hk1 : k < x.length := by omega
      have hk2 : k < y.length := by omega
      have hck := hc k hk1
      have hck' := hc' k hk2
      have hi0 : (0 : Int) ≤ (k : Int) := by omega
      have hi1 : (k : Int) < (x.length : Int) := by omega
      have hi2 : (k : Int) < (y.length : Int) := by omega
      clear hc hcells hc' hcells' hly
      by_cases he : x[k] = y[k]
      · have he1 : (x[k] == y[k]) = true := by simpa using he
        have HS := Lib.hid (rightN_hit hk1 hk2 he)
        clear he
        go_wp2
        go_quiet (fail)
        go_wp2
        go_roundw
        case rel => exact ⟨k + 1, _, by omega, by go_num, by rw [HS.out]; go_num, rfl⟩
        case measure => simp [intOf]; omega
      · have he1 : (x[k] == y[k]) = false := by simpa using he
        have HS := Lib.hid (rightN_miss hk1 hk2 he)
        clear he
        go_wp2
        go_quiet (fail)
        go_wp2
        go_roundw
        case rel => exact ⟨k + 1, _, by omega, by go_num, by rw [HS.out], rfl⟩
        case measure => simp [intOf]; omega
    · have e : k = x.length := by omega
      subst e
      go_wp2
      go_loopw [11, 13] (fun s i wr => ∃ j q : Nat, j ≤ c ∧ i = .int .i64 j ∧ s = .int .i64 (bothN x y j : Nat) ∧ wr = w.drewN q) (fun _ i _ => c - (intOf i).toNat)
      case atStart => exact ⟨0, q, Nat.zero_le _, rfl, rfl, rfl⟩
      case round =>
        obtain ⟨j, q2, hj, rfl, rfl, rfl⟩ := hrel
        have hB : bothN x y j ≤ x.length := both_len
        by_cases hjc : j < c
        · go_wp2
          go_loopw [14, 15, 16] (fun s t i wr => ∃ m q : Nat, m ≤ x.length ∧ i = .int .i64 m ∧ s = .int .i64 (cntK x j m : Nat) ∧ t = .int .i64 (cntK y j m : Nat) ∧ wr = w.drewN q) (fun _ _ i _ => x.length - (intOf i).toNat)
          case atStart => exact ⟨0, q2, Nat.zero_le _, rfl, rfl, rfl, rfl⟩
          case round =>
            obtain ⟨m, q3, hm, rfl, rfl, rfl, rfl⟩ := hrel
            have hC1 := cntK_le x j m
            have hC2 := cntK_le y j m
            by_cases hmk : m < x.length
            · have hly := HLY.out
              obtain ⟨b1, o1, rfl, _, hc⟩ := hcells (by omega)
              obtain ⟨b2, o2, rfl, _, hc'⟩ := hcells' (by omega)
              have hk1 : m < x.length := by omega
              have hk2 : m < y.length := by omega
              have hck := hc m hk1
              have hck' := hc' m hk2
              have hi0 : (0 : Int) ≤ (m : Int) := by omega
              have hi1 : (m : Int) < (x.length : Int) := by omega
              have hi2 : (m : Int) < (y.length : Int) := by omega
              clear hc hcells hc' hcells' hly
              by_cases he : x[m] = (j : Int) <;> by_cases he2 : y[m] = (j : Int)
              · have he1 : (x[m] == (j : Int)) = true := by simpa using he
                have he3 : (y[m] == (j : Int)) = true := by simpa using he2
                have HS := Lib.hid (cntK_hit hk1 he)
                have HS2 := Lib.hid (cntK_hit hk2 he2)
                clear he he2
                go_wp2
                go_roundw
                case rel => exact ⟨m + 1, _, by omega, by go_num, by rw [HS.out]; go_num, by rw [HS2.out]; go_num, rfl⟩
                case measure => simp [intOf]; omega
              · have he1 : (x[m] == (j : Int)) = true := by simpa using he
                have he3 : (y[m] == (j : Int)) = false := by simpa using he2
                have HS := Lib.hid (cntK_hit hk1 he)
                have HS2 := Lib.hid (cntK_miss hk2 he2)
                clear he he2
                go_wp2
                go_roundw
                case rel => exact ⟨m + 1, _, by omega, by go_num, by rw [HS.out]; go_num, by rw [HS2.out], rfl⟩
                case measure => simp [intOf]; omega
              · have he1 : (x[m] == (j : Int)) = false := by simpa using he
                have he3 : (y[m] == (j : Int)) = true := by simpa using he2
                have HS := Lib.hid (cntK_miss hk1 he)
                have HS2 := Lib.hid (cntK_hit hk2 he2)
                clear he he2
                go_wp2
                go_roundw
                case rel => exact ⟨m + 1, _, by omega, by go_num, by rw [HS.out], by rw [HS2.out]; go_num, rfl⟩
                case measure => simp [intOf]; omega
              · have he1 : (x[m] == (j : Int)) = false := by simpa using he
                have he3 : (y[m] == (j : Int)) = false := by simpa using he2
                have HS := Lib.hid (cntK_miss hk1 he)
                have HS2 := Lib.hid (cntK_miss hk2 he2)
                clear he he2
                go_wp2
                go_roundw
                case rel => exact ⟨m + 1, _, by omega, by go_num, by rw [HS.out], by rw [HS2.out], rfl⟩
                case measure => simp [intOf]; omega
            · have e1 : cntK x j m = cntC x j := cntK_full _ (by omega)
              have e2 : cntK y j m = cntC y j := cntK_full _ (by rw [HLY.out]; omega)
              rw [e1] at hC1 ⊢
              rw [e2] at hC2 ⊢
              have HS := Lib.hid (show bothN x y (j + 1) = bothN x y j + min (cntC x j) (cntC y j) from rfl)
              clear e1 e2 hcells hcells'
              rcases Nat.lt_or_ge (cntC y j) (cntC x j) with hmn | hmn
              · have hm1 : ((cntC y j : Nat) : Int) < (cntC x j : Nat) := by omega
                go_wp2
                go_roundw
                case rel => exact ⟨j + 1, _, by omega, by go_num, by rw [HS.out, Nat.min_eq_right (by omega)]; go_num, rfl⟩
                case measure => simp [intOf]; omega
              · have hm1 : ¬ ((cntC y j : Nat) : Int) < (cntC x j : Nat) := by omega
                go_wp2
                go_roundw
                case rel => exact ⟨j + 1, _, by omega, by go_num, by rw [HS.out, Nat.min_eq_left (by omega)]; go_num, rfl⟩
                case measure => simp [intOf]; omega
        · have e : j = c := by omega
          subst e
          clear hcells hcells'
          go_wp2
          go_ret2
          refine ⟨?_, q2, rfl⟩
          unfold rightZ nearZ
          rw [HE.out]
          rfl

end Go.Proofs.YtenlngclocfnlaaGreatDoor

/- Lists of guesses in memory; the reference's GuessesOk and l4Fits. -/
namespace Go.Proofs.YtenlngclocfnlaaGreatDoor
open Go.RowKit
set_option linter.unusedVariables false
set_option maxRecDepth 100000

/-- The slice value v reads in w as these guesses. -/
def GL (B : Nat) (w : World) (v : Value) (gs : List Gs) : Prop :=
  ∃ a cap, ∃ V : Nat → Value, v = .slice a gs.length cap ∧ gs.length ≤ cap ∧ cap ≤ 9223372036854775807 ∧
    (0 < gs.length → ∃ b off, a = some ⟨b, off, none⟩ ∧ B ≤ b ∧ ∀ i (h : i < gs.length),
      w.cell? ⟨b, off + i * 3, none⟩ = some (V i) ∧ w.cell? ⟨b, off + i * 3 + 1, none⟩ = some (.int .i64 gs[i].right) ∧ w.cell? ⟨b, off + i * 3 + 2, none⟩ = some (.int .i64 gs[i].near)) ∧
    ∀ i (h : i < gs.length), Ints B w (V i) gs[i].code

theorem GL.nil (B : Nat) (w : World) : GL B w (.slice none 0 0) [] := ⟨none, 0, fun _ => undef, rfl, by simp, by simp, by simp, by simp⟩
theorem GL.keep {B : Nat} {w w' : World} {v : Value} {gs : List Gs} (h : GL B w v gs) (hs : Above B w w') : GL B w' v gs := by
  obtain ⟨a, cap, V, h1, h2, h3, h4, h5⟩ := h
  refine ⟨a, cap, V, h1, h2, h3, fun hp => ?_, fun i hi => (h5 i hi).keep hs⟩
  obtain ⟨b, off, h6, hb, h7⟩ := h4 hp
  exact ⟨b, off, h6, hb, fun i hi => ⟨hs.cell (by exact hb) (h7 i hi).1, hs.cell (by exact hb) (h7 i hi).2.1, hs.cell (by exact hb) (h7 i hi).2.2⟩⟩
theorem GL.below {B : Nat} {w w' : World} {v : Value} {gs : List Gs} (h : GL B w v gs) (hb : Below w.heap.size w w') : GL B w' v gs := h.keep (.of_below hb)
theorem GL.mono {B B' : Nat} {w : World} {v : Value} {gs : List Gs} (h : GL B w v gs) (hb : B' ≤ B) : GL B' w v gs := by
  obtain ⟨a, cap, V, h1, h2, h3, h4, h5⟩ := h
  refine ⟨a, cap, V, h1, h2, h3, fun hp => ?_, fun i hi => (h5 i hi).mono hb⟩
  obtain ⟨b, off, h6, hb', h7⟩ := h4 hp
  exact ⟨b, off, h6, by omega, h7⟩

theorem all_step {p c : Int} {gs : List Gs} {k : Nat} (hk : k < gs.length) (h : (gs.take k).all (guessOkB p c) = true) (hg : guessOkB p c gs[k] = true) : (gs.take (k + 1)).all (guessOkB p c) = true := by
  rw [List.take_succ_eq_append_getElem hk, List.all_append, h]
  simp [hg]
theorem all_bad {p c : Int} {gs : List Gs} {k : Nat} (hk : k < gs.length) (hg : guessOkB p c gs[k] = false) : guessesB p c gs = false := by
  rw [← Bool.not_eq_true]
  intro h
  unfold guessesB at h
  rw [Bool.and_eq_true, Bool.and_eq_true, List.all_eq_true] at h
  have := h.2.2 _ (List.getElem_mem hk)
  rw [hg] at this
  cases this
theorem all_end {p c : Int} {gs : List Gs} (h : gs.all (guessOkB p c) = true) : guessesB p c gs = (codesB p c && decide ((gs.length : Int) ≤ 9)) := by
  unfold guessesB
  rw [h, Bool.and_true]
  congr 1
  rw [decide_eq_decide]
  omega
theorem guessOk_code {p c : Int} {g : Gs} (h : codeOkB p c g.code = false) : guessOkB p c g = false := by unfold guessOkB; rw [h]; rfl
theorem guessOk_right {p c : Int} {g : Gs} (h : g.right < 0) : guessOkB p c g = false := by unfold guessOkB; rw [decide_eq_false (by omega)]; simp
theorem guessOk_near {p c : Int} {g : Gs} (h : g.near < 0) : guessOkB p c g = false := by unfold guessOkB; rw [decide_eq_false (by omega)]; simp
theorem guessOk_yes {p c : Int} {g : Gs} (h : codeOkB p c g.code = true) (h1 : ¬ g.right < 0) (h2 : ¬ g.near < 0) : guessOkB p c g = true := by unfold guessOkB; rw [h, decide_eq_true (by omega)]; rfl

set_option maxHeartbeats 2000000 in
theorem guessesS_any {B : Nat} (p c : Int) (v : Value) (gs : List Gs) (w : World) (h : GL B w v gs) :
    Calls Tryz.prog 50 #[.int .i64 p, .int .i64 c, v] w fun e w' => e = .returned (.bool (guessesB p c gs)) ∧ w = w' := by
  obtain ⟨a, cap, V, rfl, hcap, hmax, hcells, hV⟩ := h
  go_enter Tryz.func50, Tryz.ntmps50
  go_wp2
  go_loop [7] (fun i => ∃ k : Nat, k ≤ gs.length ∧ i = .int .i64 k ∧ (gs.take k).all (guessOkB p c) = true) (fun i => gs.length - (intOf i).toNat)
  case atStart => exact ⟨0, Nat.zero_le _, rfl, rfl⟩
  case round =>
    obtain ⟨k, hk, rfl, ht⟩ := hrel
    have HT := Lib.hid ht
    clear ht
    by_cases hlt : k < gs.length
    · obtain ⟨b, off, rfl, _, hc⟩ := hcells (by omega)
      obtain ⟨c1, c2, c3⟩ := hc k hlt
      have hO := codeOkS_any p c (V k) gs[k].code w (hV k hlt)
      clear hc hcells hV
      have HY := Lib.hid (@guessOk_yes p c gs[k])
      have HN1 := Lib.hid (@guessOk_code p c gs[k])
      have HN2 := Lib.hid (@guessOk_right p c gs[k])
      have HN3 := Lib.hid (@guessOk_near p c gs[k])
      have HB := Lib.hid (@all_bad p c gs k hlt)
      have HS := Lib.hid (@all_step p c gs k hlt HT.out)
      obtain ⟨g, hg⟩ : ∃ g, g = gs[k] := ⟨_, rfl⟩
      rw [← hg] at c2 c3 hO HY HN1 HN2 HN3 HB HS
      clear hg
      cases ho : codeOkB p c g.code
      · rw [ho] at hO
        have HR := Lib.hid (HB.out (HN1.out ho))
        clear ho
        go_wp2_with fail
        refine hO.mono ?_
        rintro e w2 ⟨rfl, rfl⟩
        clear hO
        go_wp2
        go_ret
        exact ⟨ret_bool (by rw [HR.out]), rfl⟩
      · rw [ho] at hO
        by_cases hr : g.right < 0
        · have HR := Lib.hid (HB.out (HN2.out hr))
          clear ho
          go_wp2_with fail
          refine hO.mono ?_
          rintro e w2 ⟨rfl, rfl⟩
          clear hO
          go_wp2
          go_ret
          exact ⟨ret_bool (by rw [HR.out]), rfl⟩
        · by_cases hn : g.near < 0
          · have HR := Lib.hid (HB.out (HN3.out hn))
            clear ho
            go_wp2_with fail
            refine hO.mono ?_
            rintro e w2 ⟨rfl, rfl⟩
            clear hO
            go_wp2
            go_ret
            exact ⟨ret_bool (by rw [HR.out]), rfl⟩
          · have HR := Lib.hid (HS.out (HY.out ho hr hn))
            clear ho
            go_wp2_with fail
            refine hO.mono ?_
            rintro e w2 ⟨rfl, rfl⟩
            clear hO
            go_wp2
            go_round
            case rel => exact ⟨k + 1, by omega, by go_num, HR.out⟩
            case measure => simp [intOf]; omega
    · have HR := Lib.hid (all_end (p := p) (c := c) (gs := gs) (by have := HT.out; rwa [List.take_of_length_le (by omega)] at this))
      clear hcells hV
      by_cases h1 : 1 ≤ p ∧ p ≤ 3
      · have q1 := l1In_yes p 1 3 w h1
        by_cases h2 : 1 ≤ c ∧ c ≤ 5
        · have q2 := l1In_yes c 1 5 w h2
          have HR2 := Lib.hid (HR.out.trans (by rw [codesB_iff.2 ⟨h1, h2⟩, Bool.true_and]))
          clear h1 h2 HR
          cases hd : decide ((gs.length : Int) ≤ 9)
          · have HD := Lib.hid hd
            go_wp2_with fail
            refine q1.mono ?_
            rintro e w2 ⟨rfl, rfl⟩
            clear q1
            go_wp2_with fail
            refine q2.mono ?_
            rintro e w2 ⟨rfl, rfl⟩
            clear q2
            go_wp2
            go_ret
            exact ⟨ret_bool (by rw [HR2.out, HD.out]), rfl⟩
          · have HD := Lib.hid hd
            go_wp2_with fail
            refine q1.mono ?_
            rintro e w2 ⟨rfl, rfl⟩
            clear q1
            go_wp2_with fail
            refine q2.mono ?_
            rintro e w2 ⟨rfl, rfl⟩
            clear q2
            go_wp2
            go_ret
            exact ⟨ret_bool (by rw [HR2.out, HD.out]), rfl⟩
        · have q2 := l1In_no c 1 5 w h2
          have HR2 := Lib.hid (HR.out.trans (by rw [show codesB p c = false from by rw [← Bool.not_eq_true, codesB_iff]; exact fun q => h2 q.2]; rfl : _ = false))
          clear h1 h2 HR
          go_wp2_with fail
          refine q1.mono ?_
          rintro e w2 ⟨rfl, rfl⟩
          clear q1
          go_wp2_with fail
          refine q2.mono ?_
          rintro e w2 ⟨rfl, rfl⟩
          clear q2
          go_wp2
          go_ret
          exact ⟨ret_bool (by rw [HR2.out]), rfl⟩
      · have q1 := l1In_no p 1 3 w h1
        have HR2 := Lib.hid (HR.out.trans (by rw [show codesB p c = false from by rw [← Bool.not_eq_true, codesB_iff]; exact fun q => h1 q.1]; rfl : _ = false))
        clear h1 HR
        go_wp2_with fail
        refine q1.mono ?_
        rintro e w2 ⟨rfl, rfl⟩
        clear q1
        go_wp2
        go_ret
        exact ⟨ret_bool (by rw [HR2.out]), rfl⟩

end Go.Proofs.YtenlngclocfnlaaGreatDoor

/- The reference's l4Fits. -/
namespace Go.Proofs.YtenlngclocfnlaaGreatDoor
open Go.RowKit
set_option linter.unusedVariables false
set_option maxRecDepth 100000

theorem guess_code {p c : Int} {gs : List Gs} (h : guessesB p c gs = true) {i : Nat} (hi : i < gs.length) : CodeP p c gs[i].code := by
  unfold guessesB at h
  rw [Bool.and_eq_true, Bool.and_eq_true, List.all_eq_true] at h
  have := h.2.2 _ (List.getElem_mem hi)
  unfold guessOkB at this
  rw [Bool.and_eq_true] at this
  exact codeOkB_iff.1 this.1
theorem guesses_codes {p c : Int} {gs : List Gs} (h : guessesB p c gs = true) : codesP p c := by unfold guessesB at h; rw [Bool.and_eq_true] at h; exact codesB_iff.1 h.1
theorem fits_step {x : List Int} {gs : List Gs} {k : Nat} (hk : k < gs.length) (h : fitsB x (gs.take k) = true) (h1 : rightZ x gs[k].code = gs[k].right) (h2 : nearZ x gs[k].code = gs[k].near) : fitsB x (gs.take (k + 1)) = true := by
  unfold fitsB at h ⊢
  rw [List.take_succ_eq_append_getElem hk, List.all_append, h]
  simp [h1, h2]
theorem fits_bad {x : List Int} {gs : List Gs} {k : Nat} (hk : k < gs.length) (h : ¬ (rightZ x gs[k].code = gs[k].right ∧ nearZ x gs[k].code = gs[k].near)) : fitsB x gs = false := by
  rw [← Bool.not_eq_true]
  intro hf
  unfold fitsB at hf
  rw [List.all_eq_true] at hf
  have := hf _ (List.getElem_mem hk)
  rw [decide_eq_true_eq] at this
  exact h this

set_option maxHeartbeats 2000000 in
theorem fitsS_any {B C : Nat} (n c : Nat) (v u : Value) (gs : List Gs) (x : List Int) (w : World) (h : GL B w v gs) (hx : Ints C w u x) (hg : guessesB n c gs = true) (hcx : CodeP n c x) :
    Calls Tryz.prog 90 #[.int .i64 n, .int .i64 c, v, u] w (Quiet (.bool (fitsB x gs)) w) := by
  obtain ⟨a, cap, V, rfl, hcap, hmax, hcells, hV⟩ := h
  have HG := Lib.hid hg
  have HCX := Lib.hid hcx
  clear hg hcx
  go_enter Tryz.func90, Tryz.ntmps90
  go_wp2
  go_loopw [9] (fun i wr => ∃ k q : Nat, k ≤ gs.length ∧ i = .int .i64 k ∧ fitsB x (gs.take k) = true ∧ wr = w.drewN q) (fun i _ => gs.length - (intOf i).toNat)
  case atStart => exact ⟨0, 0, Nat.zero_le _, rfl, rfl, rfl⟩
  case round =>
    obtain ⟨k, q, hk, rfl, ht, rfl⟩ := hrel
    have HT := Lib.hid ht
    clear ht
    by_cases hlt : k < gs.length
    · obtain ⟨b, off, rfl, _, hc⟩ := hcells (by omega)
      obtain ⟨c1, c2, c3⟩ := hc k hlt
      have hA := answerS_ok n c u (V k) x gs[k].code (w.drewN q) hx (hV k hlt) HCX.out (guess_code HG.out hlt)
      have HS := Lib.hid (@fits_step x gs k hlt HT.out)
      have HB := Lib.hid (@fits_bad x gs k hlt)
      clear hc hcells hV hx
      obtain ⟨g, hgg⟩ : ∃ g, g = gs[k] := ⟨_, rfl⟩
      rw [← hgg] at c2 c3 hA HS HB
      clear hgg
      obtain ⟨r1, hr1⟩ : ∃ r1, r1 = rightZ x g.code := ⟨_, rfl⟩
      obtain ⟨r2, hr2⟩ : ∃ r2, r2 = nearZ x g.code := ⟨_, rfl⟩
      rw [← hr1, ← hr2] at hA HS HB
      clear hr1 hr2
      by_cases e1 : r1 = g.right
      · have f1 : (r1 != g.right) = false := by simpa using e1
        by_cases e2 : r2 = g.near
        · have f2 : (r2 != g.near) = false := by simpa using e2
          have HR := Lib.hid (HS.out e1 e2)
          clear e1 e2 HS HB
          go_wp2_with fail
          refine hA.mono ?_
          rintro e w2 ⟨rfl, nq, rfl⟩
          clear hA
          go_wp2
          go_roundw
          case rel => exact ⟨k + 1, q + nq, by omega, by go_num, HR.out, by simp⟩
          case measure => simp [intOf]; omega
        · have f2 : (r2 != g.near) = true := by simpa using e2
          have HR := Lib.hid (HB.out (fun q => e2 q.2))
          clear e1 e2 HS HB
          go_wp2_with fail
          refine hA.mono ?_
          rintro e w2 ⟨rfl, nq, rfl⟩
          clear hA
          go_wp2
          go_ret
          exact ⟨ret_bool (by rw [HR.out]), q + nq, by simp⟩
      · have f1 : (r1 != g.right) = true := by simpa using e1
        have HR := Lib.hid (HB.out (fun q => e1 q.1))
        clear e1 HS HB
        go_wp2_with fail
        refine hA.mono ?_
        rintro e w2 ⟨rfl, nq, rfl⟩
        clear hA
        go_wp2
        go_ret
        exact ⟨ret_bool (by rw [HR.out]), q + nq, by simp⟩
    · have HR := Lib.hid (show fitsB x gs = true from by have := HT.out; rwa [List.take_of_length_le (by omega)] at this)
      clear hcells hV
      go_wp2
      go_ret
      exact ⟨ret_bool (by rw [HR.out]), _, rfl⟩

end Go.Proofs.YtenlngclocfnlaaGreatDoor

/- Owned rows of rows, of which two may lie in one block: only read from now on. Appends of a whole row. No walk. -/
namespace Go.Proofs.YtenlngclocfnlaaGreatDoor
open Go.RowKit
set_option linter.unusedVariables false
set_option maxRecDepth 100000

def OwnR (B : Nat) (w : World) (v : Value) (xss : List (List Int)) : Prop :=
  ∃ vs, w.ownsRow B 37 1 v vs.length vs ∧ vs.length = xss.length ∧ ∀ i (h : i < vs.length) (h' : i < xss.length), OwnI B w vs[i] xss[i]
theorem OwnII.toR {B : Nat} {w : World} {v : Value} {xss : List (List Int)} (h : OwnII B w v xss) : OwnR B w v xss := by
  obtain ⟨vs, h1, h2, h3, _⟩ := h
  exact ⟨vs, h1, h2, h3⟩
theorem OwnR.rows {B : Nat} {w : World} {v : Value} {xss : List (List Int)} (h : OwnR B w v xss) (hr : ∀ xs ∈ xss, ∀ x ∈ xs, In64 x) : Rows2 B w v xss := by
  obtain ⟨vs, h1, h2, h3⟩ := h
  exact ⟨vs, sl_of_own h1, h2, fun i hi hi' => (h3 i hi hi').toInts (hr _ (List.getElem_mem _))⟩
theorem OwnR.keep {B : Nat} {w w' : World} {v : Value} {xss : List (List Int)} (h : OwnR B w v xss) (hs : Above B w w') : OwnR B w' v xss := by
  obtain ⟨vs, h1, h2, h3⟩ := h
  exact ⟨vs, owns_keep h1 hs, h2, fun i hi hi' => owns_keep (h3 i hi hi') hs⟩
theorem OwnR.below {B : Nat} {w w' : World} {v : Value} {xss : List (List Int)} (h : OwnR B w v xss) (hb : Below w.heap.size w w') : OwnR B w' v xss := h.keep (.of_below hb)
theorem OwnR.mono {B B' : Nat} {w : World} {v : Value} {xss : List (List Int)} (h : OwnR B w v xss) (hB : B' ≤ B) : OwnR B' w v xss := by
  obtain ⟨vs, h1, h2, h3⟩ := h
  exact ⟨vs, owns_mono h1 hB, h2, fun i hi hi' => owns_mono (h3 i hi hi') hB⟩
theorem OwnR.alloc {B : Nat} {w : World} {v : Value} {xss : List (List Int)} (h : OwnR B w v xss) (o : Obj) : OwnR B (w.alloc o) v xss := by
  obtain ⟨vs, h1, h2, h3⟩ := h
  exact ⟨vs, World.ownsRow.alloc h1 o, h2, fun i hi hi' => World.ownsRow.alloc (h3 i hi hi') o⟩
theorem OwnR.empty (B : Nat) (w : World) : OwnR B w (.slice none 0 0) [] := (OwnII.empty B w).toR
theorem OwnR.shape {B : Nat} {w : World} {v : Value} {xss : List (List Int)} (h : OwnR B w v xss) : ∃ a cap, v = .slice a xss.length cap ∧ xss.length ≤ cap ∧ cap ≤ 9223372036854775807 := by
  obtain ⟨vs, h1, h2, h3⟩ := h
  obtain ⟨a, cap, rfl, h4, h5⟩ := own_shape h1
  exact ⟨a, cap, by rw [h2], by omega, by simpa [maxLen] using h5⟩
theorem OwnR.at {B : Nat} {w : World} {a : Option Addr} {n cap : Nat} {xss : List (List Int)} (h : OwnR B w (.slice a n cap) xss) (k : Nat) (hk : k < xss.length) :
    ∃ g u, a = some ⟨g, 0, none⟩ ∧ B ≤ g ∧ w.cell? ⟨g, k, none⟩ = some u ∧ OwnI B w u xss[k] := by
  obtain ⟨vs, h1, h2, h3⟩ := h
  obtain ⟨g, cap', he, hB, _⟩ := own_head h1 (by omega)
  injection he with e1 e2 e3
  subst e1 e2
  refine ⟨g, vs[k]'(by omega), rfl, hB, ?_, h3 k (by omega) hk⟩
  rw [World.ownsRow.cellAt h1 k (by omega), List.getElem?_eq_getElem (show k < vs.length by omega)]

/-- 'append(out, row)'. -/
theorem wpList_push_r (w : World) {ops : Array Oper} {rest : List Oper} {o : Oper} {a : Act} {Q : Exit → Act → World → Prop}
    (hg : o.guard = none) (s x : Operand) (hop : o.op = Op.call { callee := Callee.builtin Builtin.append, args := #[s, x], argTypes := #[79, 79] })
    (B : Nat) (v : Value) (xss : List (List Int)) (hs : a.eval s = v) (hown : OwnR B w v xss) (ad : Addr) (c : Nat) (r : Value) (xs : List Int) (hx : a.eval x = .slice (some ad) 1 c) (hc : w.cell? ad = some r)
    (hr : OwnI B w r xs) (hlen : xss.length ≤ 1099511627776) (hB : B ≤ w.heap.size)
    (hK : ∀ a' cap' w', OwnR B w' (.slice a' (xss.length + 1) cap') (xss ++ [xs]) → w.grownBy w' v.ownBlock → ((Value.slice a' (xss.length + 1) cap').ownBlock = v.ownBlock ∨ (Value.slice a' (xss.length + 1) cap').ownBlock = some w.heap.size) → wpList Tryz.prog ops Q rest (a.put o.dst (.slice a' (xss.length + 1) cap')) w') :
    wpList Tryz.prog ops Q (o :: rest) a w := by
  obtain ⟨i0, hi, hz0, hz1, hz2⟩ := info_parts infoInts
  obtain ⟨vs, h1, h2, h3⟩ := hown
  have hone : r.oneCell' = true := by
    obtain ⟨_, _, rfl, _⟩ := own_shape hr
    rfl
  refine wpList_append_own_at w hg s x 79 hop B 37 i0 (.slice none 0 0) 1 24 Tryz.underlying79 hi hz0 hz1 hz2 rfl (by decide) v vs.length vs hs h1 ad 1 c [r] hx rfl ?_ (by simp [hone]) (by unfold maxLen; omega) (by omega) hB ?_
  · intro j u hj
    match j, hj with
    | 0, hj => simp at hj; subst hj; simpa [Addr.add] using hc
  · intro v' w' h5 h6 _ h7
    have hap : ∀ u ys, OwnI B w u ys → OwnI B w' u ys := fun u ys hu => World.ownsRow.kept hu h6 (own_apart hu h1 (by decide))
    obtain ⟨a', cap', rfl, _⟩ := own_shape h5
    rw [h2] at h5 h7 ⊢
    refine hK a' cap' w' ⟨vs ++ [r], by simpa [h2] using h5, by simp [h2], fun i hi' hi'' => ?_⟩ h6 h7
    by_cases hlt : i < vs.length
    · rw [List.getElem_append_left hlt, List.getElem_append_left (by omega)]
      exact hap _ _ (h3 i hlt (by omega))
    · have e : i = vs.length := by simp at hi'; omega
      subst e
      have := hap _ _ hr
      simpa [h2] using this

theorem OwnR.lt {B : Nat} {w : World} {v : Value} {xss : List (List Int)} (h : OwnR B w v xss) (k : Nat) (hk : v.ownBlock = some k) : B ≤ k ∧ k < w.heap.size := by
  obtain ⟨vs, h1, _⟩ := h
  exact World.ownsRow.lt h1 k hk

/-- The same, the row made since world wr, in which out lies. -/
theorem wpList_push_rnew (wr W3 : World) {ops : Array Oper} {rest : List Oper} {o : Oper} {a : Act} {Q : Exit → Act → World → Prop}
    (hg : o.guard = none) (s x : Operand) (hop : o.op = Op.call { callee := Callee.builtin Builtin.append, args := #[s, x], argTypes := #[79, 79] })
    (B : Nat) (v : Value) (xss : List (List Int)) (hs : a.eval s = v) (hown : OwnR B wr v xss) (hb : Below wr.heap.size wr W3) (N : Nat) (hN : W3.heap.size = N) (r : Value) (xs : List Int) (hx : a.eval x = .slice (some ⟨N, 0, none⟩) 1 1)
    (hr : OwnI wr.heap.size W3 r xs) (hlen : xss.length ≤ 1099511627776) (hB : B ≤ wr.heap.size)
    (hK : ∀ a' cap' w', OwnR B w' (.slice a' (xss.length + 1) cap') (xss ++ [xs]) → Below B wr w' → wpList Tryz.prog ops Q rest (a.put o.dst (.slice a' (xss.length + 1) cap')) w') :
    wpList Tryz.prog ops Q (o :: rest) a (W3.alloc (.cells #[r] 37)) := by
  have hsz := hb.size
  have hb4 : Below wr.heap.size wr (W3.alloc (.cells #[r] 37)) := hb.alloc hsz _
  have hr4 : OwnI wr.heap.size (W3.alloc (.cells #[r] 37)) r xs := World.ownsRow.alloc hr _
  refine wpList_push_r _ hg s x hop B v xss hs (hown.below hb4) ⟨N, 0, none⟩ 1 r xs hx ?_ (hr4.mono hB) hlen (by simp; omega) ?_
  · subst hN
    exact cell_of_one (heap_alloc_new W3 _)
  · intro a' cap' w' h1 h2 _
    refine hK a' cap' w' h1 ((hb4.mono hB).grown h2 (by simp; omega) ?_)
    intro k hk
    exact (hown.lt k hk).1

theorem run_append_ints_nil (w : World) (ty : TypeId) {B : Nat} {v : Value} {n : Nat} {xs : List Value} (hown : w.ownsRow B 3 1 v n xs) (c : Nat) :
    (Builtin.append_ #[37, 37] ty #[v, .slice none 0 c]).run Tryz.prog w = .ok v w := by
  obtain ⟨i0, hi, hz0, hz1, hz2⟩ := info_parts infoInt
  have ht := Tryz.underlying37
  rcases hown.2 with ⟨rfl, rfl⟩ | ⟨g, cap, cur, rfl, _, _, hnc, _⟩
  · simp [Builtin.append_, run_underlying ht, sizeOf, typeInfo, hi, Builtin.lenOf, Builtin.firstCells]
  · simp [Builtin.append_, run_underlying ht, sizeOf, typeInfo, hi, Builtin.lenOf, Builtin.firstCells, hnc, storeCells]

/-- 'append(row, other...)'. -/
theorem wpList_push_all (w : World) {ops : Array Oper} {rest : List Oper} {o : Oper} {a : Act} {Q : Exit → Act → World → Prop}
    (hg : o.guard = none) (s x : Operand) (hop : o.op = Op.call { callee := Callee.builtin Builtin.append, args := #[s, x], argTypes := #[37, 37] })
    (B C : Nat) (v : Value) (xs : List Int) (hs : a.eval s = v) (hown : OwnI B w v xs) (u : Value) (ys : List Int) (hx : a.eval x = u) (hu : OwnI C w u ys)
    (hlen : xs.length + ys.length ≤ 1099511627776) (hB : B ≤ w.heap.size)
    (hK : ∀ a' cap' w', OwnI B w' (.slice a' (xs.length + ys.length) cap') (xs ++ ys) → w.grownBy w' v.ownBlock → wpList Tryz.prog ops Q rest (a.put o.dst (.slice a' (xs.length + ys.length) cap')) w') :
    wpList Tryz.prog ops Q (o :: rest) a w := by
  obtain ⟨i0, hi, hz0, hz1, hz2⟩ := info_parts infoInt
  obtain ⟨au, cu, rfl, hcu, hmu, hcells⟩ := hu.opened
  rcases au with _ | ad
  · have hy : ys = [] := by
      apply List.eq_nil_of_length_eq_zero
      rcases Nat.eq_zero_or_pos ys.length with h0 | h0
      · exact h0
      · obtain ⟨g, h, _⟩ := hcells h0
        cases h
    subst hy
    obtain ⟨av, cv, rfl, _⟩ := own_shape hown
    refine wpList_plain hg fun K hK' => ?_
    unfold Oper.wp execOp
    simp only [hop, resolve, invoke, builtin, Sem.run_bind, Sem.run_pure, Result.andThen_ok, List.map_toArray, List.map_cons, List.map_nil, hs, hx]
    have := run_append_ints_nil w o.type hown cu
    simp only [List.length_nil] at this ⊢
    rw [this]
    refine hK' _ _ ?_
    have := hK av cv w (by simpa using hown) (World.grownBy.refl w _)
    simpa using this
  · refine wpList_append_own w hg s x 37 hop B 3 i0 (.int .i64 0) 1 8 Tryz.underlying37 hi hz0 hz1 hz2 rfl (by decide) v xs.length (ints xs) hs hown ad ys.length cu (ints ys) hx (by simp) ?_ (by intro u hu; obtain ⟨y, _, rfl⟩ := List.mem_map.1 hu; simp [Value.oneCell']) (by unfold maxLen; omega) (by omega) hB ?_
    · intro j u hj
      have hlt : j < ys.length := by
        have := (List.getElem?_eq_some_iff.1 hj).1
        simpa using this
      have : (ints ys)[j]? = some (.int .i64 ys[j]) := by rw [List.getElem?_eq_getElem (by simpa using hlt)]; simp
      rw [this] at hj
      obtain rfl := Option.some.inj hj
      obtain ⟨g, he, _, hc, _⟩ := hcells (by omega)
      injection he with he
      subst he
      have := hc j hlt
      by_cases h0 : j = 0
      · subst h0; simpa [Addr.add] using this
      · simpa [Addr.add, h0] using this
    · intro v' w' h1 h2 _
      obtain ⟨a', cap', rfl, _⟩ := own_shape h1
      refine hK a' cap' w' ?_ h2
      unfold OwnI
      rw [ints_append]
      simpa [ints] using h1

end Go.Proofs.YtenlngclocfnlaaGreatDoor
