/- Every code of at most three pegs and four colours is found: what is to be computed, and the computation. -/
import Derived.Test.YtkjdlpbfalojdaaWorstPig
namespace Go.Proofs.Ytkjdlpbfalojdaa
set_option linter.unusedVariables false
set_option maxRecDepth 1000000

/-- An answer as one number. -/
def ansC (x y : List Int) : Nat := rightN x y x.length * 8 + bothN x y 5
/-- How many of the list are a. -/
def numA (a : Nat) : List Nat → Nat
  | [] => 0
  | b :: l => bif Nat.beq a b then numA a l + 1 else numA a l
def maxA (l : List Nat) : List Nat → Nat
  | [] => 0
  | a :: t => Nat.max (numA a l) (maxA l t)
def all16 : List Nat := [0, 1, 2, 3, 8, 9, 10, 11, 16, 17, 18, 19, 24, 25, 26, 27]
/-- The greatest lot. -/
def worstA (L : List (List Int)) (g : List Int) : Nat := (fun l => maxA l all16) (L.map fun x => ansC x g)
def bestA (L : List (List Int)) : List (List Int) → List Int → Nat → List Int
  | [], g, _ => g
  | x :: t, g, w => (fun v => bif Nat.ble w v then bestA L t g w else bestA L t x v) (worstA L x)
def nextA (L : List (List Int)) : List Int := bestA L L [] 1000
def solve : Nat → List (List Int) → Bool
  | 0, _ => false
  | f + 1, L => (fun g => all16.all fun a => (fun M => match M with | [] => true | [x] => true | M => bif Nat.beq M.length L.length then false else solve f M) (L.filter fun x => Nat.beq (ansC x g) a)) (nextA L)

theorem numA_eq (a : Nat) : ∀ l : List Nat, numA a l = l.count a
  | [] => rfl
  | b :: l => by
    rw [numA, numA_eq a l, List.count_cons]
    by_cases h : b = a
    · subst h; simp
    · have : Nat.beq a b = false := by
        cases e : Nat.beq a b
        · rfl
        · exact absurd (Nat.eq_of_beq_eq_true e).symm h
      rw [this]
      simp [h]
theorem maxA_le {l : List Nat} {W : Nat} (h : ∀ a, l.count a ≤ W) : ∀ t, maxA l t ≤ W
  | [] => Nat.zero_le _
  | a :: t => by
    have h1 := maxA_le h t
    have h2 := h a
    rw [maxA, numA_eq]
    exact Nat.max_le.2 ⟨h2, h1⟩
theorem maxA_ge {l : List Nat} {a : Nat} : ∀ {t : List Nat}, a ∈ t → l.count a ≤ maxA l t
  | [], h => by cases h
  | b :: t, h => by
    rw [maxA, numA_eq]
    rcases List.mem_cons.1 h with rfl | h
    · exact Nat.le_max_left _ _
    · exact Nat.le_trans (maxA_ge h) (Nat.le_max_right _ _)
theorem worstK_least (ws : List (Int × Int)) (W : Nat) (h : ∀ a, ws.count a ≤ W) : ∀ k, worstK ws k ≤ W
  | 0 => Nat.zero_le _
  | k + 1 => by
    have h1 := worstK_least ws W h k
    have h2 := h (ws.getD k (0, 0))
    have h3 : (ws.take (k + 1)).count (ws.getD k (0, 0)) ≤ ws.count (ws.getD k (0, 0)) := (List.take_sublist _ _).count_le _
    rw [worstK]
    omega

section
variable {n c : Nat} {x y z : List Int}
theorem ansC_bounds (hx : CodeP n c x) (hy : CodeP n c y) : rightN x y x.length ≤ 3 ∧ bothN x y 5 ≤ 3 := by
  have h1 := right_le x y x.length
  have h2 := both_len (x := x) (y := y) (c := 5)
  have h3 := hx.2.1
  have h4 := hx.1.1
  omega
theorem ansC_mem (hx : CodeP n c x) (hy : CodeP n c y) : ansC x y ∈ all16 := by
  obtain ⟨h1, h2⟩ := ansC_bounds hx hy
  unfold ansC all16
  generalize rightN x y x.length = r at h1 ⊢
  generalize bothN x y 5 = b at h2 ⊢
  have hr : r = 0 ∨ r = 1 ∨ r = 2 ∨ r = 3 := by omega
  have hb : b = 0 ∨ b = 1 ∨ b = 2 ∨ b = 3 := by omega
  rcases hr with rfl | rfl | rfl | rfl <;> rcases hb with rfl | rfl | rfl | rfl <;> decide
theorem ansC_iff (hx : CodeP n c x) (hz : CodeP n c z) (hy : CodeP n c y) : ansC x y = ansC z y ↔ ansZ x y = ansZ z y := by
  obtain ⟨h1, h2⟩ := ansC_bounds hx hy
  obtain ⟨h3, h4⟩ := ansC_bounds hz hy
  unfold ansC ansZ rightZ nearZ
  rw [Prod.mk.injEq]
  omega
end

theorem count_map {n c : Nat} {L : List (List Int)} {g x : List Int} (hL : ∀ x ∈ L, CodeP n c x) (hg : CodeP n c g) (hx : CodeP n c x) : (L.map fun z => ansC z g).count (ansC x g) = (L.map fun z => ansZ z g).count (ansZ x g) := by
  induction L with
  | nil => rfl
  | cons z L ih =>
    have ih := ih fun y hy => hL y (List.mem_cons_of_mem _ hy)
    have hz := hL z (List.mem_cons_self ..)
    have hi := ansC_iff hz hx hg
    rw [List.map_cons, List.map_cons, List.count_cons, List.count_cons, ih]
    by_cases e : ansC z g = ansC x g
    · rw [e, hi.1 e]; simp
    · have e2 : ¬ ansZ z g = ansZ x g := fun h => e (hi.2 h)
      simp [e, e2]
theorem worst_eq {n c : Nat} {L : List (List Int)} {g : List Int} (hL : ∀ x ∈ L, CodeP n c x) (hg : CodeP n c g) : worstA L g = worstN L g := by
  refine Nat.le_antisymm ?_ ?_
  · refine maxA_le (fun a => ?_) _
    by_cases h : ∃ x ∈ L, ansC x g = a
    · obtain ⟨x, hx, rfl⟩ := h
      rw [count_map hL hg (hL x hx)]
      have := count_worst (L.map fun z => ansZ z g) (ansZ x g) (L.map fun z => ansZ z g).length (Nat.le_refl _)
      rw [List.take_length, List.length_map] at this
      exact this
    · have : (L.map fun z => ansC z g).count a = 0 := by
        rw [List.count_eq_zero]
        intro hm
        obtain ⟨x, hx, e⟩ := List.mem_map.1 hm
        exact h ⟨x, hx, e⟩
      omega
  · refine worstK_least _ _ (fun a => ?_) _
    by_cases h : ∃ x ∈ L, ansZ x g = a
    · obtain ⟨x, hx, rfl⟩ := h
      rw [← count_map hL hg (hL x hx)]
      exact maxA_ge (ansC_mem (hL x hx) hg)
    · have : (L.map fun z => ansZ z g).count a = 0 := by
        rw [List.count_eq_zero]
        intro hm
        obtain ⟨x, hx, e⟩ := List.mem_map.1 hm
        exact h ⟨x, hx, e⟩
      omega
theorem bestA_eq {n c : Nat} {L : List (List Int)} (hL : ∀ x ∈ L, CodeP n c x) : ∀ (t : List (List Int)) (k : Nat) (g : List Int) (w : Nat), k ≤ L.length → L.drop k = t → bestK L k = (g, (w : Int)) → bestA L t g w = (bestK L L.length).1
  | [], k, g, w, hk0, hd, hb => by
    have hk : L.length ≤ k := List.drop_eq_nil_iff.1 hd
    rw [bestA, show L.length = k by omega, hb]
  | x :: t, k, g, w, hk0, hd, hb => by
    have hk : k < L.length := by
      rcases Nat.lt_or_ge k L.length with h | h
      · exact h
      · rw [List.drop_eq_nil_iff.2 h] at hd; cases hd
    have hx : L[k] = x := by rw [List.drop_eq_getElem_cons hk] at hd; injection hd
    have ht : L.drop (k + 1) = t := by rw [List.drop_eq_getElem_cons hk] at hd; injection hd
    have hw : worstA L x = worstN L x := worst_eq hL (hL x (by rw [← hx]; exact List.getElem_mem hk))
    have e : L.getD k [] = x := by rw [← hx]; simp [List.getD, List.getElem?_eq_getElem hk]
    show (bif Nat.ble w (worstA L x) then bestA L t g w else bestA L t x (worstA L x)) = _
    rw [hw]
    by_cases hle : w ≤ worstN L x
    · rw [Nat.ble_eq_true_of_le hle]
      refine bestA_eq hL t (k + 1) g w (by omega) ht ?_
      rw [bestK, hb, e, if_neg (by simp; omega)]
    · have hf : Nat.ble w (worstN L x) = false := by
        cases hq : Nat.ble w (worstN L x)
        · rfl
        · exact absurd (Nat.le_of_ble_eq_true hq) hle
      rw [hf]
      refine bestA_eq hL t (k + 1) x (worstN L x) (by omega) ht ?_
      rw [bestK, hb, e, if_pos (by simp; omega)]

theorem fit_codes' {n c : Nat} {gs : List Gs} : ∀ x ∈ fitL n c gs, CodeP n c x := fun x hx => (fitL_mem.1 hx).2.1
theorem gameK_step' {p c : Int} {x : List Int} {out : List Gs} (h : out.length < 9) :
    gameK p c x (9 - out.length) out = if (stepG p c x out).right = p then out ++ [stepG p c x out] else gameK p c x (9 - (out ++ [stepG p c x out]).length) (out ++ [stepG p c x out]) := by
  obtain ⟨k, hk⟩ : ∃ k, 9 - out.length = k + 1 := ⟨8 - out.length, by omega⟩
  have e : 9 - (out ++ [stepG p c x out]).length = k := by simp; omega
  rw [hk, gameK, e]
theorem nextA_eq {n c : Nat} {L : List (List Int)} (hL : ∀ x ∈ L, CodeP n c x) (hlen : L.length ≤ 125) : nextA L = nextL L := by
  unfold nextA nextL
  cases h : L with
  | nil => rfl
  | cons x t =>
    rw [← h]
    have hx : CodeP n c x := hL x (by rw [h]; exact List.mem_cons_self ..)
    have hw : worstA L x = worstN L x := worst_eq hL hx
    have hwl := worstN_le L x
    have hf : Nat.ble 1000 (worstN L x) = false := by
      cases hq : Nat.ble 1000 (worstN L x)
      · rfl
      · have := Nat.le_of_ble_eq_true hq; omega
    have e : bestA L L [] 1000 = bestA L t x (worstN L x) := by
      conv => lhs; arg 2; rw [h]
      show (bif Nat.ble 1000 (worstA L x) then bestA L t [] 1000 else bestA L t x (worstA L x)) = _
      rw [hw, hf]; rfl
    rw [e]
    refine bestA_eq hL t 1 x (worstN L x) (by rw [h]; simp) (by rw [h]; rfl) ?_
    rw [bestK_one, h]
    rfl

theorem fitL_snoc {n c : Nat} {x : List Int} {out : List Gs} (h : GameInv n c x out) (hx : CodeP n c x) (hl : out.length ≤ 8) :
    fitL n c (out ++ [stepG n c x out]) = (fitL n c out).filter fun y => Nat.beq (ansC y (nextL (fitL n c out))) (ansC x (nextL (fitL n c out))) := by
  have hs := h.step hx (by omega)
  have hnx := (h.next hx (by omega)).2
  have g1 : guessesB n c out = true := by
    unfold guessesB
    rw [codesB_iff.2 hx.1, decide_eq_true (by omega)]
    simpa using h.1
  have g2 : guessesB n c (out ++ [stepG n c x out]) = true := by
    unfold guessesB
    rw [codesB_iff.2 hx.1, decide_eq_true (by simp; omega)]
    simp only [Bool.true_and, List.all_eq_true]
    exact hs.1
  have e : fitL n c out = (allP n c).filter (fun x => fitsB x out) := by unfold fitL; rw [if_pos g1]
  have e2 : fitL n c (out ++ [stepG n c x out]) = (allP n c).filter (fun y => fitsB y (out ++ [stepG n c x out])) := by unfold fitL; rw [if_pos g2]
  obtain ⟨g, hg⟩ : ∃ g, g = nextL (fitL n c out) := ⟨_, rfl⟩
  have hst : stepG n c x out = ⟨g, rightZ x g, nearZ x g⟩ := by rw [hg]; rfl
  rw [← hg] at hnx ⊢
  rw [hst] at e2 ⊢
  rw [e2, e, List.filter_filter]
  refine List.filter_congr fun y hy => ?_
  have hcy := (allP_mem hx.1).1 hy
  unfold fitsB
  rw [List.all_append, Bool.and_comm]
  congr 1
  have hi := ansC_iff hcy hx hnx
  by_cases hq : ansC y g = ansC x g
  · rw [hq, Nat.beq_refl]
    have := hi.1 hq
    unfold ansZ at this
    rw [Prod.mk.injEq] at this
    simp [this.1, this.2]
  · have hb : Nat.beq (ansC y g) (ansC x g) = false := by
      cases hz : Nat.beq (ansC y g) (ansC x g)
      · rfl
      · exact absurd (Nat.eq_of_beq_eq_true hz) hq
    rw [hb]
    have : ¬ (rightZ y g = rightZ x g ∧ nearZ y g = nearZ x g) := fun k => hq (hi.2 (by unfold ansZ; rw [k.1, k.2]))
    simp only [List.all_cons, List.all_nil, Bool.and_true]
    exact decide_eq_false this

/-- How a game that ends well ends. -/
def Ends (n c : Nat) (x : List Int) (L : List Gs) : Prop := ∃ pre, L = pre ++ [stepG n c x pre] ∧ GameInv n c x pre ∧ pre.length ≤ 8 ∧ nextL (fitL n c pre) = x ∧ (∀ j (h : j < pre.length), pre[j].right ≠ n) ∧ ∀ j (h : j < pre.length), pre[j] = stepG n c x (pre.take j)
theorem ends_now {n c : Nat} {x : List Int} {out : List Gs} (h : GameInv n c x out) (hx : CodeP n c x) (hl : out.length ≤ 8) (hno : ∀ j (h : j < out.length), out[j].right ≠ n) (hst : ∀ j (h : j < out.length), out[j] = stepG n c x (out.take j)) (he : (stepG n c x out).right = n) : Ends n c x (gameK n c x (9 - out.length) out) := by
  rw [gameK_step' (by omega), if_pos he]
  exact ⟨out, rfl, h, hl, ((ans_self hx (h.next hx (by omega)).2).1 he).symm, hno, hst⟩
theorem solve_ends {n c : Nat} {x : List Int} (hx : CodeP n c x) : ∀ (f : Nat) (out : List Gs), GameInv n c x out → out.length + f ≤ 8 → (∀ j (h : j < out.length), out[j].right ≠ n) → (∀ j (h : j < out.length), out[j] = stepG n c x (out.take j)) → solve f (fitL n c out) = true → Ends n c x (gameK n c x (9 - out.length) out)
  | 0, out, h, hl, hno, hst, hs => by cases hs
  | f + 1, out, h, hl, hno, hst, hs => by
    have hmem := h.fit hx (by omega)
    have hlen := fitL_len (n : Int) (c : Int) out
    have hnA := nextA_eq (fit_codes' (n := n) (c := c) (gs := out)) hlen
    by_cases he : (stepG n c x out).right = n
    · exact ends_now h hx (by omega) hno hst he
    · have hg := (h.next hx (by omega)).2
      have hs2 : all16.all (fun a => (fun M => match M with | [] => true | [x] => true | M => bif Nat.beq M.length (fitL n c out).length then false else solve f M) ((fitL n c out).filter fun x => Nat.beq (ansC x (nextA (fitL n c out))) a)) = true := hs
      rw [List.all_eq_true] at hs2
      have hs3 := hs2 (ansC x (nextL (fitL n c out))) (ansC_mem hx hg)
      rw [hnA] at hs3
      have hsn := fitL_snoc h hx (by omega)
      rw [← hsn] at hs3
      have hinv := h.step hx (by omega)
      have hno' : ∀ j (h : j < (out ++ [stepG n c x out]).length), (out ++ [stepG n c x out])[j].right ≠ n := fun j hj => by
        by_cases hj2 : j < out.length
        · rw [List.getElem_append_left hj2]; exact hno j hj2
        · have : j = out.length := by simp at hj; omega
          subst this
          simpa using he
      have hst' : ∀ j (h : j < (out ++ [stepG n c x out]).length), (out ++ [stepG n c x out])[j] = stepG n c x ((out ++ [stepG n c x out]).take j) := fun j hj => by
        by_cases hj2 : j < out.length
        · rw [List.getElem_append_left hj2, List.take_append_of_le_length (by omega)]; exact hst j hj2
        · have : j = out.length := by simp at hj; omega
          subst this
          simp
      have hm2 := hinv.fit hx (by simp; omega)
      rw [gameK_step' (by omega), if_neg he]
      have hle2 : (out ++ [stepG n c x out]).length ≤ 8 := by simp; omega
      dsimp only at hs3
      split at hs3
      · rename_i hM; rw [hM] at hm2; cases hm2
      · rename_i z hM
        have hz : z = x := by rw [hM] at hm2; exact (List.mem_singleton.1 hm2).symm
        subst hz
        refine ends_now hinv hx hle2 hno' hst' ?_
        have e : nextL (fitL n c (out ++ [stepG n c z out])) = z := by rw [hM]; rfl
        show rightZ z (nextL (fitL n c (out ++ [stepG n c z out]))) = n
        rw [e]
        exact (ans_self hx hx).2 rfl
      · cases hb : Nat.beq (fitL n c (out ++ [stepG n c x out])).length (fitL n c out).length
        · rw [hb] at hs3
          exact solve_ends hx f _ hinv (by simp; omega) hno' hst' hs3
        · rw [hb] at hs3; cases hs3

theorem solved_11 : solve 8 (allL 1 1) = true := by decide +kernel
theorem solved_21 : solve 8 (allL 2 1) = true := by decide +kernel
theorem solved_31 : solve 8 (allL 3 1) = true := by decide +kernel
theorem solved_41 : solve 8 (allL 4 1) = true := by decide +kernel
theorem solved_12 : solve 8 (allL 1 2) = true := by decide +kernel
theorem solved_22 : solve 8 (allL 2 2) = true := by decide +kernel
theorem solved_32 : solve 8 (allL 3 2) = true := by decide +kernel
theorem solved_42 : solve 8 (allL 4 2) = true := by decide +kernel
theorem solved_13 : solve 8 (allL 1 3) = true := by decide +kernel
theorem solved_23 : solve 8 (allL 2 3) = true := by decide +kernel
theorem solved_33 : solve 8 (allL 3 3) = true := by decide +kernel
theorem solved_43 : solve 8 (allL 4 3) = true := by decide +kernel
theorem game_ends {n c : Nat} {x : List Int} (hx : CodeP n c x) (hn : n ≤ 3) (hc : c ≤ 4) : Ends n c x (gameL n c x) := by
  have hg : guessesB n c [] = true := by unfold guessesB; rw [codesB_iff.2 hx.1]; rfl
  have hf : fitL n c [] = allL c n := by
    unfold fitL
    rw [if_pos hg]
    unfold allP
    simp [fitsB]
  have hs : solve 8 (allL c n) = true := by
    have hn1 := hx.1.1.1
    have hc1 := hx.1.2.1
    have hnn : n = 1 ∨ n = 2 ∨ n = 3 := by omega
    have hcc : c = 1 ∨ c = 2 ∨ c = 3 ∨ c = 4 := by omega
    rcases hnn with rfl | rfl | rfl
    · rcases hcc with rfl | rfl | rfl | rfl
      · exact solved_11
      · exact solved_21
      · exact solved_31
      · exact solved_41
    · rcases hcc with rfl | rfl | rfl | rfl
      · exact solved_12
      · exact solved_22
      · exact solved_32
      · exact solved_42
    · rcases hcc with rfl | rfl | rfl | rfl
      · exact solved_13
      · exact solved_23
      · exact solved_33
      · exact solved_43
  unfold gameL
  rw [if_pos (codeOkB_iff.2 hx)]
  exact solve_ends hx 8 [] (GameInv.start _ _ _) (by simp) (fun j h => by simp at h) (fun j h => by simp at h) (by rw [hf]; exact hs)

theorem GameInv.take {n c : Nat} {x : List Int} {out : List Gs} (h : GameInv n c x out) (k : Nat) : GameInv n c x (out.take k) := by
  refine ⟨fun g hg => h.1 g (List.mem_of_mem_take hg), ?_⟩
  have := h.2
  unfold fitsB at this ⊢
  rw [List.all_eq_true] at this ⊢
  exact fun g hg => this g (List.mem_of_mem_take hg)
theorem fits_at {x : List Int} {out : List Gs} (h : fitsB x out = true) {j : Nat} (hj : j < out.length) : rightZ x out[j].code = out[j].right := by
  unfold fitsB at h
  rw [List.all_eq_true] at h
  exact (of_decide_eq_true (h _ (List.getElem_mem hj))).1
theorem ends_facts {n c : Nat} {x : List Int} {L : List Gs} (hx : CodeP n c x) (h : Ends n c x L) : ∃ (hp : 0 < L.length), L.length ≤ 9 ∧ (L[L.length - 1]'(by omega)).code = x ∧ x ∈ fitL n c L ∧ (∀ j k (hj : j < k) (hk : k < L.length), (L[j]'(by omega)).code ≠ L[k].code) ∧ ∀ g ∈ L, CodeP n c g.code := by
  obtain ⟨pre, rfl, hinv, hl, hnx, hno, hst⟩ := h
  have hstep := hinv.step hx (by omega)
  refine ⟨by simp, by simp; omega, ?_, hstep.fit hx (by simp; omega), fun j k hj hk => ?_, fun g hg => ?_⟩
  · simp [stepG, hnx]
  · have hjp : j < pre.length := by simp at hk; omega
    rw [List.getElem_append_left hjp]
    intro he
    by_cases hkp : k < pre.length
    · rw [List.getElem_append_left hkp, hst k hkp] at he
      have hn := (hinv.take k).next hx (by simp; omega)
      have hf := (fitL_mem.1 hn.1).2.2
      have hj2 : j < (pre.take k).length := by simp; omega
      have hr := fits_at hf hj2
      simp only [List.getElem_take] at hr
      have he2 : pre[j].code = nextL (fitL n c (pre.take k)) := he
      rw [he2] at hr
      exact hno j hjp (by rw [← hr]; exact (ans_self hn.2 hn.2).2 rfl)
    · have hk2 : k = pre.length := by simp at hk; omega
      subst hk2
      have he2 : pre[j].code = x := by rw [he]; simp [stepG, hnx]
      have hr := fits_at hinv.2 hjp
      rw [he2] at hr
      exact hno j hjp (by rw [← hr]; exact (ans_self hx hx).2 rfl)
  · have := hstep.1 g hg
    unfold guessOkB at this
    rw [Bool.and_eq_true] at this
    exact codeOkB_iff.1 this.1

end Go.Proofs.Ytkjdlpbfalojdaa
