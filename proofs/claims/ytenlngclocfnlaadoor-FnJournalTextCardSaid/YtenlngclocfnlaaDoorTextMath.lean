/- The texts of deeds and journals, and what is read of them. Plain: no program is walked here. -/
import Derived.Test.YtenlngclocfnlaaDoorDoMath
namespace Go.Proofs.YtenlngclocfnlaaDoor
set_option linter.unusedVariables false

/-- A digit's byte. -/
def dg (n : Int) : UInt8 := UInt8.ofNat (48 + n.toNat)
/-- The number of a digit's byte. -/
def ud (b : UInt8) : Int := (b.toNat : Int) - 48
/-- Is a byte a digit's? -/
def isD (b : UInt8) : Bool := decide (48 ≤ b.toNat) && decide (b.toNat ≤ 57)
def wordBack : List UInt8 := [98, 97, 99, 107]
def wordGuess : List UInt8 := [103, 117, 101, 115, 115]
/-- Has a guess a text? -/
def textOk (xs : List Int) (r n : Int) : Bool := inB xs.length 1 3 && xs.all (fun x => inB x 0 9) && inB r 0 9 && inB n 0 9
def guessText (xs : List Int) (r n : Int) : List UInt8 := wordGuess ++ 32 :: (xs.map dg ++ 32 :: (dg r :: 32 :: [dg n]))
/-- The text of a deed; empty if it has none. -/
def textD (d : Dd) : List UInt8 :=
  if d.back = true then (if nothingB d.code d.right d.near = true then wordBack else []) else if textOk d.code d.right d.near = true then guessText d.code d.right d.near else []
/-- The text of deeds, if each has one. -/
def textJ (ds : List Dd) : List UInt8 := if ds.all (fun d => decide (textD d ≠ [])) = true then ds.flatMap (fun d => textD d ++ [10]) else []

theorem inB_iff {x lo hi : Int} : inB x lo hi = true ↔ lo ≤ x ∧ x ≤ hi := by simp [inB]
theorem dg_toNat {n : Int} (h : inB n 0 9 = true) : (dg n).toNat = 48 + n.toNat := by
  obtain ⟨h1, h2⟩ := inB_iff.1 h
  unfold dg
  rw [UInt8.toNat_ofNat']
  omega
theorem isD_dg {n : Int} (h : inB n 0 9 = true) : isD (dg n) = true := by
  obtain ⟨h1, h2⟩ := inB_iff.1 h
  simp only [isD, dg_toNat h, Bool.and_eq_true, decide_eq_true_eq]
  omega
theorem ud_dg {n : Int} (h : inB n 0 9 = true) : ud (dg n) = n := by
  obtain ⟨h1, h2⟩ := inB_iff.1 h
  unfold ud
  rw [dg_toNat h]
  omega
theorem dg_ne32 {n : Int} (h : inB n 0 9 = true) : dg n ≠ 32 := by
  intro e
  have := dg_toNat h
  rw [e] at this
  have h2 : (32 : UInt8).toNat = 32 := rfl
  omega
theorem dg_ne10 {n : Int} (h : inB n 0 9 = true) : dg n ≠ 10 := by
  intro e
  have := dg_toNat h
  rw [e] at this
  have h2 : (10 : UInt8).toNat = 10 := rfl
  omega
theorem isD_ne32 {b : UInt8} (h : isD b = true) : b ≠ 32 := by
  rintro rfl
  exact absurd h (by decide)
theorem in_ud {b : UInt8} (h : isD b = true) : inB (ud b) 0 9 = true := by
  simp only [isD, Bool.and_eq_true, decide_eq_true_eq] at h
  rw [inB_iff]
  unfold ud
  omega
theorem dg_ud {b : UInt8} (h : isD b = true) : dg (ud b) = b := by
  have h' := h
  simp only [isD, Bool.and_eq_true, decide_eq_true_eq] at h
  apply UInt8.toNat_inj.1
  rw [dg_toNat (in_ud h')]
  unfold ud
  omega
theorem map_ud_dg : ∀ {xs : List Int}, xs.all (fun x => inB x 0 9) = true → (xs.map dg).map ud = xs
  | [], _ => rfl
  | x :: xs, h => by
    rw [List.all_cons, Bool.and_eq_true] at h
    simp only [List.map_cons, ud_dg h.1, map_ud_dg h.2]
theorem all_isD : ∀ {xs : List Int}, xs.all (fun x => inB x 0 9) = true → (xs.map dg).all isD = true
  | [], _ => rfl
  | x :: xs, h => by
    rw [List.all_cons, Bool.and_eq_true] at h
    simp only [List.map_cons, List.all_cons, isD_dg h.1, all_isD h.2, Bool.and_self]
theorem no32 {xs : List Int} (h : xs.all (fun x => inB x 0 9) = true) : ∀ b ∈ xs.map dg, b ≠ 32 := by
  intro b hb
  obtain ⟨x, hx, rfl⟩ := List.mem_map.1 hb
  exact dg_ne32 (List.all_eq_true.1 h x hx)
theorem textOk_iff {xs : List Int} {r n : Int} : textOk xs r n = true ↔ (1 ≤ xs.length ∧ xs.length ≤ 3) ∧ xs.all (fun x => inB x 0 9) = true ∧ inB r 0 9 = true ∧ inB n 0 9 = true := by
  unfold textOk
  simp only [Bool.and_eq_true, inB_iff, and_assoc]
  constructor
  · rintro ⟨h1, h2, h3⟩; exact ⟨by omega, by omega, h3⟩
  · rintro ⟨h1, h2, h3⟩; exact ⟨by omega, by omega, h3⟩
/-- The words of a text: what stands between the bytes sep. -/
def words (sep : UInt8) : List UInt8 → List (List UInt8)
  | [] => [[]]
  | b :: t => if b = sep then [] :: words sep t else match words sep t with
    | [] => [[b]]
    | u :: us => (b :: u) :: us
theorem words_ne (sep : UInt8) : ∀ l, words sep l ≠ []
  | [] => by simp [words]
  | b :: t => by
    unfold words
    split
    · simp
    · split <;> simp
theorem words_app (sep : UInt8) : ∀ (u t : List UInt8), (∀ b ∈ u, b ≠ sep) → words sep (u ++ sep :: t) = u :: words sep t
  | [], t, _ => by simp [words]
  | b :: u, t, h => by
    rw [List.cons_append, words, if_neg (h b (by simp)), words_app sep u t (fun c hc => h c (by simp [hc]))]
theorem words_one (sep : UInt8) : ∀ (u : List UInt8), (∀ b ∈ u, b ≠ sep) → words sep u = [u]
  | [], _ => rfl
  | b :: u, h => by
    unfold words
    rw [if_neg (h b (by simp)), words_one sep u (fun c hc => h c (by simp [hc]))]
theorem words_text {xs : List Int} {r n : Int} (h : textOk xs r n = true) : words 32 (guessText xs r n) = [wordGuess, xs.map dg, [dg r], [dg n]] := by
  obtain ⟨_, h2, h3, h4⟩ := textOk_iff.1 h
  unfold guessText
  rw [words_app 32 wordGuess _ (by decide), words_app 32 _ _ (no32 h2)]
  have e : dg r :: 32 :: [dg n] = [dg r] ++ 32 :: [dg n] := rfl
  rw [e, words_app 32 _ _ (by intro b hb; rw [List.mem_singleton.1 hb]; exact dg_ne32 h3), words_one 32 _ (by intro b hb; rw [List.mem_singleton.1 hb]; exact dg_ne32 h4)]
theorem textD_undo : textD Dd.undo = wordBack := rfl
theorem textD_cases {d : Dd} (h : textD d ≠ []) : d = Dd.undo ∨ (d.back = false ∧ textOk d.code d.right d.near = true ∧ textD d = guessText d.code d.right d.near) := by
  unfold textD at h ⊢
  by_cases hb : d.back = true
  · rw [if_pos hb] at h
    by_cases hn : nothingB d.code d.right d.near = true
    · left
      unfold nothingB at hn
      rw [decide_eq_true_iff] at hn
      obtain ⟨a, b, c, e⟩ := d
      simp only at hb hn
      obtain ⟨rfl, rfl, rfl⟩ := hn
      subst hb
      rfl
    · rw [if_neg hn] at h; exact absurd rfl h
  · right
    rw [if_neg hb] at h ⊢
    by_cases ho : textOk d.code d.right d.near = true
    · rw [if_pos ho]
      exact ⟨by simpa using hb, ho, rfl⟩
    · rw [if_neg ho] at h; exact absurd rfl h
theorem guessText_ne (xs : List Int) (r n : Int) : guessText xs r n ≠ [] := by simp [guessText, wordGuess]
theorem textD_guess {xs : List Int} {r n : Int} (h : textOk xs r n = true) : textD ⟨false, xs, r, n⟩ = guessText xs r n := by
  unfold textD
  simp [h]
theorem textD_bad {xs : List Int} {r n : Int} (h : textOk xs r n = false) : textD ⟨false, xs, r, n⟩ = [] := by
  unfold textD
  simp [h]
/-- One text, one deed. -/
theorem textD_inj {d e : Dd} (h : textD d = textD e) (hn : textD d ≠ []) : d = e := by
  rcases textD_cases hn with rfl | ⟨h1, h2, h3⟩
  · rw [h] at hn
    rcases textD_cases hn with rfl | ⟨g1, g2, g3⟩
    · rfl
    · rw [textD_undo, g3] at h
      simp [wordBack, guessText, wordGuess] at h
  · rw [h] at hn
    rcases textD_cases hn with rfl | ⟨g1, g2, g3⟩
    · rw [textD_undo, h3] at h
      simp [wordBack, guessText, wordGuess] at h
    · rw [h3, g3] at h
      have hw := words_text h2
      rw [h, words_text g2] at hw
      simp only [List.cons.injEq, and_true, true_and] at hw
      obtain ⟨w1, w2, w3⟩ := hw
      obtain ⟨_, a2, a3, a4⟩ := textOk_iff.1 h2
      obtain ⟨_, b2, b3, b4⟩ := textOk_iff.1 g2
      have e1 := congrArg (List.map ud) w1
      rw [map_ud_dg a2, map_ud_dg b2] at e1
      have e2 := congrArg ud w2
      rw [ud_dg a3, ud_dg b3] at e2
      have e3 := congrArg ud w3
      rw [ud_dg a4, ud_dg b4] at e3
      obtain ⟨a, b, c, f⟩ := d
      obtain ⟨a', b', c', f'⟩ := e
      simp only at h1 g1 e1 e2 e3
      subst h1 g1 e1 e2 e3
      rfl
/-- The deed that a text is of. -/
def readD (l : List UInt8) : Option Dd :=
  if l = wordBack then some Dd.undo else
    match words 32 l with
    | [_, c, r, n] => match r, n with
      | [r], [n] => if textD ⟨false, c.map ud, ud r, ud n⟩ = l then some ⟨false, c.map ud, ud r, ud n⟩ else none
      | _, _ => none
    | _ => none
theorem readD_text {d : Dd} (h : textD d ≠ []) : readD (textD d) = some d := by
  rcases textD_cases h with rfl | ⟨h1, h2, h3⟩
  · rfl
  · rw [h3]
    obtain ⟨_, a2, a3, a4⟩ := textOk_iff.1 h2
    unfold readD
    rw [if_neg (by simp [wordBack, guessText, wordGuess]), words_text h2]
    simp only [map_ud_dg a2, ud_dg a3, ud_dg a4]
    rw [if_pos (textD_guess h2)]
    obtain ⟨a, b, c, f⟩ := d
    simp only at h1
    subst h1
    rfl
theorem readD_some {l : List UInt8} {d : Dd} (h : readD l = some d) (hl : l ≠ []) : textD d = l := by
  unfold readD at h
  split at h
  · rename_i e; cases h; exact e.symm
  · split at h
    · split at h
      · split at h
        · rename_i e; cases h; exact e
        · cases h
      · cases h
    · cases h
theorem readD_nil : readD [] = none := rfl
theorem readD_ne {l : List UInt8} {d : Dd} (h : readD l = some d) : l ≠ [] := by
  rintro rfl
  rw [readD_nil] at h
  cases h
theorem readD_iff {l : List UInt8} {d : Dd} : readD l = some d ↔ textD d = l ∧ l ≠ [] := by
  constructor
  · intro h; exact ⟨readD_some h (readD_ne h), readD_ne h⟩
  · rintro ⟨rfl, h⟩; exact readD_text h
theorem readD_none {l : List UInt8} (h : ∀ d, textD d = l → l = []) : readD l = none := by
  rcases e : readD l with _ | d
  · rfl
  · exact absurd (h d (readD_iff.1 e).1) (readD_iff.1 e).2
/-- With a space behind it a text is no deed's. -/
theorem readD_space {l : List UInt8} {d : Dd} (h : readD l = some d) : readD (l ++ [32]) = none := by
  obtain ⟨rfl, hn⟩ := readD_iff.1 h
  refine readD_none fun e he => ?_
  exfalso
  have hne : textD e ≠ [] := by rw [he]; simp
  have hlast : ∀ {d : Dd}, textD d ≠ [] → ∃ b, (textD d).getLast? = some b ∧ b ≠ 32 := by
    intro d hd
    rcases textD_cases hd with rfl | ⟨h1, h2, h3⟩
    · exact ⟨107, rfl, by decide⟩
    · rw [h3]
      refine ⟨dg d.near, ?_, dg_ne32 (textOk_iff.1 h2).2.2.2⟩
      unfold guessText
      simp [List.getLast?_append, List.getLast?_cons]
  obtain ⟨b, h1, h2⟩ := hlast hne
  rw [he] at h1
  simp at h1
  exact h2 h1.symm

/-- The deeds of the lines with which a text begins, and how many bytes these lines have; of the text's lines. -/
def readW : List (List UInt8) → List Dd × Nat
  | [] => ([], 0)
  | [_] => ([], 0)
  | u :: v :: t => match readD u with
    | none => ([], 0)
    | some d => (d :: (readW (v :: t)).1, u.length + 1 + (readW (v :: t)).2)
def readJ (l : List UInt8) : List Dd × Nat := readW (words 10 l)
theorem readJ_line {u t : List UInt8} (h : ∀ b ∈ u, b ≠ 10) : readJ (u ++ 10 :: t) = match readD u with
    | none => ([], 0)
    | some d => (d :: (readJ t).1, u.length + 1 + (readJ t).2) := by
  unfold readJ
  rw [words_app 10 u t h]
  rcases e : words 10 t with _ | ⟨v, w⟩
  · exact absurd e (words_ne 10 t)
  · rfl
theorem readJ_end {u : List UInt8} (h : ∀ b ∈ u, b ≠ 10) : readJ u = ([], 0) := by
  unfold readJ
  rw [words_one 10 u h]
  rfl
theorem readJ_yes {u t : List UInt8} {d : Dd} (h : ∀ b ∈ u, b ≠ 10) (hd : readD u = some d) : readJ (u ++ 10 :: t) = (d :: (readJ t).1, u.length + 1 + (readJ t).2) := by
  rw [readJ_line h, hd]
theorem readJ_no {u t : List UInt8} (h : ∀ b ∈ u, b ≠ 10) (hd : readD u = none) : readJ (u ++ 10 :: t) = ([], 0) := by
  rw [readJ_line h, hd]
/-- A text has a first line, or none. -/
theorem line_cases : ∀ l : List UInt8, (∀ b ∈ l, b ≠ 10) ∨ ∃ u t, l = u ++ 10 :: t ∧ ∀ b ∈ u, b ≠ 10
  | [] => .inl (by simp)
  | b :: l => by
    by_cases hb : b = 10
    · exact .inr ⟨[], l, by rw [hb]; rfl, by simp⟩
    · rcases line_cases l with h | ⟨u, t, h1, h2⟩
      · exact .inl (by intro c hc; exact (List.mem_cons.1 hc).elim (fun e => e ▸ hb) (h c))
      · exact .inr ⟨b :: u, t, by rw [h1]; rfl, by intro c hc; exact (List.mem_cons.1 hc).elim (fun e => e ▸ hb) (h2 c)⟩
theorem textD_no10 {d : Dd} : ∀ b ∈ textD d, b ≠ 10 := by
  by_cases h : textD d = []
  · rw [h]; simp
  · rcases textD_cases h with rfl | ⟨h1, h2, h3⟩
    · rw [textD_undo]; decide
    · obtain ⟨_, a2, a3, a4⟩ := textOk_iff.1 h2
      rw [h3]
      intro b hb
      simp only [guessText, wordGuess, List.mem_append, List.mem_cons, List.mem_map, List.not_mem_nil, or_false] at hb
      rcases hb with (rfl | rfl | rfl | rfl | rfl) | rfl | ⟨x, hx, rfl⟩ | rfl | rfl | rfl | rfl
      any_goals decide
      · exact dg_ne10 (List.all_eq_true.1 a2 x hx)
      · exact dg_ne10 a3
      · exact dg_ne10 a4
def linesJ (ds : List Dd) : List UInt8 := ds.flatMap (fun d => textD d ++ [10])
theorem linesJ_cons (d : Dd) (ds : List Dd) : linesJ (d :: ds) = textD d ++ 10 :: linesJ ds := by simp [linesJ]
theorem linesJ_app (a b : List Dd) : linesJ (a ++ b) = linesJ a ++ linesJ b := by simp [linesJ]
def allText (ds : List Dd) : Bool := ds.all (fun d => decide (textD d ≠ []))
theorem textJ_eq (ds : List Dd) : textJ ds = if allText ds = true then linesJ ds else [] := rfl
theorem allText_cons (d : Dd) (ds : List Dd) : allText (d :: ds) = true ↔ textD d ≠ [] ∧ allText ds = true := by simp [allText]
theorem readJ_lines : ∀ (ds : List Dd), allText ds = true → readJ (linesJ ds) = (ds, (linesJ ds).length)
  | [], _ => rfl
  | d :: ds, h => by
    obtain ⟨h1, h2⟩ := (allText_cons d ds).1 h
    rw [linesJ_cons, readJ_yes textD_no10 (readD_text h1), readJ_lines ds h2]
    simp only [List.length_append, List.length_cons, Prod.mk.injEq, true_and]
    omega
/-- What is read of a text: deeds with texts, and these are its beginning. -/
theorem readJ_spec (n : Nat) : ∀ l : List UInt8, l.length ≤ n → allText (readJ l).1 = true ∧ (readJ l).2 ≤ l.length ∧ linesJ (readJ l).1 = l.take (readJ l).2 := by
  induction n with
  | zero =>
    intro l hl
    have : l = [] := List.eq_nil_of_length_eq_zero (by omega)
    subst this
    exact ⟨rfl, Nat.le_refl _, rfl⟩
  | succ n ih =>
    intro l hl
    rcases line_cases l with h | ⟨u, t, rfl, h⟩
    · rw [readJ_end h]; exact ⟨rfl, Nat.zero_le _, rfl⟩
    · rcases e : readD u with _ | d
      · rw [readJ_no h e]; exact ⟨rfl, Nat.zero_le _, rfl⟩
      · rw [readJ_yes h e]
        simp only [List.length_append, List.length_cons] at hl
        obtain ⟨q1, q2, q3⟩ := ih t (by omega)
        obtain ⟨r1, r2⟩ := readD_iff.1 e
        refine ⟨(allText_cons _ _).2 ⟨by rw [r1]; exact r2, q1⟩, ?_, ?_⟩
        · simp only [List.length_append, List.length_cons]; omega
        · rw [linesJ_cons, r1, q3]
          simp only
          have e2 : u ++ 10 :: t = (u ++ [10]) ++ t := by simp
          have e3 : u.length + 1 + (readJ t).2 = (u ++ [10]).length + (readJ t).2 := by simp
          rw [e2, e3, List.take_length_add_append]
          simp
/-- Of a beginning of a text the first ones of its deeds are read. -/
theorem readJ_take (n : Nat) : ∀ (l : List UInt8) (k : Nat), l.length ≤ n → (readJ (l.take k)).1.length ≤ (readJ l).1.length ∧ (readJ (l.take k)).1 = (readJ l).1.take (readJ (l.take k)).1.length ∧ (readJ (l.take k)).2 ≤ k := by
  induction n with
  | zero =>
    intro l k hl
    have : l = [] := List.eq_nil_of_length_eq_zero (by omega)
    subst this
    simp [readJ, words, readW]
  | succ n ih =>
    intro l k hl
    rcases line_cases l with h | ⟨u, t, rfl, h⟩
    · rw [readJ_end (u := l.take k) (fun b hb => h b (List.mem_of_mem_take hb))]
      simp
    · by_cases hk : k ≤ u.length
      · rw [List.take_append_of_le_length hk, readJ_end (u := u.take k) (fun b hb => h b (List.mem_of_mem_take hb))]
        simp
      · obtain ⟨j, rfl⟩ : ∃ j, k = u.length + 1 + j := ⟨k - u.length - 1, by omega⟩
        have e2 : (u ++ 10 :: t).take (u.length + 1 + j) = u ++ 10 :: t.take j := by
          have e2 : u ++ 10 :: t = (u ++ [10]) ++ t := by simp
          have e3 : u.length + 1 + j = (u ++ [10]).length + j := by simp
          rw [e2, e3, List.take_length_add_append]
          simp
        rw [e2]
        rcases e : readD u with _ | d
        · rw [readJ_no h e, readJ_no h e]; simp
        · rw [readJ_yes h e, readJ_yes h e]
          simp only [List.length_append, List.length_cons] at hl
          obtain ⟨q1, q2, q3⟩ := ih t j (by omega)
          refine ⟨by simp only [List.length_cons]; omega, ?_, by simp only; omega⟩
          simp only [List.length_cons, List.take_succ_cons]
          rw [← q2]

end Go.Proofs.YtenlngclocfnlaaDoor
