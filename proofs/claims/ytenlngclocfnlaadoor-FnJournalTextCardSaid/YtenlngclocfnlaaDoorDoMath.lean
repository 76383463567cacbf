/- What deeds do to a desk. Plain: no program is walked here. -/
import Derived.Test.YtenlngclocfnlaaDoorBunE
import Derived.Test.YtenlngclocfnlaaDoorBunF
namespace Go.Proofs.YtenlngclocfnlaaDoor
set_option linter.unusedVariables false

/-- A deed. -/
structure Dd where
  back : Bool
  code : List Int
  right : Int
  near : Int
/-- The guess that a deed bears. -/
def Dd.gs (d : Dd) : Gs := ⟨d.code, d.right, d.near⟩
/-- The deed that takes back. -/
def Dd.undo : Dd := ⟨true, [], 0, 0⟩

theorem deskB_iff {p c : Int} {gs : List Gs} : deskB p c gs = true ↔ ∃ x, x ∈ fitL p c gs := by
  unfold deskB
  rw [decide_eq_true_iff, List.length_pos_iff_exists_mem]
theorem guesses_take {p c : Int} {gs : List Gs} (h : guessesB p c gs = true) (k : Nat) : guessesB p c (gs.take k) = true := by
  unfold guessesB at h ⊢
  rw [Bool.and_eq_true, Bool.and_eq_true, decide_eq_true_iff, List.all_eq_true] at h ⊢
  exact ⟨h.1, by rw [List.length_take]; omega, fun g hg => h.2.2 g (List.mem_of_mem_take hg)⟩
theorem fits_take {x : List Int} {gs : List Gs} (h : fitsB x gs = true) (k : Nat) : fitsB x (gs.take k) = true := by
  unfold fitsB at h ⊢
  rw [List.all_eq_true] at h ⊢
  exact fun g hg => h g (List.mem_of_mem_take hg)
theorem deskB_take {p c : Int} {gs : List Gs} (h : deskB p c gs = true) (k : Nat) : deskB p c (gs.take k) = true := by
  obtain ⟨x, hx⟩ := deskB_iff.1 h
  obtain ⟨h1, h2, h3⟩ := fitL_mem.1 hx
  exact deskB_iff.2 ⟨x, fitL_mem.2 ⟨guesses_take h1 k, h2, fits_take h3 k⟩⟩
theorem deskB_len {p c : Int} {gs : List Gs} (h : deskB p c gs = true) : gs.length ≤ 9 := by
  obtain ⟨x, hx⟩ := deskB_iff.1 h
  have h1 := (fitL_mem.1 hx).1
  unfold guessesB at h1
  rw [Bool.and_eq_true, Bool.and_eq_true, decide_eq_true_iff] at h1
  exact h1.2.1
theorem fitL_take_len {p c : Int} {gs : List Gs} (h : deskB p c gs = true) (k : Nat) : (fitL p c gs).length ≤ (fitL p c (gs.take k)).length := by
  obtain ⟨x, hx⟩ := deskB_iff.1 h
  have hg := (fitL_mem.1 hx).1
  unfold fitL
  rw [if_pos hg, if_pos (guesses_take hg k), ← List.countP_eq_length_filter, ← List.countP_eq_length_filter]
  exact List.countP_mono_left fun x _ hx => fits_take hx k

/-- The guesses behind a deed, and whether it was done. -/
def doneG (p c : Int) (gs : List Gs) (d : Dd) : List Gs × Bool :=
  if d.back = true then (if nothingB d.code d.right d.near = true ∧ 0 < gs.length then (gs.take (gs.length - 1), true) else (gs, false))
  else if deskB p c (gs ++ [d.gs]) = true then (gs ++ [d.gs], true) else (gs, false)
theorem done_back {p c : Int} {gs : List Gs} {xs : List Int} {r n : Int} (h : nothingB xs r n = true) (hl : 0 < gs.length) : doneG p c gs ⟨true, xs, r, n⟩ = (gs.take (gs.length - 1), true) := by
  unfold doneG; rw [if_pos rfl, if_pos ⟨h, hl⟩]
theorem done_bad {p c : Int} {gs : List Gs} {xs : List Int} {r n : Int} (h : nothingB xs r n = false) : doneG p c gs ⟨true, xs, r, n⟩ = (gs, false) := by
  unfold doneG; rw [if_pos rfl, if_neg (by simp [h])]
theorem done_none {p c : Int} {gs : List Gs} {xs : List Int} {r n : Int} (hl : gs.length = 0) : doneG p c gs ⟨true, xs, r, n⟩ = (gs, false) := by
  unfold doneG; rw [if_pos rfl, if_neg (by omega)]
theorem done_yes {p c : Int} {gs : List Gs} {xs : List Int} {r n : Int} (h : deskB p c (gs ++ [⟨xs, r, n⟩]) = true) : doneG p c gs ⟨false, xs, r, n⟩ = (gs ++ [⟨xs, r, n⟩], true) := by
  unfold doneG; rw [if_neg (by simp)]; exact if_pos h
theorem done_no {p c : Int} {gs : List Gs} {xs : List Int} {r n : Int} (h : deskB p c (gs ++ [⟨xs, r, n⟩]) = false) : doneG p c gs ⟨false, xs, r, n⟩ = (gs, false) := by
  unfold doneG; rw [if_neg (by simp)]; exact if_neg (by simp [Dd.gs, h])
theorem done_desk {p c : Int} {gs : List Gs} {d : Dd} (h : deskB p c gs = true) : deskB p c (doneG p c gs d).1 = true := by
  unfold doneG
  split
  · split
    · exact deskB_take h _
    · exact h
  · split
    · assumption
    · exact h
theorem done_len {p c : Int} {gs : List Gs} {d : Dd} : (doneG p c gs d).1.length ≤ gs.length + 1 := by
  unfold doneG
  split
  · split
    · simp; omega
    · simp
  · split <;> simp
theorem done_same {p c : Int} {gs : List Gs} {d : Dd} (h : (doneG p c gs d).2 = false) : (doneG p c gs d).1 = gs := by
  revert h
  unfold doneG
  split
  · split <;> simp
  · split <;> simp
/-- What is written down is taken back. -/
theorem done_undo {p c : Int} {gs : List Gs} {d : Dd} (hb : d.back = false) (h : (doneG p c gs d).2 = true) : doneG p c (doneG p c gs d).1 Dd.undo = (gs, true) ∧ deskB p c gs = true ∧ (fitL p c (doneG p c gs d).1).length ≤ (fitL p c gs).length := by
  revert h
  unfold doneG
  rw [if_neg (by simp [hb])]
  split
  · rename_i hd
    intro _
    have e : (gs ++ [d.gs]).take gs.length = gs := by simp
    refine ⟨?_, ?_, ?_⟩
    · exact (done_back (p := p) (c := c) (gs := gs ++ [d.gs]) (xs := []) (r := 0) (n := 0) (by simp [nothingB]) (by simp)).trans (by simp)
    · have := deskB_take hd gs.length; rwa [e] at this
    · have := fitL_take_len hd gs.length; rwa [e] at this
  · intro h; cases h

/-- A desk's guesses behind deeds, and how many were done. -/
def runG (p c : Int) : List Gs → List Dd → List Gs × Nat
  | gs, [] => (gs, 0)
  | gs, d :: t => ((runG p c (doneG p c gs d).1 t).1, (runG p c (doneG p c gs d).1 t).2 + if (doneG p c gs d).2 = true then 1 else 0)
theorem run_app (p c : Int) : ∀ (a : List Dd) (gs : List Gs) (b : List Dd), (runG p c gs (a ++ b)).1 = (runG p c (runG p c gs a).1 b).1 ∧ (runG p c gs (a ++ b)).2 = (runG p c gs a).2 + (runG p c (runG p c gs a).1 b).2
  | [], gs, b => by simp [runG]
  | d :: t, gs, b => by
    have h := run_app p c t (doneG p c gs d).1 b
    simp only [List.cons_append, runG]
    exact ⟨h.1, by rw [h.2]; omega⟩
theorem run_desk {p c : Int} : ∀ (a : List Dd) (gs : List Gs), deskB p c gs = true → deskB p c (runG p c gs a).1 = true
  | [], gs, h => h
  | d :: t, gs, h => run_desk t _ (done_desk h)
theorem run_le (p c : Int) : ∀ (a : List Dd) (gs : List Gs), (runG p c gs a).2 ≤ a.length
  | [], gs => Nat.le_refl _
  | d :: t, gs => by
    have := run_le p c t (doneG p c gs d).1
    simp only [runG, List.length_cons]
    split <;> omega
theorem run_next {p c : Int} {gs : List Gs} {l : List Dd} {k : Nat} (h : k < l.length) : (runG p c gs (l.take (k + 1))).1 = (doneG p c (runG p c gs (l.take k)).1 l[k]).1 ∧
    (runG p c gs (l.take (k + 1))).2 = (runG p c gs (l.take k)).2 + if (doneG p c (runG p c gs (l.take k)).1 l[k]).2 = true then 1 else 0 := by
  rw [List.take_succ_eq_append_getElem h]
  have := run_app p c (l.take k) gs [l[k]]
  simp only [runG] at this
  exact ⟨this.1, by rw [this.2]; omega⟩

end Go.Proofs.YtenlngclocfnlaaDoor
