/- Texts cut at a byte: the library's words against the plain ones. No program is walked here. -/
import Derived.Test.YtenlngclocfnlaaDoorTextMath
import Derived.Lib.SplitLaws
namespace Go.Proofs.YtenlngclocfnlaaDoor
open Go
set_option linter.unusedVariables false

theorem byte_in (c : UInt8) : ∀ (u t : List UInt8), (∀ b ∈ u, b ≠ c) → Lib.indexByte (u ++ c :: t) c = u.length
  | [], t, _ => by simp [Lib.indexByte]
  | b :: u, t, h => by
    have ih := byte_in c u t (fun x hx => h x (by simp [hx]))
    rw [List.cons_append]
    unfold Lib.indexByte
    rw [ih]
    simp [h b (by simp)]
theorem byte_no (c : UInt8) : ∀ (u : List UInt8), (∀ b ∈ u, b ≠ c) → Lib.indexByte u c = -1
  | [], _ => rfl
  | b :: u, h => by
    have ih := byte_no c u (fun x hx => h x (by simp [hx]))
    unfold Lib.indexByte
    rw [ih]
    simp [h b (by simp)]
theorem first_cases (c : UInt8) : ∀ l : List UInt8, (∀ b ∈ l, b ≠ c) ∨ ∃ u t, l = u ++ c :: t ∧ ∀ b ∈ u, b ≠ c
  | [] => .inl (by simp)
  | b :: l => by
    by_cases hb : b = c
    · exact .inr ⟨[], l, by rw [hb]; rfl, by simp⟩
    · rcases first_cases c l with h | ⟨u, t, h1, h2⟩
      · exact .inl (by intro x hx; exact (List.mem_cons.1 hx).elim (fun e => e ▸ hb) (h x))
      · exact .inr ⟨b :: u, t, by rw [h1]; rfl, by intro x hx; exact (List.mem_cons.1 hx).elim (fun e => e ▸ hb) (h2 x)⟩
theorem splitK_words (c : UInt8) (n : Nat) : ∀ l : List UInt8, l.length ≤ n → Lib.splitK [c] 0 (Lib.count l [c]) l = words c l := by
  induction n with
  | zero =>
    intro l hl
    obtain rfl : l = [] := List.eq_nil_of_length_eq_zero (by omega)
    rw [Lib.count_one]; rfl
  | succ n ih =>
    intro l hl
    rcases first_cases c l with h | ⟨u, t, rfl, h⟩
    · rw [Lib.count_one, List.count_eq_zero_of_not_mem (fun hc => h c hc rfl), words_one c l h]
      rfl
    · have e1 : Lib.count (u ++ c :: t) [c] = Lib.count t [c] + 1 := by
        rw [Lib.count_one, Lib.count_one, List.count_append, List.count_eq_zero_of_not_mem (fun hc => h c hc rfl), List.count_cons_self]
        omega
      have e2 : Lib.index (u ++ c :: t) [c] = u.length := by rw [Lib.index_one]; exact byte_in c u t h
      rw [e1, Lib.splitK, e2, if_neg (by simp), words_app c u t h]
      simp only [List.length_append, List.length_cons] at hl
      congr 1
      · simp
      · rw [show ((u.length : Int).toNat + [c].length) = (u ++ [c]).length by simp, show u ++ c :: t = (u ++ [c]) ++ t by simp, List.drop_left]
        exact ih t (by omega)
/-- strings.Split at one byte. -/
theorem split_words (l : List UInt8) (c : UInt8) : (Lib.splitB ⟨#[c]⟩ 0 (Lib.countB ⟨l.toArray⟩ ⟨#[c]⟩) ⟨l.toArray⟩).map (·.data.toList) = words c l := by
  rw [Lib.splitB_data]
  exact splitK_words c l.length l (Nat.le_refl _)
theorem cut_yes (c : UInt8) (u t : List UInt8) (h : ∀ b ∈ u, b ≠ c) : Lib.cut (u ++ c :: t) [c] = (u, t, true) := by
  have e2 : Lib.index (u ++ c :: t) [c] = u.length := by rw [Lib.index_one]; exact byte_in c u t h
  unfold Lib.cut
  rw [e2, if_pos (by omega)]
  have e3 : (u ++ c :: t).drop ((u.length : Int).toNat + [c].length) = t := by
    rw [show ((u.length : Int).toNat + [c].length) = (u ++ [c]).length by simp, show u ++ c :: t = (u ++ [c]) ++ t by simp, List.drop_left]
  rw [e3]
  simp
theorem cut_no (c : UInt8) (u : List UInt8) (h : ∀ b ∈ u, b ≠ c) : Lib.cut u [c] = (u, [], false) := by
  have e2 : Lib.index u [c] = -1 := by rw [Lib.index_one]; exact byte_no c u h
  unfold Lib.cut
  rw [e2, if_neg (by omega)]

end Go.Proofs.YtenlngclocfnlaaDoor
