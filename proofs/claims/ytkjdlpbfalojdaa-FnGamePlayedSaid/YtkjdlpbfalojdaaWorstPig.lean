/- The greatest lot times all answers is not less than all codes. -/
import Derived.Test.YtkjdlpbfalojdaaWorstMath
namespace Go.Proofs.Ytkjdlpbfalojdaa
set_option linter.unusedVariables false

theorem countP_or {α : Type} (p q r : α → Bool) (h : ∀ a, r a = true → p a = true ∨ q a = true) : ∀ l : List α, l.countP r ≤ l.countP p + l.countP q
  | [] => by simp
  | a :: l => by
    have ih := countP_or p q r h l
    rw [List.countP_cons, List.countP_cons, List.countP_cons]
    have ha := h a
    cases hr : r a <;> cases hp : p a <;> cases hq : q a <;> simp_all <;> omega
theorem pig {α : Type} (f : α → Nat) (W : Nat) (l : List α) (h : ∀ i, l.countP (fun a => f a == i) ≤ W) : ∀ N, l.countP (fun a => decide (f a < N)) ≤ N * W
  | 0 => by simp
  | N + 1 => by
    have ih := pig f W l h N
    have h1 := countP_or (fun a => decide (f a < N)) (fun a => f a == N) (fun a => decide (f a < N + 1)) (fun a ha => by
      simp only [decide_eq_true_eq, beq_iff_eq] at ha ⊢; omega) l
    have h2 := h N
    rw [Nat.succ_mul]
    omega
theorem count_worst (ws : List (Int × Int)) (a : Int × Int) : ∀ k, k ≤ ws.length → (ws.take k).count a ≤ worstK ws k
  | 0, _ => by simp
  | k + 1, hk => by
    have ih := count_worst ws a k (by omega)
    have e : ws.getD k (0, 0) = ws[k] := by simp [List.getD, List.getElem?_eq_getElem (show k < ws.length by omega)]
    simp only [worstK]
    rw [e]
    by_cases h : ws[k] = a
    · rw [h]; omega
    · have : (ws.take (k + 1)).count a = (ws.take k).count a := by
        rw [List.take_succ_eq_append_getElem (by omega), List.count_append, List.count_singleton]
        simp [h]
      omega
theorem worst_pig {n c : Nat} (hn : n ≤ 3) {left : List (List Int)} {y : List Int} (hl : ∀ x ∈ left, CodeP n c x) (hy : CodeP n c y) : left.length ≤ (n + 1) * (n + 1) * worstN left y := by
  obtain ⟨ws, hws⟩ : ∃ ws, ws = left.map fun x => ansZ x y := ⟨_, rfl⟩
  have hg : ∀ a ∈ ws, GoodA n a := fun a ha => by
    rw [hws] at ha
    obtain ⟨x, hx, rfl⟩ := List.mem_map.1 ha
    exact good_ans (hl x hx) hy
  have hlen : ws.length = left.length := by rw [hws]; simp
  have hW : worstN left y = worstK ws ws.length := by unfold worstN; rw [← hws, hlen]
  have hp := pig (atN n) (worstK ws ws.length) ws (fun i => by
    by_cases h0 : ∃ a ∈ ws, atN n a = i
    · obtain ⟨a, ha, rfl⟩ := h0
      have e : ws.countP (fun b => atN n b == atN n a) = ws.count a := by
        rw [List.count_eq_countP]
        refine List.countP_congr fun b hb => ?_
        simp only [beq_iff_eq]
        exact ⟨fun h => atN_inj (hg b hb) (hg a ha) hn h, fun h => by rw [h]⟩
      rw [e]
      have := count_worst ws a ws.length (Nat.le_refl _)
      rwa [List.take_length] at this
    · have : ws.countP (fun a => atN n a == i) = 0 := by
        rw [List.countP_eq_zero]
        intro a ha
        simp only [beq_iff_eq]
        exact fun h => h0 ⟨a, ha, h⟩
      omega) ((n + 1) * (n + 1))
  have hall : ws.countP (fun a => decide (atN n a < (n + 1) * (n + 1))) = ws.length := by
    rw [List.countP_eq_length]
    intro a ha
    exact decide_eq_true (atN_lt (hg a ha) hn)
  rw [hall] at hp
  rw [hW, ← hlen]
  exact hp

end Go.Proofs.Ytkjdlpbfalojdaa
