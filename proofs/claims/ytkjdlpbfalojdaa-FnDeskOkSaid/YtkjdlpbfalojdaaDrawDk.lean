/- Desks that are drawn: what is needed. -/
import Derived.Test.YtkjdlpbfalojdaaDrawGs2
import Derived.Test.YtkjdlpbfalojdaaDeskOk
import Derived.Deep.AppendLies
import Derived.Deep.RegionLaw
namespace Go.Proofs.Ytkjdlpbfalojdaa
open Go.RowKit
set_option linter.unusedVariables false
set_option maxRecDepth 100000

theorem OwnG.pushed {B : Nat} {w : World} {v : Value} {gs : List Gs} (h : OwnG B w v gs) {u : Value} {y : Gs} (hu : OwnI B w u y.code)
    (hd : ∀ ts : List (Value × Int × Int), OwnT B w v ts → ∀ i (h : i < ts.length), u.ownBlock = none ∨ ts[i].1.ownBlock = none ∨ ts[i].1.ownBlock ≠ u.ownBlock) :
    ∃ ts : List (Value × Int × Int), w.ownsRow B 69 3 v gs.length (cellsT ts) ∧ ts.length = gs.length ∧
      ∀ w' v', w'.ownsRow B 69 3 v' (gs.length + 1) (cellsT ts ++ [u, .int .i64 y.right, .int .i64 y.near]) → w.grownBy w' v.ownBlock → OwnG B w' v' (gs ++ [y]) := by
  obtain ⟨ts, h1, h2, h3, h4⟩ := h
  refine ⟨ts, by rw [← h2]; exact h1, h2, fun w' v' h5 h6 => ?_⟩
  have hap : ∀ z ys, OwnI B w z ys → OwnI B w' z ys := fun z ys hz => World.ownsRow.kept hz h6 (own_apart hz h1 (by decide))
  refine ⟨ts ++ [(u, y.right, y.near)], ?_, by simp [h2], fun i hi' hi'' => ?_, fun i j hi' hj' hij => ?_⟩
  · unfold OwnT
    rw [cellsT_append]
    simpa [h2, cellsT, tC] using h5
  · by_cases hlt : i < ts.length
    · rw [List.getElem_append_left hlt, List.getElem_append_left (by omega)]
      have := h3 i hlt (by omega)
      exact ⟨hap _ _ this.1, this.2⟩
    · have e : i = ts.length := by simp at hi'; omega
      subst e
      have := hap _ _ hu
      simp only [List.getElem_append_right (Nat.le_refl _), Nat.sub_self, List.getElem_cons_zero]
      have e2 : (gs ++ [y])[ts.length]'hi'' = y := by simp [h2]
      rw [e2]
      exact ⟨this, rfl, rfl⟩
  · simp only [List.length_append, List.length_cons, List.length_nil] at hi' hj'
    by_cases h7 : i < ts.length
    · rw [List.getElem_append_left h7]
      by_cases h8 : j < ts.length
      · rw [List.getElem_append_left h8]; exact h4 i j h7 h8 hij
      · have e : j = ts.length := by omega
        subst e
        rw [List.getElem_append_right (Nat.le_refl _)]
        simp only [Nat.sub_self, List.getElem_cons_zero]
        rcases hd ts h1 i h7 with h | h | h
        · rw [h]; by_cases e : ts[i].1.ownBlock = none
          · exact .inl e
          · exact .inr e
        · exact .inl h
        · exact .inr h
    · have e : i = ts.length := by omega
      subst e
      rw [List.getElem_append_right (Nat.le_refl _), List.getElem_append_left (show j < ts.length by omega)]
      simp only [Nat.sub_self, List.getElem_cons_zero]
      rcases hd ts h1 j (by omega) with h | h | h
      · exact .inl h
      · rw [h]; by_cases e : u.ownBlock = none
        · exact .inl e
        · exact .inr e
      · exact .inr (fun e => h e.symm)


theorem OwnG.take {B : Nat} {w : World} {g n cap : Nat} {gs : List Gs} (h : OwnG B w (.slice (some ⟨g, 0, none⟩) n cap) gs) (k : Nat) (hk : k ≤ gs.length) : OwnG B w (.slice (some ⟨g, 0, none⟩) k cap) (gs.take k) := by
  obtain ⟨ts, ⟨h1, h1'⟩, h2, h3, h4⟩ := h
  have hct : ∀ (ts : List (Value × Int × Int)) k, (cellsT ts).take (k * 3) = cellsT (ts.take k) := by
    intro ts
    induction ts with
    | nil => intro k; simp [cellsT]
    | cons t ts ih =>
      intro k
      cases k with
      | zero => simp [cellsT]
      | succ k =>
        rw [cellsT_cons, List.take_succ_cons, cellsT_cons, ← ih k, Nat.succ_mul, Nat.add_comm]
        have e : (tC t).length = 3 := rfl
        rw [← e, List.take_length_add_append]
  refine ⟨ts.take k, ⟨by rw [cellsT_length], ?_⟩, by simp [h2], fun i hi hi' => ?_, fun i j hi hj hij => ?_⟩
  · rcases h1' with ⟨e, _⟩ | ⟨g', cap', cur, e, hb, hg, q1, q2, q3, q4⟩
    · cases e
    · injection e with e1 e2 e3
      injection e1 with e1
      injection e1 with e1 _ _
      subst e1 e3
      refine .inr ⟨g, cap, cur, ?_, hb, hg, ?_, q2, q3, ?_⟩
      · congr 1; simp <;> omega
      · simp <;> omega
      · rw [← hct, ← q4, List.take_take]
        congr 1
        simp <;> omega
  · simp only [List.getElem_take]
    exact h3 i (by simp at hi; omega) (by simp at hi'; omega)
  · simp only [List.getElem_take]
    exact h4 i j (by simp at hi; omega) (by simp at hj; omega) hij

end Go.Proofs.Ytkjdlpbfalojdaa
