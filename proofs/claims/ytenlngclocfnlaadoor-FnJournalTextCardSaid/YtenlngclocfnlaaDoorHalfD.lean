/- Lists of deeds whose codes may be shared: stores, append. No function is walked. -/
import Derived.Test.YtenlngclocfnlaaDoorOwnD2
import Derived.Maps.AppendAt
namespace Go.Proofs.YtenlngclocfnlaaDoor
open Go.RowKit
set_option linter.unusedVariables false
set_option maxRecDepth 100000

/-- An owned list of deeds, each with a code that lies in a whole block. -/
def OwnH (B : Nat) (w : World) (v : Value) (ds : List Dd) : Prop :=
  ∃ ts, OwnQ B w v ts ∧ ts.length = ds.length ∧ ∀ i (h : i < ts.length) (h' : i < ds.length), ts[i].1 = ds[i].back ∧ OwnI B w ts[i].2.1 ds[i].code ∧ ts[i].2.2.1 = ds[i].right ∧ ts[i].2.2.2 = ds[i].near

theorem OwnD.toH {B : Nat} {w : World} {v : Value} {ds : List Dd} (h : OwnD B w v ds) : OwnH B w v ds := by
  obtain ⟨ts, h1, h2, h3, _⟩ := h
  exact ⟨ts, h1, h2, h3⟩
theorem OwnH.lit (w : World) : OwnH w.heap.size (w.alloc (.cells #[] 26)) (.slice (some ⟨w.heap.size, 0, none⟩) 0 0) [] := (OwnD.lit w).toH
theorem OwnH.keep {B : Nat} {w w' : World} {v : Value} {ds : List Dd} (h : OwnH B w v ds) (hs : Above B w w') : OwnH B w' v ds := by
  obtain ⟨ts, h1, h2, h3⟩ := h
  exact ⟨ts, owns_keep h1 hs, h2, fun i hi hi' => ⟨(h3 i hi hi').1, owns_keep (h3 i hi hi').2.1 hs, (h3 i hi hi').2.2⟩⟩
theorem OwnH.below {B : Nat} {w w' : World} {v : Value} {ds : List Dd} (h : OwnH B w v ds) (hb : Below w.heap.size w w') : OwnH B w' v ds := h.keep (.of_below hb)
theorem OwnH.mono {B B' : Nat} {w : World} {v : Value} {ds : List Dd} (h : OwnH B w v ds) (hB : B' ≤ B) : OwnH B' w v ds := by
  obtain ⟨ts, h1, h2, h3⟩ := h
  exact ⟨ts, owns_mono h1 hB, h2, fun i hi hi' => ⟨(h3 i hi hi').1, owns_mono (h3 i hi hi').2.1 hB, (h3 i hi hi').2.2⟩⟩
theorem OwnH.shape {B : Nat} {w : World} {v : Value} {ds : List Dd} (h : OwnH B w v ds) : ∃ a cap, v = .slice a ds.length cap ∧ ds.length ≤ cap ∧ cap ≤ 9223372036854775807 := by
  obtain ⟨ts, h1, h2, _⟩ := h
  obtain ⟨a, cap, e, h3, h4, _⟩ := h1.opened
  exact ⟨a, cap, by rw [e, h2], by omega, h4⟩
theorem OwnH.lt {B : Nat} {w : World} {v : Value} {ds : List Dd} (h : OwnH B w v ds) (k : Nat) (hk : v.ownBlock = some k) : B ≤ k ∧ k < w.heap.size := by
  obtain ⟨ts, h1, _⟩ := h
  exact World.ownsRow.lt h1 k hk
theorem OwnH.toDL {B : Nat} {w : World} {v : Value} {ds : List Dd} (h : OwnH B w v ds) (hr : In64D ds) : DL B w v ds := by
  obtain ⟨ts, h1, h2, h3⟩ := h
  obtain ⟨a, cap, e, h4, h5, h6⟩ := h1.opened
  refine ⟨a, cap, fun i => (ts.getD i (false, undef, 0, 0)).2.1, by rw [e, h2], by omega, h5, fun hp => ?_, fun i hi => ?_⟩
  · obtain ⟨g, rfl, hB, _, hc, _⟩ := h6 (by omega)
    refine ⟨g, 0, rfl, hB, fun i hi => ?_⟩
    obtain ⟨c1, c2, c3, c4⟩ := hc i (by omega)
    obtain ⟨e0, _, e1, e2⟩ := h3 i (by omega) hi
    rw [Nat.zero_add, c1, c2, c3, c4, e0, e1, e2]
    simp [List.getD, List.getElem?_eq_getElem (show i < ts.length by omega)]
  · have := (h3 i (by omega) hi).2.1
    simp only [List.getD, List.getElem?_eq_getElem (show i < ts.length by omega), Option.getD_some]
    exact this.toInts (hr _ (List.getElem_mem hi))
/-- What a walk reads of owned deeds. -/
theorem OwnH.opened {B : Nat} {w : World} {v : Value} {ds : List Dd} (h : OwnH B w v ds) (hp : 0 < ds.length) :
    ∃ g cap, v = .slice (some ⟨g, 0, none⟩) ds.length cap ∧ B ≤ g ∧ g < w.heap.size ∧ ds.length ≤ cap ∧ cap ≤ 9223372036854775807 ∧ (∀ j, w.frozen? ⟨g, j, none⟩ = false) ∧
      ∀ k (h : k < ds.length), ∃ u, w.cell? ⟨g, k * 4, none⟩ = some (.bool ds[k].back) ∧ w.cell? ⟨g, k * 4 + 1, none⟩ = some u ∧ OwnI B w u ds[k].code ∧ w.cell? ⟨g, k * 4 + 2, none⟩ = some (.int .i64 ds[k].right) ∧ w.cell? ⟨g, k * 4 + 3, none⟩ = some (.int .i64 ds[k].near) := by
  obtain ⟨ts, h1, h2, h3⟩ := h
  obtain ⟨a, cap, e, h4, h5, h6⟩ := h1.opened
  obtain ⟨g, rfl, hB, hlt, hc, hf⟩ := h6 (by omega)
  refine ⟨g, cap, by rw [e, h2], hB, hlt, by omega, h5, hf, fun k hk => ?_⟩
  obtain ⟨c1, c2, c3, c4⟩ := hc k (by omega)
  obtain ⟨e0, q, e1, e2⟩ := h3 k (by omega) hk
  exact ⟨ts[k].2.1, by rw [c1, e0], c2, q, by rw [c3, e1], by rw [c4, e2]⟩

/-- Another list of deeds is turned. -/
theorem OwnH.kept {B C : Nat} {w w' : World} {v u : Value} {ds es : List Dd} (h : OwnH B w v ds) (he : OwnH C w u es) (hg : w.grownBy w' u.ownBlock) (hne : v.ownBlock = none ∨ v.ownBlock ≠ u.ownBlock) : OwnH B w' v ds := by
  obtain ⟨ts, h1, h2, h3⟩ := h
  obtain ⟨ts', k1, _, _⟩ := he
  exact ⟨ts, World.ownsRow.kept h1 hg hne, h2, fun i hi hi' => ⟨(h3 i hi hi').1, World.ownsRow.kept (h3 i hi hi').2.1 hg (own_apart (h3 i hi hi').2.1 k1 (by decide)), (h3 i hi hi').2.2⟩⟩
theorem OwnH.pushed {B : Nat} {w : World} {v : Value} {ds : List Dd} (h : OwnH B w v ds) {u : Value} {y : Dd} (hu : OwnI B w u y.code) :
    ∃ ts : List (Bool × Value × Int × Int), w.ownsRow B 26 4 v ds.length (cellsD ts) ∧ ts.length = ds.length ∧
      ∀ w' v', w'.ownsRow B 26 4 v' (ds.length + 1) (cellsD ts ++ [.bool y.back, u, .int .i64 y.right, .int .i64 y.near]) → w.grownBy w' v.ownBlock → OwnH B w' v' (ds ++ [y]) := by
  obtain ⟨ts, h1, h2, h3⟩ := h
  refine ⟨ts, by rw [← h2]; exact h1, h2, fun w' v' h5 h6 => ?_⟩
  have hap : ∀ z ys, OwnI B w z ys → OwnI B w' z ys := fun z ys hz => World.ownsRow.kept hz h6 (own_apart hz h1 (by decide))
  refine ⟨ts ++ [(y.back, u, y.right, y.near)], ?_, by simp [h2], fun i hi' hi'' => ?_⟩
  · unfold OwnQ
    rw [cellsD_append]
    simpa [h2, cellsD, dC] using h5
  · by_cases hlt : i < ts.length
    · rw [List.getElem_append_left hlt, List.getElem_append_left (by omega)]
      have := h3 i hlt (by omega)
      exact ⟨this.1, hap _ _ this.2.1, this.2.2⟩
    · have e : i = ts.length := by simp at hi'; omega
      subst e
      have := hap _ _ hu
      simp only [List.getElem_append_right (Nat.le_refl _), Nat.sub_self, List.getElem_cons_zero]
      have e2 : (ds ++ [y])[ts.length]'hi'' = y := by simp [h2]
      rw [e2]
      exact ⟨rfl, this, rfl, rfl⟩

/-- 'append(out, Deed{..})', its code in a whole block. -/
theorem wpList_push_h (w : World) {ops : Array Oper} {rest : List Oper} {o : Oper} {a : Act} {Q : Exit → Act → World → Prop}
    (hg : o.guard = none) (s x : Operand) (hop : o.op = Op.call { callee := Callee.builtin Builtin.append, args := #[s, x], argTypes := #[32, 32] })
    (B : Nat) (v : Value) (ds : List Dd) (hs : a.eval s = v) (hown : OwnH B w v ds) (N : Nat) (c : Nat) (u : Value) (y : Dd) (hx : a.eval x = .slice (some ⟨N, 0, none⟩) 1 c)
    (hc : w.heap[N]? = some (.cells #[.bool y.back, u, .int .i64 y.right, .int .i64 y.near] 26 (0, 0))) (hu : OwnI B w u y.code)
    (hlen : ds.length ≤ 1000000000000) (hB : B ≤ w.heap.size)
    (hK : ∀ a' cap' w', OwnH B w' (.slice a' (ds.length + 1) cap') (ds ++ [y]) → w.grownBy w' v.ownBlock → ((Value.slice a' (ds.length + 1) cap').ownBlock = v.ownBlock ∨ (Value.slice a' (ds.length + 1) cap').ownBlock = some w.heap.size) → wpList Tryd.prog ops Q rest (a.put o.dst (.slice a' (ds.length + 1) cap')) w') :
    wpList Tryd.prog ops Q (o :: rest) a w := by
  obtain ⟨i0, hi, hz0, hz1, hz2⟩ := info_parts infoDeed
  obtain ⟨ts, t1, t2, t3⟩ := hown.pushed hu
  have hone : u.oneCell' = true := by
    obtain ⟨_, _, rfl, _⟩ := own_shape hu
    rfl
  refine wpList_append_own_at w hg s x 32 hop B 26 i0 (.agg #[.bool false, .slice none 0 0, .int .i64 0, .int .i64 0]) 4 48 Tryd.underlying32 hi hz0 hz1 hz2 rfl (by decide) v ds.length (cellsD ts) hs t1 ⟨N, 0, none⟩ 1 c [.bool y.back, u, .int .i64 y.right, .int .i64 y.near] hx rfl (fun j z hj => World.news_of_block hc j z (by simpa using hj)) ?_ (by unfold maxLen; omega) (by omega) hB ?_
  · intro z hz
    simp only [List.mem_cons, List.mem_nil_iff, or_false] at hz
    rcases hz with rfl | rfl | rfl | rfl
    · rfl
    · exact hone
    · rfl
    · rfl
  · intro v' w' h5 h6 _ h7
    obtain ⟨a', cap', rfl, _⟩ := own_shape h5
    exact hK a' cap' w' (t3 w' _ h5 h6) h6 h7

end Go.Proofs.YtenlngclocfnlaaDoor
