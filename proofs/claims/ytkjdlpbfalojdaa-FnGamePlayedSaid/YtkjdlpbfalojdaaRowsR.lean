/- Owned rows of rows, of which two may lie in one block: only read from now on. Appends of a whole row. No walk. -/
import Derived.Test.YtkjdlpbfalojdaaLeaf2
namespace Go.Proofs.Ytkjdlpbfalojdaa
open Go.RowKit
set_option linter.unusedVariables false
set_option maxRecDepth 100000

def OwnR (B : Nat) (w : World) (v : Value) (xss : List (List Int)) : Prop :=
  ∃ vs, w.ownsRow B 38 1 v vs.length vs ∧ vs.length = xss.length ∧ ∀ i (h : i < vs.length) (h' : i < xss.length), OwnI B w vs[i] xss[i]
theorem OwnII.toR {B : Nat} {w : World} {v : Value} {xss : List (List Int)} (h : OwnII B w v xss) : OwnR B w v xss := by
  obtain ⟨vs, h1, h2, h3, _⟩ := h
  exact ⟨vs, h1, h2, h3⟩
theorem OwnR.rows {B : Nat} {w : World} {v : Value} {xss : List (List Int)} (h : OwnR B w v xss) (hr : ∀ xs ∈ xss, ∀ x ∈ xs, In64 x) : Rows2 B w v xss := by
  obtain ⟨vs, h1, h2, h3⟩ := h
  exact ⟨vs, sl_of_own h1, h2, fun i hi hi' => (h3 i hi hi').toInts (hr _ (List.getElem_mem _))⟩
theorem OwnR.keep {B : Nat} {w w' : World} {v : Value} {xss : List (List Int)} (h : OwnR B w v xss) (hs : Above B w w') : OwnR B w' v xss := by
  obtain ⟨vs, h1, h2, h3⟩ := h
  exact ⟨vs, owns_keep h1 hs, h2, fun i hi hi' => owns_keep (h3 i hi hi') hs⟩
theorem OwnR.below {B : Nat} {w w' : World} {v : Value} {xss : List (List Int)} (h : OwnR B w v xss) (hb : Below w.heap.size w w') : OwnR B w' v xss := h.keep (.of_below hb)
theorem OwnR.mono {B B' : Nat} {w : World} {v : Value} {xss : List (List Int)} (h : OwnR B w v xss) (hB : B' ≤ B) : OwnR B' w v xss := by
  obtain ⟨vs, h1, h2, h3⟩ := h
  exact ⟨vs, owns_mono h1 hB, h2, fun i hi hi' => owns_mono (h3 i hi hi') hB⟩
theorem OwnR.alloc {B : Nat} {w : World} {v : Value} {xss : List (List Int)} (h : OwnR B w v xss) (o : Obj) : OwnR B (w.alloc o) v xss := by
  obtain ⟨vs, h1, h2, h3⟩ := h
  exact ⟨vs, World.ownsRow.alloc h1 o, h2, fun i hi hi' => World.ownsRow.alloc (h3 i hi hi') o⟩
theorem OwnR.empty (B : Nat) (w : World) : OwnR B w (.slice none 0 0) [] := (OwnII.empty B w).toR
theorem OwnR.shape {B : Nat} {w : World} {v : Value} {xss : List (List Int)} (h : OwnR B w v xss) : ∃ a cap, v = .slice a xss.length cap ∧ xss.length ≤ cap ∧ cap ≤ 9223372036854775807 := by
  obtain ⟨vs, h1, h2, h3⟩ := h
  obtain ⟨a, cap, rfl, h4, h5⟩ := own_shape h1
  exact ⟨a, cap, by rw [h2], by omega, by simpa [maxLen] using h5⟩
theorem OwnR.at {B : Nat} {w : World} {a : Option Addr} {n cap : Nat} {xss : List (List Int)} (h : OwnR B w (.slice a n cap) xss) (k : Nat) (hk : k < xss.length) :
    ∃ g u, a = some ⟨g, 0, none⟩ ∧ B ≤ g ∧ w.cell? ⟨g, k, none⟩ = some u ∧ OwnI B w u xss[k] := by
  obtain ⟨vs, h1, h2, h3⟩ := h
  obtain ⟨g, cap', he, hB, _⟩ := own_head h1 (by omega)
  injection he with e1 e2 e3
  subst e1 e2
  refine ⟨g, vs[k]'(by omega), rfl, hB, ?_, h3 k (by omega) hk⟩
  rw [World.ownsRow.cellAt h1 k (by omega), List.getElem?_eq_getElem (show k < vs.length by omega)]

/-- 'append(out, row)'. -/
theorem wpList_push_r (w : World) {ops : Array Oper} {rest : List Oper} {o : Oper} {a : Act} {Q : Exit → Act → World → Prop}
    (hg : o.guard = none) (s x : Operand) (hop : o.op = Op.call { callee := Callee.builtin Builtin.append, args := #[s, x], argTypes := #[33, 33] })
    (B : Nat) (v : Value) (xss : List (List Int)) (hs : a.eval s = v) (hown : OwnR B w v xss) (ad : Addr) (c : Nat) (r : Value) (xs : List Int) (hx : a.eval x = .slice (some ad) 1 c) (hc : w.cell? ad = some r)
    (hr : OwnI B w r xs) (hlen : xss.length ≤ 1099511627776) (hB : B ≤ w.heap.size)
    (hK : ∀ a' cap' w', OwnR B w' (.slice a' (xss.length + 1) cap') (xss ++ [xs]) → w.grownBy w' v.ownBlock → ((Value.slice a' (xss.length + 1) cap').ownBlock = v.ownBlock ∨ (Value.slice a' (xss.length + 1) cap').ownBlock = some w.heap.size) → wpList Try.prog ops Q rest (a.put o.dst (.slice a' (xss.length + 1) cap')) w') :
    wpList Try.prog ops Q (o :: rest) a w := by
  obtain ⟨i0, hi, hz0, hz1, hz2⟩ := info_parts infoInts
  obtain ⟨vs, h1, h2, h3⟩ := hown
  have hone : r.oneCell' = true := by
    obtain ⟨_, _, rfl, _⟩ := own_shape hr
    rfl
  refine wpList_append_own_at w hg s x 33 hop B 38 i0 (.slice none 0 0) 1 24 Try.underlying33 hi hz0 hz1 hz2 rfl (by decide) v vs.length vs hs h1 ad 1 c [r] hx rfl ?_ (by simp [hone]) (by unfold maxLen; omega) (by omega) hB ?_
  · intro j u hj
    match j, hj with
    | 0, hj => simp at hj; subst hj; simpa [Addr.add] using hc
  · intro v' w' h5 h6 _ h7
    have hap : ∀ u ys, OwnI B w u ys → OwnI B w' u ys := fun u ys hu => World.ownsRow.kept hu h6 (own_apart hu h1 (by decide))
    obtain ⟨a', cap', rfl, _⟩ := own_shape h5
    rw [h2] at h5 h7 ⊢
    refine hK a' cap' w' ⟨vs ++ [r], by simpa [h2] using h5, by simp [h2], fun i hi' hi'' => ?_⟩ h6 h7
    by_cases hlt : i < vs.length
    · rw [List.getElem_append_left hlt, List.getElem_append_left (by omega)]
      exact hap _ _ (h3 i hlt (by omega))
    · have e : i = vs.length := by simp at hi'; omega
      subst e
      have := hap _ _ hr
      simpa [h2] using this

theorem OwnR.lt {B : Nat} {w : World} {v : Value} {xss : List (List Int)} (h : OwnR B w v xss) (k : Nat) (hk : v.ownBlock = some k) : B ≤ k ∧ k < w.heap.size := by
  obtain ⟨vs, h1, _⟩ := h
  exact World.ownsRow.lt h1 k hk

/-- The same, the row made since world wr, in which out lies. -/
theorem wpList_push_rnew (wr W3 : World) {ops : Array Oper} {rest : List Oper} {o : Oper} {a : Act} {Q : Exit → Act → World → Prop}
    (hg : o.guard = none) (s x : Operand) (hop : o.op = Op.call { callee := Callee.builtin Builtin.append, args := #[s, x], argTypes := #[33, 33] })
    (B : Nat) (v : Value) (xss : List (List Int)) (hs : a.eval s = v) (hown : OwnR B wr v xss) (hb : Below wr.heap.size wr W3) (N : Nat) (hN : W3.heap.size = N) (r : Value) (xs : List Int) (hx : a.eval x = .slice (some ⟨N, 0, none⟩) 1 1)
    (hr : OwnI wr.heap.size W3 r xs) (hlen : xss.length ≤ 1099511627776) (hB : B ≤ wr.heap.size)
    (hK : ∀ a' cap' w', OwnR B w' (.slice a' (xss.length + 1) cap') (xss ++ [xs]) → Below B wr w' → wpList Try.prog ops Q rest (a.put o.dst (.slice a' (xss.length + 1) cap')) w') :
    wpList Try.prog ops Q (o :: rest) a (W3.alloc (.cells #[r] 38)) := by
  have hsz := hb.size
  have hb4 : Below wr.heap.size wr (W3.alloc (.cells #[r] 38)) := hb.alloc hsz _
  have hr4 : OwnI wr.heap.size (W3.alloc (.cells #[r] 38)) r xs := World.ownsRow.alloc hr _
  refine wpList_push_r _ hg s x hop B v xss hs (hown.below hb4) ⟨N, 0, none⟩ 1 r xs hx ?_ (hr4.mono hB) hlen (by simp; omega) ?_
  · subst hN
    exact cell_of_one (heap_alloc_new W3 _)
  · intro a' cap' w' h1 h2 _
    refine hK a' cap' w' h1 ((hb4.mono hB).grown h2 (by simp; omega) ?_)
    intro k hk
    exact (hown.lt k hk).1

theorem run_append_ints_nil (w : World) (ty : TypeId) {B : Nat} {v : Value} {n : Nat} {xs : List Value} (hown : w.ownsRow B 3 1 v n xs) (c : Nat) :
    (Builtin.append_ #[38, 38] ty #[v, .slice none 0 c]).run Try.prog w = .ok v w := by
  obtain ⟨i0, hi, hz0, hz1, hz2⟩ := info_parts infoInt
  have ht := Try.underlying38
  rcases hown.2 with ⟨rfl, rfl⟩ | ⟨g, cap, cur, rfl, _, _, hnc, _⟩
  · simp [Builtin.append_, run_underlying ht, sizeOf, typeInfo, hi, Builtin.lenOf, Builtin.firstCells]
  · simp [Builtin.append_, run_underlying ht, sizeOf, typeInfo, hi, Builtin.lenOf, Builtin.firstCells, hnc, storeCells]

/-- 'append(row, other...)'. -/
theorem wpList_push_all (w : World) {ops : Array Oper} {rest : List Oper} {o : Oper} {a : Act} {Q : Exit → Act → World → Prop}
    (hg : o.guard = none) (s x : Operand) (hop : o.op = Op.call { callee := Callee.builtin Builtin.append, args := #[s, x], argTypes := #[38, 38] })
    (B C : Nat) (v : Value) (xs : List Int) (hs : a.eval s = v) (hown : OwnI B w v xs) (u : Value) (ys : List Int) (hx : a.eval x = u) (hu : OwnI C w u ys)
    (hlen : xs.length + ys.length ≤ 1099511627776) (hB : B ≤ w.heap.size)
    (hK : ∀ a' cap' w', OwnI B w' (.slice a' (xs.length + ys.length) cap') (xs ++ ys) → w.grownBy w' v.ownBlock → wpList Try.prog ops Q rest (a.put o.dst (.slice a' (xs.length + ys.length) cap')) w') :
    wpList Try.prog ops Q (o :: rest) a w := by
  obtain ⟨i0, hi, hz0, hz1, hz2⟩ := info_parts infoInt
  obtain ⟨au, cu, rfl, hcu, hmu, hcells⟩ := hu.opened
  rcases au with _ | ad
  · have hy : ys = [] := by
      apply List.eq_nil_of_length_eq_zero
      rcases Nat.eq_zero_or_pos ys.length with h0 | h0
      · exact h0
      · obtain ⟨g, h, _⟩ := hcells h0
        cases h
    subst hy
    obtain ⟨av, cv, rfl, _⟩ := own_shape hown
    refine wpList_plain hg fun K hK' => ?_
    unfold Oper.wp execOp
    simp only [hop, resolve, invoke, builtin, Sem.run_bind, Sem.run_pure, Result.andThen_ok, List.map_toArray, List.map_cons, List.map_nil, hs, hx]
    have := run_append_ints_nil w o.type hown cu
    simp only [List.length_nil] at this ⊢
    rw [this]
    refine hK' _ _ ?_
    have := hK av cv w (by simpa using hown) (World.grownBy.refl w _)
    simpa using this
  · refine wpList_append_own w hg s x 38 hop B 3 i0 (.int .i64 0) 1 8 Try.underlying38 hi hz0 hz1 hz2 rfl (by decide) v xs.length (ints xs) hs hown ad ys.length cu (ints ys) hx (by simp) ?_ (by intro u hu; obtain ⟨y, _, rfl⟩ := List.mem_map.1 hu; simp [Value.oneCell']) (by unfold maxLen; omega) (by omega) hB ?_
    · intro j u hj
      have hlt : j < ys.length := by
        have := (List.getElem?_eq_some_iff.1 hj).1
        simpa using this
      have : (ints ys)[j]? = some (.int .i64 ys[j]) := by rw [List.getElem?_eq_getElem (by simpa using hlt)]; simp
      rw [this] at hj
      obtain rfl := Option.some.inj hj
      obtain ⟨g, he, _, hc, _⟩ := hcells (by omega)
      injection he with he
      subst he
      have := hc j hlt
      by_cases h0 : j = 0
      · subst h0; simpa [Addr.add] using this
      · simpa [Addr.add, h0] using this
    · intro v' w' h1 h2 _
      obtain ⟨a', cap', rfl, _⟩ := own_shape h1
      refine hK a' cap' w' ?_ h2
      unfold OwnI
      rw [ints_append]
      simpa [ints] using h1

end Go.Proofs.Ytkjdlpbfalojdaa
