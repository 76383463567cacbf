/- The drawn tables and lots: which ones is never asked; that they are read, and lie in new memory. -/
import Derived.Test.YtoddomhpdeoeeaaDraw
namespace Go.Proofs.Ytoddomhpdeoeeaa
open Go.RowKit
set_option linter.unusedVariables false

theorem Rd.grown {w w' : World} {K : Nat} {a : Option Addr} {cap : Nat} {bs : List Int} {p : Int} {row : Option Nat} (h : Rd w K a cap bs p) (hg : w.grownBy w' row) (hr : ∀ k, row = some k → K < k) : Rd w' K a cap bs p :=
  h.keep fun b hb => hg.block b (by have := h.lt; omega) (fun e => by have := hr b e.symm; omega)

/-- Rows of an older world lie in older blocks. -/
theorem rows_old' {B : Nat} {w w2 : World} {v : Value} {xss : List (List Int)} (h : OwnII B w v xss) (hb : Above B w w2) {r : Value} {xs : List Int} (hr : OwnI w.heap.size w2 r xs) :
    ∀ vs : List Value, w2.ownsRow B 23 1 v vs.length vs → ∀ i (h : i < vs.length), r.ownBlock = none ∨ vs[i].ownBlock = none ∨ vs[i].ownBlock ≠ r.ownBlock := by
  intro vs hvs i hi
  obtain ⟨vs', h1, h2, h3, _⟩ := h
  have e : vs = vs' := by
    have h1' := owns_keep h1 hb
    rcases h1'.2 with ⟨rfl, h0⟩ | ⟨g, cap, cur, rfl, _, hg, _, _, _, ht⟩
    · rcases hvs.2 with ⟨_, h0'⟩ | ⟨_, _, _, he, _⟩
      · rw [List.eq_nil_of_length_eq_zero h0, List.eq_nil_of_length_eq_zero h0']
      · simp at he
    · rcases hvs.2 with ⟨he, _⟩ | ⟨g2, cap2, cur2, he, _, hg2, _, _, _, ht2⟩
      · simp at he
      · injection he with e1 e2 _
        injection e1 with e1
        injection e1 with e1 _ _
        subst e1
        rw [hg] at hg2
        simp only [Option.some.injEq, Obj.cells.injEq] at hg2
        rw [← ht, ← ht2, hg2.1, e2]
  subst e
  by_cases hn : r.ownBlock = none
  · exact .inl hn
  obtain ⟨m, hm⟩ := Option.ne_none_iff_exists'.1 hn
  by_cases hn' : vs[i].ownBlock = none
  · exact .inr (.inl hn')
  obtain ⟨m', hm'⟩ := Option.ne_none_iff_exists'.1 hn'
  have h4 := (World.ownsRow.lt hr m hm).1
  have h5 := (World.ownsRow.lt (h3 i hi (by omega)) m' hm').2
  exact .inr (.inr (by rw [hm, hm']; simp; omega))

/-- 'out = append(out, row)', the row made since world wr. -/
theorem wpList_push_since (wr W3 : World) {ops : Array Oper} {rest : List Oper} {o : Oper} {a : Act} {Q : Exit → Act → World → Prop}
    (hg : o.guard = none) (s x : Operand) (hop : o.op = Op.call { callee := Callee.builtin Builtin.append, args := #[s, x], argTypes := #[22, 22] })
    (B : Nat) (v : Value) (xss : List (List Int)) (hs : a.eval s = v) (hown : OwnII B wr v xss) (hb : Above B wr W3) (hz : wr.heap.size ≤ W3.heap.size) (N : Nat) (hN : W3.heap.size = N) (r : Value) (xs : List Int) (hx : a.eval x = .slice (some ⟨N, 0, none⟩) 1 1)
    (hr : OwnI wr.heap.size W3 r xs) (hlen : xss.length ≤ 1099511627776) (hB : B ≤ wr.heap.size)
    (hK : ∀ a' cap' w', OwnII B w' (.slice a' (xss.length + 1) cap') (xss ++ [xs]) → W3.heap.size ≤ w'.heap.size → (∀ b, b < W3.heap.size → b < B → w'.heap[b]? = W3.heap[b]?) → w'.os = W3.os → w'.tape = W3.tape → w'.output = W3.output →
      wpList Try.prog ops Q rest (a.put o.dst (.slice a' (xss.length + 1) cap')) w') :
    wpList Try.prog ops Q (o :: rest) a (W3.alloc (.cells #[r] 23)) := by
  have hb4 : Above B wr (W3.alloc (.cells #[r] 23)) := fun b h1 h2 => (Below.heap_alloc W3 _ b (by omega)).trans (hb b h1 h2)
  have hr4 : OwnI wr.heap.size (W3.alloc (.cells #[r] 23)) r xs := World.ownsRow.alloc hr _
  have hn4 : (W3.alloc (.cells #[r] 23)).heap.size = W3.heap.size + 1 := by simp
  refine wpList_push_row _ hg s x hop B v xss hs (hown.keep hb4) ⟨N, 0, none⟩ 1 r xs hx ?_ (hr4.mono hB) (rows_old' hown hb4 hr4) hlen (by omega) ?_
  · subst hN
    exact cell_of_one (heap_alloc_new W3 _)
  · intro a' cap' w' h1 h2
    refine hK a' cap' w' h1 (by have := h2.size; omega) (fun b hb1 hb2 => ?_) h2.os h2.tape h2.output
    rw [h2.block b (by omega) ?_]
    · exact Below.heap_alloc W3 _ b hb1
    · intro e
      obtain ⟨vs, h3, _⟩ := hown
      have := (World.ownsRow.lt h3 b e.symm).1
      omega

/-- Owned rows of rows, of which two may lie in one block: only read from now on. -/
def OwnW (B : Nat) (w : World) (v : Value) (xss : List (List Int)) : Prop :=
  ∃ vs, w.ownsRow B 23 1 v vs.length vs ∧ vs.length = xss.length ∧ ∀ i (h : i < vs.length) (h' : i < xss.length), OwnI B w vs[i] xss[i]
theorem OwnII.weak {B : Nat} {w : World} {v : Value} {xss : List (List Int)} (h : OwnII B w v xss) : OwnW B w v xss := by
  obtain ⟨vs, h1, h2, h3, _⟩ := h
  exact ⟨vs, h1, h2, h3⟩
theorem OwnW.rows {B : Nat} {w : World} {v : Value} {xss : List (List Int)} (h : OwnW B w v xss) (hr : ∀ xs ∈ xss, ∀ x ∈ xs, In64 x) : Rows2 B w v xss := by
  obtain ⟨vs, h1, h2, h3⟩ := h
  exact ⟨vs, sl_of_own h1, h2, fun i hi hi' => (h3 i hi hi').toInts (hr _ (List.getElem_mem _))⟩
theorem OwnW.alloc {B : Nat} {w : World} {v : Value} {xss : List (List Int)} (h : OwnW B w v xss) (o : Obj) : OwnW B (w.alloc o) v xss := by
  obtain ⟨vs, h1, h2, h3⟩ := h
  exact ⟨vs, World.ownsRow.alloc h1 o, h2, fun i hi hi' => World.ownsRow.alloc (h3 i hi hi') o⟩

/-- 'append(out, row)'. -/
theorem wpList_push_weak (w : World) {ops : Array Oper} {rest : List Oper} {o : Oper} {a : Act} {Q : Exit → Act → World → Prop}
    (hg : o.guard = none) (s x : Operand) (hop : o.op = Op.call { callee := Callee.builtin Builtin.append, args := #[s, x], argTypes := #[22, 22] })
    (B : Nat) (v : Value) (xss : List (List Int)) (hs : a.eval s = v) (hown : OwnW B w v xss) (ad : Addr) (c : Nat) (r : Value) (xs : List Int) (hx : a.eval x = .slice (some ad) 1 c) (hc : w.cell? ad = some r)
    (hr : OwnI B w r xs) (hlen : xss.length ≤ 1099511627776) (hB : B ≤ w.heap.size)
    (hK : ∀ a' cap' w', OwnW B w' (.slice a' (xss.length + 1) cap') (xss ++ [xs]) → w.grownBy w' v.ownBlock → wpList Try.prog ops Q rest (a.put o.dst (.slice a' (xss.length + 1) cap')) w') :
    wpList Try.prog ops Q (o :: rest) a w := by
  obtain ⟨i0, hi, hz0, hz1, hz2⟩ := info_parts infoInts
  obtain ⟨vs, h1, h2, h3⟩ := hown
  have hone : r.oneCell' = true := by
    obtain ⟨_, _, rfl, _⟩ := own_shape hr
    rfl
  refine wpList_append_own w hg s x 22 hop B 23 i0 (.slice none 0 0) 1 24 Try.underlying22 hi hz0 hz1 hz2 rfl (by decide) v vs.length vs hs h1 ad 1 c [r] hx rfl ?_ (by simp [hone]) (by unfold maxLen; omega) (by omega) hB ?_
  · intro j u hj
    match j, hj with
    | 0, hj => simp at hj; subst hj; simpa [Addr.add] using hc
  · intro v' w' h5 h6 _
    have hap : ∀ u ys, OwnI B w u ys → OwnI B w' u ys := fun u ys hu => World.ownsRow.kept hu h6 (own_apart hu h1 (by decide))
    obtain ⟨a', cap', rfl, _⟩ := own_shape h5
    rw [h2] at h5 ⊢
    refine hK a' cap' w' ⟨vs ++ [r], by simpa [h2] using h5, by simp [h2], fun i hi' hi'' => ?_⟩ h6
    by_cases hlt : i < vs.length
    · rw [List.getElem_append_left hlt, List.getElem_append_left (by omega)]
      exact hap _ _ (h3 i hlt (by omega))
    · have e : i = vs.length := by simp at hi'; omega
      subst e
      have := hap _ _ hr
      simpa [h2] using this

/-- The first row is put anew after something was appended to it. -/
theorem OwnII.regrown {B : Nat} {w w' : World} {g n cap : Nat} {xss : List (List Int)} {v0 : Value} (h : OwnII B w (.slice (some ⟨g, 0, none⟩) n cap) xss) (h0 : 0 < xss.length) (hc : w.cell? ⟨g, 0, none⟩ = some v0)
    (hg : w.grownBy w' v0.ownBlock) {r : Value} {ys : List Int} (hr : OwnI B w' r ys) : OwnW B (w'.setCell ⟨g, 0, none⟩ r) (.slice (some ⟨g, 0, none⟩) n cap) (xss.set 0 ys) := by
  obtain ⟨vs, h1, h2, h3, h4⟩ := h
  obtain ⟨a, cap', he, _⟩ := own_shape h1
  injection he with _ e2 _
  subst e2
  have hv0 : v0 = vs[0]'(by omega) := by
    rw [World.ownsRow.cellAt h1 0 (by omega), List.getElem?_eq_getElem (by omega)] at hc
    injection hc with hc
    exact hc.symm
  have hrow0 := h3 0 (by omega) h0
  rw [hv0] at hg
  have h1' := World.ownsRow.kept h1 hg (own_apart h1 hrow0 (by decide))
  have hst := (World.ownsRow.stored h1' 0 r).1
  have hkeep : ∀ u ys, OwnI B w' u ys → OwnI B (w'.setCell ⟨g, 0, none⟩ r) u ys := fun u ys hu => by
    refine World.ownsRow.kept hu (grownBy_setCell w' ⟨g, 0, none⟩ r) ?_
    have := own_apart hu h1' (by decide)
    simpa [Value.ownBlock] using this
  refine ⟨vs.set 0 r, by rw [List.length_set]; exact hst, by simpa using h2, fun i hi hi' => ?_⟩
  rw [List.getElem_set, List.getElem_set]
  split
  · exact hkeep _ _ hr
  · rename_i hne
    have hi2 : i < vs.length := by simpa using hi
    exact hkeep _ _ (World.ownsRow.kept (h3 i hi2 (by omega)) hg (h4 i 0 hi2 (by omega) (fun e => hne e.symm)))

/-- Of a row that is drawn j numbers are there. -/
def RowRel (wo : World) (K : Nat) (a : Option Addr) (cap : Nat) (bs : List Int) (p : Int) (j : Nat) (ar : Option Addr) (cr : Nat) (wi : World) : Prop :=
  ∃ xs p', OwnI wo.heap.size wi (.slice ar j cr) xs ∧ xs.length = j ∧ (∀ x ∈ xs, In64 x) ∧ Rd wi K a cap bs p' ∧ p' ≤ p + (j : Int) ∧ wo.grownBy wi (some K)
/-- Of a table k rows. -/
def TabRel (w : World) (K : Nat) (a : Option Addr) (cap : Nat) (bs : List Int) (p : Int) (k : Nat) (ao : Option Addr) (co : Nat) (wr : World) : Prop :=
  ∃ xss p', OwnII w.heap.size wr (.slice ao k co) xss ∧ xss.length = k ∧ (∀ xs ∈ xss, (∀ x ∈ xs, In64 x) ∧ xs.length ≤ 6) ∧ Rd wr K a cap bs p' ∧ p' ≤ p + 6 * (k : Int) ∧ w.grownBy wr (some K)

theorem rowRel_start {wo : World} {K : Nat} {a : Option Addr} {cap : Nat} {bs : List Int} {p : Int} (h : Rd wo K a cap bs p) :
    RowRel wo K a cap bs p 0 (some ⟨wo.heap.size, 0, none⟩) 0 (wo.alloc (.cells #[] 3)) :=
  ⟨[], p, OwnI.lit wo, rfl, by simp, h.below ((Below.refl _ _).alloc (Nat.le_refl _) _), by omega, World.grownBy_alloc _ _ _⟩

theorem rowRel_step {wo wi w2 w4 : World} {K : Nat} {a : Option Addr} {cap : Nat} {bs : List Int} {p p2 x : Int} {j : Nat} {v : Value} {xs : List Int} {o : Obj} {a' : Option Addr} {cap' : Nat}
    (hK : K < wo.heap.size) (hg : wo.grownBy wi (some K)) (hd : wi.grownBy w2 (some K)) (hR2 : Rd w2 K a cap bs p2) (hp : p2 ≤ p + ((j + 1 : Nat) : Int)) (hv : OwnI wo.heap.size wi v xs) (hl : xs.length = j) (hin : ∀ y ∈ xs, In64 y) (hx : In64 x)
    (ho4 : OwnI wo.heap.size w4 (.slice a' (j + 1) cap') (xs ++ [x])) (hg4 : (w2.alloc o).grownBy w4 v.ownBlock) : RowRel wo K a cap bs p (j + 1) a' cap' w4 := by
  have hlt : ∀ k, v.ownBlock = some k → wo.heap.size ≤ k := fun k hk => (World.ownsRow.lt hv k hk).1
  refine ⟨xs ++ [x], p2, ho4, by simp [hl], fun y hy => ?_, ?_, hp, ?_⟩
  · rcases List.mem_append.1 hy with h | h
    · exact hin y h
    · simp at h; rw [h]; exact hx
  · exact (hR2.below ((Below.refl _ _).alloc (Nat.le_refl _) o)).grown hg4 (fun k hk => by have := hlt k hk; omega)
  · exact ((grown_trans hg hd).andThen (World.grownBy_alloc w2 o none) (fun _ e => by cases e)).andThen hg4 (fun k hk => .inl (hlt k hk))

theorem tabRel_step {w wr w3 w4 : World} {K : Nat} {a : Option Addr} {cap : Nat} {bs : List Int} {p p0 : Int} {k q : Nat} {xss : List (List Int)} {xs : List Int} {ao a' : Option Addr} {co cap' : Nat}
    (hK : K < w.heap.size) (hg : w.grownBy wr (some K)) (hd : wr.grownBy w3 (some K)) (hR : ∃ p', Rd w3 K a cap bs p' ∧ p' ≤ p + 6 * ((k + 1 : Nat) : Int)) (hl : xss.length = k) (hin : ∀ xs ∈ xss, (∀ x ∈ xs, In64 x) ∧ xs.length ≤ 6) (hin2 : (∀ x ∈ xs, In64 x) ∧ xs.length ≤ 6)
    (ho : OwnII w.heap.size w4 (.slice a' (k + 1) cap') (xss ++ [xs])) (hs : w3.heap.size ≤ w4.heap.size) (hb : ∀ b, b < w3.heap.size → b < w.heap.size → w4.heap[b]? = w3.heap[b]?) (h1 : w4.os = w3.os) (h2 : w4.tape = w3.tape) (h3 : w4.output = w3.output) :
    TabRel w K a cap bs p (k + 1) a' cap' w4 := by
  obtain ⟨p', hR1, hR2⟩ := hR
  have hwr := hg.size
  have hw3 := hd.size
  have hg3 := grown_trans hg hd
  refine ⟨xss ++ [xs], p', ho, by simp [hl], fun ys hy => ?_, hR1.keep (fun b hbk => hb b (by omega) (by omega)), hR2, ⟨h1.trans hg3.os, h2.trans hg3.tape, h3.trans hg3.output, by omega, fun b hbl hne => ?_⟩⟩
  · rcases List.mem_append.1 hy with h | h
    · exact hin ys h
    · simp at h; rw [h]; exact hin2
  · rw [hb b (by omega) hbl]
    exact hg3.block b hbl hne

/-- The row of rows itself is as it was behind an append to one of its rows. -/
theorem OwnII.outer {B : Nat} {w w' : World} {g n cap : Nat} {xss : List (List Int)} {v0 : Value} {o : Obj} (h : OwnII B w (.slice (some ⟨g, 0, none⟩) n cap) xss) (h0 : 0 < xss.length) (hc : w.cell? ⟨g, 0, none⟩ = some v0)
    (hg : (w.alloc o).grownBy w' v0.ownBlock) : w'.cell? ⟨g, 0, none⟩ = some v0 ∧ w'.frozen? ⟨g, 0, none⟩ = false ∧ w.grownBy w' v0.ownBlock := by
  have hga : w.grownBy w' v0.ownBlock := (World.grownBy_alloc w o v0.ownBlock).andThen hg (fun k hk => .inr hk)
  obtain ⟨vs, h1, h2, h3, h4⟩ := h
  obtain ⟨a, cap', he, _⟩ := own_shape h1
  injection he with _ e2 _
  subst e2
  have hv0 : v0 = vs[0]'(by omega) := by
    rw [World.ownsRow.cellAt h1 0 (by omega), List.getElem?_eq_getElem (by omega)] at hc
    injection hc with hc
    exact hc.symm
  have h1' := World.ownsRow.kept h1 hga (by rw [hv0]; exact own_apart h1 (h3 0 (by omega) h0) (by decide))
  refine ⟨?_, World.ownsRow.frozenAt h1' 0, hga⟩
  rw [World.ownsRow.cellAt h1' 0 (by omega), List.getElem?_eq_getElem (by omega), hv0]

/-- A step that writes to a row of the call's own keeps the reader. -/
theorem chain_step {w w1 w2 : World} {K : Nat} {a : Option Addr} {cap : Nat} {bs : List Int} {p : Int} {row : Option Nat} (hK : K < w.heap.size) (h : w.grownBy w1 (some K) ∧ Rd w1 K a cap bs p)
    (hg : w1.grownBy w2 row) (hr : ∀ k, row = some k → w.heap.size ≤ k) : w.grownBy w2 (some K) ∧ Rd w2 K a cap bs p :=
  ⟨h.1.andThen hg (fun k hk => .inl (hr k hk)), h.2.grown hg (fun k hk => by have := hr k hk; omega)⟩

/-- The cell of a block just made. -/
theorem cell_new (W : World) (N : Nat) (r : Value) (e : TypeId) (hN : W.heap.size = N) : (W.alloc (.cells #[r] e)).cell? ⟨N, 0, none⟩ = some r := by
  subst hN
  exact cell_of_one (heap_alloc_new W _)

/-- What a drawing of a table leaves. -/
def TableDrawn (K : Nat) (a : Option Addr) (cap : Nat) (bs : List Int) (p n : Int) (w : World) (e : Ending) (w' : World) : Prop :=
  ∃ xss a' cap', e = .returned (.slice a' xss.length cap') ∧ Rows2 w.heap.size w' (.slice a' xss.length cap') xss ∧ Drew K a cap bs p n w w'

end Go.Proofs.Ytoddomhpdeoeeaa
