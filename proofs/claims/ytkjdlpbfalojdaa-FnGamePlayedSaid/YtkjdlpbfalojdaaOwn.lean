/- Laws on owned rows: a store into one, a row of rows whose row is set or changed, one row more. No walk. -/
import Derived.Test.YtkjdlpbfalojdaaBase
import Derived.Laws.OwnMore
import Derived.OneCell
import Derived.Maps.AppendAt
namespace Go.Proofs.Ytkjdlpbfalojdaa
open Go.RowKit
set_option linter.unusedVariables false

theorem own_apart {w : World} {B B' : Nat} {e e' : TypeId} {s s' : Nat} {v v' : Value} {n n' : Nat} {xs xs' : List Value}
    (h : w.ownsRow B e s v n xs) (h' : w.ownsRow B' e' s' v' n' xs') (he : e ≠ e') : v.ownBlock = none ∨ v.ownBlock ≠ v'.ownBlock := by
  rcases h.2 with ⟨rfl, _⟩ | ⟨g, cap, cur, rfl, _, hg, _⟩
  · left; rfl
  · right
    rcases h'.2 with ⟨rfl, _⟩ | ⟨g', cap', cur', rfl, _, hg', _⟩
    · simp [Value.ownBlock]
    · simp only [Value.ownBlock, ne_eq, Option.some.injEq]
      rintro rfl
      rw [hg] at hg'
      simp at hg'
      exact he hg'.2

theorem grownBy_setCell (w : World) (p : Addr) (u : Value) : w.grownBy (w.setCell p u) (some p.block) :=
  ⟨rfl, rfl, rfl, by simp [World.setCell], fun k _ hk => Below.heap_setCell w p u k (by simpa using hk)⟩

/-- A cell that is there, and may be written, stays so while blocks are laid. -/
theorem keep_cf {w w' : World} {p : Addr} {u : Value} (hb : Below w.heap.size w w') (hc : w.cell? p = some u) (hf : w.frozen? p = false) : w'.cell? p = some u ∧ w'.frozen? p = false :=
  have h := World.block_lt_of_cell? w p hc
  ⟨(hb.cell h).trans hc, (hb.frozen h).trans hf⟩

theorem own_nil_block {w : World} {B : Nat} {e : TypeId} {s : Nat} {v : Value} {n : Nat} {xs : List Value} (h : w.ownsRow B e s v n xs) (hv : v.ownBlock = none) : v = .slice none 0 0 ∧ n = 0 := by
  rcases h.2 with h | ⟨g, cap, cur, rfl, _⟩
  · exact h
  · simp [Value.ownBlock] at hv

theorem own_head {w : World} {B : Nat} {e : TypeId} {s : Nat} {v : Value} {n : Nat} {xs : List Value} (h : w.ownsRow B e s v n xs) (hn : 0 < n) :
    ∃ g cap, v = .slice (some ⟨g, 0, none⟩) n cap ∧ B ≤ g ∧ g < w.heap.size ∧ n ≤ cap ∧ cap ≤ maxLen := by
  rcases h.2 with h | ⟨g, cap, cur, rfl, hb, hg, h1, h2, _⟩
  · omega
  · exact ⟨g, cap, rfl, hb, (Array.getElem?_eq_some_iff.1 hg).1, h1, h2⟩

theorem own_shape {w : World} {B : Nat} {e : TypeId} {s : Nat} {v : Value} {n : Nat} {xs : List Value} (h : w.ownsRow B e s v n xs) :
    ∃ a cap, v = .slice a n cap ∧ n ≤ cap ∧ cap ≤ maxLen := by
  rcases h.2 with ⟨rfl, rfl⟩ | ⟨g, cap, cur, rfl, hb, hg, h1, h2, _⟩
  · exact ⟨none, 0, rfl, by omega, by simp [maxLen]⟩
  · exact ⟨_, cap, rfl, h1, h2⟩

/-- What the walk reads of an owned slice of ints. -/
theorem OwnI.opened {B : Nat} {w : World} {v : Value} {xs : List Int} (h : OwnI B w v xs) :
    ∃ a cap, v = .slice a xs.length cap ∧ xs.length ≤ cap ∧ cap ≤ 9223372036854775807 ∧
      (0 < xs.length → ∃ g, a = some ⟨g, 0, none⟩ ∧ B ≤ g ∧ (∀ i (h : i < xs.length), w.cell? ⟨g, i, none⟩ = some (.int .i64 xs[i])) ∧ ∀ i, w.frozen? ⟨g, i, none⟩ = false) := by
  obtain ⟨a, cap, rfl, h1, h2⟩ := own_shape h
  refine ⟨a, cap, rfl, h1, by simpa [maxLen] using h2, fun hn => ?_⟩
  obtain ⟨g, cap', he, hb, _⟩ := own_head h hn
  injection he with e1 _ e3
  subst e1 e3
  refine ⟨g, rfl, hb, fun i hi => ?_, fun i => World.ownsRow.frozenAt h i⟩
  have h' : w.ownsRow B 3 1 (.slice (some ⟨g, 0, none⟩) xs.length cap) xs.length (ints xs) := h
  rw [World.ownsRow.cellAt h' i (by omega), List.getElem?_eq_getElem (by simpa using hi), ints_get]

theorem OwnI.at {B : Nat} {w : World} {g n cap : Nat} {xs : List Int} (h : OwnI B w (.slice (some ⟨g, 0, none⟩) n cap) xs) (k : Nat) (hk : k < xs.length) :
    (∃ u, w.cell? ⟨g, k, none⟩ = some (.int .i64 u)) ∧ w.frozen? ⟨g, k, none⟩ = false := by
  obtain ⟨a, cap', he, _, _, hd⟩ := h.opened
  injection he with e1 _ _
  subst e1
  obtain ⟨g', hg, _, hc, hf⟩ := hd (by omega)
  injection hg with hg
  injection hg with hg _ _
  subst hg
  exact ⟨⟨_, hc k hk⟩, hf k⟩

theorem OwnI.set {B : Nat} {w : World} {g n cap : Nat} {xs : List Int} (h : OwnI B w (.slice (some ⟨g, 0, none⟩) n cap) xs) (k : Nat) (u : Int) :
    OwnI B (w.setCell ⟨g, k, none⟩ (.int .i64 u)) (.slice (some ⟨g, 0, none⟩) n cap) (xs.set k u) := by
  obtain ⟨a, cap', he, _⟩ := own_shape h
  injection he with _ e2 _
  subst e2
  have := (World.ownsRow.stored h k (.int .i64 u)).1
  unfold OwnI
  rw [List.length_set, ← ints_set]
  exact this

theorem own_zeros_int {w : World} {B n : Nat} {v : Value} (h : w.ownsRow B 3 1 v n (madeCells (Value.int .i64 0).cells (n * 1)).toList) : OwnI B w v (List.replicate n 0) := by
  unfold OwnI
  rw [List.length_replicate]
  have e : ints (List.replicate n 0) = (madeCells (Value.int .i64 0).cells (n * 1)).toList := by
    rw [Nat.mul_one, show (Value.int .i64 0).cells = #[Value.int .i64 0] from rfl, toList_madeCells_one]; simp [ints]
  rw [e]
  exact h

/-- 'make([]int, n)'. -/
theorem wpList_make_ints (w : World) {ops : Array Oper} {rest : List Oper} {o : Oper} {a : Act} {Q : Exit → Act → World → Prop}
    (hg : o.guard = none) (l c : Operand) (hop : o.op = Op.makeSlice 38 l c)
    (L C : Int) (n : Nat) (hl : a.eval l = .int .i64 L) (hc : a.eval c = .int .i64 C) (hL : L = (n : Int)) (hC : C = (n : Int)) (b2 : n ≤ 1099511627776)
    (hK : ∀ w', OwnI w.heap.size w' (.slice (some ⟨w.heap.size, 0, none⟩) n n) (List.replicate n 0) → Below w.heap.size w w' → w.heap.size < w'.heap.size →
      wpList Try.prog ops Q rest (a.put o.dst (.slice (some ⟨w.heap.size, 0, none⟩) n n)) w') :
    wpList Try.prog ops Q (o :: rest) a w := by
  obtain ⟨i0, hi, hz0, hz1, hz2⟩ := info_parts infoInt
  refine wpList_make_full w hg l c 38 hop w.heap.size 3 i0 (.int .i64 0) 1 Try.underlying38 hi hz0 hz1 .i64 .i64 L C n hl hc hL hC (by rw [hz2]; omega) (by unfold maxLen; omega) (Nat.le_refl _) ?_
  intro w' h1 h2
  refine hK w' (own_zeros_int h1) ((Below.refl _ w).grown h2 (Nat.le_refl _) (by simp)) ?_
  exact (World.ownsRow.lt h1 _ rfl).2

/-! ### Rows of rows -/
theorem OwnII.opened {B : Nat} {w : World} {v : Value} {xss : List (List Int)} (h : OwnII B w v xss) :
    ∃ a cap, v = .slice a xss.length cap ∧ xss.length ≤ cap ∧ cap ≤ 9223372036854775807 ∧ ∃ V : Nat → Value,
      (0 < xss.length → ∃ g, a = some ⟨g, 0, none⟩ ∧ B ≤ g ∧ (∀ i, i < xss.length → w.cell? ⟨g, i, none⟩ = some (V i)) ∧ ∀ i, w.frozen? ⟨g, i, none⟩ = false) ∧
      ∀ i (h : i < xss.length), OwnI B w (V i) xss[i] := by
  obtain ⟨vs, h1, h2, h3, h4⟩ := h
  obtain ⟨a, cap, rfl, h5, h6⟩ := own_shape h1
  refine ⟨a, cap, by rw [h2], by omega, by simpa [maxLen] using h6, fun i => vs.getD i undef, fun hn => ?_, fun i hi => ?_⟩
  · obtain ⟨g, cap', he, hb, _⟩ := own_head h1 (by omega)
    injection he with e1 _ e3
    subst e1 e3
    refine ⟨g, rfl, hb, fun i hi => ?_, fun i => World.ownsRow.frozenAt h1 i⟩
    rw [World.ownsRow.cellAt h1 i (by omega)]
    simp [List.getD, List.getElem?_eq_getElem (show i < vs.length by omega)]
  · have := h3 i (by omega) hi
    simpa [List.getD, List.getElem?_eq_getElem (show i < vs.length by omega)] using this

theorem OwnII.head {B : Nat} {w : World} {a : Option Addr} {n cap : Nat} {xss : List (List Int)} (h : OwnII B w (.slice a n cap) xss) (hp : 0 < xss.length) : ∃ g, a = some ⟨g, 0, none⟩ ∧ B ≤ g := by
  obtain ⟨vs, h1, h2, _⟩ := h
  obtain ⟨g, cap', he, hB, _⟩ := own_head h1 (by omega)
  injection he with e1 _ _
  exact ⟨g, e1, hB⟩

/-- A row is put at place k: a row of its own, which none of the others is. -/
theorem OwnII.setRow {B : Nat} {w : World} {g n cap : Nat} {xss : List (List Int)} (h : OwnII B w (.slice (some ⟨g, 0, none⟩) n cap) xss) (k : Nat) {r : Value} {xs : List Int}
    (hr : OwnI B w r xs) (hf : ∀ i u, i < xss.length → w.cell? ⟨g, i, none⟩ = some u → u.ownBlock = none ∨ r.ownBlock = none ∨ u.ownBlock ≠ r.ownBlock) :
    OwnII B (w.setCell ⟨g, k, none⟩ r) (.slice (some ⟨g, 0, none⟩) n cap) (xss.set k xs) := by
  obtain ⟨vs, h1, h2, h3, h4⟩ := h
  obtain ⟨a, cap', he, _⟩ := own_shape h1
  injection he with _ e2 _
  subst e2
  have hst := (World.ownsRow.stored h1 k r).1
  have hcell : ∀ i (hi : i < vs.length), w.cell? ⟨g, i, none⟩ = some vs[i] := fun i hi => by
    rw [World.ownsRow.cellAt h1 i (by omega), List.getElem?_eq_getElem hi]
  have hkeep : ∀ u ys, OwnI B w u ys → OwnI B (w.setCell ⟨g, k, none⟩ r) u ys := fun u ys hu => by
    refine World.ownsRow.kept hu (grownBy_setCell w ⟨g, k, none⟩ r) ?_
    have := own_apart hu h1 (by decide)
    simpa [Value.ownBlock] using this
  refine ⟨vs.set k r, by rw [List.length_set]; exact hst, by simpa using h2, fun i hi hi' => ?_, fun i j hi hj hij => ?_⟩
  · rw [List.getElem_set, List.getElem_set]
    split
    · exact hkeep _ _ hr
    · exact hkeep _ _ (h3 i (by simpa using hi) (by simpa using hi'))
  · simp only [List.length_set] at hi hj
    rw [List.getElem_set, List.getElem_set]
    split
    · split
      · omega
      · have := hf j _ (by omega) (hcell j hj)
        rcases this with h | h | h
        · rw [h]; by_cases e : r.ownBlock = none
          · exact .inl e
          · exact .inr e
        · exact .inl h
        · exact .inr (fun e => h e.symm)
    · split
      · have := hf i _ (by omega) (hcell i hi)
        rcases this with h | h | h
        · exact .inl h
        · rw [h]; by_cases e : vs[i].ownBlock = none
          · exact .inl e
          · exact .inr e
        · exact .inr h
      · exact h4 i j hi hj hij

/-- A row's own numbers turn; nothing else does. -/
theorem OwnII.turnRow {B : Nat} {w w' : World} {v : Value} {xss : List (List Int)} {vs : List Value} {k : Nat} {xs : List Int}
    (h1 : w.ownsRow B 38 1 v vs.length vs) (h2 : vs.length = xss.length) (h3 : ∀ i (h : i < vs.length) (h' : i < xss.length), OwnI B w vs[i] xss[i])
    (h4 : ∀ i j (hi : i < vs.length) (hj : j < vs.length), i ≠ j → vs[i].ownBlock = none ∨ vs[i].ownBlock ≠ vs[j].ownBlock) (hk : k < vs.length)
    (hg : w.grownBy w' vs[k].ownBlock) (hr : OwnI B w' vs[k] xs) :
    w'.ownsRow B 38 1 v vs.length vs ∧ vs.length = (xss.set k xs).length ∧ ∀ i (h : i < vs.length) (h' : i < (xss.set k xs).length), OwnI B w' vs[i] (xss.set k xs)[i] := by
  refine ⟨World.ownsRow.kept h1 hg ?_, by simpa using h2, fun i hi hi' => ?_⟩
  · exact own_apart h1 (h3 k hk (by omega)) (by decide)
  · rw [List.getElem_set]
    split
    · rename_i e; subst e; exact hr
    · rename_i e
      exact World.ownsRow.kept (h3 i hi (by simpa using hi')) hg (h4 i k hi hk (fun e' => e e'.symm))

theorem owns_below {B : Nat} {w w' : World} {e : TypeId} {size : Nat} {v : Value} {n : Nat} {vs : List Value} (h : w.ownsRow B e size v n vs) (hb : Below w.heap.size w w') : w'.ownsRow B e size v n vs := owns_keep h (.of_below hb)
theorem OwnI.below {B : Nat} {w w' : World} {v : Value} {xs : List Int} (h : OwnI B w v xs) (hb : Below w.heap.size w w') : OwnI B w' v xs := owns_below h hb
theorem OwnI.mono {B B' : Nat} {w : World} {v : Value} {xs : List Int} (h : OwnI B w v xs) (hB : B' ≤ B) : OwnI B' w v xs := owns_mono h hB
theorem OwnII.below {B : Nat} {w w' : World} {v : Value} {xss : List (List Int)} (h : OwnII B w v xss) (hb : Below w.heap.size w w') : OwnII B w' v xss := h.keep (.of_below hb)

/-- A row that has just been made is put at place k. -/
theorem OwnII.setFresh {B : Nat} {w w2 : World} {g n cap : Nat} {xss : List (List Int)} (h : OwnII B w (.slice (some ⟨g, 0, none⟩) n cap) xss) (hb : Below w.heap.size w w2) (hB : B ≤ w.heap.size)
    (k : Nat) {r : Value} {xs : List Int} (hr : OwnI w.heap.size w2 r xs) :
    OwnII B (w2.setCell ⟨g, k, none⟩ r) (.slice (some ⟨g, 0, none⟩) n cap) (xss.set k xs) := by
  refine (h.below hb).setRow k (hr.mono hB) ?_
  intro i u hix hu
  by_cases hn : r.ownBlock = none
  · exact .inr (.inl hn)
  obtain ⟨m, hm⟩ := Option.ne_none_iff_exists'.1 hn
  have h2 := (World.ownsRow.lt hr m hm).1
  obtain ⟨vs, h3, h4, h5, _⟩ := h
  obtain ⟨a, cap', he, _⟩ := own_shape h3
  injection he with _ e2 _
  subst e2
  have hi : i < vs.length := by omega
  have hc : w.cell? ⟨g, i, none⟩ = some vs[i] := by rw [World.ownsRow.cellAt h3 i (by omega), List.getElem?_eq_getElem hi]
  have hc2 := (Above.of_below (B := 0) hb).cell (Nat.zero_le _) hc
  rw [hu] at hc2
  injection hc2 with hc2
  subst hc2
  by_cases hn' : vs[i].ownBlock = none
  · exact .inl hn'
  · obtain ⟨m', hm'⟩ := Option.ne_none_iff_exists'.1 hn'
    have := (World.ownsRow.lt (h5 i hi (by omega)) m' hm').2
    exact .inr (.inr (by rw [hm, hm']; simp; omega))

theorem OwnI.empty (B : Nat) (w : World) : OwnI B w (.slice none 0 0) [] := World.ownsRow_nil w B 3 1

theorem OwnII.empty (B : Nat) (w : World) : OwnII B w (.slice none 0 0) [] := ⟨[], World.ownsRow_nil w B 38 1, rfl, by simp, by simp⟩

/-- '[][]int{}', '[]int{}'. -/
theorem OwnII.lit (w : World) : OwnII w.heap.size (w.alloc (.cells #[] 38)) (.slice (some ⟨w.heap.size, 0, none⟩) 0 0) [] :=
  ⟨[], World.ownsRow_made w #[] 0 (Nat.le_refl _) (by simp [maxLen]) rfl, rfl, by simp, by simp⟩
theorem OwnI.lit (w : World) : OwnI w.heap.size (w.alloc (.cells #[] 3)) (.slice (some ⟨w.heap.size, 0, none⟩) 0 0) [] :=
  World.ownsRow_made w #[] 0 (Nat.le_refl _) (by simp [maxLen]) rfl

theorem own_nils {w : World} {B n : Nat} {v : Value} (h : w.ownsRow B 38 1 v n (madeCells (Value.slice none 0 0).cells (n * 1)).toList) : OwnII B w v (List.replicate n []) := by
  rw [Nat.mul_one, show (Value.slice none 0 0).cells = #[Value.slice none 0 0] from rfl, toList_madeCells_one] at h
  refine ⟨List.replicate n (.slice none 0 0), by simpa using h, by simp, fun i hi hi' => ?_, fun i j hi hj _ => ?_⟩
  · simp only [List.getElem_replicate]
    exact OwnI.empty B w
  · left
    simp [Value.ownBlock]

/-- 'make([][]int, n)'. -/
theorem wpList_make_rows (w : World) {ops : Array Oper} {rest : List Oper} {o : Oper} {a : Act} {Q : Exit → Act → World → Prop}
    (hg : o.guard = none) (l c : Operand) (hop : o.op = Op.makeSlice 33 l c)
    (L C : Int) (n : Nat) (hl : a.eval l = .int .i64 L) (hc : a.eval c = .int .i64 C) (hL : L = (n : Int)) (hC : C = (n : Int)) (b2 : n ≤ 1099511627776)
    (hK : ∀ w', OwnII w.heap.size w' (.slice (some ⟨w.heap.size, 0, none⟩) n n) (List.replicate n []) → Below w.heap.size w w' → w.heap.size < w'.heap.size →
      wpList Try.prog ops Q rest (a.put o.dst (.slice (some ⟨w.heap.size, 0, none⟩) n n)) w') :
    wpList Try.prog ops Q (o :: rest) a w := by
  obtain ⟨i0, hi, hz0, hz1, hz2⟩ := info_parts infoInts
  refine wpList_make_full w hg l c 33 hop w.heap.size 38 i0 (.slice none 0 0) 1 Try.underlying33 hi hz0 hz1 .i64 .i64 L C n hl hc hL hC (by rw [hz2]; omega) (by unfold maxLen; omega) (Nat.le_refl _) ?_
  intro w' h1 h2
  refine hK w' (own_nils h1) ((Below.refl _ w).grown h2 (Nat.le_refl _) (by simp)) ?_
  exact (World.ownsRow.lt h1 _ rfl).2

theorem OwnII.at {B : Nat} {w : World} {g n cap : Nat} {xss : List (List Int)} (h : OwnII B w (.slice (some ⟨g, 0, none⟩) n cap) xss) (k : Nat) (hk : k < xss.length) :
    (∃ u, w.cell? ⟨g, k, none⟩ = some u ∧ OwnI B w u xss[k]) ∧ w.frozen? ⟨g, k, none⟩ = false := by
  obtain ⟨a, cap', he, _, _, V, hd, hV⟩ := h.opened
  injection he with e1 _ _
  subst e1
  obtain ⟨g', hg, _, hc, hf⟩ := hd (by omega)
  injection hg with hg
  injection hg with hg _ _
  subst hg
  exact ⟨⟨_, hc k hk, hV k hk⟩, hf k⟩

/-- An element of a row can be read and set. -/
theorem OwnII.elem {B : Nat} {w : World} {g n cap : Nat} {xss : List (List Int)} (h : OwnII B w (.slice (some ⟨g, 0, none⟩) n cap) xss) (i : Nat) (hi : i < xss.length) (hp : 0 < xss[i].length) :
    ∃ g' cap', w.cell? ⟨g, i, none⟩ = some (.slice (some ⟨g', 0, none⟩) xss[i].length cap') ∧ B ≤ g' ∧ xss[i].length ≤ cap' ∧ cap' ≤ 9223372036854775807 ∧ (∀ k (h : k < xss[i].length), w.cell? ⟨g', k, none⟩ = some (.int .i64 xss[i][k])) ∧
      (∀ k, w.frozen? ⟨g', k, none⟩ = false) ∧ ∀ k x, OwnII B (w.setCell ⟨g', k, none⟩ (.int .i64 x)) (.slice (some ⟨g, 0, none⟩) n cap) (xss.set i (xss[i].set k x)) := by
  obtain ⟨vs, h1, h2, h3, h4⟩ := h
  obtain ⟨a, cap', he, _⟩ := own_shape h1
  injection he with _ e2 _
  subst e2
  have hi' : i < vs.length := by omega
  have hr := h3 i hi' hi
  obtain ⟨g', cap', hv, hB, _, hc1, hc2⟩ := own_head hr hp
  obtain ⟨a, cap'', he, _, _, hd⟩ := hr.opened
  have hc : w.cell? ⟨g, i, none⟩ = some vs[i] := by rw [World.ownsRow.cellAt h1 i (by omega), List.getElem?_eq_getElem hi']
  rw [hv] at he
  injection he with e1 _ _
  subst e1
  obtain ⟨g'', hg, _, hcell, hfr⟩ := hd hp
  injection hg with hg
  injection hg with hg _ _
  subst hg
  refine ⟨g', cap', by rw [hc, hv], hB, hc1, by simpa [maxLen] using hc2, hcell, hfr, fun k x => ?_⟩
  have hr' := hr
  rw [hv] at hr'
  have hst := hr'.set k x
  rw [← hv] at hst
  have := OwnII.turnRow h1 h2 h3 h4 hi' (by rw [hv]; exact grownBy_setCell w ⟨g', k, none⟩ (.int .i64 x)) hst
  exact ⟨vs, this.1, this.2.1, this.2.2, h4⟩

/-- 'row = append(row, x)', x in a new block of its own. -/
theorem wpList_push_int (w : World) {ops : Array Oper} {rest : List Oper} {o : Oper} {a : Act} {Q : Exit → Act → World → Prop}
    (hg : o.guard = none) (s x : Operand) (hop : o.op = Op.call { callee := Callee.builtin Builtin.append, args := #[s, x], argTypes := #[38, 38] })
    (B : Nat) (v : Value) (xs : List Int) (hs : a.eval s = v) (hown : OwnI B w v xs) (ad : Addr) (c : Nat) (n : Int) (hx : a.eval x = .slice (some ad) 1 c) (hc : w.cell? ad = some (.int .i64 n))
    (hlen : xs.length ≤ 1099511627776) (hB : B ≤ w.heap.size)
    (hK : ∀ a' cap' w', OwnI B w' (.slice a' (xs.length + 1) cap') (xs ++ [n]) → w.grownBy w' v.ownBlock → wpList Try.prog ops Q rest (a.put o.dst (.slice a' (xs.length + 1) cap')) w') :
    wpList Try.prog ops Q (o :: rest) a w := by
  obtain ⟨i0, hi, hz0, hz1, hz2⟩ := info_parts infoInt
  refine wpList_append_own w hg s x 38 hop B 3 i0 (.int .i64 0) 1 8 Try.underlying38 hi hz0 hz1 hz2 rfl (by decide) v xs.length (ints xs) hs hown ad 1 c [.int .i64 n] hx rfl ?_ (by simp [Value.oneCell']) (by unfold maxLen; omega) (by omega) hB ?_
  · intro j u hj
    match j, hj with
    | 0, hj => simp at hj; subst hj; simpa [Addr.add] using hc
  · intro v' w' h1 h2 _
    obtain ⟨a', cap', rfl, _⟩ := own_shape h1
    refine hK a' cap' w' ?_ h2
    unfold OwnI
    rw [ints_append]
    simpa [ints] using h1

/-- 'out = append(out, row)', row's value in a new block of its own; row is none of out's rows. -/
theorem wpList_push_row (w : World) {ops : Array Oper} {rest : List Oper} {o : Oper} {a : Act} {Q : Exit → Act → World → Prop}
    (hg : o.guard = none) (s x : Operand) (hop : o.op = Op.call { callee := Callee.builtin Builtin.append, args := #[s, x], argTypes := #[33, 33] })
    (B : Nat) (v : Value) (xss : List (List Int)) (hs : a.eval s = v) (hown : OwnII B w v xss) (ad : Addr) (c : Nat) (r : Value) (xs : List Int) (hx : a.eval x = .slice (some ad) 1 c) (hc : w.cell? ad = some r)
    (hr : OwnI B w r xs) (hd : ∀ vs : List Value, w.ownsRow B 38 1 v vs.length vs → ∀ i (h : i < vs.length), r.ownBlock = none ∨ vs[i].ownBlock = none ∨ vs[i].ownBlock ≠ r.ownBlock)
    (hlen : xss.length ≤ 1099511627776) (hB : B ≤ w.heap.size)
    (hK : ∀ a' cap' w', OwnII B w' (.slice a' (xss.length + 1) cap') (xss ++ [xs]) → w.grownBy w' v.ownBlock → wpList Try.prog ops Q rest (a.put o.dst (.slice a' (xss.length + 1) cap')) w') :
    wpList Try.prog ops Q (o :: rest) a w := by
  obtain ⟨i0, hi, hz0, hz1, hz2⟩ := info_parts infoInts
  obtain ⟨vs, h1, h2, h3, h4⟩ := hown
  have hone : r.oneCell' = true := by
    obtain ⟨_, _, rfl, _⟩ := own_shape hr
    rfl
  refine wpList_append_own w hg s x 33 hop B 38 i0 (.slice none 0 0) 1 24 Try.underlying33 hi hz0 hz1 hz2 rfl (by decide) v vs.length vs hs h1 ad 1 c [r] hx rfl ?_ (by simp [hone]) (by unfold maxLen; omega) (by omega) hB ?_
  · intro j u hj
    match j, hj with
    | 0, hj => simp at hj; subst hj; simpa [Addr.add] using hc
  · intro v' w' h5 h6 _
    have hap : ∀ u ys, OwnI B w u ys → OwnI B w' u ys := fun u ys hu => World.ownsRow.kept hu h6 (own_apart hu h1 (by decide))
    obtain ⟨a', cap', rfl, _⟩ := own_shape h5
    rw [h2] at h5 ⊢
    refine hK a' cap' w' ⟨vs ++ [r], by simpa [h2] using h5, by simp [h2], fun i hi' hi'' => ?_, fun i j hi' hj' hij => ?_⟩ h6
    · by_cases hlt : i < vs.length
      · rw [List.getElem_append_left hlt, List.getElem_append_left (by omega)]
        exact hap _ _ (h3 i hlt (by omega))
      · have e : i = vs.length := by simp at hi'; omega
        subst e
        have := hap _ _ hr
        simpa [h2] using this
    · simp only [List.length_append, List.length_cons, List.length_nil] at hi' hj'
      by_cases h7 : i < vs.length
      · rw [List.getElem_append_left h7]
        by_cases h8 : j < vs.length
        · rw [List.getElem_append_left h8]; exact h4 i j h7 h8 hij
        · have e : j = vs.length := by omega
          subst e
          rw [List.getElem_append_right (Nat.le_refl _)]
          simp only [Nat.sub_self, List.getElem_cons_zero]
          rcases hd vs h1 i h7 with h | h | h
          · rw [h]; by_cases e : vs[i].ownBlock = none
            · exact .inl e
            · exact .inr e
          · exact .inl h
          · exact .inr h
      · have e : i = vs.length := by omega
        subst e
        rw [List.getElem_append_right (Nat.le_refl _), List.getElem_append_left (show j < vs.length by omega)]
        simp only [Nat.sub_self, List.getElem_cons_zero]
        rcases hd vs h1 j (by omega) with h | h | h
        · exact .inl h
        · rw [h]; by_cases e : r.ownBlock = none
          · exact .inl e
          · exact .inr e
        · exact .inr (fun e => h e.symm)

/-- Rows of an older world lie in older blocks. -/
theorem rows_old {B : Nat} {w w2 : World} {v : Value} {xss : List (List Int)} (h : OwnII B w v xss) (hb : Below w.heap.size w w2) {r : Value} {xs : List Int} (hr : OwnI w.heap.size w2 r xs) :
    ∀ vs : List Value, w2.ownsRow B 38 1 v vs.length vs → ∀ i (h : i < vs.length), r.ownBlock = none ∨ vs[i].ownBlock = none ∨ vs[i].ownBlock ≠ r.ownBlock := by
  intro vs hvs i hi
  obtain ⟨vs', h1, h2, h3, _⟩ := h
  have e : vs = vs' := by
    have h1' := owns_below h1 hb
    rcases h1'.2 with ⟨rfl, h0⟩ | ⟨g, cap, cur, rfl, _, hg, _, _, _, ht⟩
    · rcases hvs.2 with ⟨_, h0'⟩ | ⟨_, _, _, he, _⟩
      · rw [List.eq_nil_of_length_eq_zero h0, List.eq_nil_of_length_eq_zero h0']
      · simp at he
    · rcases hvs.2 with ⟨he, _⟩ | ⟨g2, cap2, cur2, he, _, hg2, _, _, _, ht2⟩
      · simp at he
      · injection he with e1 e2 _
        injection e1 with e1
        injection e1 with e1 _ _
        subst e1
        rw [hg] at hg2
        simp only [Option.some.injEq, Obj.cells.injEq] at hg2
        rw [← ht, ← ht2, hg2.1, e2]
  subst e
  by_cases hn : r.ownBlock = none
  · exact .inl hn
  obtain ⟨m, hm⟩ := Option.ne_none_iff_exists'.1 hn
  by_cases hn' : vs[i].ownBlock = none
  · exact .inr (.inl hn')
  obtain ⟨m', hm'⟩ := Option.ne_none_iff_exists'.1 hn'
  have h4 := (World.ownsRow.lt hr m hm).1
  have h5 := (World.ownsRow.lt (h3 i hi (by omega)) m' hm').2
  exact .inr (.inr (by rw [hm, hm']; simp; omega))

/-- The same, the row made since world wr, in which out lies. -/
theorem wpList_push_new (wr W3 : World) {ops : Array Oper} {rest : List Oper} {o : Oper} {a : Act} {Q : Exit → Act → World → Prop}
    (hg : o.guard = none) (s x : Operand) (hop : o.op = Op.call { callee := Callee.builtin Builtin.append, args := #[s, x], argTypes := #[33, 33] })
    (B : Nat) (v : Value) (xss : List (List Int)) (hs : a.eval s = v) (hown : OwnII B wr v xss) (hb : Below wr.heap.size wr W3) (N : Nat) (hN : W3.heap.size = N) (r : Value) (xs : List Int) (hx : a.eval x = .slice (some ⟨N, 0, none⟩) 1 1)
    (hr : OwnI wr.heap.size W3 r xs) (hlen : xss.length ≤ 1099511627776) (hB : B ≤ wr.heap.size)
    (hK : ∀ a' cap' w', OwnII B w' (.slice a' (xss.length + 1) cap') (xss ++ [xs]) → Below B wr w' → wpList Try.prog ops Q rest (a.put o.dst (.slice a' (xss.length + 1) cap')) w') :
    wpList Try.prog ops Q (o :: rest) a (W3.alloc (.cells #[r] 38)) := by
  have hsz := hb.size
  have hb4 : Below wr.heap.size wr (W3.alloc (.cells #[r] 38)) := hb.alloc hsz _
  have hr4 : OwnI wr.heap.size (W3.alloc (.cells #[r] 38)) r xs := World.ownsRow.alloc hr _
  have hn4 : (W3.alloc (.cells #[r] 38)).heap.size = W3.heap.size + 1 := by simp
  refine wpList_push_row _ hg s x hop B v xss hs (hown.below hb4) ⟨N, 0, none⟩ 1 r xs hx ?_ (hr4.mono hB) (rows_old hown hb4 hr4) hlen (by omega) ?_
  · subst hN
    exact cell_of_one (heap_alloc_new W3 _)
  · intro a' cap' w' h1 h2
    refine hK a' cap' w' h1 ((hb4.mono hB).grown h2 (by omega) ?_)
    intro k hk
    obtain ⟨vs, h3, _⟩ := hown
    exact (World.ownsRow.lt h3 k hk).1

end Go.Proofs.Ytkjdlpbfalojdaa
