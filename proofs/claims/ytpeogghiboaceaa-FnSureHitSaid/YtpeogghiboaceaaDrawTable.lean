/- The drawn tables and lots: which ones is never asked; that they are read, and lie in new memory. -/
import Derived.Test.YtpeogghiboaceaaDraw
namespace Go.Proofs.Ytpeogghiboaceaa
open Go.RowKit
set_option linter.unusedVariables false

theorem Rd.grown {w w' : World} {K : Nat} {a : Option Addr} {cap : Nat} {bs : List Int} {p : Int} {row : Option Nat} (h : Rd w K a cap bs p) (hg : w.grownBy w' row) (hr : ∀ k, row = some k → K < k) : Rd w' K a cap bs p :=
  h.keep fun b hb => hg.block b (by have := h.lt; omega) (fun e => by have := hr b e.symm; omega)

/-- Rows of an older world lie in older blocks. -/
theorem rows_old' {B : Nat} {w w2 : World} {v : Value} {xss : List (List Int)} (h : OwnII B w v xss) (hb : Above B w w2) {r : Value} {xs : List Int} (hr : OwnI w.heap.size w2 r xs) :
    ∀ vs : List Value, w2.ownsRow B 24 1 v vs.length vs → ∀ i (h : i < vs.length), r.ownBlock = none ∨ vs[i].ownBlock = none ∨ vs[i].ownBlock ≠ r.ownBlock := by
  intro vs hvs i hi
  obtain ⟨vs', h1, h2, h3, _⟩ := h
  have e : vs = vs' := by
    have h1' := owns_keep h1 hb
    rcases h1'.2 with ⟨rfl, h0⟩ | ⟨g, cap, cur, rfl, _, hg, _, _, _, ht⟩
    · rcases hvs.2 with ⟨_, h0'⟩ | ⟨_, _, _, he, _⟩
      · rw [List.eq_nil_of_length_eq_zero h0, List.eq_nil_of_length_eq_zero h0']
      · simp at he
    · rcases hvs.2 with ⟨he, _⟩ | ⟨g2, cap2, cur2, he, _, hg2, _, _, _, ht2⟩
      · simp at he
      · injection he with e1 e2 _
        injection e1 with e1
        injection e1 with e1 _ _
        subst e1
        rw [hg] at hg2
        simp only [Option.some.injEq, Obj.cells.injEq] at hg2
        rw [← ht, ← ht2, hg2.1, e2]
  subst e
  by_cases hn : r.ownBlock = none
  · exact .inl hn
  obtain ⟨m, hm⟩ := Option.ne_none_iff_exists'.1 hn
  by_cases hn' : vs[i].ownBlock = none
  · exact .inr (.inl hn')
  obtain ⟨m', hm'⟩ := Option.ne_none_iff_exists'.1 hn'
  have h4 := (World.ownsRow.lt hr m hm).1
  have h5 := (World.ownsRow.lt (h3 i hi (by omega)) m' hm').2
  exact .inr (.inr (by rw [hm, hm']; simp; omega))

/-- 'out = append(out, row)', the row made since world wr. -/
theorem wpList_push_since (wr W3 : World) {ops : Array Oper} {rest : List Oper} {o : Oper} {a : Act} {Q : Exit → Act → World → Prop}
    (hg : o.guard = none) (s x : Operand) (hop : o.op = Op.call { callee := Callee.builtin Builtin.append, args := #[s, x], argTypes := #[22, 22] })
    (B : Nat) (v : Value) (xss : List (List Int)) (hs : a.eval s = v) (hown : OwnII B wr v xss) (hb : Above B wr W3) (hz : wr.heap.size ≤ W3.heap.size) (N : Nat) (hN : W3.heap.size = N) (r : Value) (xs : List Int) (hx : a.eval x = .slice (some ⟨N, 0, none⟩) 1 1)
    (hr : OwnI wr.heap.size W3 r xs) (hlen : xss.length ≤ 1099511627776) (hB : B ≤ wr.heap.size)
    (hK : ∀ a' cap' w', OwnII B w' (.slice a' (xss.length + 1) cap') (xss ++ [xs]) → W3.heap.size ≤ w'.heap.size → (∀ b, b < W3.heap.size → b < B → w'.heap[b]? = W3.heap[b]?) → w'.os = W3.os → w'.tape = W3.tape → w'.output = W3.output →
      wpList Try.prog ops Q rest (a.put o.dst (.slice a' (xss.length + 1) cap')) w') :
    wpList Try.prog ops Q (o :: rest) a (W3.alloc (.cells #[r] 24)) := by
  have hb4 : Above B wr (W3.alloc (.cells #[r] 24)) := fun b h1 h2 => (Below.heap_alloc W3 _ b (by omega)).trans (hb b h1 h2)
  have hr4 : OwnI wr.heap.size (W3.alloc (.cells #[r] 24)) r xs := World.ownsRow.alloc hr _
  have hn4 : (W3.alloc (.cells #[r] 24)).heap.size = W3.heap.size + 1 := by simp
  refine wpList_push_row _ hg s x hop B v xss hs (hown.keep hb4) ⟨N, 0, none⟩ 1 r xs hx ?_ (hr4.mono hB) (rows_old' hown hb4 hr4) hlen (by omega) ?_
  · subst hN
    exact cell_of_one (heap_alloc_new W3 _)
  · intro a' cap' w' h1 h2
    refine hK a' cap' w' h1 (by have := h2.size; omega) (fun b hb1 hb2 => ?_) h2.os h2.tape h2.output
    rw [h2.block b (by omega) ?_]
    · exact Below.heap_alloc W3 _ b hb1
    · intro e
      obtain ⟨vs, h3, _⟩ := hown
      have := (World.ownsRow.lt h3 b e.symm).1
      omega

/-- Owned rows of rows, of which two may lie in one block: only read from now on. -/
def OwnW (B : Nat) (w : World) (v : Value) (xss : List (List Int)) : Prop :=
  ∃ vs, w.ownsRow B 24 1 v vs.length vs ∧ vs.length = xss.length ∧ ∀ i (h : i < vs.length) (h' : i < xss.length), OwnI B w vs[i] xss[i]
theorem OwnII.weak {B : Nat} {w : World} {v : Value} {xss : List (List Int)} (h : OwnII B w v xss) : OwnW B w v xss := by
  obtain ⟨vs, h1, h2, h3, _⟩ := h
  exact ⟨vs, h1, h2, h3⟩
theorem OwnW.rows {B : Nat} {w : World} {v : Value} {xss : List (List Int)} (h : OwnW B w v xss) (hr : ∀ xs ∈ xss, ∀ x ∈ xs, In64 x) : Rows2 B w v xss := by
  obtain ⟨vs, h1, h2, h3⟩ := h
  exact ⟨vs, sl_of_own h1, h2, fun i hi hi' => (h3 i hi hi').toInts (hr _ (List.getElem_mem _))⟩
theorem OwnW.alloc {B : Nat} {w : World} {v : Value} {xss : List (List Int)} (h : OwnW B w v xss) (o : Obj) : OwnW B (w.alloc o) v xss := by
  obtain ⟨vs, h1, h2, h3⟩ := h
  exact ⟨vs, World.ownsRow.alloc h1 o, h2, fun i hi hi' => World.ownsRow.alloc (h3 i hi hi') o⟩

/-- 'append(out, row)'. -/
theorem wpList_push_weak (w : World) {ops : Array Oper} {rest : List Oper} {o : Oper} {a : Act} {Q : Exit → Act → World → Prop}
    (hg : o.guard = none) (s x : Operand) (hop : o.op = Op.call { callee := Callee.builtin Builtin.append, args := #[s, x], argTypes := #[22, 22] })
    (B : Nat) (v : Value) (xss : List (List Int)) (hs : a.eval s = v) (hown : OwnW B w v xss) (ad : Addr) (c : Nat) (r : Value) (xs : List Int) (hx : a.eval x = .slice (some ad) 1 c) (hc : w.cell? ad = some r)
    (hr : OwnI B w r xs) (hlen : xss.length ≤ 1099511627776) (hB : B ≤ w.heap.size)
    (hK : ∀ a' cap' w', OwnW B w' (.slice a' (xss.length + 1) cap') (xss ++ [xs]) → w.grownBy w' v.ownBlock → wpList Try.prog ops Q rest (a.put o.dst (.slice a' (xss.length + 1) cap')) w') :
    wpList Try.prog ops Q (o :: rest) a w := by
  obtain ⟨i0, hi, hz0, hz1, hz2⟩ := info_parts infoInts
  obtain ⟨vs, h1, h2, h3⟩ := hown
  have hone : r.oneCell' = true := by
    obtain ⟨_, _, rfl, _⟩ := own_shape hr
    rfl
  refine wpList_append_own w hg s x 22 hop B 24 i0 (.slice none 0 0) 1 24 Try.underlying22 hi hz0 hz1 hz2 rfl (by decide) v vs.length vs hs h1 ad 1 c [r] hx rfl ?_ (by simp [hone]) (by unfold maxLen; omega) (by omega) hB ?_
  · intro j u hj
    match j, hj with
    | 0, hj => simp at hj; subst hj; simpa [Addr.add] using hc
  · intro v' w' h5 h6 _
    have hap : ∀ u ys, OwnI B w u ys → OwnI B w' u ys := fun u ys hu => World.ownsRow.kept hu h6 (own_apart hu h1 (by decide))
    obtain ⟨a', cap', rfl, _⟩ := own_shape h5
    rw [h2] at h5 ⊢
    refine hK a' cap' w' ⟨vs ++ [r], by simpa [h2] using h5, by simp [h2], fun i hi' hi'' => ?_⟩ h6
    by_cases hlt : i < vs.length
    · rw [List.getElem_append_left hlt, List.getElem_append_left (by omega)]
      exact hap _ _ (h3 i hlt (by omega))
    · have e : i = vs.length := by simp at hi'; omega
      subst e
      have := hap _ _ hr
      simpa [h2] using this

/-- The first row is put anew after something was appended to it. -/
theorem OwnII.regrown {B : Nat} {w w' : World} {g n cap : Nat} {xss : List (List Int)} {v0 : Value} (h : OwnII B w (.slice (some ⟨g, 0, none⟩) n cap) xss) (h0 : 0 < xss.length) (hc : w.cell? ⟨g, 0, none⟩ = some v0)
    (hg : w.grownBy w' v0.ownBlock) {r : Value} {ys : List Int} (hr : OwnI B w' r ys) : OwnW B (w'.setCell ⟨g, 0, none⟩ r) (.slice (some ⟨g, 0, none⟩) n cap) (xss.set 0 ys) := by
  obtain ⟨vs, h1, h2, h3, h4⟩ := h
  obtain ⟨a, cap', he, _⟩ := own_shape h1
  injection he with _ e2 _
  subst e2
  have hv0 : v0 = vs[0]'(by omega) := by
    rw [World.ownsRow.cellAt h1 0 (by omega), List.getElem?_eq_getElem (by omega)] at hc
    injection hc with hc
    exact hc.symm
  have hrow0 := h3 0 (by omega) h0
  rw [hv0] at hg
  have h1' := World.ownsRow.kept h1 hg (own_apart h1 hrow0 (by decide))
  have hst := (World.ownsRow.stored h1' 0 r).1
  have hkeep : ∀ u ys, OwnI B w' u ys → OwnI B (w'.setCell ⟨g, 0, none⟩ r) u ys := fun u ys hu => by
    refine World.ownsRow.kept hu (grownBy_setCell w' ⟨g, 0, none⟩ r) ?_
    have := own_apart hu h1' (by decide)
    simpa [Value.ownBlock] using this
  refine ⟨vs.set 0 r, by rw [List.length_set]; exact hst, by simpa using h2, fun i hi hi' => ?_⟩
  rw [List.getElem_set, List.getElem_set]
  split
  · exact hkeep _ _ hr
  · rename_i hne
    have hi2 : i < vs.length := by simpa using hi
    exact hkeep _ _ (World.ownsRow.kept (h3 i hi2 (by omega)) hg (h4 i 0 hi2 (by omega) (fun e => hne e.symm)))

/-- Of a row that is drawn j numbers are there. -/
def RowRel (wo : World) (K : Nat) (a : Option Addr) (cap : Nat) (bs : List Int) (p : Int) (j : Nat) (ar : Option Addr) (cr : Nat) (wi : World) : Prop :=
  ∃ xs p', OwnI wo.heap.size wi (.slice ar j cr) xs ∧ xs.length = j ∧ (∀ x ∈ xs, In64 x) ∧ Rd wi K a cap bs p' ∧ p' ≤ p + (j : Int) ∧ wo.grownBy wi (some K)
/-- Of a table k rows. -/
def TabRel (w : World) (K : Nat) (a : Option Addr) (cap : Nat) (bs : List Int) (p : Int) (k : Nat) (ao : Option Addr) (co : Nat) (wr : World) : Prop :=
  ∃ xss p', OwnII w.heap.size wr (.slice ao k co) xss ∧ xss.length = k ∧ (∀ xs ∈ xss, (∀ x ∈ xs, In64 x) ∧ xs.length ≤ 6) ∧ Rd wr K a cap bs p' ∧ p' ≤ p + 6 * (k : Int) ∧ w.grownBy wr (some K)

theorem rowRel_start {wo : World} {K : Nat} {a : Option Addr} {cap : Nat} {bs : List Int} {p : Int} (h : Rd wo K a cap bs p) :
    RowRel wo K a cap bs p 0 (some ⟨wo.heap.size, 0, none⟩) 0 (wo.alloc (.cells #[] 3)) :=
  ⟨[], p, OwnI.lit wo, rfl, by simp, h.below ((Below.refl _ _).alloc (Nat.le_refl _) _), by omega, World.grownBy_alloc _ _ _⟩

theorem rowRel_step {wo wi w2 w4 : World} {K : Nat} {a : Option Addr} {cap : Nat} {bs : List Int} {p p2 x : Int} {j : Nat} {v : Value} {xs : List Int} {o : Obj} {a' : Option Addr} {cap' : Nat}
    (hK : K < wo.heap.size) (hg : wo.grownBy wi (some K)) (hd : wi.grownBy w2 (some K)) (hR2 : Rd w2 K a cap bs p2) (hp : p2 ≤ p + ((j + 1 : Nat) : Int)) (hv : OwnI wo.heap.size wi v xs) (hl : xs.length = j) (hin : ∀ y ∈ xs, In64 y) (hx : In64 x)
    (ho4 : OwnI wo.heap.size w4 (.slice a' (j + 1) cap') (xs ++ [x])) (hg4 : (w2.alloc o).grownBy w4 v.ownBlock) : RowRel wo K a cap bs p (j + 1) a' cap' w4 := by
  have hlt : ∀ k, v.ownBlock = some k → wo.heap.size ≤ k := fun k hk => (World.ownsRow.lt hv k hk).1
  refine ⟨xs ++ [x], p2, ho4, by simp [hl], fun y hy => ?_, ?_, hp, ?_⟩
  · rcases List.mem_append.1 hy with h | h
    · exact hin y h
    · simp at h; rw [h]; exact hx
  · exact (hR2.below ((Below.refl _ _).alloc (Nat.le_refl _) o)).grown hg4 (fun k hk => by have := hlt k hk; omega)
  · exact ((grown_trans hg hd).andThen (World.grownBy_alloc w2 o none) (fun _ e => by cases e)).andThen hg4 (fun k hk => .inl (hlt k hk))

theorem tabRel_step {w wr w3 w4 : World} {K : Nat} {a : Option Addr} {cap : Nat} {bs : List Int} {p p0 : Int} {k q : Nat} {xss : List (List Int)} {xs : List Int} {ao a' : Option Addr} {co cap' : Nat}
    (hK : K < w.heap.size) (hg : w.grownBy wr (some K)) (hd : wr.grownBy w3 (some K)) (hR : ∃ p', Rd w3 K a cap bs p' ∧ p' ≤ p + 6 * ((k + 1 : Nat) : Int)) (hl : xss.length = k) (hin : ∀ xs ∈ xss, (∀ x ∈ xs, In64 x) ∧ xs.length ≤ 6) (hin2 : (∀ x ∈ xs, In64 x) ∧ xs.length ≤ 6)
    (ho : OwnII w.heap.size w4 (.slice a' (k + 1) cap') (xss ++ [xs])) (hs : w3.heap.size ≤ w4.heap.size) (hb : ∀ b, b < w3.heap.size → b < w.heap.size → w4.heap[b]? = w3.heap[b]?) (h1 : w4.os = w3.os) (h2 : w4.tape = w3.tape) (h3 : w4.output = w3.output) :
    TabRel w K a cap bs p (k + 1) a' cap' w4 := by
  obtain ⟨p', hR1, hR2⟩ := hR
  have hwr := hg.size
  have hw3 := hd.size
  have hg3 := grown_trans hg hd
  refine ⟨xss ++ [xs], p', ho, by simp [hl], fun ys hy => ?_, hR1.keep (fun b hbk => hb b (by omega) (by omega)), hR2, ⟨h1.trans hg3.os, h2.trans hg3.tape, h3.trans hg3.output, by omega, fun b hbl hne => ?_⟩⟩
  · rcases List.mem_append.1 hy with h | h
    · exact hin ys h
    · simp at h; rw [h]; exact hin2
  · rw [hb b (by omega) hbl]
    exact hg3.block b hbl hne

/-- The row of rows itself is as it was behind an append to one of its rows. -/
theorem OwnII.outer {B : Nat} {w w' : World} {g n cap : Nat} {xss : List (List Int)} {v0 : Value} {o : Obj} (h : OwnII B w (.slice (some ⟨g, 0, none⟩) n cap) xss) (h0 : 0 < xss.length) (hc : w.cell? ⟨g, 0, none⟩ = some v0)
    (hg : (w.alloc o).grownBy w' v0.ownBlock) : w'.cell? ⟨g, 0, none⟩ = some v0 ∧ w'.frozen? ⟨g, 0, none⟩ = false ∧ w.grownBy w' v0.ownBlock := by
  have hga : w.grownBy w' v0.ownBlock := (World.grownBy_alloc w o v0.ownBlock).andThen hg (fun k hk => .inr hk)
  obtain ⟨vs, h1, h2, h3, h4⟩ := h
  obtain ⟨a, cap', he, _⟩ := own_shape h1
  injection he with _ e2 _
  subst e2
  have hv0 : v0 = vs[0]'(by omega) := by
    rw [World.ownsRow.cellAt h1 0 (by omega), List.getElem?_eq_getElem (by omega)] at hc
    injection hc with hc
    exact hc.symm
  have h1' := World.ownsRow.kept h1 hga (by rw [hv0]; exact own_apart h1 (h3 0 (by omega) h0) (by decide))
  refine ⟨?_, World.ownsRow.frozenAt h1' 0, hga⟩
  rw [World.ownsRow.cellAt h1' 0 (by omega), List.getElem?_eq_getElem (by omega), hv0]

/-- A step that writes to a row of the call's own keeps the reader. -/
theorem chain_step {w w1 w2 : World} {K : Nat} {a : Option Addr} {cap : Nat} {bs : List Int} {p : Int} {row : Option Nat} (hK : K < w.heap.size) (h : w.grownBy w1 (some K) ∧ Rd w1 K a cap bs p)
    (hg : w1.grownBy w2 row) (hr : ∀ k, row = some k → w.heap.size ≤ k) : w.grownBy w2 (some K) ∧ Rd w2 K a cap bs p :=
  ⟨h.1.andThen hg (fun k hk => .inl (hr k hk)), h.2.grown hg (fun k hk => by have := hr k hk; omega)⟩

/-- The cell of a block just made. -/
theorem cell_new (W : World) (N : Nat) (r : Value) (e : TypeId) (hN : W.heap.size = N) : (W.alloc (.cells #[r] e)).cell? ⟨N, 0, none⟩ = some r := by
  subst hN
  exact cell_of_one (heap_alloc_new W _)

/-- What a drawing of a table leaves. -/
def TableDrawn (K : Nat) (a : Option Addr) (cap : Nat) (bs : List Int) (p n : Int) (w : World) (e : Ending) (w' : World) : Prop :=
  ∃ xss a' cap', e = .returned (.slice a' xss.length cap') ∧ Rows2 w.heap.size w' (.slice a' xss.length cap') xss ∧ Drew K a cap bs p n w w'

set_option maxHeartbeats 2000000 in
theorem table_any (n : Int) (w : World) (K : Nat) (a : Option Addr) (cap : Nat) (bs : List Int) (p : Int) (h : Rd w K a cap bs p) (hp : p ≤ 100000000000) (hn : In64 n) :
    Calls Try.prog 69 #[.pointer (some ⟨K, 0, none⟩), .int .i64 n] w (TableDrawn K a cap bs p 100 w) := by
  have hKw := h.lt
  have hp0 := h.p0
  go_enter Try.func69, Try.ntmps69
  go_wp2_with fail
  refine (pick_any 7 _ K a cap bs p h (by omega) (by unfold In64; omega)).mono ?_
  rintro e w1 ⟨t, rfl, ht0, ht1, ⟨p1, hR1, hp1⟩, hg1⟩
  have ht1 := ht1 (by omega)
  go_wp2_with fail
  refine (pick_any 6 _ K a cap bs p1 hR1 (by omega) (by unfold In64; omega)).mono ?_
  rintro e w2 ⟨q, rfl, hq0, hq1, ⟨p2, hR2, hp2⟩, hg2⟩
  have hq1 := hq1 (by omega)
  go_wp2_with fail
  refine (pick_any 2 _ K a cap bs p2 hR2 (by omega) (by unfold In64; omega)).mono ?_
  rintro e w3 ⟨d, rfl, hd0, hd1, ⟨p3, hR3, hp3⟩, hg3⟩
  have hd1 := hd1 (by omega)
  have hg13 := grown_trans (grown_trans hg1 hg2) hg3
  clear hR1 hR2 hg1 hg2 hg3
  go_wp2
  have hTab : TabRel w K a cap bs (p + 3) 0 (some ⟨w3.heap.size, 0, none⟩) 0 (w3.alloc (.cells #[] 24)) :=
    ⟨[], p3, (OwnII.lit w3).mono hg13.size, rfl, by simp, hR3.below ((Below.refl _ _).alloc (Nat.le_refl _) _), by omega, hg13.andThen (World.grownBy_alloc w3 _ none) (fun _ e => by cases e)⟩
  obtain ⟨wa, hwa⟩ : ∃ wa : World, wa = w3.alloc (.cells #[] 24) := ⟨_, rfl⟩
  rw [← hwa] at hTab ⊢
  clear hwa hg13 hR3 h
  go_loopw [8, 9] (fun o c wr => ∃ (k : Nat) (ao : Option Addr) (co : Nat), (k : Int) ≤ 1 + t ∧ c = .int .i64 k ∧ o = .slice ao k co ∧ TabRel w K a cap bs (p + 3) k ao co wr) (fun _ c _ => 8 - (intOf c).toNat)
  case atStart => exact ⟨0, _, 0, by omega, rfl, rfl, hTab⟩
  case round =>
    obtain ⟨k, ao, co, hk, rfl, rfl, hrel⟩ := hrel
    clear hTab
    by_cases hlt : (k : Int) < 1 + t
    · obtain ⟨xss, p4, ho, hl, hin, hR4, hp4, hg4⟩ := hrel
      have HL := Lib.hid hl
      have HO := Lib.hid ho
      have HIN := Lib.hid hin
      have HG := Lib.hid hg4
      have hz4 := hg4.size
      have hKr : K < wr.heap.size := hR4.lt
      have hstart := rowRel_start hR4
      clear hl ho hin hg4 hR4
      go_wp2
      obtain ⟨wb, hwb⟩ : ∃ wb : World, wb = wr := ⟨_, rfl⟩
      rw [← hwb] at hstart HO HG hz4 hKr ⊢
      clear hwb
      obtain ⟨wc, hwc⟩ : ∃ wc : World, wc = wb.alloc (.cells #[] 3) := ⟨_, rfl⟩
      rw [← hwc] at hstart ⊢
      clear hwc
      go_loopw [10, 11] (fun r c wi => ∃ (j : Nat) (ar : Option Addr) (cr : Nat), (j : Int) ≤ q ∧ c = .int .i64 j ∧ r = .slice ar j cr ∧ RowRel wb K a cap bs p4 j ar cr wi) (fun _ c _ => 6 - (intOf c).toNat)
      case atStart => exact ⟨0, _, 0, by omega, rfl, rfl, hstart⟩
      case round =>
        obtain ⟨j, ar, cr, hj, rfl, rfl, hrow⟩ := hrel
        clear hstart
        obtain ⟨xs, p5, hr, hrl, hrin, hR5, hp5, hg5⟩ := hrow
        have HRL := Lib.hid hrl
        have HR := Lib.hid hr
        have HRIN := Lib.hid hrin
        have HG5 := Lib.hid hg5
        have hz5 := hg5.size
        clear hrl hr hrin hg5
        by_cases hjq : (j : Int) < q
        · go_wp2_with fail
          refine (pick_any (2 + d) _ K a cap bs p5 hR5 (by omega) (by unfold In64; omega)).mono ?_
          rintro e w6 ⟨x, rfl, hx0, hx1, ⟨p6, hR6, hp6⟩, hg6⟩
          have hx1 := hx1 (by omega)
          have HG6 := Lib.hid hg6
          have HR6 := Lib.hid hR6
          have hz6 := hg6.size
          have hown : OwnI wb.heap.size (w6.alloc (.cells #[.int .i64 x] 3)) (.slice ar j cr) xs := World.ownsRow.alloc (OwnI.keep HR.out (Above.of_grown hg6 hKr)) _
          clear hg6 hR6 hR5
          go_wp2_with (at_builtin; refine wpList_push_int _ rfl (.tmp 31) (.tmp 36) rfl wb.heap.size (.slice ar j cr) xs rfl hown ⟨w6.heap.size, 0, none⟩ 1 x rfl (by simp) (by have := HRL.out; omega) (by simp; omega) ?_; intro a' cap' w7 ho7 hg7; rw [HRL.out] at ho7 ⊢; have HO7 := Lib.hid ho7; have HG7 := Lib.hid hg7; clear ho7 hg7)
          go_roundw
          case rel => exact ⟨j + 1, a', cap', by omega, by go_num, rfl, rowRel_step hKr HG5.out HG6.out HR6.out (by omega) HR.out HRL.out HRIN.out (by unfold In64; omega) HO7.out HG7.out⟩
          case measure => simp [intOf]; omega
        · have hAb : Above w.heap.size wb wr := Above.of_grown HG5.out hKw
          have HRd := Lib.hid (show ∃ p', Rd wr K a cap bs p' ∧ p' ≤ (p + 3) + 6 * ((k + 1 : Nat) : Int) from ⟨p5, hR5, by omega⟩)
          clear hR5
          go_wp2_with (at_builtin; refine wpList_push_since wb wr rfl (.tmp 38) (.tmp 40) rfl w.heap.size (.slice ao k co) xss rfl HO.out hAb hz5 wr.heap.size rfl (.slice ar j cr) xs rfl HR.out (by have := HL.out; omega) hz4 ?_; intro a' cap' w8 ho8 hz8 hb8 h81 h82 h83; rw [HL.out] at ho8 ⊢; have HO8 := Lib.hid ho8; have HB8 := Lib.hid hb8; have H81 := Lib.hid h81; have H82 := Lib.hid h82; have H83 := Lib.hid h83; clear ho8 hb8 h81 h82 h83)
          go_roundw
          case rel => exact ⟨k + 1, a', cap', by omega, by go_num, rfl, tabRel_step (q := 0) (ao := none) (co := 0) (p0 := 0) hKw HG.out HG5.out HRd.out HL.out HIN.out ⟨HRIN.out, by have := HRL.out; omega⟩ HO8.out hz8 HB8.out H81.out H82.out H83.out⟩
          case measure => simp [intOf]; omega
    · obtain ⟨xss, p4, ho, hl, hin, hR4, hp4, hg4⟩ := hrel
      have HL := Lib.hid hl
      have HO := Lib.hid ho
      have HIN := Lib.hid hin
      have HG := Lib.hid hg4
      clear hl ho hin hg4
      go_wp2_with fail
      refine (odd_any n _ K a cap bs p4 hR4 (by omega) hn).mono ?_
      rintro e w5 ⟨b, rfl, ⟨p5, hR5, hp5⟩, hg5⟩
      have ho5 := HO.out.keep (Above.of_grown hg5 hKw)
      have hg05 := grown_trans HG.out hg5
      have hz5 := hg05.size
      have hl1 : (1 : Int) ≤ (k : Int) := by omega
      clear hR4 hg5
      cases b
      · have HF := Lib.hid (show Rows2 w.heap.size w5 (.slice ao k co) xss from ho5.rows (fun xs hx => (HIN.out xs hx).1))
        have HD := Lib.hid (show Drew K a cap bs p 100 w w5 from ⟨⟨p5, hR5, by omega⟩, hg05⟩)
        clear ho5 hg05 hR5
        go_wp2
        go_ret
        exact ⟨xss, ao, co, by rw [HL.out]; rfl, by rw [HL.out]; exact HF.out, HD.out⟩
      · go_wp2_with fail
        refine (pick_any 3 _ K a cap bs p5 hR5 (by omega) (by unfold In64; omega)).mono ?_
        rintro e w6 ⟨r, rfl, hr0, hr1, ⟨p6, hR6, hp6⟩, hg6⟩
        have hr1 := hr1 (by omega)
        have ho6 := ho5.keep (Above.of_grown hg6 hKw)
        have hg06 := grown_trans hg05 hg6
        have hz6 := hg06.size
        clear hR5 hg6 ho5 hg05
        have hcase : r = 0 ∨ r = 1 ∨ r = 2 := by omega
        rcases hcase with rfl | rfl | rfl
        · have HD := Lib.hid (show Drew K a cap bs p 100 w (w6.alloc (.cells #[] 24)) from ⟨⟨p6, hR6.below ((Below.refl _ _).alloc (Nat.le_refl _) _), by omega⟩, hg06.andThen (World.grownBy_alloc w6 _ none) (fun _ e => by cases e)⟩)
          have HF := Lib.hid ((((OwnII.lit w6).mono hz6)).rows (by simp))
          clear ho6 hg06 hR6
          go_wp2
          go_ret
          exact ⟨[], _, 0, rfl, HF.out, HD.out⟩
        · obtain ⟨g, rfl, hgB⟩ := ho6.head (by have := HL.out; omega)
          obtain ⟨⟨u, hcu, hou⟩, hfu⟩ := ho6.at 0 (by have := HL.out; omega)
          obtain ⟨au, cu, rfl, hu1, hu2⟩ := own_shape hou
          unfold maxLen at hu2
          have hk0 : 0 < xss.length := by have := HL.out; omega
          have hou6 : OwnI w.heap.size (w6.alloc (.cells #[.int .i64 0] 3)) (.slice au (xss[0]'hk0).length cu) (xss[0]'hk0) := World.ownsRow.alloc hou _
          have hin0 := HIN.out _ (List.getElem_mem hk0)
          have hl60 := hin0.2
          have hlit : ∀ (W : World) (N : Nat), W.heap.size = N → OwnI N (W.alloc (.cells #[] 3)) (.slice (some ⟨N, 0, none⟩) 0 0) [] := fun W N h => by subst h; exact OwnI.lit W
          have hc6 : w.grownBy w6 (some K) ∧ Rd w6 K a cap bs p6 := ⟨hg06, hR6⟩
          have hblk := World.ownsRow.lt hou
          have HC6 := Lib.hid hc6
          have HI0 := Lib.hid hin0
          clear hg06 hR6 hc6 hin0
          go_wp2_with (first
            | (at_builtin; refine wpList_push_int _ rfl (.tmp 59) (.tmp 60) rfl w.heap.size (.slice au (xss[0]'hk0).length cu) (xss[0]'hk0) rfl hou6 ⟨w6.heap.size, 0, none⟩ 1 0 rfl (by simp) (by omega) (by simp; omega) ?_; intro a7 c7v w7 ho7 hg7; obtain ⟨hcg, hfg, hga⟩ := ho6.outer hk0 hcu hg7; have HO7 := Lib.hid ho7; have HGA := Lib.hid hga; have hz7 := hga.size; clear ho7 hg7 hga)
            | (at_builtin; refine wpList_push_weak _ rfl (.tmp 63) (.tmp 65) rfl w.heap.size (.slice (some ⟨g, 0, none⟩) k co) (xss.set 0 (xss[0]'hk0 ++ [0])) rfl (((ho6.regrown hk0 hcu HGA.out HO7.out).alloc _).alloc _) ⟨w7.heap.size + 1, 0, none⟩ 1 (.slice (some ⟨w7.heap.size, 0, none⟩) 0 0) [] rfl (cell_new ((w7.setCell ⟨g, 0, none⟩ (.slice a7 ((xss[0]'hk0).length + 1) c7v)).alloc (.cells #[] 3)) _ _ _ (by simp)) (World.ownsRow.alloc ((hlit (w7.setCell ⟨g, 0, none⟩ (.slice a7 ((xss[0]'hk0).length + 1) c7v)) w7.heap.size (by simp)).mono (by omega)) _) (by have := HL.out; simp; omega) (by simp; omega) ?_; intro a9 c9v w9 ho9 hg9; have HO9 := Lib.hid ho9; have HG9 := Lib.hid hg9; clear ho9 hg9))
          go_ret
          have c7 := chain_step hKw HC6.out HGA.out (fun j hj => (hblk j hj).1)
          have c8 := chain_step hKw c7 (grownBy_setCell w7 ⟨g, 0, none⟩ (.slice a7 ((xss[0]'hk0).length + 1) c7v)) (fun j hj => by cases hj; exact hgB)
          have c9 := chain_step hKw c8 (World.grownBy_alloc _ (.cells #[] 3) none) (fun j hj => by cases hj)
          have c10 := chain_step hKw c9 (World.grownBy_alloc _ (.cells #[.slice (some ⟨w7.heap.size, 0, none⟩) 0 0] 24) none) (fun j hj => by cases hj)
          have c11 := chain_step hKw c10 HG9.out (fun j hj => by cases hj; exact hgB)
          have hfin := HO9.out.rows (fun xs hx => by
            rcases List.mem_append.1 hx with h | h
            · rcases List.mem_or_eq_of_mem_set h with h | h
              · exact (HIN.out xs h).1
              · rw [h]
                intro y hy
                rcases List.mem_append.1 hy with h2 | h2
                · exact HI0.out.1 y h2
                · simp at h2; rw [h2]; unfold In64; omega
            · simp at h; rw [h]; simp)
          have hlf : (xss.set 0 (xss[0]'hk0 ++ [0]) ++ [[]]).length = k + 1 := by have := HL.out; simp; omega
          refine ⟨xss.set 0 (xss[0]'hk0 ++ [0]) ++ [[]], a9, c9v, ?_, ?_, ⟨p6, c11.2, by omega⟩, c11.1⟩
          · refine congrArg (fun m => Ending.returned (.slice a9 m c9v)) (by simp)
          · rw [hlf]
            have e : (xss.set 0 (xss[0]'hk0 ++ [0])).length + 1 = k + 1 := by have := HL.out; simp; omega
            rw [e] at hfin
            exact hfin
        · have hc6 : w.grownBy w6 (some K) ∧ Rd w6 K a cap bs p6 := ⟨hg06, hR6⟩
          have HC6 := Lib.hid hc6
          have hwk := ho6.weak
          have hou6 : OwnI w.heap.size (w6.alloc (.cells #[.int .i64 3] 3)) (.slice (some ⟨w6.heap.size, 0, none⟩) 1 1) [3] := by
            have := World.ownsRow_made (base := w.heap.size) (e := 3) (size := 1) w6 #[.int .i64 3] 1 hz6 (by simp [maxLen]) rfl
            refine ⟨rfl, .inr ⟨w6.heap.size, 1, #[.int .i64 3], rfl, hz6, heap_alloc_new w6 _, Nat.le_refl _, by simp [maxLen], rfl, rfl⟩⟩
          clear hg06 hR6 hc6
          go_wp2_with (first
            | (at_builtin; refine wpList_push_weak _ rfl (.tmp 47) (.tmp 49) rfl w.heap.size (.slice ao k co) xss rfl ((hwk.alloc _).alloc _) ⟨w6.heap.size + 1, 0, none⟩ 1 (.slice (some ⟨w6.heap.size, 0, none⟩) 1 1) [3] rfl (by simp) (World.ownsRow.alloc hou6 _) (by have := HL.out; omega) (by simp; omega) ?_; intro a9 c9v w9 ho9 hg9; have HO9 := Lib.hid ho9; have HG9 := Lib.hid hg9; clear ho9 hg9))
          go_ret
          have hblk : ∀ j, (Value.slice ao k co).ownBlock = some j → w.heap.size ≤ j := fun j hj => by
            obtain ⟨vs, h1, _⟩ := hwk
            exact (World.ownsRow.lt h1 j hj).1
          have c9 := chain_step hKw HC6.out (World.grownBy_alloc _ (.cells #[.int .i64 3] 3) none) (fun j hj => by cases hj)
          have c10 := chain_step hKw c9 (World.grownBy_alloc _ (.cells #[.slice (some ⟨w6.heap.size, 0, none⟩) 1 1] 24) none) (fun j hj => by cases hj)
          have c11 := chain_step hKw c10 HG9.out hblk
          have hfin := HO9.out.rows (fun xs hx => by
            rcases List.mem_append.1 hx with h | h
            · exact (HIN.out xs h).1
            · simp at h; rw [h]; intro y hy; simp at hy; rw [hy]; unfold In64; omega)
          have hlf : (xss ++ [[3]]).length = k + 1 := by have := HL.out; simp; omega
          refine ⟨xss ++ [[3]], a9, c9v, ?_, ?_, ⟨p6, c11.2, by omega⟩, c11.1⟩
          · rw [hlf, ← HL.out]; rfl
          · rw [hlf]
            rw [HL.out] at hfin
            exact hfin

end Go.Proofs.Ytpeogghiboaceaa
