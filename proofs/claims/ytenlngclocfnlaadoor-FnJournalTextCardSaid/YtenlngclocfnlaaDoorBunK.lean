/- The program's rows, allRows and AllCodes. -/
import Derived.Test.YtenlngclocfnlaaDoorIter
import Derived.Test.YtenlngclocfnlaaDoorBunD
import Derived.Test.YtenlngclocfnlaaDoorBunB
import Derived.TacticsIn
import Derived.RegionIn
import Derived.Shelf.RegionOpen
import Derived.Test.YtenlngclocfnlaaDoorBunC
import Derived.Laws.StructEq
import Derived.BigQuiet
import Derived.Deep.QuietTactic
/- The program's rows, allRows and AllCodes. -/
namespace Go.Proofs.YtenlngclocfnlaaDoor
open Go.RowKit Go.Shelf
set_option linter.unusedVariables false
set_option maxRecDepth 100000
attribute [local go_sem] Oper.semAt_some

/-- 'out = append(out, row)', row's value in a new block of its own; row is none of out's rows. -/
theorem run_push_row (w : World) (ty : TypeId)
    (B : Nat) (v : Value) (xss : List (List Int)) (hown : OwnII B w v xss) (ad : Addr) (c : Nat) (r : Value) (xs : List Int) (hc : w.cell? ad = some r)
    (hr : OwnI B w r xs) (hd : ∀ vs : List Value, w.ownsRow B 22 1 v vs.length vs → ∀ i (h : i < vs.length), r.ownBlock = none ∨ vs[i].ownBlock = none ∨ vs[i].ownBlock ≠ r.ownBlock)
    (hlen : xss.length ≤ 1099511627776) (hB : B ≤ w.heap.size)
    : ∃ a' cap' w', (Builtin.append_ #[99, 99] ty #[v, .slice (some ad) 1 c]).run Tryd.prog w = .ok (.slice a' (xss.length + 1) cap') w' ∧ OwnII B w' (.slice a' (xss.length + 1) cap') (xss ++ [xs]) ∧ w.grownBy w' v.ownBlock := by
  obtain ⟨i0, hi, hz0, hz1, hz2⟩ := info_parts infoInts
  obtain ⟨vs, h1, h2, h3, h4⟩ := hown
  have hone : r.oneCell' = true := by
    obtain ⟨_, _, rfl, _⟩ := own_shape hr
    rfl
  have hnews : ∀ j u, [r][j]? = some u → w.cell? (ad.add j) = some u := fun j u hj => by
    match j, hj with
    | 0, hj => simp at hj; subst hj; simpa [Addr.add] using hc
  obtain ⟨v', w', hrun, h5, h6, _, _⟩ := run_append_own_at (P := Tryd.prog) w B 99 ty 22 i0 (.slice none 0 0) 1 24 Tryd.underlying99 hi hz0 hz1 hz2 rfl (by decide) v vs.length vs h1 ad 1 c [r] rfl hnews (by simp [hone]) (by unfold maxLen; omega) (by omega) hB
  have hap : ∀ u ys, OwnI B w u ys → OwnI B w' u ys := fun u ys hu => World.ownsRow.kept hu h6 (own_apart hu h1 (by decide))
  obtain ⟨a', cap', rfl, _⟩ := own_shape h5
  rw [h2] at h5 hrun
  refine ⟨a', cap', w', hrun, ⟨vs ++ [r], by simpa [h2] using h5, by simp [h2], fun i hi' hi'' => ?_, fun i j hi' hj' hij => ?_⟩, h6⟩
  · by_cases hlt : i < vs.length
    · rw [List.getElem_append_left hlt, List.getElem_append_left (by omega)]
      exact hap _ _ (h3 i hlt (by omega))
    · have e : i = vs.length := by simp at hi'; omega
      subst e
      have := hap _ _ hr
      simpa [h2] using this
  · simp only [List.length_append, List.length_cons, List.length_nil] at hi' hj'
    by_cases h7 : i < vs.length
    · rw [List.getElem_append_left h7]
      by_cases h8 : j < vs.length
      · rw [List.getElem_append_left h8]; exact h4 i j h7 h8 hij
      · have e : j = vs.length := by omega
        subst e
        rw [List.getElem_append_right (Nat.le_refl _)]
        simp only [Nat.sub_self, List.getElem_cons_zero]
        rcases hd vs h1 i h7 with h | h | h
        · rw [h]; by_cases e : vs[i].ownBlock = none
          · exact .inl e
          · exact .inr e
        · exact .inl h
        · exact .inr h
    · have e : i = vs.length := by omega
      subst e
      rw [List.getElem_append_right (Nat.le_refl _), List.getElem_append_left (show j < vs.length by omega)]
      simp only [Nat.sub_self, List.getElem_cons_zero]
      rcases hd vs h1 j (by omega) with h | h | h
      · exact .inl h
      · rw [h]; by_cases e : r.ownBlock = none
        · exact .inl e
        · exact .inr e
      · exact .inr (fun e => h e.symm)


/-- 'out = append(out, row)' in a region that draws, inside a round. -/
theorem stepIn_push_row {F : Fence} {nF : Nat} (w : World) {ops : Array Oper} {o : Oper} {a : Act} {K : Act → World → Prop} {Q : Exit → Act → World → Prop} {E : Prop}
    (hg : o.guard = none) (s x : Operand) (hop : o.op = Op.call { callee := Callee.builtin Builtin.append, args := #[s, x], argTypes := #[99, 99] })
    (v : Value) (n : Nat) (ad : Addr) (c : Nat) (a' : Option Addr) (cap' : Nat) (w' : World) (hs : a.eval s = v) (hx : a.eval x = .slice (some ad) 1 c)
    (hrun : (Builtin.append_ #[99, 99] o.type #[v, .slice (some ad) 1 c]).run Tryd.prog w = .ok (.slice a' n cap') w')
    (h : K (a.put o.dst (.slice a' n cap')) w') : if Region.wanted o (yielded ops a.tmps) = true then Oper.wpIn F nF Tryd.prog o a w K Q else E := by
  have hw : Region.wanted o (yielded ops a.tmps) = true := by simp [Region.wanted, hg]
  rw [if_pos hw]
  unfold Oper.wpIn
  refine ⟨by simp [Oper.about, hop, resolve, Target.leads, Sem.run_pure], ?_⟩
  rw [Oper.semAt_plain F _ _ (by rw [hop]; intro c hc'; cases hc')]
  simp [execOp, hop, resolve, invoke, builtin, hs, hx, hrun, Result.andThen]
  exact h

theorem allRows_small {c k : Nat} (hc : c ≤ 5) (hk : k ≤ 3) : (allL c k).length ≤ 125 := by
  have e : ∀ k, (allL c k).length = c ^ k := fun k => by
    induction k with
    | zero => rfl
    | succ k ih =>
      rw [allL, Nat.pow_succ, ← ih]
      induction allL c k with
      | nil => simp
      | cons a r ih => rw [List.flatMap_cons, List.length_append, ih, List.length_map, List.length_range, List.length_cons, Nat.succ_mul]; omega
  rw [e]
  have : c ^ k ≤ 5 ^ k := Nat.pow_le_pow_left hc _
  have : 5 ^ k ≤ 5 ^ 3 := Nat.pow_le_pow_right (by omega) hk
  omega

/-- What the loop of allRows has so far. -/
def AllInv (N : Nat) (w : World) (pre : List (List Int)) (W : World) : Prop :=
  (∃ a cap, W.heap[N]? = some (.cells #[.slice a pre.length cap] 99 (0, 0)) ∧ OwnII (N + 9) W (.slice a pre.length cap) pre) ∧ Below N w W ∧ N + 9 ≤ W.heap.size + 9

theorem allInv_bears (N : Nat) (w : World) : Bears (N + 3) 6 (AllInv N w) := by
  rintro s A B row ⟨⟨a, cap, h1, h2⟩, h3, h4⟩ hg hr
  have hz := hg.size
  refine ⟨⟨a, cap, ?_, ?_⟩, ?_, by omega⟩
  · rw [hg.block N (Array.getElem?_eq_some_iff.1 h1).1 (fun e => by have := hr N e.symm; omega)]; exact h1
  · exact h2.keep fun b hb hlt => hg.block b hlt (fun e => by have := hr b e.symm; omega)
  · exact h3.grown hg (Nat.le_of_lt (Array.getElem?_eq_some_iff.1 h1).1) (fun k hk => by have := hr k hk; omega)

/-- What a round does, behind the clone. -/
theorem round_after {N D : Nat} {w W w3 : World} {a a3 : Option Addr} {cap c3 n : Nat} {pre : List (List Int)} {x : List Int} (hD : D = N + 3) (hb0 : W.heap[N]? = some (.cells #[.slice a pre.length cap] 99 (0, 0))) (ho : OwnII (N + 9) W (.slice a pre.length cap) pre)
    (hb : Below N w W) (hsz : N + 9 ≤ W.heap.size) (hn : x.length = n) (ho3 : OwnI W.heap.size w3 (.slice a3 n c3) x) (hb3 : Below W.heap.size W w3) (hpl : pre.length ≤ 125) :
    w3.cell? ⟨N, 0, none⟩ = some (.slice a pre.length cap) ∧ (w3.alloc (.cells #[.slice a3 n c3] 22)).cell? ⟨N, 0, none⟩ = some (.slice a pre.length cap) ∧ ∃ a6 c6 w6, (Builtin.append_ #[99, 99] 99 #[.slice a pre.length cap, .slice (some ⟨w3.heap.size, 0, none⟩) 1 1]).run Tryd.prog (w3.alloc (.cells #[.slice a3 n c3] 22)) = .ok (.slice a6 (pre.length + 1) c6) w6 ∧
      w6.cell? ⟨N, 0, none⟩ = some (.slice a pre.length cap) ∧ w6.frozen? ⟨N, 0, none⟩ = false ∧ AllInv N w (pre ++ [x]) (w6.setCell ⟨N, 0, none⟩ (.slice a6 (pre.length + 1) c6)) ∧
      Win D (2 + 4) W (w6.setCell ⟨N, 0, none⟩ (.slice a6 (pre.length + 1) c6)) ∧ Win (N + 1) (D - (N + 1)) W (w6.setCell ⟨N, 0, none⟩ (.slice a6 (pre.length + 1) c6)) := by
  subst hn hD
  have hz3 := hb3.size
  have hNW := (Array.getElem?_eq_some_iff.1 hb0).1
  have hb4 : Below W.heap.size W (w3.alloc (.cells #[.slice a3 x.length c3] 22)) := hb3.alloc hz3 _
  have ho4 : OwnI W.heap.size (w3.alloc (.cells #[.slice a3 x.length c3] 22)) (.slice a3 x.length c3) x := World.ownsRow.alloc ho3 _
  have hc4 : (w3.alloc (.cells #[.slice a3 x.length c3] 22)).cell? ⟨w3.heap.size, 0, none⟩ = some (.slice a3 x.length c3) := cell_of_one (heap_alloc_new w3 _)
  obtain ⟨a6, c6, w6, hrun, ho6, hg6⟩ := run_push_row _ 99 (N + 9) (.slice a pre.length cap) pre (ho.below hb4) ⟨w3.heap.size, 0, none⟩ 1 (.slice a3 x.length c3) x hc4 (ho4.mono (by omega)) (rows_old ho hb4 ho4) (by omega) (by simp; omega)
  have hz6 := hg6.size
  have hown : ∀ k, (Value.slice a pre.length cap).ownBlock = some k → N + 9 ≤ k := fun k hk => by
    obtain ⟨vs, h1, _⟩ := ho
    exact (World.ownsRow.lt h1 k hk).1
  have hkeep : ∀ b, b < N + 9 → w6.heap[b]? = W.heap[b]? := fun b hlt => by
    rw [hg6.block b (by simp; omega) (fun e => by have := hown b e.symm; omega), hb4.block b (by omega)]
  have h06 : w6.heap[N]? = some (.cells #[.slice a pre.length cap] 99 (0, 0)) := (hkeep N (by omega)).trans hb0
  have hset : ∀ b, b ≠ N → (w6.setCell ⟨N, 0, none⟩ (.slice a6 (pre.length + 1) c6)).heap[b]? = w6.heap[b]? := fun b hb => heap_setCell_other _ _ _ _ hb
  have hzs : (w6.setCell ⟨N, 0, none⟩ (.slice a6 (pre.length + 1) c6)).heap.size = w6.heap.size := by simp [World.setCell]
  have hz4 : (w3.alloc (.cells #[.slice a3 x.length c3] 22)).heap.size = w3.heap.size + 1 := by simp
  refine ⟨cell_of_one ((hb3.block N hNW).trans hb0), cell_of_one ((hb4.block N hNW).trans hb0), a6, c6, w6, hrun, cell_of_one h06, frozen_of_row _ _ 0 _ _ h06, ⟨⟨a6, c6, ?_, ?_⟩, ?_, by omega⟩, ⟨by omega, fun k h1 h2 => ?_⟩, ⟨by omega, fun k h1 h2 => ?_⟩⟩
  · have := heap_setCell_same _ _ 0 _ _ (.slice a6 (pre.length + 1) c6) h06
    rw [List.length_append, List.length_singleton]
    exact this
  · rw [List.length_append, List.length_singleton]
    exact ho6.keep fun b h1 h2 => hset b (by omega)
  · exact ((hb.trans (hb4.mono (Nat.le_of_lt hNW))).grown hg6 (by omega) (fun k hk => by have := hown k hk; omega)).setCell (p := ⟨N, 0, none⟩) (Nat.le_refl _) _
  · rw [hset k (by omega), hkeep k (by omega)]
  · rw [hset k (by omega), hkeep k (by omega)]

end Go.Proofs.YtenlngclocfnlaaDoor

/- The program's fits. -/
namespace Go.Proofs.YtenlngclocfnlaaDoor
open Go.RowKit Go.Shelf
set_option linter.unusedVariables false
set_option maxRecDepth 100000

/-- A world that has grown out of w. -/
structure GrownC (w : World) where
  val : World
  ok : Below w.heap.size w val
instance (w : World) : Nonempty (GrownC w) := ⟨⟨w, Below.refl _ _⟩⟩
theorem wp_region_grownC {id : Nat} {Q : Exit → Act → World → Prop} {a : Act} {w : World} {l : List Oper} (hm : Tryd.prog.follows .mixedOrders = true) (hB : Region.lexB .any l.toArray = true)
    (h : wpQuiet Tryd.prog l.toArray (fun w' => ∃ z : GrownC w, w' = z.val) (fun a' => ∀ w', (∃ z : GrownC w, w' = z.val) → Q .normal a' w') l a) : (Code.region id l.toArray true).wp Tryd.prog Q a w :=
  wp_region_quiet (C := fun w' => ∃ z : GrownC w, w' = z.val) hm hB ⟨⟨w.drewN 1, (show Drawn w (w.drewN 1) from ⟨1, rfl⟩).below⟩, rfl⟩ (by simpa using h)

theorem any_misfit (x : List Int) (gs : List Gs) : (!gs.any fun g => !decide (rightZ x g.code = g.right ∧ nearZ x g.code = g.near)) = fitsB x gs := by
  unfold fitsB
  rw [List.not_any_eq_all_not]
  congr 1
  funext g
  simp only [Bool.not_not]

end Go.Proofs.YtenlngclocfnlaaDoor
