/- The program's rows, allRows and AllCodes. -/
import Derived.Test.YtkjdlpbfalojdaaIter
import Derived.Test.YtkjdlpbfalojdaaClone
import Derived.Test.YtkjdlpbfalojdaaRowsR
import Derived.Test.YtkjdlpbfalojdaaCodeI
import Derived.TacticsIn
import Derived.RegionIn
import Derived.Shelf.RegionOpen
namespace Go.Proofs.Ytkjdlpbfalojdaa
open Go.RowKit Go.Shelf
set_option linter.unusedVariables false
set_option maxRecDepth 100000
attribute [local go_sem] Oper.semAt_some

/-- 'out = append(out, row)', row's value in a new block of its own; row is none of out's rows. -/
theorem run_push_row (w : World) (ty : TypeId)
    (B : Nat) (v : Value) (xss : List (List Int)) (hown : OwnII B w v xss) (ad : Addr) (c : Nat) (r : Value) (xs : List Int) (hc : w.cell? ad = some r)
    (hr : OwnI B w r xs) (hd : ∀ vs : List Value, w.ownsRow B 38 1 v vs.length vs → ∀ i (h : i < vs.length), r.ownBlock = none ∨ vs[i].ownBlock = none ∨ vs[i].ownBlock ≠ r.ownBlock)
    (hlen : xss.length ≤ 1099511627776) (hB : B ≤ w.heap.size)
    : ∃ a' cap' w', (Builtin.append_ #[33, 33] ty #[v, .slice (some ad) 1 c]).run Try.prog w = .ok (.slice a' (xss.length + 1) cap') w' ∧ OwnII B w' (.slice a' (xss.length + 1) cap') (xss ++ [xs]) ∧ w.grownBy w' v.ownBlock := by
  obtain ⟨i0, hi, hz0, hz1, hz2⟩ := info_parts infoInts
  obtain ⟨vs, h1, h2, h3, h4⟩ := hown
  have hone : r.oneCell' = true := by
    obtain ⟨_, _, rfl, _⟩ := own_shape hr
    rfl
  have hnews : ∀ j u, [r][j]? = some u → w.cell? (ad.add j) = some u := fun j u hj => by
    match j, hj with
    | 0, hj => simp at hj; subst hj; simpa [Addr.add] using hc
  obtain ⟨v', w', hrun, h5, h6, _, _⟩ := run_append_own_at (P := Try.prog) w B 33 ty 38 i0 (.slice none 0 0) 1 24 Try.underlying33 hi hz0 hz1 hz2 rfl (by decide) v vs.length vs h1 ad 1 c [r] rfl hnews (by simp [hone]) (by unfold maxLen; omega) (by omega) hB
  have hap : ∀ u ys, OwnI B w u ys → OwnI B w' u ys := fun u ys hu => World.ownsRow.kept hu h6 (own_apart hu h1 (by decide))
  obtain ⟨a', cap', rfl, _⟩ := own_shape h5
  rw [h2] at h5 hrun
  refine ⟨a', cap', w', hrun, ⟨vs ++ [r], by simpa [h2] using h5, by simp [h2], fun i hi' hi'' => ?_, fun i j hi' hj' hij => ?_⟩, h6⟩
  · by_cases hlt : i < vs.length
    · rw [List.getElem_append_left hlt, List.getElem_append_left (by omega)]
      exact hap _ _ (h3 i hlt (by omega))
    · have e : i = vs.length := by simp at hi'; omega
      subst e
      have := hap _ _ hr
      simpa [h2] using this
  · simp only [List.length_append, List.length_cons, List.length_nil] at hi' hj'
    by_cases h7 : i < vs.length
    · rw [List.getElem_append_left h7]
      by_cases h8 : j < vs.length
      · rw [List.getElem_append_left h8]; exact h4 i j h7 h8 hij
      · have e : j = vs.length := by omega
        subst e
        rw [List.getElem_append_right (Nat.le_refl _)]
        simp only [Nat.sub_self, List.getElem_cons_zero]
        rcases hd vs h1 i h7 with h | h | h
        · rw [h]; by_cases e : vs[i].ownBlock = none
          · exact .inl e
          · exact .inr e
        · exact .inl h
        · exact .inr h
    · have e : i = vs.length := by omega
      subst e
      rw [List.getElem_append_right (Nat.le_refl _), List.getElem_append_left (show j < vs.length by omega)]
      simp only [Nat.sub_self, List.getElem_cons_zero]
      rcases hd vs h1 j (by omega) with h | h | h
      · exact .inl h
      · rw [h]; by_cases e : r.ownBlock = none
        · exact .inl e
        · exact .inr e
      · exact .inr (fun e => h e.symm)


/-- 'out = append(out, row)' in a region that draws, inside a round. -/
theorem stepIn_push_row {F : Fence} {nF : Nat} (w : World) {ops : Array Oper} {o : Oper} {a : Act} {K : Act → World → Prop} {Q : Exit → Act → World → Prop} {E : Prop}
    (hg : o.guard = none) (s x : Operand) (hop : o.op = Op.call { callee := Callee.builtin Builtin.append, args := #[s, x], argTypes := #[33, 33] })
    (v : Value) (n : Nat) (ad : Addr) (c : Nat) (a' : Option Addr) (cap' : Nat) (w' : World) (hs : a.eval s = v) (hx : a.eval x = .slice (some ad) 1 c)
    (hrun : (Builtin.append_ #[33, 33] o.type #[v, .slice (some ad) 1 c]).run Try.prog w = .ok (.slice a' n cap') w')
    (h : K (a.put o.dst (.slice a' n cap')) w') : if Region.wanted o (yielded ops a.tmps) = true then Oper.wpIn F nF Try.prog o a w K Q else E := by
  have hw : Region.wanted o (yielded ops a.tmps) = true := by simp [Region.wanted, hg]
  rw [if_pos hw]
  unfold Oper.wpIn
  refine ⟨by simp [Oper.about, hop, resolve, Target.leads, Sem.run_pure], ?_⟩
  rw [Oper.semAt_plain F _ _ (by rw [hop]; intro c hc'; cases hc')]
  simp [execOp, hop, resolve, invoke, builtin, hs, hx, hrun, Result.andThen]
  exact h

theorem rows_any (K c : Int) (w : World) :
    Calls Try.prog 92 #[.int .i64 K, .int .i64 c] w fun e w' => e = .returned (.func (.func 104) #[] #[.pointer (some ⟨w.heap.size, 0, none⟩), .pointer (some ⟨w.heap.size + 1, 0, none⟩)]) ∧ w' = (w.alloc (.cells #[.int .i64 K] 3)).alloc (.cells #[.int .i64 c] 3) := by
  go_enter Try.func92, Try.ntmps92
  go_wp2
  go_ret
  exact ⟨rfl, rfl⟩

theorem allRows_small {c k : Nat} (hc : c ≤ 5) (hk : k ≤ 3) : (allL c k).length ≤ 125 := by
  have e : ∀ k, (allL c k).length = c ^ k := fun k => by
    induction k with
    | zero => rfl
    | succ k ih =>
      rw [allL, Nat.pow_succ, ← ih]
      induction allL c k with
      | nil => simp
      | cons a r ih => rw [List.flatMap_cons, List.length_append, ih, List.length_map, List.length_range, List.length_cons, Nat.succ_mul]; omega
  rw [e]
  have : c ^ k ≤ 5 ^ k := Nat.pow_le_pow_left hc _
  have : 5 ^ k ≤ 5 ^ 3 := Nat.pow_le_pow_right (by omega) hk
  omega

/-- What the loop of allRows has so far. -/
def AllInv (N : Nat) (w : World) (pre : List (List Int)) (W : World) : Prop :=
  (∃ a cap, W.heap[N]? = some (.cells #[.slice a pre.length cap] 33 (0, 0)) ∧ OwnII (N + 9) W (.slice a pre.length cap) pre) ∧ Below N w W ∧ N + 9 ≤ W.heap.size + 9

theorem allInv_bears (N : Nat) (w : World) : Bears (N + 3) 6 (AllInv N w) := by
  rintro s A B row ⟨⟨a, cap, h1, h2⟩, h3, h4⟩ hg hr
  have hz := hg.size
  refine ⟨⟨a, cap, ?_, ?_⟩, ?_, by omega⟩
  · rw [hg.block N (Array.getElem?_eq_some_iff.1 h1).1 (fun e => by have := hr N e.symm; omega)]; exact h1
  · exact h2.keep fun b hb hlt => hg.block b hlt (fun e => by have := hr b e.symm; omega)
  · exact h3.grown hg (Nat.le_of_lt (Array.getElem?_eq_some_iff.1 h1).1) (fun k hk => by have := hr k hk; omega)

/-- What a round does, behind the clone. -/
theorem round_after {N D : Nat} {w W w3 : World} {a a3 : Option Addr} {cap c3 n : Nat} {pre : List (List Int)} {x : List Int} (hD : D = N + 3) (hb0 : W.heap[N]? = some (.cells #[.slice a pre.length cap] 33 (0, 0))) (ho : OwnII (N + 9) W (.slice a pre.length cap) pre)
    (hb : Below N w W) (hsz : N + 9 ≤ W.heap.size) (hn : x.length = n) (ho3 : OwnI W.heap.size w3 (.slice a3 n c3) x) (hb3 : Below W.heap.size W w3) (hpl : pre.length ≤ 125) :
    w3.cell? ⟨N, 0, none⟩ = some (.slice a pre.length cap) ∧ (w3.alloc (.cells #[.slice a3 n c3] 38)).cell? ⟨N, 0, none⟩ = some (.slice a pre.length cap) ∧ ∃ a6 c6 w6, (Builtin.append_ #[33, 33] 33 #[.slice a pre.length cap, .slice (some ⟨w3.heap.size, 0, none⟩) 1 1]).run Try.prog (w3.alloc (.cells #[.slice a3 n c3] 38)) = .ok (.slice a6 (pre.length + 1) c6) w6 ∧
      w6.cell? ⟨N, 0, none⟩ = some (.slice a pre.length cap) ∧ w6.frozen? ⟨N, 0, none⟩ = false ∧ AllInv N w (pre ++ [x]) (w6.setCell ⟨N, 0, none⟩ (.slice a6 (pre.length + 1) c6)) ∧
      Win D (2 + 4) W (w6.setCell ⟨N, 0, none⟩ (.slice a6 (pre.length + 1) c6)) ∧ Win (N + 1) (D - (N + 1)) W (w6.setCell ⟨N, 0, none⟩ (.slice a6 (pre.length + 1) c6)) := by
  subst hn hD
  have hz3 := hb3.size
  have hNW := (Array.getElem?_eq_some_iff.1 hb0).1
  have hb4 : Below W.heap.size W (w3.alloc (.cells #[.slice a3 x.length c3] 38)) := hb3.alloc hz3 _
  have ho4 : OwnI W.heap.size (w3.alloc (.cells #[.slice a3 x.length c3] 38)) (.slice a3 x.length c3) x := World.ownsRow.alloc ho3 _
  have hc4 : (w3.alloc (.cells #[.slice a3 x.length c3] 38)).cell? ⟨w3.heap.size, 0, none⟩ = some (.slice a3 x.length c3) := cell_of_one (heap_alloc_new w3 _)
  obtain ⟨a6, c6, w6, hrun, ho6, hg6⟩ := run_push_row _ 33 (N + 9) (.slice a pre.length cap) pre (ho.below hb4) ⟨w3.heap.size, 0, none⟩ 1 (.slice a3 x.length c3) x hc4 (ho4.mono (by omega)) (rows_old ho hb4 ho4) (by omega) (by simp; omega)
  have hz6 := hg6.size
  have hown : ∀ k, (Value.slice a pre.length cap).ownBlock = some k → N + 9 ≤ k := fun k hk => by
    obtain ⟨vs, h1, _⟩ := ho
    exact (World.ownsRow.lt h1 k hk).1
  have hkeep : ∀ b, b < N + 9 → w6.heap[b]? = W.heap[b]? := fun b hlt => by
    rw [hg6.block b (by simp; omega) (fun e => by have := hown b e.symm; omega), hb4.block b (by omega)]
  have h06 : w6.heap[N]? = some (.cells #[.slice a pre.length cap] 33 (0, 0)) := (hkeep N (by omega)).trans hb0
  have hset : ∀ b, b ≠ N → (w6.setCell ⟨N, 0, none⟩ (.slice a6 (pre.length + 1) c6)).heap[b]? = w6.heap[b]? := fun b hb => heap_setCell_other _ _ _ _ hb
  have hzs : (w6.setCell ⟨N, 0, none⟩ (.slice a6 (pre.length + 1) c6)).heap.size = w6.heap.size := by simp [World.setCell]
  have hz4 : (w3.alloc (.cells #[.slice a3 x.length c3] 38)).heap.size = w3.heap.size + 1 := by simp
  refine ⟨cell_of_one ((hb3.block N hNW).trans hb0), cell_of_one ((hb4.block N hNW).trans hb0), a6, c6, w6, hrun, cell_of_one h06, frozen_of_row _ _ 0 _ _ h06, ⟨⟨a6, c6, ?_, ?_⟩, ?_, by omega⟩, ⟨by omega, fun k h1 h2 => ?_⟩, ⟨by omega, fun k h1 h2 => ?_⟩⟩
  · have := heap_setCell_same _ _ 0 _ _ (.slice a6 (pre.length + 1) c6) h06
    rw [List.length_append, List.length_singleton]
    exact this
  · rw [List.length_append, List.length_singleton]
    exact ho6.keep fun b h1 h2 => hset b (by omega)
  · exact ((hb.trans (hb4.mono (Nat.le_of_lt hNW))).grown hg6 (by omega) (fun k hk => by have := hown k hk; omega)).setCell (p := ⟨N, 0, none⟩) (Nat.le_refl _) _
  · rw [hset k (by omega), hkeep k (by omega)]
  · rw [hset k (by omega), hkeep k (by omega)]

set_option maxHeartbeats 4000000 in
theorem allRows_any (K c : Nat) (w : World) (hK : 1 ≤ K) (hK3 : K ≤ 3) (hc : c ≤ 5) :
    Calls Try.prog 65 #[.int .i64 K, .int .i64 c] w (FreshII (allL c K) w) := by
  obtain ⟨W2, hW2⟩ : ∃ W2, W2 = (((w.alloc (.cells #[.slice none 0 0] 33)).alloc (.cells #[.int .i64 (K : Int)] 3)).alloc (.cells #[.int .i64 (c : Int)] 3)) := ⟨_, rfl⟩
  have hs2 : W2.heap.size = w.heap.size + 3 := by rw [hW2]; simp
  have r0 : W2.heap[w.heap.size]? = some (.cells #[.slice none 0 0] 33 (0, 0)) := by
    rw [hW2, heap_alloc_old _ _ _ (by simp only [World.size_alloc]; omega), heap_alloc_old _ _ _ (by simp only [World.size_alloc]; omega)]; exact @Go.heap_alloc_new w _
  have r1 : W2.heap[w.heap.size + 1]? = some (.cells #[.int .i64 (K : Int)] 3 (0, 0)) := by
    rw [hW2, heap_alloc_old _ _ _ (by simp only [World.size_alloc]; omega)]; have q := @Go.heap_alloc_new (w.alloc (.cells #[.slice none 0 0] 33)) (.cells #[.int .i64 (K : Int)] 3); simp only [World.size_alloc] at q; exact q
  have r2 : W2.heap[w.heap.size + 1 + 1]? = some (.cells #[.int .i64 (c : Int)] 3 (0, 0)) := by
    rw [hW2]; have q := @Go.heap_alloc_new ((w.alloc (.cells #[.slice none 0 0] 33)).alloc (.cells #[.int .i64 (K : Int)] 3)) (.cells #[.int .i64 (c : Int)] 3); simp only [World.size_alloc] at q; exact q
  have hSeq := rows1_seq (w.heap.size + 1) (w.heap.size + 1 + 1) K c (w.heap.size + 1) W2 (by omega) (by omega) (by omega) (by omega) r1 r2
  have hinv : AllInv w.heap.size w [] W2 := ⟨⟨none, 0, r0, OwnII.empty _ _⟩, by rw [hW2]; exact (((Below.refl _ _).alloc (Nat.le_refl _) _).alloc (by simp) _).alloc (by simp; omega) _, by omega⟩
  have hbears := allInv_bears w.heap.size w
  rw [← hs2] at hbears
  have hR := rows_any K c (w.alloc (.cells #[.slice none 0 0] 33))
  rw [World.size_alloc] at hR
  refine (callsIn_wide (n := 9)).1 ?_
  refine callsIn_of_wp_marks Try.func65 rfl trivial ?_ rfl
  simp only [Try.ntmps65, List.size_toArray, List.length_cons, List.length_nil, Nat.reduceAdd, Nat.reduceSub, Array.replicate_succ, Array.replicate_zero, List.push_toArray, List.append_toArray, List.nil_append, List.cons_append]
  gi_wp2_with (refine ⟨trivial, ?_⟩; gi_at_call 92; refine (callsIn_wide.2 hR).mono ?_; rintro e w2 ⟨rfl, rfl⟩)
  rw [← hW2]
  have HW2 := Lib.hid hW2
  have HS2 := Lib.hid hs2
  clear hR r0 r1 r2 hW2 hs2
  refine wpIn_rangeRows (gf := 104) (lb := #[.pointer (some ⟨w.heap.size + 1, 0, none⟩), .pointer (some ⟨w.heap.size + 1 + 1, 0, none⟩)]) (lo := w.heap.size + 1) (c := 4) (enc := encR K) (Info := InfoR) (xs := fillL c [] K)
    rfl (enters_of Try.func104 (by kernel_rfl) rfl) hSeq (Below.refl _ _) rfl (AllInv w.heap.size w) hbears hinv
    { tmps := #[.int .i64 K, .int .i64 c, undef, undef, .slice none 0 0, .pointer (some ⟨w.heap.size, 0, none⟩), encR K (W2.heap.size + 2), .int .i64 K, .int .i64 c, .func (.func 104) #[] #[.pointer (some ⟨w.heap.size + 1, 0, none⟩), .pointer (some ⟨w.heap.size + 1 + 1, 0, none⟩)], encR K (W2.heap.size + 2), undef, undef, undef, undef, undef, undef], defers := [] } ?assign ?body ?info ?done
  case assign =>
    intro l m W Q hQ
    gi_wp2
    exact hQ
  case info =>
    intro x W l o h hl
    unfold InfoR at h ⊢
    rw [World.putObj_heap_other (by omega)]
    exact ⟨h.1, by simpa using h.2⟩
  case done =>
    rintro W ⟨⟨a, cap, hb0, ho⟩, hb, _⟩ hk
    rw [fill_nil] at hb0 ho
    have hs2 := HS2.out
    have c0 := cell_of_row _ _ 0 _ _ (0, 0) hb0
    simp only [List.getElem?_toArray, List.getElem?_cons_zero] at c0
    obtain ⟨D, hD⟩ : ∃ D, D = W2.heap.size := ⟨_, rfl⟩
    rw [← hD] at hk ⊢
    have HD := Lib.hid hD
    have HS := Lib.hid hs2
    have HO := Lib.hid ho
    have HB := Lib.hid hb
    have hkD := (Array.getElem?_eq_some_iff.1 hk).1
    clear hD hs2 ho hb hb0 hSeq hinv hbears
    simp only [Exit.inBlock, Exit.then]
    gi_wp2
    refine ⟨by simp, .inl ⟨_, _, rfl, run_takeDeferred hk, ?_⟩⟩
    have hD3 : D = w.heap.size + 3 := HD.out.trans HS.out
    have hbz := HB.out.size
    exact ⟨_, results_tmp rfl _ _ _, a, cap, rfl, (HO.out.keep fun b h1 h2 => World.putObj_heap_other (by omega)).mono (by omega), HB.out.grown (grownBy_putObj' W D _) hbz (fun k hk => by cases hk; omega)⟩
  case body =>
    rintro l m pre x W ⟨rest, hx⟩ ⟨⟨a, cap, hb0, ho⟩, hb, hsz⟩ hinf
    have hs2 := HS2.out
    have hxm : x ∈ allL c K := by rw [← fill_nil, hx]; simp
    obtain ⟨hxl, hxr⟩ := allL_row hxm
    have hpl : pre.length ≤ 125 := by
      have h1 : (allL c K).length = pre.length + (rest.length + 1) := by rw [← fill_nil, hx]; simp
      have h2 := allRows_small hc hK3
      omega
    obtain ⟨g, hg⟩ : ∃ g, g = W2.heap.size + 2 + 1 := ⟨_, rfl⟩
    have hinf' : W.heap[g]? = some (.cells (ints x).toArray 3 (0, 0)) := by rw [hg]; exact hinf.1
    have hgW := (Array.getElem?_eq_some_iff.1 hinf').1
    have hrow : Ints 0 W (.slice (some ⟨g, 0, none⟩) K K) x := by
      refine ⟨⟨some ⟨g, 0, none⟩, K, by rw [ints_length, hxl], by rw [ints_length, hxl]; exact Nat.le_refl _, by omega, fun _ => ⟨g, 0, rfl, Nat.zero_le _, fun i hi => ?_⟩⟩, fun y hy => ?_⟩
      · rw [Nat.zero_add, cell_of_row _ _ i _ _ (0, 0) hinf', List.getElem?_toArray, List.getElem?_eq_getElem hi]
      · have := hxr y hy
        unfold In64; omega
    have hC := cloneI_any (.slice (some ⟨g, 0, none⟩) K K) x W.drew hrow (.inr ⟨_, _, _, rfl⟩) (by omega)
    unfold FreshI at hC
    rw [hxl] at hC
    have c0 := cell_of_row _ _ 0 _ _ (0, 0) hb0
    simp only [List.getElem?_toArray, List.getElem?_cons_zero] at c0
    have f0 := frozen_of_row _ _ 0 _ _ hb0
    have hmx : Try.prog.follows .mixedOrders = true := by kernel_rfl
    show Code.wpIn (Fence.wide.inRound l) m _ _ _ { tmps := #[.int .i64 K, .int .i64 c, undef, undef, .slice none 0 0, .pointer (some ⟨w.heap.size, 0, none⟩), .slice (some ⟨W2.heap.size + 2 + 1, 0, none⟩) K K, .int .i64 K, .int .i64 c, .func (.func 104) #[] #[.pointer (some ⟨w.heap.size + 1, 0, none⟩), .pointer (some ⟨w.heap.size + 1 + 1, 0, none⟩)], .slice (some ⟨W2.heap.size + 2 + 1, 0, none⟩) K K, undef, undef, undef, undef, undef, undef], defers := [] } W
    rw [← hg]
    have hfx := fun (w3 : World) (a3 : Option Addr) (c3 : Nat) (ho3 : OwnI W.drew.heap.size w3 (.slice a3 K c3) x) (hb3 : Below W.drew.heap.size W.drew w3) => round_after (D := W2.heap.size) (w := w) (W := W.drew) hs2 hb0 ho hb.drew (by have := hinf.2; show w.heap.size + 9 ≤ W.heap.size; omega) hxl ho3 hb3 hpl
    have HO := Lib.hid ho
    have HB := Lib.hid hb
    have HB0 := Lib.hid hb0
    have HG := Lib.hid hg
    have HX := Lib.hid hxl
    have HX2 := Lib.hid hx
    clear hrow hinf hinf' ho hb hb0 hg hxl hx hs2
    gi_wp2
    have HFX := Lib.hid hfx
    clear hfx
    refine wpIn_region_any hmx ?_
    change wpAnyIn _ _ _ _ _ _ _ _ _ (World.drew _)
    repeat' (first
      | (refine wpAnyIn_done (by decide +kernel) ?_ _)
      | (refine wpAnyIn_ready (rs := [0, 1]) (by decide +kernel) (by simp) ?_)
      | (refine wpAnyIn_ready (rs := [0, 2]) (by decide +kernel) (by simp) ?_)
      | (refine wpAnyIn_ready (rs := [0, 3]) (by decide +kernel) (by simp) ?_)
      | (refine wpAnyIn_ready (rs := [0]) (by decide +kernel) (by simp) ?_)
      | (refine wpAnyIn_ready (rs := [1]) (by decide +kernel) (by simp) ?_)
      | (refine wpAnyIn_ready (rs := [2]) (by decide +kernel) (by simp) ?_)
      | (refine wpAnyIn_ready (rs := [3]) (by decide +kernel) (by simp) ?_)
      | (refine wpAnyIn_ready (rs := [4]) (by decide +kernel) (by simp) ?_)
      | (refine wpAnyIn_ready (rs := [5]) (by decide +kernel) (by simp) ?_)
      | exact AllReadyIn.nil
      | (refine AllReadyIn.cons rfl (fun K0 hK0 => ?_) ?_)
      | (refine stepIn_push_row _ rfl (.tmp 11) (.tmp 14) rfl (.slice a pre.length cap) (pre.length + 1) ⟨w3.heap.size, 0, none⟩ 1 a6 c6 w6 rfl rfl HRUN.out ?_; refine hK0 _ _ ?_; clear hK0 K0)
      | (go_simp; refine hK0 _ _ ?_; clear hK0 K0)
      | (go_simp; refine ⟨trivial, fun h => (by cases h), ?_⟩; gi_at_call 93; refine (CallsIn.inRound l (callsIn_wide.2 hC)).mono ?_; rintro e w3 ⟨a3, c3, rfl, ho3, hb3⟩; obtain ⟨c03, c04, a6, c6, w6, hrun, c06, f06, hfin⟩ := HFX.out w3 a3 c3 ho3 hb3; have HRUN := Lib.hid hrun; have HFIN := Lib.hid hfin; clear ho3 hb3 hrun hfin; refine hK0 _ _ ?_; clear hK0 K0))
    all_goals
      simp only [Exit.inBlock]
      obtain ⟨h1, h2, h3⟩ := HFIN.out
      exact ⟨h2, h3, h1⟩

/-- AllCodes, where there are codes. -/
theorem allCodesI_any (n c : Nat) (w : World) (h : codesP n c) :
    Calls Try.prog 23 #[.int .i64 n, .int .i64 c] w (FreshII (allL c n) w) := by
  have hC := codesI_any n c w
  rw [codesB_iff.2 h] at hC
  obtain ⟨⟨h1, h2⟩, h3, h4⟩ := h
  have hA := allRows_any n c w (by omega) (by omega) (by omega)
  go_enter Try.func23, Try.ntmps23
  go_wp2_with fail
  refine hC.mono ?_
  rintro e w2 ⟨rfl, rfl⟩
  clear hC
  go_wp2_with fail
  refine hA.mono ?_
  rintro e w3 ⟨a, cap, rfl, ho, hb⟩
  have HO := Lib.hid ho
  have HB := Lib.hid hb
  clear hA ho hb
  go_wp2
  go_ret
  exact ⟨a, cap, rfl, HO.out, HB.out⟩

end Go.Proofs.Ytkjdlpbfalojdaa
