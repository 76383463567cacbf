/- Copies of lists of guesses. -/
import Derived.Test.YtkjdlpbfalojdaaOwnG
import Derived.Test.YtkjdlpbfalojdaaDeed2
namespace Go.Proofs.Ytkjdlpbfalojdaa
open Go.RowKit
set_option linter.unusedVariables false
set_option maxRecDepth 100000

def FreshG (gs : List Gs) (w : World) (e : Ending) (w' : World) : Prop := ∃ a cap, e = .returned (.slice a gs.length cap) ∧ OwnG w.heap.size w' (.slice a gs.length cap) gs ∧ Below w.heap.size w w'

theorem cells_nils (n : Nat) : (madeCells #[Value.slice none 0 0, .int .i64 0, .int .i64 0] (n * 3)).toList = cellsT (List.replicate n (.slice none 0 0, 0, 0)) := by
  have hl : (cellsT (List.replicate n (Value.slice none 0 0, (0 : Int), (0 : Int)))).length = n * 3 := by rw [cellsT_length]; simp
  refine List.ext_getElem (by rw [hl]; simp [madeCells]) fun i h1 h2 => ?_
  have hi : i < n * 3 := by rw [hl] at h2; exact h2
  obtain ⟨q1, q2, q3⟩ := cellsT_get (List.replicate n (Value.slice none 0 0, (0 : Int), (0 : Int))) (i / 3) (by simp; omega)
  have hm : i % 3 = 0 ∨ i % 3 = 1 ∨ i % 3 = 2 := by omega
  have hg := List.getElem?_eq_getElem h2
  rcases hm with m | m | m
  · rw [show i / 3 * 3 = i by omega, hg] at q1
    rw [Option.some.inj q1]
    simp [madeCells, m]
  · rw [show i / 3 * 3 + 1 = i by omega, hg] at q2
    rw [Option.some.inj q2]
    simp [madeCells, m]
  · rw [show i / 3 * 3 + 2 = i by omega, hg] at q3
    rw [Option.some.inj q3]
    simp [madeCells, m]

theorem own_nilsG {w : World} {B n : Nat} {v : Value} (h : w.ownsRow B 69 3 v n (madeCells (Value.agg #[.slice none 0 0, .int .i64 0, .int .i64 0]).cells (n * 3)).toList) : OwnG B w v (List.replicate n ⟨[], 0, 0⟩) := by
  rw [show (Value.agg #[.slice none 0 0, .int .i64 0, .int .i64 0]).cells = #[.slice none 0 0, .int .i64 0, .int .i64 0] from rfl, cells_nils] at h
  refine ⟨List.replicate n (.slice none 0 0, 0, 0), ?_, by simp, fun i hi hi' => ?_, fun i j hi hj _ => ?_⟩
  · unfold OwnT
    simpa using h
  · simp only [List.getElem_replicate]
    exact ⟨OwnI.empty B w, trivial, trivial⟩
  · left
    simp [Value.ownBlock]

/-- 'make([]Guess, n)'. -/
theorem wpList_make_guesses (w : World) {ops : Array Oper} {rest : List Oper} {o : Oper} {a : Act} {Q : Exit → Act → World → Prop}
    (hg : o.guard = none) (l c : Operand) (hop : o.op = Op.makeSlice 25 l c)
    (L C : Int) (n : Nat) (hl : a.eval l = .int .i64 L) (hc : a.eval c = .int .i64 C) (hL : L = (n : Int)) (hC : C = (n : Int)) (b2 : n ≤ 10000000000)
    (hK : ∀ w', OwnG w.heap.size w' (.slice (some ⟨w.heap.size, 0, none⟩) n n) (List.replicate n ⟨[], 0, 0⟩) → Below w.heap.size w w' → w.heap.size < w'.heap.size →
      wpList Try.prog ops Q rest (a.put o.dst (.slice (some ⟨w.heap.size, 0, none⟩) n n)) w') :
    wpList Try.prog ops Q (o :: rest) a w := by
  obtain ⟨i0, hi, hz0, hz1, hz2⟩ := info_parts infoGuess
  refine wpList_make_full w hg l c 25 hop w.heap.size 69 i0 (.agg #[.slice none 0 0, .int .i64 0, .int .i64 0]) 3 Try.underlying25 hi hz0 hz1 .i64 .i64 L C n hl hc hL hC (by rw [hz2]; omega) (by unfold maxLen; omega) (Nat.le_refl _) ?_
  intro w' h1 h2
  refine hK w' (own_nilsG h1) ((Below.refl _ w).grown h2 (Nat.le_refl _) (by simp)) ?_
  exact (World.ownsRow.lt h1 _ rfl).2

theorem fill_step {gs : List Gs} {z : Gs} {k n : Nat} (h : k < gs.length) (hn : n = gs.length) : (gs.take k ++ List.replicate (n - k) z).set k gs[k] = gs.take (k + 1) ++ List.replicate (n - (k + 1)) z := by
  subst hn
  rw [List.take_succ_eq_append_getElem h, List.set_append_right _ _ (by rw [List.length_take]; omega)]
  have e : k - (gs.take k).length = 0 := by rw [List.length_take]; omega
  rw [e, show gs.length - k = (gs.length - (k + 1)) + 1 from by omega, List.replicate_succ, List.set_cons_zero, List.append_assoc]
  rfl

theorem set_seenG (w : World) (g i j : Nat) (u u0 : Value) (h : w.cell? ⟨g, j, none⟩ = some u0) (hn : i ≠ j) : (w.setCell ⟨g, i, none⟩ u).cell? ⟨g, j, none⟩ = some u0 := by
  have hg := World.block_lt_of_cell? w _ h
  simp only [World.cell?, World.setCell] at h ⊢
  rw [Array.getElem?_modify]
  simp only [if_true]
  cases hb : w.heap[g]? with
  | none => rw [hb] at h; simp at h
  | some o =>
    rw [hb] at h
    cases o with
    | cells cs t fr => simpa [Array.getElem?_setIfInBounds, hn] using h
    | _ => simp at h ⊢
theorem set_thawedG (w : World) (g i j : Nat) (u : Value) (h : w.frozen? ⟨g, j, none⟩ = false) : (w.setCell ⟨g, i, none⟩ u).frozen? ⟨g, j, none⟩ = false := by
  simp only [World.frozen?, World.setCell] at h ⊢
  rw [Array.getElem?_modify]
  simp only [if_true]
  cases hb : w.heap[g]? with
  | none => simp
  | some o =>
    rw [hb] at h
    cases o with
    | cells cs t fr => simpa using h
    | _ => simp at h ⊢

/-- A code that was just made lies apart from the others. -/
theorem OwnG.apartNew {B : Nat} {w w2 : World} {g n cap : Nat} {gs : List Gs} (h : OwnG B w (.slice (some ⟨g, 0, none⟩) n cap) gs) (hb : Below w.heap.size w w2) {u : Value} {x : List Int} (hu : OwnI w.heap.size w2 u x) (k : Nat) :
    ∀ i z, i < gs.length → i ≠ k → w2.cell? ⟨g, i * 3, none⟩ = some z → z.ownBlock = none ∨ u.ownBlock = none ∨ z.ownBlock ≠ u.ownBlock := by
  intro i z hi _ hz
  obtain ⟨ts, h1, h2, h3, h4⟩ := h.below hb
  obtain ⟨a, cap', e, _, _, h6⟩ := h1.opened
  obtain ⟨g', e', _, _, hcs, _⟩ := h6 (by omega)
  injection e with e1 _ _
  rw [e'] at e1
  injection e1 with e1
  injection e1 with e1 _
  subst e1
  have := (hcs i (by omega)).1
  rw [hz] at this
  have hzz : z = ts[i].1 := Option.some.inj this
  have := guess_old h hb hu ts h1 i (by omega)
  rw [← hzz] at this
  rcases this with q | q | q
  · exact .inr (.inl q)
  · exact .inl q
  · exact .inr (.inr q)

set_option maxHeartbeats 2000000 in
theorem toGuessS_any {B : Nat} (v : Value) (gs : List Gs) (w : World) (h : GL B w v gs) (hl : gs.length ≤ 2000000) (hc : ∀ g ∈ gs, g.code.length ≤ 1099511627776) :
    Calls Try.prog 33 #[v] w (FreshG gs w) := by
  obtain ⟨a, cap, V, rfl, hcap, hmax, hcells, hV⟩ := h
  go_enter Try.func33, Try.ntmps33
  go_wp2_with (at_make; refine wpList_make_guesses _ rfl _ _ rfl _ _ gs.length rfl rfl rfl rfl (by omega) ?_; intro w1 hown hb1 hs1; have HOWN := Lib.hid hown; have HB1 := Lib.hid hb1; clear hown hb1)
  go_loopw [4] (fun i wr => ∃ k : Nat, k ≤ gs.length ∧ i = .int .i64 k ∧ OwnG w.heap.size wr (.slice (some ⟨w.heap.size, 0, none⟩) gs.length gs.length) (gs.take k ++ List.replicate (gs.length - k) ⟨[], 0, 0⟩) ∧ Below w.heap.size w wr) (fun i _ => gs.length - (intOf i).toNat)
  case atStart => exact ⟨0, Nat.zero_le _, rfl, by simpa using HOWN.out, HB1.out⟩
  case round =>
    obtain ⟨k, hk, rfl, ho, hb⟩ := hrel
    obtain ⟨wk, rfl⟩ : ∃ x, x = wr := ⟨_, rfl⟩
    clear HOWN HB1
    by_cases hlt : k < gs.length
    · obtain ⟨b, off, rfl, _, hcs⟩ := hcells (by omega)
      obtain ⟨c1, c2, c3⟩ := hcs k hlt
      have d1 := (Above.of_below (B := 0) hb).cell (Nat.zero_le _) c1
      have d2 := (Above.of_below (B := 0) hb).cell (Nat.zero_le _) c2
      have d3 := (Above.of_below (B := 0) hb).cell (Nat.zero_le _) c3
      obtain ⟨av, cv, hvv, _⟩ := (hV k hlt).opened
      have hT := toGuess_any (V k) gs[k].code gs[k].right gs[k].near wk ((hV k hlt).below hb) (hc _ (List.getElem_mem hlt))
      have HST := Lib.hid (fill_step (z := ⟨[], 0, 0⟩) hlt rfl)
      have hlen : (gs.take k ++ List.replicate (gs.length - k) (⟨[], 0, 0⟩ : Gs)).length = gs.length := by simp; omega
      have HLE := Lib.hid hlen
      obtain ⟨x, hx⟩ : ∃ x, x = gs[k] := ⟨_, rfl⟩
      rw [← hx] at d2 d3 hT HST
      rw [hvv] at d1 hT
      rw [← hx] at d1 hT
      unfold gV at hT
      have HO := Lib.hid ho
      have HB := Lib.hid hb
      have hzk := hb.size
      have hi0 : (0 : Int) ≤ (k : Int) := by omega
      have hi1 : (k : Int) < (gs.length : Int) := by omega
      clear hcs hcells hV hvv hx ho hb c1 c2 c3 hlen
      go_wp2_with fail
      refine hT.mono ?_
      rintro e w3 ⟨a3, c3', rfl, ho3, hb3⟩
      unfold gV
      obtain ⟨g9, cap9, e9, _, _, _, _, hfz, hat⟩ := (HO.out.below hb3).opened (by rw [HLE.out]; omega)
      injection e9 with e9 e9b e9c
      clear e9b e9c
      injection e9 with e9
      injection e9 with e9 _
      subst e9
      obtain ⟨z, z1, _, z2, z3⟩ := hat k (by rw [HLE.out]; exact hlt)
      have hput := (HO.out.below hb3).put k (by rw [HLE.out]; exact hlt) (x := x) (ho3.mono hzk) (HO.out.apartNew hb3 ho3 k)
      rw [HST.out] at hput
      have hc2 := set_seenG w3 w.heap.size (k * 3) (k * 3 + 1) (.slice a3 x.code.length c3') _ z2 (by omega)
      have hc3 := set_seenG (w3.setCell ⟨w.heap.size, k * 3, none⟩ (.slice a3 x.code.length c3')) w.heap.size (k * 3 + 1) (k * 3 + 2) (.int .i64 x.right) _ (set_seenG w3 w.heap.size (k * 3) (k * 3 + 2) (.slice a3 x.code.length c3') _ z3 (by omega)) (by omega)
      have hf1 := hfz (k * 3)
      have hf2 := set_thawedG w3 w.heap.size (k * 3) (k * 3 + 1) (.slice a3 x.code.length c3') (hfz _)
      have hf3 := set_thawedG (w3.setCell ⟨w.heap.size, k * 3, none⟩ (.slice a3 x.code.length c3')) w.heap.size (k * 3 + 1) (k * 3 + 2) (.int .i64 x.right) (set_thawedG w3 w.heap.size (k * 3) (k * 3 + 2) (.slice a3 x.code.length c3') (hfz _))
      have HP := Lib.hid hput.1
      have HB3 := Lib.hid ((HB.out.trans (hb3.mono hzk)).grown hput.2 (Nat.le_trans hzk hb3.size) (fun q hq => by cases hq; exact Nat.le_refl _))
      clear hT ho3 hb3 hfz hat hput z2 z3
      go_wp2
      go_roundw
      case rel => exact ⟨k + 1, by omega, by go_num, HP.out, HB3.out⟩
      case measure => simp [intOf]; omega
    · have e : gs.take k ++ List.replicate (gs.length - k) (⟨[], 0, 0⟩ : Gs) = gs := by rw [List.take_of_length_le (by omega), show gs.length - k = 0 by omega]; simp
      rw [e] at ho
      have HO := Lib.hid ho
      have HB := Lib.hid hb
      have HC := Lib.hid hc
      clear e ho hb hcells hV hc
      go_wp2
      go_ret
      exact ⟨_, _, rfl, HO.out, HB.out⟩

end Go.Proofs.Ytkjdlpbfalojdaa
