/- Copies of lists of guesses. -/
import Derived.Test.YtenlngclocfnlaaGreatDoorBunG
import Derived.Test.YtenlngclocfnlaaGreatDoorBunF
import Derived.Test.YtenlngclocfnlaaGreatDoorBunK
import Derived.Test.YtenlngclocfnlaaGreatDoorBunE
/- Copies of lists of guesses. -/
namespace Go.Proofs.YtenlngclocfnlaaGreatDoor
open Go.RowKit
set_option linter.unusedVariables false
set_option maxRecDepth 100000

def FreshG (gs : List Gs) (w : World) (e : Ending) (w' : World) : Prop := ∃ a cap, e = .returned (.slice a gs.length cap) ∧ OwnG w.heap.size w' (.slice a gs.length cap) gs ∧ Below w.heap.size w w'

theorem cells_nils (n : Nat) : (madeCells #[Value.slice none 0 0, .int .i64 0, .int .i64 0] (n * 3)).toList = cellsT (List.replicate n (.slice none 0 0, 0, 0)) := by
  have hl : (cellsT (List.replicate n (Value.slice none 0 0, (0 : Int), (0 : Int)))).length = n * 3 := by rw [cellsT_length]; simp
  refine List.ext_getElem (by rw [hl]; simp [madeCells]) fun i h1 h2 => ?_
  have hi : i < n * 3 := by rw [hl] at h2; exact h2
  obtain ⟨q1, q2, q3⟩ := cellsT_get (List.replicate n (Value.slice none 0 0, (0 : Int), (0 : Int))) (i / 3) (by simp; omega)
  have hm : i % 3 = 0 ∨ i % 3 = 1 ∨ i % 3 = 2 := by omega
  have hg := List.getElem?_eq_getElem h2
  rcases hm with m | m | m
  · rw [show i / 3 * 3 = i by omega, hg] at q1
    rw [Option.some.inj q1]
    simp [madeCells, m]
  · rw [show i / 3 * 3 + 1 = i by omega, hg] at q2
    rw [Option.some.inj q2]
    simp [madeCells, m]
  · rw [show i / 3 * 3 + 2 = i by omega, hg] at q3
    rw [Option.some.inj q3]
    simp [madeCells, m]

theorem own_nilsG {w : World} {B n : Nat} {v : Value} (h : w.ownsRow B 39 3 v n (madeCells (Value.agg #[.slice none 0 0, .int .i64 0, .int .i64 0]).cells (n * 3)).toList) : OwnG B w v (List.replicate n ⟨[], 0, 0⟩) := by
  rw [show (Value.agg #[.slice none 0 0, .int .i64 0, .int .i64 0]).cells = #[.slice none 0 0, .int .i64 0, .int .i64 0] from rfl, cells_nils] at h
  refine ⟨List.replicate n (.slice none 0 0, 0, 0), ?_, by simp, fun i hi hi' => ?_, fun i j hi hj _ => ?_⟩
  · unfold OwnT
    simpa using h
  · simp only [List.getElem_replicate]
    exact ⟨OwnI.empty B w, trivial, trivial⟩
  · left
    simp [Value.ownBlock]

/-- 'make([]Guess, n)'. -/
theorem wpList_make_guesses (w : World) {ops : Array Oper} {rest : List Oper} {o : Oper} {a : Act} {Q : Exit → Act → World → Prop}
    (hg : o.guard = none) (l c : Operand) (hop : o.op = Op.makeSlice 28 l c)
    (L C : Int) (n : Nat) (hl : a.eval l = .int .i64 L) (hc : a.eval c = .int .i64 C) (hL : L = (n : Int)) (hC : C = (n : Int)) (b2 : n ≤ 10000000000)
    (hK : ∀ w', OwnG w.heap.size w' (.slice (some ⟨w.heap.size, 0, none⟩) n n) (List.replicate n ⟨[], 0, 0⟩) → Below w.heap.size w w' → w.heap.size < w'.heap.size →
      wpList Tryz.prog ops Q rest (a.put o.dst (.slice (some ⟨w.heap.size, 0, none⟩) n n)) w') :
    wpList Tryz.prog ops Q (o :: rest) a w := by
  obtain ⟨i0, hi, hz0, hz1, hz2⟩ := info_parts infoGuess
  refine wpList_make_full w hg l c 28 hop w.heap.size 39 i0 (.agg #[.slice none 0 0, .int .i64 0, .int .i64 0]) 3 Tryz.underlying28 hi hz0 hz1 .i64 .i64 L C n hl hc hL hC (by rw [hz2]; omega) (by unfold maxLen; omega) (Nat.le_refl _) ?_
  intro w' h1 h2
  refine hK w' (own_nilsG h1) ((Below.refl _ w).grown h2 (Nat.le_refl _) (by simp)) ?_
  exact (World.ownsRow.lt h1 _ rfl).2

theorem fill_step {gs : List Gs} {z : Gs} {k n : Nat} (h : k < gs.length) (hn : n = gs.length) : (gs.take k ++ List.replicate (n - k) z).set k gs[k] = gs.take (k + 1) ++ List.replicate (n - (k + 1)) z := by
  subst hn
  rw [List.take_succ_eq_append_getElem h, List.set_append_right _ _ (by rw [List.length_take]; omega)]
  have e : k - (gs.take k).length = 0 := by rw [List.length_take]; omega
  rw [e, show gs.length - k = (gs.length - (k + 1)) + 1 from by omega, List.replicate_succ, List.set_cons_zero, List.append_assoc]
  rfl

theorem set_seenG (w : World) (g i j : Nat) (u u0 : Value) (h : w.cell? ⟨g, j, none⟩ = some u0) (hn : i ≠ j) : (w.setCell ⟨g, i, none⟩ u).cell? ⟨g, j, none⟩ = some u0 := by
  have hg := World.block_lt_of_cell? w _ h
  simp only [World.cell?, World.setCell] at h ⊢
  rw [Array.getElem?_modify]
  simp only [if_true]
  cases hb : w.heap[g]? with
  | none => rw [hb] at h; simp at h
  | some o =>
    rw [hb] at h
    cases o with
    | cells cs t fr => simpa [Array.getElem?_setIfInBounds, hn] using h
    | _ => simp at h ⊢
theorem set_thawedG (w : World) (g i j : Nat) (u : Value) (h : w.frozen? ⟨g, j, none⟩ = false) : (w.setCell ⟨g, i, none⟩ u).frozen? ⟨g, j, none⟩ = false := by
  simp only [World.frozen?, World.setCell] at h ⊢
  rw [Array.getElem?_modify]
  simp only [if_true]
  cases hb : w.heap[g]? with
  | none => simp
  | some o =>
    rw [hb] at h
    cases o with
    | cells cs t fr => simpa using h
    | _ => simp at h ⊢

/-- A code that was just made lies apart from the others. -/
theorem OwnG.apartNew {B : Nat} {w w2 : World} {g n cap : Nat} {gs : List Gs} (h : OwnG B w (.slice (some ⟨g, 0, none⟩) n cap) gs) (hb : Below w.heap.size w w2) {u : Value} {x : List Int} (hu : OwnI w.heap.size w2 u x) (k : Nat) :
    ∀ i z, i < gs.length → i ≠ k → w2.cell? ⟨g, i * 3, none⟩ = some z → z.ownBlock = none ∨ u.ownBlock = none ∨ z.ownBlock ≠ u.ownBlock := by
  intro i z hi _ hz
  obtain ⟨ts, h1, h2, h3, h4⟩ := h.below hb
  obtain ⟨a, cap', e, _, _, h6⟩ := h1.opened
  obtain ⟨g', e', _, _, hcs, _⟩ := h6 (by omega)
  injection e with e1 _ _
  rw [e'] at e1
  injection e1 with e1
  injection e1 with e1 _
  subst e1
  have := (hcs i (by omega)).1
  rw [hz] at this
  have hzz : z = ts[i].1 := Option.some.inj this
  have := guess_old h hb hu ts h1 i (by omega)
  rw [← hzz] at this
  rcases this with q | q | q
  · exact .inr (.inl q)
  · exact .inl q
  · exact .inr (.inr q)

set_option maxHeartbeats 2000000 in
theorem toGuessS_any {B : Nat} (v : Value) (gs : List Gs) (w : World) (h : GL B w v gs) (hl : gs.length ≤ 2000000) (hc : ∀ g ∈ gs, g.code.length ≤ 1099511627776) :
    Calls Tryz.prog 74 #[v] w (FreshG gs w) := by
  obtain ⟨a, cap, V, rfl, hcap, hmax, hcells, hV⟩ := h
  go_enter Tryz.func74, Tryz.ntmps74
  go_wp2_with (at_make; refine wpList_make_guesses _ rfl _ _ rfl _ _ gs.length rfl rfl rfl rfl (by omega) ?_; intro w1 hown hb1 hs1; have HOWN := Lib.hid hown; have HB1 := Lib.hid hb1; clear hown hb1)
  go_loopw [4] (fun i wr => ∃ k : Nat, k ≤ gs.length ∧ i = .int .i64 k ∧ OwnG w.heap.size wr (.slice (some ⟨w.heap.size, 0, none⟩) gs.length gs.length) (gs.take k ++ List.replicate (gs.length - k) ⟨[], 0, 0⟩) ∧ Below w.heap.size w wr) (fun i _ => gs.length - (intOf i).toNat)
  case atStart => exact ⟨0, Nat.zero_le _, rfl, by simpa using HOWN.out, HB1.out⟩
  case round =>
    obtain ⟨k, hk, rfl, ho, hb⟩ := hrel
    obtain ⟨wk, rfl⟩ : ∃ x, x = wr := ⟨_, rfl⟩
    clear HOWN HB1
    by_cases hlt : k < gs.length
    · obtain ⟨b, off, rfl, _, hcs⟩ := hcells (by omega)
      obtain ⟨c1, c2, c3⟩ := hcs k hlt
      have d1 := (Above.of_below (B := 0) hb).cell (Nat.zero_le _) c1
      have d2 := (Above.of_below (B := 0) hb).cell (Nat.zero_le _) c2
      have d3 := (Above.of_below (B := 0) hb).cell (Nat.zero_le _) c3
      obtain ⟨av, cv, hvv, _⟩ := (hV k hlt).opened
      have hT := toGuess_any (V k) gs[k].code gs[k].right gs[k].near wk ((hV k hlt).below hb) (hc _ (List.getElem_mem hlt))
      have HST := Lib.hid (fill_step (z := ⟨[], 0, 0⟩) hlt rfl)
      have hlen : (gs.take k ++ List.replicate (gs.length - k) (⟨[], 0, 0⟩ : Gs)).length = gs.length := by simp; omega
      have HLE := Lib.hid hlen
      obtain ⟨x, hx⟩ : ∃ x, x = gs[k] := ⟨_, rfl⟩
      rw [← hx] at d2 d3 hT HST
      rw [hvv] at d1 hT
      rw [← hx] at d1 hT
      unfold gV at hT
      have HO := Lib.hid ho
      have HB := Lib.hid hb
      have hzk := hb.size
      have hi0 : (0 : Int) ≤ (k : Int) := by omega
      have hi1 : (k : Int) < (gs.length : Int) := by omega
      clear hcs hcells hV hvv hx ho hb c1 c2 c3 hlen
      go_wp2_with fail
      refine hT.mono ?_
      rintro e w3 ⟨a3, c3', rfl, ho3, hb3⟩
      unfold gV
      obtain ⟨g9, cap9, e9, _, _, _, _, hfz, hat⟩ := (HO.out.below hb3).opened (by rw [HLE.out]; omega)
      injection e9 with e9 e9b e9c
      clear e9b e9c
      injection e9 with e9
      injection e9 with e9 _
      subst e9
      obtain ⟨z, z1, _, z2, z3⟩ := hat k (by rw [HLE.out]; exact hlt)
      have hput := (HO.out.below hb3).put k (by rw [HLE.out]; exact hlt) (x := x) (ho3.mono hzk) (HO.out.apartNew hb3 ho3 k)
      rw [HST.out] at hput
      have hc2 := set_seenG w3 w.heap.size (k * 3) (k * 3 + 1) (.slice a3 x.code.length c3') _ z2 (by omega)
      have hc3 := set_seenG (w3.setCell ⟨w.heap.size, k * 3, none⟩ (.slice a3 x.code.length c3')) w.heap.size (k * 3 + 1) (k * 3 + 2) (.int .i64 x.right) _ (set_seenG w3 w.heap.size (k * 3) (k * 3 + 2) (.slice a3 x.code.length c3') _ z3 (by omega)) (by omega)
      have hf1 := hfz (k * 3)
      have hf2 := set_thawedG w3 w.heap.size (k * 3) (k * 3 + 1) (.slice a3 x.code.length c3') (hfz _)
      have hf3 := set_thawedG (w3.setCell ⟨w.heap.size, k * 3, none⟩ (.slice a3 x.code.length c3')) w.heap.size (k * 3 + 1) (k * 3 + 2) (.int .i64 x.right) (set_thawedG w3 w.heap.size (k * 3) (k * 3 + 2) (.slice a3 x.code.length c3') (hfz _))
      have HP := Lib.hid hput.1
      have HB3 := Lib.hid ((HB.out.trans (hb3.mono hzk)).grown hput.2 (Nat.le_trans hzk hb3.size) (fun q hq => by cases hq; exact Nat.le_refl _))
      clear hT ho3 hb3 hfz hat hput z2 z3
      go_wp2
      go_roundw
      case rel => exact ⟨k + 1, by omega, by go_num, HP.out, HB3.out⟩
      case measure => simp [intOf]; omega
    · have e : gs.take k ++ List.replicate (gs.length - k) (⟨[], 0, 0⟩ : Gs) = gs := by rw [List.take_of_length_le (by omega), show gs.length - k = 0 by omega]; simp
      rw [e] at ho
      have HO := Lib.hid ho
      have HB := Lib.hid hb
      have HC := Lib.hid hc
      clear e ho hb hcells hV hc
      go_wp2
      go_ret
      exact ⟨_, _, rfl, HO.out, HB.out⟩

end Go.Proofs.YtenlngclocfnlaaGreatDoor

/- Marks of lists of guesses; their sizes and comparisons. -/
namespace Go.Proofs.YtenlngclocfnlaaGreatDoor
open Go.RowKit
set_option linter.unusedVariables false
set_option maxRecDepth 100000

def markGs : List Gs → Int → List Gs
  | [], _ => []
  | g :: gs, k => ⟨markL g.code.length k, k + g.code.length, k + g.code.length + 1⟩ :: markGs gs (k + g.code.length + 2)
def endK : List Gs → Int → Int
  | [], k => k
  | g :: gs, k => endK gs (k + g.code.length + 2)
def totG : List Gs → Nat
  | [] => 0
  | g :: gs => g.code.length + 2 + totG gs
theorem endK_tot : ∀ (gs : List Gs) (k : Int), endK gs k = k + totG gs
  | [], k => by simp [endK, totG]
  | g :: gs, k => by rw [endK, endK_tot gs]; simp only [totG]; push_cast; omega
theorem endK_app : ∀ (a b : List Gs) (k : Int), endK (a ++ b) k = endK b (endK a k)
  | [], b, k => rfl
  | g :: a, b, k => by simp only [List.cons_append, endK]; exact endK_app a b _
theorem markGs_app : ∀ (a b : List Gs) (k : Int), markGs (a ++ b) k = markGs a k ++ markGs b (endK a k)
  | [], b, k => rfl
  | g :: a, b, k => by simp only [List.cons_append, markGs, endK]; rw [markGs_app a b]
@[simp] theorem markGs_length : ∀ (gs : List Gs) (k : Int), (markGs gs k).length = gs.length
  | [], _ => rfl
  | g :: gs, k => by simp [markGs, markGs_length gs]
theorem endK_next {gs : List Gs} {k : Nat} (h : k < gs.length) (m : Int) : endK (gs.take (k + 1)) m = endK (gs.take k) m + gs[k].code.length + 2 := by
  rw [List.take_succ_eq_append_getElem h, endK_app]; rfl
theorem markGs_next {gs : List Gs} {k : Nat} (h : k < gs.length) (m : Int) : markGs (gs.take (k + 1)) m ++ gs.drop (k + 1) =
    (markGs (gs.take k) m ++ gs.drop k).set k ⟨markL gs[k].code.length (endK (gs.take k) m), endK (gs.take k) m + gs[k].code.length, endK (gs.take k) m + gs[k].code.length + 1⟩ := by
  rw [List.take_succ_eq_append_getElem h, markGs_app, List.set_append_right _ _ (by simp; omega)]
  have e : k - (markGs (gs.take k) m).length = 0 := by simp; omega
  rw [e, List.drop_eq_getElem_cons h, List.set_cons_zero]
  simp [markGs]
theorem markGs_at {gs : List Gs} {k : Nat} (h : k < gs.length) (m : Int) (h' : k < (markGs (gs.take k) m ++ gs.drop k).length) : (markGs (gs.take k) m ++ gs.drop k)[k] = gs[k] := by
  rw [List.getElem_append_right (by simp; omega)]
  simp only [List.getElem_drop]
  congr 1
  simp; omega
theorem totG_take_le : ∀ (gs : List Gs) (k : Nat), totG (gs.take k) ≤ totG gs
  | [], k => by simp [totG]
  | g :: gs, 0 => by simp [totG]
  | g :: gs, k + 1 => by simp only [List.take_succ_cons, totG]; have := totG_take_le gs k; omega
theorem totG_next {gs : List Gs} {k : Nat} (h : k < gs.length) : totG (gs.take k) + gs[k].code.length + 2 ≤ totG gs := by
  have h1 := totG_take_le gs (k + 1)
  have h2 := endK_next h 0
  rw [endK_tot, endK_tot] at h2
  omega

def MarkedG (B C : Nat) (v : Value) (gs : List Gs) (m : Int) (w : World) (e : Ending) (w' : World) : Prop :=
  e = .returned (.int .i64 (endK gs m)) ∧ OwnG B w' v (markGs gs m) ∧ Below B w w' ∧ ∀ b, C ≤ b → b < w.heap.size → w'.heap[b]? = w.heap[b]?

/-- The guesses lie in blocks below C. -/
def LowG (C : Nat) (w : World) (v : Value) (n : Nat) : Prop := ∀ g m cap, v = .slice (some ⟨g, 0, none⟩) m cap → 0 < n → g < C ∧ ∀ i z j, i < n → w.cell? ⟨g, i * 3, none⟩ = some z → z.ownBlock = some j → j < C
theorem OwnG.low {B : Nat} {w0 w : World} {v : Value} {gs : List Gs} (h : OwnG B w0 v gs) (hA : Above B w0 w) : LowG w0.heap.size w v gs.length := by
  intro g m cap hv hn
  have h' := h.keep hA
  obtain ⟨g1, c1, e1, hB, hlt, _, _, _, hat⟩ := h.opened hn
  obtain ⟨g2, c2, e2, _, _, _, _, _, hat2⟩ := h'.opened hn
  rw [hv] at e1 e2
  injection e1 with e1 _ _
  injection e1 with e1
  injection e1 with e1 _
  subst e1
  injection e2 with e2 _ _
  injection e2 with e2
  injection e2 with e2 _
  subst e2
  refine ⟨hlt, fun i z j hi hz hj => ?_⟩
  obtain ⟨u, q1, q2, _⟩ := hat i hi
  have := hA.cell (p := ⟨g, i * 3, none⟩) hB q1
  rw [hz] at this
  have e : z = u := Option.some.inj this
  subst e
  exact (World.ownsRow.lt q2 j hj).2

set_option maxHeartbeats 4000000 in
theorem markGuessS_any {B C : Nat} (v : Value) (gs : List Gs) (m : Int) (w : World) (h : OwnG B w v gs) (hlow : LowG C w v gs.length) (hBw : B ≤ w.heap.size) (h0 : 0 ≤ m) (h1 : m + totG gs ≤ 1099511627776) :
    Calls Tryz.prog 76 #[v, .int .i64 m] w (MarkedG B C v gs m w) := by
  by_cases hz : gs = []
  · subst hz
    have HO := Lib.hid h
    obtain ⟨a, cap, rfl, _⟩ := h.shape
    clear h hlow
    go_enter Tryz.func76, Tryz.ntmps76
    go_wp2
    refine wp_loop_rounds 1 ?_; rw [rounds_succ]
    go_wp2
    go_ret
    exact ⟨rfl, HO.out, Below.refl _ _, fun _ _ _ => rfl⟩
  · have hp : 0 < gs.length := List.length_pos_iff.2 hz
    obtain ⟨g, cap, rfl, hBg, hgs, hcap, hmax, _, hat0⟩ := h.opened hp
    obtain ⟨hgC, hlw⟩ := hlow g _ cap rfl hp
    have HLW := Lib.hid hlw
    have HO0 := Lib.hid h
    clear hlow hlw hat0 hz h
    go_enter Tryz.func76, Tryz.ntmps76
    go_wp2
    go_loopw [1, 5] (fun s i wr => ∃ k : Nat, k ≤ gs.length ∧ i = .int .i64 k ∧ s = .int .i64 (endK (gs.take k) m) ∧ OwnG B wr (.slice (some ⟨g, 0, none⟩) gs.length cap) (markGs (gs.take k) m ++ gs.drop k) ∧ Below B w wr ∧
      (∀ b, C ≤ b → b < w.heap.size → wr.heap[b]? = w.heap[b]?) ∧ ∀ i, i < gs.length → wr.cell? ⟨g, i * 3, none⟩ = w.cell? ⟨g, i * 3, none⟩) (fun _ i _ => gs.length - (intOf i).toNat)
    case atStart => exact ⟨0, Nat.zero_le _, rfl, by simp [endK], by simpa [markGs] using HO0.out, Below.refl _ _, fun _ _ _ => rfl, fun _ _ => rfl⟩
    case round =>
      obtain ⟨k, hk, rfl, rfl, ho, hb, hfar, hsame⟩ := hrel
      obtain ⟨wk, rfl⟩ : ∃ x, x = wr := ⟨_, rfl⟩
      clear HO0
      have hlen : (markGs (gs.take k) m ++ gs.drop k).length = gs.length := by simp; omega
      by_cases hlt : k < gs.length
      · obtain ⟨g9, cap9, e9, _, _, _, _, hfz, hat⟩ := ho.opened (by rw [hlen]; omega)
        injection e9 with e9 e9b e9c
        clear e9b e9c
        injection e9 with e9
        injection e9 with e9 _
        subst e9
        have hkl : k < (markGs (gs.take k) m ++ gs.drop k).length := by rw [hlen]; exact hlt
        obtain ⟨u, z1, zu, z2, z3⟩ := hat k hkl
        rw [markGs_at hlt] at zu z2 z3
        have htn := totG_next hlt
        have hem : endK (gs.take k) m = m + totG (gs.take k) := endK_tot _ _
        have hM := markIntS_any u gs[k].code (endK (gs.take k) m) wk zu (by omega) (by omega) (by omega)
        have HT := Lib.hid (fun (w2 : World) (ys : List Int) (hg : wk.grownBy w2 u.ownBlock) (hu : OwnI B w2 u ys) => ho.turn k hkl z1 hg hu)
        have hju : ∀ j, u.ownBlock = some j → j < C ∧ B ≤ j := fun j hj => ⟨HLW.out k u j hlt (by rw [← hsame k hlt]; exact z1) hj, (World.ownsRow.lt zu j hj).1⟩
        have hug : u.ownBlock ≠ some g := by
          obtain ⟨ts, t1, _⟩ := ho
          have := own_apart zu t1 (by decide)
          rcases this with q | q
          · rw [q]; simp
          · simpa [Value.ownBlock] using q
        have HNX := Lib.hid (endK_next hlt m)
        have HMN := Lib.hid (markGs_next hlt m)
        have HAT := Lib.hid (fun (h' : k < (markGs (gs.take k) m ++ gs.drop k).length) => markGs_at hlt m h')
        obtain ⟨au, cu, hus, _⟩ := own_shape zu
        obtain ⟨e, he⟩ : ∃ e, e = endK (gs.take k) m := ⟨_, rfl⟩
        rw [← he] at hM hem HNX HMN ⊢
        obtain ⟨n, hn⟩ : ∃ n, n = gs[k].code.length := ⟨_, rfl⟩
        rw [← hn] at hM hus htn HNX HMN
        subst hus
        have HB := Lib.hid hb
        have HFR := Lib.hid hfar
        have HSM := Lib.hid hsame
        have HJU := Lib.hid hju
        have HUG := Lib.hid hug
        have HLEN := Lib.hid hlen
        have hzk := hb.size
        have hk3 : (k : Int) < (gs.length : Int) := by omega
        have hk0 : (0 : Int) ≤ (k : Int) := by omega
        have he0 : 0 ≤ e := by omega
        have he1 : e + n + 2 ≤ 1099511627776 := by omega
        clear hfz hat zu hju hug hb hfar hsame ho he hn hlen hem htn
        go_wp2_with fail
        refine hM.mono ?_
        rintro e' w2 ⟨rfl, hu2, hg2⟩
        have hT := HT.out w2 _ hg2 hu2
        have hlen2 : ((markGs (gs.take k) m ++ gs.drop k).set k ⟨markL n e, (markGs (gs.take k) m ++ gs.drop k)[k]'hkl |>.right, (markGs (gs.take k) m ++ gs.drop k)[k]'hkl |>.near⟩).length = gs.length := by rw [List.length_set, HLEN.out]
        have htl := hT.tail k (by rw [hlen2]; exact hlt) (e + n) (e + n + 1)
        have hfin : (((markGs (gs.take k) m ++ gs.drop k).set k ⟨markL n e, (markGs (gs.take k) m ++ gs.drop k)[k]'hkl |>.right, (markGs (gs.take k) m ++ gs.drop k)[k]'hkl |>.near⟩).set k ⟨(((markGs (gs.take k) m ++ gs.drop k).set k ⟨markL n e, (markGs (gs.take k) m ++ gs.drop k)[k]'hkl |>.right, (markGs (gs.take k) m ++ gs.drop k)[k]'hkl |>.near⟩)[k]'(by rw [hlen2]; exact hlt)).code, e + n, e + n + 1⟩) = markGs (gs.take (k + 1)) m ++ gs.drop (k + 1) := by
          rw [HMN.out, List.set_set]
          simp
        rw [hfin] at htl
        obtain ⟨g8, cap8, e8, _, _, _, _, hfz, hat⟩ := hT.opened (by rw [hlen2]; omega)
        injection e8 with e8 e8b e8c
        clear e8b e8c
        injection e8 with e8
        injection e8 with e8 _
        subst e8
        obtain ⟨u8, y1, _, y2, y3⟩ := hat k (by rw [hlen2]; exact hlt)
        obtain ⟨r8, hr8⟩ : ∃ r8, w2.cell? ⟨g, k * 3 + 1, none⟩ = some (.int .i64 r8) := ⟨_, y2⟩
        obtain ⟨n8, hn8⟩ : ∃ n8, w2.cell? ⟨g, k * 3 + 2, none⟩ = some (.int .i64 n8) := ⟨_, y3⟩
        have hc3 := set_seenG w2 g (k * 3 + 1) (k * 3 + 2) (.int .i64 (e + n)) _ hn8 (by omega)
        have hf1 := hfz (k * 3 + 1)
        have hf2 := set_thawedG w2 g (k * 3 + 1) (k * 3 + 2) (.int .i64 (e + n)) (hfz _)
        have hsame2 : ∀ i, i < gs.length → ((w2.setCell ⟨g, k * 3 + 1, none⟩ (.int .i64 (e + n))).setCell ⟨g, k * 3 + 2, none⟩ (.int .i64 (e + n + 1))).cell? ⟨g, i * 3, none⟩ = w.cell? ⟨g, i * 3, none⟩ := fun i hi => by
          obtain ⟨ui, x1, _⟩ := hat i (by rw [hlen2]; exact hi)
          have x2 := set_seenG w2 g (k * 3 + 1) (i * 3) (.int .i64 (e + n)) _ x1 (by omega)
          have x3 := set_seenG _ g (k * 3 + 2) (i * 3) (.int .i64 (e + n + 1)) _ x2 (by omega)
          rw [x3, ← x1, ← HSM.out i hi]
          exact World.cell?_of_block (hg2.block g (by have := World.block_lt_of_cell? wk _ z1; exact this) (fun q => HUG.out q.symm))
        have hb2 := HB.out.grown hg2 (by omega) (fun j hj => (HJU.out j hj).2)
        have hz2 := hg2.size
        have HO2 := Lib.hid htl.1
        have HB2 := Lib.hid (hb2.grown htl.2 (by omega) (fun j hj => by cases hj; exact hBg))
        have HFR2 := Lib.hid (show ∀ b, C ≤ b → b < w.heap.size → ((w2.setCell ⟨g, k * 3 + 1, none⟩ (.int .i64 (e + n))).setCell ⟨g, k * 3 + 2, none⟩ (.int .i64 (e + n + 1))).heap[b]? = w.heap[b]? from fun b q1 q2 => by
          have hbw : b < wk.heap.size := by
            have := HFR.out b q1 q2
            rw [Array.getElem?_eq_getElem q2] at this
            exact (Array.getElem?_eq_some_iff.1 this).1
          rw [htl.2.block b (by omega) (fun q => by injection q with q; omega), hg2.block b hbw (fun q => by have := (HJU.out b q.symm).1; omega)]
          exact HFR.out b q1 q2)
        have HS2 := Lib.hid hsame2
        clear hM hT htl hfin hfz hat y1 y2 y3 hu2 hg2 hsame2 hb2
        go_wp2
        go_roundw
        case rel => exact ⟨k + 1, by omega, by go_num, by rw [HNX.out]; go_num, HO2.out, HB2.out, HFR2.out, HS2.out⟩
        case measure => simp [intOf]; omega
      · have e1 : gs.take k = gs := List.take_of_length_le (by omega)
        have e2 : gs.drop k = [] := List.drop_eq_nil_of_le (by omega)
        rw [e1, e2, List.append_nil] at ho
        rw [e1]
        have HO := Lib.hid ho
        have HB := Lib.hid hb
        have HFR := Lib.hid hfar
        clear e1 e2 ho hb hfar hsame hlen
        go_wp2
        go_ret
        exact ⟨rfl, HO.out, HB.out, HFR.out⟩

end Go.Proofs.YtenlngclocfnlaaGreatDoor

/- Lists of guesses: are the marks still there; how many cells; are two lists alike. -/
namespace Go.Proofs.YtenlngclocfnlaaGreatDoor
open Go.RowKit Go.Shelf
set_option linter.unusedVariables false
set_option maxRecDepth 100000

theorem markGs_get {gs : List Gs} {k : Nat} (h : k < gs.length) (m : Int) (h' : k < (markGs gs m).length) : (markGs gs m)[k] = ⟨markL gs[k].code.length (endK (gs.take k) m), endK (gs.take k) m + gs[k].code.length, endK (gs.take k) m + gs[k].code.length + 1⟩ := by
  have e : markGs gs m = markGs (gs.take k) m ++ markGs (gs.drop k) (endK (gs.take k) m) := by rw [← markGs_app, List.take_append_drop]
  rw [List.getElem_of_eq e, List.getElem_append_right (by rw [markGs_length, List.length_take]; omega)]
  have h2 := List.drop_eq_getElem_cons h
  have e2 : markGs (gs.drop k) (endK (gs.take k) m) = ⟨markL gs[k].code.length (endK (gs.take k) m), endK (gs.take k) m + gs[k].code.length, endK (gs.take k) m + gs[k].code.length + 1⟩ :: markGs (gs.drop (k + 1)) (endK (gs.take k) m + gs[k].code.length + 2) := by rw [h2]; rfl
  rw [List.getElem_of_eq e2]
  have e3 : k - (markGs (gs.take k) m).length = 0 := by simp; omega
  simp only [e3, List.getElem_cons_zero]
theorem markGs_in64 (gs : List Gs) (m : Int) (h0 : 0 ≤ m) (h1 : m + totG gs ≤ 1099511627776) : In64G (markGs gs m) := by
  intro x hx y hy
  obtain ⟨k, hk, rfl⟩ := List.getElem_of_mem hx
  have hk' : k < gs.length := by simpa using hk
  rw [markGs_get hk'] at hy
  have := totG_next hk'
  have := endK_tot (gs.take k) m
  simp only [markL, List.mem_map, List.mem_range] at hy
  obtain ⟨j, hj, rfl⟩ := hy
  unfold In64
  omega

theorem heldGuessS_any {B : Nat} (v : Value) (gs : List Gs) (m : Int) (w : World) (h : GL B w v (markGs gs m)) (h0 : 0 ≤ m) (h1 : m + totG gs ≤ 1099511627776) :
    Calls Tryz.prog 77 #[v, .int .i64 m] w fun e w' => e = .returned (.int .i64 (endK gs m)) ∧ w = w' := by
  obtain ⟨a, cap, V, rfl, hcap, hmax, hcells, hV⟩ := h
  have HG := Lib.hid (fun (k : Nat) (hk : k < gs.length) (h' : k < (markGs gs m).length) => markGs_get hk m h')
  simp only [markGs_length] at hcap hcells hV ⊢
  go_enter Tryz.func77, Tryz.ntmps77
  go_wp2
  go_loop [1, 5] (fun s i => ∃ (k : Nat), k ≤ gs.length ∧ i = .int .i64 k ∧ s = .int .i64 (endK (gs.take k) m)) (fun _ i => gs.length - (intOf i).toNat)
  case atStart => exact ⟨0, Nat.zero_le _, rfl, rfl⟩
  case round =>
    obtain ⟨k, hk, rfl, rfl⟩ := hrel
    by_cases hlt : k < gs.length
    · obtain ⟨b, off, rfl, _, hc⟩ := hcells (by omega)
      obtain ⟨c1, c2, c3⟩ := hc k hlt
      have hVk := hV k hlt
      rw [HG.out k hlt] at c2 c3 hVk
      have htn := totG_next hlt
      have hem := endK_tot (gs.take k) m
      have HNX := Lib.hid (endK_next hlt m)
      obtain ⟨e, he⟩ : ∃ e, e = endK (gs.take k) m := ⟨_, rfl⟩
      rw [← he] at c2 c3 hVk hem HNX ⊢
      obtain ⟨n, hn⟩ : ∃ n, n = gs[k].code.length := ⟨_, rfl⟩
      simp only [← hn] at c2 c3 hVk htn
      rw [← hn] at HNX
      have hH := heldIntS_any (V k) (markL n e) e w hVk (by omega) (by omega) (by simp; omega)
      rw [heldL_mark] at hH
      have he0 : 0 ≤ e := by omega
      have he1 : e + n + 2 ≤ 1099511627776 := by omega
      have hnn : ¬ (e + (n : Int) < 0) := by omega
      obtain ⟨av, cv, hvv, _⟩ := hVk.opened
      rw [show (markL n e).length = n by simp] at hvv
      rw [hvv] at c1 hH
      clear hcells hc hV hVk hvv hem htn he hn
      go_wp2_with fail
      refine hH.mono ?_
      rintro e2 w2 ⟨rfl, rfl⟩
      clear hH
      go_wp2
      go_round
      case rel => exact ⟨k + 1, by omega, by go_num, by rw [HNX.out]; go_num⟩
      case measure => simp [intOf]; omega
    · have e : gs.take k = gs := List.take_of_length_le (by omega)
      rw [e]
      clear e
      go_wp2
      go_ret
      exact ⟨rfl, rfl⟩

theorem szGuessS_any {B : Nat} (v : Value) (gs : List Gs) (l : Int) (w : World) (h : GL B w v gs) (h0 : 0 ≤ l) (h1 : l ≤ 1099511627776) :
    Calls Tryz.prog 73 #[v, .int .i64 l] w fun e w' => e = .returned (.int .i64 (szSS (gs.map Gs.code) l)) ∧ Below w.heap.size w w' := by
  obtain ⟨a, cap, V, rfl, hcap, hmax, hcells, hV⟩ := h
  by_cases hle : (gs.length : Int) ≤ l
  · have HS := Lib.hid (show szGo (gs.map Gs.code) (l - (gs.length : Int)) = szSS (gs.map Gs.code) l by unfold szSS; rw [List.length_map, if_pos hle])
    have hd : ¬ (l - (gs.length : Int) < 0) := by omega
    go_enter Tryz.func73, Tryz.ntmps73
    go_wp2
    go_loopw [1, 5] (fun s i wr => ∃ (k : Nat) (c : Int), k ≤ gs.length ∧ i = .int .i64 k ∧ s = .int .i64 c ∧ szGo ((gs.drop k).map Gs.code) c = szSS (gs.map Gs.code) l ∧ 0 ≤ c ∧ c ≤ l ∧ Below w.heap.size w wr) (fun _ i _ => gs.length - (intOf i).toNat)
    case atStart => exact ⟨0, _, Nat.zero_le _, rfl, rfl, by rw [← HS.out]; simp, by omega, by omega, Below.refl _ _⟩
    case round =>
      obtain ⟨k, c, hk, rfl, rfl, ht, hc0, hc1, hb⟩ := hrel
      obtain ⟨wk, rfl⟩ : ∃ x, x = wr := ⟨_, rfl⟩
      clear hd
      by_cases hlt : k < gs.length
      · obtain ⟨b, off, rfl, _, hc⟩ := hcells (by omega)
        obtain ⟨c1, c2, c3⟩ := hc k hlt
        have d1 := (Above.of_below (B := 0) hb).cell (Nat.zero_le _) c1
        have d2 := (Above.of_below (B := 0) hb).cell (Nat.zero_le _) c2
        have d3 := (Above.of_below (B := 0) hb).cell (Nat.zero_le _) c3
        obtain ⟨av, cv, hvv, _⟩ := (hV k hlt).opened
        have hH := szGuess_any (V k) gs[k].code gs[k].right gs[k].near c wk ((hV k hlt).below hb) hc0 (by omega)
        rw [List.drop_eq_getElem_cons hlt, List.map_cons, szGo] at ht
        rw [hvv] at d1 hH
        unfold gV at hH
        unfold szR at hH
        obtain ⟨n, hn⟩ : ∃ n, n = gs[k].code.length := ⟨_, rfl⟩
        obtain ⟨r, hr⟩ : ∃ r, r = gs[k].right := ⟨_, rfl⟩
        obtain ⟨nr, hnr⟩ : ∃ nr, nr = gs[k].near := ⟨_, rfl⟩
        rw [← hn] at hH ht d1
        rw [← hr] at hH d2
        rw [← hnr] at hH d3
        have hzk := hb.size
        have HB := Lib.hid hb
        clear hc hcells hV hvv c1 c2 c3 hn hr hnr hb
        by_cases hneg : (n : Int) ≤ c
        · rw [if_pos hneg] at ht hH
          have HT := Lib.hid ht
          have hnn : ¬ (c - (n : Int) < 0) := by omega
          clear ht
          go_wp2_with fail
          refine hH.mono ?_
          rintro e w2 ⟨rfl, hb2⟩
          have HB2 := Lib.hid (HB.out.trans (hb2.mono hzk))
          clear hH hb2
          go_wp2
          go_roundw
          case rel => exact ⟨k + 1, _, by omega, by go_num, rfl, HT.out, by omega, by omega, HB2.out⟩
          case measure => simp [intOf]; omega
        · rw [if_neg hneg] at ht hH
          have HT := Lib.hid ht
          clear ht
          go_wp2_with fail
          refine hH.mono ?_
          rintro e w2 ⟨rfl, hb2⟩
          have HB2 := Lib.hid (HB.out.trans (hb2.mono hzk))
          clear hH hb2
          go_wp2
          go_ret
          exact ⟨ret_int (by rw [← HT.out]), HB2.out⟩
      · have e : gs.drop k = [] := List.drop_eq_nil_of_le (by omega)
        rw [e, List.map_nil, szGo] at ht
        have HT := Lib.hid ht
        have HB := Lib.hid hb
        clear ht e hb
        go_wp2
        go_ret
        exact ⟨ret_int (by rw [← HT.out]), HB.out⟩
  · have HS := Lib.hid (show szSS (gs.map Gs.code) l = -1 by unfold szSS; rw [List.length_map, if_neg hle])
    have hd : l - (gs.length : Int) < 0 := by omega
    go_enter Tryz.func73, Tryz.ntmps73
    go_wp2
    go_ret
    exact ⟨ret_int (by rw [HS.out]), Below.refl _ _⟩

set_option maxHeartbeats 2000000 in
theorem eqGuessS_self {B C : Nat} (v v' : Value) (gs : List Gs) (w : World) (h : GL B w v gs) (h' : GL C w v' gs) :
    Calls Tryz.prog 75 #[v, v'] w fun e w' => e = .returned (.bool true) ∧ Below w.heap.size w w' := by
  obtain ⟨a, cap, V, rfl, hcap, hmax, hcells, hV⟩ := h
  obtain ⟨a', cap', V', rfl, hcap', hmax', hcells', hV'⟩ := h'
  go_enter Tryz.func75, Tryz.ntmps75
  go_wp2
  go_loopw [5] (fun i wr => ∃ k : Nat, k ≤ gs.length ∧ i = .int .i64 k ∧ Below w.heap.size w wr) (fun i _ => gs.length - (intOf i).toNat)
  case atStart => exact ⟨0, Nat.zero_le _, rfl, Below.refl _ _⟩
  case round =>
    obtain ⟨k, hk, rfl, hb⟩ := hrel
    obtain ⟨wk, rfl⟩ : ∃ x, x = wr := ⟨_, rfl⟩
    by_cases hlt : k < gs.length
    · obtain ⟨b, off, rfl, _, hc⟩ := hcells (by omega)
      obtain ⟨b', off', rfl, _, hc'⟩ := hcells' (by omega)
      obtain ⟨c1, c2, c3⟩ := hc k hlt
      obtain ⟨e1, e2, e3⟩ := hc' k hlt
      obtain ⟨av, cv, hvv, _⟩ := (hV k hlt).opened
      obtain ⟨av', cv', hvv', _⟩ := (hV' k hlt).opened
      have hVk := hV k hlt
      have hVk' := hV' k hlt
      obtain ⟨x, hx⟩ : ∃ x, x = gs[k] := ⟨_, rfl⟩
      rw [← hx] at c2 c3 e2 e3 hvv hvv' hVk hVk'
      rw [hvv] at c1 hVk
      rw [hvv'] at e1 hVk'
      have K1 : ∀ z : GrownC wk, z.val.cell? ⟨b, off + k * 3, none⟩ = some (.slice av x.code.length cv) := fun z => (Above.of_below (B := 0) (hb.trans (z.ok.mono hb.size))).cell (Nat.zero_le _) c1
      have K2 : ∀ z : GrownC wk, z.val.cell? ⟨b, off + k * 3 + 1, none⟩ = some (.int .i64 x.right) := fun z => (Above.of_below (B := 0) (hb.trans (z.ok.mono hb.size))).cell (Nat.zero_le _) c2
      have K3 : ∀ z : GrownC wk, z.val.cell? ⟨b, off + k * 3 + 2, none⟩ = some (.int .i64 x.near) := fun z => (Above.of_below (B := 0) (hb.trans (z.ok.mono hb.size))).cell (Nat.zero_le _) c3
      have L1 : ∀ z : GrownC wk, z.val.cell? ⟨b', off' + k * 3, none⟩ = some (.slice av' x.code.length cv') := fun z => (Above.of_below (B := 0) (hb.trans (z.ok.mono hb.size))).cell (Nat.zero_le _) e1
      have L2 : ∀ z : GrownC wk, z.val.cell? ⟨b', off' + k * 3 + 1, none⟩ = some (.int .i64 x.right) := fun z => (Above.of_below (B := 0) (hb.trans (z.ok.mono hb.size))).cell (Nat.zero_le _) e2
      have L3 : ∀ z : GrownC wk, z.val.cell? ⟨b', off' + k * 3 + 2, none⟩ = some (.int .i64 x.near) := fun z => (Above.of_below (B := 0) (hb.trans (z.ok.mono hb.size))).cell (Nat.zero_le _) e3
      have hC : ∀ z : GrownC wk, Calls Tryz.prog 118 #[.agg #[.slice av x.code.length cv, .int .i64 x.right, .int .i64 x.near], .agg #[.slice av' x.code.length cv', .int .i64 x.right, .int .i64 x.near]] z.val (fun e w'' => e = .returned (.bool true) ∧ ∃ z' : GrownC wk, w'' = z'.val) := fun z =>
        (eqGuess_any _ _ x.code x.code x.right x.near x.right x.near z.val (hVk.below (hb.trans (z.ok.mono hb.size))) (hVk'.below (hb.trans (z.ok.mono hb.size)))).mono (fun e w'' ⟨he, hbb⟩ => ⟨by rw [he]; simp, ⟨w'', z.ok.trans (hbb.mono z.ok.size)⟩, rfl⟩)
      have HB := Lib.hid hb
      have hk0 : (0 : Int) ≤ (k : Int) := by omega
      have hk1 : (k : Int) < (gs.length : Int) := by omega
      clear hc hc' hcells hcells' hV hV' hvv hvv' hVk hVk' hx hb c1 c2 c3 e1 e2 e3
      go_wp2
      refine wp_region_grownC (by kernel_rfl) (by kernel_rfl) ?_
      repeat (first | go_big_quiet_skip | (go_big_quiet_want; go_big_quiet_op; first | go_big_quiet_on | go_big_quiet_call ((go_at_call 118; exact hC _))))
      refine wpQuiet_nil ?_
      intro w8 hw8
      obtain ⟨z8, hz8⟩ := hw8
      have HB8 := Lib.hid (HB.out.trans (z8.ok.mono HB.out.size))
      rw [← hz8] at HB8
      clear hz8
      go_wp2
      go_roundw
      case rel => exact ⟨k + 1, by omega, by go_num, HB8.out⟩
      case measure => simp [intOf]; omega
    · have HB := Lib.hid hb
      clear hcells hcells' hV hV' hb
      go_wp2
      go_ret
      exact ⟨rfl, HB.out⟩

end Go.Proofs.YtenlngclocfnlaaGreatDoor

/- Desks: sizes, copies, comparisons, marks. -/
namespace Go.Proofs.YtenlngclocfnlaaGreatDoor
open Go.RowKit Go.Shelf
set_option linter.unusedVariables false
set_option maxRecDepth 100000

theorem szDesk_any {B : Nat} (p c : Int) (v : Value) (gs : List Gs) (l : Int) (w : World) (h : GL B w v gs) (h0 : 0 ≤ l) (h1 : l ≤ 1099511627776) :
    Calls Tryz.prog 28 #[dkV p c v, .int .i64 l] w fun e w' => e = .returned (.int .i64 (szSS (gs.map Gs.code) l)) ∧ Below w.heap.size w w' := by
  have hsh : ∃ a cap, v = .slice a gs.length cap := by obtain ⟨a, cap, _, hv, _⟩ := h; exact ⟨a, cap, hv⟩
  obtain ⟨a, cap, rfl⟩ := hsh
  have hb1 : Below w.heap.size w (w.alloc (.cells #[.int .i64 p, .int .i64 c, .slice a gs.length cap] 57)) := (Below.refl _ _).alloc (Nat.le_refl _) _
  have hS := szGuessS_any _ gs l _ (h.below hb1) h0 h1
  have hge := szSS_ge (gs.map Gs.code) l h0
  have HB1 := Lib.hid hb1
  unfold dkV
  obtain ⟨r, hr⟩ : ∃ r, r = szSS (gs.map Gs.code) l := ⟨_, rfl⟩
  rw [← hr] at hS hge ⊢
  clear h hb1 hr
  by_cases hn : r < 0
  · obtain rfl : r = -1 := by omega
    go_enter Tryz.func28, Tryz.ntmps28
    go_wp2_with fail
    refine hS.mono ?_
    rintro e w2 ⟨rfl, hb2⟩
    have HB2 := Lib.hid (HB1.out.trans (hb2.mono HB1.out.size))
    clear hS hb2
    go_wp2
    go_ret
    exact ⟨rfl, HB2.out⟩
  · go_enter Tryz.func28, Tryz.ntmps28
    go_wp2_with fail
    refine hS.mono ?_
    rintro e w2 ⟨rfl, hb2⟩
    have HB2 := Lib.hid (HB1.out.trans (hb2.mono HB1.out.size))
    clear hS hb2
    go_wp2
    go_ret
    exact ⟨rfl, HB2.out⟩

theorem eqDesk_self {B C : Nat} (p c : Int) (v v' : Value) (gs : List Gs) (w : World) (h : GL B w v gs) (h' : GL C w v' gs) :
    Calls Tryz.prog 30 #[dkV p c v, dkV p c v'] w fun e w' => e = .returned (.bool true) ∧ Below w.heap.size w w' := by
  have hsh : ∃ a cap, v = .slice a gs.length cap := by obtain ⟨a, cap, _, hv, _⟩ := h; exact ⟨a, cap, hv⟩
  obtain ⟨a, cap, rfl⟩ := hsh
  have hsh : ∃ a cap, v' = .slice a gs.length cap := by obtain ⟨a, cap, _, hv, _⟩ := h'; exact ⟨a, cap, hv⟩
  obtain ⟨a', cap', rfl⟩ := hsh
  have hb1 : Below w.heap.size w ((w.alloc (.cells #[.int .i64 p, .int .i64 c, .slice a gs.length cap] 30)).alloc (.cells #[.int .i64 p, .int .i64 c, .slice a' gs.length cap'] 30)) := ((Below.refl _ _).alloc (Nat.le_refl _) _).alloc (by simp) _
  have hE := eqGuessS_self _ _ gs _ (h.below hb1) (h'.below hb1)
  have HB1 := Lib.hid hb1
  have e1 : (p != p) = false := by simp
  have e2 : (c != c) = false := by simp
  unfold dkV
  clear h h' hb1
  go_enter Tryz.func30, Tryz.ntmps30
  go_wp2_with fail
  refine hE.mono ?_
  rintro e w2 ⟨rfl, hb2⟩
  have HB2 := Lib.hid (HB1.out.trans (hb2.mono HB1.out.size))
  clear hE hb2
  go_wp2
  go_ret
  exact ⟨rfl, HB2.out⟩

theorem heldDesk_any {B : Nat} (p c : Int) (v : Value) (gs : List Gs) (m : Int) (w : World) (h : GL B w v (markGs gs m)) (h0 : 0 ≤ m) (h1 : m + totG gs ≤ 1099511627776) :
    Calls Tryz.prog 32 #[dkV p c v, .int .i64 m] w fun e w' => e = .returned (.int .i64 (endK gs m)) ∧ Below w.heap.size w w' := by
  have hsh : ∃ a n cap, v = .slice a n cap := by obtain ⟨a, cap, _, hv, _⟩ := h; exact ⟨a, _, cap, hv⟩
  obtain ⟨a, n, cap, rfl⟩ := hsh
  have hb1 : Below w.heap.size w (w.alloc (.cells #[.int .i64 p, .int .i64 c, .slice a n cap] 30)) := (Below.refl _ _).alloc (Nat.le_refl _) _
  have hE := heldGuessS_any _ gs m _ (h.below hb1) h0 h1
  have HB1 := Lib.hid hb1
  have hnn : ¬ endK gs m < 0 := by rw [endK_tot]; omega
  unfold dkV
  obtain ⟨r, hr⟩ : ∃ r, r = endK gs m := ⟨_, rfl⟩
  rw [← hr] at hE hnn ⊢
  clear h hb1 hr
  go_enter Tryz.func32, Tryz.ntmps32
  go_wp2_with fail
  refine hE.mono ?_
  rintro e w2 ⟨rfl, rfl⟩
  clear hE
  go_wp2
  go_ret
  exact ⟨rfl, HB1.out⟩

theorem markDesk_any {B C : Nat} (p c : Int) (v : Value) (gs : List Gs) (m : Int) (w : World) (h : OwnG B w v gs) (hlow : LowG C w v gs.length) (hBw : B ≤ w.heap.size) (h0 : 0 ≤ m) (h1 : m + totG gs ≤ 1099511627776) :
    Calls Tryz.prog 31 #[dkV p c v, .int .i64 m] w (MarkedG B C v gs m w) := by
  obtain ⟨a, cap, rfl, _⟩ := h.shape
  have hb1 : Below w.heap.size w (w.alloc (.cells #[.int .i64 p, .int .i64 c, .slice a gs.length cap] 30)) := (Below.refl _ _).alloc (Nat.le_refl _) _
  have hlow1 : LowG C (w.alloc (.cells #[.int .i64 p, .int .i64 c, .slice a gs.length cap] 30)) (.slice a gs.length cap) gs.length := by
    intro g m cap' e hp
    obtain ⟨q1, q2⟩ := hlow g m cap' e hp
    refine ⟨q1, fun i z j hi hz hj => ?_⟩
    obtain ⟨g', cap9, e9, _, _, _, _, _, hat⟩ := h.opened hp
    rw [e] at e9
    injection e9 with e9 _ _
    injection e9 with e9
    injection e9 with e9 _
    subst e9
    obtain ⟨u, u1, u2, _⟩ := hat i hi
    have := (Above.of_below (B := 0) hb1).cell (Nat.zero_le _) u1
    rw [hz] at this
    obtain rfl := Option.some.inj this
    exact q2 i _ j hi u1 hj
  have hM := markGuessS_any _ gs m _ (h.below hb1) hlow1 (by simp; omega) h0 h1
  have HB1 := Lib.hid hb1
  have HBW := Lib.hid hBw
  unfold dkV
  clear h hb1 hlow1 hlow hBw
  go_enter Tryz.func31, Tryz.ntmps31
  go_wp2_with fail
  refine hM.mono ?_
  rintro e w2 ⟨rfl, ho2, hb2, hf2⟩
  have HO2 := Lib.hid ho2
  have HB2 := Lib.hid ((HB1.out.mono HBW.out).trans hb2)
  have HF2 := Lib.hid (show ∀ b, C ≤ b → b < w.heap.size → w2.heap[b]? = w.heap[b]? from fun b q1 q2 => by rw [hf2 b q1 (by simp; omega)]; exact HB1.out.block b q2)
  clear hM ho2 hb2 hf2
  go_wp2
  go_ret
  exact ⟨rfl, HO2.out, HB2.out, HF2.out⟩

end Go.Proofs.YtenlngclocfnlaaGreatDoor

/- Copies of desks. -/
namespace Go.Proofs.YtenlngclocfnlaaGreatDoor
open Go.RowKit
set_option linter.unusedVariables false
set_option maxRecDepth 100000

/-- A desk whose guesses lie in new memory. -/
def DeskOut (p c : Int) (gs : List Gs) (w : World) (e : Ending) (w' : World) : Prop :=
  ∃ a cap, e = .returned (dkV p c (.slice a gs.length cap)) ∧ OwnG w.heap.size w' (.slice a gs.length cap) gs ∧ Below w.heap.size w w'

set_option maxHeartbeats 1000000 in
theorem toDesk_any {B : Nat} (p c : Int) (v : Value) (gs : List Gs) (w : World) (h : GL B w v gs) (hl : gs.length ≤ 2000000) (hc : ∀ g ∈ gs, g.code.length ≤ 1099511627776) :
    Calls Tryz.prog 29 #[dkV p c v] w (DeskOut p c gs w) := by
  have hsh : ∃ a cap, v = .slice a gs.length cap := by obtain ⟨a, cap, _, hv, _⟩ := h; exact ⟨a, cap, hv⟩
  obtain ⟨a, cap, rfl⟩ := hsh
  obtain ⟨w1, hw1⟩ : ∃ w1, w1 = ((w.alloc (.cells #[.int .i64 p, .int .i64 c, .slice a gs.length cap] 57)).alloc (.cells #[.int .i64 0, .int .i64 0, .slice none 0 0] 30)).alloc (.cells #[.int .i64 p, .int .i64 c, .slice none 0 0] 30) := ⟨_, rfl⟩
  have hb1 : Below w.heap.size w w1 := by rw [hw1]; exact (((Below.refl _ _).alloc (Nat.le_refl _) _).alloc (by simp) _).alloc (by simp; omega) _
  have hs1 : w1.heap.size = w.heap.size + 3 := by rw [hw1]; simp
  have hT := toGuessS_any _ gs w1 (h.below hb1) hl hc
  rw [hw1] at hT
  have HB1 := Lib.hid hb1
  have HW1 := Lib.hid hw1
  have HS1 := Lib.hid hs1
  unfold dkV
  clear h hb1 hs1 hw1 hl hc
  go_enter Tryz.func29, Tryz.ntmps29
  go_wp2_with fail
  refine hT.mono ?_
  rintro e w2 ⟨a2, c2, rfl, ho2, hb2⟩
  rw [← HW1.out] at ho2 hb2
  have hg1 : w2.heap[w.heap.size + 1]? = some (.cells #[.int .i64 0, .int .i64 0, .slice none 0 0] 30 (0, 0)) := by
    rw [hb2.block _ (by have := HS1.out; omega), HW1.out, heap_alloc_old _ _ (by simp; try omega)]; have q := @Go.heap_alloc_new (w.alloc (.cells #[.int .i64 p, .int .i64 c, .slice a gs.length cap] 57)) (.cells #[.int .i64 0, .int .i64 0, .slice none 0 0] 30); rw [World.size_alloc] at q; exact q
  have hg2 : w2.heap[w.heap.size + 2]? = some (.cells #[.int .i64 p, .int .i64 c, .slice none 0 0] 30 (0, 0)) := by
    rw [hb2.block _ (by have := HS1.out; omega), HW1.out]; have q := @Go.heap_alloc_new ((w.alloc (.cells #[.int .i64 p, .int .i64 c, .slice a gs.length cap] 57)).alloc (.cells #[.int .i64 0, .int .i64 0, .slice none 0 0] 30)) (.cells #[.int .i64 p, .int .i64 c, .slice none 0 0] 30); rw [World.size_alloc, World.size_alloc] at q; exact q
  have d0 := cell_of_row _ _ 0 _ _ (0, 0) hg1
  have d1 := cell_of_row _ _ 1 _ _ (0, 0) hg1
  have d2 := cell_of_row _ _ 2 _ _ (0, 0) hg1
  have e0 := cell_of_row _ _ 0 _ _ (0, 0) hg2
  have e1 := cell_of_row _ _ 1 _ _ (0, 0) hg2
  have e2 := cell_of_row _ _ 2 _ _ (0, 0) hg2
  have k1 : ∀ j, w2.frozen? ⟨w.heap.size + 1, j, none⟩ = false := fun j => frozen_of_row _ _ j _ _ hg1
  have k2 : ∀ j, w2.frozen? ⟨w.heap.size + 2, j, none⟩ = false := fun j => frozen_of_row _ _ j _ _ hg2
  simp at d0 d1 d2 e0 e1 e2
  clear hT
  go_wp2
  have HO2 := Lib.hid ho2
  have HB2 := Lib.hid (HB1.out.trans (hb2.mono HB1.out.size))
  have hs1 := HS1.out
  have q3 : (w2.setCell ⟨w.heap.size + 1 + 1, 2, none⟩ (.slice a2 gs.length c2)).heap[w.heap.size + 1]? = some (.cells #[.int .i64 0, .int .i64 0, .slice none 0 0] 30 (0, 0)) := by
    rw [heap_setCell_other _ _ _ _ (by simp)]; exact hg1
  have q6 := heap_setCell_same _ _ 2 _ _ (.slice a2 gs.length c2) (heap_setCell_same _ _ 1 _ _ (.int .i64 c) (heap_setCell_same _ _ 0 _ _ (.int .i64 p) q3))
  ((try simp only [Exit.inBlock, Exit.then]); refine bodyPost_ret (results_cell_row rfl _ _ (w.heap.size + 1) _ _ (0, 0) _ rfl q6 Tryz.underlying30 rfl (by kernel_rfl)) rfl ?_)
  refine ⟨a2, c2, rfl, (HO2.out.keep (fun b hb hlt => ?_)).mono (by omega), ?_⟩
  · rw [heap_setCell_other _ _ _ _ (by simp; omega), heap_setCell_other _ _ _ _ (by simp; omega), heap_setCell_other _ _ _ _ (by simp; omega), heap_setCell_other _ _ _ _ (by simp; omega)]
  · exact (((HB2.out.setCell (p := ⟨w.heap.size + 1 + 1, 2, none⟩) (by simp; omega) _).setCell (p := ⟨w.heap.size + 1, 0, none⟩) (by simp) _).setCell (p := ⟨w.heap.size + 1, 1, none⟩) (by simp) _).setCell (p := ⟨w.heap.size + 1, 2, none⟩) (by simp) _

end Go.Proofs.YtenlngclocfnlaaGreatDoor
