/- Copies of lists of guesses. -/
import Derived.Test.YtenlngclocfnlaaDoorBunG
import Derived.Test.YtenlngclocfnlaaDoorBunF
import Derived.Test.YtenlngclocfnlaaDoorBunK
import Derived.Test.YtenlngclocfnlaaDoorBunE
/- Copies of lists of guesses. -/
namespace Go.Proofs.YtenlngclocfnlaaDoor
open Go.RowKit
set_option linter.unusedVariables false
set_option maxRecDepth 100000

def FreshG (gs : List Gs) (w : World) (e : Ending) (w' : World) : Prop := ∃ a cap, e = .returned (.slice a gs.length cap) ∧ OwnG w.heap.size w' (.slice a gs.length cap) gs ∧ Below w.heap.size w w'

theorem cells_nils (n : Nat) : (madeCells #[Value.slice none 0 0, .int .i64 0, .int .i64 0] (n * 3)).toList = cellsT (List.replicate n (.slice none 0 0, 0, 0)) := by
  have hl : (cellsT (List.replicate n (Value.slice none 0 0, (0 : Int), (0 : Int)))).length = n * 3 := by rw [cellsT_length]; simp
  refine List.ext_getElem (by rw [hl]; simp [madeCells]) fun i h1 h2 => ?_
  have hi : i < n * 3 := by rw [hl] at h2; exact h2
  obtain ⟨q1, q2, q3⟩ := cellsT_get (List.replicate n (Value.slice none 0 0, (0 : Int), (0 : Int))) (i / 3) (by simp; omega)
  have hm : i % 3 = 0 ∨ i % 3 = 1 ∨ i % 3 = 2 := by omega
  have hg := List.getElem?_eq_getElem h2
  rcases hm with m | m | m
  · rw [show i / 3 * 3 = i by omega, hg] at q1
    rw [Option.some.inj q1]
    simp [madeCells, m]
  · rw [show i / 3 * 3 + 1 = i by omega, hg] at q2
    rw [Option.some.inj q2]
    simp [madeCells, m]
  · rw [show i / 3 * 3 + 2 = i by omega, hg] at q3
    rw [Option.some.inj q3]
    simp [madeCells, m]

theorem own_nilsG {w : World} {B n : Nat} {v : Value} (h : w.ownsRow B 24 3 v n (madeCells (Value.agg #[.slice none 0 0, .int .i64 0, .int .i64 0]).cells (n * 3)).toList) : OwnG B w v (List.replicate n ⟨[], 0, 0⟩) := by
  rw [show (Value.agg #[.slice none 0 0, .int .i64 0, .int .i64 0]).cells = #[.slice none 0 0, .int .i64 0, .int .i64 0] from rfl, cells_nils] at h
  refine ⟨List.replicate n (.slice none 0 0, 0, 0), ?_, by simp, fun i hi hi' => ?_, fun i j hi hj _ => ?_⟩
  · unfold OwnT
    simpa using h
  · simp only [List.getElem_replicate]
    exact ⟨OwnI.empty B w, trivial, trivial⟩
  · left
    simp [Value.ownBlock]

/-- 'make([]Guess, n)'. -/
theorem wpList_make_guesses (w : World) {ops : Array Oper} {rest : List Oper} {o : Oper} {a : Act} {Q : Exit → Act → World → Prop}
    (hg : o.guard = none) (l c : Operand) (hop : o.op = Op.makeSlice 59 l c)
    (L C : Int) (n : Nat) (hl : a.eval l = .int .i64 L) (hc : a.eval c = .int .i64 C) (hL : L = (n : Int)) (hC : C = (n : Int)) (b2 : n ≤ 10000000000)
    (hK : ∀ w', OwnG w.heap.size w' (.slice (some ⟨w.heap.size, 0, none⟩) n n) (List.replicate n ⟨[], 0, 0⟩) → Below w.heap.size w w' → w.heap.size < w'.heap.size →
      wpList Tryd.prog ops Q rest (a.put o.dst (.slice (some ⟨w.heap.size, 0, none⟩) n n)) w') :
    wpList Tryd.prog ops Q (o :: rest) a w := by
  obtain ⟨i0, hi, hz0, hz1, hz2⟩ := info_parts infoGuess
  refine wpList_make_full w hg l c 59 hop w.heap.size 24 i0 (.agg #[.slice none 0 0, .int .i64 0, .int .i64 0]) 3 Tryd.underlying59 hi hz0 hz1 .i64 .i64 L C n hl hc hL hC (by rw [hz2]; omega) (by unfold maxLen; omega) (Nat.le_refl _) ?_
  intro w' h1 h2
  refine hK w' (own_nilsG h1) ((Below.refl _ w).grown h2 (Nat.le_refl _) (by simp)) ?_
  exact (World.ownsRow.lt h1 _ rfl).2

theorem fill_step {gs : List Gs} {z : Gs} {k n : Nat} (h : k < gs.length) (hn : n = gs.length) : (gs.take k ++ List.replicate (n - k) z).set k gs[k] = gs.take (k + 1) ++ List.replicate (n - (k + 1)) z := by
  subst hn
  rw [List.take_succ_eq_append_getElem h, List.set_append_right _ _ (by rw [List.length_take]; omega)]
  have e : k - (gs.take k).length = 0 := by rw [List.length_take]; omega
  rw [e, show gs.length - k = (gs.length - (k + 1)) + 1 from by omega, List.replicate_succ, List.set_cons_zero, List.append_assoc]
  rfl

theorem set_seenG (w : World) (g i j : Nat) (u u0 : Value) (h : w.cell? ⟨g, j, none⟩ = some u0) (hn : i ≠ j) : (w.setCell ⟨g, i, none⟩ u).cell? ⟨g, j, none⟩ = some u0 := by
  have hg := World.block_lt_of_cell? w _ h
  simp only [World.cell?, World.setCell] at h ⊢
  rw [Array.getElem?_modify]
  simp only [if_true]
  cases hb : w.heap[g]? with
  | none => rw [hb] at h; simp at h
  | some o =>
    rw [hb] at h
    cases o with
    | cells cs t fr => simpa [Array.getElem?_setIfInBounds, hn] using h
    | _ => simp at h ⊢
theorem set_thawedG (w : World) (g i j : Nat) (u : Value) (h : w.frozen? ⟨g, j, none⟩ = false) : (w.setCell ⟨g, i, none⟩ u).frozen? ⟨g, j, none⟩ = false := by
  simp only [World.frozen?, World.setCell] at h ⊢
  rw [Array.getElem?_modify]
  simp only [if_true]
  cases hb : w.heap[g]? with
  | none => simp
  | some o =>
    rw [hb] at h
    cases o with
    | cells cs t fr => simpa using h
    | _ => simp at h ⊢

/-- A code that was just made lies apart from the others. -/
theorem OwnG.apartNew {B : Nat} {w w2 : World} {g n cap : Nat} {gs : List Gs} (h : OwnG B w (.slice (some ⟨g, 0, none⟩) n cap) gs) (hb : Below w.heap.size w w2) {u : Value} {x : List Int} (hu : OwnI w.heap.size w2 u x) (k : Nat) :
    ∀ i z, i < gs.length → i ≠ k → w2.cell? ⟨g, i * 3, none⟩ = some z → z.ownBlock = none ∨ u.ownBlock = none ∨ z.ownBlock ≠ u.ownBlock := by
  intro i z hi _ hz
  obtain ⟨ts, h1, h2, h3, h4⟩ := h.below hb
  obtain ⟨a, cap', e, _, _, h6⟩ := h1.opened
  obtain ⟨g', e', _, _, hcs, _⟩ := h6 (by omega)
  injection e with e1 _ _
  rw [e'] at e1
  injection e1 with e1
  injection e1 with e1 _
  subst e1
  have := (hcs i (by omega)).1
  rw [hz] at this
  have hzz : z = ts[i].1 := Option.some.inj this
  have := guess_old h hb hu ts h1 i (by omega)
  rw [← hzz] at this
  rcases this with q | q | q
  · exact .inr (.inl q)
  · exact .inl q
  · exact .inr (.inr q)

end Go.Proofs.YtenlngclocfnlaaDoor

/- Marks of lists of guesses; their sizes and comparisons. -/
namespace Go.Proofs.YtenlngclocfnlaaDoor
open Go.RowKit
set_option linter.unusedVariables false
set_option maxRecDepth 100000

def markGs : List Gs → Int → List Gs
  | [], _ => []
  | g :: gs, k => ⟨markL g.code.length k, k + g.code.length, k + g.code.length + 1⟩ :: markGs gs (k + g.code.length + 2)
def endK : List Gs → Int → Int
  | [], k => k
  | g :: gs, k => endK gs (k + g.code.length + 2)
def totG : List Gs → Nat
  | [] => 0
  | g :: gs => g.code.length + 2 + totG gs
theorem endK_tot : ∀ (gs : List Gs) (k : Int), endK gs k = k + totG gs
  | [], k => by simp [endK, totG]
  | g :: gs, k => by rw [endK, endK_tot gs]; simp only [totG]; push_cast; omega
theorem endK_app : ∀ (a b : List Gs) (k : Int), endK (a ++ b) k = endK b (endK a k)
  | [], b, k => rfl
  | g :: a, b, k => by simp only [List.cons_append, endK]; exact endK_app a b _
theorem markGs_app : ∀ (a b : List Gs) (k : Int), markGs (a ++ b) k = markGs a k ++ markGs b (endK a k)
  | [], b, k => rfl
  | g :: a, b, k => by simp only [List.cons_append, markGs, endK]; rw [markGs_app a b]
@[simp] theorem markGs_length : ∀ (gs : List Gs) (k : Int), (markGs gs k).length = gs.length
  | [], _ => rfl
  | g :: gs, k => by simp [markGs, markGs_length gs]
theorem endK_next {gs : List Gs} {k : Nat} (h : k < gs.length) (m : Int) : endK (gs.take (k + 1)) m = endK (gs.take k) m + gs[k].code.length + 2 := by
  rw [List.take_succ_eq_append_getElem h, endK_app]; rfl
theorem markGs_next {gs : List Gs} {k : Nat} (h : k < gs.length) (m : Int) : markGs (gs.take (k + 1)) m ++ gs.drop (k + 1) =
    (markGs (gs.take k) m ++ gs.drop k).set k ⟨markL gs[k].code.length (endK (gs.take k) m), endK (gs.take k) m + gs[k].code.length, endK (gs.take k) m + gs[k].code.length + 1⟩ := by
  rw [List.take_succ_eq_append_getElem h, markGs_app, List.set_append_right _ _ (by simp; omega)]
  have e : k - (markGs (gs.take k) m).length = 0 := by simp; omega
  rw [e, List.drop_eq_getElem_cons h, List.set_cons_zero]
  simp [markGs]
theorem markGs_at {gs : List Gs} {k : Nat} (h : k < gs.length) (m : Int) (h' : k < (markGs (gs.take k) m ++ gs.drop k).length) : (markGs (gs.take k) m ++ gs.drop k)[k] = gs[k] := by
  rw [List.getElem_append_right (by simp; omega)]
  simp only [List.getElem_drop]
  congr 1
  simp; omega
theorem totG_take_le : ∀ (gs : List Gs) (k : Nat), totG (gs.take k) ≤ totG gs
  | [], k => by simp [totG]
  | g :: gs, 0 => by simp [totG]
  | g :: gs, k + 1 => by simp only [List.take_succ_cons, totG]; have := totG_take_le gs k; omega
theorem totG_next {gs : List Gs} {k : Nat} (h : k < gs.length) : totG (gs.take k) + gs[k].code.length + 2 ≤ totG gs := by
  have h1 := totG_take_le gs (k + 1)
  have h2 := endK_next h 0
  rw [endK_tot, endK_tot] at h2
  omega

def MarkedG (B C : Nat) (v : Value) (gs : List Gs) (m : Int) (w : World) (e : Ending) (w' : World) : Prop :=
  e = .returned (.int .i64 (endK gs m)) ∧ OwnG B w' v (markGs gs m) ∧ Below B w w' ∧ ∀ b, C ≤ b → b < w.heap.size → w'.heap[b]? = w.heap[b]?

/-- The guesses lie in blocks below C. -/
def LowG (C : Nat) (w : World) (v : Value) (n : Nat) : Prop := ∀ g m cap, v = .slice (some ⟨g, 0, none⟩) m cap → 0 < n → g < C ∧ ∀ i z j, i < n → w.cell? ⟨g, i * 3, none⟩ = some z → z.ownBlock = some j → j < C
theorem OwnG.low {B : Nat} {w0 w : World} {v : Value} {gs : List Gs} (h : OwnG B w0 v gs) (hA : Above B w0 w) : LowG w0.heap.size w v gs.length := by
  intro g m cap hv hn
  have h' := h.keep hA
  obtain ⟨g1, c1, e1, hB, hlt, _, _, _, hat⟩ := h.opened hn
  obtain ⟨g2, c2, e2, _, _, _, _, _, hat2⟩ := h'.opened hn
  rw [hv] at e1 e2
  injection e1 with e1 _ _
  injection e1 with e1
  injection e1 with e1 _
  subst e1
  injection e2 with e2 _ _
  injection e2 with e2
  injection e2 with e2 _
  subst e2
  refine ⟨hlt, fun i z j hi hz hj => ?_⟩
  obtain ⟨u, q1, q2, _⟩ := hat i hi
  have := hA.cell (p := ⟨g, i * 3, none⟩) hB q1
  rw [hz] at this
  have e : z = u := Option.some.inj this
  subst e
  exact (World.ownsRow.lt q2 j hj).2

end Go.Proofs.YtenlngclocfnlaaDoor

/- Lists of guesses: are the marks still there; how many cells; are two lists alike. -/
namespace Go.Proofs.YtenlngclocfnlaaDoor
open Go.RowKit Go.Shelf
set_option linter.unusedVariables false
set_option maxRecDepth 100000

theorem markGs_get {gs : List Gs} {k : Nat} (h : k < gs.length) (m : Int) (h' : k < (markGs gs m).length) : (markGs gs m)[k] = ⟨markL gs[k].code.length (endK (gs.take k) m), endK (gs.take k) m + gs[k].code.length, endK (gs.take k) m + gs[k].code.length + 1⟩ := by
  have e : markGs gs m = markGs (gs.take k) m ++ markGs (gs.drop k) (endK (gs.take k) m) := by rw [← markGs_app, List.take_append_drop]
  rw [List.getElem_of_eq e, List.getElem_append_right (by rw [markGs_length, List.length_take]; omega)]
  have h2 := List.drop_eq_getElem_cons h
  have e2 : markGs (gs.drop k) (endK (gs.take k) m) = ⟨markL gs[k].code.length (endK (gs.take k) m), endK (gs.take k) m + gs[k].code.length, endK (gs.take k) m + gs[k].code.length + 1⟩ :: markGs (gs.drop (k + 1)) (endK (gs.take k) m + gs[k].code.length + 2) := by rw [h2]; rfl
  rw [List.getElem_of_eq e2]
  have e3 : k - (markGs (gs.take k) m).length = 0 := by simp; omega
  simp only [e3, List.getElem_cons_zero]
theorem markGs_in64 (gs : List Gs) (m : Int) (h0 : 0 ≤ m) (h1 : m + totG gs ≤ 1099511627776) : In64G (markGs gs m) := by
  intro x hx y hy
  obtain ⟨k, hk, rfl⟩ := List.getElem_of_mem hx
  have hk' : k < gs.length := by simpa using hk
  rw [markGs_get hk'] at hy
  have := totG_next hk'
  have := endK_tot (gs.take k) m
  simp only [markL, List.mem_map, List.mem_range] at hy
  obtain ⟨j, hj, rfl⟩ := hy
  unfold In64
  omega

end Go.Proofs.YtenlngclocfnlaaDoor

/- Desks: sizes, copies, comparisons, marks. -/
namespace Go.Proofs.YtenlngclocfnlaaDoor
open Go.RowKit Go.Shelf
set_option linter.unusedVariables false
set_option maxRecDepth 100000

end Go.Proofs.YtenlngclocfnlaaDoor

/- Copies of desks. -/
namespace Go.Proofs.YtenlngclocfnlaaDoor
open Go.RowKit
set_option linter.unusedVariables false
set_option maxRecDepth 100000

/-- A desk whose guesses lie in new memory. -/
def DeskOut (p c : Int) (gs : List Gs) (w : World) (e : Ending) (w' : World) : Prop :=
  ∃ a cap, e = .returned (dkV p c (.slice a gs.length cap)) ∧ OwnG w.heap.size w' (.slice a gs.length cap) gs ∧ Below w.heap.size w w'

end Go.Proofs.YtenlngclocfnlaaDoor
