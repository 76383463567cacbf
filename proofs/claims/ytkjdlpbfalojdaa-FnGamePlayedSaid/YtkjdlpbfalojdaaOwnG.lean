/- Owned lists of guesses. No walk. -/
import Derived.Test.YtkjdlpbfalojdaaGs
import Derived.Test.YtkjdlpbfalojdaaRowsR
import Derived.WideKeyEntry
namespace Go.Proofs.Ytkjdlpbfalojdaa
open Go.RowKit
set_option linter.unusedVariables false
set_option maxRecDepth 100000

/-- The three cells of an element. -/
def tC (t : Value × Int × Int) : List Value := [t.1, .int .i64 t.2.1, .int .i64 t.2.2]
def cellsT (ts : List (Value × Int × Int)) : List Value := ts.flatMap tC
theorem cellsT_cons (t : Value × Int × Int) (ts : List (Value × Int × Int)) : cellsT (t :: ts) = tC t ++ cellsT ts := rfl
theorem cellsT_append (ts us : List (Value × Int × Int)) : cellsT (ts ++ us) = cellsT ts ++ cellsT us := by simp [cellsT]
theorem cellsT_length : ∀ ts : List (Value × Int × Int), (cellsT ts).length = ts.length * 3
  | [] => rfl
  | t :: ts => by rw [cellsT_cons, List.length_append, cellsT_length ts]; simp [tC]; omega
theorem cellsT_get : ∀ (ts : List (Value × Int × Int)) (k : Nat) (hk : k < ts.length), (cellsT ts)[k * 3]? = some ts[k].1 ∧ (cellsT ts)[k * 3 + 1]? = some (.int .i64 ts[k].2.1) ∧ (cellsT ts)[k * 3 + 2]? = some (.int .i64 ts[k].2.2)
  | [], k, hk => by simp at hk
  | t :: ts, 0, _ => by simp [cellsT_cons, tC]
  | t :: ts, k + 1, hk => by
    have h := cellsT_get ts k (by simpa using hk)
    rw [cellsT_cons]
    have e : (tC t).length = 3 := rfl
    rw [List.getElem?_append_right (by rw [e]; omega), List.getElem?_append_right (by rw [e]; omega), List.getElem?_append_right (by rw [e]; omega), e,
      show (k + 1) * 3 - 3 = k * 3 by omega, show (k + 1) * 3 + 1 - 3 = k * 3 + 1 by omega, show (k + 1) * 3 + 2 - 3 = k * 3 + 2 by omega]
    exact h
theorem setT : ∀ (ts : List (Value × Int × Int)) (k : Nat) (hk : k < ts.length) (t : Value × Int × Int), (((cellsT ts).set (k * 3) t.1).set (k * 3 + 1) (.int .i64 t.2.1)).set (k * 3 + 2) (.int .i64 t.2.2) = cellsT (ts.set k t)
  | [], k, hk, _ => by simp at hk
  | a :: ts, 0, _, t => by simp [cellsT_cons, tC]
  | a :: ts, k + 1, hk, t => by
    have h := setT ts k (by simpa using hk) t
    have e : (tC a).length = 3 := rfl
    rw [List.set_cons_succ, cellsT_cons, cellsT_cons, ← h]
    rw [List.set_append_right _ _ (by rw [e]; omega), List.set_append_right _ _ (by rw [e]; omega), List.set_append_right _ _ (by rw [e]; omega), e,
      show (k + 1) * 3 - 3 = k * 3 by omega, show (k + 1) * 3 + 1 - 3 = k * 3 + 1 by omega, show (k + 1) * 3 + 2 - 3 = k * 3 + 2 by omega]

def OwnT (B : Nat) (w : World) (v : Value) (ts : List (Value × Int × Int)) : Prop := w.ownsRow B 69 3 v ts.length (cellsT ts)
theorem OwnT.opened {B : Nat} {w : World} {v : Value} {ts : List (Value × Int × Int)} (h : OwnT B w v ts) :
    ∃ a cap, v = .slice a ts.length cap ∧ ts.length ≤ cap ∧ cap ≤ 9223372036854775807 ∧
      (0 < ts.length → ∃ g, a = some ⟨g, 0, none⟩ ∧ B ≤ g ∧ g < w.heap.size ∧ (∀ k (h : k < ts.length), w.cell? ⟨g, k * 3, none⟩ = some ts[k].1 ∧ w.cell? ⟨g, k * 3 + 1, none⟩ = some (.int .i64 ts[k].2.1) ∧ w.cell? ⟨g, k * 3 + 2, none⟩ = some (.int .i64 ts[k].2.2)) ∧ ∀ j, w.frozen? ⟨g, j, none⟩ = false) := by
  have hfull := h
  obtain ⟨h0, h⟩ := h
  rcases h with ⟨rfl, h1⟩ | ⟨g, cap, cur, rfl, hb, hg, h1, h2, h3, h4⟩
  · exact ⟨none, 0, by rw [h1], by omega, by omega, by omega⟩
  · refine ⟨_, cap, rfl, h1, h2, fun _ => ⟨g, rfl, hb, (Array.getElem?_eq_some_iff.1 hg).1, fun k hk => ?_, fun j => World.ownsRow.frozenAt hfull j⟩⟩
    have hc : ∀ j, j < ts.length * 3 → cur[j]? = (cellsT ts)[j]? := fun j hj => by
      rw [← h4, List.getElem?_take, if_pos hj, Array.getElem?_toList]
    obtain ⟨q1, q2, q3⟩ := cellsT_get ts k hk
    rw [cell_of_row _ _ _ _ _ _ hg, cell_of_row _ _ _ _ _ _ hg, cell_of_row _ _ _ _ _ _ hg, hc _ (by omega), hc _ (by omega), hc _ (by omega)]
    exact ⟨q1, q2, q3⟩
theorem OwnT.put {B : Nat} {w : World} {g n cap : Nat} {ts : List (Value × Int × Int)} (h : OwnT B w (.slice (some ⟨g, 0, none⟩) n cap) ts) (k : Nat) (hk : k < ts.length) (t : Value × Int × Int) :
    OwnT B (((w.setCell ⟨g, k * 3, none⟩ t.1).setCell ⟨g, k * 3 + 1, none⟩ (.int .i64 t.2.1)).setCell ⟨g, k * 3 + 2, none⟩ (.int .i64 t.2.2)) (.slice (some ⟨g, 0, none⟩) n cap) (ts.set k t) ∧
    w.grownBy (((w.setCell ⟨g, k * 3, none⟩ t.1).setCell ⟨g, k * 3 + 1, none⟩ (.int .i64 t.2.1)).setCell ⟨g, k * 3 + 2, none⟩ (.int .i64 t.2.2)) (some g) := by
  obtain ⟨_, _, he, _⟩ := h.opened
  injection he with _ e2 _
  unfold OwnT at h ⊢
  rw [← e2] at h
  have h1 := World.ownsRow.stored h (k * 3) t.1
  have h2 := World.ownsRow.stored h1.1 (k * 3 + 1) (.int .i64 t.2.1)
  have h3 := World.ownsRow.stored h2.1 (k * 3 + 2) (.int .i64 t.2.2)
  rw [setT ts k hk t] at h3
  refine ⟨?_, (h1.2.andThen h2.2 (fun _ e => by cases e; exact .inr rfl)).andThen h3.2 (fun _ e => by cases e; exact .inr rfl)⟩
  rw [List.length_set, ← e2]
  exact h3.1

/-- Owned guesses: each with a code in a block of its own. -/
def OwnG (B : Nat) (w : World) (v : Value) (gs : List Gs) : Prop :=
  ∃ ts, OwnT B w v ts ∧ ts.length = gs.length ∧ (∀ i (h : i < ts.length) (h' : i < gs.length), OwnI B w ts[i].1 gs[i].code ∧ ts[i].2.1 = gs[i].right ∧ ts[i].2.2 = gs[i].near) ∧
    ∀ i j (hi : i < ts.length) (hj : j < ts.length), i ≠ j → ts[i].1.ownBlock = none ∨ ts[i].1.ownBlock ≠ ts[j].1.ownBlock

theorem OwnG.empty (B : Nat) (w : World) : OwnG B w (.slice none 0 0) [] := ⟨[], World.ownsRow_nil w B _ 3, rfl, by simp, by simp⟩
theorem OwnG.lit (w : World) : OwnG w.heap.size (w.alloc (.cells #[] 69)) (.slice (some ⟨w.heap.size, 0, none⟩) 0 0) [] :=
  ⟨[], World.ownsRow_made w #[] 0 (Nat.le_refl _) (by simp [maxLen]) rfl, rfl, by simp, by simp⟩
theorem OwnG.keep {B : Nat} {w w' : World} {v : Value} {gs : List Gs} (h : OwnG B w v gs) (hs : Above B w w') : OwnG B w' v gs := by
  obtain ⟨ts, h1, h2, h3, h4⟩ := h
  exact ⟨ts, owns_keep h1 hs, h2, fun i hi hi' => ⟨owns_keep (h3 i hi hi').1 hs, (h3 i hi hi').2⟩, h4⟩
theorem OwnG.below {B : Nat} {w w' : World} {v : Value} {gs : List Gs} (h : OwnG B w v gs) (hb : Below w.heap.size w w') : OwnG B w' v gs := h.keep (.of_below hb)
theorem OwnG.mono {B B' : Nat} {w : World} {v : Value} {gs : List Gs} (h : OwnG B w v gs) (hB : B' ≤ B) : OwnG B' w v gs := by
  obtain ⟨ts, h1, h2, h3, h4⟩ := h
  exact ⟨ts, owns_mono h1 hB, h2, fun i hi hi' => ⟨owns_mono (h3 i hi hi').1 hB, (h3 i hi hi').2⟩, h4⟩
theorem OwnG.alloc {B : Nat} {w : World} {v : Value} {gs : List Gs} (h : OwnG B w v gs) (o : Obj) : OwnG B (w.alloc o) v gs := h.below ((Below.refl _ _).alloc (Nat.le_refl _) _)
theorem OwnG.shape {B : Nat} {w : World} {v : Value} {gs : List Gs} (h : OwnG B w v gs) : ∃ a cap, v = .slice a gs.length cap ∧ gs.length ≤ cap ∧ cap ≤ 9223372036854775807 := by
  obtain ⟨ts, h1, h2, _⟩ := h
  obtain ⟨a, cap, e, h3, h4, _⟩ := h1.opened
  exact ⟨a, cap, by rw [e, h2], by omega, h4⟩
theorem OwnG.lt {B : Nat} {w : World} {v : Value} {gs : List Gs} (h : OwnG B w v gs) (k : Nat) (hk : v.ownBlock = some k) : B ≤ k ∧ k < w.heap.size := by
  obtain ⟨ts, h1, _⟩ := h
  exact World.ownsRow.lt h1 k hk

def In64G (gs : List Gs) : Prop := ∀ g ∈ gs, ∀ y ∈ g.code, In64 y
theorem OwnG.toGL {B : Nat} {w : World} {v : Value} {gs : List Gs} (h : OwnG B w v gs) (hr : In64G gs) : GL B w v gs := by
  obtain ⟨ts, h1, h2, h3, _⟩ := h
  obtain ⟨a, cap, e, h4, h5, h6⟩ := h1.opened
  refine ⟨a, cap, fun i => (ts.getD i (undef, 0, 0)).1, by rw [e, h2], by omega, h5, fun hp => ?_, fun i hi => ?_⟩
  · obtain ⟨g, rfl, hB, _, hc, _⟩ := h6 (by omega)
    refine ⟨g, 0, rfl, hB, fun i hi => ?_⟩
    obtain ⟨c1, c2, c3⟩ := hc i (by omega)
    obtain ⟨_, e1, e2⟩ := h3 i (by omega) hi
    rw [Nat.zero_add, c1, c2, c3, e1, e2]
    simp [List.getD, List.getElem?_eq_getElem (show i < ts.length by omega)]
  · have := (h3 i (by omega) hi).1
    simp only [List.getD, List.getElem?_eq_getElem (show i < ts.length by omega), Option.getD_some]
    exact this.toInts (hr _ (List.getElem_mem hi))

/-- What the walk reads of owned guesses. -/
theorem OwnG.opened {B : Nat} {w : World} {v : Value} {gs : List Gs} (h : OwnG B w v gs) (hp : 0 < gs.length) :
    ∃ g cap, v = .slice (some ⟨g, 0, none⟩) gs.length cap ∧ B ≤ g ∧ g < w.heap.size ∧ gs.length ≤ cap ∧ cap ≤ 9223372036854775807 ∧ (∀ j, w.frozen? ⟨g, j, none⟩ = false) ∧
      ∀ k (h : k < gs.length), ∃ u, w.cell? ⟨g, k * 3, none⟩ = some u ∧ OwnI B w u gs[k].code ∧ w.cell? ⟨g, k * 3 + 1, none⟩ = some (.int .i64 gs[k].right) ∧ w.cell? ⟨g, k * 3 + 2, none⟩ = some (.int .i64 gs[k].near) := by
  obtain ⟨ts, h1, h2, h3, _⟩ := h
  obtain ⟨a, cap, e, h4, h5, h6⟩ := h1.opened
  obtain ⟨g, rfl, hB, hlt, hc, hf⟩ := h6 (by omega)
  refine ⟨g, cap, by rw [e, h2], hB, hlt, by omega, h5, hf, fun k hk => ?_⟩
  obtain ⟨c1, c2, c3⟩ := hc k (by omega)
  obtain ⟨q, e1, e2⟩ := h3 k (by omega) hk
  exact ⟨ts[k].1, c1, q, by rw [c2, e1], by rw [c3, e2]⟩

/-- A guess is put at place k: its code lies in a block of its own, which none of the others is. -/
theorem OwnG.put {B : Nat} {w : World} {g n cap : Nat} {gs : List Gs} (h : OwnG B w (.slice (some ⟨g, 0, none⟩) n cap) gs) (k : Nat) (hk : k < gs.length) {u : Value} {x : Gs} (hu : OwnI B w u x.code)
    (hd : ∀ i z, i < gs.length → i ≠ k → w.cell? ⟨g, i * 3, none⟩ = some z → z.ownBlock = none ∨ u.ownBlock = none ∨ z.ownBlock ≠ u.ownBlock) :
    OwnG B (((w.setCell ⟨g, k * 3, none⟩ u).setCell ⟨g, k * 3 + 1, none⟩ (.int .i64 x.right)).setCell ⟨g, k * 3 + 2, none⟩ (.int .i64 x.near)) (.slice (some ⟨g, 0, none⟩) n cap) (gs.set k x) ∧
    w.grownBy (((w.setCell ⟨g, k * 3, none⟩ u).setCell ⟨g, k * 3 + 1, none⟩ (.int .i64 x.right)).setCell ⟨g, k * 3 + 2, none⟩ (.int .i64 x.near)) (some g) := by
  obtain ⟨ts, h1, h2, h3, h4⟩ := h
  have hput := h1.put k (by omega) (u, x.right, x.near)
  obtain ⟨a, cap', e, _, _, h6⟩ := h1.opened
  obtain ⟨g', e', _, _, hc, _⟩ := h6 (by omega)
  injection e with e1 _ _
  rw [e'] at e1
  injection e1 with e1
  injection e1 with e1 _
  subst e1
  have hkeep : ∀ z ys, OwnI B w z ys → OwnI B (((w.setCell ⟨g, k * 3, none⟩ u).setCell ⟨g, k * 3 + 1, none⟩ (.int .i64 x.right)).setCell ⟨g, k * 3 + 2, none⟩ (.int .i64 x.near)) z ys := fun z ys hz => by
    refine World.ownsRow.kept hz hput.2 ?_
    have := own_apart hz h1 (by decide)
    simpa [Value.ownBlock] using this
  refine ⟨⟨ts.set k (u, x.right, x.near), hput.1, by simpa using h2, fun i hi hi' => ?_, fun i j hi hj hij => ?_⟩, hput.2⟩
  · rw [List.getElem_set, List.getElem_set]
    split
    · exact ⟨hkeep _ _ hu, rfl, rfl⟩
    · have := h3 i (by simpa using hi) (by simpa using hi')
      exact ⟨hkeep _ _ this.1, this.2⟩
  · simp only [List.length_set] at hi hj
    rw [List.getElem_set, List.getElem_set]
    split
    · split
      · omega
      · have := hd j _ (by omega) (by omega) (hc j hj).1
        rcases this with h | h | h
        · by_cases e : u.ownBlock = none
          · exact .inl e
          · right; simp only; rw [h]; exact e
        · exact .inl h
        · exact .inr (fun e => h e.symm)
    · split
      · have := hd i _ (by omega) (by omega) (hc i hi).1
        rcases this with h | h | h
        · exact .inl h
        · by_cases e : ts[i].1.ownBlock = none
          · exact .inl e
          · right; simp only; rw [h]; exact e
        · exact .inr h
      · exact h4 i j hi hj hij

/-- The code at place k turns in its own block. -/
theorem OwnG.turn {B : Nat} {w w' : World} {g n cap : Nat} {gs : List Gs} (h : OwnG B w (.slice (some ⟨g, 0, none⟩) n cap) gs) (k : Nat) (hk : k < gs.length) {u : Value} {ys : List Int} (hc : w.cell? ⟨g, k * 3, none⟩ = some u)
    (hg : w.grownBy w' u.ownBlock) (hu : OwnI B w' u ys) : OwnG B w' (.slice (some ⟨g, 0, none⟩) n cap) (gs.set k ⟨ys, gs[k].right, gs[k].near⟩) := by
  obtain ⟨ts, h1, h2, h3, h4⟩ := h
  obtain ⟨a, cap', e, _, _, h6⟩ := h1.opened
  obtain ⟨g', e', _, _, hcs, _⟩ := h6 (by omega)
  injection e with e1 _ _
  rw [e'] at e1
  injection e1 with e1
  injection e1 with e1 _
  subst e1
  have hkt : k < ts.length := by omega
  have huk : u = ts[k].1 := by
    have := (hcs k hkt).1
    rw [hc] at this
    exact Option.some.inj this
  subst huk
  refine ⟨ts, World.ownsRow.kept h1 hg (own_apart h1 (h3 k hkt hk).1 (by decide)), by simpa using h2, fun i hi hi' => ?_, h4⟩
  rw [List.getElem_set]
  split
  · rename_i e; subst e
    exact ⟨hu, (h3 k hkt hk).2⟩
  · rename_i e
    have := h3 i hi (by simpa using hi')
    exact ⟨World.ownsRow.kept this.1 hg (h4 i k hi hkt (fun e' => e e'.symm)), this.2⟩

/-- Right and near at place k are set. -/
theorem OwnG.tail {B : Nat} {w : World} {g n cap : Nat} {gs : List Gs} (h : OwnG B w (.slice (some ⟨g, 0, none⟩) n cap) gs) (k : Nat) (hk : k < gs.length) (r m : Int) :
    OwnG B ((w.setCell ⟨g, k * 3 + 1, none⟩ (.int .i64 r)).setCell ⟨g, k * 3 + 2, none⟩ (.int .i64 m)) (.slice (some ⟨g, 0, none⟩) n cap) (gs.set k ⟨gs[k].code, r, m⟩) ∧
    w.grownBy ((w.setCell ⟨g, k * 3 + 1, none⟩ (.int .i64 r)).setCell ⟨g, k * 3 + 2, none⟩ (.int .i64 m)) (some g) := by
  obtain ⟨ts, h1, h2, h3, h4⟩ := h
  have hkt : k < ts.length := by omega
  obtain ⟨a, cap', e, _⟩ := h1.opened
  injection e with _ e2 _
  unfold OwnT at h1
  rw [← e2] at h1
  have q1 := World.ownsRow.stored h1 (k * 3 + 1) (.int .i64 r)
  have q2 := World.ownsRow.stored q1.1 (k * 3 + 2) (.int .i64 m)
  have hs : ((cellsT ts).set (k * 3 + 1) (.int .i64 r)).set (k * 3 + 2) (.int .i64 m) = cellsT (ts.set k (ts[k].1, r, m)) := by
    rw [← setT ts k hkt (ts[k].1, r, m)]
    congr 2
    have := (cellsT_get ts k hkt).1
    exact (WideElems.set_self _ _ _ this).symm
  rw [hs] at q2
  have hg := q1.2.andThen q2.2 (fun _ e => by cases e; exact .inr rfl)
  have hkeep : ∀ z ys, OwnI B w z ys → OwnI B ((w.setCell ⟨g, k * 3 + 1, none⟩ (.int .i64 r)).setCell ⟨g, k * 3 + 2, none⟩ (.int .i64 m)) z ys := fun z ys hz => by
    refine World.ownsRow.kept hz hg ?_
    have := own_apart hz h1 (by decide)
    simpa [Value.ownBlock] using this
  refine ⟨⟨ts.set k (ts[k].1, r, m), ?_, by simpa using h2, fun i hi hi' => ?_, fun i j hi hj hij => ?_⟩, hg⟩
  · unfold OwnT
    rw [List.length_set, ← e2]
    exact q2.1
  · rw [List.getElem_set, List.getElem_set]
    split
    · rename_i e; subst e
      exact ⟨hkeep _ _ (h3 k hkt hk).1, rfl, rfl⟩
    · have := h3 i (by simpa using hi) (by simpa using hi')
      exact ⟨hkeep _ _ this.1, this.2⟩
  · simp only [List.length_set] at hi hj
    have e : ∀ i (hi : i < ts.length), ((ts.set k (ts[k].1, r, m))[i]'(by simpa using hi)).1 = ts[i].1 := fun i hi => by
      rw [List.getElem_set]
      split
      · rename_i e; subst e; rfl
      · rfl
    rw [e i hi, e j hj]
    exact h4 i j hi hj hij

theorem infoGuess : (Try.prog.info? 69).map (fun i => (i.zero, i.size, i.bytes)) = some (some (.agg #[.slice none 0 0, .int .i64 0, .int .i64 0]), 3, 40) := by kernel_rfl

/-- 'append(out, Guess{..})', its code in a block that is none of out's. -/
theorem wpList_push_g (w : World) {ops : Array Oper} {rest : List Oper} {o : Oper} {a : Act} {Q : Exit → Act → World → Prop}
    (hg : o.guard = none) (s x : Operand) (hop : o.op = Op.call { callee := Callee.builtin Builtin.append, args := #[s, x], argTypes := #[25, 25] })
    (B : Nat) (v : Value) (gs : List Gs) (hs : a.eval s = v) (hown : OwnG B w v gs) (N : Nat) (c : Nat) (u : Value) (y : Gs) (hx : a.eval x = .slice (some ⟨N, 0, none⟩) 1 c)
    (hc : w.cell? ⟨N, 0, none⟩ = some u ∧ w.cell? ⟨N, 1, none⟩ = some (.int .i64 y.right) ∧ w.cell? ⟨N, 2, none⟩ = some (.int .i64 y.near)) (hu : OwnI B w u y.code)
    (hd : ∀ ts : List (Value × Int × Int), OwnT B w v ts → ∀ i (h : i < ts.length), u.ownBlock = none ∨ ts[i].1.ownBlock = none ∨ ts[i].1.ownBlock ≠ u.ownBlock)
    (hlen : gs.length ≤ 1000000) (hB : B ≤ w.heap.size)
    (hK : ∀ a' cap' w', OwnG B w' (.slice a' (gs.length + 1) cap') (gs ++ [y]) → w.grownBy w' v.ownBlock → wpList Try.prog ops Q rest (a.put o.dst (.slice a' (gs.length + 1) cap')) w') :
    wpList Try.prog ops Q (o :: rest) a w := by
  obtain ⟨i0, hi, hz0, hz1, hz2⟩ := info_parts infoGuess
  obtain ⟨ts, h1, h2, h3, h4⟩ := hown
  have hone : u.oneCell' = true := by
    obtain ⟨_, _, rfl, _⟩ := own_shape hu
    rfl
  refine wpList_append_own w hg s x 25 hop B 69 i0 (.agg #[.slice none 0 0, .int .i64 0, .int .i64 0]) 3 40 Try.underlying25 hi hz0 hz1 hz2 rfl (by decide) v ts.length (cellsT ts) hs h1 ⟨N, 0, none⟩ 1 c [u, .int .i64 y.right, .int .i64 y.near] hx rfl ?_ ?_ (by unfold maxLen; omega) (by omega) hB ?_
  · intro j z hj
    match j, hj with
    | 0, hj => simp at hj; subst hj; simpa [Addr.add] using hc.1
    | 1, hj => simp at hj; subst hj; simpa [Addr.add] using hc.2.1
    | 2, hj => simp at hj; subst hj; simpa [Addr.add] using hc.2.2
  · intro z hz
    simp only [List.mem_cons, List.mem_nil_iff, or_false] at hz
    rcases hz with rfl | rfl | rfl
    · exact hone
    · rfl
    · rfl
  · intro v' w' h5 h6 _
    have hap : ∀ z ys, OwnI B w z ys → OwnI B w' z ys := fun z ys hz => World.ownsRow.kept hz h6 (own_apart hz h1 (by decide))
    obtain ⟨a', cap', rfl, _⟩ := own_shape h5
    rw [h2] at h5 ⊢
    refine hK a' cap' w' ⟨ts ++ [(u, y.right, y.near)], ?_, by simp [h2], fun i hi' hi'' => ?_, fun i j hi' hj' hij => ?_⟩ h6
    · unfold OwnT
      rw [cellsT_append]
      simpa [h2, cellsT, tC] using h5
    · by_cases hlt : i < ts.length
      · rw [List.getElem_append_left hlt, List.getElem_append_left (by omega)]
        have := h3 i hlt (by omega)
        exact ⟨hap _ _ this.1, this.2⟩
      · have e : i = ts.length := by simp at hi'; omega
        subst e
        have := hap _ _ hu
        simp only [List.getElem_append_right (Nat.le_refl _), Nat.sub_self, List.getElem_cons_zero]
        have e2 : (gs ++ [y])[ts.length]'hi'' = y := by simp [h2]
        rw [e2]
        exact ⟨this, rfl, rfl⟩
    · simp only [List.length_append, List.length_cons, List.length_nil] at hi' hj'
      by_cases h7 : i < ts.length
      · rw [List.getElem_append_left h7]
        by_cases h8 : j < ts.length
        · rw [List.getElem_append_left h8]; exact h4 i j h7 h8 hij
        · have e : j = ts.length := by omega
          subst e
          rw [List.getElem_append_right (Nat.le_refl _)]
          simp only [Nat.sub_self, List.getElem_cons_zero]
          rcases hd ts h1 i h7 with h | h | h
          · rw [h]; by_cases e : ts[i].1.ownBlock = none
            · exact .inl e
            · exact .inr e
          · exact .inl h
          · exact .inr h
      · have e : i = ts.length := by omega
        subst e
        rw [List.getElem_append_right (Nat.le_refl _), List.getElem_append_left (show j < ts.length by omega)]
        simp only [Nat.sub_self, List.getElem_cons_zero]
        rcases hd ts h1 j (by omega) with h | h | h
        · exact .inl h
        · rw [h]; by_cases e : u.ownBlock = none
          · exact .inl e
          · exact .inr e
        · exact .inr (fun e => h e.symm)

/-- Codes of an older world lie in older blocks. -/
theorem guess_old {B : Nat} {w w2 : World} {v : Value} {gs : List Gs} (h : OwnG B w v gs) (hb : Below w.heap.size w w2) {u : Value} {x : List Int} (hu : OwnI w.heap.size w2 u x) :
    ∀ ts : List (Value × Int × Int), OwnT B w2 v ts → ∀ i (h : i < ts.length), u.ownBlock = none ∨ ts[i].1.ownBlock = none ∨ ts[i].1.ownBlock ≠ u.ownBlock := by
  intro ts hts i hi
  obtain ⟨ts', h1, h2, h3, _⟩ := h
  have e : ts[i].1 = (ts'.getD i (undef, 0, 0)).1 ∧ i < ts'.length := by
    have h1' : OwnT B w2 v ts' := owns_below h1 hb
    obtain ⟨a, cap, e1, _, _, q1⟩ := hts.opened
    obtain ⟨a', cap', e1', _, _, q2⟩ := h1'.opened
    rw [e1] at e1'
    injection e1' with f1 f2 f3
    have hi' : i < ts'.length := by omega
    obtain ⟨g, rfl, _, _, c1, _⟩ := q1 (by omega)
    obtain ⟨g', f4, _, _, c2, _⟩ := q2 (by omega)
    rw [f4] at f1
    injection f1 with f1
    injection f1 with f1 _
    subst f1
    have a1 := (c1 i hi).1
    have a2 := (c2 i hi').1
    rw [a1] at a2
    exact ⟨by rw [Option.some.inj a2]; simp [List.getD, List.getElem?_eq_getElem hi'], hi'⟩
  obtain ⟨e, hi'⟩ := e
  have e' : (ts'.getD i (undef, 0, 0)).1 = ts'[i].1 := by simp [List.getD, List.getElem?_eq_getElem hi']
  rw [e, e']
  by_cases hn : u.ownBlock = none
  · exact .inl hn
  obtain ⟨m, hm⟩ := Option.ne_none_iff_exists'.1 hn
  by_cases hn' : ts'[i].1.ownBlock = none
  · exact .inr (.inl hn')
  obtain ⟨m', hm'⟩ := Option.ne_none_iff_exists'.1 hn'
  have h4 := (World.ownsRow.lt hu m hm).1
  have h5 := (World.ownsRow.lt (h3 i hi' (by omega)).1 m' hm').2
  exact .inr (.inr (by rw [hm, hm']; simp; omega))

end Go.Proofs.Ytkjdlpbfalojdaa
