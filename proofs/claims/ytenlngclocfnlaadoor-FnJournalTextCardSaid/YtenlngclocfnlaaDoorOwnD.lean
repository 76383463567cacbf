/- Lists of deeds in memory, readable and owned. No walk. -/
import Derived.Test.YtenlngclocfnlaaDoorKeep
namespace Go.Proofs.YtenlngclocfnlaaDoor
open Go.RowKit
set_option linter.unusedVariables false
set_option maxRecDepth 100000

/-- The slice value v reads in w as these deeds; each code is nil or lies somewhere. -/
def DL (B : Nat) (w : World) (v : Value) (ds : List Dd) : Prop :=
  ∃ a cap, ∃ V : Nat → Value, v = .slice a ds.length cap ∧ ds.length ≤ cap ∧ cap ≤ 9223372036854775807 ∧
    (0 < ds.length → ∃ b off, a = some ⟨b, off, none⟩ ∧ B ≤ b ∧ ∀ i (h : i < ds.length),
      w.cell? ⟨b, off + i * 4, none⟩ = some (.bool ds[i].back) ∧ w.cell? ⟨b, off + i * 4 + 1, none⟩ = some (V i) ∧ w.cell? ⟨b, off + i * 4 + 2, none⟩ = some (.int .i64 ds[i].right) ∧ w.cell? ⟨b, off + i * 4 + 3, none⟩ = some (.int .i64 ds[i].near)) ∧
    ∀ i (h : i < ds.length), Ints B w (V i) ds[i].code
/-- The codes are nil or lie somewhere. -/
def DN (w : World) (v : Value) (ds : List Dd) : Prop := ∀ b off n cap, v = .slice (some ⟨b, off, none⟩) n cap → ∀ i u, i < ds.length → w.cell? ⟨b, off + i * 4 + 1, none⟩ = some u → NilOr u

theorem DL.nil (B : Nat) (w : World) : DL B w (.slice none 0 0) [] := ⟨none, 0, fun _ => undef, rfl, by simp, by simp, by simp, by simp⟩
theorem DL.shape {B : Nat} {w : World} {v : Value} {ds : List Dd} (h : DL B w v ds) : ∃ a cap, v = .slice a ds.length cap ∧ ds.length ≤ cap ∧ cap ≤ 9223372036854775807 := by
  obtain ⟨a, cap, V, h1, h2, h3, _⟩ := h
  exact ⟨a, cap, h1, h2, h3⟩
theorem DL.keep {B : Nat} {w w' : World} {v : Value} {ds : List Dd} (h : DL B w v ds) (hs : Above B w w') : DL B w' v ds := by
  obtain ⟨a, cap, V, h1, h2, h3, h4, h5⟩ := h
  refine ⟨a, cap, V, h1, h2, h3, fun hp => ?_, fun i hi => (h5 i hi).keep hs⟩
  obtain ⟨b, off, h6, hb, h7⟩ := h4 hp
  exact ⟨b, off, h6, hb, fun i hi => ⟨hs.cell (by exact hb) (h7 i hi).1, hs.cell (by exact hb) (h7 i hi).2.1, hs.cell (by exact hb) (h7 i hi).2.2.1, hs.cell (by exact hb) (h7 i hi).2.2.2⟩⟩
theorem DL.below {B : Nat} {w w' : World} {v : Value} {ds : List Dd} (h : DL B w v ds) (hb : Below w.heap.size w w') : DL B w' v ds := h.keep (.of_below hb)
theorem DL.mono {B B' : Nat} {w : World} {v : Value} {ds : List Dd} (h : DL B w v ds) (hb : B' ≤ B) : DL B' w v ds := by
  obtain ⟨a, cap, V, h1, h2, h3, h4, h5⟩ := h
  refine ⟨a, cap, V, h1, h2, h3, fun hp => ?_, fun i hi => (h5 i hi).mono hb⟩
  obtain ⟨b, off, h6, hb', h7⟩ := h4 hp
  exact ⟨b, off, h6, by omega, h7⟩
theorem Kp.dl {lo : Nat} {wk w : World} {v : Value} {ds : List Dd} (h : Kp lo wk w) (hr : DL lo wk v ds) : DL lo w v ds := hr.keep h.2

/-- The four cells of an element. -/
def dC (t : Bool × Value × Int × Int) : List Value := [.bool t.1, t.2.1, .int .i64 t.2.2.1, .int .i64 t.2.2.2]
def cellsD (ts : List (Bool × Value × Int × Int)) : List Value := ts.flatMap dC
theorem cellsD_cons (t : Bool × Value × Int × Int) (ts : List (Bool × Value × Int × Int)) : cellsD (t :: ts) = dC t ++ cellsD ts := rfl
theorem cellsD_append (ts us : List (Bool × Value × Int × Int)) : cellsD (ts ++ us) = cellsD ts ++ cellsD us := by simp [cellsD]
theorem cellsD_length : ∀ ts : List (Bool × Value × Int × Int), (cellsD ts).length = ts.length * 4
  | [] => rfl
  | t :: ts => by rw [cellsD_cons, List.length_append, cellsD_length ts]; simp [dC]; omega
theorem cellsD_get : ∀ (ts : List (Bool × Value × Int × Int)) (k : Nat) (hk : k < ts.length), (cellsD ts)[k * 4]? = some (.bool ts[k].1) ∧ (cellsD ts)[k * 4 + 1]? = some ts[k].2.1 ∧ (cellsD ts)[k * 4 + 2]? = some (.int .i64 ts[k].2.2.1) ∧ (cellsD ts)[k * 4 + 3]? = some (.int .i64 ts[k].2.2.2)
  | [], k, hk => by simp at hk
  | t :: ts, 0, _ => by simp [cellsD_cons, dC]
  | t :: ts, k + 1, hk => by
    have h := cellsD_get ts k (by simpa using hk)
    rw [cellsD_cons]
    have e : (dC t).length = 4 := rfl
    rw [List.getElem?_append_right (by rw [e]; omega), List.getElem?_append_right (by rw [e]; omega), List.getElem?_append_right (by rw [e]; omega), List.getElem?_append_right (by rw [e]; omega), e,
      show (k + 1) * 4 - 4 = k * 4 by omega, show (k + 1) * 4 + 1 - 4 = k * 4 + 1 by omega, show (k + 1) * 4 + 2 - 4 = k * 4 + 2 by omega, show (k + 1) * 4 + 3 - 4 = k * 4 + 3 by omega]
    exact h
theorem setD : ∀ (ts : List (Bool × Value × Int × Int)) (k : Nat) (hk : k < ts.length) (t : Bool × Value × Int × Int), ((((cellsD ts).set (k * 4) (.bool t.1)).set (k * 4 + 1) t.2.1).set (k * 4 + 2) (.int .i64 t.2.2.1)).set (k * 4 + 3) (.int .i64 t.2.2.2) = cellsD (ts.set k t)
  | [], k, hk, _ => by simp at hk
  | a :: ts, 0, _, t => by simp [cellsD_cons, dC]
  | a :: ts, k + 1, hk, t => by
    have h := setD ts k (by simpa using hk) t
    have e : (dC a).length = 4 := rfl
    rw [List.set_cons_succ, cellsD_cons, cellsD_cons, ← h]
    rw [List.set_append_right _ _ (by rw [e]; omega), List.set_append_right _ _ (by rw [e]; omega), List.set_append_right _ _ (by rw [e]; omega), List.set_append_right _ _ (by rw [e]; omega), e,
      show (k + 1) * 4 - 4 = k * 4 by omega, show (k + 1) * 4 + 1 - 4 = k * 4 + 1 by omega, show (k + 1) * 4 + 2 - 4 = k * 4 + 2 by omega, show (k + 1) * 4 + 3 - 4 = k * 4 + 3 by omega]

def OwnQ (B : Nat) (w : World) (v : Value) (ts : List (Bool × Value × Int × Int)) : Prop := w.ownsRow B 26 4 v ts.length (cellsD ts)
theorem OwnQ.opened {B : Nat} {w : World} {v : Value} {ts : List (Bool × Value × Int × Int)} (h : OwnQ B w v ts) :
    ∃ a cap, v = .slice a ts.length cap ∧ ts.length ≤ cap ∧ cap ≤ 9223372036854775807 ∧
      (0 < ts.length → ∃ g, a = some ⟨g, 0, none⟩ ∧ B ≤ g ∧ g < w.heap.size ∧ (∀ k (h : k < ts.length), w.cell? ⟨g, k * 4, none⟩ = some (.bool ts[k].1) ∧ w.cell? ⟨g, k * 4 + 1, none⟩ = some ts[k].2.1 ∧ w.cell? ⟨g, k * 4 + 2, none⟩ = some (.int .i64 ts[k].2.2.1) ∧ w.cell? ⟨g, k * 4 + 3, none⟩ = some (.int .i64 ts[k].2.2.2)) ∧ ∀ j, w.frozen? ⟨g, j, none⟩ = false) := by
  have hfull := h
  obtain ⟨h0, h⟩ := h
  rcases h with ⟨rfl, h1⟩ | ⟨g, cap, cur, rfl, hb, hg, h1, h2, h3, h4⟩
  · exact ⟨none, 0, by rw [h1], by omega, by omega, by omega⟩
  · refine ⟨_, cap, rfl, h1, h2, fun _ => ⟨g, rfl, hb, (Array.getElem?_eq_some_iff.1 hg).1, fun k hk => ?_, fun j => World.ownsRow.frozenAt hfull j⟩⟩
    have hc : ∀ j, j < ts.length * 4 → cur[j]? = (cellsD ts)[j]? := fun j hj => by
      rw [← h4, List.getElem?_take, if_pos hj, Array.getElem?_toList]
    obtain ⟨q1, q2, q3, q4⟩ := cellsD_get ts k hk
    rw [cell_of_row _ _ _ _ _ _ hg, cell_of_row _ _ _ _ _ _ hg, cell_of_row _ _ _ _ _ _ hg, cell_of_row _ _ _ _ _ _ hg, hc _ (by omega), hc _ (by omega), hc _ (by omega), hc _ (by omega)]
    exact ⟨q1, q2, q3, q4⟩

/-- Four stores into an element. -/
def put4 (w : World) (g k : Nat) (b : Bool) (u : Value) (r n : Int) : World := (((w.setCell ⟨g, k * 4, none⟩ (.bool b)).setCell ⟨g, k * 4 + 1, none⟩ u).setCell ⟨g, k * 4 + 2, none⟩ (.int .i64 r)).setCell ⟨g, k * 4 + 3, none⟩ (.int .i64 n)
theorem OwnQ.put {B : Nat} {w : World} {g n cap : Nat} {ts : List (Bool × Value × Int × Int)} (h : OwnQ B w (.slice (some ⟨g, 0, none⟩) n cap) ts) (k : Nat) (hk : k < ts.length) (t : Bool × Value × Int × Int) :
    OwnQ B (put4 w g k t.1 t.2.1 t.2.2.1 t.2.2.2) (.slice (some ⟨g, 0, none⟩) n cap) (ts.set k t) ∧ w.grownBy (put4 w g k t.1 t.2.1 t.2.2.1 t.2.2.2) (some g) := by
  unfold put4
  obtain ⟨_, _, he, _⟩ := h.opened
  injection he with _ e2 _
  unfold OwnQ at h ⊢
  rw [← e2] at h
  have h0 := World.ownsRow.stored h (k * 4) (.bool t.1)
  have h1 := World.ownsRow.stored h0.1 (k * 4 + 1) t.2.1
  have h2 := World.ownsRow.stored h1.1 (k * 4 + 2) (.int .i64 t.2.2.1)
  have h3 := World.ownsRow.stored h2.1 (k * 4 + 3) (.int .i64 t.2.2.2)
  rw [setD ts k hk t] at h3
  refine ⟨?_, ((h0.2.andThen h1.2 (fun _ e => by cases e; exact .inr rfl)).andThen h2.2 (fun _ e => by cases e; exact .inr rfl)).andThen h3.2 (fun _ e => by cases e; exact .inr rfl)⟩
  rw [List.length_set, ← e2]
  exact h3.1

/-- Owned deeds: each with a code in a block of its own. -/
def OwnD (B : Nat) (w : World) (v : Value) (ds : List Dd) : Prop :=
  ∃ ts, OwnQ B w v ts ∧ ts.length = ds.length ∧ (∀ i (h : i < ts.length) (h' : i < ds.length), ts[i].1 = ds[i].back ∧ OwnI B w ts[i].2.1 ds[i].code ∧ ts[i].2.2.1 = ds[i].right ∧ ts[i].2.2.2 = ds[i].near) ∧
    ∀ i j (hi : i < ts.length) (hj : j < ts.length), i ≠ j → ts[i].2.1.ownBlock = none ∨ ts[i].2.1.ownBlock ≠ ts[j].2.1.ownBlock

theorem OwnD.empty (B : Nat) (w : World) : OwnD B w (.slice none 0 0) [] := ⟨[], World.ownsRow_nil w B _ 4, rfl, by simp, by simp⟩
theorem OwnD.lit (w : World) : OwnD w.heap.size (w.alloc (.cells #[] 26)) (.slice (some ⟨w.heap.size, 0, none⟩) 0 0) [] :=
  ⟨[], World.ownsRow_made w #[] 0 (Nat.le_refl _) (by simp [maxLen]) rfl, rfl, by simp, by simp⟩
theorem OwnD.keep {B : Nat} {w w' : World} {v : Value} {ds : List Dd} (h : OwnD B w v ds) (hs : Above B w w') : OwnD B w' v ds := by
  obtain ⟨ts, h1, h2, h3, h4⟩ := h
  exact ⟨ts, owns_keep h1 hs, h2, fun i hi hi' => ⟨(h3 i hi hi').1, owns_keep (h3 i hi hi').2.1 hs, (h3 i hi hi').2.2⟩, h4⟩
theorem OwnD.below {B : Nat} {w w' : World} {v : Value} {ds : List Dd} (h : OwnD B w v ds) (hb : Below w.heap.size w w') : OwnD B w' v ds := h.keep (.of_below hb)
theorem OwnD.mono {B B' : Nat} {w : World} {v : Value} {ds : List Dd} (h : OwnD B w v ds) (hB : B' ≤ B) : OwnD B' w v ds := by
  obtain ⟨ts, h1, h2, h3, h4⟩ := h
  exact ⟨ts, owns_mono h1 hB, h2, fun i hi hi' => ⟨(h3 i hi hi').1, owns_mono (h3 i hi hi').2.1 hB, (h3 i hi hi').2.2⟩, h4⟩
theorem OwnD.alloc {B : Nat} {w : World} {v : Value} {ds : List Dd} (h : OwnD B w v ds) (o : Obj) : OwnD B (w.alloc o) v ds := h.below ((Below.refl _ _).alloc (Nat.le_refl _) _)
theorem OwnD.shape {B : Nat} {w : World} {v : Value} {ds : List Dd} (h : OwnD B w v ds) : ∃ a cap, v = .slice a ds.length cap ∧ ds.length ≤ cap ∧ cap ≤ 9223372036854775807 := by
  obtain ⟨ts, h1, h2, _⟩ := h
  obtain ⟨a, cap, e, h3, h4, _⟩ := h1.opened
  exact ⟨a, cap, by rw [e, h2], by omega, h4⟩
theorem OwnD.lt {B : Nat} {w : World} {v : Value} {ds : List Dd} (h : OwnD B w v ds) (k : Nat) (hk : v.ownBlock = some k) : B ≤ k ∧ k < w.heap.size := by
  obtain ⟨ts, h1, _⟩ := h
  exact World.ownsRow.lt h1 k hk
def In64D (ds : List Dd) : Prop := ∀ d ∈ ds, ∀ y ∈ d.code, In64 y
theorem DL.in64 {B : Nat} {w : World} {v : Value} {ds : List Dd} (h : DL B w v ds) : In64D ds := by
  obtain ⟨_, _, V, _, _, _, _, h5⟩ := h
  intro d hd y hy
  obtain ⟨i, hi, rfl⟩ := List.getElem_of_mem hd
  exact (h5 i hi).2 y hy
theorem OwnD.toDL {B : Nat} {w : World} {v : Value} {ds : List Dd} (h : OwnD B w v ds) (hr : In64D ds) : DL B w v ds := by
  obtain ⟨ts, h1, h2, h3, _⟩ := h
  obtain ⟨a, cap, e, h4, h5, h6⟩ := h1.opened
  refine ⟨a, cap, fun i => (ts.getD i (false, undef, 0, 0)).2.1, by rw [e, h2], by omega, h5, fun hp => ?_, fun i hi => ?_⟩
  · obtain ⟨g, rfl, hB, _, hc, _⟩ := h6 (by omega)
    refine ⟨g, 0, rfl, hB, fun i hi => ?_⟩
    obtain ⟨c1, c2, c3, c4⟩ := hc i (by omega)
    obtain ⟨e0, _, e1, e2⟩ := h3 i (by omega) hi
    rw [Nat.zero_add, c1, c2, c3, c4, e0, e1, e2]
    simp [List.getD, List.getElem?_eq_getElem (show i < ts.length by omega)]
  · have := (h3 i (by omega) hi).2.1
    simp only [List.getD, List.getElem?_eq_getElem (show i < ts.length by omega), Option.getD_some]
    exact this.toInts (hr _ (List.getElem_mem hi))
/-- What a walk reads of owned deeds. -/
theorem OwnD.opened {B : Nat} {w : World} {v : Value} {ds : List Dd} (h : OwnD B w v ds) (hp : 0 < ds.length) :
    ∃ g cap, v = .slice (some ⟨g, 0, none⟩) ds.length cap ∧ B ≤ g ∧ g < w.heap.size ∧ ds.length ≤ cap ∧ cap ≤ 9223372036854775807 ∧ (∀ j, w.frozen? ⟨g, j, none⟩ = false) ∧
      ∀ k (h : k < ds.length), ∃ u, w.cell? ⟨g, k * 4, none⟩ = some (.bool ds[k].back) ∧ w.cell? ⟨g, k * 4 + 1, none⟩ = some u ∧ OwnI B w u ds[k].code ∧ w.cell? ⟨g, k * 4 + 2, none⟩ = some (.int .i64 ds[k].right) ∧ w.cell? ⟨g, k * 4 + 3, none⟩ = some (.int .i64 ds[k].near) := by
  obtain ⟨ts, h1, h2, h3, _⟩ := h
  obtain ⟨a, cap, e, h4, h5, h6⟩ := h1.opened
  obtain ⟨g, rfl, hB, hlt, hc, hf⟩ := h6 (by omega)
  refine ⟨g, cap, by rw [e, h2], hB, hlt, by omega, h5, hf, fun k hk => ?_⟩
  obtain ⟨c1, c2, c3, c4⟩ := hc k (by omega)
  obtain ⟨e0, q, e1, e2⟩ := h3 k (by omega) hk
  exact ⟨ts[k].2.1, by rw [c1, e0], c2, q, by rw [c3, e1], by rw [c4, e2]⟩
theorem OwnD.dn {B : Nat} {w : World} {v : Value} {ds : List Dd} (h : OwnD B w v ds) : DN w v ds := by
  intro b off n cap e i u hi hu
  obtain ⟨g, cap', e', _, _, _, _, _, hat⟩ := h.opened (by omega)
  rw [e] at e'
  injection e' with e' _ _
  injection e' with e'
  injection e' with e1 e2 _
  subst e1 e2
  obtain ⟨u', _, c2, q, _⟩ := hat i hi
  rw [Nat.zero_add, c2] at hu
  rw [← Option.some.inj hu]
  exact q.nilOr

end Go.Proofs.YtenlngclocfnlaaDoor
