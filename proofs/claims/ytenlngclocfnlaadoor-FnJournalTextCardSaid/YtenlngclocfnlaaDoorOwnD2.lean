/- Owned deeds: stores, marks of codes, make, append. No function is walked. -/
import Derived.Test.YtenlngclocfnlaaDoorOwnD
namespace Go.Proofs.YtenlngclocfnlaaDoor
open Go.RowKit
set_option linter.unusedVariables false
set_option maxRecDepth 100000

theorem OwnD.row {B : Nat} {w : World} {g n cap : Nat} {ds : List Dd} {ts : List (Bool × Value × Int × Int)} (h1 : OwnQ B w (.slice (some ⟨g, 0, none⟩) n cap) ts) (h2 : ts.length = ds.length) (hp : 0 < ts.length) :
    n = ts.length ∧ ∀ k (h : k < ts.length), w.cell? ⟨g, k * 4, none⟩ = some (.bool ts[k].1) ∧ w.cell? ⟨g, k * 4 + 1, none⟩ = some ts[k].2.1 ∧ w.cell? ⟨g, k * 4 + 2, none⟩ = some (.int .i64 ts[k].2.2.1) ∧ w.cell? ⟨g, k * 4 + 3, none⟩ = some (.int .i64 ts[k].2.2.2) := by
  obtain ⟨a, cap', e, _, _, h6⟩ := h1.opened
  obtain ⟨g', e', _, _, hc, _⟩ := h6 hp
  injection e with e1 e2 _
  rw [e'] at e1
  injection e1 with e1
  injection e1 with e1 _
  subst e1
  exact ⟨e2, hc⟩

/-- A deed is put at place k: its code lies in a block of its own, which none of the others is. -/
theorem OwnD.put {B : Nat} {w : World} {g n cap : Nat} {ds : List Dd} (h : OwnD B w (.slice (some ⟨g, 0, none⟩) n cap) ds) (k : Nat) (hk : k < ds.length) {u : Value} {x : Dd} (hu : OwnI B w u x.code)
    (hd : ∀ i z, i < ds.length → i ≠ k → w.cell? ⟨g, i * 4 + 1, none⟩ = some z → z.ownBlock = none ∨ u.ownBlock = none ∨ z.ownBlock ≠ u.ownBlock) :
    OwnD B (put4 w g k x.back u x.right x.near) (.slice (some ⟨g, 0, none⟩) n cap) (ds.set k x) ∧ w.grownBy (put4 w g k x.back u x.right x.near) (some g) := by
  obtain ⟨ts, h1, h2, h3, h4⟩ := h
  have hput := h1.put k (by omega) (x.back, u, x.right, x.near)
  obtain ⟨_, hc⟩ := OwnD.row h1 h2 (by omega)
  have hkeep : ∀ z ys, OwnI B w z ys → OwnI B (put4 w g k x.back u x.right x.near) z ys := fun z ys hz => by
    refine World.ownsRow.kept hz hput.2 ?_
    have := own_apart hz h1 (by decide)
    simpa [Value.ownBlock] using this
  refine ⟨⟨ts.set k (x.back, u, x.right, x.near), hput.1, by simpa using h2, fun i hi hi' => ?_, fun i j hi hj hij => ?_⟩, hput.2⟩
  · rw [List.getElem_set, List.getElem_set]
    split
    · exact ⟨rfl, hkeep _ _ hu, rfl, rfl⟩
    · have := h3 i (by simpa using hi) (by simpa using hi')
      exact ⟨this.1, hkeep _ _ this.2.1, this.2.2⟩
  · simp only [List.length_set] at hi hj
    rw [List.getElem_set, List.getElem_set]
    split
    · split
      · omega
      · have := hd j _ (by omega) (by omega) (hc j hj).2.1
        rcases this with h | h | h
        · by_cases e : u.ownBlock = none
          · exact .inl e
          · right; simp only; rw [h]; exact e
        · exact .inl h
        · exact .inr (fun e => h e.symm)
    · split
      · have := hd i _ (by omega) (by omega) (hc i hi).2.1
        rcases this with h | h | h
        · exact .inl h
        · by_cases e : ts[i].2.1.ownBlock = none
          · exact .inl e
          · right; simp only; rw [h]; exact e
        · exact .inr h
      · exact h4 i j hi hj hij

/-- The code at place k turns in its own block. -/
theorem OwnD.turn {B : Nat} {w w' : World} {g n cap : Nat} {ds : List Dd} (h : OwnD B w (.slice (some ⟨g, 0, none⟩) n cap) ds) (k : Nat) (hk : k < ds.length) {u : Value} {ys : List Int} (hc : w.cell? ⟨g, k * 4 + 1, none⟩ = some u)
    (hg : w.grownBy w' u.ownBlock) (hu : OwnI B w' u ys) : OwnD B w' (.slice (some ⟨g, 0, none⟩) n cap) (ds.set k ⟨ds[k].back, ys, ds[k].right, ds[k].near⟩) := by
  obtain ⟨ts, h1, h2, h3, h4⟩ := h
  have hkt : k < ts.length := by omega
  obtain ⟨_, hcs⟩ := OwnD.row h1 h2 (by omega)
  have huk : u = ts[k].2.1 := by
    have := (hcs k hkt).2.1
    rw [hc] at this
    exact Option.some.inj this
  subst huk
  refine ⟨ts, World.ownsRow.kept h1 hg (own_apart h1 (h3 k hkt hk).2.1 (by decide)), by simpa using h2, fun i hi hi' => ?_, h4⟩
  rw [List.getElem_set]
  split
  · rename_i e; subst e
    exact ⟨(h3 k hkt hk).1, hu, (h3 k hkt hk).2.2⟩
  · rename_i e
    have := h3 i hi (by simpa using hi')
    exact ⟨this.1, World.ownsRow.kept this.2.1 hg (h4 i k hi hkt (fun e' => e e'.symm)), this.2.2⟩

theorem setD0 {ts : List (Bool × Value × Int × Int)} {k : Nat} (hk : k < ts.length) (b : Bool) : (cellsD ts).set (k * 4) (.bool b) = cellsD (ts.set k (b, ts[k].2.1, ts[k].2.2.1, ts[k].2.2.2)) := by
  obtain ⟨_, q1, q2, q3⟩ := cellsD_get ts k hk
  rw [← setD ts k hk (b, ts[k].2.1, ts[k].2.2.1, ts[k].2.2.2)]
  rw [WideElems.set_self ((cellsD ts).set (k * 4) (.bool b)) (k * 4 + 1) ts[k].2.1 (by rw [List.getElem?_set_ne (by omega)]; exact q1)]
  rw [WideElems.set_self ((cellsD ts).set (k * 4) (.bool b)) (k * 4 + 2) (.int .i64 ts[k].2.2.1) (by rw [List.getElem?_set_ne (by omega)]; exact q2)]
  rw [WideElems.set_self ((cellsD ts).set (k * 4) (.bool b)) (k * 4 + 3) (.int .i64 ts[k].2.2.2) (by rw [List.getElem?_set_ne (by omega)]; exact q3)]
theorem setD2 {ts : List (Bool × Value × Int × Int)} {k : Nat} (hk : k < ts.length) (r : Int) : (cellsD ts).set (k * 4 + 2) (.int .i64 r) = cellsD (ts.set k (ts[k].1, ts[k].2.1, r, ts[k].2.2.2)) := by
  obtain ⟨q0, q1, _, q3⟩ := cellsD_get ts k hk
  rw [← setD ts k hk (ts[k].1, ts[k].2.1, r, ts[k].2.2.2)]
  rw [WideElems.set_self (cellsD ts) (k * 4) (.bool ts[k].1) q0, WideElems.set_self (cellsD ts) (k * 4 + 1) ts[k].2.1 q1]
  rw [WideElems.set_self ((cellsD ts).set (k * 4 + 2) (.int .i64 r)) (k * 4 + 3) (.int .i64 ts[k].2.2.2) (by rw [List.getElem?_set_ne (by omega)]; exact q3)]
theorem setD3 {ts : List (Bool × Value × Int × Int)} {k : Nat} (hk : k < ts.length) (m : Int) : (cellsD ts).set (k * 4 + 3) (.int .i64 m) = cellsD (ts.set k (ts[k].1, ts[k].2.1, ts[k].2.2.1, m)) := by
  obtain ⟨q0, q1, q2, _⟩ := cellsD_get ts k hk
  rw [← setD ts k hk (ts[k].1, ts[k].2.1, ts[k].2.2.1, m)]
  rw [WideElems.set_self (cellsD ts) (k * 4) (.bool ts[k].1) q0, WideElems.set_self (cellsD ts) (k * 4 + 1) ts[k].2.1 q1, WideElems.set_self (cellsD ts) (k * 4 + 2) (.int .i64 ts[k].2.2.1) q2]

/-- A store that turns one of the other three cells. -/
theorem OwnD.field {B : Nat} {w : World} {g n cap : Nat} {ds : List Dd} (h : OwnD B w (.slice (some ⟨g, 0, none⟩) n cap) ds) (k : Nat) (hk : k < ds.length) (j : Nat) (z : Value) (b : Bool) (r m : Int)
    (hj : (j = 0 ∧ z = .bool b ∧ r = ds[k].right ∧ m = ds[k].near) ∨ (j = 2 ∧ z = .int .i64 r ∧ b = ds[k].back ∧ m = ds[k].near) ∨ (j = 3 ∧ z = .int .i64 m ∧ b = ds[k].back ∧ r = ds[k].right)) :
    OwnD B (w.setCell ⟨g, k * 4 + j, none⟩ z) (.slice (some ⟨g, 0, none⟩) n cap) (ds.set k ⟨b, ds[k].code, r, m⟩) ∧ w.grownBy (w.setCell ⟨g, k * 4 + j, none⟩ z) (some g) := by
  obtain ⟨ts, h1, h2, h3, h4⟩ := h
  have hkt : k < ts.length := by omega
  obtain ⟨hn, _⟩ := OwnD.row h1 h2 (by omega)
  obtain ⟨e0, e1, e2, e3⟩ := h3 k hkt hk
  have hst : OwnQ B (w.setCell ⟨g, k * 4 + j, none⟩ z) (.slice (some ⟨g, 0, none⟩) n cap) (ts.set k (b, ts[k].2.1, r, m)) ∧ w.grownBy (w.setCell ⟨g, k * 4 + j, none⟩ z) (some g) := by
    unfold OwnQ at h1 ⊢
    rw [← hn] at h1
    have q := World.ownsRow.stored h1 (k * 4 + j) z
    rw [List.length_set, ← hn]
    rcases hj with ⟨rfl, rfl, rfl, rfl⟩ | ⟨rfl, rfl, rfl, rfl⟩ | ⟨rfl, rfl, rfl, rfl⟩
    · rw [Nat.add_zero, setD0 hkt, e2, e3] at q
      exact q
    · rw [setD2 hkt, e0, e3] at q
      exact q
    · rw [setD3 hkt, e0, e2] at q
      exact q
  have hkeep : ∀ z' ys, OwnI B w z' ys → OwnI B (w.setCell ⟨g, k * 4 + j, none⟩ z) z' ys := fun z' ys hz => by
    refine World.ownsRow.kept hz hst.2 ?_
    have := own_apart hz h1 (by decide)
    simpa [Value.ownBlock] using this
  refine ⟨⟨ts.set k (b, ts[k].2.1, r, m), hst.1, by simpa using h2, fun i hi hi' => ?_, fun i j hi hj hij => ?_⟩, hst.2⟩
  · rw [List.getElem_set, List.getElem_set]
    split
    · rename_i e; subst e
      exact ⟨rfl, hkeep _ _ e1, rfl, rfl⟩
    · have := h3 i (by simpa using hi) (by simpa using hi')
      exact ⟨this.1, hkeep _ _ this.2.1, this.2.2⟩
  · simp only [List.length_set] at hi hj
    have e : ∀ i (hi : i < ts.length), ((ts.set k (b, ts[k].2.1, r, m))[i]'(by simpa using hi)).2.1 = ts[i].2.1 := fun i hi => by
      rw [List.getElem_set]
      split
      · rename_i e; subst e; rfl
      · rfl
    rw [e i hi, e j hj]
    exact h4 i j hi hj hij

theorem infoDeed : (Tryd.prog.info? 26).map (fun i => (i.zero, i.size, i.bytes)) = some (some (.agg #[.bool false, .slice none 0 0, .int .i64 0, .int .i64 0]), 4, 48) := by kernel_rfl

theorem OwnD.pushed {B : Nat} {w : World} {v : Value} {ds : List Dd} (h : OwnD B w v ds) {u : Value} {y : Dd} (hu : OwnI B w u y.code)
    (hd : ∀ ts : List (Bool × Value × Int × Int), OwnQ B w v ts → ∀ i (h : i < ts.length), u.ownBlock = none ∨ ts[i].2.1.ownBlock = none ∨ ts[i].2.1.ownBlock ≠ u.ownBlock) :
    ∃ ts : List (Bool × Value × Int × Int), w.ownsRow B 26 4 v ds.length (cellsD ts) ∧ ts.length = ds.length ∧
      ∀ w' v', w'.ownsRow B 26 4 v' (ds.length + 1) (cellsD ts ++ [.bool y.back, u, .int .i64 y.right, .int .i64 y.near]) → w.grownBy w' v.ownBlock → OwnD B w' v' (ds ++ [y]) := by
  obtain ⟨ts, h1, h2, h3, h4⟩ := h
  refine ⟨ts, by rw [← h2]; exact h1, h2, fun w' v' h5 h6 => ?_⟩
  have hap : ∀ z ys, OwnI B w z ys → OwnI B w' z ys := fun z ys hz => World.ownsRow.kept hz h6 (own_apart hz h1 (by decide))
  refine ⟨ts ++ [(y.back, u, y.right, y.near)], ?_, by simp [h2], fun i hi' hi'' => ?_, fun i j hi' hj' hij => ?_⟩
  · unfold OwnQ
    rw [cellsD_append]
    simpa [h2, cellsD, dC] using h5
  · by_cases hlt : i < ts.length
    · rw [List.getElem_append_left hlt, List.getElem_append_left (by omega)]
      have := h3 i hlt (by omega)
      exact ⟨this.1, hap _ _ this.2.1, this.2.2⟩
    · have e : i = ts.length := by simp at hi'; omega
      subst e
      have := hap _ _ hu
      simp only [List.getElem_append_right (Nat.le_refl _), Nat.sub_self, List.getElem_cons_zero]
      have e2 : (ds ++ [y])[ts.length]'hi'' = y := by simp [h2]
      rw [e2]
      exact ⟨rfl, this, rfl, rfl⟩
  · simp only [List.length_append, List.length_cons, List.length_nil] at hi' hj'
    by_cases h7 : i < ts.length
    · rw [List.getElem_append_left h7]
      by_cases h8 : j < ts.length
      · rw [List.getElem_append_left h8]; exact h4 i j h7 h8 hij
      · have e : j = ts.length := by omega
        subst e
        rw [List.getElem_append_right (Nat.le_refl _)]
        simp only [Nat.sub_self, List.getElem_cons_zero]
        rcases hd ts h1 i h7 with h | h | h
        · rw [h]; by_cases e : ts[i].2.1.ownBlock = none
          · exact .inl e
          · exact .inr e
        · exact .inl h
        · exact .inr h
    · have e : i = ts.length := by omega
      subst e
      rw [List.getElem_append_right (Nat.le_refl _), List.getElem_append_left (show j < ts.length by omega)]
      simp only [Nat.sub_self, List.getElem_cons_zero]
      rcases hd ts h1 j (by omega) with h | h | h
      · exact .inl h
      · rw [h]; by_cases e : u.ownBlock = none
        · exact .inl e
        · exact .inr e
      · exact .inr (fun e => h e.symm)

/-- Codes of an older world lie in older blocks. -/
theorem deed_oldA {B : Nat} {w w2 : World} {v : Value} {ds : List Dd} (h : OwnD B w v ds) (hb : Above B w w2) {u : Value} {x : List Int} (hu : OwnI w.heap.size w2 u x) :
    ∀ ts : List (Bool × Value × Int × Int), OwnQ B w2 v ts → ∀ i (h : i < ts.length), u.ownBlock = none ∨ ts[i].2.1.ownBlock = none ∨ ts[i].2.1.ownBlock ≠ u.ownBlock := by
  intro ts hts i hi
  obtain ⟨ts', h1, h2, h3, _⟩ := h
  have e : ts[i].2.1 = (ts'.getD i (false, undef, 0, 0)).2.1 ∧ i < ts'.length := by
    have h1' : OwnQ B w2 v ts' := owns_keep h1 hb
    obtain ⟨a, cap, e1, _, _, q1⟩ := hts.opened
    obtain ⟨a', cap', e1', _, _, q2⟩ := h1'.opened
    rw [e1] at e1'
    injection e1' with f1 f2 f3
    have hi' : i < ts'.length := by omega
    obtain ⟨g, rfl, _, _, c1, _⟩ := q1 (by omega)
    obtain ⟨g', f4, _, _, c2, _⟩ := q2 (by omega)
    rw [f4] at f1
    injection f1 with f1
    injection f1 with f1 _
    subst f1
    have a1 := (c1 i hi).2.1
    have a2 := (c2 i hi').2.1
    rw [a1] at a2
    exact ⟨by rw [Option.some.inj a2]; simp [List.getD, List.getElem?_eq_getElem hi'], hi'⟩
  obtain ⟨e, hi'⟩ := e
  have e' : (ts'.getD i (false, undef, 0, 0)).2.1 = ts'[i].2.1 := by simp [List.getD, List.getElem?_eq_getElem hi']
  rw [e, e']
  by_cases hn : u.ownBlock = none
  · exact .inl hn
  obtain ⟨m, hm⟩ := Option.ne_none_iff_exists'.1 hn
  by_cases hn' : ts'[i].2.1.ownBlock = none
  · exact .inr (.inl hn')
  obtain ⟨m', hm'⟩ := Option.ne_none_iff_exists'.1 hn'
  have h4 := (World.ownsRow.lt hu m hm).1
  have h5 := (World.ownsRow.lt (h3 i hi' (by omega)).2.1 m' hm').2
  exact .inr (.inr (by rw [hm, hm']; simp; omega))

theorem OwnD.apartNew {B : Nat} {w w2 : World} {g n cap : Nat} {ds : List Dd} (h : OwnD B w (.slice (some ⟨g, 0, none⟩) n cap) ds) (hb : Below w.heap.size w w2) {u : Value} {x : List Int} (hu : OwnI w.heap.size w2 u x) (k : Nat) :
    ∀ i z, i < ds.length → i ≠ k → w2.cell? ⟨g, i * 4 + 1, none⟩ = some z → z.ownBlock = none ∨ u.ownBlock = none ∨ z.ownBlock ≠ u.ownBlock := by
  intro i z hi _ hz
  obtain ⟨ts, h1, h2, h3, h4⟩ := h.below hb
  obtain ⟨_, hcs⟩ := OwnD.row h1 h2 (by omega)
  have e := (hcs i (by omega)).2.1
  rw [hz] at e
  obtain rfl := Option.some.inj e
  have := deed_oldA h (.of_below hb) hu ts h1 i (by omega)
  rcases this with q | q | q
  · exact .inr (.inl q)
  · exact .inl q
  · exact .inr (.inr q)

/-- 'append(out, Deed{..})', its code in a block that is none of out's. -/
theorem wpList_push_d (w : World) {ops : Array Oper} {rest : List Oper} {o : Oper} {a : Act} {Q : Exit → Act → World → Prop}
    (hg : o.guard = none) (s x : Operand) (hop : o.op = Op.call { callee := Callee.builtin Builtin.append, args := #[s, x], argTypes := #[32, 32] })
    (B : Nat) (v : Value) (ds : List Dd) (hs : a.eval s = v) (hown : OwnD B w v ds) (N : Nat) (c : Nat) (u : Value) (y : Dd) (hx : a.eval x = .slice (some ⟨N, 0, none⟩) 1 c)
    (hc : w.heap[N]? = some (.cells #[.bool y.back, u, .int .i64 y.right, .int .i64 y.near] 26 (0, 0))) (hu : OwnI B w u y.code)
    (hd : ∀ ts : List (Bool × Value × Int × Int), OwnQ B w v ts → ∀ i (h : i < ts.length), u.ownBlock = none ∨ ts[i].2.1.ownBlock = none ∨ ts[i].2.1.ownBlock ≠ u.ownBlock)
    (hlen : ds.length ≤ 1000000000000) (hB : B ≤ w.heap.size)
    (hK : ∀ a' cap' w', OwnD B w' (.slice a' (ds.length + 1) cap') (ds ++ [y]) → w.grownBy w' v.ownBlock → wpList Tryd.prog ops Q rest (a.put o.dst (.slice a' (ds.length + 1) cap')) w') :
    wpList Tryd.prog ops Q (o :: rest) a w := by
  obtain ⟨i0, hi, hz0, hz1, hz2⟩ := info_parts infoDeed
  obtain ⟨ts, t1, t2, t3⟩ := hown.pushed hu hd
  have hone : u.oneCell' = true := by
    obtain ⟨_, _, rfl, _⟩ := own_shape hu
    rfl
  refine wpList_append_own w hg s x 32 hop B 26 i0 (.agg #[.bool false, .slice none 0 0, .int .i64 0, .int .i64 0]) 4 48 Tryd.underlying32 hi hz0 hz1 hz2 rfl (by decide) v ds.length (cellsD ts) hs t1 ⟨N, 0, none⟩ 1 c [.bool y.back, u, .int .i64 y.right, .int .i64 y.near] hx rfl (fun j z hj => World.news_of_block hc j z (by simpa using hj)) ?_ (by unfold maxLen; omega) (by omega) hB ?_
  · intro z hz
    simp only [List.mem_cons, List.mem_nil_iff, or_false] at hz
    rcases hz with rfl | rfl | rfl | rfl
    · rfl
    · exact hone
    · rfl
    · rfl
  · intro v' w' h5 h6 _
    obtain ⟨a', cap', rfl, _⟩ := own_shape h5
    exact hK a' cap' w' (t3 w' _ h5 h6) h6

theorem cells_nilsD (n : Nat) : (madeCells #[Value.bool false, .slice none 0 0, .int .i64 0, .int .i64 0] (n * 4)).toList = cellsD (List.replicate n (false, .slice none 0 0, 0, 0)) := by
  have hl : (cellsD (List.replicate n (false, Value.slice none 0 0, (0 : Int), (0 : Int)))).length = n * 4 := by rw [cellsD_length]; simp
  refine List.ext_getElem (by rw [hl]; simp [madeCells]) fun i h1 h2 => ?_
  have hi : i < n * 4 := by rw [hl] at h2; exact h2
  have hq : i / 4 < n := by omega
  have hq' : i / 4 < (List.replicate n (false, Value.slice none 0 0, (0 : Int), (0 : Int))).length := by simpa using hq
  obtain ⟨g0, g1, g2, g3⟩ := cellsD_get (List.replicate n (false, Value.slice none 0 0, (0 : Int), (0 : Int))) (i / 4) hq'
  have hm : i % 4 = 0 ∨ i % 4 = 1 ∨ i % 4 = 2 ∨ i % 4 = 3 := by omega
  have e2 := List.getElem?_eq_getElem h2
  simp only [List.getElem_replicate] at g0 g1 g2 g3
  rcases hm with hm | hm | hm | hm
  · rw [show i / 4 * 4 = i by omega, e2] at g0
    rw [Option.some.inj g0]; simp [madeCells, hm]
  · rw [show i / 4 * 4 + 1 = i by omega, e2] at g1
    rw [Option.some.inj g1]; simp [madeCells, hm]
  · rw [show i / 4 * 4 + 2 = i by omega, e2] at g2
    rw [Option.some.inj g2]; simp [madeCells, hm]
  · rw [show i / 4 * 4 + 3 = i by omega, e2] at g3
    rw [Option.some.inj g3]; simp [madeCells, hm]
theorem own_nilsD {w : World} {B n : Nat} {v : Value} (h : w.ownsRow B 26 4 v n (madeCells (Value.agg #[.bool false, .slice none 0 0, .int .i64 0, .int .i64 0]).cells (n * 4)).toList) : OwnD B w v (List.replicate n ⟨false, [], 0, 0⟩) := by
  rw [show (Value.agg #[.bool false, .slice none 0 0, .int .i64 0, .int .i64 0]).cells = #[.bool false, .slice none 0 0, .int .i64 0, .int .i64 0] from rfl, cells_nilsD] at h
  refine ⟨List.replicate n (false, .slice none 0 0, 0, 0), ?_, by simp, fun i hi hi' => ?_, fun i j hi hj _ => ?_⟩
  · unfold OwnQ
    simpa using h
  · simp only [List.getElem_replicate]
    exact ⟨trivial, OwnI.empty B w, trivial, trivial⟩
  · left
    simp [Value.ownBlock]

/-- 'make([]Deed, n)'. -/
theorem wpList_make_deeds (w : World) {ops : Array Oper} {rest : List Oper} {o : Oper} {a : Act} {Q : Exit → Act → World → Prop}
    (hg : o.guard = none) (l c : Operand) (hop : o.op = Op.makeSlice 32 l c)
    (L C : Int) (n : Nat) (hl : a.eval l = .int .i64 L) (hc : a.eval c = .int .i64 C) (hL : L = (n : Int)) (hC : C = (n : Int)) (b2 : n ≤ 10000000000)
    (hK : ∀ w', OwnD w.heap.size w' (.slice (some ⟨w.heap.size, 0, none⟩) n n) (List.replicate n ⟨false, [], 0, 0⟩) → Below w.heap.size w w' → w.heap.size < w'.heap.size →
      wpList Tryd.prog ops Q rest (a.put o.dst (.slice (some ⟨w.heap.size, 0, none⟩) n n)) w') :
    wpList Tryd.prog ops Q (o :: rest) a w := by
  obtain ⟨i0, hi, hz0, hz1, hz2⟩ := info_parts infoDeed
  refine wpList_make_full w hg l c 32 hop w.heap.size 26 i0 (.agg #[.bool false, .slice none 0 0, .int .i64 0, .int .i64 0]) 4 Tryd.underlying32 hi hz0 hz1 .i64 .i64 L C n hl hc hL hC (by rw [hz2]; omega) (by unfold maxLen; omega) (Nat.le_refl _) ?_
  intro w' h1 h2
  refine hK w' (own_nilsD h1) ((Below.refl _ w).grown h2 (Nat.le_refl _) (by simp)) ?_
  exact (World.ownsRow.lt h1 _ rfl).2

end Go.Proofs.YtenlngclocfnlaaDoor
