/- The drawing of desks. -/
import Derived.Test.YtenlngclocfnlaaGreatDoorBunG
namespace Go.Proofs.YtenlngclocfnlaaGreatDoor
open Go.RowKit
set_option linter.unusedVariables false
set_option maxRecDepth 100000

/-- A drawn desk. -/
def DeskDrawn (K : Nat) (a : Option Addr) (cap : Nat) (bs : List Int) (p : Int) (w : World) (e : Ending) (w' : World) : Prop :=
  ∃ (x c : Int) (gs : List Gs) (a' : Option Addr) (c' : Nat), e = .returned (dkV x c (.slice a' gs.length c')) ∧ OwnG w.heap.size w' (.slice a' gs.length c') gs ∧ In64G gs ∧ gs.length ≤ 5 ∧ 0 ≤ x ∧ x ≤ 4 ∧ 0 ≤ c ∧ c ≤ 4 ∧ (∀ g ∈ gs, g.code.length ≤ 10) ∧ Drew K a cap bs p 110 w w'

def zeroRow : Array Value := #[.int .i64 0, .int .i64 0, .slice none 0 0]
/-- The state of the walk: the desk in block D, the result's cell in block R. -/
def DkW (w w2 : World) (K : Nat) (a : Option Addr) (cap : Nat) (bs : List Int) (q : Int) (D : Nat) (x c : Int) (gs : List Gs) (ao : Option Addr) (k co : Nat) (wi : World) : Prop :=
  wi.heap[D]? = some (.cells #[.int .i64 x, .int .i64 c, .slice ao k co] 30 (0, 0)) ∧ OwnG (w.heap.size + 1) w2 (.slice ao k co) (gs.take k) ∧ k ≤ gs.length ∧ Above (w.heap.size + 1) w2 wi ∧
    wi.heap[w.heap.size]? = some (.cells zeroRow 30 (0, 0)) ∧ (∃ p', Rd wi K a cap bs p' ∧ p' ≤ q) ∧ w.grownBy wi (some K) ∧ w2.heap.size ≤ wi.heap.size ∧ w2.heap.size ≤ D ∧ w.heap.size < w2.heap.size
theorem DkW.below {w w2 : World} {K : Nat} {a : Option Addr} {cap : Nat} {bs : List Int} {q : Int} {D : Nat} {x c : Int} {gs : List Gs} {ao : Option Addr} {k co : Nat} {wi wj : World} (h : DkW w w2 K a cap bs q D x c gs ao k co wi) (hb : Below wi.heap.size wi wj) : DkW w w2 K a cap bs q D x c gs ao k co wj := by
  obtain ⟨h1, h2, h3, h4, h5, ⟨p', h6, h7⟩, h8, h9, h10, h11⟩ := h
  exact ⟨(hb.block _ (Array.getElem?_eq_some_iff.1 h1).1).trans h1, h2, h3, above_step h4 h9 (.of_below hb), (hb.block _ (Array.getElem?_eq_some_iff.1 h5).1).trans h5, ⟨p', h6.below hb, h7⟩, grown_trans h8 (grown_of_below hb), by have := hb.size; omega, h10, h11⟩
theorem DkW.step {w w2 : World} {K : Nat} {a : Option Addr} {cap : Nat} {bs : List Int} {q : Int} {D : Nat} {x c : Int} {gs : List Gs} {ao : Option Addr} {k co : Nat} {wi wj : World} {p' : Int} (h : DkW w w2 K a cap bs q D x c gs ao k co wi) (hK : K < w.heap.size) (hR : Rd wj K a cap bs p') (hp : p' ≤ q + 1) (hg : wi.grownBy wj (some K)) : DkW w w2 K a cap bs (q + 1) D x c gs ao k co wj := by
  obtain ⟨h1, h2, h3, h4, h5, _, h8, h9, h10, h11⟩ := h
  exact ⟨(hg.block _ (Array.getElem?_eq_some_iff.1 h1).1 (by simp; omega)).trans h1, h2, h3, above_step h4 h9 (Above.of_grown hg (by omega)), (hg.block _ (Array.getElem?_eq_some_iff.1 h5).1 (by simp; omega)).trans h5, ⟨p', hR, hp⟩, grown_trans h8 hg, by have := hg.size; omega, h10, h11⟩
theorem DkW.owns {w w2 : World} {K : Nat} {a : Option Addr} {cap : Nat} {bs : List Int} {q : Int} {D : Nat} {x c : Int} {gs : List Gs} {ao : Option Addr} {k co : Nat} {wi : World} (h : DkW w w2 K a cap bs q D x c gs ao k co wi) : OwnG (w.heap.size + 1) wi (.slice ao k co) (gs.take k) := h.2.1.keep h.2.2.2.1
theorem DkW.facts {w w2 : World} {K : Nat} {a : Option Addr} {cap : Nat} {bs : List Int} {q : Int} {D : Nat} {x c : Int} {gs : List Gs} {ao : Option Addr} {k co : Nat} {wi : World} (h : DkW w w2 K a cap bs q D x c gs ao k co wi) :
    (wi.cell? ⟨D, 0, none⟩ = some (.int .i64 x) ∧ wi.cell? ⟨D, 1, none⟩ = some (.int .i64 c) ∧ wi.cell? ⟨D, 2, none⟩ = some (.slice ao k co) ∧ ∀ j, wi.frozen? ⟨D, j, none⟩ = false) ∧
    wi.cell? ⟨w.heap.size, 0, none⟩ = some (.int .i64 0) ∧ wi.cell? ⟨w.heap.size, 1, none⟩ = some (.int .i64 0) ∧ wi.cell? ⟨w.heap.size, 2, none⟩ = some (.slice none 0 0) ∧ (∀ j, wi.frozen? ⟨w.heap.size, j, none⟩ = false) ∧ w.heap.size < D := by
  obtain ⟨h1, _, _, _, h5, _, _, _, h10, h11⟩ := h
  refine ⟨⟨?_, ?_, ?_, fun j => frozen_of_row _ _ j _ _ h1⟩, ?_, ?_, ?_, fun j => frozen_of_row _ _ j _ _ h5, by omega⟩
  · rw [cell_of_row _ _ _ _ _ _ h1]; simp
  · rw [cell_of_row _ _ _ _ _ _ h1]; simp
  · rw [cell_of_row _ _ _ _ _ _ h1]; simp
  · rw [cell_of_row _ _ _ _ _ _ h5]; simp [zeroRow]
  · rw [cell_of_row _ _ _ _ _ _ h5]; simp [zeroRow]
  · rw [cell_of_row _ _ _ _ _ _ h5]; simp [zeroRow]
theorem DkW.odd {w w2 : World} {K : Nat} {a : Option Addr} {cap : Nat} {bs : List Int} {q n : Int} {D : Nat} {x c : Int} {gs : List Gs} {ao : Option Addr} {k co : Nat} {wi : World} (h : DkW w w2 K a cap bs q D x c gs ao k co wi) (hK : K < w.heap.size) (hq : q ≤ 100000000000) (hn : In64 n) :
    Calls Tryz.prog 48 #[.pointer (some ⟨K, 0, none⟩), .int .i64 n] wi fun e w' => ∃ b, e = .returned (.bool b) ∧ DkW w w2 K a cap bs (q + 1) D x c gs ao k co w' := by
  obtain ⟨p', h6, h7⟩ := h.2.2.2.2.2.1
  refine (odd_any n _ K a cap bs p' h6 (by omega) hn).mono ?_
  rintro e w' ⟨b, rfl, ⟨p2, hR, hp⟩, hg⟩
  exact ⟨b, rfl, h.step hK hR (by omega) hg⟩
theorem DkW.pick {w w2 : World} {K : Nat} {a : Option Addr} {cap : Nat} {bs : List Int} {q n : Int} {D : Nat} {x c : Int} {gs : List Gs} {ao : Option Addr} {k co : Nat} {wi : World} (h : DkW w w2 K a cap bs q D x c gs ao k co wi) (hK : K < w.heap.size) (hq : q ≤ 100000000000) (hn : In64 n) :
    Calls Tryz.prog 41 #[.pointer (some ⟨K, 0, none⟩), .int .i64 n] wi fun e w' => ∃ r, e = .returned (.int .i64 r) ∧ 0 ≤ r ∧ (1 ≤ n → r < n) ∧ DkW w w2 K a cap bs (q + 1) D x c gs ao k co w' := by
  obtain ⟨p', h6, h7⟩ := h.2.2.2.2.2.1
  refine (pick_any n _ K a cap bs p' h6 (by omega) hn).mono ?_
  rintro e w' ⟨r, rfl, hr0, hr1, ⟨p2, hR, hp⟩, hg⟩
  exact ⟨r, rfl, hr0, hr1, h.step hK hR (by omega) hg⟩
/-- One guess fewer. -/
theorem DkW.cut {w w2 : World} {K : Nat} {a : Option Addr} {cap : Nat} {bs : List Int} {q : Int} {D : Nat} {x c : Int} {gs : List Gs} {g k co : Nat} {wi : World} (h : DkW w w2 K a cap bs q D x c gs (some ⟨g, 0, none⟩) (k + 1) co wi) (hK : K < w.heap.size) : DkW w w2 K a cap bs q D x c gs (some ⟨g, 0, none⟩) k co (wi.setCell ⟨D, 2, none⟩ (.slice (some ⟨g, 0, none⟩) k co)) := by
  obtain ⟨h1, h2, h3, h4, h5, ⟨p', h6, h7⟩, h8, h9, h10, h11⟩ := h
  have hs := grownBy_setCell wi ⟨D, 2, none⟩ (.slice (some ⟨g, 0, none⟩) k co)
  refine ⟨heap_setCell_same _ _ 2 _ _ _ h1, ?_, by omega, fun b q1 q2 => ?_, ?_, ⟨p', rd_grown h6 hs (fun j hj => by cases hj; simp; omega), h7⟩, h8.andThen hs (fun j hj => .inl (by cases hj; simp; omega)), by simpa using h9, h10, h11⟩
  · have := h2.take k (by simp; omega)
    rwa [List.take_take, Nat.min_eq_left (by omega)] at this
  · rw [heap_setCell_other _ _ _ _ (by simp; omega)]; exact h4 b q1 q2
  · rw [heap_setCell_other _ _ _ _ (by simp; omega)]; exact h5

/-- No pegs. -/
theorem DkW.zeroed {w w2 : World} {K : Nat} {a : Option Addr} {cap : Nat} {bs : List Int} {q : Int} {D : Nat} {x c : Int} {gs : List Gs} {ao : Option Addr} {k co : Nat} {wi : World} (h : DkW w w2 K a cap bs q D x c gs ao k co wi) (hK : K < w.heap.size) : DkW w w2 K a cap bs q D 0 c gs ao k co (wi.setCell ⟨D, 0, none⟩ (.int .i64 0)) := by
  obtain ⟨h1, h2, h3, h4, h5, ⟨p', h6, h7⟩, h8, h9, h10, h11⟩ := h
  have hs := grownBy_setCell wi ⟨D, 0, none⟩ (.int .i64 0)
  refine ⟨heap_setCell_same _ _ 0 _ _ _ h1, h2, h3, fun b q1 q2 => ?_, ?_, ⟨p', rd_grown h6 hs (fun j hj => by cases hj; simp; omega), h7⟩, h8.andThen hs (fun j hj => .inl (by cases hj; simp; omega)), by simpa using h9, h10, h11⟩
  · rw [heap_setCell_other _ _ _ _ (by simp; omega)]; exact h4 b q1 q2
  · rw [heap_setCell_other _ _ _ _ (by simp; omega)]; exact h5
theorem DkW.done {w w2 wi : World} {K : Nat} {a : Option Addr} {cap : Nat} {bs : List Int} {p q : Int} {D : Nat} {x c : Int} {gs : List Gs} {ao : Option Addr} {k co : Nat} (h : DkW w w2 K a cap bs q D x c gs ao k co wi) (hd : ∀ (gs' : List Gs) (p' : Int), gs'.length = k → OwnG (w.heap.size + 1) wi (.slice ao gs'.length co) gs' → In64G gs' → gs'.length ≤ 5 → (∀ g ∈ gs', g.code.length ≤ 10) → Rd wi K a cap bs p' → p' ≤ q → w.grownBy wi (some K) → w.heap.size < wi.heap.size →
      DeskDrawn K a cap bs p w (.returned (dkV x c (.slice ao gs'.length co))) (((wi.setCell ⟨w.heap.size, 0, none⟩ (.int .i64 x)).setCell ⟨w.heap.size, 1, none⟩ (.int .i64 c)).setCell ⟨w.heap.size, 2, none⟩ (.slice ao gs'.length co))) (h64 : In64G gs) (hl : gs.length ≤ 4) (h10 : ∀ g ∈ gs, g.code.length ≤ 10) :
    DeskDrawn K a cap bs p w (.returned (dkV x c (.slice ao k co))) (((wi.setCell ⟨w.heap.size, 0, none⟩ (.int .i64 x)).setCell ⟨w.heap.size, 1, none⟩ (.int .i64 c)).setCell ⟨w.heap.size, 2, none⟩ (.slice ao k co)) ∧
      (((wi.setCell ⟨w.heap.size, 0, none⟩ (.int .i64 x)).setCell ⟨w.heap.size, 1, none⟩ (.int .i64 c)).setCell ⟨w.heap.size, 2, none⟩ (.slice ao k co)).heap[w.heap.size]? = some (.cells #[.int .i64 x, .int .i64 c, .slice ao k co] 30 (0, 0)) := by
  have hown := h.owns
  obtain ⟨h1, h2, h3, h4, h5, ⟨p', h6, h7⟩, h8, h9, h10', h11⟩ := h
  have hk : (gs.take k).length = k := by simp; omega
  refine ⟨?_, heap_setCell_same _ _ 2 _ _ _ (heap_setCell_same _ _ 1 _ _ _ (heap_setCell_same _ _ 0 _ _ _ h5))⟩
  have := hd (gs.take k) p' hk (by rw [hk]; exact hown) (fun g hg => h64 g (List.mem_of_mem_take hg)) (by omega) (fun g hg => h10 g (List.mem_of_mem_take hg)) h6 h7 h8 (by omega)
  rwa [hk] at this

/-- The result is stored. -/
theorem dk_done {w wi : World} {K : Nat} {a : Option Addr} {cap : Nat} {bs : List Int} {p p' : Int} {x c : Int} {gs : List Gs} {ao : Option Addr} {co : Nat} (hK : K < w.heap.size) (ho : OwnG (w.heap.size + 1) wi (.slice ao gs.length co) gs) (h64 : In64G gs) (hl : gs.length ≤ 5) (h10 : ∀ g ∈ gs, g.code.length ≤ 10)
    (hx0 : 0 ≤ x) (hx4 : x ≤ 4) (hc0 : 0 ≤ c) (hc4 : c ≤ 4) (hR : Rd wi K a cap bs p') (hp : p' ≤ p + 110) (hg : w.grownBy wi (some K)) (hw : w.heap.size < wi.heap.size) :
    DeskDrawn K a cap bs p w (.returned (dkV x c (.slice ao gs.length co))) (((wi.setCell ⟨w.heap.size, 0, none⟩ (.int .i64 x)).setCell ⟨w.heap.size, 1, none⟩ (.int .i64 c)).setCell ⟨w.heap.size, 2, none⟩ (.slice ao gs.length co)) := by
  have g1 := grownBy_setCell wi ⟨w.heap.size, 0, none⟩ (.int .i64 x)
  have g2 := grownBy_setCell (wi.setCell ⟨w.heap.size, 0, none⟩ (.int .i64 x)) ⟨w.heap.size, 1, none⟩ (.int .i64 c)
  have g3 := grownBy_setCell ((wi.setCell ⟨w.heap.size, 0, none⟩ (.int .i64 x)).setCell ⟨w.heap.size, 1, none⟩ (.int .i64 c)) ⟨w.heap.size, 2, none⟩ (.slice ao gs.length co)
  have gg := (g1.andThen g2 (fun j hj => .inr hj)).andThen g3 (fun j hj => .inr hj)
  refine ⟨x, c, gs, ao, co, rfl, (ho.keep (fun b h1 h2 => gg.block b h2 (by simp; omega))).mono (by omega), h64, hl, hx0, hx4, hc0, hc4, h10, ⟨p', rd_grown hR gg (fun j hj => by cases hj; exact hK), hp⟩, hg.andThen gg (fun j hj => .inl (by cases hj; exact Nat.le_refl _))⟩

theorem own_other {B D : Nat} {w : World} {e t : TypeId} {size n : Nat} {v : Value} {xs : List Value} {cs : Array Value} {fr : Nat × Nat} (h : w.ownsRow B e size v n xs) (hD : w.heap[D]? = some (.cells cs t fr)) (hne : e ≠ t) : v.ownBlock = none ∨ v.ownBlock ≠ some D := by
  rcases h.2 with ⟨rfl, _⟩ | ⟨g, cap, cur, rfl, _, hg, _⟩
  · exact .inl rfl
  · refine .inr fun e1 => ?_
    have e2 : g = D := by simpa [Value.ownBlock] using e1
    subst e2
    rw [hD] at hg
    injection hg with hg
    injection hg with _ hg _
    exact hne hg.symm
theorem OwnG.other {B D j : Nat} {w : World} {v z : Value} {gs : List Gs} {cs : Array Value} {fr : Nat × Nat} (h : OwnG B w v gs) (hD : w.heap[D]? = some (.cells cs 30 fr)) : OwnG B (w.setCell ⟨D, j, none⟩ z) v gs := by
  obtain ⟨ts, h1, h2, h3, h4⟩ := h
  have hs := grownBy_setCell w ⟨D, j, none⟩ z
  exact ⟨ts, World.ownsRow.kept h1 hs (own_other h1 hD (by decide)), h2, fun i hi hi' => ⟨World.ownsRow.kept (h3 i hi hi').1 hs (own_other (h3 i hi hi').1 hD (by decide)), (h3 i hi hi').2⟩, h4⟩
/-- The world in which the wrong guess is put behind. -/
def wrongW (w6 : World) (N : Nat) : World := ((w6.alloc (.cells (madeCells #[.int .i64 0] N) 3)).alloc (.cells #[.slice (some ⟨w6.heap.size, 0, none⟩) N N, .int .i64 ((N : Int) + 1), .int .i64 0] 39)).drew
theorem DkW.wrong {w w2 : World} {K : Nat} {a : Option Addr} {cap : Nat} {bs : List Int} {p q : Int} {D : Nat} {c : Int} {gs : List Gs} {ao : Option Addr} {k co : Nat} {w6 : World} {N : Nat} (h : DkW w w2 K a cap bs q D N c gs ao k co w6) (hK : K < w.heap.size) (hN : N ≤ 3) (h64 : In64G gs) (hl : gs.length ≤ 4) (h10 : ∀ g ∈ gs, g.code.length ≤ 10) (hc0 : 0 ≤ c) (hc4 : c ≤ 4) (hq : q ≤ p + 110) :
    ∃ ts : List (Value × Int × Int), (wrongW w6 N).ownsRow (w.heap.size + 1) 39 3 (.slice ao k co) k (cellsT ts) ∧
      (∀ j u, [Value.slice (some ⟨w6.heap.size, 0, none⟩) N N, .int .i64 ((N : Int) + 1), .int .i64 0][j]? = some u → (wrongW w6 N).cell? ((⟨w6.heap.size + 1, 0, none⟩ : Addr).add j) = some u) ∧ w.heap.size + 1 ≤ (wrongW w6 N).heap.size ∧
      ∀ (w7 : World) (g7 c7 : Nat), w7.ownsRow (w.heap.size + 1) 39 3 (.slice (some ⟨g7, 0, none⟩) (k + 1) c7) (k + 1) (cellsT ts ++ [Value.slice (some ⟨w6.heap.size, 0, none⟩) N N, .int .i64 ((N : Int) + 1), .int .i64 0]) → (wrongW w6 N).grownBy w7 (Value.slice ao k co).ownBlock →
        (w7.heap[D]? = some (.cells #[.int .i64 N, .int .i64 c, .slice ao k co] 30 (0, 0)) ∧ w7.heap[w.heap.size]? = some (.cells zeroRow 30 (0, 0))) ∧
        DeskDrawn K a cap bs p w (.returned (dkV N c (.slice (some ⟨g7, 0, none⟩) (k + 1) c7))) ((((w7.setCell ⟨D, 2, none⟩ (.slice (some ⟨g7, 0, none⟩) (k + 1) c7)).setCell ⟨w.heap.size, 0, none⟩ (.int .i64 N)).setCell ⟨w.heap.size, 1, none⟩ (.int .i64 c)).setCell ⟨w.heap.size, 2, none⟩ (.slice (some ⟨g7, 0, none⟩) (k + 1) c7)) ∧
        ((((w7.setCell ⟨D, 2, none⟩ (.slice (some ⟨g7, 0, none⟩) (k + 1) c7)).setCell ⟨w.heap.size, 0, none⟩ (.int .i64 N)).setCell ⟨w.heap.size, 1, none⟩ (.int .i64 c)).setCell ⟨w.heap.size, 2, none⟩ (.slice (some ⟨g7, 0, none⟩) (k + 1) c7)).heap[w.heap.size]? = some (.cells #[.int .i64 N, .int .i64 c, .slice (some ⟨g7, 0, none⟩) (k + 1) c7] 30 (0, 0)) := by
  have hown := h.owns
  obtain ⟨h1, h2, h3, h4, h5, ⟨p', h6, h7⟩, h8, h9, h10', h11⟩ := h
  have hk : (gs.take k).length = k := by simp; omega
  have hbA : Below w6.heap.size w6 (wrongW w6 N) := below_drewN (((Below.refl w6.heap.size w6).alloc (Nat.le_refl _) (.cells (madeCells #[.int .i64 0] N) 3)).alloc (by simp) (.cells #[.slice (some ⟨w6.heap.size, 0, none⟩) N N, .int .i64 ((N : Int) + 1), .int .i64 0] 39)) 1
  have hsz : (wrongW w6 N).heap.size = w6.heap.size + 2 := by unfold wrongW; show (World.alloc _ _).heap.size = _; simp
  have hz0 : (wrongW w6 N).heap[w6.heap.size]? = some (.cells (madeCells #[.int .i64 0] N) 3 (0, 0)) := by
    show (World.alloc _ _).heap[w6.heap.size]? = _
    rw [heap_alloc_old _ _ (by simp)]; exact heap_alloc_new w6 _
  have hz1 : (wrongW w6 N).heap[w6.heap.size + 1]? = some (.cells #[.slice (some ⟨w6.heap.size, 0, none⟩) N N, .int .i64 ((N : Int) + 1), .int .i64 0] 39 (0, 0)) := by
    have q := @Go.heap_alloc_new (w6.alloc (.cells (madeCells #[.int .i64 0] N) 3)) (.cells #[.slice (some ⟨w6.heap.size, 0, none⟩) N N, .int .i64 ((N : Int) + 1), .int .i64 0] 39)
    rw [World.size_alloc] at q
    exact q
  have hu : OwnI (w.heap.size + 1) (wrongW w6 N) (.slice (some ⟨w6.heap.size, 0, none⟩) N N) (List.replicate N 0) := by
    refine own_zeros_int ⟨by simp [madeCells], .inr ⟨w6.heap.size, N, _, rfl, by omega, hz0, Nat.le_refl _, by unfold maxLen; omega, by simp [madeCells], ?_⟩⟩
    rw [List.take_of_length_le (by simp [madeCells])]
    simp [Value.cells]
  have hd : ∀ ts : List (Value × Int × Int), OwnT (w.heap.size + 1) (wrongW w6 N) (.slice ao k co) ts → ∀ i (h : i < ts.length), (Value.slice (some ⟨w6.heap.size, 0, none⟩) N N).ownBlock = none ∨ ts[i].1.ownBlock = none ∨ ts[i].1.ownBlock ≠ (Value.slice (some ⟨w6.heap.size, 0, none⟩) N N).ownBlock := by
    have hu' : OwnI w6.heap.size (wrongW w6 N) (.slice (some ⟨w6.heap.size, 0, none⟩) N N) (List.replicate N 0) := by
      refine own_zeros_int ⟨by simp [madeCells], .inr ⟨w6.heap.size, N, _, rfl, Nat.le_refl _, hz0, Nat.le_refl _, by unfold maxLen; omega, by simp [madeCells], ?_⟩⟩
      rw [List.take_of_length_le (by simp [madeCells])]
      simp [Value.cells]
    exact guess_old hown hbA hu'
  obtain ⟨ts, t1, t2, t3⟩ := OwnG.pushed (hown.below hbA) (y := ⟨List.replicate N 0, (N : Int) + 1, 0⟩) hu hd
  rw [hk] at t1 t2 t3
  refine ⟨ts, t1, ?_, by omega, fun w7 g7 c7 q1 q2 => ?_⟩
  · intro j u hj
    have := World.news_of_block hz1 j u (by simpa using hj)
    exact this
  · have hblk : ∀ j, (Value.slice ao k co).ownBlock = some j → w.heap.size + 1 ≤ j ∧ j < w2.heap.size := fun j hj => h2.lt j hj
    have ho7 := t3 w7 _ q1 q2
    have hD7 : w7.heap[D]? = some (.cells #[.int .i64 N, .int .i64 c, .slice ao k co] 30 (0, 0)) := by
      have hlt := (Array.getElem?_eq_some_iff.1 h1).1
      rw [q2.block D (by omega) (fun e => by have := hblk D e.symm; omega), hbA.block D hlt]; exact h1
    have hR7 : w7.heap[w.heap.size]? = some (.cells zeroRow 30 (0, 0)) := by
      have hlt := (Array.getElem?_eq_some_iff.1 h5).1
      rw [q2.block _ (by omega) (fun e => by have := hblk _ e.symm; omega), hbA.block _ hlt]; exact h5
    have hs7 := q2.size
    have gD := grownBy_setCell w7 ⟨D, 2, none⟩ (.slice (some ⟨g7, 0, none⟩) (k + 1) c7)
    have g7' : w.grownBy w7 (some K) := ((grown_trans h8 (grown_of_below hbA)).andThen q2 (fun j hj => .inl (by have := (hblk j hj).1; omega)))
    have hR6 := rd_grown (h6.below hbA) q2 (fun j hj => by have := (hblk j hj).1; omega)
    have hRR : (w7.setCell ⟨D, 2, none⟩ (.slice (some ⟨g7, 0, none⟩) (k + 1) c7)).heap[w.heap.size]? = some (.cells zeroRow 30 (0, 0)) := by
      rw [heap_setCell_other _ _ _ _ (by simp; omega)]; exact hR7
    have hlen : (gs.take k ++ [(⟨List.replicate N 0, (N : Int) + 1, 0⟩ : Gs)]).length = k + 1 := by simp; omega
    refine ⟨⟨hD7, hR7⟩, ?_, heap_setCell_same _ _ 2 _ _ _ (heap_setCell_same _ _ 1 _ _ _ (heap_setCell_same _ _ 0 _ _ _ hRR))⟩
    have hfin := dk_done (p := p) (x := (N : Int)) (c := c) (gs := gs.take k ++ [(⟨List.replicate N 0, (N : Int) + 1, 0⟩ : Gs)]) (ao := some ⟨g7, 0, none⟩) (co := c7) (wi := w7.setCell ⟨D, 2, none⟩ (.slice (some ⟨g7, 0, none⟩) (k + 1) c7)) hK (by rw [hlen]; exact ho7.other hD7)
      (fun g hg => by
        rcases List.mem_append.1 hg with hg | hg
        · exact h64 g (List.mem_of_mem_take hg)
        · simp only [List.mem_singleton] at hg; subst hg
          intro y hy
          rw [List.mem_replicate] at hy; rw [hy.2]; unfold In64; omega)
      (by omega) (fun g hg => by
        rcases List.mem_append.1 hg with hg | hg
        · exact h10 g (List.mem_of_mem_take hg)
        · simp only [List.mem_singleton] at hg; subst hg; simp; omega)
      (by omega) (by omega) hc0 hc4 (rd_grown hR6 gD (fun j hj => by cases hj; simp; omega)) (by omega) (g7'.andThen gD (fun j hj => .inl (by cases hj; simp; omega))) (by simp; omega)
    rwa [hlen] at hfin

set_option maxHeartbeats 1000000 in
theorem desk_any (n : Int) (w : World) (K : Nat) (a : Option Addr) (cap : Nat) (bs : List Int) (p : Int) (h : Rd w K a cap bs p) (hp : p ≤ 100000000) (hn0 : 0 ≤ n) (hn1 : n ≤ 100) :
    Calls Tryz.prog 47 #[.pointer (some ⟨K, 0, none⟩), .int .i64 n] w (DeskDrawn K a cap bs p w) := by
  have hKw := h.lt
  obtain ⟨w1, hw1⟩ : ∃ w1, w1 = w.alloc (.cells #[.int .i64 0, .int .i64 0, .slice none 0 0] 30) := ⟨_, rfl⟩
  have hb1 : Below w.heap.size w w1 := by rw [hw1]; exact (Below.refl _ _).alloc (Nat.le_refl _) _
  have hz1 : w1.heap.size = w.heap.size + 1 := by rw [hw1]; simp
  have hr1 : w1.heap[w.heap.size]? = some (.cells zeroRow 30 (0, 0)) := by rw [hw1]; exact heap_alloc_new w _
  have hG := guessing_any 0 w1 K a cap bs p (h.below hb1) (by omega) (by omega) (by omega)
  have HB1 := Lib.hid hb1
  have HR1 := Lib.hid hr1
  have HZ1 := Lib.hid hz1
  clear h hb1 hr1 hz1
  go_enter Tryz.func47, Tryz.ntmps47
  go_wp2_with fail
  rw [← hw1]
  clear hw1
  refine hG.mono ?_
  rintro e w2 ⟨x, c, gs, a2, c2, rfl, ho2, h64, hl4, hx1, _, _, hc4, hx3, h10, ⟨p2, hR2, hp2⟩, hg2⟩
  obtain ⟨hx3, hc1⟩ := hx3 rfl
  have hz12 := hg2.size
  have hz1 := HZ1.out
  have hW2 : DkW w w2 K a cap bs (p + 100) w2.heap.size x c gs a2 gs.length c2 (w2.alloc (.cells #[.int .i64 x, .int .i64 c, .slice a2 gs.length c2] 30)) := by
    have hbb : Below w2.heap.size w2 (w2.alloc (.cells #[.int .i64 x, .int .i64 c, .slice a2 gs.length c2] 30)) := (Below.refl _ _).alloc (Nat.le_refl _) _
    refine ⟨heap_alloc_new w2 _, by rw [List.take_length]; exact ho2.mono (by omega), Nat.le_refl _, .of_below hbb, ?_, ⟨p2, hR2.below hbb, hp2⟩, ((grown_of_below HB1.out).andThen hg2 (fun _ e => .inr e)).andThen (World.grownBy_alloc w2 _ none) (fun _ e => by cases e), by simp, Nat.le_refl _, by omega⟩
    rw [hbb.block _ (by omega), hg2.block _ (by omega) (by simp; omega)]
    exact HR1.out
  have HW2 := Lib.hid hW2
  have H64 := Lib.hid h64
  have H10 := Lib.hid h10
  have HD2 := Lib.hid (show w.heap.size < w2.heap.size by omega)
  have hD2 := HD2.out
  clear hG ho2 hR2 hg2 hW2 h64 h10 hz12 hz1
  go_wp2
  obtain ⟨D, hD⟩ : ∃ D, D = w2.heap.size := ⟨_, rfl⟩
  rw [← hD] at HW2 ⊢
  obtain ⟨wu, hwu⟩ : ∃ wu : World, wu = w2.alloc (.cells #[.int .i64 x, .int .i64 c, .slice a2 gs.length c2] 30) := ⟨_, rfl⟩
  rw [← hwu] at HW2 ⊢
  clear hwu hD
  go_loopw [20] (fun _ wi => ∃ (k : Nat) (ao : Option Addr) (co : Nat), DkW w w2 K a cap bs (p + 100) D x c gs ao k co wi) (fun _ wi => lenV ((wi.cell? ⟨D, 2, none⟩).getD undef))
  case atStart => exact ⟨_, _, _, HW2.out⟩
  case round =>
    obtain ⟨k, ao, co, hW⟩ := hrel
    obtain ⟨wk, rfl⟩ : ∃ x, x = wr := ⟨_, rfl⟩
    clear HW2
    obtain ⟨⟨x0, x1, x2, xk⟩, y0, y1, y2, yk, hRD⟩ := hW.facts
    have HX2 := Lib.hid x2
    have HW := Lib.hid hW
    have hk := hW.2.2.1
    have HG := Lib.hid ((hW.owns).toGL (fun g hg => H64.out g (List.mem_of_mem_take hg)))
    have hlt : (gs.take k).length = k := by simp; omega
    clear hW
    by_cases hk0 : 0 < k
    · have hO := deskOkS_any x c _ _ wk HG.out
      unfold dkV at hO
      obtain ⟨b, hb⟩ : ∃ b, b = deskB x c (gs.take k) := ⟨_, rfl⟩
      rw [← hb] at hO
      have hki : (0 : Int) < (k : Int) := by omega
      clear hb hlt
      go_wp2_with fail
      refine hO.mono ?_
      rintro e w4 ⟨rfl, hb4⟩
      have hW4 := HW.out.below hb4
      clear hO hb4 x0 x1 x2 xk y0 y1 y2 yk hRD
      obtain ⟨⟨x0, x1, x2, xk⟩, y0, y1, y2, yk, hRD⟩ := hW4.facts
      have HW4 := Lib.hid hW4
      cases b
      · obtain ⟨m, rfl⟩ : ∃ m, k = m + 1 := ⟨k - 1, by omega⟩
        obtain ⟨g, capg, he, _, _, hcg, hmg, _⟩ := (hW4.owns).opened (by simp; omega)
        injection he with he1 he2 he3
        clear he2
        subst he1 he3
        have hcut := Lib.hid (hW4.cut hKw)
        have HC2 := Lib.hid (hcut.out.facts.1.2.2.1)
        have hm1 : ((m + 1 : Nat) : Int) - 1 = (m : Int) := by omega
        have hm3 : m + 1 ≤ co := by simpa [hk] using hcg
        have hm2 : (m : Int) ≤ (co : Int) := by omega
        have hm4 : (0 : Int) ≤ (m : Int) := by omega
        clear hm3 hW4 HW HG
        go_wp2
        go_roundw
        case rel => exact ⟨m, _, co, hcut.out⟩
        case measure => rw [HC2.out, HX2.out]; simp [lenV]
      · clear HX2 HW HG hW4
        have hOd := HW4.out.odd (n := n) hKw (by omega) (by unfold In64; omega)
        clear x0 x1 x2 xk y0 y1 y2 yk hRD
        have HZ := Lib.hid HW4.out.facts
        obtain ⟨⟨x0, x1, x2, xk⟩, y0, y1, y2, yk, hRD⟩ := HZ.out
        go_wp2_with fail
        refine hOd.mono ?_
        rintro e w5 ⟨b, rfl, hW5⟩
        clear hOd HZ HW4 x0 x1 x2 xk y0 y1 y2 yk hRD
        cases b
        · have hF := hW5.done (p := p) (fun gs' p' hl' ho' hi' h5' h10' hr' hp' hg' hw' => dk_done hKw ho' hi' h5' h10' (by omega) (by omega) (by omega) hc4 hr' (by omega) hg' hw') H64.out hl4 H10.out
          obtain ⟨⟨x0, x1, x2, xk⟩, y0, y1, y2, yk, hRD⟩ := hW5.facts
          have HF := Lib.hid hF.1
          have HQ := Lib.hid hF.2
          clear hF hW5
          go_wp2
          ((try simp only [Exit.inBlock, Exit.then]); refine bodyPost_ret (results_cell_row rfl _ _ w.heap.size _ _ (0, 0) _ rfl HQ.out Tryz.underlying30 rfl (by kernel_rfl)) rfl ?_)
          exact HF.out
        · have hP := hW5.pick (n := 3) hKw (by omega) (by unfold In64; omega)
          clear hW5
          go_wp2_with fail
          refine hP.mono ?_
          rintro e w6 ⟨r, rfl, hr0, hr1, hW6⟩
          clear hP
          by_cases hr : r = 0
          · subst hr
            have hF := (hW6.zeroed hKw).done (p := p) (fun gs' p' hl' ho' hi' h5' h10' hr' hp' hg' hw' => dk_done hKw ho' hi' h5' h10' (by omega) (by omega) (by omega) hc4 hr' (by omega) hg' hw') H64.out hl4 H10.out
            obtain ⟨⟨x0, x1, x2, xk⟩, y0, y1, y2, yk, hRD⟩ := hW6.facts
            have HF := Lib.hid hF.1
            have HQ := Lib.hid hF.2
            clear hF hW6
            go_wp2
            ((try simp only [Exit.inBlock, Exit.then]); refine bodyPost_ret (results_cell_row rfl _ _ w.heap.size _ _ (0, 0) _ rfl HQ.out Tryz.underlying30 rfl (by kernel_rfl)) rfl ?_)
            exact HF.out
          · by_cases hr' : r = 1
            · subst hr'
              obtain ⟨N, rfl⟩ : ∃ N : Nat, x = (N : Int) := ⟨x.toNat, by omega⟩
              obtain ⟨⟨x0, x1, x2, xk⟩, y0, y1, y2, yk, hRD⟩ := hW6.facts
              have hk4 := hW6.2.2.1
              have hDlt := (Array.getElem?_eq_some_iff.1 hW6.1).1
              have hDn1 : ¬ (D = w6.heap.size) := by omega
              have hDn2 : ¬ (D = w6.heap.size + 1) := by omega
              obtain ⟨ts, t1, t2, t3, t4⟩ := hW6.wrong (p := p) hKw (by omega) H64.out hl4 H10.out (by omega) hc4 (by omega)
              obtain ⟨i0, hi, hiz0, hiz1, hiz2⟩ := info_parts infoGuess
              have HI := Lib.hid (And.intro hi (And.intro hiz0 (And.intro hiz1 hiz2)))
              have HT1 := Lib.hid t1
              have HT2 := Lib.hid t2
              have HT3 := Lib.hid t3
              have HT4 := Lib.hid t4
              have hmk : ∀ W : World, (Instr.makeSlice 37 (.int .i64 (N : Int)) (.int .i64 (N : Int))).run Tryz.prog W = .ok (.slice (some ⟨W.heap.size, 0, none⟩) N N) (W.alloc (.cells (madeCells #[.int .i64 0] N) 3)) := fun W => run_make_row' 37 3 (.int .i64 0) 8 Tryz.underlying37 infoInt rfl .i64 .i64 N (by omega) (by omega) W
              have hwr : IntKind.i64.wrap ((N : Int) + 1) = (N : Int) + 1 := IntWalk.i64_in _ (by omega)
              clear hW6 t1 t2 t3 t4 hi hiz0 hiz1 hiz2
              go_wp2
              go_region_law (refine step_append_lies (wrongW w6 N) rfl (.tmp 48) (.tmp 54) 28 rfl (w.heap.size + 1) 39 i0 (.agg #[.slice none 0 0, .int .i64 0, .int .i64 0]) 3 40 Tryz.underlying28 HI.out.1 HI.out.2.1 HI.out.2.2.1 HI.out.2.2.2 rfl (by decide) (.slice ao k co) k (cellsT ts) rfl HT1.out ⟨w6.heap.size + 1, 0, none⟩ 1 1 [.slice (some ⟨w6.heap.size, 0, none⟩) N N, .int .i64 ((N : Int) + 1), .int .i64 0] rfl rfl HT2.out (by intro u hu; simp only [List.mem_cons, List.mem_nil_iff, or_false] at hu; rcases hu with rfl | rfl | rfl <;> rfl) (by omega) (by unfold maxLen; omega) (by omega) HT3.out _ rfl ?_; intro g7 c7 w7 ho7 hg7 _ hlt7; have HF7 := Lib.hid (HT4.out w7 g7 c7 ho7 hg7); have z7 := HF7.out.1.1; have z0 := cell_of_row _ _ 0 _ _ (0, 0) z7; have z1 := cell_of_row _ _ 1 _ _ (0, 0) z7; have z2 := cell_of_row _ _ 2 _ _ (0, 0) z7; have zk : ∀ j, w7.frozen? ⟨D, j, none⟩ = false := fun j => frozen_of_row _ _ j _ _ z7; have v7 := HF7.out.1.2; have v0 := cell_of_row _ _ 0 _ _ (0, 0) v7; have v1 := cell_of_row _ _ 1 _ _ (0, 0) v7; have v2 := cell_of_row _ _ 2 _ _ (0, 0) v7; have vk : ∀ j, w7.frozen? ⟨w.heap.size, j, none⟩ = false := fun j => frozen_of_row _ _ j _ _ v7; simp only [zeroRow, List.getElem?_toArray, List.getElem?_cons_zero, List.getElem?_cons_succ] at z0 z1 z2 v0 v1 v2; clear ho7 hg7 z7 v7)
              all_goals
                have HF := Lib.hid HF7.out.2.1
                have HQ := Lib.hid HF7.out.2.2
                go_wp2
                ((try simp only [Exit.inBlock, Exit.then]); refine bodyPost_ret (results_cell_row rfl _ _ w.heap.size _ _ (0, 0) _ rfl HQ.out Tryz.underlying30 rfl (by kernel_rfl)) rfl ?_)
                exact HF.out
            · have hb1 : (r == 0) = false := by simpa using hr
              have hb2 : (r == 1) = false := by simpa using hr'
              obtain ⟨h1, h2, h3, h4, h5, ⟨p', h6, h7⟩, h8, h9, h10', h11⟩ := id hW6
              have HF := Lib.hid (dk_done (p := p) (x := 0) (c := 0) (gs := []) (ao := none) (co := 0) hKw (OwnG.empty (w.heap.size + 1) w6) (fun g hg => by cases hg) (by simp) (fun g hg => by cases hg) (by omega) (by omega) (by omega) (by omega) h6 (by omega) h8 (by omega))
              have HQ := Lib.hid (heap_setCell_same _ _ 2 _ _ (.slice none 0 0) (heap_setCell_same _ _ 1 _ _ (.int .i64 0) (heap_setCell_same _ _ 0 _ _ (.int .i64 0) h5)))
              clear h1 h2 h3 h4 h5 h6 h7 h8 h9 h10' h11
              obtain ⟨⟨x0, x1, x2, xk⟩, y0, y1, y2, yk, hRD⟩ := hW6.facts
              clear hW6 hr hr'
              go_wp2
              ((try simp only [Exit.inBlock, Exit.then]); refine bodyPost_ret (results_cell_row rfl _ _ w.heap.size _ _ (0, 0) _ rfl HQ.out Tryz.underlying30 rfl (by kernel_rfl)) rfl ?_)
              exact HF.out
    · have hki : ¬ (0 : Int) < (k : Int) := by omega
      clear HX2 HG hlt
      have hOd := HW.out.odd (n := n) hKw (by omega) (by unfold In64; omega)
      clear x0 x1 x2 xk y0 y1 y2 yk hRD
      have HZ := Lib.hid HW.out.facts
      obtain ⟨⟨x0, x1, x2, xk⟩, y0, y1, y2, yk, hRD⟩ := HZ.out
      go_wp2_with fail
      refine hOd.mono ?_
      rintro e w5 ⟨b, rfl, hW5⟩
      clear hOd HZ HW x0 x1 x2 xk y0 y1 y2 yk hRD
      cases b
      · have hF := hW5.done (p := p) (fun gs' p' hl' ho' hi' h5' h10' hr' hp' hg' hw' => dk_done hKw ho' hi' h5' h10' (by omega) (by omega) (by omega) hc4 hr' (by omega) hg' hw') H64.out hl4 H10.out
        obtain ⟨⟨x0, x1, x2, xk⟩, y0, y1, y2, yk, hRD⟩ := hW5.facts
        have HF := Lib.hid hF.1
        have HQ := Lib.hid hF.2
        clear hF hW5
        go_wp2
        ((try simp only [Exit.inBlock, Exit.then]); refine bodyPost_ret (results_cell_row rfl _ _ w.heap.size _ _ (0, 0) _ rfl HQ.out Tryz.underlying30 rfl (by kernel_rfl)) rfl ?_)
        exact HF.out
      · have hP := hW5.pick (n := 3) hKw (by omega) (by unfold In64; omega)
        clear hW5
        go_wp2_with fail
        refine hP.mono ?_
        rintro e w6 ⟨r, rfl, hr0, hr1, hW6⟩
        clear hP
        by_cases hr : r = 0
        · subst hr
          have hF := (hW6.zeroed hKw).done (p := p) (fun gs' p' hl' ho' hi' h5' h10' hr' hp' hg' hw' => dk_done hKw ho' hi' h5' h10' (by omega) (by omega) (by omega) hc4 hr' (by omega) hg' hw') H64.out hl4 H10.out
          obtain ⟨⟨x0, x1, x2, xk⟩, y0, y1, y2, yk, hRD⟩ := hW6.facts
          have HF := Lib.hid hF.1
          have HQ := Lib.hid hF.2
          clear hF hW6
          go_wp2
          ((try simp only [Exit.inBlock, Exit.then]); refine bodyPost_ret (results_cell_row rfl _ _ w.heap.size _ _ (0, 0) _ rfl HQ.out Tryz.underlying30 rfl (by kernel_rfl)) rfl ?_)
          exact HF.out
        · by_cases hr' : r = 1
          · subst hr'
            obtain ⟨N, rfl⟩ : ∃ N : Nat, x = (N : Int) := ⟨x.toNat, by omega⟩
            obtain ⟨⟨x0, x1, x2, xk⟩, y0, y1, y2, yk, hRD⟩ := hW6.facts
            have hk4 := hW6.2.2.1
            have hDlt := (Array.getElem?_eq_some_iff.1 hW6.1).1
            have hDn1 : ¬ (D = w6.heap.size) := by omega
            have hDn2 : ¬ (D = w6.heap.size + 1) := by omega
            obtain ⟨ts, t1, t2, t3, t4⟩ := hW6.wrong (p := p) hKw (by omega) H64.out hl4 H10.out (by omega) hc4 (by omega)
            obtain ⟨i0, hi, hiz0, hiz1, hiz2⟩ := info_parts infoGuess
            have HI := Lib.hid (And.intro hi (And.intro hiz0 (And.intro hiz1 hiz2)))
            have HT1 := Lib.hid t1
            have HT2 := Lib.hid t2
            have HT3 := Lib.hid t3
            have HT4 := Lib.hid t4
            have hmk : ∀ W : World, (Instr.makeSlice 37 (.int .i64 (N : Int)) (.int .i64 (N : Int))).run Tryz.prog W = .ok (.slice (some ⟨W.heap.size, 0, none⟩) N N) (W.alloc (.cells (madeCells #[.int .i64 0] N) 3)) := fun W => run_make_row' 37 3 (.int .i64 0) 8 Tryz.underlying37 infoInt rfl .i64 .i64 N (by omega) (by omega) W
            have hwr : IntKind.i64.wrap ((N : Int) + 1) = (N : Int) + 1 := IntWalk.i64_in _ (by omega)
            clear hW6 t1 t2 t3 t4 hi hiz0 hiz1 hiz2
            go_wp2
            go_region_law (refine step_append_lies (wrongW w6 N) rfl (.tmp 48) (.tmp 54) 28 rfl (w.heap.size + 1) 39 i0 (.agg #[.slice none 0 0, .int .i64 0, .int .i64 0]) 3 40 Tryz.underlying28 HI.out.1 HI.out.2.1 HI.out.2.2.1 HI.out.2.2.2 rfl (by decide) (.slice ao k co) k (cellsT ts) rfl HT1.out ⟨w6.heap.size + 1, 0, none⟩ 1 1 [.slice (some ⟨w6.heap.size, 0, none⟩) N N, .int .i64 ((N : Int) + 1), .int .i64 0] rfl rfl HT2.out (by intro u hu; simp only [List.mem_cons, List.mem_nil_iff, or_false] at hu; rcases hu with rfl | rfl | rfl <;> rfl) (by omega) (by unfold maxLen; omega) (by omega) HT3.out _ rfl ?_; intro g7 c7 w7 ho7 hg7 _ hlt7; have HF7 := Lib.hid (HT4.out w7 g7 c7 ho7 hg7); have z7 := HF7.out.1.1; have z0 := cell_of_row _ _ 0 _ _ (0, 0) z7; have z1 := cell_of_row _ _ 1 _ _ (0, 0) z7; have z2 := cell_of_row _ _ 2 _ _ (0, 0) z7; have zk : ∀ j, w7.frozen? ⟨D, j, none⟩ = false := fun j => frozen_of_row _ _ j _ _ z7; have v7 := HF7.out.1.2; have v0 := cell_of_row _ _ 0 _ _ (0, 0) v7; have v1 := cell_of_row _ _ 1 _ _ (0, 0) v7; have v2 := cell_of_row _ _ 2 _ _ (0, 0) v7; have vk : ∀ j, w7.frozen? ⟨w.heap.size, j, none⟩ = false := fun j => frozen_of_row _ _ j _ _ v7; simp only [zeroRow, List.getElem?_toArray, List.getElem?_cons_zero, List.getElem?_cons_succ] at z0 z1 z2 v0 v1 v2; clear ho7 hg7 z7 v7)
            all_goals
              have HF := Lib.hid HF7.out.2.1
              have HQ := Lib.hid HF7.out.2.2
              go_wp2
              ((try simp only [Exit.inBlock, Exit.then]); refine bodyPost_ret (results_cell_row rfl _ _ w.heap.size _ _ (0, 0) _ rfl HQ.out Tryz.underlying30 rfl (by kernel_rfl)) rfl ?_)
              exact HF.out
          · have hb1 : (r == 0) = false := by simpa using hr
            have hb2 : (r == 1) = false := by simpa using hr'
            obtain ⟨h1, h2, h3, h4, h5, ⟨p', h6, h7⟩, h8, h9, h10', h11⟩ := id hW6
            have HF := Lib.hid (dk_done (p := p) (x := 0) (c := 0) (gs := []) (ao := none) (co := 0) hKw (OwnG.empty (w.heap.size + 1) w6) (fun g hg => by cases hg) (by simp) (fun g hg => by cases hg) (by omega) (by omega) (by omega) (by omega) h6 (by omega) h8 (by omega))
            have HQ := Lib.hid (heap_setCell_same _ _ 2 _ _ (.slice none 0 0) (heap_setCell_same _ _ 1 _ _ (.int .i64 0) (heap_setCell_same _ _ 0 _ _ (.int .i64 0) h5)))
            clear h1 h2 h3 h4 h5 h6 h7 h8 h9 h10' h11
            obtain ⟨⟨x0, x1, x2, xk⟩, y0, y1, y2, yk, hRD⟩ := hW6.facts
            clear hW6 hr hr'
            go_wp2
            ((try simp only [Exit.inBlock, Exit.then]); refine bodyPost_ret (results_cell_row rfl _ _ w.heap.size _ _ (0, 0) _ rfl HQ.out Tryz.underlying30 rfl (by kernel_rfl)) rfl ?_)
            exact HF.out

end Go.Proofs.YtenlngclocfnlaaGreatDoor
