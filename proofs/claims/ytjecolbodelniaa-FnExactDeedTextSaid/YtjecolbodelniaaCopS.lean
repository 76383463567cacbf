/- The reference's l15Copy. -/
import Derived.Test.YtjecolbodelniaaBunG
import Derived.Test.YtjecolbodelniaaBunH
import Derived.Test.YtjecolbodelniaaDrawDesk
import Derived.Test.YtjecolbodelniaaHeldZ
namespace Go.Proofs.Ytjecolbodelniaa
open Go.RowKit
set_option linter.unusedVariables false
set_option maxRecDepth 100000

theorem Ints.drewAlloc {B : Nat} {w : World} {v : Value} {xs : List Int} (h : Ints B w v xs) (o : Obj) : Ints B (w.drew.alloc o) v xs :=
  (show Ints B w.drew v xs from h).below ((Below.refl _ _).alloc (Nat.le_refl _) _)

theorem OwnI.mono2 {B B' : Nat} {w : World} {v : Value} {xs : List Int} (h : OwnI B w v xs) (hB : B' ≤ B) : OwnI B' w v xs := owns_mono h hB

/-- A desk of one's own in block D so far, k guesses of gs put behind. -/
def CopW (w : World) (R X : Nat) (xs : Array Value) (D : Nat) (p c : Int) (gs : List Gs) (ao : Option Addr) (k co : Nat) (wi : World) : Prop :=
  wi.heap[R]? = some (.cells #[.int .i64 0, .int .i64 0, .slice none 0 0] 25 (0, 0)) ∧ wi.heap[X]? = some (.cells xs 25 (0, 0)) ∧
    wi.heap[D]? = some (.cells #[.int .i64 p, .int .i64 c, .slice ao k co] 25 (0, 0)) ∧ OwnG w.heap.size wi (.slice ao k co) (gs.take k) ∧ k ≤ gs.length ∧ Below w.heap.size w wi ∧ R ≠ D ∧ X ≠ D ∧ w.heap.size ≤ D ∧ w.heap.size ≤ R

theorem CopW.below {w : World} {R X : Nat} {xs : Array Value} {D : Nat} {p c : Int} {gs : List Gs} {ao : Option Addr} {k co : Nat} {wi wj : World} (h : CopW w R X xs D p c gs ao k co wi) (hb : Below wi.heap.size wi wj) : CopW w R X xs D p c gs ao k co wj := by
  obtain ⟨h1, h2, h3, h4, h5, h6, h7⟩ := h
  exact ⟨(hb.block _ (Array.getElem?_eq_some_iff.1 h1).1).trans h1, (hb.block _ (Array.getElem?_eq_some_iff.1 h2).1).trans h2, (hb.block _ (Array.getElem?_eq_some_iff.1 h3).1).trans h3, h4.below hb, h5, h6.trans (hb.mono h6.size), h7⟩

/-- The next guess is put behind. -/
theorem CopW.push {w : World} {R X : Nat} {xs : Array Value} {D : Nat} {p c : Int} {gs : List Gs} {ao : Option Addr} {k co : Nat} {wi w7 : World} (h : CopW w R X xs D p c gs ao k co wi) (hk : k < gs.length) {a7 : Option Addr} {c7 : Nat}
    (ho : OwnG w.heap.size w7 (.slice a7 (k + 1) c7) (gs.take k ++ [gs[k]])) (hg : wi.grownBy w7 (Value.slice ao k co).ownBlock) :
    CopW w R X xs D p c gs a7 (k + 1) c7 (w7.setCell ⟨D, 2, none⟩ (.slice a7 (k + 1) c7)) ∧ w7.heap[D]? = some (.cells #[.int .i64 p, .int .i64 c, .slice ao k co] 25 (0, 0)) := by
  obtain ⟨h1, h2, h3, h4, h5, h6, h7, h8, h9, h10⟩ := h
  obtain ⟨ts, t1, _⟩ := h4
  have e1 := own_other t1 h1 (by decide)
  have e2 := own_other t1 h2 (by decide)
  have e3 := own_other t1 h3 (by decide)
  have far : ∀ {j : Nat} {o : Obj}, wi.heap[j]? = some o → ((Value.slice ao k co).ownBlock = none ∨ (Value.slice ao k co).ownBlock ≠ some j) → w7.heap[j]? = some o := by
    intro j o hj hne
    rw [hg.block j (Array.getElem?_eq_some_iff.1 hj).1 (fun e => by rcases hne with q | q; (rw [q] at e; cases e); exact q e.symm)]
    exact hj
  have hD := far h3 e3
  refine ⟨⟨?_, ?_, heap_setCell_same _ _ 2 _ _ _ hD, ?_, by omega, ?_, h7, h8, h9, h10⟩, hD⟩
  · rw [heap_setCell_other _ _ _ _ (by simpa using h7)]; exact far h1 e1
  · rw [heap_setCell_other _ _ _ _ (by simpa using h8)]; exact far h2 e2
  · rw [List.take_succ_eq_append_getElem hk]
    exact ho.other hD
  · refine (h6.grown hg h6.size (fun j hj => (World.ownsRow.lt t1 j hj).1)).setCell (p := ⟨D, 2, none⟩) h9 _

theorem CopW.facts {w : World} {R X : Nat} {xs : Array Value} {D : Nat} {p c : Int} {gs : List Gs} {ao : Option Addr} {k co : Nat} {wi : World} (h : CopW w R X xs D p c gs ao k co wi) :
    wi.cell? ⟨D, 0, none⟩ = some (.int .i64 p) ∧ wi.cell? ⟨D, 1, none⟩ = some (.int .i64 c) ∧ wi.cell? ⟨D, 2, none⟩ = some (.slice ao k co) ∧ (∀ j, wi.cell? ⟨X, j, none⟩ = xs[j]?) ∧ D < wi.heap.size ∧ X < wi.heap.size ∧ R < wi.heap.size := by
  obtain ⟨h1, h2, h3, _⟩ := h
  refine ⟨?_, ?_, ?_, fun j => ?_, (Array.getElem?_eq_some_iff.1 h3).1, (Array.getElem?_eq_some_iff.1 h2).1, (Array.getElem?_eq_some_iff.1 h1).1⟩
  · rw [cell_of_row _ _ _ _ _ _ h3]; simp
  · rw [cell_of_row _ _ _ _ _ _ h3]; simp
  · rw [cell_of_row _ _ _ _ _ _ h3]; simp
  · rw [cell_of_row _ _ _ _ _ _ h2]

/-- The desk is whole: it is handed back by its copy in block R. -/
theorem CopW.done {w : World} {R X : Nat} {xs : Array Value} {D : Nat} {p c : Int} {gs : List Gs} {ao : Option Addr} {co : Nat} {wi : World} (h : CopW w R X xs D p c gs ao gs.length co wi) :
    DeskOut p c gs w (.returned (dkV p c (.slice ao gs.length co))) (((wi.setCell ⟨R, 0, none⟩ (.int .i64 p)).setCell ⟨R, 1, none⟩ (.int .i64 c)).setCell ⟨R, 2, none⟩ (.slice ao gs.length co)) ∧
      (((wi.setCell ⟨R, 0, none⟩ (.int .i64 p)).setCell ⟨R, 1, none⟩ (.int .i64 c)).setCell ⟨R, 2, none⟩ (.slice ao gs.length co)).heap[R]? = some (.cells #[.int .i64 p, .int .i64 c, .slice ao gs.length co] 25 (0, 0)) := by
  obtain ⟨h1, h2, h3, h4, h5, h6, h7, h8, h9, h10⟩ := h
  rw [List.take_length] at h4
  have q1 := heap_setCell_same _ _ 0 _ _ (.int .i64 p) h1
  have q2 := heap_setCell_same _ _ 1 _ _ (.int .i64 c) q1
  have q3 := heap_setCell_same _ _ 2 _ _ (.slice ao gs.length co) q2
  exact ⟨⟨ao, co, rfl, ((h4.other h1).other q1).other q2, ((h6.setCell (p := ⟨R, 0, none⟩) h10 _).setCell (p := ⟨R, 1, none⟩) h10 _).setCell (p := ⟨R, 2, none⟩) h10 _⟩, q3⟩
theorem CopW.zero {w : World} {R X : Nat} {xs : Array Value} {D : Nat} {p c : Int} {gs : List Gs} {ao : Option Addr} {k co : Nat} {wi : World} (h : CopW w R X xs D p c gs ao k co wi) :
    wi.cell? ⟨R, 0, none⟩ = some (.int .i64 0) ∧ wi.cell? ⟨R, 1, none⟩ = some (.int .i64 0) ∧ wi.cell? ⟨R, 2, none⟩ = some (.slice none 0 0) ∧ ∀ j, wi.frozen? ⟨R, j, none⟩ = false := by
  have h1 := h.1
  refine ⟨?_, ?_, ?_, fun j => frozen_of_row _ _ j _ _ h1⟩ <;> rw [cell_of_row _ _ _ _ _ _ h1] <;> simp

set_option maxHeartbeats 2000000 in
theorem copS_any {B : Nat} (p c : Int) (v : Value) (gs : List Gs) (w : World) (h : GL B w v gs) (hl : gs.length ≤ 1000) (hc : ∀ g ∈ gs, g.code.length ≤ 2000000) :
    Calls Try.prog 42 #[dkV p c v] w (DeskOut p c gs w) := by
  obtain ⟨a, cap, V, rfl, hcap, hmax, hcells, hV⟩ := h
  obtain ⟨w0, hw0⟩ : ∃ w0, w0 = ((w.alloc (.cells #[.int .i64 p, .int .i64 c, .slice a gs.length cap] 25)).alloc (.cells #[.int .i64 0, .int .i64 0, .slice none 0 0] 25)).alloc (.cells #[.int .i64 p, .int .i64 c, .slice none 0 0] 25) := ⟨_, rfl⟩
  have hs0 : w0.heap.size = w.heap.size + 3 := by rw [hw0]; simp
  have hC0 : CopW w (w.heap.size + 1) w.heap.size #[.int .i64 p, .int .i64 c, .slice a gs.length cap] (w.heap.size + 1 + 1) p c gs none 0 0 w0 := by
    refine ⟨?_, ?_, ?_, OwnG.empty _ _, Nat.zero_le _, ?_, by omega, by omega, by omega, by omega⟩
    · rw [hw0, heap_alloc_old _ _ (by simp; try omega)]; have q := @Go.heap_alloc_new (w.alloc (.cells #[.int .i64 p, .int .i64 c, .slice a gs.length cap] 25)) (.cells #[.int .i64 0, .int .i64 0, .slice none 0 0] 25); rw [World.size_alloc] at q; exact q
    · rw [hw0, heap_alloc_old _ _ (by simp; try omega), heap_alloc_old _ _ (by simp; try omega)]; exact heap_alloc_new w _
    · rw [hw0]; have q := @Go.heap_alloc_new ((w.alloc (.cells #[.int .i64 p, .int .i64 c, .slice a gs.length cap] 25)).alloc (.cells #[.int .i64 0, .int .i64 0, .slice none 0 0] 25)) (.cells #[.int .i64 p, .int .i64 c, .slice none 0 0] 25); rw [World.size_alloc, World.size_alloc] at q; exact q
    · rw [hw0]; exact (((Below.refl _ _).alloc (Nat.le_refl _) _).alloc (by simp) _).alloc (by simp; omega) _
  have HC0 := Lib.hid hC0
  have HCODE := Lib.hid hc
  clear hC0 hs0 hc
  unfold dkV
  go_enter Try.func42, Try.ntmps42
  go_wp2
  rw [← hw0]
  clear hw0
  go_loopw [4] (fun i wr => ∃ (k : Nat) (ao : Option Addr) (co : Nat), i = .int .i64 k ∧ CopW w (w.heap.size + 1) w.heap.size #[.int .i64 p, .int .i64 c, .slice a gs.length cap] (w.heap.size + 1 + 1) p c gs ao k co wr) (fun i _ => gs.length - (intOf i).toNat)
  case atStart => exact ⟨0, _, _, rfl, HC0.out⟩
  case round =>
    obtain ⟨k, ao, co, rfl, hW⟩ := hrel
    obtain ⟨wk, rfl⟩ : ∃ x, x = wr := ⟨_, rfl⟩
    clear HC0
    have hk := hW.2.2.2.2.1
    obtain ⟨f0, f1, f2, fx, hDlt, hXlt, hRlt⟩ := hW.facts
    have fx2 := fx 2
    simp only [List.getElem?_toArray, List.getElem?_cons_zero, List.getElem?_cons_succ] at fx2
    by_cases hlt : k < gs.length
    · obtain ⟨b, off, rfl, _, hcs⟩ := hcells (by omega)
      obtain ⟨c1, c2, c3⟩ := hcs k hlt
      have hb := hW.2.2.2.2.2.1
      have d1 := (Above.of_below (B := 0) hb).cell (Nat.zero_le _) c1
      have d2 := (Above.of_below (B := 0) hb).cell (Nat.zero_le _) c2
      have d3 := (Above.of_below (B := 0) hb).cell (Nat.zero_le _) c3
      obtain ⟨av, cv, hvv, _⟩ := (hV k hlt).opened
      have HVK := Lib.hid ((hV k hlt).below hb)
      have hcl := HCODE.out _ (List.getElem_mem hlt)
      have HP := Lib.hid (fun (wi w7 : World) (a7 : Option Addr) (c7 : Nat) (h : CopW w (w.heap.size + 1) w.heap.size #[.int .i64 p, .int .i64 c, .slice (some ⟨b, off, none⟩) gs.length cap] (w.heap.size + 1 + 1) p c gs ao k co wi) (ho : OwnG w.heap.size w7 (.slice a7 (k + 1) c7) (gs.take k ++ [gs[k]])) (hg : wi.grownBy w7 (Value.slice ao k co).ownBlock) => h.push hlt ho hg)
      obtain ⟨x, hx⟩ : ∃ x, x = gs[k] := ⟨_, rfl⟩
      rw [← hx] at d2 d3 HP HVK hvv hcl
      rw [hvv] at d1 HVK
      have HW := Lib.hid hW
      have hlk : (gs.take k).length = k := by rw [List.length_take]; omega
      have HLK := Lib.hid hlk
      have hzk := hb.size
      have hi0 : (0 : Int) ≤ (k : Int) := by omega
      have hi1 : (k : Int) < (gs.length : Int) := by omega
      clear hcs hcells hV hvv hx hb c1 c2 c3 hW fx f0 f1 hlk
      go_wp2
      obtain ⟨wq, hwq⟩ : ∃ z, z = wk.alloc (.cells #[.slice av x.code.length cv, .int .i64 x.right, .int .i64 x.near] 28) := ⟨_, rfl⟩
      have hgq : wq.heap[wk.heap.size]? = some (.cells #[.slice av x.code.length cv, .int .i64 x.right, .int .i64 x.near] 28 (0, 0)) := by rw [hwq]; exact heap_alloc_new wk _
      have hbq : Below wk.heap.size wk wq := by rw [hwq]; exact (Below.refl _ _).alloc (Nat.le_refl _) _
      rw [← hwq]
      obtain ⟨G, hG⟩ : ∃ z, z = wk.heap.size := ⟨_, rfl⟩
      rw [← hG] at hgq ⊢
      have hDG : w.heap.size + 1 + 1 < G := by omega
      have hGq : G < wq.heap.size := (Array.getElem?_eq_some_iff.1 hgq).1
      have HWQ := Lib.hid (HW.out.below hbq)
      have HVQ := Lib.hid (HVK.out.below hbq)
      have s0 : wq.cell? ⟨w.heap.size + 1 + 1, 2, none⟩ = some (.slice ao k co) := HWQ.out.facts.2.2.1
      have s1 : wq.cell? ⟨G, 0, none⟩ = some (.slice av x.code.length cv) := by rw [cell_of_row _ _ _ _ _ _ hgq]; simp
      have s2 : wq.cell? ⟨G, 1, none⟩ = some (.int .i64 x.right) := by rw [cell_of_row _ _ _ _ _ _ hgq]; simp
      have s3 : wq.cell? ⟨G, 2, none⟩ = some (.int .i64 x.near) := by rw [cell_of_row _ _ _ _ _ _ hgq]; simp
      have hzq := hbq.size
      have HZ := Lib.hid (And.intro hG hzq)
      have HNE := Lib.hid (show ∀ j, (Value.slice ao k co).ownBlock = some j → w.heap.size + 1 + 1 ≠ j ∧ G ≠ j from fun j hj => by
        refine ⟨fun e => ?_, fun e => ?_⟩
        · obtain ⟨ts, t1, _⟩ := HW.out.2.2.2.1
          rcases own_other t1 HW.out.2.2.1 (by decide) with q | q
          · rw [q] at hj; cases hj
          · rw [← e] at hj; exact q hj
        · have := (HW.out.2.2.2.1.lt j hj).2
          omega)
      clear hwq hG HW HVK d1 d2 d3 f2 fx2 hgq hbq hDlt hXlt hRlt
      refine AnyZ.start (z := 14) (S := fun w' => w'.cell? ⟨w.heap.size + 1 + 1, 2, none⟩ = some (.slice ao k co) ∧ w'.cell? ⟨G, 0, none⟩ = some (.slice av x.code.length cv) ∧ w'.cell? ⟨G, 1, none⟩ = some (.int .i64 x.right) ∧ w'.cell? ⟨G, 2, none⟩ = some (.int .i64 x.near)) (by kernel_rfl) (by go_keep) ?_
      intro hHeld
      (try dsimp only at hHeld)
      refine AnyZ.take (i := 0) (v := ?vv0) rfl (by kernel_rfl) (by kernel_rfl) (by kernel_rfl) (by kernel_rfl) (fun _ _ _ h => h) (Or.inl ⟨by rfl, ?hy0⟩) (by assumption) ?rest0
      case hy0 => (intro w9 hSw; (try dsimp only at hSw); go_split_ands; go_simp; all_goals with_reducible rfl)
      ((try simp only [Act.put]); (try simp only [List.setIfInBounds_toArray]); (try simp only [List.set_cons_succ]); (try simp only [List.set_cons_zero]))
      refine AnyZ.take (i := 1) (v := ?vv1) rfl (by kernel_rfl) (by kernel_rfl) (by kernel_rfl) (by kernel_rfl) (fun _ _ _ h => h) (Or.inl ⟨by rfl, ?hy1⟩) (by assumption) ?rest1
      case hy1 => (intro w9 hSw; (try dsimp only at hSw); go_split_ands; go_simp; all_goals with_reducible rfl)
      ((try simp only [Act.put]); (try simp only [List.setIfInBounds_toArray]); (try simp only [List.set_cons_succ]); (try simp only [List.set_cons_zero]))
      refine AnyZ.take (i := 3) (v := ?vv3) rfl (by kernel_rfl) (by kernel_rfl) (by kernel_rfl) (by kernel_rfl) (fun _ _ _ h => h) (Or.inl ⟨by rfl, ?hy3⟩) (by assumption) ?rest3
      case hy3 => (intro w9 hSw; (try dsimp only at hSw); go_split_ands; go_simp; all_goals with_reducible rfl)
      ((try simp only [Act.put]); (try simp only [List.setIfInBounds_toArray]); (try simp only [List.set_cons_succ]); (try simp only [List.set_cons_zero]))
      refine AnyZ.take (i := 4) (v := ?vv4) rfl (by kernel_rfl) (by kernel_rfl) (by kernel_rfl) (by kernel_rfl) (fun _ _ _ h => h) (Or.inl ⟨by rfl, ?hy4⟩) (by assumption) ?rest4
      case hy4 => (intro w9 hSw; (try dsimp only at hSw); go_split_ands; go_simp; all_goals with_reducible rfl)
      ((try simp only [Act.put]); (try simp only [List.setIfInBounds_toArray]); (try simp only [List.set_cons_succ]); (try simp only [List.set_cons_zero]))
      refine AnyZ.take (i := 6) (v := ?vv6) rfl (by kernel_rfl) (by kernel_rfl) (by kernel_rfl) (by kernel_rfl) (fun _ _ _ h => h) (Or.inl ⟨by rfl, ?hy6⟩) (by assumption) ?rest6
      case hy6 => (intro w9 hSw; (try dsimp only at hSw); go_split_ands; go_simp; all_goals with_reducible rfl)
      ((try simp only [Act.put]); (try simp only [List.setIfInBounds_toArray]); (try simp only [List.set_cons_succ]); (try simp only [List.set_cons_zero]))
      refine AnyZ.take (i := 7) (v := ?vv7) rfl (by kernel_rfl) (by kernel_rfl) (by kernel_rfl) (by kernel_rfl) (fun _ _ _ h => h) (Or.inl ⟨by rfl, ?hy7⟩) (by assumption) ?rest7
      case hy7 => (intro w9 hSw; (try dsimp only at hSw); go_split_ands; go_simp; all_goals with_reducible rfl)
      ((try simp only [Act.put]); (try simp only [List.setIfInBounds_toArray]); (try simp only [List.set_cons_succ]); (try simp only [List.set_cons_zero]))
      refine AnyZ.take (i := 8) (v := ?vv8) rfl (by kernel_rfl) (by kernel_rfl) (by kernel_rfl) (by kernel_rfl) (fun _ _ _ h => h) (Or.inl ⟨by rfl, ?hy8⟩) (by assumption) ?rest8
      case hy8 => (intro w9 hSw; (try dsimp only at hSw); go_split_ands; go_simp; all_goals with_reducible rfl)
      ((try simp only [Act.put]); (try simp only [List.setIfInBounds_toArray]); (try simp only [List.set_cons_succ]); (try simp only [List.set_cons_zero]))
      refine AnyZ.take (i := 9) (v := ?vv9) rfl (by kernel_rfl) (by kernel_rfl) (by kernel_rfl) (by kernel_rfl) (fun _ _ _ h => h) (Or.inl ⟨by rfl, ?hy9⟩) (by assumption) ?rest9
      case hy9 => (intro w9 hSw; (try dsimp only at hSw); go_split_ands; go_simp; all_goals with_reducible rfl)
      ((try simp only [Act.put]); (try simp only [List.setIfInBounds_toArray]); (try simp only [List.set_cons_succ]); (try simp only [List.set_cons_zero]))
      refine AnyZ.one (j := 2) (by kernel_rfl) rfl (fun K hK => ?_)
      go_simp
      refine hK.out _ _ ?hs2 ?rest2
      case hs2 => go_keep
      clear hK K hHeld
      intro hHeld
      (try dsimp only at hHeld)
      ((try simp only [Act.put]); (try simp only [List.setIfInBounds_toArray]); (try simp only [List.set_cons_succ]); (try simp only [List.set_cons_zero]))
      refine AnyZ.one (j := 5) (by kernel_rfl) rfl (fun K hK => ?_)
      (refine step_push_any _ (by rfl) (.tmp 25) (.tmp 27) (by rfl) (.slice (some ⟨wq.heap.size, 0, none⟩) 0 0) [] (by rfl) (OwnI.lit wq.drew) (.slice av x.code.length cv) x.code (by rfl) (HVQ.out.drewAlloc _) (by simp; omega) (by simp) ?_; intro a8 c8 w8 ho8 hg8; simp only [List.nil_append, List.length_nil, Nat.zero_add] at ho8 ⊢; have hb8 := (((Below.refl wq.heap.size wq).drew.alloc (Nat.le_refl _) _).grown hg8 (by simp) (fun j hj => by cases hj; exact Nat.le_refl _)); have HO8 := Lib.hid (show OwnI wq.heap.size w8 _ _ from ho8); have HB8 := Lib.hid (show Below wq.heap.size wq w8 from hb8); have hz8 := hg8.size; simp at hz8; clear ho8 hb8)
      (try go_simp)
      refine hK.out _ _ ?hs5 ?rest5
      case hs5 => (go_split_ands; exact ⟨(hg8.cell_far _ (by simp; omega) (by simp [Value.ownBlock]; omega)).trans (by assumption), (hg8.cell_far _ (by simp; omega) (by simp [Value.ownBlock]; omega)).trans (by assumption), (hg8.cell_far _ (by simp; omega) (by simp [Value.ownBlock]; omega)).trans (by assumption), (hg8.cell_far _ (by simp; omega) (by simp [Value.ownBlock]; omega)).trans (by assumption)⟩)
      clear hK K hHeld
      intro hHeld
      (try dsimp only at hHeld)
      ((try simp only [Act.put]); (try simp only [List.setIfInBounds_toArray]); (try simp only [List.set_cons_succ]); (try simp only [List.set_cons_zero]))
      refine AnyZ.take (i := 10) (v := ?vv10) rfl (by kernel_rfl) (by kernel_rfl) (by kernel_rfl) (by kernel_rfl) (fun _ _ _ h => h) (Or.inl ⟨by rfl, ?hy10⟩) (by assumption) ?rest10
      case hy10 => (intro w9 hSw; (try dsimp only at hSw); go_split_ands; go_simp; all_goals with_reducible rfl)
      ((try simp only [Act.put]); (try simp only [List.setIfInBounds_toArray]); (try simp only [List.set_cons_succ]); (try simp only [List.set_cons_zero]))
      refine AnyZ.one (j := 11) (by kernel_rfl) rfl (fun K hK => ?_)
      go_simp
      refine hK.out _ _ ?hs11 ?rest11
      case hs11 => go_keep
      clear hK K hHeld
      intro hHeld
      (try dsimp only at hHeld)
      ((try simp only [Act.put]); (try simp only [List.setIfInBounds_toArray]); (try simp only [List.set_cons_succ]); (try simp only [List.set_cons_zero]))
      refine AnyZ.one (j := 12) (by kernel_rfl) rfl (fun K hK => ?_)
      (refine step_push_g _ (by rfl) (.tmp 24) (.tmp 34) (by rfl) (.slice ao k co) (gs.take k) (by rfl) ((HWQ.out.2.2.2.1.below HB8.out).alloc _) w8.heap.size 1 (.slice a8 x.code.length c8) x (by rfl) (heap_alloc_new w8 _) (OwnI.mono2 (World.ownsRow.alloc HO8.out _) (by omega)) (guess_old HWQ.out.2.2.2.1 (HB8.out.alloc HB8.out.size _) (World.ownsRow.alloc HO8.out _)) (by rw [HLK.out]; omega) (by simp; omega) ?_; intro a9 c9 w9 ho9 hg9; rw [HLK.out] at ho9 ⊢; have h9 := HP.out _ w9 a9 c9 (HWQ.out.below (HB8.out.alloc HB8.out.size _)) ho9 hg9; have e9 := cell_of_row _ _ 2 _ _ (0, 0) h9.2; have k9 : ∀ j, w9.frozen? ⟨w.heap.size + 1 + 1, j, none⟩ = false := fun j => frozen_of_row _ _ j _ _ h9.2; have H9 := Lib.hid h9.1; simp at e9; clear ho9 h9)
      (try go_simp)
      refine hK.out _ _ ?hs12 ?rest12
      case hs12 => (go_split_ands; exact ⟨(hg9.cell_far _ (by simp; omega) (fun e => (HNE.out _ e.symm).1 rfl)).trans (by assumption), (hg9.cell_far _ (by simp; omega) (fun e => (HNE.out _ e.symm).2 rfl)).trans (by assumption), (hg9.cell_far _ (by simp; omega) (fun e => (HNE.out _ e.symm).2 rfl)).trans (by assumption), (hg9.cell_far _ (by simp; omega) (fun e => (HNE.out _ e.symm).2 rfl)).trans (by assumption)⟩)
      clear hK K hHeld
      intro hHeld
      (try dsimp only at hHeld)
      ((try simp only [Act.put]); (try simp only [List.setIfInBounds_toArray]); (try simp only [List.set_cons_succ]); (try simp only [List.set_cons_zero]))
      refine AnyZ.take (i := 13) (v := ?vv13) rfl (by kernel_rfl) (by kernel_rfl) (by kernel_rfl) (by kernel_rfl) (fun _ _ _ h => h) (Or.inl ⟨by rfl, ?hy13⟩) (by assumption) ?rest13
      case hy13 => (intro w9 hSw; (try dsimp only at hSw); go_split_ands; go_simp; all_goals with_reducible rfl)
      ((try simp only [Act.put]); (try simp only [List.setIfInBounds_toArray]); (try simp only [List.set_cons_succ]); (try simp only [List.set_cons_zero]))
      refine AnyZ.last (by kernel_rfl) rfl (by kernel_rfl) (fun K hK => ?_)
      go_simp
      refine hK.out _ _ ?_
      clear hK K hHeld
      go_wp2
      go_roundw
      case rel => exact ⟨k + 1, a9, c9, by go_num, H9.out⟩
      case measure => simp [intOf]; omega
    · have hkg : k = gs.length := by omega
      subst hkg
      have HF := Lib.hid hW.done
      obtain ⟨r0, r1, r2, rf⟩ := hW.zero
      clear hcells hV fx hW
      go_wp2
      ((try simp only [Exit.inBlock, Exit.then]); refine bodyPost_ret (results_cell_row rfl _ _ (w.heap.size + 1) _ _ (0, 0) _ rfl HF.out.2 Try.underlying25 rfl (by kernel_rfl)) rfl ?_)
      exact HF.out.1

end Go.Proofs.Ytjecolbodelniaa
