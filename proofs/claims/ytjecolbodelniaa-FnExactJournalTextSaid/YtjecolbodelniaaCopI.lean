/- The program's copies of guesses and desks. -/
import Derived.Test.YtjecolbodelniaaCopS
import Derived.Test.YtjecolbodelniaaBunD
import Derived.Test.YtjecolbodelniaaBunF
namespace Go.Proofs.Ytjecolbodelniaa
open Go.RowKit
set_option linter.unusedVariables false
set_option maxRecDepth 100000

/-- nil, or a slice that lies somewhere. -/
def NilOr (v : Value) : Prop := v = .slice none 0 0 ∨ ∃ ad n c, v = .slice (some ad) n c
theorem OwnI.nilOr {B : Nat} {w : World} {v : Value} {xs : List Int} (h : OwnI B w v xs) : NilOr v := by
  rcases h.2 with ⟨rfl, _⟩ | ⟨g, cap, cur, rfl, _⟩
  · exact .inl rfl
  · exact .inr ⟨_, _, _, rfl⟩

set_option maxHeartbeats 1000000 in
theorem gcop_any {B : Nat} (v : Value) (xs : List Int) (r n : Int) (w : World) (h : Ints B w v xs) (hnil : NilOr v) (hl : xs.length ≤ 1099511627776) :
    Calls Try.prog 79 #[gV v r n] w (GuessOut xs r n w) := by
  obtain ⟨a, cap, rfl, _⟩ := h.opened
  obtain ⟨w1, hw1⟩ : ∃ w1, w1 = (w.alloc (.cells #[.slice a xs.length cap, .int .i64 r, .int .i64 n] 28)).alloc (.cells #[.slice none 0 0, .int .i64 0, .int .i64 0] 28) := ⟨_, rfl⟩
  have hb1 : Below w.heap.size w w1 := by rw [hw1]; exact ((Below.refl _ _).alloc (Nat.le_refl _) _).alloc (by simp) _
  have hs1 : w1.heap.size = w.heap.size + 2 := by rw [hw1]; simp
  have hz0 : w1.heap[w.heap.size]? = some (.cells #[.slice a xs.length cap, .int .i64 r, .int .i64 n] 28 (0, 0)) := by
    rw [hw1, heap_alloc_old _ _ (by simp; try omega)]; exact heap_alloc_new w _
  have hz1 : w1.heap[w.heap.size + 1]? = some (.cells #[.slice none 0 0, .int .i64 0, .int .i64 0] 28 (0, 0)) := by
    rw [hw1]; have q := @Go.heap_alloc_new (w.alloc (.cells #[.slice a xs.length cap, .int .i64 r, .int .i64 n] 28)) (.cells #[.slice none 0 0, .int .i64 0, .int .i64 0] 28); rw [World.size_alloc] at q; exact q
  have hT := cloneI_any _ xs w1 (h.below hb1) hnil hl
  have HB1 := Lib.hid hb1
  have HS1 := Lib.hid hs1
  have HZ0 := Lib.hid hz0
  have HZ1 := Lib.hid hz1
  unfold gV
  clear h hb1 hs1 hz0 hz1 hnil
  go_enter Try.func79, Try.ntmps79
  go_wp2_with fail
  rw [← hw1]
  clear hw1
  refine hT.mono ?_
  rintro e w2 ⟨a2, c2, rfl, ho2, hb2⟩
  have hg0 := (hb2.block w.heap.size (by have := HS1.out; omega)).trans HZ0.out
  have hg1 := (hb2.block (w.heap.size + 1) (by have := HS1.out; omega)).trans HZ1.out
  have c0 := cell_of_row _ _ 0 _ _ (0, 0) hg0
  have c1 := cell_of_row _ _ 1 _ _ (0, 0) hg0
  have c2' := cell_of_row _ _ 2 _ _ (0, 0) hg0
  have d0 := cell_of_row _ _ 0 _ _ (0, 0) hg1
  have d1 := cell_of_row _ _ 1 _ _ (0, 0) hg1
  have d2 := cell_of_row _ _ 2 _ _ (0, 0) hg1
  have k0 : ∀ j, w2.frozen? ⟨w.heap.size, j, none⟩ = false := fun j => frozen_of_row _ _ j _ _ hg0
  have k1 : ∀ j, w2.frozen? ⟨w.heap.size + 1, j, none⟩ = false := fun j => frozen_of_row _ _ j _ _ hg1
  simp at c0 c1 c2' d0 d1 d2
  have HG1 := Lib.hid hg1
  have HO2 := Lib.hid ho2
  have HB2 := Lib.hid (HB1.out.trans (hb2.mono HB1.out.size))
  clear hT hg0 hg1 ho2 hb2
  go_wp2
  have q3 : (w2.setCell ⟨w.heap.size, 0, none⟩ (.slice a2 xs.length c2)).heap[w.heap.size + 1]? = some (.cells #[.slice none 0 0, .int .i64 0, .int .i64 0] 28 (0, 0)) := by
    rw [heap_setCell_other _ _ _ _ (by simp)]; exact HG1.out
  have q6 := heap_setCell_same _ _ 2 _ _ (.int .i64 n) (heap_setCell_same _ _ 1 _ _ (.int .i64 r) (heap_setCell_same _ _ 0 _ _ (.slice a2 xs.length c2) q3))
  ((try simp only [Exit.inBlock, Exit.then]); refine bodyPost_ret (results_cell_row rfl _ _ (w.heap.size + 1) _ _ (0, 0) _ rfl q6 Try.underlying28 rfl (by kernel_rfl)) rfl ?_)
  have hs1 := HS1.out
  refine ⟨a2, c2, rfl, (HO2.out.keep (fun b hb hlt => ?_)).mono2 (by omega), ?_⟩
  · rw [heap_setCell_other _ _ _ _ (by simp; omega), heap_setCell_other _ _ _ _ (by simp; omega), heap_setCell_other _ _ _ _ (by simp; omega), heap_setCell_other _ _ _ _ (by simp; omega)]
  · exact (((HB2.out.setCell (p := ⟨w.heap.size, 0, none⟩) (by simp) _).setCell (p := ⟨w.heap.size + 1, 0, none⟩) (by simp) _).setCell (p := ⟨w.heap.size + 1, 1, none⟩) (by simp) _).setCell (p := ⟨w.heap.size + 1, 2, none⟩) (by simp) _

/-- Guesses that may be read; the capacity that the slice shows may be less than the block's. -/
def RG (B : Nat) (w : World) (v : Value) (gs : List Gs) : Prop :=
  ∃ a cap cap2, v = .slice a gs.length cap2 ∧ gs.length ≤ cap2 ∧ cap2 ≤ 9223372036854775807 ∧ OwnG B w (.slice a gs.length cap) gs ∧ In64G gs
theorem OwnG.rg {B : Nat} {w : World} {v : Value} {gs : List Gs} (h : OwnG B w v gs) (h64 : In64G gs) : RG B w v gs := by
  obtain ⟨a, cap, rfl, h1, h2⟩ := h.shape
  exact ⟨a, cap, cap, rfl, h1, h2, h, h64⟩
theorem RG.keep {B : Nat} {w w' : World} {v : Value} {gs : List Gs} (h : RG B w v gs) (hs : Above B w w') : RG B w' v gs := by
  obtain ⟨a, cap, cap2, h1, h2, h3, h4, h5⟩ := h
  exact ⟨a, cap, cap2, h1, h2, h3, h4.keep hs, h5⟩
theorem RG.below {B : Nat} {w w' : World} {v : Value} {gs : List Gs} (h : RG B w v gs) (hb : Below w.heap.size w w') : RG B w' v gs := h.keep (.of_below hb)
theorem RG.mono {B B' : Nat} {w : World} {v : Value} {gs : List Gs} (h : RG B w v gs) (hB : B' ≤ B) : RG B' w v gs := by
  obtain ⟨a, cap, cap2, h1, h2, h3, h4, h5⟩ := h
  exact ⟨a, cap, cap2, h1, h2, h3, h4.mono hB, h5⟩
theorem RG.shape {B : Nat} {w : World} {v : Value} {gs : List Gs} (h : RG B w v gs) : ∃ a cap, v = .slice a gs.length cap := by
  obtain ⟨a, cap, cap2, h1, _⟩ := h
  exact ⟨a, cap2, h1⟩
theorem RG.toGL {B : Nat} {w : World} {v : Value} {gs : List Gs} (h : RG B w v gs) : GL B w v gs := by
  obtain ⟨a, cap, cap2, rfl, h2, h3, h4, h5⟩ := h
  obtain ⟨a', cap', V, e, q1, q2, q3, q4⟩ := h4.toGL h5
  injection e with e _ _
  subst e
  exact ⟨a, cap2, V, rfl, h2, h3, q3, q4⟩
theorem RG.i64 {B : Nat} {w : World} {v : Value} {gs : List Gs} (h : RG B w v gs) : In64G gs := by
  obtain ⟨_, _, _, _, _, _, _, h5⟩ := h
  exact h5
theorem RG.opened {B : Nat} {w : World} {v : Value} {gs : List Gs} (h : RG B w v gs) (hp : 0 < gs.length) :
    ∃ g cap, v = .slice (some ⟨g, 0, none⟩) gs.length cap ∧ B ≤ g ∧ g < w.heap.size ∧
      ∀ k (h : k < gs.length), ∃ u, w.cell? ⟨g, k * 3, none⟩ = some u ∧ OwnI B w u gs[k].code ∧ w.cell? ⟨g, k * 3 + 1, none⟩ = some (.int .i64 gs[k].right) ∧ w.cell? ⟨g, k * 3 + 2, none⟩ = some (.int .i64 gs[k].near) := by
  obtain ⟨a, cap, cap2, rfl, h2, h3, h4, h5⟩ := h
  obtain ⟨g, cap', e, q1, q2, _, _, _, q3⟩ := h4.opened hp
  injection e with e _ _
  subst e
  exact ⟨g, cap2, rfl, q1, q2, q3⟩

set_option maxHeartbeats 2000000 in
theorem dcop_any {B : Nat} (p c : Int) (v : Value) (gs : List Gs) (w : World) (h : RG B w v gs) (hl : gs.length ≤ 1000) (hc : ∀ g ∈ gs, g.code.length ≤ 2000000) :
    Calls Try.prog 61 #[dkV p c v] w (DeskOut p c gs w) := by
  have HRG := Lib.hid h
  obtain ⟨a, cap, rfl⟩ := h.shape
  obtain ⟨w0, hw0⟩ : ∃ w0, w0 = (w.alloc (.cells #[.int .i64 p, .int .i64 c, .slice none 0 0] 25)).alloc (.cells #[.int .i64 0, .int .i64 0, .slice none 0 0] 25) := ⟨_, rfl⟩
  have hC0 : CopW w (w.heap.size + 1) (w.heap.size + 1) #[.int .i64 0, .int .i64 0, .slice none 0 0] w.heap.size p c gs none 0 0 w0 := by
    have hR : w0.heap[w.heap.size + 1]? = some (.cells #[.int .i64 0, .int .i64 0, .slice none 0 0] 25 (0, 0)) := by
      rw [hw0]; have q := @Go.heap_alloc_new (w.alloc (.cells #[.int .i64 p, .int .i64 c, .slice none 0 0] 25)) (.cells #[.int .i64 0, .int .i64 0, .slice none 0 0] 25); rw [World.size_alloc] at q; exact q
    refine ⟨hR, hR, ?_, OwnG.empty _ _, Nat.zero_le _, ?_, by omega, by omega, by omega, by omega⟩
    · rw [hw0, heap_alloc_old _ _ (by simp; try omega)]; exact heap_alloc_new w _
    · rw [hw0]; exact ((Below.refl _ _).alloc (Nat.le_refl _) _).alloc (by simp) _
  have HC0 := Lib.hid hC0
  have HCODE := Lib.hid hc
  clear hC0 hc h
  unfold dkV
  go_enter Try.func61, Try.ntmps61
  go_wp2
  rw [← hw0]
  clear hw0
  go_loopw [11] (fun i wr => ∃ (k : Nat) (ao : Option Addr) (co : Nat), i = .int .i64 k ∧ CopW w (w.heap.size + 1) (w.heap.size + 1) #[.int .i64 0, .int .i64 0, .slice none 0 0] w.heap.size p c gs ao k co wr) (fun i _ => gs.length - (intOf i).toNat)
  case atStart => exact ⟨0, _, _, rfl, HC0.out⟩
  case round =>
    obtain ⟨k, ao, co, rfl, hW⟩ := hrel
    obtain ⟨wk, rfl⟩ : ∃ x, x = wr := ⟨_, rfl⟩
    clear HC0
    have hk := hW.2.2.2.2.1
    obtain ⟨f0, f1, f2, fx, hDlt, hXlt, hRlt⟩ := hW.facts
    by_cases hlt : k < gs.length
    · have hb := hW.2.2.2.2.2.1
      obtain ⟨b, cap9, e9, _, hbz, hat⟩ := HRG.out.opened (by omega)
      injection e9 with e9 e9b e9c
      subst e9 e9c
      clear e9b
      obtain ⟨u, c1, hu, c2, c3⟩ := hat k hlt
      have d1 := (Above.of_below (B := 0) hb).cell (Nat.zero_le _) c1
      have d2 := (Above.of_below (B := 0) hb).cell (Nat.zero_le _) c2
      have d3 := (Above.of_below (B := 0) hb).cell (Nat.zero_le _) c3
      obtain ⟨av, cv, rfl, _⟩ := own_shape hu
      have HNIL := Lib.hid hu.nilOr
      have HVK := Lib.hid ((hu.toInts (HRG.out.i64 _ (List.getElem_mem hlt))).below hb)
      have hcl := HCODE.out _ (List.getElem_mem hlt)
      have HP := Lib.hid (fun (wi w7 : World) (a7 : Option Addr) (c7 : Nat) (h : CopW w (w.heap.size + 1) (w.heap.size + 1) #[.int .i64 0, .int .i64 0, .slice none 0 0] w.heap.size p c gs ao k co wi) (ho : OwnG w.heap.size w7 (.slice a7 (k + 1) c7) (gs.take k ++ [gs[k]])) (hg : wi.grownBy w7 (Value.slice ao k co).ownBlock) => h.push hlt ho hg)
      obtain ⟨x, hx⟩ : ∃ x, x = gs[k] := ⟨_, rfl⟩
      rw [← hx] at d1 d2 d3 HP HVK hcl HNIL
      have HW := Lib.hid hW
      have hlk : (gs.take k).length = k := by rw [List.length_take]; omega
      have HLK := Lib.hid hlk
      have hzk := hb.size
      have hi0 : (0 : Int) ≤ (k : Int) := by omega
      have hi1 : (k : Int) < (gs.length : Int) := by omega
      clear hat hx hb c1 c2 c3 hu hW fx f0 f1 hlk
      go_wp2
      obtain ⟨wq, hwq⟩ : ∃ z, z = wk.alloc (.cells #[.slice av x.code.length cv, .int .i64 x.right, .int .i64 x.near] 28) := ⟨_, rfl⟩
      have hgq : wq.heap[wk.heap.size]? = some (.cells #[.slice av x.code.length cv, .int .i64 x.right, .int .i64 x.near] 28 (0, 0)) := by rw [hwq]; exact heap_alloc_new wk _
      have hbq : Below wk.heap.size wk wq := by rw [hwq]; exact (Below.refl _ _).alloc (Nat.le_refl _) _
      rw [← hwq]
      obtain ⟨G, hG⟩ : ∃ z, z = wk.heap.size := ⟨_, rfl⟩
      rw [← hG] at hgq ⊢
      have hDG : w.heap.size + 1 < G := by omega
      have hGq : G < wq.heap.size := (Array.getElem?_eq_some_iff.1 hgq).1
      have HWQ := Lib.hid (HW.out.below hbq)
      have HVQ := Lib.hid (HVK.out.below hbq)
      have s0 : wq.cell? ⟨w.heap.size, 2, none⟩ = some (.slice ao k co) := HWQ.out.facts.2.2.1
      have s1 : wq.cell? ⟨G, 0, none⟩ = some (.slice av x.code.length cv) := by rw [cell_of_row _ _ _ _ _ _ hgq]; simp
      have s2 : wq.cell? ⟨G, 1, none⟩ = some (.int .i64 x.right) := by rw [cell_of_row _ _ _ _ _ _ hgq]; simp
      have s3 : wq.cell? ⟨G, 2, none⟩ = some (.int .i64 x.near) := by rw [cell_of_row _ _ _ _ _ _ hgq]; simp
      have hzq := hbq.size
      have HNE := Lib.hid (show ∀ j, (Value.slice ao k co).ownBlock = some j → w.heap.size ≠ j ∧ G ≠ j from fun j hj => by
        refine ⟨fun e => ?_, fun e => ?_⟩
        · obtain ⟨ts, t1, _⟩ := HW.out.2.2.2.1
          rcases own_other t1 HW.out.2.2.1 (by decide) with q | q
          · rw [q] at hj; cases hj
          · rw [← e] at hj; exact q hj
        · have := (HW.out.2.2.2.1.lt j hj).2
          omega)
      have hT := gcop_any _ x.code x.right x.near wq.drew (show Ints B wq.drew _ _ from HVQ.out) HNIL.out (by omega)
      unfold gV at hT
      clear hwq hG HW HVK d1 d2 d3 f2 hgq hbq hDlt hXlt hRlt
      refine AnyZ.start (z := 7) (S := fun w' => w'.cell? ⟨w.heap.size, 2, none⟩ = some (.slice ao k co) ∧ w'.cell? ⟨G, 0, none⟩ = some (.slice av x.code.length cv) ∧ w'.cell? ⟨G, 1, none⟩ = some (.int .i64 x.right) ∧ w'.cell? ⟨G, 2, none⟩ = some (.int .i64 x.near)) (by kernel_rfl) (by go_keep) ?_
      intro hHeld
      (try dsimp only at hHeld)
      refine AnyZ.take (i := 0) (v := ?vv0) rfl (by kernel_rfl) (by kernel_rfl) (by kernel_rfl) (by kernel_rfl) (fun _ _ _ h => h) (Or.inl ⟨by rfl, ?hy0⟩) (by assumption) ?rest0
      case hy0 => (intro w9 hSw; (try dsimp only at hSw); go_split_ands; go_simp; all_goals with_reducible rfl)
      ((try simp only [Act.put]); (try simp only [List.setIfInBounds_toArray]); (try simp only [List.set_cons_succ]); (try simp only [List.set_cons_zero]))
      refine AnyZ.take (i := 1) (v := ?vv1) rfl (by kernel_rfl) (by kernel_rfl) (by kernel_rfl) (by kernel_rfl) (fun _ _ _ h => h) (Or.inl ⟨by rfl, ?hy1⟩) (by assumption) ?rest1
      case hy1 => (intro w9 hSw; (try dsimp only at hSw); go_split_ands; go_simp; all_goals with_reducible rfl)
      ((try simp only [Act.put]); (try simp only [List.setIfInBounds_toArray]); (try simp only [List.set_cons_succ]); (try simp only [List.set_cons_zero]))
      refine AnyZ.take (i := 2) (v := ?vv2) rfl (by kernel_rfl) (by kernel_rfl) (by kernel_rfl) (by kernel_rfl) (fun _ _ _ h => h) (Or.inl ⟨by rfl, ?hy2⟩) (by assumption) ?rest2
      case hy2 => (intro w9 hSw; (try dsimp only at hSw); go_split_ands; go_simp; all_goals with_reducible rfl)
      ((try simp only [Act.put]); (try simp only [List.setIfInBounds_toArray]); (try simp only [List.set_cons_succ]); (try simp only [List.set_cons_zero]))
      refine AnyZ.one (j := 3) (by kernel_rfl) rfl (fun K hK => ?_)
      go_simp
      (refine hT.mono ?_; rintro e w8 ⟨a8, c8, rfl, ho8, hb8⟩; unfold gV; have hb8' := (Below.refl wq.heap.size wq).drew.trans hb8; have HO8 := Lib.hid (show OwnI wq.heap.size w8 _ _ from ho8); have HB8 := Lib.hid (show Below wq.heap.size wq w8 from hb8'); have hz8 := hb8'.size; clear ho8 hb8')
      (try go_simp)
      refine hK.out _ _ ?hs3 ?rest3
      case hs3 => (go_split_ands; exact ⟨(hb8.cell (by simp; omega)).trans (by assumption), (hb8.cell (by simp; omega)).trans (by assumption), (hb8.cell (by simp; omega)).trans (by assumption), (hb8.cell (by simp; omega)).trans (by assumption)⟩)
      clear hK K hHeld
      intro hHeld
      (try dsimp only at hHeld)
      ((try simp only [Act.put]); (try simp only [List.setIfInBounds_toArray]); (try simp only [List.set_cons_succ]); (try simp only [List.set_cons_zero]))
      refine AnyZ.one (j := 4) (by kernel_rfl) rfl (fun K hK => ?_)
      go_simp
      refine hK.out _ _ ?hs4 ?rest4
      case hs4 => go_keep
      clear hK K hHeld
      intro hHeld
      (try dsimp only at hHeld)
      ((try simp only [Act.put]); (try simp only [List.setIfInBounds_toArray]); (try simp only [List.set_cons_succ]); (try simp only [List.set_cons_zero]))
      refine AnyZ.one (j := 5) (by kernel_rfl) rfl (fun K hK => ?_)
      (refine step_push_g _ (by rfl) (.tmp 16) (.tmp 19) (by rfl) (.slice ao k co) (gs.take k) (by rfl) ((HWQ.out.2.2.2.1.below HB8.out).alloc _) w8.heap.size 1 (.slice a8 x.code.length c8) x (by rfl) (heap_alloc_new w8 _) (OwnI.mono2 (World.ownsRow.alloc HO8.out _) (by omega)) (guess_old HWQ.out.2.2.2.1 (HB8.out.alloc HB8.out.size _) (World.ownsRow.alloc HO8.out _)) (by rw [HLK.out]; omega) (by simp; omega) ?_; intro a9 c9 w9 ho9 hg9; rw [HLK.out] at ho9 ⊢; have h9 := HP.out _ w9 a9 c9 (HWQ.out.below (HB8.out.alloc HB8.out.size _)) ho9 hg9; have e9 := cell_of_row _ _ 2 _ _ (0, 0) h9.2; have k9 : ∀ j, w9.frozen? ⟨w.heap.size, j, none⟩ = false := fun j => frozen_of_row _ _ j _ _ h9.2; have H9 := Lib.hid h9.1; simp at e9; clear ho9 h9)
      (try go_simp)
      refine hK.out _ _ ?hs5 ?rest5
      case hs5 => (go_split_ands; exact ⟨(hg9.cell_far _ (by simp; omega) (fun e => (HNE.out _ e.symm).1 rfl)).trans (by assumption), (hg9.cell_far _ (by simp; omega) (fun e => (HNE.out _ e.symm).2 rfl)).trans (by assumption), (hg9.cell_far _ (by simp; omega) (fun e => (HNE.out _ e.symm).2 rfl)).trans (by assumption), (hg9.cell_far _ (by simp; omega) (fun e => (HNE.out _ e.symm).2 rfl)).trans (by assumption)⟩)
      clear hK K hHeld
      intro hHeld
      (try dsimp only at hHeld)
      ((try simp only [Act.put]); (try simp only [List.setIfInBounds_toArray]); (try simp only [List.set_cons_succ]); (try simp only [List.set_cons_zero]))
      refine AnyZ.take (i := 6) (v := ?vv6) rfl (by kernel_rfl) (by kernel_rfl) (by kernel_rfl) (by kernel_rfl) (fun _ _ _ h => h) (Or.inl ⟨by rfl, ?hy6⟩) (by assumption) ?rest6
      case hy6 => (intro w9 hSw; (try dsimp only at hSw); go_split_ands; go_simp; all_goals with_reducible rfl)
      ((try simp only [Act.put]); (try simp only [List.setIfInBounds_toArray]); (try simp only [List.set_cons_succ]); (try simp only [List.set_cons_zero]))
      refine AnyZ.last (by kernel_rfl) rfl (by kernel_rfl) (fun K hK => ?_)
      go_simp
      refine hK.out _ _ ?_
      clear hK K hHeld
      go_wp2
      go_roundw
      case rel => exact ⟨k + 1, a9, c9, by go_num, H9.out⟩
      case measure => simp [intOf]; omega
    · have hkg : k = gs.length := by omega
      subst hkg
      have HF := Lib.hid hW.done
      obtain ⟨r0, r1, r2, rf⟩ := hW.zero
      clear fx hW
      go_wp2
      ((try simp only [Exit.inBlock, Exit.then]); refine bodyPost_ret (results_cell_row rfl _ _ (w.heap.size + 1) _ _ (0, 0) _ rfl HF.out.2 Try.underlying25 rfl (by kernel_rfl)) rfl ?_)
      exact HF.out.1

end Go.Proofs.Ytjecolbodelniaa
