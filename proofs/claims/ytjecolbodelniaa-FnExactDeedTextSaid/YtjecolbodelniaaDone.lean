/- The program's done: a desk behind a deed. -/
import Derived.Test.YtjecolbodelniaaCopI
import Derived.Test.YtjecolbodelniaaDoMath
namespace Go.Proofs.Ytjecolbodelniaa
open Go.RowKit
set_option linter.unusedVariables false
set_option maxRecDepth 100000

/-- A desk of one's own, and whether something was done. -/
def DoOut (p c : Int) (gs : List Gs) (ok : Bool) (w : World) (e : Ending) (w' : World) : Prop :=
  ∃ a cap cap2, e = .returned (.tuple #[dkV p c (.slice a gs.length cap2), .bool ok]) ∧ gs.length ≤ cap2 ∧ cap2 ≤ 9223372036854775807 ∧ OwnG w.heap.size w' (.slice a gs.length cap) gs ∧ Below w.heap.size w w'

theorem In64G.snoc {gs : List Gs} {x : Gs} (h : In64G gs) (hx : ∀ y ∈ x.code, In64 y) : In64G (gs ++ [x]) := by
  intro g hg
  rcases List.mem_append.1 hg with q | q
  · exact h g q
  · rw [List.mem_singleton.1 q]; exact hx

theorem OwnG.caps {B : Nat} {w : World} {a : Option Addr} {n c : Nat} {gs : List Gs} (h : OwnG B w (.slice a n c) gs) : gs.length ≤ c ∧ c ≤ 9223372036854775807 := by
  obtain ⟨a', c', e, h1, h2⟩ := h.shape
  injection e with _ _ e
  subst e
  exact ⟨h1, h2⟩

/-- The desk is stored into the result's block. -/
theorem do_ret {w w4 : World} {R : Nat} {p c : Int} {gs : List Gs} {a4 : Option Addr} {c4 cap2 : Nat} (ok : Bool) (hR : w4.heap[R]? = some (.cells #[.int .i64 0, .int .i64 0, .slice none 0 0] 25 (0, 0))) (hRB : w.heap.size ≤ R)
    (ho : OwnG w.heap.size w4 (.slice a4 gs.length c4) gs) (hb : Below w.heap.size w w4) (h1 : gs.length ≤ cap2) (h2 : cap2 ≤ 9223372036854775807) :
    DoOut p c gs ok w (.returned (.tuple #[dkV p c (.slice a4 gs.length cap2), .bool ok])) (((w4.setCell ⟨R, 0, none⟩ (.int .i64 p)).setCell ⟨R, 1, none⟩ (.int .i64 c)).setCell ⟨R, 2, none⟩ (.slice a4 gs.length cap2)) ∧
      (((w4.setCell ⟨R, 0, none⟩ (.int .i64 p)).setCell ⟨R, 1, none⟩ (.int .i64 c)).setCell ⟨R, 2, none⟩ (.slice a4 gs.length cap2)).heap[R]? = some (.cells #[.int .i64 p, .int .i64 c, .slice a4 gs.length cap2] 25 (0, 0)) := by
  have q1 := heap_setCell_same _ _ 0 _ _ (.int .i64 p) hR
  have q2 := heap_setCell_same _ _ 1 _ _ (.int .i64 c) q1
  have q3 := heap_setCell_same _ _ 2 _ _ (.slice a4 gs.length cap2) q2
  exact ⟨⟨a4, c4, cap2, rfl, h1, h2, ((ho.other hR).other q1).other q2, ((hb.setCell (p := ⟨R, 0, none⟩) hRB _).setCell (p := ⟨R, 1, none⟩) hRB _).setCell (p := ⟨R, 2, none⟩) hRB _⟩, q3⟩
theorem zero_cells {w : World} {R : Nat} (h1 : w.heap[R]? = some (.cells #[.int .i64 0, .int .i64 0, .slice none 0 0] 25 (0, 0))) :
    w.cell? ⟨R, 0, none⟩ = some (.int .i64 0) ∧ w.cell? ⟨R, 1, none⟩ = some (.int .i64 0) ∧ w.cell? ⟨R, 2, none⟩ = some (.slice none 0 0) ∧ ∀ j, w.frozen? ⟨R, j, none⟩ = false := by
  refine ⟨?_, ?_, ?_, fun j => frozen_of_row _ _ j _ _ h1⟩ <;> rw [cell_of_row _ _ _ _ _ _ h1] <;> simp

set_option maxHeartbeats 4000000 in
theorem done_any {B C : Nat} (p c : Int) (v : Value) (gs : List Gs) (b : Bool) (u : Value) (xs : List Int) (r n : Int) (w : World) (h : RG B w v gs) (hu : Ints C w u xs) (hnil : NilOr u) (hl : gs.length ≤ 100) (hc : ∀ g ∈ gs, g.code.length ≤ 2000000) (hx : xs.length ≤ 2000000) :
    Calls Try.prog 41 #[dkV p c v, dV b u r n] w (DoOut p c (doneG p c gs ⟨b, xs, r, n⟩).1 (doneG p c gs ⟨b, xs, r, n⟩).2 w) := by
  have HRG := Lib.hid h
  have HU := Lib.hid hu
  have HNIL := Lib.hid hnil
  have HC := Lib.hid hc
  obtain ⟨a, cap, rfl⟩ := h.shape
  obtain ⟨au, cu, rfl, _⟩ := hu.opened
  obtain ⟨w1, hw1⟩ : ∃ w1, w1 = ((w.alloc (.cells #[.int .i64 p, .int .i64 c, .slice a gs.length cap] 25)).alloc (.cells #[.bool b, .slice au xs.length cu, .int .i64 r, .int .i64 n] 30)).alloc (.cells #[.int .i64 0, .int .i64 0, .slice none 0 0] 25) := ⟨_, rfl⟩
  have hb1 : Below w.heap.size w w1 := by rw [hw1]; exact (((Below.refl _ _).alloc (Nat.le_refl _) _).alloc (by simp) _).alloc (by simp; omega) _
  have hs1 : w1.heap.size = w.heap.size + 3 := by rw [hw1]; simp
  have hz0 : w1.heap[w.heap.size]? = some (.cells #[.int .i64 p, .int .i64 c, .slice a gs.length cap] 25 (0, 0)) := by
    rw [hw1, heap_alloc_old _ _ (by simp; try omega), heap_alloc_old _ _ (by simp; try omega)]; exact heap_alloc_new w _
  have hz1 : w1.heap[w.heap.size + 1]? = some (.cells #[.bool b, .slice au xs.length cu, .int .i64 r, .int .i64 n] 30 (0, 0)) := by
    rw [hw1, heap_alloc_old _ _ (by simp; try omega)]; have q := @Go.heap_alloc_new (w.alloc (.cells #[.int .i64 p, .int .i64 c, .slice a gs.length cap] 25)) (.cells #[.bool b, .slice au xs.length cu, .int .i64 r, .int .i64 n] 30); rw [World.size_alloc] at q; exact q
  have hz2 : w1.heap[w.heap.size + 1 + 1]? = some (.cells #[.int .i64 0, .int .i64 0, .slice none 0 0] 25 (0, 0)) := by
    rw [hw1]; have q := @Go.heap_alloc_new ((w.alloc (.cells #[.int .i64 p, .int .i64 c, .slice a gs.length cap] 25)).alloc (.cells #[.bool b, .slice au xs.length cu, .int .i64 r, .int .i64 n] 30)) (.cells #[.int .i64 0, .int .i64 0, .slice none 0 0] 25); rw [World.size_alloc, World.size_alloc] at q; exact q
  have hT := dcop_any p c _ gs w1 (h.below hb1) (by omega) hc
  have HB1 := Lib.hid hb1
  have HS1 := Lib.hid hs1
  have HZ0 := Lib.hid hz0
  have HZ1 := Lib.hid hz1
  have HZ2 := Lib.hid hz2
  unfold dkV at hT
  unfold dkV dV
  clear h hu hnil hc hb1 hs1 hz0 hz1 hz2
  go_enter Try.func41, Try.ntmps41
  go_wp2_with fail
  rw [← hw1]
  clear hw1
  refine hT.mono ?_
  rintro e w2 ⟨a2, c2, rfl, ho2, hb2⟩
  unfold dkV
  -- the blocks behind the copy
  have hg0 := (hb2.block w.heap.size (by have := HS1.out; omega)).trans HZ0.out
  have hg1 := (hb2.block (w.heap.size + 1) (by have := HS1.out; omega)).trans HZ1.out
  have hg2 := (hb2.block (w.heap.size + 1 + 1) (by have := HS1.out; omega)).trans HZ2.out
  obtain ⟨wq, hwq⟩ : ∃ z, z = w2.alloc (.cells #[.int .i64 p, .int .i64 c, .slice a2 gs.length c2] 25) := ⟨_, rfl⟩
  have hbq : Below w2.heap.size w2 wq := by rw [hwq]; exact (Below.refl _ _).alloc (Nat.le_refl _) _
  have hD : wq.heap[w2.heap.size]? = some (.cells #[.int .i64 p, .int .i64 c, .slice a2 gs.length c2] 25 (0, 0)) := by rw [hwq]; exact heap_alloc_new w2 _
  have hd1 := (hbq.block _ (Array.getElem?_eq_some_iff.1 hg1).1).trans hg1
  have hs1 := HS1.out
  have hs2 := hb2.size
  have hWQ : CopW w (w.heap.size + 1 + 1) w.heap.size #[.int .i64 p, .int .i64 c, .slice a gs.length cap] w2.heap.size p c (gs ++ [⟨xs, r, n⟩]) a2 gs.length c2 wq :=
    ⟨(hbq.block _ (Array.getElem?_eq_some_iff.1 hg2).1).trans hg2, (hbq.block _ (Array.getElem?_eq_some_iff.1 hg0).1).trans hg0, hD, by simp only [List.take_left']; exact (ho2.below hbq).mono (by omega), by simp, (HB1.out.trans (hb2.mono HB1.out.size)).trans (hbq.mono (by omega)), by omega, by omega, by omega, by omega⟩
  obtain ⟨f0, f1, f2, fx, hDlt, hXlt, hRlt⟩ := hWQ.facts
  have e0 := cell_of_row _ _ 0 _ _ (0, 0) hg1
  have e1 := cell_of_row _ _ 1 _ _ (0, 0) hg1
  have e2 := cell_of_row _ _ 2 _ _ (0, 0) hg1
  have e3 := cell_of_row _ _ 3 _ _ (0, 0) hg1
  simp only [List.getElem?_toArray, List.getElem?_cons_zero, List.getElem?_cons_succ] at e0 e1 e2 e3
  have HD1 := Lib.hid hd1
  have hg1z := (Array.getElem?_eq_some_iff.1 hg1).1
  have HWQ := Lib.hid hWQ
  have HBQ := Lib.hid hbq
  have HB2 := Lib.hid hb2
  have HO2 := Lib.hid ho2
  clear hT hg0 hg1 hg2 hbq hD hd1 hWQ fx ho2 hb2 f0 f1 f2
  -- the copy at the end
  have HEND := Lib.hid (show ∀ W, Below w.heap.size w W → Calls Try.prog 61 #[.agg #[.int .i64 p, .int .i64 c, .slice a gs.length cap]] W (DeskOut p c gs W) from fun W hW =>
    dcop_any p c _ gs W (HRG.out.below hW) (by omega) HC.out)
  cases b
  · have HDY := Lib.hid (@done_yes p c gs xs r n)
    have HDN := Lib.hid (@done_no p c gs xs r n)
    have hg1q := HD1.out
    have q1 := cell_of_row _ _ 1 _ _ (0, 0) hg1q
    have q2 := cell_of_row _ _ 2 _ _ (0, 0) hg1q
    have q3 := cell_of_row _ _ 3 _ _ (0, 0) hg1q
    simp only [List.getElem?_toArray, List.getElem?_cons_zero, List.getElem?_cons_succ] at q1 q2 q3
    have q0 : wq.cell? ⟨w2.heap.size, 2, none⟩ = some (.slice a2 gs.length c2) := HWQ.out.facts.2.2.1
    have HOW := Lib.hid (show OwnG w.heap.size wq (.slice a2 gs.length c2) gs from (HO2.out.below HBQ.out).mono (by omega))
    have HUQ := Lib.hid (show Ints C wq (.slice au xs.length cu) xs from HU.out.below HWQ.out.2.2.2.2.2.1)
    have hG := gcop_any _ xs r n wq.drew (show Ints C wq.drew _ _ from HUQ.out) HNIL.out (by omega)
    unfold gV at hG
    have hzq := HBQ.out.size
    have HP := Lib.hid (show ∀ (wi w7 : World) (a7 : Option Addr) (c7 : Nat) (h : CopW w (w.heap.size + 1 + 1) w.heap.size #[.int .i64 p, .int .i64 c, .slice a gs.length cap] w2.heap.size p c (gs ++ [⟨xs, r, n⟩]) a2 gs.length c2 wi) (ho : OwnG w.heap.size w7 (.slice a7 (gs.length + 1) c7) (gs ++ [⟨xs, r, n⟩])) (hg : wi.grownBy w7 (Value.slice a2 gs.length c2).ownBlock), _ from
      fun wi w7 a7 c7 h ho hg => h.push (by simp) (by simpa using ho) hg)
    have HNE := Lib.hid (show ∀ j, (Value.slice a2 gs.length c2).ownBlock = some j → w2.heap.size ≠ j ∧ w.heap.size + 1 ≠ j from fun j hj => by
      obtain ⟨ts, t1, _⟩ := HOW.out
      refine ⟨fun e => ?_, fun e => ?_⟩
      · rcases own_other t1 HWQ.out.2.2.1 (by decide) with q | q
        · rw [q] at hj; cases hj
        · rw [← e] at hj; exact q hj
      · rcases own_other t1 hg1q (by decide) with q | q
        · rw [q] at hj; cases hj
        · rw [← e] at hj; exact q hj)
    go_wp2
    rw [← hwq]
    clear hwq e0 e1 e2 e3 hg1q
    refine AnyZ.start (z := 8) (S := fun w' => w'.cell? ⟨w2.heap.size, 2, none⟩ = some (.slice a2 gs.length c2) ∧ w'.cell? ⟨w.heap.size + 1, 1, none⟩ = some (.slice au xs.length cu) ∧ w'.cell? ⟨w.heap.size + 1, 2, none⟩ = some (.int .i64 r) ∧ w'.cell? ⟨w.heap.size + 1, 3, none⟩ = some (.int .i64 n)) (by kernel_rfl) (by go_keep) ?_
    intro hHeld
    (try dsimp only at hHeld)
    refine AnyZ.take (i := 0) (v := ?vv0) rfl (by kernel_rfl) (by kernel_rfl) (by kernel_rfl) (by kernel_rfl) (fun _ _ _ h => h) (Or.inl ⟨by rfl, ?hy0⟩) (by assumption) ?rest0
    case hy0 => (intro w9 hSw; (try dsimp only at hSw); go_split_ands; go_simp; all_goals with_reducible rfl)
    ((try simp only [Act.put]); (try simp only [List.setIfInBounds_toArray]); (try simp only [List.set_cons_succ]); (try simp only [List.set_cons_zero]))
    refine AnyZ.take (i := 1) (v := ?vv1) rfl (by kernel_rfl) (by kernel_rfl) (by kernel_rfl) (by kernel_rfl) (fun _ _ _ h => h) (Or.inl ⟨by rfl, ?hy1⟩) (by assumption) ?rest1
    case hy1 => (intro w9 hSw; (try dsimp only at hSw); go_split_ands; go_simp; all_goals with_reducible rfl)
    ((try simp only [Act.put]); (try simp only [List.setIfInBounds_toArray]); (try simp only [List.set_cons_succ]); (try simp only [List.set_cons_zero]))
    refine AnyZ.take (i := 2) (v := ?vv2) rfl (by kernel_rfl) (by kernel_rfl) (by kernel_rfl) (by kernel_rfl) (fun _ _ _ h => h) (Or.inl ⟨by rfl, ?hy2⟩) (by assumption) ?rest2
    case hy2 => (intro w9 hSw; (try dsimp only at hSw); go_split_ands; go_simp; all_goals with_reducible rfl)
    ((try simp only [Act.put]); (try simp only [List.setIfInBounds_toArray]); (try simp only [List.set_cons_succ]); (try simp only [List.set_cons_zero]))
    refine AnyZ.take (i := 3) (v := ?vv3) rfl (by kernel_rfl) (by kernel_rfl) (by kernel_rfl) (by kernel_rfl) (fun _ _ _ h => h) (Or.inl ⟨by rfl, ?hy3⟩) (by assumption) ?rest3
    case hy3 => (intro w9 hSw; (try dsimp only at hSw); go_split_ands; go_simp; all_goals with_reducible rfl)
    ((try simp only [Act.put]); (try simp only [List.setIfInBounds_toArray]); (try simp only [List.set_cons_succ]); (try simp only [List.set_cons_zero]))
    refine AnyZ.one (j := 4) (by kernel_rfl) rfl (fun K hK => ?_)
    go_simp
    (refine hG.mono ?_; rintro e w8 ⟨a8, c8, rfl, ho8, hb8⟩; unfold gV; have hb8' := (Below.refl wq.heap.size wq).drew.trans hb8; have HO8 := Lib.hid (show OwnI wq.heap.size w8 _ _ from ho8); have HB8 := Lib.hid (show Below wq.heap.size wq w8 from hb8'); have hz8 := hb8'.size; clear ho8 hb8')
    (try go_simp)
    refine hK.out _ _ ?hs4 ?rest4
    case hs4 => (go_split_ands; exact ⟨(hb8.cell (by simp; omega)).trans (by assumption), (hb8.cell (by simp; omega)).trans (by assumption), (hb8.cell (by simp; omega)).trans (by assumption), (hb8.cell (by simp; omega)).trans (by assumption)⟩)
    clear hK K hHeld
    intro hHeld
    (try dsimp only at hHeld)
    ((try simp only [Act.put]); (try simp only [List.setIfInBounds_toArray]); (try simp only [List.set_cons_succ]); (try simp only [List.set_cons_zero]))
    refine AnyZ.one (j := 5) (by kernel_rfl) rfl (fun K hK => ?_)
    go_simp
    refine hK.out _ _ ?hs5 ?rest5
    case hs5 => go_keep
    clear hK K hHeld
    intro hHeld
    (try dsimp only at hHeld)
    ((try simp only [Act.put]); (try simp only [List.setIfInBounds_toArray]); (try simp only [List.set_cons_succ]); (try simp only [List.set_cons_zero]))
    refine AnyZ.one (j := 6) (by kernel_rfl) rfl (fun K hK => ?_)
    (refine step_push_g _ (by rfl) (.tmp 41) (.tmp 45) (by rfl) (.slice a2 gs.length c2) gs (by rfl) ((HOW.out.below HB8.out).alloc _) w8.heap.size 1 (.slice a8 xs.length c8) ⟨xs, r, n⟩ (by rfl) (heap_alloc_new w8 _) (OwnI.mono2 (World.ownsRow.alloc HO8.out _) (by omega)) (guess_old HOW.out (HB8.out.alloc HB8.out.size _) (World.ownsRow.alloc HO8.out _)) (by omega) (by simp; omega) ?_; intro a9 c9 w9 ho9 hg9; have h9 := HP.out _ w9 a9 c9 (HWQ.out.below (HB8.out.alloc HB8.out.size _)) ho9 hg9; have e9 := cell_of_row _ _ 2 _ _ (0, 0) h9.2; have k9 : ∀ j, w9.frozen? ⟨w2.heap.size, j, none⟩ = false := fun j => frozen_of_row _ _ j _ _ h9.2; have H9 := Lib.hid h9.1; simp at e9; clear ho9 h9)
    (try go_simp)
    refine hK.out _ _ ?hs6 ?rest6
    case hs6 => (go_split_ands; exact ⟨(hg9.cell_far _ (by simp; omega) (fun e => (HNE.out _ e.symm).1 rfl)).trans (by assumption), (hg9.cell_far _ (by simp; omega) (fun e => (HNE.out _ e.symm).2 rfl)).trans (by assumption), (hg9.cell_far _ (by simp; omega) (fun e => (HNE.out _ e.symm).2 rfl)).trans (by assumption), (hg9.cell_far _ (by simp; omega) (fun e => (HNE.out _ e.symm).2 rfl)).trans (by assumption)⟩)
    clear hK K hHeld
    intro hHeld
    (try dsimp only at hHeld)
    ((try simp only [Act.put]); (try simp only [List.setIfInBounds_toArray]); (try simp only [List.set_cons_succ]); (try simp only [List.set_cons_zero]))
    refine AnyZ.take (i := 7) (v := ?vv7) rfl (by kernel_rfl) (by kernel_rfl) (by kernel_rfl) (by kernel_rfl) (fun _ _ _ h => h) (Or.inl ⟨by rfl, ?hy7⟩) (by assumption) ?rest7
    case hy7 => (intro w9 hSw; (try dsimp only at hSw); go_split_ands; go_simp; all_goals with_reducible rfl)
    ((try simp only [Act.put]); (try simp only [List.setIfInBounds_toArray]); (try simp only [List.set_cons_succ]); (try simp only [List.set_cons_zero]))
    refine AnyZ.last (by kernel_rfl) rfl (by kernel_rfl) (fun K hK => ?_)
    go_simp
    refine hK.out _ _ ?_
    clear hK K hHeld
    obtain ⟨wz, hwz⟩ : ∃ z, z = w9.setCell ⟨w2.heap.size, 2, none⟩ (.slice a9 (gs.length + 1) c9) := ⟨_, rfl⟩
    rw [← hwz] at H9 ⊢
    have hWZ := H9.out
    obtain ⟨f0, f1, f2, fx, hDlt3, hXlt3, hRlt3⟩ := hWZ.facts
    have HWZ := Lib.hid hWZ
    have hle : (gs ++ [(⟨xs, r, n⟩ : Gs)]).length = gs.length + 1 := by simp
    have hOZ := hWZ.2.2.2.1
    rw [← hle, List.take_length] at hOZ
    have h64 := HRG.out.i64.snoc (x := ⟨xs, r, n⟩) HU.out.2
    have hDK := deskOkI_any p c _ _ wz (hOZ.toGL h64)
    rw [hle] at hDK
    have HOZ := Lib.hid hOZ
    have HLE := Lib.hid hle
    unfold dkV at hDK
    obtain ⟨t, ht⟩ : ∃ t, t = deskB p c (gs ++ [⟨xs, r, n⟩]) := ⟨_, rfl⟩
    rw [← ht] at hDK HDY HDN
    clear hwz hWZ fx hle hOZ h64 ht e9 k9 q0 q1 q2 q3
    go_wp2_with fail
    refine hDK.mono ?_
    rintro e w10 ⟨rfl, hb10⟩
    have hW10 := HWZ.out.below hb10
    have HW10 := Lib.hid hW10
    have HO10 := Lib.hid (HOZ.out.below hb10)
    clear hDK hb10 f0 f1 f2
    obtain ⟨f0, f1, f2, fx, hDlt4, hXlt4, hRlt4⟩ := hW10.facts
    cases t
    · have HR := Lib.hid (HDN.out rfl)
      have x0 := fx 0
      have x1 := fx 1
      have x2 := fx 2
      simp only [List.getElem?_toArray, List.getElem?_cons_zero, List.getElem?_cons_succ] at x0 x1 x2
      have hT := HEND.out w10 hW10.2.2.2.2.2.1
      clear fx hW10 f0 f1 f2
      go_wp2_with fail
      refine hT.mono ?_
      rintro e w4 ⟨a4, c4, rfl, ho4, hb4⟩
      unfold dkV
      have hR4 := (HW10.out.below hb4).1
      have hbw := (HW10.out.below hb4).2.2.2.2.2.1
      obtain ⟨q6, q7⟩ := ho4.caps
      obtain ⟨r0, r1, r2, rf⟩ := zero_cells hR4
      have HF := Lib.hid (do_ret (w := w) (p := p) (c := c) false hR4 (by omega) (ho4.mono HW10.out.2.2.2.2.2.1.size) hbw q6 q7)
      clear hT ho4 hb4 hR4 hbw x0 x1 x2
      go_wp2
      ((try simp only [Exit.inBlock, Exit.then]); refine bodyPost_ret (results_cell_tmp rfl _ _ (w.heap.size + 1 + 1) _ _ (0, 0) _ rfl HF.out.2 Try.underlying25 rfl (by kernel_rfl)) rfl ?_)
      rw [HR.out]
      exact HF.out.1
    · have HR := Lib.hid (HDY.out rfl)
      have hR4 := hW10.1
      have hbw := hW10.2.2.2.2.2.1
      obtain ⟨q6, q7⟩ := HO10.out.caps
      obtain ⟨r0, r1, r2, rf⟩ := zero_cells hR4
      have HF := do_ret (w := w) (p := p) (c := c) true hR4 (by omega) HO10.out hbw q6 q7
      rw [HLE.out] at HF
      have HF := Lib.hid HF
      clear fx hW10 hR4 hbw
      go_wp2
      ((try simp only [Exit.inBlock, Exit.then]); refine bodyPost_ret (results_cell_tmp rfl _ _ (w.heap.size + 1 + 1) _ _ (0, 0) _ rfl HF.out.2 Try.underlying25 rfl (by kernel_rfl)) rfl ?_)
      rw [HR.out]
      exact HF.out.1
  · have hN := nothing_any au cu xs r n wq (by omega)
    unfold gV at hN
    have HDB := Lib.hid (@done_bad p c gs xs r n)
    have HDN := Lib.hid (@done_none p c gs xs r n)
    have HDY := Lib.hid (@done_back p c gs xs r n)
    obtain ⟨t, ht⟩ : ∃ t, t = nothingB xs r n := ⟨_, rfl⟩
    rw [← ht] at hN HDB HDY
    clear ht
    cases t
    · have HR := Lib.hid (HDB.out rfl)
      go_wp2_with fail
      rw [← hwq]
      refine hN.mono ?_
      rintro e w3 ⟨rfl, hb3⟩
      have hW3 := HWQ.out.below hb3
      obtain ⟨f0, f1, f2, fx, hDlt3, hXlt3, hRlt3⟩ := hW3.facts
      have x0 := fx 0
      have x1 := fx 1
      have x2 := fx 2
      simp only [List.getElem?_toArray, List.getElem?_cons_zero, List.getElem?_cons_succ] at x0 x1 x2
      have e0' := cell_of_row _ _ 0 _ _ (0, 0) ((hb3.block _ (Array.getElem?_eq_some_iff.1 HD1.out).1).trans HD1.out)
      simp only [List.getElem?_toArray, List.getElem?_cons_zero] at e0'
      have hT := HEND.out w3 hW3.2.2.2.2.2.1
      have HW3 := Lib.hid hW3
      clear hN fx hb3 hW3 e0 e1 e2 e3 hwq
      go_wp2_with fail
      refine hT.mono ?_
      rintro e w4 ⟨a4, c4, rfl, ho4, hb4⟩
      unfold dkV
      have hR4 := (HW3.out.below hb4).1
      have hbw := (HW3.out.below hb4).2.2.2.2.2.1
      obtain ⟨q6, q7⟩ := ho4.caps
      obtain ⟨r0, r1, r2, rf⟩ := zero_cells hR4
      have HF := Lib.hid (do_ret (w := w) (p := p) (c := c) false hR4 (by omega) (ho4.mono HW3.out.2.2.2.2.2.1.size) hbw q6 q7)
      clear hT ho4 hb4 hR4 hbw f0 f1 f2 x0 x1 x2
      go_wp2
      ((try simp only [Exit.inBlock, Exit.then]); refine bodyPost_ret (results_cell_tmp rfl _ _ (w.heap.size + 1 + 1) _ _ (0, 0) _ rfl HF.out.2 Try.underlying25 rfl (by kernel_rfl)) rfl ?_)
      rw [HR.out]
      exact HF.out.1
    · rcases Nat.eq_zero_or_pos gs.length with hz | hz
      · have HR := Lib.hid (HDN.out hz)
        have hz' : ¬ (0 < (gs.length : Int)) := by omega
        clear hz
        go_wp2_with fail
        rw [← hwq]
        refine hN.mono ?_
        rintro e w3 ⟨rfl, hb3⟩
        have hW3 := HWQ.out.below hb3
        obtain ⟨f0, f1, f2, fx, hDlt3, hXlt3, hRlt3⟩ := hW3.facts
        have x0 := fx 0
        have x1 := fx 1
        have x2 := fx 2
        simp only [List.getElem?_toArray, List.getElem?_cons_zero, List.getElem?_cons_succ] at x0 x1 x2
        have e0' := cell_of_row _ _ 0 _ _ (0, 0) ((hb3.block _ (Array.getElem?_eq_some_iff.1 HD1.out).1).trans HD1.out)
        simp only [List.getElem?_toArray, List.getElem?_cons_zero] at e0'
        have hT := HEND.out w3 hW3.2.2.2.2.2.1
        have HW3 := Lib.hid hW3
        clear hN fx hb3 hW3 e0 e1 e2 e3 hwq
        go_wp2_with fail
        refine hT.mono ?_
        rintro e w4 ⟨a4, c4, rfl, ho4, hb4⟩
        unfold dkV
        have hR4 := (HW3.out.below hb4).1
        have hbw := (HW3.out.below hb4).2.2.2.2.2.1
        obtain ⟨q6, q7⟩ := ho4.caps
        obtain ⟨r0, r1, r2, rf⟩ := zero_cells hR4
        have HF := Lib.hid (do_ret (w := w) (p := p) (c := c) false hR4 (by omega) (ho4.mono HW3.out.2.2.2.2.2.1.size) hbw q6 q7)
        clear hT ho4 hb4 hR4 hbw f0 f1 f2 x0 x1 x2
        go_wp2
        ((try simp only [Exit.inBlock, Exit.then]); refine bodyPost_ret (results_cell_tmp rfl _ _ (w.heap.size + 1 + 1) _ _ (0, 0) _ rfl HF.out.2 Try.underlying25 rfl (by kernel_rfl)) rfl ?_)
        rw [HR.out]
        exact HF.out.1
      · have HR := Lib.hid (HDY.out rfl hz)
        obtain ⟨g2, cp2, e9, _, _, _, _, _, _⟩ := HO2.out.opened hz
        injection e9 with e9 e9b e9c
        subst e9
        clear e9b e9c
        obtain ⟨q6, q7⟩ := HO2.out.caps
        have hz' : 0 < (gs.length : Int) := by omega
        have hz1 : (0 : Int) ≤ (gs.length : Int) - 1 := by omega
        have hz2 : (1 : Int) ≤ (gs.length : Int) := by omega
        have hz3 : (gs.length : Int) - 1 ≤ (c2 : Int) := by omega
        go_wp2_with fail
        rw [← hwq]
        refine hN.mono ?_
        rintro e w3 ⟨rfl, hb3⟩
        have hW3 := HWQ.out.below hb3
        obtain ⟨f0, f1, f2, fx, hDlt3, hXlt3, hRlt3⟩ := hW3.facts
        have hD3 := hW3.2.2.1
        have fd : ∀ j, w3.frozen? ⟨w2.heap.size, j, none⟩ = false := fun j => frozen_of_row _ _ j _ _ hD3
        have HW3 := Lib.hid hW3
        have HO3 := Lib.hid ((HO2.out.below HBQ.out).below hb3)
        obtain ⟨r0, r1, r2, rf⟩ := hW3.zero
        clear hN fx hb3 hW3 e0 e1 e2 e3 hwq
        go_wp2
        have hle : (gs.take (gs.length - 1)).length = gs.length - 1 := by rw [List.length_take]; omega
        have hRx : (w3.setCell ⟨w2.heap.size, 2, none⟩ (.slice (some ⟨g2, 0, none⟩) (gs.length - 1) (gs.length - 1))).heap[w.heap.size + 1 + 1]? = some (.cells #[.int .i64 0, .int .i64 0, .slice none 0 0] 25 (0, 0)) := by
          rw [heap_setCell_other _ _ _ _ (by simp; omega)]; exact HW3.out.1
        have hOx := (HO3.out.take (gs.length - 1) (by omega)).other hD3 (j := 2) (z := .slice (some ⟨g2, 0, none⟩) (gs.length - 1) (gs.length - 1))
        have HF := do_ret (w := w) (p := p) (c := c) (gs := gs.take (gs.length - 1)) (a4 := some ⟨g2, 0, none⟩) (c4 := c2) (cap2 := gs.length - 1) true hRx (by omega) (by rw [hle]; exact hOx.mono (by omega)) (HW3.out.2.2.2.2.2.1.setCell (p := ⟨w2.heap.size, 2, none⟩) (by simp; omega) _) (by omega) (by omega)
        rw [hle] at HF
        ((try simp only [Exit.inBlock, Exit.then]); refine bodyPost_ret (results_cell_tmp rfl _ _ (w.heap.size + 1 + 1) _ _ (0, 0) _ rfl HF.2 Try.underlying25 rfl (by kernel_rfl)) rfl ?_)
        rw [HR.out]
        exact HF.1

end Go.Proofs.Ytjecolbodelniaa
