/- The reference's DeskDo. Printed by wip/tools/gen_dos.py. -/
import Derived.Test.YtjecolbodelniaaDoI
namespace Go.Proofs.Ytjecolbodelniaa
open Go.RowKit
set_option linter.unusedVariables false
set_option maxRecDepth 100000

theorem GL.i64 {B : Nat} {w : World} {v : Value} {gs : List Gs} (h : GL B w v gs) : In64G gs := by
  obtain ⟨_, _, _, _, _, _, _, h5⟩ := h
  intro g hg
  obtain ⟨i, hi, rfl⟩ := List.getElem_of_mem hg
  exact (h5 i hi).2

theorem do_ret2 {w w4 : World} {R : Nat} {p c : Int} {gs : List Gs} {a4 : Option Addr} {c4 cap2 : Nat} (ok : Bool) (o : Obj) (hR : w4.heap[R]? = some (.cells #[.int .i64 0, .int .i64 0, .slice none 0 0] 25 (0, 0))) (hRB : w.heap.size ≤ R)
    (ho : OwnG w.heap.size w4 (.slice a4 gs.length c4) gs) (hb : Below w.heap.size w w4) (h1 : gs.length ≤ cap2) (h2 : cap2 ≤ 9223372036854775807) :
    DoOut p c gs ok w (.returned (.tuple #[dkV p c (.slice a4 gs.length cap2), .bool ok])) ((((w4.setCell ⟨R, 0, none⟩ (.int .i64 p)).setCell ⟨R, 1, none⟩ (.int .i64 c)).setCell ⟨R, 2, none⟩ (.slice a4 gs.length cap2)).alloc o) ∧
      ((((w4.setCell ⟨R, 0, none⟩ (.int .i64 p)).setCell ⟨R, 1, none⟩ (.int .i64 c)).setCell ⟨R, 2, none⟩ (.slice a4 gs.length cap2)).alloc o).heap[R]? = some (.cells #[.int .i64 p, .int .i64 c, .slice a4 gs.length cap2] 25 (0, 0)) := by
  obtain ⟨⟨a, cap, cap3, e, q1, q2, q3, q4⟩, q5⟩ := do_ret (p := p) (c := c) ok hR hRB ho hb h1 h2
  exact ⟨⟨a, cap, cap3, e, q1, q2, q3.alloc o, q4.alloc q4.size o⟩, (Below.heap_alloc _ o R (Array.getElem?_eq_some_iff.1 q5).1).trans q5⟩

set_option maxHeartbeats 4000000 in
theorem deskDoS_any {B C : Nat} (p c : Int) (v : Value) (gs : List Gs) (b : Bool) (u : Value) (xs : List Int) (r n : Int) (w : World) (h : GL B w v gs) (hu : Ints C w u xs) (hc : ∀ g ∈ gs, g.code.length ≤ 2000000) (hx : xs.length ≤ 2000000) :
    Calls Try.prog 11 #[dkV p c v, dV b u r n] w (DoRes p c gs ⟨b, xs, r, n⟩ w) := by
  have HGL := Lib.hid h
  have HU := Lib.hid hu
  have HC := Lib.hid hc
  obtain ⟨a, cap, rfl⟩ : ∃ a cap, v = .slice a gs.length cap := by obtain ⟨a, cap, _, hv, _⟩ := h; exact ⟨a, cap, hv⟩
  obtain ⟨au, cu, rfl, _⟩ := hu.opened
  obtain ⟨w1, hw1⟩ : ∃ w1, w1 = ((w.alloc (.cells #[.int .i64 p, .int .i64 c, .slice a gs.length cap] 25)).alloc (.cells #[.bool b, .slice au xs.length cu, .int .i64 r, .int .i64 n] 30)).alloc (.cells #[.int .i64 0, .int .i64 0, .slice none 0 0] 25) := ⟨_, rfl⟩
  have hb1 : Below w.heap.size w w1 := by rw [hw1]; exact (((Below.refl _ _).alloc (Nat.le_refl _) _).alloc (by simp) _).alloc (by simp; omega) _
  have hs1 : w1.heap.size = w.heap.size + 3 := by rw [hw1]; simp
  have hz0 : w1.heap[w.heap.size]? = some (.cells #[.int .i64 p, .int .i64 c, .slice a gs.length cap] 25 (0, 0)) := by
    rw [hw1, heap_alloc_old _ _ (by simp; try omega), heap_alloc_old _ _ (by simp; try omega)]; exact heap_alloc_new w _
  have hz1 : w1.heap[w.heap.size + 1]? = some (.cells #[.bool b, .slice au xs.length cu, .int .i64 r, .int .i64 n] 30 (0, 0)) := by
    rw [hw1, heap_alloc_old _ _ (by simp; try omega)]; have q := @Go.heap_alloc_new (w.alloc (.cells #[.int .i64 p, .int .i64 c, .slice a gs.length cap] 25)) (.cells #[.bool b, .slice au xs.length cu, .int .i64 r, .int .i64 n] 30); rw [World.size_alloc] at q; exact q
  have hz2 : w1.heap[w.heap.size + 1 + 1]? = some (.cells #[.int .i64 0, .int .i64 0, .slice none 0 0] 25 (0, 0)) := by
    rw [hw1]; have q := @Go.heap_alloc_new ((w.alloc (.cells #[.int .i64 p, .int .i64 c, .slice a gs.length cap] 25)).alloc (.cells #[.bool b, .slice au xs.length cu, .int .i64 r, .int .i64 n] 30)) (.cells #[.int .i64 0, .int .i64 0, .slice none 0 0] 25); rw [World.size_alloc, World.size_alloc] at q; exact q
  have hT := deskOkS_any p c _ gs w1 (h.below hb1)
  have HB1 := Lib.hid hb1
  have HS1 := Lib.hid hs1
  have HZ0 := Lib.hid hz0
  have HZ1 := Lib.hid hz1
  have HZ2 := Lib.hid hz2
  have HY := Lib.hid (fun (e : Ending) (w' : World) (q : deskB p c gs = true) => DoRes.yes (d := ⟨b, xs, r, n⟩) (w := w) (e := e) (w' := w') q)
  have HN := Lib.hid (fun (e : Ending) (w' : World) (q : deskB p c gs = false) => DoRes.no (d := ⟨b, xs, r, n⟩) (w := w) (e := e) (w' := w') q)
  have HLEN := Lib.hid (@deskB_len p c gs)
  obtain ⟨t, ht⟩ : ∃ t, t = deskB p c gs := ⟨_, rfl⟩
  rw [← ht] at hT HY HN HLEN
  unfold dkV at hT
  unfold dkV dV
  clear h hu hc hb1 hs1 hz0 hz1 hz2 ht
  go_enter Try.func11, Try.ntmps11
  go_wp2_with fail
  rw [← hw1]
  clear hw1
  refine hT.mono ?_
  rintro e w2 ⟨rfl, hb2⟩
  have hg0 := (hb2.block w.heap.size (by have := HS1.out; omega)).trans HZ0.out
  have hg1 := (hb2.block (w.heap.size + 1) (by have := HS1.out; omega)).trans HZ1.out
  have hg2 := (hb2.block (w.heap.size + 1 + 1) (by have := HS1.out; omega)).trans HZ2.out
  have e0 := cell_of_row _ _ 0 _ _ (0, 0) hg0
  have e1 := cell_of_row _ _ 1 _ _ (0, 0) hg0
  have e2 := cell_of_row _ _ 2 _ _ (0, 0) hg0
  simp only [List.getElem?_toArray, List.getElem?_cons_zero, List.getElem?_cons_succ] at e0 e1 e2
  have hbw := HB1.out.trans (hb2.mono HB1.out.size)
  have HBW := Lib.hid hbw
  have HG2 := Lib.hid hg2
  cases t
  · obtain ⟨r0, r1, r2, rf⟩ := zero_cells hg2
    have HF := Lib.hid (do_ret (w := w) (p := 0) (c := 0) (gs := []) (a4 := none) (c4 := 0) (cap2 := 0) false hg2 (by omega) (OwnG.empty _ _) hbw (by simp) (by omega))
    clear hT hb2 hg0 hg1 hg2 hbw e0 e1 e2
    go_wp2
    ((try simp only [Exit.inBlock, Exit.then]); refine bodyPost_ret (results_cell_tmp rfl _ _ (w.heap.size + 1 + 1) _ _ (0, 0) _ rfl HF.out.2 Try.underlying25 rfl (by kernel_rfl)) rfl ?_)
    exact HN.out _ _ (by trivial) HF.out.1
  · have hl : gs.length ≤ 9 := HLEN.out rfl
    have hEND := Lib.hid (show ∀ W, Below w.heap.size w W → Calls Try.prog 42 #[.agg #[.int .i64 p, .int .i64 c, .slice a gs.length cap]] W (DeskOut p c gs W) from fun W hW =>
      copS_any p c _ gs W (HGL.out.below hW) (by omega) HC.out)
    have hT2 := hEND.out w2 hbw
    have HG0 := Lib.hid hg0
    have HG1 := Lib.hid hg1
    have hs1 := HS1.out
    have hs2 := hb2.size
    clear hT hb2 hg0 hg1 hg2 hbw
    go_wp2_with fail
    refine hT2.mono ?_
    rintro e w3 ⟨a3, c3, rfl, ho3, hb3⟩
    unfold dkV
    obtain ⟨wq, hwq⟩ : ∃ z, z = w3.alloc (.cells #[.int .i64 p, .int .i64 c, .slice a3 gs.length c3] 25) := ⟨_, rfl⟩
    have hbq : Below w3.heap.size w3 wq := by rw [hwq]; exact (Below.refl _ _).alloc (Nat.le_refl _) _
    have hD : wq.heap[w3.heap.size]? = some (.cells #[.int .i64 p, .int .i64 c, .slice a3 gs.length c3] 25 (0, 0)) := by rw [hwq]; exact heap_alloc_new w3 _
    have hg0 := (hb3.block _ (Array.getElem?_eq_some_iff.1 HG0.out).1).trans HG0.out
    have hg1 := (hb3.block _ (Array.getElem?_eq_some_iff.1 HG1.out).1).trans HG1.out
    have hg2 := (hb3.block _ (Array.getElem?_eq_some_iff.1 HG2.out).1).trans HG2.out
    have hd1 := (hbq.block _ (Array.getElem?_eq_some_iff.1 hg1).1).trans hg1
    have hs3 := hb3.size
    have hWQ : CopW w (w.heap.size + 1 + 1) w.heap.size #[.int .i64 p, .int .i64 c, .slice a gs.length cap] w3.heap.size p c (gs ++ [⟨xs, r, n⟩]) a3 gs.length c3 wq :=
      ⟨(hbq.block _ (Array.getElem?_eq_some_iff.1 hg2).1).trans hg2, (hbq.block _ (Array.getElem?_eq_some_iff.1 hg0).1).trans hg0, hD, by simp only [List.take_left']; exact (ho3.below hbq).mono (by omega), by simp, (HBW.out.trans (hb3.mono (by omega))).trans (hbq.mono (by omega)), by omega, by omega, by omega, by omega⟩
    have HWQ := Lib.hid hWQ
    have HD1 := Lib.hid hd1
    have HBQ := Lib.hid hbq
    have HOW := Lib.hid (show OwnG w.heap.size wq (.slice a3 gs.length c3) gs from (ho3.below hbq).mono (by omega))
    have HUQ := Lib.hid (show Ints C wq (.slice au xs.length cu) xs from HU.out.below hWQ.2.2.2.2.2.1)
    have d0 := cell_of_row _ _ 0 _ _ (0, 0) hg1
    have d1 := cell_of_row _ _ 1 _ _ (0, 0) hg1
    have d2 := cell_of_row _ _ 2 _ _ (0, 0) hg1
    have d3 := cell_of_row _ _ 3 _ _ (0, 0) hg1
    have e0' := cell_of_row _ _ 0 _ _ (0, 0) hg0
    have e1' := cell_of_row _ _ 1 _ _ (0, 0) hg0
    have e2' := cell_of_row _ _ 2 _ _ (0, 0) hg0
    simp only [List.getElem?_toArray, List.getElem?_cons_zero, List.getElem?_cons_succ] at d0 d1 d2 d3 e0' e1' e2'
    obtain ⟨r0, r1, r2, rf⟩ := zero_cells hg2
    obtain ⟨f0, f1, f2, fx, hDlt, hXlt, hRlt⟩ := hWQ.facts
    have HG3 := Lib.hid hg2
    have HO3 := Lib.hid (show OwnG w.heap.size w3 _ _ from ho3.mono (by omega))
    have HB3 := Lib.hid (HBW.out.trans (hb3.mono (by omega)))
    have hz1q := (Array.getElem?_eq_some_iff.1 hg1).1
    have hz0q := (Array.getElem?_eq_some_iff.1 hg0).1
    have hz2q := (Array.getElem?_eq_some_iff.1 hg2).1
    clear hT2 hg0 hg1 hg2 hbq hD hd1 hWQ fx ho3 hb3 e0 e1 e2 f0 f1 f2
    cases b
    · have HDY := Lib.hid (@done_yes p c gs xs r n)
      have HDN := Lib.hid (@done_no p c gs xs r n)
      have hg1q := HD1.out
      have q1 := cell_of_row _ _ 1 _ _ (0, 0) hg1q
      have q2 := cell_of_row _ _ 2 _ _ (0, 0) hg1q
      have q3 := cell_of_row _ _ 3 _ _ (0, 0) hg1q
      simp only [List.getElem?_toArray, List.getElem?_cons_zero, List.getElem?_cons_succ] at q1 q2 q3
      have q0 : wq.cell? ⟨w3.heap.size, 2, none⟩ = some (.slice a3 gs.length c3) := HWQ.out.facts.2.2.1
      have hzq := HBQ.out.size
      have HP := Lib.hid (show ∀ (wi w7 : World) (a7 : Option Addr) (c7 : Nat) (h : CopW w (w.heap.size + 1 + 1) w.heap.size #[.int .i64 p, .int .i64 c, .slice a gs.length cap] w3.heap.size p c (gs ++ [⟨xs, r, n⟩]) a3 gs.length c3 wi) (ho : OwnG w.heap.size w7 (.slice a7 (gs.length + 1) c7) (gs ++ [⟨xs, r, n⟩])) (hg : wi.grownBy w7 (Value.slice a3 gs.length c3).ownBlock), _ from
        fun wi w7 a7 c7 h ho hg => h.push (by simp) (by simpa using ho) hg)
      have HNE := Lib.hid (show ∀ j, (Value.slice a3 gs.length c3).ownBlock = some j → w3.heap.size ≠ j ∧ w.heap.size + 1 ≠ j from fun j hj => by
        obtain ⟨ts, t1, _⟩ := HOW.out
        refine ⟨fun e => ?_, fun e => ?_⟩
        · rcases own_other t1 HWQ.out.2.2.1 (by decide) with q | q
          · rw [q] at hj; cases hj
          · rw [← e] at hj; exact q hj
        · rcases own_other t1 hg1q (by decide) with q | q
          · rw [q] at hj; cases hj
          · rw [← e] at hj; exact q hj)
      go_wp2
      rw [← hwq]
      clear hwq d0 d1 d2 d3 hg1q e0' e1' e2' r0 r1 r2 rf
      refine AnyZ.start (z := 17) (S := fun w' => w'.cell? ⟨w3.heap.size, 2, none⟩ = some (.slice a3 gs.length c3) ∧ w'.cell? ⟨w.heap.size + 1, 1, none⟩ = some (.slice au xs.length cu) ∧ w'.cell? ⟨w.heap.size + 1, 2, none⟩ = some (.int .i64 r) ∧ w'.cell? ⟨w.heap.size + 1, 3, none⟩ = some (.int .i64 n)) (by kernel_rfl) (by go_keep) ?_
      intro hHeld
      (try dsimp only at hHeld)
      refine AnyZ.take (i := 0) (v := ?vv0) rfl (by kernel_rfl) (by kernel_rfl) (by kernel_rfl) (by kernel_rfl) (fun _ _ _ h => h) (Or.inl ⟨by rfl, ?hy0⟩) (by assumption) ?rest0
      case hy0 => (intro w9 hSw; (try dsimp only at hSw); go_split_ands; go_simp; all_goals with_reducible rfl)
      ((try simp only [Act.put]); (try simp only [List.setIfInBounds_toArray]); (try simp only [List.set_cons_succ]); (try simp only [List.set_cons_zero]))
      refine AnyZ.take (i := 1) (v := ?vv1) rfl (by kernel_rfl) (by kernel_rfl) (by kernel_rfl) (by kernel_rfl) (fun _ _ _ h => h) (Or.inl ⟨by rfl, ?hy1⟩) (by assumption) ?rest1
      case hy1 => (intro w9 hSw; (try dsimp only at hSw); go_split_ands; go_simp; all_goals with_reducible rfl)
      ((try simp only [Act.put]); (try simp only [List.setIfInBounds_toArray]); (try simp only [List.set_cons_succ]); (try simp only [List.set_cons_zero]))
      refine AnyZ.take (i := 3) (v := ?vv3) rfl (by kernel_rfl) (by kernel_rfl) (by kernel_rfl) (by kernel_rfl) (fun _ _ _ h => h) (Or.inl ⟨by rfl, ?hy3⟩) (by assumption) ?rest3
      case hy3 => (intro w9 hSw; (try dsimp only at hSw); go_split_ands; go_simp; all_goals with_reducible rfl)
      ((try simp only [Act.put]); (try simp only [List.setIfInBounds_toArray]); (try simp only [List.set_cons_succ]); (try simp only [List.set_cons_zero]))
      refine AnyZ.take (i := 4) (v := ?vv4) rfl (by kernel_rfl) (by kernel_rfl) (by kernel_rfl) (by kernel_rfl) (fun _ _ _ h => h) (Or.inl ⟨by rfl, ?hy4⟩) (by assumption) ?rest4
      case hy4 => (intro w9 hSw; (try dsimp only at hSw); go_split_ands; go_simp; all_goals with_reducible rfl)
      ((try simp only [Act.put]); (try simp only [List.setIfInBounds_toArray]); (try simp only [List.set_cons_succ]); (try simp only [List.set_cons_zero]))
      refine AnyZ.take (i := 5) (v := ?vv5) rfl (by kernel_rfl) (by kernel_rfl) (by kernel_rfl) (by kernel_rfl) (fun _ _ _ h => h) (Or.inl ⟨by rfl, ?hy5⟩) (by assumption) ?rest5
      case hy5 => (intro w9 hSw; (try dsimp only at hSw); go_split_ands; go_simp; all_goals with_reducible rfl)
      ((try simp only [Act.put]); (try simp only [List.setIfInBounds_toArray]); (try simp only [List.set_cons_succ]); (try simp only [List.set_cons_zero]))
      refine AnyZ.take (i := 7) (v := ?vv7) rfl (by kernel_rfl) (by kernel_rfl) (by kernel_rfl) (by kernel_rfl) (fun _ _ _ h => h) (Or.inl ⟨by rfl, ?hy7⟩) (by assumption) ?rest7
      case hy7 => (intro w9 hSw; (try dsimp only at hSw); go_split_ands; go_simp; all_goals with_reducible rfl)
      ((try simp only [Act.put]); (try simp only [List.setIfInBounds_toArray]); (try simp only [List.set_cons_succ]); (try simp only [List.set_cons_zero]))
      refine AnyZ.take (i := 8) (v := ?vv8) rfl (by kernel_rfl) (by kernel_rfl) (by kernel_rfl) (by kernel_rfl) (fun _ _ _ h => h) (Or.inl ⟨by rfl, ?hy8⟩) (by assumption) ?rest8
      case hy8 => (intro w9 hSw; (try dsimp only at hSw); go_split_ands; go_simp; all_goals with_reducible rfl)
      ((try simp only [Act.put]); (try simp only [List.setIfInBounds_toArray]); (try simp only [List.set_cons_succ]); (try simp only [List.set_cons_zero]))
      refine AnyZ.take (i := 9) (v := ?vv9) rfl (by kernel_rfl) (by kernel_rfl) (by kernel_rfl) (by kernel_rfl) (fun _ _ _ h => h) (Or.inl ⟨by rfl, ?hy9⟩) (by assumption) ?rest9
      case hy9 => (intro w9 hSw; (try dsimp only at hSw); go_split_ands; go_simp; all_goals with_reducible rfl)
      ((try simp only [Act.put]); (try simp only [List.setIfInBounds_toArray]); (try simp only [List.set_cons_succ]); (try simp only [List.set_cons_zero]))
      refine AnyZ.take (i := 10) (v := ?vv10) rfl (by kernel_rfl) (by kernel_rfl) (by kernel_rfl) (by kernel_rfl) (fun _ _ _ h => h) (Or.inl ⟨by rfl, ?hy10⟩) (by assumption) ?rest10
      case hy10 => (intro w9 hSw; (try dsimp only at hSw); go_split_ands; go_simp; all_goals with_reducible rfl)
      ((try simp only [Act.put]); (try simp only [List.setIfInBounds_toArray]); (try simp only [List.set_cons_succ]); (try simp only [List.set_cons_zero]))
      refine AnyZ.take (i := 11) (v := ?vv11) rfl (by kernel_rfl) (by kernel_rfl) (by kernel_rfl) (by kernel_rfl) (fun _ _ _ h => h) (Or.inl ⟨by rfl, ?hy11⟩) (by assumption) ?rest11
      case hy11 => (intro w9 hSw; (try dsimp only at hSw); go_split_ands; go_simp; all_goals with_reducible rfl)
      ((try simp only [Act.put]); (try simp only [List.setIfInBounds_toArray]); (try simp only [List.set_cons_succ]); (try simp only [List.set_cons_zero]))
      refine AnyZ.take (i := 12) (v := ?vv12) rfl (by kernel_rfl) (by kernel_rfl) (by kernel_rfl) (by kernel_rfl) (fun _ _ _ h => h) (Or.inl ⟨by rfl, ?hy12⟩) (by assumption) ?rest12
      case hy12 => (intro w9 hSw; (try dsimp only at hSw); go_split_ands; go_simp; all_goals with_reducible rfl)
      ((try simp only [Act.put]); (try simp only [List.setIfInBounds_toArray]); (try simp only [List.set_cons_succ]); (try simp only [List.set_cons_zero]))
      refine AnyZ.one (j := 2) (by kernel_rfl) rfl (fun K hK => ?_)
      go_simp
      refine hK.out _ _ ?hs2 ?rest2
      case hs2 => go_keep
      clear hK K hHeld
      intro hHeld
      (try dsimp only at hHeld)
      ((try simp only [Act.put]); (try simp only [List.setIfInBounds_toArray]); (try simp only [List.set_cons_succ]); (try simp only [List.set_cons_zero]))
      refine AnyZ.one (j := 6) (by kernel_rfl) rfl (fun K hK => ?_)
      (refine step_push_any _ (by rfl) (.tmp 50) (.tmp 53) (by rfl) (.slice (some ⟨wq.heap.size, 0, none⟩) 0 0) [] (by rfl) (OwnI.lit wq.drew) (.slice au xs.length cu) xs (by rfl) (HUQ.out.drewAlloc _) (by simp; omega) (by simp) ?_; intro a8 c8 w8 ho8 hg8; simp only [List.nil_append, List.length_nil, Nat.zero_add] at ho8 ⊢; have hb8 := (((Below.refl wq.heap.size wq).drew.alloc (Nat.le_refl _) _).grown hg8 (by simp) (fun j hj => by cases hj; exact Nat.le_refl _)); have HO8 := Lib.hid (show OwnI wq.heap.size w8 _ _ from ho8); have HB8 := Lib.hid (show Below wq.heap.size wq w8 from hb8); have hz8 := hg8.size; simp at hz8; clear ho8 hb8)
      (try go_simp)
      refine hK.out _ _ ?hs6 ?rest6
      case hs6 => (go_split_ands; exact ⟨(hg8.cell_far _ (by simp; omega) (by simp [Value.ownBlock]; omega)).trans (by assumption), (hg8.cell_far _ (by simp; omega) (by simp [Value.ownBlock]; omega)).trans (by assumption), (hg8.cell_far _ (by simp; omega) (by simp [Value.ownBlock]; omega)).trans (by assumption), (hg8.cell_far _ (by simp; omega) (by simp [Value.ownBlock]; omega)).trans (by assumption)⟩)
      clear hK K hHeld
      intro hHeld
      (try dsimp only at hHeld)
      ((try simp only [Act.put]); (try simp only [List.setIfInBounds_toArray]); (try simp only [List.set_cons_succ]); (try simp only [List.set_cons_zero]))
      refine AnyZ.take (i := 13) (v := ?vv13) rfl (by kernel_rfl) (by kernel_rfl) (by kernel_rfl) (by kernel_rfl) (fun _ _ _ h => h) (Or.inl ⟨by rfl, ?hy13⟩) (by assumption) ?rest13
      case hy13 => (intro w9 hSw; (try dsimp only at hSw); go_split_ands; go_simp; all_goals with_reducible rfl)
      ((try simp only [Act.put]); (try simp only [List.setIfInBounds_toArray]); (try simp only [List.set_cons_succ]); (try simp only [List.set_cons_zero]))
      refine AnyZ.one (j := 14) (by kernel_rfl) rfl (fun K hK => ?_)
      go_simp
      refine hK.out _ _ ?hs14 ?rest14
      case hs14 => go_keep
      clear hK K hHeld
      intro hHeld
      (try dsimp only at hHeld)
      ((try simp only [Act.put]); (try simp only [List.setIfInBounds_toArray]); (try simp only [List.set_cons_succ]); (try simp only [List.set_cons_zero]))
      refine AnyZ.one (j := 15) (by kernel_rfl) rfl (fun K hK => ?_)
      (refine step_push_g _ (by rfl) (.tmp 49) (.tmp 62) (by rfl) (.slice a3 gs.length c3) gs (by rfl) ((HOW.out.below HB8.out).alloc _) w8.heap.size 1 (.slice a8 xs.length c8) ⟨xs, r, n⟩ (by rfl) (heap_alloc_new w8 _) (OwnI.mono2 (World.ownsRow.alloc HO8.out _) (by omega)) (guess_old HOW.out (HB8.out.alloc HB8.out.size _) (World.ownsRow.alloc HO8.out _)) (by omega) (by simp; omega) ?_; intro a9 c9 w9 ho9 hg9; have h9 := HP.out _ w9 a9 c9 (HWQ.out.below (HB8.out.alloc HB8.out.size _)) ho9 hg9; have e9 := cell_of_row _ _ 2 _ _ (0, 0) h9.2; have k9 : ∀ j, w9.frozen? ⟨w3.heap.size, j, none⟩ = false := fun j => frozen_of_row _ _ j _ _ h9.2; have H9 := Lib.hid h9.1; simp at e9; clear ho9 h9)
      (try go_simp)
      refine hK.out _ _ ?hs15 ?rest15
      case hs15 => (go_split_ands; exact ⟨(hg9.cell_far _ (by simp; omega) (fun e => (HNE.out _ e.symm).1 rfl)).trans (by assumption), (hg9.cell_far _ (by simp; omega) (fun e => (HNE.out _ e.symm).2 rfl)).trans (by assumption), (hg9.cell_far _ (by simp; omega) (fun e => (HNE.out _ e.symm).2 rfl)).trans (by assumption), (hg9.cell_far _ (by simp; omega) (fun e => (HNE.out _ e.symm).2 rfl)).trans (by assumption)⟩)
      clear hK K hHeld
      intro hHeld
      (try dsimp only at hHeld)
      ((try simp only [Act.put]); (try simp only [List.setIfInBounds_toArray]); (try simp only [List.set_cons_succ]); (try simp only [List.set_cons_zero]))
      refine AnyZ.take (i := 16) (v := ?vv16) rfl (by kernel_rfl) (by kernel_rfl) (by kernel_rfl) (by kernel_rfl) (fun _ _ _ h => h) (Or.inl ⟨by rfl, ?hy16⟩) (by assumption) ?rest16
      case hy16 => (intro w9 hSw; (try dsimp only at hSw); go_split_ands; go_simp; all_goals with_reducible rfl)
      ((try simp only [Act.put]); (try simp only [List.setIfInBounds_toArray]); (try simp only [List.set_cons_succ]); (try simp only [List.set_cons_zero]))
      refine AnyZ.last (by kernel_rfl) rfl (by kernel_rfl) (fun K hK => ?_)
      go_simp
      refine hK.out _ _ ?_
      clear hK K hHeld
      obtain ⟨wz, hwz⟩ : ∃ z, z = w9.setCell ⟨w3.heap.size, 2, none⟩ (.slice a9 (gs.length + 1) c9) := ⟨_, rfl⟩
      rw [← hwz] at H9 ⊢
      have hWZ := H9.out
      obtain ⟨f0, f1, f2, fx, hDlt3, hXlt3, hRlt3⟩ := hWZ.facts
      have HWZ := Lib.hid hWZ
      have hle : (gs ++ [(⟨xs, r, n⟩ : Gs)]).length = gs.length + 1 := by simp
      have hOZ := hWZ.2.2.2.1
      rw [← hle, List.take_length] at hOZ
      have h64 := HGL.out.i64.snoc (x := ⟨xs, r, n⟩) HU.out.2
      have hDK := deskOkS_any p c _ _ wz (hOZ.toGL h64)
      rw [hle] at hDK
      have HOZ := Lib.hid hOZ
      have HLE := Lib.hid hle
      unfold dkV at hDK
      obtain ⟨t, ht⟩ : ∃ t, t = deskB p c (gs ++ [⟨xs, r, n⟩]) := ⟨_, rfl⟩
      rw [← ht] at hDK HDY HDN
      clear hwz hWZ fx hle hOZ h64 ht e9 k9 q0 q1 q2 q3
      go_wp2_with fail
      refine hDK.mono ?_
      rintro e w10 ⟨rfl, hb10⟩
      have hW10 := HWZ.out.below hb10
      have HW10 := Lib.hid hW10
      have HO10 := Lib.hid (HOZ.out.below hb10)
      clear hDK hb10 f0 f1 f2
      obtain ⟨f0, f1, f2, fx, hDlt4, hXlt4, hRlt4⟩ := hW10.facts
      cases t
      · have HR := Lib.hid (HDN.out rfl)
        have x0 := fx 0
        have x1 := fx 1
        have x2 := fx 2
        simp only [List.getElem?_toArray, List.getElem?_cons_zero, List.getElem?_cons_succ] at x0 x1 x2
        have hT := hEND.out w10 hW10.2.2.2.2.2.1
        clear fx hW10 f0 f1 f2
        go_wp2_with fail
        refine hT.mono ?_
        rintro e w4 ⟨a4, c4, rfl, ho4, hb4⟩
        unfold dkV
        have hR4 := (HW10.out.below hb4).1
        have hbw := (HW10.out.below hb4).2.2.2.2.2.1
        obtain ⟨q6, q7⟩ := ho4.caps
        obtain ⟨r0, r1, r2, rf⟩ := zero_cells hR4
        have HF := Lib.hid (do_ret (w := w) (p := p) (c := c) false hR4 (by omega) (ho4.mono HW10.out.2.2.2.2.2.1.size) hbw q6 q7)
        clear hT ho4 hb4 hR4 hbw x0 x1 x2
        go_wp2
        ((try simp only [Exit.inBlock, Exit.then]); refine bodyPost_ret (results_cell_tmp rfl _ _ (w.heap.size + 1 + 1) _ _ (0, 0) _ rfl HF.out.2 Try.underlying25 rfl (by kernel_rfl)) rfl ?_)
        refine HY.out _ _ (by trivial) ?_
        rw [HR.out]
        exact HF.out.1
      · have HR := Lib.hid (HDY.out rfl)
        have hR4 := hW10.1
        have hbw := hW10.2.2.2.2.2.1
        obtain ⟨q6, q7⟩ := HO10.out.caps
        obtain ⟨r0, r1, r2, rf⟩ := zero_cells hR4
        have HF := do_ret (w := w) (p := p) (c := c) true hR4 (by omega) HO10.out hbw q6 q7
        rw [HLE.out] at HF
        have HF := Lib.hid HF
        clear fx hW10 hR4 hbw
        go_wp2
        ((try simp only [Exit.inBlock, Exit.then]); refine bodyPost_ret (results_cell_tmp rfl _ _ (w.heap.size + 1 + 1) _ _ (0, 0) _ rfl HF.out.2 Try.underlying25 rfl (by kernel_rfl)) rfl ?_)
        refine HY.out _ _ (by trivial) ?_
        rw [HR.out]
        exact HF.out.1
    · clear d0
      have hgd := cell_of_row _ _ 0 _ _ (0, 0) HD1.out
      rw [hwq] at hgd
      simp only [List.getElem?_toArray, List.getElem?_cons_zero] at hgd
      by_cases hxs : xs = []
      · subst hxs
        rw [List.length_nil] at d1 ⊢
        by_cases hr : r = 0
        · subst hr
          by_cases hn : n = 0
          · subst hn
            have hnb : nothingB [] 0 0 = true := decide_eq_true ⟨rfl, rfl, rfl⟩
            rcases Nat.eq_zero_or_pos gs.length with hz | hz
            · have HR := Lib.hid (done_none (p := p) (c := c) (gs := gs) (xs := []) (r := 0) (n := 0) hz)
              have h4 : ((gs.length : Int) == 0) = true := by rw [hz]; rfl
              clear hz hnb
              have HF := Lib.hid (do_ret2 (w := w) (p := p) (c := c) false (.cells #[.int .i64 p, .int .i64 c, .slice a3 gs.length c3] 25) HG3.out (by omega) HO3.out HB3.out HOW.out.caps.1 HOW.out.caps.2)
              go_wp2
              ((try simp only [Exit.inBlock, Exit.then]); refine bodyPost_ret (results_cell_tmp rfl _ _ (w.heap.size + 1 + 1) _ _ (0, 0) _ rfl HF.out.2 Try.underlying25 rfl (by kernel_rfl)) rfl ?_)
              refine HY.out _ _ (by trivial) ?_
              rw [HR.out]
              exact HF.out.1
            · have HR := Lib.hid (done_back (p := p) (c := c) (gs := gs) (xs := []) (r := 0) (n := 0) hnb hz)
              have h4 : ((gs.length : Int) == 0) = false := by rw [beq_eq_false_iff_ne]; omega
              obtain ⟨g2, cp2, e9, _, _, _, _, _, _⟩ := HOW.out.opened hz
              injection e9 with e9 e9b e9c
              subst e9
              clear e9b e9c
              obtain ⟨q6, q7⟩ := HOW.out.caps
              have hz' : 0 < (gs.length : Int) := by omega
              have hz1 : (0 : Int) ≤ (gs.length : Int) - 1 := by omega
              have hz2 : (1 : Int) ≤ (gs.length : Int) := by omega
              have hz3 : (gs.length : Int) - 1 ≤ (c3 : Int) := by omega
              have hle : (gs.take (gs.length - 1)).length = gs.length - 1 := by rw [List.length_take]; omega
              have hOx := HO3.out.take (gs.length - 1) (by omega)
              have HF := do_ret2 (w := w) (p := p) (c := c) (gs := gs.take (gs.length - 1)) (a4 := some ⟨g2, 0, none⟩) (c4 := c3) (cap2 := c3) true (.cells #[.int .i64 p, .int .i64 c, .slice (some ⟨g2, 0, none⟩) (gs.length - 1) c3] 25) HG3.out (by omega) (by rw [hle]; exact hOx) HB3.out (by omega) (by omega)
              rw [hle] at HF
              have HF := Lib.hid HF
              clear hnb hle hOx
              go_wp2
              ((try simp only [Exit.inBlock, Exit.then]); refine bodyPost_ret (results_cell_tmp rfl _ _ (w.heap.size + 1 + 1) _ _ (0, 0) _ rfl HF.out.2 Try.underlying25 rfl (by kernel_rfl)) rfl ?_)
              refine HY.out _ _ (by trivial) ?_
              rw [HR.out]
              exact HF.out.1
          · have h3 : (n != 0) = true := by simpa using hn
            have HR := Lib.hid (done_bad (p := p) (c := c) (gs := gs) (xs := []) (r := 0) (n := n) (decide_eq_false (fun q => hn q.2.2)))
            clear hn
            have HF := Lib.hid (do_ret2 (w := w) (p := p) (c := c) false (.cells #[.int .i64 p, .int .i64 c, .slice a3 gs.length c3] 25) HG3.out (by omega) HO3.out HB3.out HOW.out.caps.1 HOW.out.caps.2)
            go_wp2
            ((try simp only [Exit.inBlock, Exit.then]); refine bodyPost_ret (results_cell_tmp rfl _ _ (w.heap.size + 1 + 1) _ _ (0, 0) _ rfl HF.out.2 Try.underlying25 rfl (by kernel_rfl)) rfl ?_)
            refine HY.out _ _ (by trivial) ?_
            rw [HR.out]
            exact HF.out.1
        · have h2 : (r != 0) = true := by simpa using hr
          have HR := Lib.hid (done_bad (p := p) (c := c) (gs := gs) (xs := []) (r := r) (n := n) (decide_eq_false (fun q => hr q.2.1)))
          clear hr
          have HF := Lib.hid (do_ret2 (w := w) (p := p) (c := c) false (.cells #[.int .i64 p, .int .i64 c, .slice a3 gs.length c3] 25) HG3.out (by omega) HO3.out HB3.out HOW.out.caps.1 HOW.out.caps.2)
          go_wp2
          ((try simp only [Exit.inBlock, Exit.then]); refine bodyPost_ret (results_cell_tmp rfl _ _ (w.heap.size + 1 + 1) _ _ (0, 0) _ rfl HF.out.2 Try.underlying25 rfl (by kernel_rfl)) rfl ?_)
          refine HY.out _ _ (by trivial) ?_
          rw [HR.out]
          exact HF.out.1
      · have h1 : 0 < xs.length := List.length_pos_iff.2 hxs
        have HR := Lib.hid (done_bad (p := p) (c := c) (gs := gs) (xs := xs) (r := r) (n := n) (decide_eq_false (fun q => hxs q.1)))
        clear hxs
        have HF := Lib.hid (do_ret2 (w := w) (p := p) (c := c) false (.cells #[.int .i64 p, .int .i64 c, .slice a3 gs.length c3] 25) HG3.out (by omega) HO3.out HB3.out HOW.out.caps.1 HOW.out.caps.2)
        go_wp2
        ((try simp only [Exit.inBlock, Exit.then]); refine bodyPost_ret (results_cell_tmp rfl _ _ (w.heap.size + 1 + 1) _ _ (0, 0) _ rfl HF.out.2 Try.underlying25 rfl (by kernel_rfl)) rfl ?_)
        refine HY.out _ _ (by trivial) ?_
        rw [HR.out]
        exact HF.out.1

end Go.Proofs.Ytjecolbodelniaa
