/- The program's DeskDo. -/
import Derived.Test.YtjecolbodelniaaDone
namespace Go.Proofs.Ytjecolbodelniaa
open Go.RowKit
set_option linter.unusedVariables false
set_option maxRecDepth 100000

/-- What DeskDo returns. -/
def DoRes (p c : Int) (gs : List Gs) (d : Dd) (w : World) (e : Ending) (w' : World) : Prop :=
  if deskB p c gs = true then DoOut p c (doneG p c gs d).1 (doneG p c gs d).2 w e w' else DoOut 0 0 [] false w e w'
theorem DoRes.yes {p c : Int} {gs : List Gs} {d : Dd} {w : World} {e : Ending} {w' : World} (h : deskB p c gs = true) (ho : DoOut p c (doneG p c gs d).1 (doneG p c gs d).2 w e w') : DoRes p c gs d w e w' := by
  unfold DoRes; rw [if_pos h]; exact ho
theorem DoRes.no {p c : Int} {gs : List Gs} {d : Dd} {w : World} {e : Ending} {w' : World} (h : deskB p c gs = false) (ho : DoOut 0 0 [] false w e w') : DoRes p c gs d w e w' := by
  unfold DoRes; rw [if_neg (by simp [h])]; exact ho
/-- A desk that was handed over is put into the result's block. -/
theorem DoOut.stored {p c : Int} {gs : List Gs} {ok : Bool} {w wi w4 : World} {R : Nat} {a : Option Addr} {cap cap2 : Nat} (hb : Below w.heap.size w wi) (hR : w4.heap[R]? = some (.cells #[.int .i64 0, .int .i64 0, .slice none 0 0] 25 (0, 0))) (hRB : w.heap.size ≤ R)
    (h1 : gs.length ≤ cap2) (h2 : cap2 ≤ 9223372036854775807) (ho : OwnG wi.heap.size w4 (.slice a gs.length cap) gs) (hb4 : Below wi.heap.size wi w4) :
    DoOut p c gs ok w (.returned (.tuple #[dkV p c (.slice a gs.length cap2), .bool ok])) (((w4.setCell ⟨R, 0, none⟩ (.int .i64 p)).setCell ⟨R, 1, none⟩ (.int .i64 c)).setCell ⟨R, 2, none⟩ (.slice a gs.length cap2)) ∧
      (((w4.setCell ⟨R, 0, none⟩ (.int .i64 p)).setCell ⟨R, 1, none⟩ (.int .i64 c)).setCell ⟨R, 2, none⟩ (.slice a gs.length cap2)).heap[R]? = some (.cells #[.int .i64 p, .int .i64 c, .slice a gs.length cap2] 25 (0, 0)) :=
  do_ret ok hR hRB (ho.mono hb.size) (hb.trans (hb4.mono hb.size)) h1 h2

set_option maxHeartbeats 2000000 in
theorem deskDoI_any {B C : Nat} (p c : Int) (v : Value) (gs : List Gs) (b : Bool) (u : Value) (xs : List Int) (r n : Int) (w : World) (h : RG B w v gs) (hu : Ints C w u xs) (hnil : NilOr u) (hc : ∀ g ∈ gs, g.code.length ≤ 2000000) (hx : xs.length ≤ 2000000) :
    Calls Try.prog 10 #[dkV p c v, dV b u r n] w (DoRes p c gs ⟨b, xs, r, n⟩ w) := by
  have HRG := Lib.hid h
  have HU := Lib.hid hu
  have HNIL := Lib.hid hnil
  have HC := Lib.hid hc
  obtain ⟨a, cap, rfl⟩ := h.shape
  obtain ⟨au, cu, rfl, _⟩ := hu.opened
  obtain ⟨w1, hw1⟩ : ∃ w1, w1 = ((w.alloc (.cells #[.int .i64 p, .int .i64 c, .slice a gs.length cap] 25)).alloc (.cells #[.bool b, .slice au xs.length cu, .int .i64 r, .int .i64 n] 30)).alloc (.cells #[.int .i64 0, .int .i64 0, .slice none 0 0] 25) := ⟨_, rfl⟩
  have hb1 : Below w.heap.size w w1 := by rw [hw1]; exact (((Below.refl _ _).alloc (Nat.le_refl _) _).alloc (by simp) _).alloc (by simp; omega) _
  have hs1 : w1.heap.size = w.heap.size + 3 := by rw [hw1]; simp
  have hz0 : w1.heap[w.heap.size]? = some (.cells #[.int .i64 p, .int .i64 c, .slice a gs.length cap] 25 (0, 0)) := by
    rw [hw1, heap_alloc_old _ _ (by simp; try omega), heap_alloc_old _ _ (by simp; try omega)]; exact heap_alloc_new w _
  have hz1 : w1.heap[w.heap.size + 1]? = some (.cells #[.bool b, .slice au xs.length cu, .int .i64 r, .int .i64 n] 30 (0, 0)) := by
    rw [hw1, heap_alloc_old _ _ (by simp; try omega)]; have q := @Go.heap_alloc_new (w.alloc (.cells #[.int .i64 p, .int .i64 c, .slice a gs.length cap] 25)) (.cells #[.bool b, .slice au xs.length cu, .int .i64 r, .int .i64 n] 30); rw [World.size_alloc] at q; exact q
  have hz2 : w1.heap[w.heap.size + 1 + 1]? = some (.cells #[.int .i64 0, .int .i64 0, .slice none 0 0] 25 (0, 0)) := by
    rw [hw1]; have q := @Go.heap_alloc_new ((w.alloc (.cells #[.int .i64 p, .int .i64 c, .slice a gs.length cap] 25)).alloc (.cells #[.bool b, .slice au xs.length cu, .int .i64 r, .int .i64 n] 30)) (.cells #[.int .i64 0, .int .i64 0, .slice none 0 0] 25); rw [World.size_alloc, World.size_alloc] at q; exact q
  have hT := deskOkI_any p c _ gs w1 (h.toGL.below hb1)
  have HB1 := Lib.hid hb1
  have HS1 := Lib.hid hs1
  have HZ0 := Lib.hid hz0
  have HZ1 := Lib.hid hz1
  have HZ2 := Lib.hid hz2
  have HY := Lib.hid (fun (e : Ending) (w' : World) (q : deskB p c gs = true) => DoRes.yes (d := ⟨b, xs, r, n⟩) (w := w) (e := e) (w' := w') q)
  have HN := Lib.hid (fun (e : Ending) (w' : World) (q : deskB p c gs = false) => DoRes.no (d := ⟨b, xs, r, n⟩) (w := w) (e := e) (w' := w') q)
  have HLEN := Lib.hid (@deskB_len p c gs)
  obtain ⟨t, ht⟩ : ∃ t, t = deskB p c gs := ⟨_, rfl⟩
  rw [← ht] at hT HY HN HLEN
  unfold dkV at hT
  unfold dkV dV
  clear h hu hnil hc hb1 hs1 hz0 hz1 hz2 ht
  go_enter Try.func10, Try.ntmps10
  go_wp2_with fail
  rw [← hw1]
  clear hw1
  refine hT.mono ?_
  rintro e w2 ⟨rfl, hb2⟩
  have hg0 := (hb2.block w.heap.size (by have := HS1.out; omega)).trans HZ0.out
  have hg1 := (hb2.block (w.heap.size + 1) (by have := HS1.out; omega)).trans HZ1.out
  have hg2 := (hb2.block (w.heap.size + 1 + 1) (by have := HS1.out; omega)).trans HZ2.out
  have e0 := cell_of_row _ _ 0 _ _ (0, 0) hg0
  have e1 := cell_of_row _ _ 1 _ _ (0, 0) hg0
  have e2 := cell_of_row _ _ 2 _ _ (0, 0) hg0
  have d0 := cell_of_row _ _ 0 _ _ (0, 0) hg1
  have d1 := cell_of_row _ _ 1 _ _ (0, 0) hg1
  have d2 := cell_of_row _ _ 2 _ _ (0, 0) hg1
  have d3 := cell_of_row _ _ 3 _ _ (0, 0) hg1
  simp only [List.getElem?_toArray, List.getElem?_cons_zero, List.getElem?_cons_succ] at e0 e1 e2 d0 d1 d2 d3
  have hbw := HB1.out.trans (hb2.mono HB1.out.size)
  have HBW := Lib.hid hbw
  have HG2 := Lib.hid hg2
  cases t
  · obtain ⟨r0, r1, r2, rf⟩ := zero_cells hg2
    have HF := Lib.hid (do_ret (w := w) (p := 0) (c := 0) (gs := []) (a4 := none) (c4 := 0) (cap2 := 0) false hg2 (by omega) (OwnG.empty _ _) hbw (by simp) (by omega))
    clear hT hb2 hg0 hg1 hg2 hbw e0 e1 e2 d0 d1 d2 d3
    go_wp2
    ((try simp only [Exit.inBlock, Exit.then]); refine bodyPost_ret (results_cell_tmp rfl _ _ (w.heap.size + 1 + 1) _ _ (0, 0) _ rfl HF.out.2 Try.underlying25 rfl (by kernel_rfl)) rfl ?_)
    exact HN.out _ _ (by trivial) HF.out.1
  · have hD := done_any p c _ gs b _ xs r n w2 (HRG.out.below hbw) (HU.out.below hbw) HNIL.out (by have := HLEN.out rfl; omega) HC.out hx
    unfold dkV dV DoOut dkV at hD
    have HLD := Lib.hid HY
    obtain ⟨gs', hgs⟩ : ∃ gs', gs' = (doneG p c gs ⟨b, xs, r, n⟩).1 := ⟨_, rfl⟩
    obtain ⟨ok, hok⟩ : ∃ ok, ok = (doneG p c gs ⟨b, xs, r, n⟩).2 := ⟨_, rfl⟩
    rw [← hgs, ← hok] at hD HY
    clear hT hb2 hg0 hg1 hg2 hbw hgs hok
    go_wp2_with fail
    refine hD.mono ?_
    rintro e w3 ⟨a3, c3, cc3, rfl, q1, q2, ho3, hb3⟩
    have hR3 := (hb3.block _ (Array.getElem?_eq_some_iff.1 HG2.out).1).trans HG2.out
    obtain ⟨r0, r1, r2, rf⟩ := zero_cells hR3
    have HF := Lib.hid (DoOut.stored (p := p) (c := c) (ok := ok) HBW.out hR3 (by omega) q1 q2 ho3 hb3)
    clear hD ho3 hb3 hR3 e0 e1 e2 d0 d1 d2 d3
    go_wp2
    ((try simp only [Exit.inBlock, Exit.then]); refine bodyPost_ret (results_cell_tmp rfl _ _ (w.heap.size + 1 + 1) _ _ (0, 0) _ rfl HF.out.2 Try.underlying25 rfl (by kernel_rfl)) rfl ?_)
    exact HY.out _ _ (by trivial) HF.out.1

end Go.Proofs.Ytjecolbodelniaa
