/- DrawDeskDo. -/
import Derived.Test.YtjecolbodelniaaDrawDeed
namespace Go.Proofs.Ytjecolbodelniaa
open Go.RowKit
set_option linter.unusedVariables false
set_option maxRecDepth 100000

theorem results_cell_cell {P : Program} {fn : Func} {p q : Tmp} {ty ty2 : TypeId} (h : fn.results = #[.cell p ty, .cell q ty2]) (tmps : Array Value) (w : World) (g : Nat) (t : TypeId) (cs : Array Value) (fr : Nat × Nat) (d : TypeDesc) (g2 : Nat) (t2 : TypeId) (cs2 : Array Value) (fr2 : Nat × Nat) (d2 : TypeDesc)
    (hp : tmps.getD p undef = .pointer (some ⟨g, 0, none⟩)) (hg : w.heap[g]? = some (.cells cs t fr))
    (hu : P.underlying ty = some d) (hd : (match d with | .struct _ | .array _ _ => true | _ => false) = true) (hi : (P.info? ty).map (·.size) = some cs.size)
    (hp2 : tmps.getD q undef = .pointer (some ⟨g2, 0, none⟩)) (hg2 : w.heap[g2]? = some (.cells cs2 t2 fr2))
    (hu2 : P.underlying ty2 = some d2) (hd2 : (match d2 with | .struct _ | .array _ _ => true | _ => false) = true) (hi2 : (P.info? ty2).map (·.size) = some cs2.size) :
    (results fn tmps).run P w = .ok (.tuple #[.agg cs, .agg cs2]) w := by
  have hp' : tmps[p]?.getD undef = .pointer (some ⟨g, 0, none⟩) := by simpa using hp
  have hq' : tmps[q]?.getD undef = .pointer (some ⟨g2, 0, none⟩) := by simpa using hp2
  simp [results, h, hp', hq', asAddr, run_loadVar_row w g t ty cs fr d hg hu hd hi, run_loadVar_row w g2 t2 ty2 cs2 fr2 d2 hg2 hu2 hd2 hi2]

theorem zero_cellsD {w : World} {R : Nat} (h1 : w.heap[R]? = some (.cells #[.int .i64 0, .int .i64 0, .slice none 0 0] 25 (0, 0))) :
    w.cell? ⟨R, 0, none⟩ = some (.int .i64 0) ∧ w.cell? ⟨R, 1, none⟩ = some (.int .i64 0) ∧ w.cell? ⟨R, 2, none⟩ = some (.slice none 0 0) ∧ ∀ j, w.frozen? ⟨R, j, none⟩ = false := by
  refine ⟨?_, ?_, ?_, fun j => frozen_of_row _ _ j _ _ h1⟩ <;> rw [cell_of_row _ _ _ _ _ _ h1] <;> simp

/-- A drawn desk and a drawn deed. -/
def DoDrawn (w : World) (e : Ending) (w' : World) : Prop :=
  ∃ (x c : Int) (gs : List Gs) (a1 : Option Addr) (c1 : Nat) (b : Bool) (ys : List Int) (r n : Int) (a2 : Option Addr) (c2 : Nat), e = .returned (.tuple #[dkV x c (.slice a1 gs.length c1), dV b (.slice a2 ys.length c2) r n]) ∧
    OwnG w.heap.size w' (.slice a1 gs.length c1) gs ∧ In64G gs ∧ gs.length ≤ 5 ∧ (∀ g ∈ gs, g.code.length ≤ 10) ∧ OwnI w.heap.size w' (.slice a2 ys.length c2) ys ∧ (∀ y ∈ ys, In64 y) ∧ ys.length ≤ 10 ∧ Below w.heap.size w w'

def doW (w4 : World) (N : Nat) (x c : Int) (v : Value) (b : Bool) (u : Value) (r n : Int) : World :=
  ((((((w4.setCell ⟨N, 0, none⟩ (.int .i64 x)).setCell ⟨N, 1, none⟩ (.int .i64 c)).setCell ⟨N, 2, none⟩ v).setCell ⟨N + 1, 0, none⟩ (.bool b)).setCell ⟨N + 1, 1, none⟩ u).setCell ⟨N + 1, 2, none⟩ (.int .i64 r)).setCell ⟨N + 1, 3, none⟩ (.int .i64 n)
theorem OwnG.otherD {B D j : Nat} {w : World} {v z : Value} {gs : List Gs} {cs : Array Value} {t : TypeId} {fr : Nat × Nat} (h : OwnG B w v gs) (hD : w.heap[D]? = some (.cells cs t fr)) (h1 : 28 ≠ t) (h2 : 3 ≠ t) : OwnG B (w.setCell ⟨D, j, none⟩ z) v gs := by
  obtain ⟨ts, q1, q2, q3, q4⟩ := h
  have hs := grownBy_setCell w ⟨D, j, none⟩ z
  exact ⟨ts, World.ownsRow.kept q1 hs (own_other q1 hD h1), q2, fun i hi hi' => ⟨World.ownsRow.kept (q3 i hi hi').1 hs (own_other (q3 i hi hi').1 hD h2), (q3 i hi hi').2⟩, q4⟩
theorem do_fin {w w4 : World} {x c r n : Int} {b : Bool} {gs : List Gs} {ys : List Int} {a1 a2 : Option Addr} {c1 c2 : Nat} (hR : w4.heap[w.heap.size]? = some (.cells #[.int .i64 0, .int .i64 0, .slice none 0 0] 25 (0, 0)))
    (hQ : w4.heap[w.heap.size + 1]? = some (.cells #[.bool false, .slice none 0 0, .int .i64 0, .int .i64 0] 30 (0, 0))) (ho : OwnG w.heap.size w4 (.slice a1 gs.length c1) gs) (h64 : In64G gs) (hl : gs.length ≤ 5) (hcl : ∀ g ∈ gs, g.code.length ≤ 10)
    (hi : OwnI w.heap.size w4 (.slice a2 ys.length c2) ys) (hy : ∀ y ∈ ys, In64 y) (hyl : ys.length ≤ 10) (hb : Below w.heap.size w w4) :
    DoDrawn w (.returned (.tuple #[dkV x c (.slice a1 gs.length c1), dV b (.slice a2 ys.length c2) r n])) (doW w4 w.heap.size x c (.slice a1 gs.length c1) b (.slice a2 ys.length c2) r n) ∧
      (doW w4 w.heap.size x c (.slice a1 gs.length c1) b (.slice a2 ys.length c2) r n).heap[w.heap.size]? = some (.cells #[.int .i64 x, .int .i64 c, .slice a1 gs.length c1] 25 (0, 0)) ∧
      (doW w4 w.heap.size x c (.slice a1 gs.length c1) b (.slice a2 ys.length c2) r n).heap[w.heap.size + 1]? = some (.cells #[.bool b, .slice a2 ys.length c2, .int .i64 r, .int .i64 n] 30 (0, 0)) := by
  unfold doW
  have q1 := heap_setCell_same _ _ 0 _ _ (.int .i64 x) hR
  have q2 := heap_setCell_same _ _ 1 _ _ (.int .i64 c) q1
  have q3 := heap_setCell_same _ _ 2 _ _ (.slice a1 gs.length c1) q2
  have p3 : (((w4.setCell ⟨w.heap.size, 0, none⟩ (.int .i64 x)).setCell ⟨w.heap.size, 1, none⟩ (.int .i64 c)).setCell ⟨w.heap.size, 2, none⟩ (.slice a1 gs.length c1)).heap[w.heap.size + 1]? = some (.cells #[.bool false, .slice none 0 0, .int .i64 0, .int .i64 0] 30 (0, 0)) := by
    rw [heap_setCell_other _ _ _ _ (by simp), heap_setCell_other _ _ _ _ (by simp), heap_setCell_other _ _ _ _ (by simp)]; exact hQ
  have p4 := heap_setCell_same _ _ 0 _ _ (.bool b) p3
  have p5 := heap_setCell_same _ _ 1 _ _ (.slice a2 ys.length c2) p4
  have p6 := heap_setCell_same _ _ 2 _ _ (.int .i64 r) p5
  have p7 := heap_setCell_same _ _ 3 _ _ (.int .i64 n) p6
  refine ⟨⟨x, c, gs, a1, c1, b, ys, r, n, a2, c2, rfl, ?_, h64, hl, hcl, ?_, hy, hyl, ?_⟩, ?_, p7⟩
  · exact ((((((ho.otherD hR (by decide) (by decide)).otherD q1 (by decide) (by decide)).otherD q2 (by decide) (by decide)).otherD p3 (by decide) (by decide)).otherD p4 (by decide) (by decide)).otherD p5 (by decide) (by decide)).otherD p6 (by decide) (by decide)
  · exact ((((((hi.other hR (by decide)).other q1 (by decide)).other q2 (by decide)).other p3 (by decide)).other p4 (by decide)).other p5 (by decide)).other p6 (by decide)
  · exact ((((((hb.setCell (p := ⟨w.heap.size, 0, none⟩) (by simp) _).setCell (p := ⟨w.heap.size, 1, none⟩) (by simp) _).setCell (p := ⟨w.heap.size, 2, none⟩) (by simp) _).setCell (p := ⟨w.heap.size + 1, 0, none⟩) (by simp) _).setCell (p := ⟨w.heap.size + 1, 1, none⟩) (by simp) _).setCell (p := ⟨w.heap.size + 1, 2, none⟩) (by simp) _).setCell (p := ⟨w.heap.size + 1, 3, none⟩) (by simp) _
  · rw [heap_setCell_other _ _ _ _ (by simp), heap_setCell_other _ _ _ _ (by simp), heap_setCell_other _ _ _ _ (by simp), heap_setCell_other _ _ _ _ (by simp)]; exact q3

set_option maxHeartbeats 2000000 in
theorem drawDeskDo_any {B : Nat} (v : Value) (bs : List Int) (w : World) (h : Bytes B w v bs) :
    Calls Try.prog 9 #[v] w (DoDrawn w) := by
  obtain ⟨a0, cap0, rfl, _⟩ := id h.1
  rw [List.length_map] at h ⊢
  obtain ⟨w1, hw1⟩ : ∃ w1, w1 = (w.alloc (.cells #[.int .i64 0, .int .i64 0, .slice none 0 0] 25)).alloc (.cells #[.bool false, .slice none 0 0, .int .i64 0, .int .i64 0] 30) := ⟨_, rfl⟩
  have hb1 : Below w.heap.size w w1 := by rw [hw1]; exact ((Below.refl _ _).alloc (Nat.le_refl _) _).alloc (by simp) _
  have hs1 : w1.heap.size = w.heap.size + 2 := by rw [hw1]; simp
  have hr1 : w1.heap[w.heap.size]? = some (.cells #[.int .i64 0, .int .i64 0, .slice none 0 0] 25 (0, 0)) := by rw [hw1, heap_alloc_old _ _ (by simp; try omega)]; exact heap_alloc_new w _
  have hq1 : w1.heap[w.heap.size + 1]? = some (.cells #[.bool false, .slice none 0 0, .int .i64 0, .int .i64 0] 30 (0, 0)) := by
    rw [hw1]; have q := @Go.heap_alloc_new (w.alloc (.cells #[.int .i64 0, .int .i64 0, .slice none 0 0] 25)) (.cells #[.bool false, .slice none 0 0, .int .i64 0, .int .i64 0] 30); rw [World.size_alloc] at q; exact q
  have hO := open_any _ bs w1 (h.below hb1)
  have HB1 := Lib.hid hb1
  have HR1 := Lib.hid hr1
  have HQ1 := Lib.hid hq1
  have HS1 := Lib.hid hs1
  clear h hb1 hr1 hq1 hs1
  go_enter Try.func9, Try.ntmps9
  go_wp2_with fail
  rw [← hw1]
  clear hw1
  refine hO.mono ?_
  rintro e w2 ⟨a, cap, bs1, rfl, hR2, hb2⟩
  have hz1 : w.heap.size + 2 = w1.heap.size := HS1.out.symm
  have HB2 := Lib.hid (HB1.out.trans (hb2.mono HB1.out.size))
  have HR2 := Lib.hid ((hb2.block _ (Array.getElem?_eq_some_iff.1 HR1.out).1).trans HR1.out)
  have HQ2 := Lib.hid ((hb2.block _ (Array.getElem?_eq_some_iff.1 HQ1.out).1).trans HQ1.out)
  have hz2 := hb2.size
  have hG := desk_any 12 w2 _ a cap bs1 0 hR2 (by omega) (by omega) (by omega)
  have hK2 := hR2.lt
  clear hO hb2 hR2
  go_wp2_with fail
  refine hG.mono ?_
  rintro e w3 ⟨x, c, gs, a', c', rfl, ho, h64, hl5, hx0, hx4, hc0, hc4, hcl, ⟨p3, hR3, hp3⟩, hg3⟩
  have HDK := Lib.hid (fun v => show dkV x c v = .agg #[.int .i64 x, .int .i64 c, v] from rfl)
  rw [HDK.out]
  have hz3 := hg3.size
  have HR3 := Lib.hid ((hg3.block _ (Array.getElem?_eq_some_iff.1 HR2.out).1 (by simp; omega)).trans HR2.out)
  have HQ3 := Lib.hid ((hg3.block _ (Array.getElem?_eq_some_iff.1 HQ2.out).1 (by simp; omega)).trans HQ2.out)
  have HB3 := Lib.hid (HB2.out.grown hg3 HB2.out.size (fun j hj => by cases hj; omega))
  have HO3 := Lib.hid ho
  have H64 := Lib.hid h64
  have HCL := Lib.hid hcl
  have HRD := Lib.hid (And.intro hR3 hp3)
  clear hG ho h64 hcl hR3 hg3 hp3
  go_wp2
  obtain ⟨wq, hwq⟩ : ∃ z, z = w3.alloc (.cells #[.int .i64 x, .int .i64 c, .slice a' gs.length c'] 25) := ⟨_, rfl⟩
  have hbq : Below w3.heap.size w3 wq := by rw [hwq]; exact (Below.refl _ _).alloc (Nat.le_refl _) _
  have hgq : wq.heap[w3.heap.size]? = some (.cells #[.int .i64 x, .int .i64 c, .slice a' gs.length c'] 25 (0, 0)) := by rw [hwq]; exact heap_alloc_new w3 _
  rw [← hwq]
  obtain ⟨T, hT⟩ : ∃ z, z = w3.heap.size := ⟨_, rfl⟩
  rw [← hT] at hgq ⊢
  have HRQ := Lib.hid ((hbq.block _ (Array.getElem?_eq_some_iff.1 HR3.out).1).trans HR3.out)
  have HQQ := Lib.hid ((hbq.block _ (Array.getElem?_eq_some_iff.1 HQ3.out).1).trans HQ3.out)
  have HOQ := Lib.hid (HO3.out.below hbq)
  have HBQ := Lib.hid (HB3.out.trans (hbq.mono HB3.out.size))
  obtain ⟨p3, hR3, hp3⟩ : ∃ p3, Rd wq w1.heap.size a cap bs1 p3 ∧ p3 ≤ 0 + 110 := ⟨_, HRD.out.1.below hbq, HRD.out.2⟩
  have hzT : T < wq.heap.size := (Array.getElem?_eq_some_iff.1 hgq).1
  have hTw : w1.heap.size < T := by omega
  obtain ⟨t0, t1, t2⟩ := three_of hgq
  have hn0 : ¬ (w.heap.size = T) := by omega
  have hn1 : ¬ (w.heap.size + 1 = T) := by omega
  have hD := deed_any x c a' gs.length c' wq.drew _ a cap bs1 p3 (hR3.drewN 1) (by omega) hx0 hx4 hc0 hc4
  rw [HDK.out] at hD
  clear hwq hgq hbq HR3 HQ3 HO3 HB3 HRD hR3 hT
  go_region_held3 (fun w' => w'.cell? ⟨T, 0, none⟩ = some (.int .i64 x) ∧ w'.cell? ⟨T, 1, none⟩ = some (.int .i64 c) ∧ w'.cell? ⟨T, 2, none⟩ = some (.slice a' gs.length c'))
    (first
      | go_keep
      | (go_split_ands; exact ⟨(hg4.cell_far _ (by simp; omega) (by simp; omega)).trans (by assumption), (hg4.cell_far _ (by simp; omega) (by simp; omega)).trans (by assumption), (hg4.cell_far _ (by simp; omega) (by simp; omega)).trans (by assumption)⟩))
    (first
      | (go_at_call 40; refine hD.mono ?_; rintro e w4 ⟨b, ys, r, n, a4, c4, rfl, ho4, hy4, hr4, hn4, hl4, _, hg4⟩; have hg4' : wq.grownBy w4 (some w1.heap.size) := (grown_of_below (Below.refl _ wq).drew).andThen hg4 (fun _ e => by cases e; exact .inr rfl); have HR4 := Lib.hid ((hg4'.block _ (Array.getElem?_eq_some_iff.1 HRQ.out).1 (by simp; omega)).trans HRQ.out); have HQ4 := Lib.hid ((hg4'.block _ (Array.getElem?_eq_some_iff.1 HQQ.out).1 (by simp; omega)).trans HQQ.out); have HO4 := Lib.hid (show OwnG w.heap.size w4 _ _ from (HOQ.out.keep (Above.of_grown hg4' (by omega))).mono (by omega)); have HI4 := Lib.hid (show OwnI w.heap.size w4 _ _ from owns_mono ho4 (by have := HBQ.out.size; simp; omega)); have HB4 := Lib.hid (HBQ.out.grown hg4' HBQ.out.size (fun j hj => by cases hj; omega)); have HY4 := Lib.hid hy4; have hz4 := hg4'.size; obtain ⟨z0, z1, z2, zf⟩ := zero_cellsD HR4.out; obtain ⟨y0, y1, y2, y3, yf⟩ := deed_zero HQ4.out; unfold dV; clear ho4 hy4 hr4 hn4 hg4')
      | fail)
  have HF := Lib.hid (do_fin (x := x) (c := c) (r := r) (n := n) (b := b) HR4.out HQ4.out HO4.out H64.out hl5 HCL.out HI4.out HY4.out hl4 HB4.out)
  unfold doW at HF
  go_wp2
  ((try simp only [Exit.inBlock, Exit.then]); refine bodyPost_ret (results_cell_cell rfl _ _ w.heap.size _ _ (0, 0) _ (w.heap.size + 1) _ _ (0, 0) _ rfl HF.out.2.1 Try.underlying25 rfl (by kernel_rfl) rfl HF.out.2.2 Try.underlying30 rfl (by kernel_rfl)) rfl ?_)
  exact HF.out.1

end Go.Proofs.Ytjecolbodelniaa
