/- DrawDeskDo. -/
import Derived.Test.YtenlngclocfnlaaGreatDoorDrawDeed
import Derived.Test.YtenlngclocfnlaaGreatDoorBunO
import Derived.Test.YtenlngclocfnlaaGreatDoorBunP
import Derived.Deep.DeepCutAuto
import Derived.Test.YtenlngclocfnlaaGreatDoorBunN
/- DrawDeskDo. -/
namespace Go.Proofs.YtenlngclocfnlaaGreatDoor
open Go.RowKit
set_option linter.unusedVariables false
set_option maxRecDepth 100000

theorem results_cell_cell {P : Program} {fn : Func} {p q : Tmp} {ty ty2 : TypeId} (h : fn.results = #[.cell p ty, .cell q ty2]) (tmps : Array Value) (w : World) (g : Nat) (t : TypeId) (cs : Array Value) (fr : Nat × Nat) (d : TypeDesc) (g2 : Nat) (t2 : TypeId) (cs2 : Array Value) (fr2 : Nat × Nat) (d2 : TypeDesc)
    (hp : tmps.getD p undef = .pointer (some ⟨g, 0, none⟩)) (hg : w.heap[g]? = some (.cells cs t fr))
    (hu : P.underlying ty = some d) (hd : (match d with | .struct _ | .array _ _ => true | _ => false) = true) (hi : (P.info? ty).map (·.size) = some cs.size)
    (hp2 : tmps.getD q undef = .pointer (some ⟨g2, 0, none⟩)) (hg2 : w.heap[g2]? = some (.cells cs2 t2 fr2))
    (hu2 : P.underlying ty2 = some d2) (hd2 : (match d2 with | .struct _ | .array _ _ => true | _ => false) = true) (hi2 : (P.info? ty2).map (·.size) = some cs2.size) :
    (results fn tmps).run P w = .ok (.tuple #[.agg cs, .agg cs2]) w := by
  have hp' : tmps[p]?.getD undef = .pointer (some ⟨g, 0, none⟩) := by simpa using hp
  have hq' : tmps[q]?.getD undef = .pointer (some ⟨g2, 0, none⟩) := by simpa using hp2
  simp [results, h, hp', hq', asAddr, run_loadVar_row w g t ty cs fr d hg hu hd hi, run_loadVar_row w g2 t2 ty2 cs2 fr2 d2 hg2 hu2 hd2 hi2]

theorem zero_cellsD {w : World} {R : Nat} (h1 : w.heap[R]? = some (.cells #[.int .i64 0, .int .i64 0, .slice none 0 0] 30 (0, 0))) :
    w.cell? ⟨R, 0, none⟩ = some (.int .i64 0) ∧ w.cell? ⟨R, 1, none⟩ = some (.int .i64 0) ∧ w.cell? ⟨R, 2, none⟩ = some (.slice none 0 0) ∧ ∀ j, w.frozen? ⟨R, j, none⟩ = false := by
  refine ⟨?_, ?_, ?_, fun j => frozen_of_row _ _ j _ _ h1⟩ <;> rw [cell_of_row _ _ _ _ _ _ h1] <;> simp

/-- A drawn desk and a drawn deed. -/
def DoDrawn (w : World) (e : Ending) (w' : World) : Prop :=
  ∃ (x c : Int) (gs : List Gs) (a1 : Option Addr) (c1 : Nat) (b : Bool) (ys : List Int) (r n : Int) (a2 : Option Addr) (c2 : Nat), e = .returned (.tuple #[dkV x c (.slice a1 gs.length c1), dV b (.slice a2 ys.length c2) r n]) ∧
    OwnG w.heap.size w' (.slice a1 gs.length c1) gs ∧ In64G gs ∧ gs.length ≤ 5 ∧ (∀ g ∈ gs, g.code.length ≤ 10) ∧ OwnI w.heap.size w' (.slice a2 ys.length c2) ys ∧ (∀ y ∈ ys, In64 y) ∧ ys.length ≤ 10 ∧ Below w.heap.size w w'

def doW (w4 : World) (N : Nat) (x c : Int) (v : Value) (b : Bool) (u : Value) (r n : Int) : World :=
  ((((((w4.setCell ⟨N, 0, none⟩ (.int .i64 x)).setCell ⟨N, 1, none⟩ (.int .i64 c)).setCell ⟨N, 2, none⟩ v).setCell ⟨N + 1, 0, none⟩ (.bool b)).setCell ⟨N + 1, 1, none⟩ u).setCell ⟨N + 1, 2, none⟩ (.int .i64 r)).setCell ⟨N + 1, 3, none⟩ (.int .i64 n)
theorem OwnG.otherD {B D j : Nat} {w : World} {v z : Value} {gs : List Gs} {cs : Array Value} {t : TypeId} {fr : Nat × Nat} (h : OwnG B w v gs) (hD : w.heap[D]? = some (.cells cs t fr)) (h1 : 39 ≠ t) (h2 : 3 ≠ t) : OwnG B (w.setCell ⟨D, j, none⟩ z) v gs := by
  obtain ⟨ts, q1, q2, q3, q4⟩ := h
  have hs := grownBy_setCell w ⟨D, j, none⟩ z
  exact ⟨ts, World.ownsRow.kept q1 hs (own_other q1 hD h1), q2, fun i hi hi' => ⟨World.ownsRow.kept (q3 i hi hi').1 hs (own_other (q3 i hi hi').1 hD h2), (q3 i hi hi').2⟩, q4⟩
theorem do_fin {w w4 : World} {x c r n : Int} {b : Bool} {gs : List Gs} {ys : List Int} {a1 a2 : Option Addr} {c1 c2 : Nat} (hR : w4.heap[w.heap.size]? = some (.cells #[.int .i64 0, .int .i64 0, .slice none 0 0] 30 (0, 0)))
    (hQ : w4.heap[w.heap.size + 1]? = some (.cells #[.bool false, .slice none 0 0, .int .i64 0, .int .i64 0] 41 (0, 0))) (ho : OwnG w.heap.size w4 (.slice a1 gs.length c1) gs) (h64 : In64G gs) (hl : gs.length ≤ 5) (hcl : ∀ g ∈ gs, g.code.length ≤ 10)
    (hi : OwnI w.heap.size w4 (.slice a2 ys.length c2) ys) (hy : ∀ y ∈ ys, In64 y) (hyl : ys.length ≤ 10) (hb : Below w.heap.size w w4) :
    DoDrawn w (.returned (.tuple #[dkV x c (.slice a1 gs.length c1), dV b (.slice a2 ys.length c2) r n])) (doW w4 w.heap.size x c (.slice a1 gs.length c1) b (.slice a2 ys.length c2) r n) ∧
      (doW w4 w.heap.size x c (.slice a1 gs.length c1) b (.slice a2 ys.length c2) r n).heap[w.heap.size]? = some (.cells #[.int .i64 x, .int .i64 c, .slice a1 gs.length c1] 30 (0, 0)) ∧
      (doW w4 w.heap.size x c (.slice a1 gs.length c1) b (.slice a2 ys.length c2) r n).heap[w.heap.size + 1]? = some (.cells #[.bool b, .slice a2 ys.length c2, .int .i64 r, .int .i64 n] 41 (0, 0)) := by
  unfold doW
  have q1 := heap_setCell_same _ _ 0 _ _ (.int .i64 x) hR
  have q2 := heap_setCell_same _ _ 1 _ _ (.int .i64 c) q1
  have q3 := heap_setCell_same _ _ 2 _ _ (.slice a1 gs.length c1) q2
  have p3 : (((w4.setCell ⟨w.heap.size, 0, none⟩ (.int .i64 x)).setCell ⟨w.heap.size, 1, none⟩ (.int .i64 c)).setCell ⟨w.heap.size, 2, none⟩ (.slice a1 gs.length c1)).heap[w.heap.size + 1]? = some (.cells #[.bool false, .slice none 0 0, .int .i64 0, .int .i64 0] 41 (0, 0)) := by
    rw [heap_setCell_other _ _ _ _ (by simp), heap_setCell_other _ _ _ _ (by simp), heap_setCell_other _ _ _ _ (by simp)]; exact hQ
  have p4 := heap_setCell_same _ _ 0 _ _ (.bool b) p3
  have p5 := heap_setCell_same _ _ 1 _ _ (.slice a2 ys.length c2) p4
  have p6 := heap_setCell_same _ _ 2 _ _ (.int .i64 r) p5
  have p7 := heap_setCell_same _ _ 3 _ _ (.int .i64 n) p6
  refine ⟨⟨x, c, gs, a1, c1, b, ys, r, n, a2, c2, rfl, ?_, h64, hl, hcl, ?_, hy, hyl, ?_⟩, ?_, p7⟩
  · exact ((((((ho.otherD hR (by decide) (by decide)).otherD q1 (by decide) (by decide)).otherD q2 (by decide) (by decide)).otherD p3 (by decide) (by decide)).otherD p4 (by decide) (by decide)).otherD p5 (by decide) (by decide)).otherD p6 (by decide) (by decide)
  · exact ((((((hi.other hR (by decide)).other q1 (by decide)).other q2 (by decide)).other p3 (by decide)).other p4 (by decide)).other p5 (by decide)).other p6 (by decide)
  · exact ((((((hb.setCell (p := ⟨w.heap.size, 0, none⟩) (by simp) _).setCell (p := ⟨w.heap.size, 1, none⟩) (by simp) _).setCell (p := ⟨w.heap.size, 2, none⟩) (by simp) _).setCell (p := ⟨w.heap.size + 1, 0, none⟩) (by simp) _).setCell (p := ⟨w.heap.size + 1, 1, none⟩) (by simp) _).setCell (p := ⟨w.heap.size + 1, 2, none⟩) (by simp) _).setCell (p := ⟨w.heap.size + 1, 3, none⟩) (by simp) _
  · rw [heap_setCell_other _ _ _ _ (by simp), heap_setCell_other _ _ _ _ (by simp), heap_setCell_other _ _ _ _ (by simp), heap_setCell_other _ _ _ _ (by simp)]; exact q3

end Go.Proofs.YtenlngclocfnlaaGreatDoor

/- Drawn deeds, and DrawDeskRun. -/
namespace Go.Proofs.YtenlngclocfnlaaGreatDoor
open Go.RowKit
set_option linter.unusedVariables false
set_option maxRecDepth 100000

/-- The deeds so far, in memory younger than world w2. -/
def DsW (w w2 : World) (K : Nat) (a : Option Addr) (cap : Nat) (bs : List Int) (q : Int) (ao : Option Addr) (k co : Nat) (wi : World) : Prop :=
  ∃ ds : List Dd, ds.length = k ∧ OwnD w2.heap.size wi (.slice ao k co) ds ∧ In64D ds ∧ (∀ d ∈ ds, d.code.length ≤ 10) ∧ (∃ p', Rd wi K a cap bs p' ∧ p' ≤ q) ∧ w.grownBy wi (some K) ∧ Above w.heap.size w2 wi ∧ w2.heap.size ≤ wi.heap.size
/-- A deed is put behind. -/
theorem DsW.push {w w2 wi : World} {K : Nat} {a : Option Addr} {cap : Nat} {bs : List Int} {q' : Int} {ao : Option Addr} {k co : Nat} (hz : w.heap.size ≤ w2.heap.size) (hK : K < w.heap.size) {w7 : World} {p' : Int} {y : Dd} {o : Obj} {a7 : Option Addr} {c7 : Nat} {ds : List Dd}
    (hds : ds.length = k) (hin : In64D ds) (h10 : ∀ d ∈ ds, d.code.length ≤ 10) (hown : OwnD w2.heap.size wi (.slice ao k co) ds)
    (hR : Rd wi K a cap bs p') (hp : p' ≤ q') (h7 : w.grownBy wi (some K)) (h8 : Above w.heap.size w2 wi) (h9 : w2.heap.size ≤ wi.heap.size) (hy : ∀ z ∈ y.code, In64 z) (hy10 : y.code.length ≤ 10)
    (ho : OwnD w2.heap.size w7 (.slice a7 (k + 1) c7) (ds ++ [y])) (hg7 : (wi.alloc o).grownBy w7 (Value.slice ao k co).ownBlock) : DsW w w2 K a cap bs q' a7 (k + 1) c7 w7 := by
  have hblk : ∀ j, (Value.slice ao k co).ownBlock = some j → w2.heap.size ≤ j := fun j hj => (hown.lt j hj).1
  have hsz := hg7.size
  have hsa : (wi.alloc o).heap.size = wi.heap.size + 1 := by simp
  refine ⟨ds ++ [y], by simp [hds], ho, ?_, ?_, ⟨p', rd_grown (hR.below ((Below.refl _ _).alloc (Nat.le_refl _) o)) hg7 (fun j hj => by have := hblk j hj; omega), hp⟩,
    (h7.andThen (World.grownBy_alloc wi o none) (fun _ e => by cases e)).andThen hg7 (fun j hj => .inl (by have := hblk j hj; omega)), fun b q1 q2 => ?_, by omega⟩
  · intro g hg
    rcases List.mem_append.1 hg with hg | hg
    · exact hin g hg
    · simp only [List.mem_singleton] at hg; subst hg; exact hy
  · intro g hg
    rcases List.mem_append.1 hg with hg | hg
    · exact h10 g hg
    · simp only [List.mem_singleton] at hg; subst hg; exact hy10
  · rw [hg7.block b (by omega) (fun e => by have := hblk b e.symm; omega), Below.heap_alloc wi o b (by omega)]
    exact h8 b q1 q2

/-- What a drawing of deeds leaves. -/
def DsDrawn (K : Nat) (a : Option Addr) (cap : Nat) (bs : List Int) (p : Int) (w : World) (e : Ending) (w' : World) : Prop :=
  ∃ (ds : List Dd) (a' : Option Addr) (c' : Nat), e = .returned (.slice a' ds.length c') ∧ OwnD w.heap.size w' (.slice a' ds.length c') ds ∧ In64D ds ∧ ds.length ≤ 5 ∧ (∀ d ∈ ds, d.code.length ≤ 10) ∧ Drew K a cap bs p 300 w w'
theorem ds_done {w w2 wi : World} {K : Nat} {a : Option Addr} {cap : Nat} {bs : List Int} {p q : Int} {ao : Option Addr} {k co : Nat} (h : DsW w w2 K a cap bs q ao k co wi) (hz : w.heap.size ≤ w2.heap.size) (hq : q ≤ p + 300) (hk : k ≤ 5) :
    DsDrawn K a cap bs p w (.returned (.slice ao k co)) wi := by
  obtain ⟨ds, rfl, h2, h3, h4, ⟨p', h5, h6⟩, h7, h8, h9⟩ := h
  exact ⟨ds, ao, co, rfl, h2.mono hz, h3, hk, h4, ⟨p', h5, by omega⟩, h7⟩

set_option maxHeartbeats 4000000 in
theorem deeds_any (x c : Int) (va : Option Addr) (vn vc : Nat) (w : World) (K : Nat) (a : Option Addr) (cap : Nat) (bs : List Int) (p : Int) (h : Rd w K a cap bs p) (hp : p ≤ 100000000) (hx0 : 0 ≤ x) (hx4 : x ≤ 4) (hc0 : 0 ≤ c) (hc4 : c ≤ 4) :
    Calls Tryz.prog 49 #[.pointer (some ⟨K, 0, none⟩), dkV x c (.slice va vn vc)] w (DsDrawn K a cap bs p w) := by
  have hKw := h.lt
  have HDK := Lib.hid (fun v => show dkV x c v = .agg #[.int .i64 x, .int .i64 c, v] from rfl)
  obtain ⟨w2, hw2⟩ : ∃ z, z = w.alloc (.cells #[.int .i64 x, .int .i64 c, .slice va vn vc] 30) := ⟨_, rfl⟩
  have hb2 : Below w.heap.size w w2 := by rw [hw2]; exact (Below.refl _ _).alloc (Nat.le_refl _) _
  have hs2 : w2.heap.size = w.heap.size + 1 := by rw [hw2]; simp
  have hz2 : w2.heap[w.heap.size]? = some (.cells #[.int .i64 x, .int .i64 c, .slice va vn vc] 30 (0, 0)) := by rw [hw2]; exact heap_alloc_new w _
  have hR2 := h.below hb2
  have hz02 : w.heap.size ≤ w2.heap.size := by omega
  have hg2 : w.grownBy w2 (some K) := grown_of_below hb2
  obtain ⟨w3, hw3⟩ : ∃ z, z = w2.alloc (.cells #[] 41) := ⟨_, rfl⟩
  have hb3 : Below w2.heap.size w2 w3 := by rw [hw3]; exact (Below.refl _ _).alloc (Nat.le_refl _) _
  have hown : OwnD w2.heap.size w3 (.slice (some ⟨w.heap.size + 1, 0, none⟩) 0 0) [] := by rw [hw3, ← hs2]; exact OwnD.lit w2
  have hP := pick_any 6 w3 K a cap bs p (hR2.below hb3) (by omega) (by unfold In64; omega)
  have HOWN := Lib.hid hown
  have HB3 := Lib.hid hb3
  have HG3 := Lib.hid (hg2.andThen (grown_of_below hb3 (K := K)) (fun _ e => by cases e; exact .inr rfl))
  have HZ2 := Lib.hid hz2
  clear h hb2 hg2 hb3 hown hR2 hz2
  rw [HDK.out]
  go_enter Tryz.func49, Tryz.ntmps49
  go_wp2_with fail
  rw [← hw2, ← hw3]
  clear hw2 hw3
  refine hP.mono ?_
  rintro e w4 ⟨kk, rfl, hk0, hk1, ⟨p4, hR4, hp4⟩, hg4⟩
  have hk1 := hk1 (by omega)
  have hW4 : DsW w w2 K a cap bs (p + 1) (some ⟨w.heap.size + 1, 0, none⟩) 0 0 w4 :=
    ⟨[], rfl, HOWN.out.keep (Above.of_grown hg4 (by omega)), fun d hd => (by cases hd), fun d hd => (by cases hd), ⟨p4, hR4, hp4⟩, grown_trans HG3.out hg4, above_step (.of_below HB3.out) HB3.out.size (Above.of_grown hg4 hKw), by have := hg4.size; have := HB3.out.size; omega⟩
  have HW4 := Lib.hid hW4
  clear hP hR4 hg4 hW4 HOWN HB3 HG3
  go_wp2
  go_loopw [5, 6] (fun lv kv wi => ∃ (k : Nat) (ao : Option Addr) (co : Nat), k ≤ 5 ∧ (k : Int) ≤ kk ∧ kv = .int .i64 (kk - k) ∧ lv = .slice ao k co ∧ DsW w w2 K a cap bs (p + 1 + 40 * k) ao k co wi) (fun _ kv _ => (intOf kv).toNat)
  case atStart => exact ⟨0, _, 0, by omega, by omega, by simp, rfl, by simpa using HW4.out⟩
  case round =>
    obtain ⟨k, ao, co, hk5, hkk, rfl, rfl, hW⟩ := hrel
    obtain ⟨wk, rfl⟩ : ∃ x, x = wr := ⟨_, rfl⟩
    clear HW4
    by_cases hlt : 0 < kk - (k : Int)
    · obtain ⟨ds, hl, ho, h64, h10, ⟨p', hR, hp'⟩, hg, hA, hzz⟩ := hW
      have hD := deed_any x c va vn vc wk K a cap bs p' hR (by omega) hx0 hx4 hc0 hc4
      rw [HDK.out] at hD
      have HL := Lib.hid hl
      have HO := Lib.hid ho
      have H64 := Lib.hid h64
      have H10 := Lib.hid h10
      have HG := Lib.hid hg
      have HA := Lib.hid hA
      have hbx : wk.heap[w.heap.size]? = some (.cells #[.int .i64 x, .int .i64 c, .slice va vn vc] 30 (0, 0)) := (hA w.heap.size (Nat.le_refl _) (by omega)).trans HZ2.out
      obtain ⟨b0, b1, b2⟩ := three_of hbx
      clear hl ho h64 h10 hR hg hA hbx
      go_wp2_with fail
      refine hD.mono ?_
      rintro e w5 ⟨b, ys, r, n, a5, c5, rfl, ho5, hy5, _, _, hl5, ⟨p5, hR5, hp5⟩, hg5⟩
      unfold dV
      have hz5 := hg5.size
      have HG5 := Lib.hid (grown_trans HG.out hg5)
      have HA5 := Lib.hid (above_step HA.out hzz (Above.of_grown hg5 hKw))
      have HK := Lib.hid (show Above w2.heap.size wk w5 from Above.of_grown hg5 (by omega))
      have HO5 := Lib.hid (HO.out.keep HK.out)
      have HU5 := Lib.hid ho5
      have HY5 := Lib.hid hy5
      have HR5 := Lib.hid hR5
      have hbG : Below w5.heap.size w5 (w5.alloc (.cells #[.bool b, .slice a5 ys.length c5, .int .i64 r, .int .i64 n] 41)) := (Below.refl _ _).alloc (Nat.le_refl _) _
      have HOA := Lib.hid (HO5.out.below hbG)
      have HUA := Lib.hid (show OwnI w2.heap.size _ _ _ from OwnI.mono2 (owns_below ho5 hbG) hzz)
      have HDI := Lib.hid (deed_oldA HO.out (above_step HK.out (by omega) (.of_below hbG)) (owns_below ho5 hbG))
      have HCC := Lib.hid (heap_alloc_new w5 (.cells #[.bool b, .slice a5 ys.length c5, .int .i64 r, .int .i64 n] 41))
      have HSZ := Lib.hid (show w2.heap.size ≤ (w5.alloc (.cells #[.bool b, .slice a5 ys.length c5, .int .i64 r, .int .i64 n] 41)).heap.size by rw [World.size_alloc]; omega)
      clear hbG hD hR5 hg5 ho5 hy5 b0 b1 b2
      go_wp2_with (at_builtin; refine wpList_push_d (w5.alloc (.cells #[.bool b, .slice a5 ys.length c5, .int .i64 r, .int .i64 n] 41)) rfl (.tmp 14) (.tmp 18) rfl w2.heap.size (.slice ao k co) ds rfl HOA.out w5.heap.size 1 (.slice a5 ys.length c5) ⟨b, ys, r, n⟩ rfl HCC.out HUA.out HDI.out (by have := HL.out; omega) HSZ.out ?_; intro a7 c7 w7 ho7 hg7; rw [HL.out] at ho7 ⊢; have HW7 := Lib.hid (DsW.push (q' := p + 1 + 40 * ((k + 1 : Nat) : Int)) hz02 hKw HL.out H64.out H10.out HO5.out HR5.out (by omega) HG5.out HA5.out (by omega) HY5.out hl5 ho7 hg7); clear ho7 hg7)
      go_roundw
      case rel => exact ⟨k + 1, a7, c7, by omega, by omega, by go_num, rfl, HW7.out⟩
      case measure => simp [intOf]; omega
    · have HF := Lib.hid (ds_done (p := p) hW hz02 (by omega) hk5)
      clear hW
      go_wp2
      go_ret
      exact HF.out

theorem OwnD.otherD {B D j : Nat} {w : World} {v z : Value} {ds : List Dd} {cs : Array Value} {t : TypeId} {fr : Nat × Nat} (h : OwnD B w v ds) (hD : w.heap[D]? = some (.cells cs t fr)) (h1 : 41 ≠ t) (h2 : 3 ≠ t) : OwnD B (w.setCell ⟨D, j, none⟩ z) v ds := by
  obtain ⟨ts, q1, q2, q3, q4⟩ := h
  have hs := grownBy_setCell w ⟨D, j, none⟩ z
  exact ⟨ts, World.ownsRow.kept q1 hs (own_other q1 hD h1), q2, fun i hi hi' => ⟨(q3 i hi hi').1, World.ownsRow.kept (q3 i hi hi').2.1 hs (own_other (q3 i hi hi').2.1 hD h2), (q3 i hi hi').2.2⟩, q4⟩
def made41 : Obj := .cells (madeCells (Value.agg #[.bool false, .slice none 0 0, .int .i64 0, .int .i64 0]).cells (41 * 4)) 41
theorem make_deeds41 (W : World) : (Instr.makeSlice 24 (.int .i64 41) (.int .i64 41)).run Tryz.prog W = .ok (.slice (some ⟨W.heap.size, 0, none⟩) 41 41) (W.alloc made41) := by
  obtain ⟨i0, hi, hz0, hz1, hz2⟩ := info_parts infoDeed
  have h := run_make W 24 41 i0 (.agg #[.bool false, .slice none 0 0, .int .i64 0, .int .i64 0]) Tryz.underlying24 hi hz0 .i64 .i64 41 41 (by omega) (by omega) (by rw [hz2]; omega) (by omega)
  rw [hz1] at h
  exact h
theorem own41 (W : World) : OwnD W.heap.size (W.alloc made41) (.slice (some ⟨W.heap.size, 0, none⟩) 41 41) (List.replicate 41 ⟨false, [], 0, 0⟩) :=
  own_nilsD (World.ownsRow_lit W _ 41 (Nat.le_refl _) (by unfold maxLen; omega) (size_madeCells _ _))
/-- A drawn desk and drawn deeds. -/
def RunDrawn (w : World) (e : Ending) (w' : World) : Prop :=
  ∃ (x c : Int) (gs : List Gs) (a1 : Option Addr) (c1 : Nat) (ds : List Dd) (a2 : Option Addr) (c2 : Nat), e = .returned (.tuple #[dkV x c (.slice a1 gs.length c1), .slice a2 ds.length c2]) ∧
    OwnG w.heap.size w' (.slice a1 gs.length c1) gs ∧ In64G gs ∧ gs.length ≤ 5 ∧ (∀ g ∈ gs, g.code.length ≤ 10) ∧ OwnD w.heap.size w' (.slice a2 ds.length c2) ds ∧ In64D ds ∧ ds.length ≤ 41 ∧ (∀ d ∈ ds, d.code.length ≤ 10) ∧ Below w.heap.size w w'
theorem runD_fin {w w4 : World} {x c : Int} {gs : List Gs} {ds : List Dd} {a1 a2 : Option Addr} {c1 c2 : Nat} (hR : w4.heap[w.heap.size]? = some (.cells #[.int .i64 0, .int .i64 0, .slice none 0 0] 30 (0, 0)))
    (ho : OwnG w.heap.size w4 (.slice a1 gs.length c1) gs) (h64 : In64G gs) (hl : gs.length ≤ 5) (hcl : ∀ g ∈ gs, g.code.length ≤ 10)
    (hi : OwnD w.heap.size w4 (.slice a2 ds.length c2) ds) (hy : In64D ds) (hyl : ds.length ≤ 41) (hdc : ∀ d ∈ ds, d.code.length ≤ 10) (hb : Below w.heap.size w w4) :
    RunDrawn w (.returned (.tuple #[dkV x c (.slice a1 gs.length c1), .slice a2 ds.length c2])) (((w4.setCell ⟨w.heap.size, 0, none⟩ (.int .i64 x)).setCell ⟨w.heap.size, 1, none⟩ (.int .i64 c)).setCell ⟨w.heap.size, 2, none⟩ (.slice a1 gs.length c1)) ∧
      (((w4.setCell ⟨w.heap.size, 0, none⟩ (.int .i64 x)).setCell ⟨w.heap.size, 1, none⟩ (.int .i64 c)).setCell ⟨w.heap.size, 2, none⟩ (.slice a1 gs.length c1)).heap[w.heap.size]? = some (.cells #[.int .i64 x, .int .i64 c, .slice a1 gs.length c1] 30 (0, 0)) := by
  have q1 := heap_setCell_same _ _ 0 _ _ (.int .i64 x) hR
  have q2 := heap_setCell_same _ _ 1 _ _ (.int .i64 c) q1
  have q3 := heap_setCell_same _ _ 2 _ _ (.slice a1 gs.length c1) q2
  exact ⟨⟨x, c, gs, a1, c1, ds, a2, c2, rfl, ((ho.otherD hR (by decide) (by decide)).otherD q1 (by decide) (by decide)).otherD q2 (by decide) (by decide), h64, hl, hcl, ((hi.otherD hR (by decide) (by decide)).otherD q1 (by decide) (by decide)).otherD q2 (by decide) (by decide), hy, hyl, hdc,
    ((hb.setCell (p := ⟨w.heap.size, 0, none⟩) (by simp) _).setCell (p := ⟨w.heap.size, 1, none⟩) (by simp) _).setCell (p := ⟨w.heap.size, 2, none⟩) (by simp) _⟩, q3⟩

theorem runD_fin41 {w w4 : World} {x c : Int} {gs : List Gs} {a1 : Option Addr} {c1 : Nat} (hR : w4.heap[w.heap.size]? = some (.cells #[.int .i64 0, .int .i64 0, .slice none 0 0] 30 (0, 0)))
    (ho : OwnG w.heap.size w4 (.slice a1 gs.length c1) gs) (h64 : In64G gs) (hl : gs.length ≤ 5) (hcl : ∀ g ∈ gs, g.code.length ≤ 10) (hb : Below w.heap.size w w4) :
    RunDrawn w (.returned (.tuple #[dkV x c (.slice a1 gs.length c1), .slice (some ⟨w4.heap.size, 0, none⟩) 41 41])) ((((w4.setCell ⟨w.heap.size, 0, none⟩ (.int .i64 x)).setCell ⟨w.heap.size, 1, none⟩ (.int .i64 c)).setCell ⟨w.heap.size, 2, none⟩ (.slice a1 gs.length c1)).alloc made41).drew ∧
      ((((w4.setCell ⟨w.heap.size, 0, none⟩ (.int .i64 x)).setCell ⟨w.heap.size, 1, none⟩ (.int .i64 c)).setCell ⟨w.heap.size, 2, none⟩ (.slice a1 gs.length c1)).alloc made41).drew.heap[w.heap.size]? = some (.cells #[.int .i64 x, .int .i64 c, .slice a1 gs.length c1] 30 (0, 0)) := by
  have q1 := heap_setCell_same _ _ 0 _ _ (.int .i64 x) hR
  have q2 := heap_setCell_same _ _ 1 _ _ (.int .i64 c) q1
  have q3 := heap_setCell_same _ _ 2 _ _ (.slice a1 gs.length c1) q2
  have hs : (((w4.setCell ⟨w.heap.size, 0, none⟩ (.int .i64 x)).setCell ⟨w.heap.size, 1, none⟩ (.int .i64 c)).setCell ⟨w.heap.size, 2, none⟩ (.slice a1 gs.length c1)).heap.size = w4.heap.size := by simp
  have hoG := ((ho.otherD (j := 0) (z := .int .i64 x) hR (by decide) (by decide)).otherD (j := 1) (z := .int .i64 c) q1 (by decide) (by decide)).otherD (j := 2) (z := .slice a1 gs.length c1) q2 (by decide) (by decide)
  have hbW := ((hb.setCell (p := ⟨w.heap.size, 0, none⟩) (by simp) (.int .i64 x)).setCell (p := ⟨w.heap.size, 1, none⟩) (by simp) (.int .i64 c)).setCell (p := ⟨w.heap.size, 2, none⟩) (by simp) (.slice a1 gs.length c1)
  obtain ⟨W, hW⟩ : ∃ z, z = ((w4.setCell ⟨w.heap.size, 0, none⟩ (.int .i64 x)).setCell ⟨w.heap.size, 1, none⟩ (.int .i64 c)).setCell ⟨w.heap.size, 2, none⟩ (.slice a1 gs.length c1) := ⟨_, rfl⟩
  rw [← hW] at q3 hs hoG hbW ⊢
  clear hW q1 q2
  have hbA : Below W.heap.size W (W.alloc made41).drew := ((Below.refl _ W).alloc (Nat.le_refl _) made41).drew
  have hD : OwnD w.heap.size (W.alloc made41).drew (.slice (some ⟨w4.heap.size, 0, none⟩) 41 41) (List.replicate 41 ⟨false, [], 0, 0⟩) := by
    have := (own41 W).mono hbW.size
    rw [hs] at this
    exact this.below (Below.refl _ _).drew
  refine ⟨⟨x, c, gs, a1, c1, List.replicate 41 ⟨false, [], 0, 0⟩, _, 41, by rw [List.length_replicate], hoG.below hbA, h64, hl, hcl, by rw [List.length_replicate]; exact hD, ?_, by simp, ?_, hbW.trans (hbA.mono hbW.size)⟩, (hbA.block _ (Array.getElem?_eq_some_iff.1 q3).1).trans q3⟩
  · intro d hd y hy
    rw [List.eq_of_mem_replicate hd] at hy
    cases hy
  · intro d hd
    rw [List.eq_of_mem_replicate hd]
    simp

set_option maxHeartbeats 4000000 in
theorem drawDeskRun_any {B : Nat} (v : Value) (bs : List Int) (w : World) (h : Bytes B w v bs) :
    Calls Tryz.prog 12 #[v] w (RunDrawn w) := by
  obtain ⟨a0, cap0, rfl, _⟩ := id h.1
  rw [List.length_map] at h ⊢
  obtain ⟨w1, hw1⟩ : ∃ w1, w1 = w.alloc (.cells #[.int .i64 0, .int .i64 0, .slice none 0 0] 30) := ⟨_, rfl⟩
  have hb1 : Below w.heap.size w w1 := by rw [hw1]; exact (Below.refl _ _).alloc (Nat.le_refl _) _
  have hs1 : w1.heap.size = w.heap.size + 1 := by rw [hw1]; simp
  have hr1 : w1.heap[w.heap.size]? = some (.cells #[.int .i64 0, .int .i64 0, .slice none 0 0] 30 (0, 0)) := by rw [hw1]; exact heap_alloc_new w _
  have hO := open_any _ bs w1 (h.below hb1)
  have HB1 := Lib.hid hb1
  have HR1 := Lib.hid hr1
  have HS1 := Lib.hid hs1
  clear h hb1 hr1 hs1
  go_enter Tryz.func12, Tryz.ntmps12
  go_wp2_with fail
  rw [← hw1]
  clear hw1
  refine hO.mono ?_
  rintro e w2 ⟨a, cap, bs1, rfl, hR2, hb2⟩
  have hz1 : w.heap.size + 1 = w1.heap.size := HS1.out.symm
  have HB2 := Lib.hid (HB1.out.trans (hb2.mono HB1.out.size))
  have HR2 := Lib.hid ((hb2.block _ (Array.getElem?_eq_some_iff.1 HR1.out).1).trans HR1.out)
  have hz2 := hb2.size
  have hG := desk_any 12 w2 _ a cap bs1 0 hR2 (by omega) (by omega) (by omega)
  have hK2 := hR2.lt
  clear hO hb2 hR2
  go_wp2_with fail
  refine hG.mono ?_
  rintro e w3 ⟨x, c, gs, a', c', rfl, ho, h64, hl5, hx0, hx4, hc0, hc4, hcl, ⟨p3, hR3, hp3⟩, hg3⟩
  have HDK := Lib.hid (fun v => show dkV x c v = .agg #[.int .i64 x, .int .i64 c, v] from rfl)
  rw [HDK.out]
  have hz3 := hg3.size
  have HR3 := Lib.hid ((hg3.block _ (Array.getElem?_eq_some_iff.1 HR2.out).1 (by simp; omega)).trans HR2.out)
  have HB3 := Lib.hid (HB2.out.grown hg3 HB2.out.size (fun j hj => by cases hj; omega))
  have HO3 := Lib.hid ho
  have H64 := Lib.hid h64
  have HCL := Lib.hid hcl
  have HRD := Lib.hid (And.intro hR3 hp3)
  clear hG ho h64 hcl hR3 hg3 hp3
  obtain ⟨wq, hwq⟩ : ∃ z, z = w3.alloc (.cells #[.int .i64 x, .int .i64 c, .slice a' gs.length c'] 30) := ⟨_, rfl⟩
  have hbq : Below w3.heap.size w3 wq := by rw [hwq]; exact (Below.refl _ _).alloc (Nat.le_refl _) _
  have hgq : wq.heap[w3.heap.size]? = some (.cells #[.int .i64 x, .int .i64 c, .slice a' gs.length c'] 30 (0, 0)) := by rw [hwq]; exact heap_alloc_new w3 _
  obtain ⟨T, hT⟩ : ∃ z, z = w3.heap.size := ⟨_, rfl⟩
  rw [← hT] at hgq
  have HGQ := Lib.hid hgq
  have HRQ := Lib.hid ((hbq.block _ (Array.getElem?_eq_some_iff.1 HR3.out).1).trans HR3.out)
  have HOQ := Lib.hid (HO3.out.below hbq)
  have HBQ := Lib.hid (HB3.out.trans (hbq.mono HB3.out.size))
  obtain ⟨p3, hR3, hp3⟩ : ∃ p3, Rd wq w1.heap.size a cap bs1 p3 ∧ p3 ≤ 0 + 110 := ⟨_, HRD.out.1.below hbq, HRD.out.2⟩
  have hO := odd_any 30 wq _ a cap bs1 p3 hR3 (by omega) (by unfold In64; omega)
  have hzT : T < wq.heap.size := (Array.getElem?_eq_some_iff.1 hgq).1
  have hTw : w1.heap.size < T := by omega
  clear hgq hbq HR3 HO3 HB3 HRD hR3
  go_wp2_with fail
  rw [← hwq, ← hT]
  clear hwq hT
  refine hO.mono ?_
  rintro e w4 ⟨b, rfl, ⟨p4, hR4, hp4⟩, hg4⟩
  have hz4 := hg4.size
  have hgq := (hg4.block T hzT (by simp; omega)).trans HGQ.out
  obtain ⟨t0, t1, t2⟩ := three_of hgq
  have HR4 := Lib.hid ((hg4.block _ (Array.getElem?_eq_some_iff.1 HRQ.out).1 (by simp; omega)).trans HRQ.out)
  have HO4 := Lib.hid (show OwnG w2.heap.size w4 _ _ from HOQ.out.keep (Above.of_grown hg4 (by omega)))
  have HB4 := Lib.hid (HBQ.out.grown hg4 HBQ.out.size (fun j hj => by cases hj; omega))
  have hn0 : ¬ (w.heap.size = T) := by omega
  have hzT4 : T < w4.heap.size := by omega
  have hR4d := hR4.drewN 1
  have HRD4 := Lib.hid hR4
  obtain ⟨z0, z1, z2, zf⟩ := zero_cellsD HR4.out
  have hzR : w.heap.size < w4.heap.size := (Array.getElem?_eq_some_iff.1 HR4.out).1
  clear hO hg4 hgq hR4 HGQ HRQ HOQ HBQ
  cases b
  · have hD := deeds_any x c a' gs.length c' w4.drew _ a cap bs1 p4 (HRD4.out.drewN 1) (by omega) hx0 hx4 hc0 hc4
    rw [HDK.out] at hD
    go_wp2_with fail
    go_region_held3 (fun w' => w'.cell? ⟨T, 0, none⟩ = some (.int .i64 x) ∧ w'.cell? ⟨T, 1, none⟩ = some (.int .i64 c) ∧ w'.cell? ⟨T, 2, none⟩ = some (.slice a' gs.length c'))
      (first
        | go_keep
        | (go_split_ands; exact ⟨(hg5.cell_far _ (by simp; omega) (by simp; omega)).trans (by assumption), (hg5.cell_far _ (by simp; omega) (by simp; omega)).trans (by assumption), (hg5.cell_far _ (by simp; omega) (by simp; omega)).trans (by assumption)⟩))
      (first
        | (go_at_call 49; refine hD.mono ?_; rintro e w5 ⟨ds, a5, c5, rfl, ho5, hi5, hl5', hdc5, _, hg5⟩; have hg5' : w4.grownBy w5 (some w1.heap.size) := (grown_of_below (Below.refl _ w4).drew).andThen hg5 (fun _ e => by cases e; exact .inr rfl); have HR5 := Lib.hid ((hg5'.block _ (Array.getElem?_eq_some_iff.1 HR4.out).1 (by simp; omega)).trans HR4.out); have HO5 := Lib.hid (show OwnG w.heap.size w5 _ _ from (HO4.out.keep (Above.of_grown hg5' (by omega))).mono (by omega)); have HI5 := Lib.hid (show OwnD w.heap.size w5 _ _ from ho5.mono (by have := HB4.out.size; simp; omega)); have HB5 := Lib.hid (HB4.out.grown hg5' HB4.out.size (fun j hj => by cases hj; omega)); have HY5 := Lib.hid hi5; have HDC5 := Lib.hid hdc5; have hz5 := hg5'.size; obtain ⟨z0, z1, z2, zf⟩ := zero_cellsD HR5.out; clear ho5 hi5 hdc5 hg5'))
    have HF := Lib.hid (runD_fin (x := x) (c := c) HR5.out HO5.out H64.out hl5 HCL.out HI5.out HY5.out (by omega) HDC5.out HB5.out)
    go_wp2
    ((try simp only [Exit.inBlock, Exit.then]); refine bodyPost_ret (results_cell_tmp rfl _ _ w.heap.size _ _ (0, 0) _ rfl HF.out.2 Tryz.underlying30 rfl (by kernel_rfl)) rfl ?_)
    exact HF.out.1
  · have hmk := make_deeds41
    go_wp2_with fail
    go_region_held3 (fun w' => w'.cell? ⟨T, 0, none⟩ = some (.int .i64 x) ∧ w'.cell? ⟨T, 1, none⟩ = some (.int .i64 c) ∧ w'.cell? ⟨T, 2, none⟩ = some (.slice a' gs.length c'))
      (first
        | go_keep
        | (go_split_ands; exact ⟨(hb5.cell (by simp; omega)).trans (by assumption), (hb5.cell (by simp; omega)).trans (by assumption), (hb5.cell (by simp; omega)).trans (by assumption)⟩))
      (first
        | fail)
    all_goals (have HF := Lib.hid (runD_fin41 (x := x) (c := c) HR4.out (HO4.out.mono (by omega)) H64.out hl5 HCL.out HB4.out); go_wp2; ((try simp only [Exit.inBlock, Exit.then]); refine bodyPost_ret (results_cell_tmp rfl _ _ w.heap.size _ _ (0, 0) _ rfl HF.out.2 Tryz.underlying30 rfl (by kernel_rfl)) rfl ?_); exact HF.out.1)

end Go.Proofs.YtenlngclocfnlaaGreatDoor

/- DrawDeedText. -/
namespace Go.Proofs.YtenlngclocfnlaaGreatDoor
open Go.RowKit
set_option linter.unusedVariables false
set_option maxRecDepth 100000

/-- A drawn deed, whatever it is. -/
def DTOut (w : World) (e : Ending) (w' : World) : Prop :=
  ∃ (b : Bool) (ys : List Int) (r n : Int) (a : Option Addr) (c : Nat), e = .returned (.agg #[.bool b, .slice a ys.length c, .int .i64 r, .int .i64 n]) ∧ OwnI w.heap.size w' (.slice a ys.length c) ys ∧ (∀ y ∈ ys, In64 y) ∧ ys.length ≤ 10 ∧ Below w.heap.size w w'
theorem dt_fin {w wi : World} {b : Bool} {ys : List Int} {r n : Int} {a : Option Addr} {c : Nat} (hz : wi.heap[w.heap.size]? = some (.cells #[.bool false, .slice none 0 0, .int .i64 0, .int .i64 0] 41 (0, 0)))
    (ho : OwnI w.heap.size wi (.slice a ys.length c) ys) (hy : ∀ y ∈ ys, In64 y) (hl : ys.length ≤ 10) (hb : Below w.heap.size w wi) :
    DTOut w (.returned (.agg #[.bool b, .slice a ys.length c, .int .i64 r, .int .i64 n])) ((((wi.setCell ⟨w.heap.size, 0, none⟩ (.bool b)).setCell ⟨w.heap.size, 1, none⟩ (.slice a ys.length c)).setCell ⟨w.heap.size, 2, none⟩ (.int .i64 r)).setCell ⟨w.heap.size, 3, none⟩ (.int .i64 n)) ∧
      ((((wi.setCell ⟨w.heap.size, 0, none⟩ (.bool b)).setCell ⟨w.heap.size, 1, none⟩ (.slice a ys.length c)).setCell ⟨w.heap.size, 2, none⟩ (.int .i64 r)).setCell ⟨w.heap.size, 3, none⟩ (.int .i64 n)).heap[w.heap.size]? = some (.cells #[.bool b, .slice a ys.length c, .int .i64 r, .int .i64 n] 41 (0, 0)) := by
  have q1 := heap_setCell_same _ _ 0 _ _ (.bool b) hz
  have q2 := heap_setCell_same _ _ 1 _ _ (.slice a ys.length c) q1
  have q3 := heap_setCell_same _ _ 2 _ _ (.int .i64 r) q2
  have q4 := heap_setCell_same _ _ 3 _ _ (.int .i64 n) q3
  refine ⟨⟨b, ys, r, n, a, c, rfl, (((ho.otherR hz (by decide)).otherR q1 (by decide)).otherR q2 (by decide)).otherR q3 (by decide), hy, hl, ?_⟩, q4⟩
  exact (((hb.setCell (p := ⟨w.heap.size, 0, none⟩) (Nat.le_refl _) _).setCell (p := ⟨w.heap.size, 1, none⟩) (Nat.le_refl _) _).setCell (p := ⟨w.heap.size, 2, none⟩) (Nat.le_refl _) _).setCell (p := ⟨w.heap.size, 3, none⟩) (Nat.le_refl _) _

end Go.Proofs.YtenlngclocfnlaaGreatDoor

/- The law of Inv with any relation between worlds in the place of 'nothing below is changed' (the draws change the reader's block). No walk. -/
namespace Go.Proofs.YtenlngclocfnlaaGreatDoor
open Go Go.RowKit
set_option linter.unusedVariables false

section
variable {P : Program} {l : List Oper} {Q : Exit → Act → World → Prop} {a0 : Act} {w0 : World} {dst : Nat → Nat} {Φ : Nat → Value → World → Prop}

/-- The state between two operations. -/
def InvR (Rel : World → World → Prop) (l : List Oper) (a0 : Act) (w0 : World) (dst : Nat → Nat) (Φ : Nat → Value → World → Prop) (c : Nat) (G : World → Prop) (done : Array Bool) (a : Act) (w : World) : Prop :=
  done.size = l.length ∧ Rel w0 w ∧ (done.getD c false = false → G w) ∧ ∃ vs, a = invA dst l.length a0 done vs ∧ ∀ k, k < l.length → done.getD k false = true → Φ k (vs k) w

theorem inv_anyR {Rel : World → World → Prop} {c : Nat} {G : World → Prop} (htr : ∀ a b c : World, Rel a b → Rel b c → Rel a c) (hdst : ∀ i (h : i < l.length), l[i].dst = some (dst i)) (hinj : ∀ i, i < l.length → invIdx dst l.length (dst i) = some i) (hsz : ∀ i, i < l.length → dst i < a0.tmps.size) (hdag : ∀ i (h : i < l.length), ∀ k ∈ invDeps l[i], k < i)
    (hmono : ∀ k v w w', Φ k v w → Rel w w' → Φ k v w')
    (hstep : ∀ i (h : i < l.length), ∀ (A : Act) (W : World), Rel w0 W → (i = c → G W) → (∀ t, invIdx dst l.length t = none → A.tmps.getD t undef = a0.tmps.getD t undef) → (∀ k ∈ invDeps l[i], Φ k (A.tmps.getD (dst k) undef) W) →
      ∀ K : Act → World → Prop, Hid (∀ v W', Rel W W' → (i ≠ c → G W → G W') → Φ i v W' → K (A.put (some (dst i)) v) W') → if Region.wanted l[i] (yielded l.toArray A.tmps) = true then Oper.wp P l[i] A W K Q else K (A.put l[i].dst undef) W)
    (hend : ∀ vs W, Rel w0 W → (∀ k, k < l.length → Φ k (vs k) W) → Q .normal (invA dst l.length a0 (Array.replicate l.length true) vs) W) :
    ∀ (n : Nat) (done : Array Bool) (a : Act) (w : World), InvR Rel l a0 w0 dst Φ c G done a w → invLeft done = n → wpAny P .any l.toArray Q n done a w := by
  have fin : ∀ (done : Array Bool) (a : Act) (w : World), InvR Rel l a0 w0 dst Φ c G done a w → (∀ i, i < l.length → done.getD i false = true) → Q .normal a w := by
    rintro done a w ⟨hs, hB, _, vs, rfl, hv⟩ h
    have e := inv_full hs h
    rw [e]
    exact hend vs w hB fun k hk => hv k hk (h k hk)
  intro n
  induction n with
  | zero =>
    intro done a w hI hz
    have hall := inv_zero hI.1 hz
    refine ⟨?_, fin done a w hI hall⟩
    rcases q : Region.ready .any l.toArray done with _ | ⟨j, r⟩
    · rfl
    · exfalso
      have hj : j ∈ Region.ready .any l.toArray done := by rw [q]; simp
      obtain ⟨h1, o, h2, _⟩ := mem_ready.1 hj
      have hlt : j < l.length := by simpa using (Array.getElem?_eq_some_iff.1 h2).1
      have h3 := hall j hlt
      have h4 : j < done.size := by have := hI.1; omega
      simp only [Array.getD_eq_getD_getElem?, Array.getElem?_eq_getElem h4, Option.getD_some] at h1 h3
      rw [h1] at h3
      cases h3
  | succ n ih =>
    intro done a w hI hn
    refine ⟨fun hr => fin done a w hI (inv_all hI.1 hdag hr), fun i hi => ?_⟩
    obtain ⟨h1, o, h2, h3⟩ := mem_ready.1 hi
    have hlt : i < l.length := by simpa using (Array.getElem?_eq_some_iff.1 h2).1
    have ho : o = l[i] := by simpa [hlt] using h2.symm
    subst ho
    obtain ⟨hs, hB, hG, vs, rfl, hv⟩ := hI
    have hls : i < done.size := by omega
    have hund : done.getD i false = false := by
      simp only [Array.getD_eq_getD_getElem?, Array.getElem?_eq_getElem hls, Option.getD_some] at h1 ⊢
      exact h1
    have hdep : ∀ k ∈ invDeps l[i], done.getD k false = true := by
      intro k hk
      obtain ⟨e, he, rfl⟩ := List.mem_map.1 hk
      obtain ⟨he1, he2⟩ := List.mem_filter.1 he
      exact h3 e (by simpa using he1) he2
    refine wpOp_step h2 fun K' hK' => ?_
    refine hstep i hlt _ w hB (fun e => hG (e ▸ hund)) (fun t ht => invA_other ht) (fun k hk => ?_) K' (Lib.hid fun v W' hb hGW hΦ => hK' _ _ ?_)
    · have hkl := hdag i hlt k hk
      have hd := hdep k hk
      rw [invA_done (hinj k (by omega)) (hsz k (by omega)) hd]
      exact hv k (by omega) hd
    · refine ih (done.setIfInBounds i true) _ W' ⟨by simpa using hs, htr _ _ _ hB hb, fun hc => ?_, fun k => if k = i then v else vs k, invA_put (hinj i hlt) hls hund v, fun k hk hd => ?_⟩ (by have := invLeft_set hls hund; omega)
      · by_cases e : i = c
        · subst e
          rw [show (done.setIfInBounds i true).getD i false = true by simp [hls]] at hc
          cases hc
        · rw [getD_set_ne false e] at hc
          exact hGW e (hG hc)
      by_cases e : k = i
      · subst e
        simp only [if_true]
        exact hΦ
      · rw [getD_set_ne false (Ne.symm e)] at hd
        simp only [if_neg e]
        exact hmono k _ _ _ (hv k hk hd) hb

/-- The region, each operation looked at once. -/
theorem wp_region_invR {Rel : World → World → Prop} {id : Nat} (c : Nat) (G : World → Prop) (htr : ∀ a b c : World, Rel a b → Rel b c → Rel a c) (hrd : ∀ w : World, Rel w w.drew) (hG : G w0.drew) (hm : P.follows .mixedOrders = true) (dst : Nat → Nat) (m : Nat) (Φ : Nat → Value → World → Prop) (hsz : a0.tmps.size = m) (hchk : invChk l dst m = true)
    (hmono : ∀ k v w w', Φ k v w → Rel w w' → Φ k v w')
    (hstep : ∀ i o, l[i]? = some o → ∀ (A : Act) (W : World), Rel w0 W → (i = c → G W) → (∀ t, invIdx dst l.length t = none → A.tmps.getD t undef = a0.tmps.getD t undef) → (∀ k, (invDeps o).contains k = true → Φ k (A.tmps.getD (dst k) undef) W) →
      ∀ K : Act → World → Prop, Hid (∀ v W', Rel W W' → (i ≠ c → G W → G W') → Φ i v W' → K (A.put (some (dst i)) v) W') → if Region.wanted o (yielded l.toArray A.tmps) = true then Oper.wp P o A W K Q else K (A.put o.dst undef) W)
    (hend : ∀ vs W, Rel w0 W → (∀ k, k < l.length → Φ k (vs k) W) → Q .normal (invA dst l.length a0 (Array.replicate l.length true) vs) W) : (Code.region id l.toArray true).wp P Q a0 w0 := by
  refine wp_region_any hm ?_
  have hnone : ∀ k, (Array.replicate l.toArray.size false).getD k false = false := fun k => by
    simp only [Array.getD_eq_getD_getElem?]
    rcases q : (Array.replicate l.toArray.size false)[k]? with _ | b
    · rfl
    · obtain ⟨_, q2⟩ := Array.getElem?_eq_some_iff.1 q
      simp at q2
      simp [← q2]
  refine inv_anyR (c := c) (G := G) (w0 := w0) (a0 := a0) htr (fun i h => (invChk_at hchk h).1) (fun i h => (invChk_at hchk h).2.1) (fun i h => by rw [hsz]; exact (invChk_at hchk h).2.2.1) (fun i h => (invChk_at hchk h).2.2.2) hmono
    (fun i h A W hB hg hA hD K hK => hstep i l[i] (List.getElem?_eq_getElem h) A W hB hg hA (fun k hk => hD k (by simpa using hk)) K hK) hend _ _ _ _ ⟨by simp, hrd w0, fun _ => hG, fun _ => undef, ?_, fun k _ hk => ?_⟩ (by simpa using invLeft_none l.length)
  · unfold invA
    rw [invL_none l.length _ _ hnone]
  · rw [hnone] at hk; cases hk
end
end Go.Proofs.YtenlngclocfnlaaGreatDoor

/- A text is spoilt (draws of FnReadDeed). UNDER WAY: does not build yet. -/
namespace Go.Proofs.YtenlngclocfnlaaGreatDoor
open Go.RowKit
set_option linter.unusedVariables false
set_option maxRecDepth 100000

theorem text_of (s : ByteArray) : ∃ l : List UInt8, s = ⟨l.toArray⟩ ∧ l.length = s.size := ⟨s.data.toList, by cases s; simp, by cases s; rfl⟩

theorem six_pick {q : Nat} (h : q < 6) : ∃ X : ByteArray, X.size ≤ 4 ∧ (#[.string ⟨#[]⟩, .string ⟨#[48]⟩, .string ⟨#[32]⟩, .string ⟨#[10]⟩, .string ⟨#[45]⟩, .string ⟨#[98, 97, 99, 107]⟩] : Array Value)[q]? = some (.string X) := by
  match q, h with
  | 0, _ => exact ⟨⟨#[]⟩, by decide, rfl⟩
  | 1, _ => exact ⟨⟨#[48]⟩, by decide, rfl⟩
  | 2, _ => exact ⟨⟨#[32]⟩, by decide, rfl⟩
  | 3, _ => exact ⟨⟨#[10]⟩, by decide, rfl⟩
  | 4, _ => exact ⟨⟨#[45]⟩, by decide, rfl⟩
  | 5, _ => exact ⟨⟨#[98, 97, 99, 107]⟩, by decide, rfl⟩
theorem spoil_out {s : ByteArray} {n : Nat} {w w' : World} {K : Nat} (hs : s.size ≤ n) (hg : w.grownBy w' (some K)) : ∃ l' : List UInt8, Ending.returned (.string s) = .returned (.string ⟨l'.toArray⟩) ∧ l'.length ≤ n ∧ w.grownBy w' (some K) := by
  obtain ⟨l', rfl, e⟩ := text_of s
  exact ⟨l', rfl, by omega, hg⟩

set_option maxHeartbeats 4000000 in
theorem spoil_any (l : List UInt8) (w : World) (K : Nat) (a : Option Addr) (cap : Nat) (bs : List Int) (p : Int) (h : Rd w K a cap bs p) (hp : p ≤ 1000000) (hl : l.length ≤ 4000000) :
    Calls Tryz.prog 42 #[.pointer (some ⟨K, 0, none⟩), .string ⟨l.toArray⟩] w fun e w' => ∃ l' : List UInt8, e = .returned (.string ⟨l'.toArray⟩) ∧ l'.length ≤ l.length + 4 ∧ w.grownBy w' (some K) := by
  have hKw := h.lt
  by_cases h0 : l = []
  · subst h0
    go_enter Tryz.func42, Tryz.ntmps42
    go_wp2
    go_ret
    exact ⟨[10], rfl, by simp, grown_of_below (Below.refl _ _)⟩
  · have hl0 : ¬ ((l.length : Int) = 0) := fun e => h0 (List.eq_nil_of_length_eq_zero (by omega))
    have hP := pick_any (l.length : Int) w K a cap bs p h (by omega) (by unfold In64; omega)
    have hlp : 0 < l.length := List.length_pos_iff.2 h0
    clear h0
    go_enter Tryz.func42, Tryz.ntmps42
    go_wp2_with fail
    refine hP.mono ?_
    rintro e w2 ⟨r, rfl, hr0, hr1, ⟨p2, hR2, hp2⟩, hg2⟩
    obtain ⟨k, rfl⟩ : ∃ k : Nat, r = k := ⟨r.toNat, by omega⟩
    have hk := hr1 (by omega)
    have hk0 : (0 : Int) ≤ (k : Int) := by omega
    have hk1 : (k : Int) ≤ (l.length : Int) := by omega
    have hk2 : (k : Int) + 1 ≤ (l.length : Int) := by omega
    have hk3 : (0 : Int) ≤ (k : Int) + 1 := by omega
    have hwr : IntKind.i64.wrap ((k : Int) + 1) = (k : Int) + 1 := by
      have q := wrap_nat64 (k + 1) (by omega)
      push_cast at q
      exact q
    have HG2 := Lib.hid hg2
    have hz2 := hg2.size
    have HRD := Lib.hid (fun q => pick_any 6 (w2.drewN q) K a cap bs p2 (hR2.drewN q) (by omega) (by unfold In64; omega))
    clear hP hr1 hg2
    go_upto_region 4 with fail
    have HR2 := Lib.hid hR2
    clear hR2 HRD
    refine wp_region_invR (Rel := fun x y => x.grownBy y (some K)) 5 (fun W => Rd W K a cap bs p2) (fun _ _ _ h1 h2 => grown_trans h1 h2) (fun W => grown_of_below (Below.refl _ W).drew) (HR2.out.drewN 1) (by kernel_rfl) (fun k => (#[13, 14, 15, 16, 17, 18, 19, 20, 21, 22, 23, 24, 25, 26, 4] : Array Nat).getD k 0) 27
      (fun j v W => match j with
        | 0 => v = .string ⟨l.toArray⟩
        | 1 => v = .int .i64 (k : Int)
        | 2 => ∃ Z : ByteArray, v = .string Z ∧ Z.size ≤ k
        | 3 => ∃ g, v = .slice (some ⟨g, 0, none⟩) 6 6 ∧ g ≠ K ∧ W.heap[g]? = some (.cells #[.string ⟨#[]⟩, .string ⟨#[48]⟩, .string ⟨#[32]⟩, .string ⟨#[10]⟩, .string ⟨#[45]⟩, .string ⟨#[98, 97, 99, 107]⟩] 9 (0, 0))
        | 4 => v = .pointer (some ⟨K, 0, none⟩)
        | 5 => ∃ q : Nat, v = .int .i64 (q : Int) ∧ q < 6
        | 6 => ∃ g q, v = .pointer (some ⟨g, q, none⟩) ∧ q < 6 ∧ g ≠ K ∧ W.heap[g]? = some (.cells #[.string ⟨#[]⟩, .string ⟨#[48]⟩, .string ⟨#[32]⟩, .string ⟨#[10]⟩, .string ⟨#[45]⟩, .string ⟨#[98, 97, 99, 107]⟩] 9 (0, 0))
        | 7 => ∃ Z : ByteArray, v = .string Z ∧ Z.size ≤ 4
        | 8 => ∃ Z : ByteArray, v = .string Z ∧ Z.size ≤ k + 4
        | 9 => v = .string ⟨l.toArray⟩
        | 10 => v = .int .i64 (k : Int)
        | 11 => v = .int .i64 ((k : Int) + 1)
        | 12 => ∃ Z : ByteArray, v = .string Z ∧ Z.size ≤ l.length - (k + 1)
        | 13 => ∃ Z : ByteArray, v = .string Z ∧ Z.size ≤ l.length + 4
        | 14 => ∃ Z : ByteArray, v = .string Z ∧ Z.size ≤ l.length + 4
        | _ => False) rfl (by kernel_rfl) ?mono ?step ?fin
    case mono =>
      intro j v W W' h hb
      match j, h with
      | 0, h => exact h
      | 1, h => exact h
      | 2, h => exact h
      | 3, h => (obtain ⟨g, h1, h2, h3⟩ := h; exact ⟨g, h1, h2, (hb.block _ (Array.getElem?_eq_some_iff.1 h3).1 (by simp; omega)).trans h3⟩)
      | 4, h => exact h
      | 5, h => exact h
      | 6, h => (obtain ⟨g, q, h1, h4, h2, h3⟩ := h; exact ⟨g, q, h1, h4, h2, (hb.block _ (Array.getElem?_eq_some_iff.1 h3).1 (by simp; omega)).trans h3⟩)
      | 7, h => exact h
      | 8, h => exact h
      | 9, h => exact h
      | 10, h => exact h
      | 11, h => exact h
      | 12, h => exact h
      | 13, h => exact h
      | 14, h => exact h
    case step =>
      intro i o ho A W hW hg hA hD K' hK
      match i, ho with
      | 0, ho =>
        simp only [List.getElem?_cons_zero, Option.some.injEq] at ho
        subst ho
        have e1 : A.tmps.getD 1 undef = .string ⟨l.toArray⟩ := (hA 1 (by kernel_rfl)).trans rfl
        have e1' := e1
        rw [Array.getD_eq_getD_getElem?] at e1'
        have HK := Lib.hid (show ∀ v W', W.grownBy W' (some K) → (0 ≠ 5 → Rd W K a cap bs p2 → Rd W' K a cap bs p2) → (v = .string ⟨l.toArray⟩) → K' (A.put (some 13) v) W' from hK.out)
        clear hA hD hK hg
        go_simp
        exact HK.out _ _ (grown_of_below (Below.refl _ _)) (fun _ q => q) rfl
      | 1, ho =>
        simp only [List.getElem?_cons_succ, List.getElem?_cons_zero, Option.some.injEq] at ho
        subst ho
        have e5 : A.tmps.getD 5 undef = .int .i64 (k : Int) := (hA 5 (by kernel_rfl)).trans rfl
        have e5' := e5
        rw [Array.getD_eq_getD_getElem?] at e5'
        have HK := Lib.hid (show ∀ v W', W.grownBy W' (some K) → (1 ≠ 5 → Rd W K a cap bs p2 → Rd W' K a cap bs p2) → (v = .int .i64 (k : Int)) → K' (A.put (some 14) v) W' from hK.out)
        clear hA hD hK hg
        go_simp
        exact HK.out _ _ (grown_of_below (Below.refl _ _)) (fun _ q => q) rfl
      | 2, ho =>
        simp only [List.getElem?_cons_succ, List.getElem?_cons_zero, Option.some.injEq] at ho
        subst ho
        have d0 : A.tmps.getD 13 undef = .string ⟨l.toArray⟩ := hD 0 (by kernel_rfl)
        have d0' := d0
        rw [Array.getD_eq_getD_getElem?] at d0'
        have d1 : A.tmps.getD 14 undef = .int .i64 (k : Int) := hD 1 (by kernel_rfl)
        have d1' := d1
        rw [Array.getD_eq_getD_getElem?] at d1'
        have HK := Lib.hid (show ∀ v W', W.grownBy W' (some K) → (2 ≠ 5 → Rd W K a cap bs p2 → Rd W' K a cap bs p2) → (∃ Z : ByteArray, v = .string Z ∧ Z.size ≤ k) → K' (A.put (some 15) v) W' from hK.out)
        clear hA hD hK hg
        go_simp
        exact HK.out _ _ (grown_of_below (Below.refl _ _)) (fun _ q => q) ⟨_, rfl, by simp [ByteArray.size]; try omega⟩
      | 3, ho =>
        simp only [List.getElem?_cons_succ, List.getElem?_cons_zero, Option.some.injEq] at ho
        subst ho
        have HK := Lib.hid (show ∀ v W', W.grownBy W' (some K) → (3 ≠ 5 → Rd W K a cap bs p2 → Rd W' K a cap bs p2) → (∃ g, v = .slice (some ⟨g, 0, none⟩) 6 6 ∧ g ≠ K ∧ W'.heap[g]? = some (.cells #[.string ⟨#[]⟩, .string ⟨#[48]⟩, .string ⟨#[32]⟩, .string ⟨#[10]⟩, .string ⟨#[45]⟩, .string ⟨#[98, 97, 99, 107]⟩] 9 (0, 0))) → K' (A.put (some 16) v) W' from hK.out)
        have hKW : K < W.heap.size := by have := hW.size; omega
        clear hA hD hK hg
        go_simp
        exact HK.out _ _ (grown_of_below ((Below.refl _ _).alloc (Nat.le_refl _) _)) (fun _ q => q.below ((Below.refl _ _).alloc (Nat.le_refl _) _)) ⟨W.heap.size, rfl, by omega, heap_alloc_new W _⟩
      | 4, ho =>
        simp only [List.getElem?_cons_succ, List.getElem?_cons_zero, Option.some.injEq] at ho
        subst ho
        have e0 : A.tmps.getD 0 undef = .pointer (some ⟨K, 0, none⟩) := (hA 0 (by kernel_rfl)).trans rfl
        have e0' := e0
        rw [Array.getD_eq_getD_getElem?] at e0'
        have HK := Lib.hid (show ∀ v W', W.grownBy W' (some K) → (4 ≠ 5 → Rd W K a cap bs p2 → Rd W' K a cap bs p2) → (v = .pointer (some ⟨K, 0, none⟩)) → K' (A.put (some 17) v) W' from hK.out)
        clear hA hD hK hg
        go_simp
        exact HK.out _ _ (grown_of_below (Below.refl _ _)) (fun _ q => q) rfl
      | 5, ho =>
        simp only [List.getElem?_cons_succ, List.getElem?_cons_zero, Option.some.injEq] at ho
        subst ho
        have d4 : A.tmps.getD 17 undef = .pointer (some ⟨K, 0, none⟩) := hD 4 (by kernel_rfl)
        have d4' := d4
        rw [Array.getD_eq_getD_getElem?] at d4'
        have HK := Lib.hid (show ∀ v W', W.grownBy W' (some K) → (5 ≠ 5 → Rd W K a cap bs p2 → Rd W' K a cap bs p2) → (∃ q : Nat, v = .int .i64 (q : Int) ∧ q < 6) → K' (A.put (some 18) v) W' from hK.out)
        have hR := hg rfl
        clear hA hD hK hg
        go_simp
        refine (pick_any 6 W K a cap bs p2 hR (by omega) (by unfold In64; omega)).mono ?_
        rintro e W' ⟨r6, rfl, hr60, hr61, _, hg7⟩
        have hr61 := hr61 (by omega)
        obtain ⟨q, rfl⟩ : ∃ q : Nat, r6 = q := ⟨r6.toNat, by omega⟩
        exact HK.out _ _ hg7 (fun e => absurd rfl e) ⟨q, rfl, by omega⟩
      | 6, ho =>
        simp only [List.getElem?_cons_succ, List.getElem?_cons_zero, Option.some.injEq] at ho
        subst ho
        obtain ⟨g, d3, hgK, hrow⟩ := (show ∃ g, A.tmps.getD 16 undef = .slice (some ⟨g, 0, none⟩) 6 6 ∧ g ≠ K ∧ W.heap[g]? = some (.cells #[.string ⟨#[]⟩, .string ⟨#[48]⟩, .string ⟨#[32]⟩, .string ⟨#[10]⟩, .string ⟨#[45]⟩, .string ⟨#[98, 97, 99, 107]⟩] 9 (0, 0)) from hD 3 (by kernel_rfl))
        have d3' := d3
        rw [Array.getD_eq_getD_getElem?] at d3'
        obtain ⟨q, d5, hq⟩ := (show ∃ q : Nat, A.tmps.getD 18 undef = .int .i64 (q : Int) ∧ q < 6 from hD 5 (by kernel_rfl))
        have d5' := d5
        rw [Array.getD_eq_getD_getElem?] at d5'
        have HK := Lib.hid (show ∀ v W', W.grownBy W' (some K) → (6 ≠ 5 → Rd W K a cap bs p2 → Rd W' K a cap bs p2) → (∃ g q, v = .pointer (some ⟨g, q, none⟩) ∧ q < 6 ∧ g ≠ K ∧ W'.heap[g]? = some (.cells #[.string ⟨#[]⟩, .string ⟨#[48]⟩, .string ⟨#[32]⟩, .string ⟨#[10]⟩, .string ⟨#[45]⟩, .string ⟨#[98, 97, 99, 107]⟩] 9 (0, 0))) → K' (A.put (some 19) v) W' from hK.out)
        have hq0 : (0 : Int) ≤ (q : Int) := by omega
        have hq1 : (q : Int) < 6 := by omega
        clear hA hD hK hg
        go_simp
        exact HK.out _ _ (grown_of_below (Below.refl _ _)) (fun _ q => q) ⟨g, q, by first | rfl | simp, hq, hgK, hrow⟩
      | 7, ho =>
        simp only [List.getElem?_cons_succ, List.getElem?_cons_zero, Option.some.injEq] at ho
        subst ho
        obtain ⟨g, q, d6, hq, hgK, hrow⟩ := (show ∃ g q, A.tmps.getD 19 undef = .pointer (some ⟨g, q, none⟩) ∧ q < 6 ∧ g ≠ K ∧ W.heap[g]? = some (.cells #[.string ⟨#[]⟩, .string ⟨#[48]⟩, .string ⟨#[32]⟩, .string ⟨#[10]⟩, .string ⟨#[45]⟩, .string ⟨#[98, 97, 99, 107]⟩] 9 (0, 0)) from hD 6 (by kernel_rfl))
        have d6' := d6
        rw [Array.getD_eq_getD_getElem?] at d6'
        have HK := Lib.hid (show ∀ v W', W.grownBy W' (some K) → (7 ≠ 5 → Rd W K a cap bs p2 → Rd W' K a cap bs p2) → (∃ Z : ByteArray, v = .string Z ∧ Z.size ≤ 4) → K' (A.put (some 20) v) W' from hK.out)
        obtain ⟨X, hX, hXq⟩ := six_pick hq
        have hcc : W.cell? ⟨g, q, none⟩ = some (.string X) := by rw [cell_of_row _ _ _ _ _ _ hrow]; exact hXq
        clear hA hD hK hg
        go_simp
        exact HK.out _ _ (grown_of_below (Below.refl _ _)) (fun _ q => q) ⟨X, rfl, hX⟩
      | 8, ho =>
        simp only [List.getElem?_cons_succ, List.getElem?_cons_zero, Option.some.injEq] at ho
        subst ho
        obtain ⟨A2, d2, hA2⟩ := (show ∃ Z : ByteArray, A.tmps.getD 15 undef = .string Z ∧ Z.size ≤ k from hD 2 (by kernel_rfl))
        have d2' := d2
        rw [Array.getD_eq_getD_getElem?] at d2'
        obtain ⟨A7, d7, hA7⟩ := (show ∃ Z : ByteArray, A.tmps.getD 20 undef = .string Z ∧ Z.size ≤ 4 from hD 7 (by kernel_rfl))
        have d7' := d7
        rw [Array.getD_eq_getD_getElem?] at d7'
        have HK := Lib.hid (show ∀ v W', W.grownBy W' (some K) → (8 ≠ 5 → Rd W K a cap bs p2 → Rd W' K a cap bs p2) → (∃ Z : ByteArray, v = .string Z ∧ Z.size ≤ k + 4) → K' (A.put (some 21) v) W' from hK.out)
        clear hA hD hK hg
        go_simp
        rw [if_neg (by first | omega | (simp only [ByteArray.size_append]; omega)), Oper.upon_value]
        exact HK.out _ _ (grown_of_below (Below.refl _ _)) (fun _ q => q) ⟨_, rfl, by rw [ByteArray.size_append]; omega⟩
      | 9, ho =>
        simp only [List.getElem?_cons_succ, List.getElem?_cons_zero, Option.some.injEq] at ho
        subst ho
        have e1 : A.tmps.getD 1 undef = .string ⟨l.toArray⟩ := (hA 1 (by kernel_rfl)).trans rfl
        have e1' := e1
        rw [Array.getD_eq_getD_getElem?] at e1'
        have HK := Lib.hid (show ∀ v W', W.grownBy W' (some K) → (9 ≠ 5 → Rd W K a cap bs p2 → Rd W' K a cap bs p2) → (v = .string ⟨l.toArray⟩) → K' (A.put (some 22) v) W' from hK.out)
        clear hA hD hK hg
        go_simp
        exact HK.out _ _ (grown_of_below (Below.refl _ _)) (fun _ q => q) rfl
      | 10, ho =>
        simp only [List.getElem?_cons_succ, List.getElem?_cons_zero, Option.some.injEq] at ho
        subst ho
        have e5 : A.tmps.getD 5 undef = .int .i64 (k : Int) := (hA 5 (by kernel_rfl)).trans rfl
        have e5' := e5
        rw [Array.getD_eq_getD_getElem?] at e5'
        have HK := Lib.hid (show ∀ v W', W.grownBy W' (some K) → (10 ≠ 5 → Rd W K a cap bs p2 → Rd W' K a cap bs p2) → (v = .int .i64 (k : Int)) → K' (A.put (some 23) v) W' from hK.out)
        clear hA hD hK hg
        go_simp
        exact HK.out _ _ (grown_of_below (Below.refl _ _)) (fun _ q => q) rfl
      | 11, ho =>
        simp only [List.getElem?_cons_succ, List.getElem?_cons_zero, Option.some.injEq] at ho
        subst ho
        have d10 : A.tmps.getD 23 undef = .int .i64 (k : Int) := hD 10 (by kernel_rfl)
        have d10' := d10
        rw [Array.getD_eq_getD_getElem?] at d10'
        have HK := Lib.hid (show ∀ v W', W.grownBy W' (some K) → (11 ≠ 5 → Rd W K a cap bs p2 → Rd W' K a cap bs p2) → (v = .int .i64 ((k : Int) + 1)) → K' (A.put (some 24) v) W' from hK.out)
        clear hA hD hK hg
        go_simp
        exact HK.out _ _ (grown_of_below (Below.refl _ _)) (fun _ q => q) rfl
      | 12, ho =>
        simp only [List.getElem?_cons_succ, List.getElem?_cons_zero, Option.some.injEq] at ho
        subst ho
        have d9 : A.tmps.getD 22 undef = .string ⟨l.toArray⟩ := hD 9 (by kernel_rfl)
        have d9' := d9
        rw [Array.getD_eq_getD_getElem?] at d9'
        have d11 : A.tmps.getD 24 undef = .int .i64 ((k : Int) + 1) := hD 11 (by kernel_rfl)
        have d11' := d11
        rw [Array.getD_eq_getD_getElem?] at d11'
        have HK := Lib.hid (show ∀ v W', W.grownBy W' (some K) → (12 ≠ 5 → Rd W K a cap bs p2 → Rd W' K a cap bs p2) → (∃ Z : ByteArray, v = .string Z ∧ Z.size ≤ l.length - (k + 1)) → K' (A.put (some 25) v) W' from hK.out)
        clear hA hD hK hg
        go_simp
        exact HK.out _ _ (grown_of_below (Below.refl _ _)) (fun _ q => q) ⟨_, rfl, by simp [ByteArray.size]; try omega⟩
      | 13, ho =>
        simp only [List.getElem?_cons_succ, List.getElem?_cons_zero, Option.some.injEq] at ho
        subst ho
        obtain ⟨A8, d8, hA8⟩ := (show ∃ Z : ByteArray, A.tmps.getD 21 undef = .string Z ∧ Z.size ≤ k + 4 from hD 8 (by kernel_rfl))
        have d8' := d8
        rw [Array.getD_eq_getD_getElem?] at d8'
        obtain ⟨A12, d12, hA12⟩ := (show ∃ Z : ByteArray, A.tmps.getD 25 undef = .string Z ∧ Z.size ≤ l.length - (k + 1) from hD 12 (by kernel_rfl))
        have d12' := d12
        rw [Array.getD_eq_getD_getElem?] at d12'
        have HK := Lib.hid (show ∀ v W', W.grownBy W' (some K) → (13 ≠ 5 → Rd W K a cap bs p2 → Rd W' K a cap bs p2) → (∃ Z : ByteArray, v = .string Z ∧ Z.size ≤ l.length + 4) → K' (A.put (some 26) v) W' from hK.out)
        clear hA hD hK hg
        go_simp
        rw [if_neg (by first | omega | (simp only [ByteArray.size_append]; omega)), Oper.upon_value]
        exact HK.out _ _ (grown_of_below (Below.refl _ _)) (fun _ q => q) ⟨_, rfl, by rw [ByteArray.size_append]; omega⟩
      | 14, ho =>
        simp only [List.getElem?_cons_succ, List.getElem?_cons_zero, Option.some.injEq] at ho
        subst ho
        obtain ⟨A13, d13, hA13⟩ := (show ∃ Z : ByteArray, A.tmps.getD 26 undef = .string Z ∧ Z.size ≤ l.length + 4 from hD 13 (by kernel_rfl))
        have d13' := d13
        rw [Array.getD_eq_getD_getElem?] at d13'
        have HK := Lib.hid (show ∀ v W', W.grownBy W' (some K) → (14 ≠ 5 → Rd W K a cap bs p2 → Rd W' K a cap bs p2) → (∃ Z : ByteArray, v = .string Z ∧ Z.size ≤ l.length + 4) → K' (A.put (some 4) v) W' from hK.out)
        clear hA hD hK hg
        go_simp
        exact HK.out _ _ (grown_of_below (Below.refl _ _)) (fun _ q => q) ⟨_, rfl, hA13⟩
      | n + 15, ho =>
        simp at ho
    case fin =>
      intro vs W hW h
      obtain ⟨A, h14, hA14⟩ := (show ∃ Z : ByteArray, vs 14 = .string Z ∧ Z.size ≤ l.length + 4 from h 14 (by decide))
      have HW := Lib.hid (grown_trans HG2.out hW)
      rw [invA_lit [none, none, none, none, some 14, none, none, none, none, none, none, none, none, some 0, some 1, some 2, some 3, some 4, some 5, some 6, some 7, some 8, some 9, some 10, some 11, some 12, some 13] (by kernel_rfl) rfl]
      simp only [List.zipWith_cons_cons, List.zipWith_nil_left]
      rw [h14]
      clear h h14 hW
      go_wp2
      go_ret
      exact spoil_out hA14 HW.out

end Go.Proofs.YtenlngclocfnlaaGreatDoor

/- Drawn deeds that have texts, and DrawJournalText. -/
namespace Go.Proofs.YtenlngclocfnlaaGreatDoor
open Go.RowKit
set_option linter.unusedVariables false
set_option maxRecDepth 100000

/-- What a drawing of written deeds leaves. -/
def WDrawn (K : Nat) (a : Option Addr) (cap : Nat) (bs : List Int) (p : Int) (w : World) (e : Ending) (w' : World) : Prop :=
  ∃ (ds : List Dd) (a' : Option Addr) (c' : Nat), e = .returned (.slice a' ds.length c') ∧ OwnH w.heap.size w' (.slice a' ds.length c') ds ∧ In64D ds ∧ ds.length ≤ 5 ∧ (∀ d ∈ ds, d.code.length ≤ 10) ∧ Drew K a cap bs p 1000 w w'
/-- Two slices lie in different blocks. -/
def Apart2 (u v : Value) : Prop := ∀ j, u.ownBlock = some j → v.ownBlock = some j → False
theorem Apart2.ne {u v : Value} (h : Apart2 u v) : v.ownBlock = none ∨ v.ownBlock ≠ u.ownBlock := by
  rcases e : v.ownBlock with _ | j
  · exact .inl rfl
  · exact .inr fun e2 => h j e2.symm e
theorem Apart2.next {u v z : Value} {B : Nat} {w : World} {ds : List Dd} (h : Apart2 u z) (hv : v.ownBlock = u.ownBlock ∨ v.ownBlock = some w.heap.size) (ho : OwnH B w z ds) : Apart2 v z := by
  intro j e1 e2
  rcases hv with hv | hv
  · exact h j (hv.symm.trans e1) e2
  · rw [hv] at e1
    injection e1 with e1
    have := (ho.lt j e2).2
    omega
theorem mem_of_take {ds : List Dd} {k : Nat} {d : Dd} (h : d ∈ ds.take k) : d ∈ ds := List.mem_of_mem_take h

set_option maxHeartbeats 4000000 in
theorem written_any (w : World) (K : Nat) (a : Option Addr) (cap : Nat) (bs : List Int) (p : Int) (h : Rd w K a cap bs p) (hp : p ≤ 10000000) :
    Calls Tryz.prog 40 #[.pointer (some ⟨K, 0, none⟩)] w (WDrawn K a cap bs p w) := by
  have hKw := h.lt
  obtain ⟨w1, hw1⟩ : ∃ z, z = w.alloc (.cells #[] 41) := ⟨_, rfl⟩
  have hb1 : Below w.heap.size w w1 := by rw [hw1]; exact (Below.refl _ _).alloc (Nat.le_refl _) _
  have hO1 : OwnH w.heap.size w1 (.slice (some ⟨w.heap.size, 0, none⟩) 0 0) [] := by rw [hw1]; exact OwnH.lit w
  have hz1 : w1.heap.size = w.heap.size + 1 := by rw [hw1]; simp
  have hG := desk_any 0 w1 _ a cap bs p (h.below hb1) (by omega) (by omega) (by omega)
  have HO1 := Lib.hid hO1
  have HG1 := Lib.hid (grown_of_below hb1 (K := K))
  clear h hb1 hO1
  go_enter Tryz.func40, Tryz.ntmps40
  go_wp2_with fail
  rw [← hw1]
  clear hw1
  refine hG.mono ?_
  rintro e w2 ⟨x, c, gs, a', c', rfl, ho, h64, hl5, hx0, hx4, hc0, hc4, hcl, ⟨p2, hR2, hp2⟩, hg2⟩
  have hz2 := hg2.size
  have HO2 := Lib.hid (HO1.out.keep (Above.of_grown hg2 hKw))
  have HG2 := Lib.hid (grown_trans HG1.out hg2)
  have hD := deeds_any x c a' gs.length c' w2 _ a cap bs p2 hR2 (by omega) hx0 hx4 hc0 hc4
  clear hG ho h64 hcl hR2 hg2 HO1 HG1
  go_wp2_with fail
  refine hD.mono ?_
  rintro e w3 ⟨ds, a3, c3, rfl, ho3, h64, hl5d, h10, ⟨p3, hR3, hp3⟩, hg3⟩
  have hz3 := hg3.size
  have HO3 := Lib.hid (HO2.out.keep (Above.of_grown hg3 hKw))
  have HG3 := Lib.hid (grown_trans HG2.out hg3)
  have HL3 := Lib.hid ((ho3.toH).mono (show w.heap.size ≤ w2.heap.size by omega))
  have H64 := Lib.hid h64
  have H10 := Lib.hid h10
  have HR3 := Lib.hid hR3
  have HW3 := Lib.hid (show w.heap.size ≤ w3.heap.size by omega)
  have HAP := Lib.hid (show Apart2 (.slice (some ⟨w.heap.size, 0, none⟩) 0 0) (.slice a3 ds.length c3) from fun j e1 e2 => by
    have e3 : w.heap.size = j := by simpa [Value.ownBlock] using e1
    have := (ho3.toH.lt j e2).1
    omega)
  obtain ⟨N, hN⟩ : ∃ N, N = ds.length := ⟨_, rfl⟩
  have HN := Lib.hid hN
  rw [← hN] at hl5d HAP ⊢
  clear hD ho3 h64 h10 hR3 hg3 HO2 HG2 hN
  go_wp2
  go_loopw [3, 5] (fun s i wi => ∃ (k : Nat) (es : List Dd) (ao : Option Addr) (co : Nat), k ≤ N ∧ i = .int .i64 k ∧ s = .slice ao es.length co ∧ es.length ≤ k ∧ OwnH w.heap.size wi (.slice ao es.length co) es ∧ OwnH w.heap.size wi (.slice a3 N c3) ds ∧ (∀ d ∈ es, d ∈ ds) ∧ Rd wi K a cap bs p3 ∧ w.grownBy wi (some K) ∧ w3.heap.size ≤ wi.heap.size ∧ Apart2 (.slice ao es.length co) (.slice a3 N c3)) (fun _ i _ => N - (intOf i).toNat)
  case atStart => exact ⟨0, [], _, 0, Nat.zero_le _, rfl, rfl, Nat.le_refl _, HO3.out, by rw [HN.out]; exact HL3.out, fun d hd => (by cases hd), HR3.out, HG3.out, Nat.le_refl _, HAP.out⟩
  case round =>
    obtain ⟨k, es, ao, co, hk, rfl, rfl, hek, hoe, hod, hsub, hR, hg, hzz, hap⟩ := hrel
    obtain ⟨wk, rfl⟩ : ∃ x, x = wr := ⟨_, rfl⟩
    have HAP := Lib.hid hap
    clear HO3 HL3 HR3 HG3 hap
    by_cases hlt : k < N
    · have hltd : k < ds.length := by rw [← HN.out]; exact hlt
      have hod' := hod
      rw [HN.out] at hod'
      obtain ⟨g, capg, he, hgB, hgl, _, _, _, hat⟩ := hod'.opened (by omega)
      injection he with he1 _ he3
      subst he1 he3
      obtain ⟨u, c0, c1, hou, c2, c3'⟩ := hat k hltd
      obtain ⟨au, cu, hu, hcu⟩ := own_shape hou
      clear hcu
      obtain ⟨y, hy⟩ : ∃ y, y = ds[k] := ⟨_, rfl⟩
      have hymem : y ∈ ds := by rw [hy]; exact List.getElem_mem hltd
      rw [← hy] at c0 c2 c3' hou hu
      subst hu
      have hT := deedTextS_any y.back _ y.code y.right y.near wk (OwnI.toInts hou (H64.out y hymem))
      have HY := Lib.hid hymem
      obtain ⟨T, hTT⟩ : ∃ T, T = textD ⟨y.back, y.code, y.right, y.near⟩ := ⟨_, rfl⟩
      rw [← hTT] at hT
      unfold TextOut strV dV at hT
      have HOE := Lib.hid hoe
      have HOD := Lib.hid hod
      have HOU := Lib.hid hou
      have HSUB := Lib.hid hsub
      have HR := Lib.hid hR
      have HG := Lib.hid hg
      have HC0 := Lib.hid c0
      have HC1 := Lib.hid c1
      have HC2 := Lib.hid c2
      have HC3 := Lib.hid c3'
      have hi0 : (0 : Int) ≤ (k : Int) := by omega
      have hi1 : (k : Int) < (N : Int) := by omega
      clear hod hod' hat hoe hou hsub hR hg hTT hy hymem
      clear hltd
      go_wp2_with fail
      refine hT.mono ?_
      rintro e w5 ⟨rfl, hb5⟩
      have hz5 := hb5.size
      have HOE5 := Lib.hid (HOE.out.below hb5)
      have HOD5 := Lib.hid (HOD.out.below hb5)
      have HOU5 := Lib.hid (OwnI.below HOU.out hb5)
      have HR5 := Lib.hid (HR.out.below hb5)
      have HG5 := Lib.hid (grown_trans HG.out (grown_of_below hb5 (K := K)))
      have q0 := (Above.of_below (B := 0) hb5).cell (Nat.zero_le _) HC0.out
      have q1 := (Above.of_below (B := 0) hb5).cell (Nat.zero_le _) HC1.out
      have q2 := (Above.of_below (B := 0) hb5).cell (Nat.zero_le _) HC2.out
      have q3 := (Above.of_below (B := 0) hb5).cell (Nat.zero_le _) HC3.out
      clear hT hb5 c0 c1 c2 c3'
      cases T with
      | nil =>
        clear q0 q1 q2 q3
        go_wp2
        go_roundw
        case rel => exact ⟨k + 1, es, ao, co, by omega, by go_num, rfl, by omega, HOE5.out, HOD5.out, HSUB.out, HR5.out, HG5.out, by omega, HAP.out⟩
        case measure => simp [intOf]; omega
      | cons t T =>
        have hbG : Below w5.heap.size w5 (w5.alloc (.cells #[.bool y.back, .slice au y.code.length cu, .int .i64 y.right, .int .i64 y.near] 41)) := (Below.refl _ _).alloc (Nat.le_refl _) _
        have HOA := Lib.hid (HOE5.out.below hbG)
        have HDA := Lib.hid (HOD5.out.below hbG)
        have HUA := Lib.hid (OwnI.below HOU5.out hbG)
        have HRA := Lib.hid (HR5.out.below hbG)
        have HGA := Lib.hid (grown_trans HG5.out (grown_of_below hbG (K := K)))
        have HCC := Lib.hid (heap_alloc_new w5 (.cells #[.bool y.back, .slice au y.code.length cu, .int .i64 y.right, .int .i64 y.near] 41))
        have HSZ := Lib.hid (show w3.heap.size + 1 ≤ (w5.alloc (.cells #[.bool y.back, .slice au y.code.length cu, .int .i64 y.right, .int .i64 y.near] 41)).heap.size by rw [World.size_alloc]; omega)
        have hes : es.length ≤ 5 := by omega
        clear hbG
        go_wp2_with (at_builtin; refine wpList_push_h (w5.alloc (.cells #[.bool y.back, .slice au y.code.length cu, .int .i64 y.right, .int .i64 y.near] 41)) rfl (.tmp 23) (.tmp 28) rfl w.heap.size (.slice ao es.length co) es rfl HOA.out w5.heap.size 1 (.slice au y.code.length cu) y rfl HCC.out HUA.out (by omega) (by have := HSZ.out; have := HW3.out; omega) ?_; intro a7 c7 w7 ho7 hg7 hb7; have HO7 := Lib.hid ho7; have HG7 := Lib.hid hg7; have HB7 := Lib.hid hb7; clear ho7 hg7 hb7)
        have HBLK := Lib.hid (show ∀ j, (Value.slice ao es.length co).ownBlock = some j → w.heap.size ≤ j from fun j hj => (HOA.out.lt j hj).1)
        have HD7 := Lib.hid (HDA.out.kept HOA.out HG7.out (Apart2.ne HAP.out))
        have HA7 := Lib.hid (Apart2.next (v := .slice a7 (es ++ [y]).length c7) HAP.out (HB7.out.imp (fun h => by simpa using h) (fun h => by simpa using h)) HDA.out)
        go_roundw
        case rel => exact ⟨k + 1, es ++ [y], a7, c7, by omega, by go_num, by simp, by simp; omega, by simpa using HO7.out, HD7.out, fun d hd => by
            rcases List.mem_append.1 hd with hd | hd
            · exact HSUB.out d hd
            · simp only [List.mem_singleton] at hd; subst hd; exact HY.out, rd_grown HRA.out HG7.out (fun j hj => by have := HBLK.out j hj; omega), HGA.out.andThen HG7.out (fun j hj => .inl (HBLK.out j hj)), by have := HSZ.out; have := HG7.out.size; omega, HA7.out⟩
        case measure => simp [intOf]; omega
    · have HF := Lib.hid (show WDrawn K a cap bs p w (.returned (.slice ao es.length co)) wk from
        ⟨es, ao, co, rfl, hoe, fun d hd => H64.out d (hsub d hd), by omega, fun d hd => H10.out d (hsub d hd), ⟨p3, hR, by omega⟩, hg⟩)
      clear hoe hod hsub hR hg
      go_wp2
      go_ret
      exact HF.out

/-- A drawn list of deeds. -/
def JDOut (w : World) (e : Ending) (w' : World) : Prop :=
  ∃ (ds : List Dd) (a : Option Addr) (c : Nat), e = .returned (.slice a ds.length c) ∧ OwnH w.heap.size w' (.slice a ds.length c) ds ∧ In64D ds ∧ ds.length ≤ 6 ∧ (∀ d ∈ ds, d.code.length ≤ 10) ∧ Below w.heap.size w w'

end Go.Proofs.YtenlngclocfnlaaGreatDoor

/- DrawReadJournal. -/
namespace Go.Proofs.YtenlngclocfnlaaGreatDoor
open Go.RowKit
set_option linter.unusedVariables false
set_option maxRecDepth 100000

theorem textJ_len (ds : List Dd) : (textJ ds).length ≤ 14 * ds.length := by
  rw [textJ_eq]
  split
  · exact linesJ_len ds
  · simp

set_option maxHeartbeats 4000000 in
theorem drawReadJournal_any {B : Nat} (v : Value) (bs : List Int) (w : World) (h : Bytes B w v bs) :
    Calls Tryz.prog 8 #[v] w fun e w' => ∃ l : List UInt8, e = .returned (.string ⟨l.toArray⟩) ∧ l.length ≤ 100 ∧ Below w.heap.size w w' := by
  obtain ⟨a0, cap0, rfl, _⟩ := id h.1
  rw [List.length_map] at h ⊢
  have hO := open_any _ bs w h
  clear h
  go_enter Tryz.func8, Tryz.ntmps8
  go_wp2_with fail
  refine hO.mono ?_
  rintro e w2 ⟨a, cap, bs1, rfl, hR2, hb2⟩
  have HB2 := Lib.hid hb2
  have hz2 := hb2.size
  have hW := written_any w2 _ a cap bs1 0 hR2 (by omega)
  clear hO hb2 hR2
  go_wp2_with fail
  refine hW.mono ?_
  rintro e w4 ⟨ds, a4, c4, rfl, ho4, h64, hl5, h10, ⟨p4, hR4, hp4⟩, hg4⟩
  have hz4 := hg4.size
  have HB4 := Lib.hid (HB2.out.grown hg4 HB2.out.size (fun j hj => by cases hj; omega))
  have hT := journalTextS_any _ ds w4 (ho4.toDL h64) (by omega)
  have hlen := textJ_len ds
  obtain ⟨T, hTT⟩ : ∃ T, T = textJ ds := ⟨_, rfl⟩
  rw [← hTT] at hT hlen
  unfold TextOut strV at hT
  have HR4 := Lib.hid hR4
  have hTl : T.length ≤ 70 := by omega
  clear hW ho4 h64 h10 hR4 hg4 hTT hlen
  go_wp2_with fail
  refine hT.mono ?_
  rintro e w5 ⟨rfl, hb5⟩
  have HB5 := Lib.hid (HB4.out.trans (hb5.mono HB4.out.size))
  have hP := pick_any 3 w5 _ a cap bs1 p4 (HR4.out.below hb5) (by omega) (by unfold In64; omega)
  clear hT hb5
  go_wp2_with fail
  refine hP.mono ?_
  rintro e w6 ⟨q, rfl, hq0, _, ⟨p6, hR6, hp6⟩, hg6⟩
  have hz5 := HB5.out.size
  have HB6 := Lib.hid (HB5.out.grown hg6 HB5.out.size (fun j hj => by cases hj; omega))
  have hz6 := HB6.out.size
  clear hP hg6
  by_cases hq : q = 0
  · subst hq
    have hS := spoil_any T w6 _ a cap bs1 p6 hR6 (by omega) (by omega)
    clear hR6
    go_wp2_with fail
    refine hS.mono ?_
    rintro e w7 ⟨l', rfl, hl', hg7⟩
    have HB7 := Lib.hid (HB6.out.grown hg7 HB6.out.size (fun j hj => by cases hj; omega))
    clear hS hg7
    go_wp2
    go_ret
    exact ⟨l', rfl, by omega, HB7.out⟩
  · have hqq : (q == 0) = false := by simpa using hq
    by_cases hq1 : q = 1
    · subst hq1
      have hP := pick_any ((T.length : Int) + 1) w6 _ a cap bs1 p6 hR6 (by omega) (by unfold In64; omega)
      clear hR6 hqq
      go_wp2_with fail
      refine hP.mono ?_
      rintro e w7 ⟨k, rfl, hk0, hk1, _, hg7⟩
      have hk1 := hk1 (by omega)
      have HB7 := Lib.hid (HB6.out.grown hg7 HB6.out.size (fun j hj => by cases hj; omega))
      obtain ⟨kn, rfl⟩ : ∃ kn : Nat, k = kn := ⟨k.toNat, by omega⟩
      have hk2 : (kn : Int) ≤ (T.length : Int) := by omega
      have HEX := Lib.hid (show (ByteArray.mk T.toArray).extract 0 kn = ByteArray.mk (T.take kn).toArray by rw [ByteArray.extract_mk, List.drop_zero, Nat.sub_zero])
      clear hP hg7
      go_wp2
      go_ret
      exact ⟨T.take kn, (show Ending.returned (.string ((ByteArray.mk T.toArray).extract 0 kn)) = _ by rw [HEX.out]), by rw [List.length_take]; omega, HB7.out⟩
    · have hqq1 : (q == 1) = false := by simpa using hq1
      clear hR6
      go_wp2
      go_ret
      exact ⟨T, rfl, by omega, HB6.out⟩

end Go.Proofs.YtenlngclocfnlaaGreatDoor
