/- Drawn deeds, and DrawDeskRun. -/
import Derived.Test.YtenlngclocfnlaaDoorDrawDo
import Derived.Test.YtenlngclocfnlaaDoorOwnD2
namespace Go.Proofs.YtenlngclocfnlaaDoor
open Go.RowKit
set_option linter.unusedVariables false
set_option maxRecDepth 100000

/-- The deeds so far, in memory younger than world w2. -/
def DsW (w w2 : World) (K : Nat) (a : Option Addr) (cap : Nat) (bs : List Int) (q : Int) (ao : Option Addr) (k co : Nat) (wi : World) : Prop :=
  ∃ ds : List Dd, ds.length = k ∧ OwnD w2.heap.size wi (.slice ao k co) ds ∧ In64D ds ∧ (∀ d ∈ ds, d.code.length ≤ 10) ∧ (∃ p', Rd wi K a cap bs p' ∧ p' ≤ q) ∧ w.grownBy wi (some K) ∧ Above w.heap.size w2 wi ∧ w2.heap.size ≤ wi.heap.size
/-- A deed is put behind. -/
theorem DsW.push {w w2 wi : World} {K : Nat} {a : Option Addr} {cap : Nat} {bs : List Int} {q' : Int} {ao : Option Addr} {k co : Nat} (hz : w.heap.size ≤ w2.heap.size) (hK : K < w.heap.size) {w7 : World} {p' : Int} {y : Dd} {o : Obj} {a7 : Option Addr} {c7 : Nat} {ds : List Dd}
    (hds : ds.length = k) (hin : In64D ds) (h10 : ∀ d ∈ ds, d.code.length ≤ 10) (hown : OwnD w2.heap.size wi (.slice ao k co) ds)
    (hR : Rd wi K a cap bs p') (hp : p' ≤ q') (h7 : w.grownBy wi (some K)) (h8 : Above w.heap.size w2 wi) (h9 : w2.heap.size ≤ wi.heap.size) (hy : ∀ z ∈ y.code, In64 z) (hy10 : y.code.length ≤ 10)
    (ho : OwnD w2.heap.size w7 (.slice a7 (k + 1) c7) (ds ++ [y])) (hg7 : (wi.alloc o).grownBy w7 (Value.slice ao k co).ownBlock) : DsW w w2 K a cap bs q' a7 (k + 1) c7 w7 := by
  have hblk : ∀ j, (Value.slice ao k co).ownBlock = some j → w2.heap.size ≤ j := fun j hj => (hown.lt j hj).1
  have hsz := hg7.size
  have hsa : (wi.alloc o).heap.size = wi.heap.size + 1 := by simp
  refine ⟨ds ++ [y], by simp [hds], ho, ?_, ?_, ⟨p', rd_grown (hR.below ((Below.refl _ _).alloc (Nat.le_refl _) o)) hg7 (fun j hj => by have := hblk j hj; omega), hp⟩,
    (h7.andThen (World.grownBy_alloc wi o none) (fun _ e => by cases e)).andThen hg7 (fun j hj => .inl (by have := hblk j hj; omega)), fun b q1 q2 => ?_, by omega⟩
  · intro g hg
    rcases List.mem_append.1 hg with hg | hg
    · exact hin g hg
    · simp only [List.mem_singleton] at hg; subst hg; exact hy
  · intro g hg
    rcases List.mem_append.1 hg with hg | hg
    · exact h10 g hg
    · simp only [List.mem_singleton] at hg; subst hg; exact hy10
  · rw [hg7.block b (by omega) (fun e => by have := hblk b e.symm; omega), Below.heap_alloc wi o b (by omega)]
    exact h8 b q1 q2

/-- What a drawing of deeds leaves. -/
def DsDrawn (K : Nat) (a : Option Addr) (cap : Nat) (bs : List Int) (p : Int) (w : World) (e : Ending) (w' : World) : Prop :=
  ∃ (ds : List Dd) (a' : Option Addr) (c' : Nat), e = .returned (.slice a' ds.length c') ∧ OwnD w.heap.size w' (.slice a' ds.length c') ds ∧ In64D ds ∧ ds.length ≤ 5 ∧ (∀ d ∈ ds, d.code.length ≤ 10) ∧ Drew K a cap bs p 300 w w'
theorem ds_done {w w2 wi : World} {K : Nat} {a : Option Addr} {cap : Nat} {bs : List Int} {p q : Int} {ao : Option Addr} {k co : Nat} (h : DsW w w2 K a cap bs q ao k co wi) (hz : w.heap.size ≤ w2.heap.size) (hq : q ≤ p + 300) (hk : k ≤ 5) :
    DsDrawn K a cap bs p w (.returned (.slice ao k co)) wi := by
  obtain ⟨ds, rfl, h2, h3, h4, ⟨p', h5, h6⟩, h7, h8, h9⟩ := h
  exact ⟨ds, ao, co, rfl, h2.mono hz, h3, hk, h4, ⟨p', h5, by omega⟩, h7⟩

set_option maxHeartbeats 4000000 in
theorem deeds_any (x c : Int) (va : Option Addr) (vn vc : Nat) (w : World) (K : Nat) (a : Option Addr) (cap : Nat) (bs : List Int) (p : Int) (h : Rd w K a cap bs p) (hp : p ≤ 100000000) (hx0 : 0 ≤ x) (hx4 : x ≤ 4) (hc0 : 0 ≤ c) (hc4 : c ≤ 4) :
    Calls Tryd.prog 68 #[.pointer (some ⟨K, 0, none⟩), dkV x c (.slice va vn vc)] w (DsDrawn K a cap bs p w) := by
  have hKw := h.lt
  have HDK := Lib.hid (fun v => show dkV x c v = .agg #[.int .i64 x, .int .i64 c, v] from rfl)
  obtain ⟨w2, hw2⟩ : ∃ z, z = w.alloc (.cells #[.int .i64 x, .int .i64 c, .slice va vn vc] 61) := ⟨_, rfl⟩
  have hb2 : Below w.heap.size w w2 := by rw [hw2]; exact (Below.refl _ _).alloc (Nat.le_refl _) _
  have hs2 : w2.heap.size = w.heap.size + 1 := by rw [hw2]; simp
  have hz2 : w2.heap[w.heap.size]? = some (.cells #[.int .i64 x, .int .i64 c, .slice va vn vc] 61 (0, 0)) := by rw [hw2]; exact heap_alloc_new w _
  have hR2 := h.below hb2
  have hz02 : w.heap.size ≤ w2.heap.size := by omega
  have hg2 : w.grownBy w2 (some K) := grown_of_below hb2
  obtain ⟨w3, hw3⟩ : ∃ z, z = w2.alloc (.cells #[] 26) := ⟨_, rfl⟩
  have hb3 : Below w2.heap.size w2 w3 := by rw [hw3]; exact (Below.refl _ _).alloc (Nat.le_refl _) _
  have hown : OwnD w2.heap.size w3 (.slice (some ⟨w.heap.size + 1, 0, none⟩) 0 0) [] := by rw [hw3, ← hs2]; exact OwnD.lit w2
  have hP := pick_any 6 w3 K a cap bs p (hR2.below hb3) (by omega) (by unfold In64; omega)
  have HOWN := Lib.hid hown
  have HB3 := Lib.hid hb3
  have HG3 := Lib.hid (hg2.andThen (grown_of_below hb3 (K := K)) (fun _ e => by cases e; exact .inr rfl))
  have HZ2 := Lib.hid hz2
  clear h hb2 hg2 hb3 hown hR2 hz2
  rw [HDK.out]
  go_enter Tryd.func68, Tryd.ntmps68
  go_wp2_with fail
  rw [← hw2, ← hw3]
  clear hw2 hw3
  refine hP.mono ?_
  rintro e w4 ⟨kk, rfl, hk0, hk1, ⟨p4, hR4, hp4⟩, hg4⟩
  have hk1 := hk1 (by omega)
  have hW4 : DsW w w2 K a cap bs (p + 1) (some ⟨w.heap.size + 1, 0, none⟩) 0 0 w4 :=
    ⟨[], rfl, HOWN.out.keep (Above.of_grown hg4 (by omega)), fun d hd => (by cases hd), fun d hd => (by cases hd), ⟨p4, hR4, hp4⟩, grown_trans HG3.out hg4, above_step (.of_below HB3.out) HB3.out.size (Above.of_grown hg4 hKw), by have := hg4.size; have := HB3.out.size; omega⟩
  have HW4 := Lib.hid hW4
  clear hP hR4 hg4 hW4 HOWN HB3 HG3
  go_wp2
  go_loopw [5, 6] (fun lv kv wi => ∃ (k : Nat) (ao : Option Addr) (co : Nat), k ≤ 5 ∧ (k : Int) ≤ kk ∧ kv = .int .i64 (kk - k) ∧ lv = .slice ao k co ∧ DsW w w2 K a cap bs (p + 1 + 40 * k) ao k co wi) (fun _ kv _ => (intOf kv).toNat)
  case atStart => exact ⟨0, _, 0, by omega, by omega, by simp, rfl, by simpa using HW4.out⟩
  case round =>
    obtain ⟨k, ao, co, hk5, hkk, rfl, rfl, hW⟩ := hrel
    obtain ⟨wk, rfl⟩ : ∃ x, x = wr := ⟨_, rfl⟩
    clear HW4
    by_cases hlt : 0 < kk - (k : Int)
    · obtain ⟨ds, hl, ho, h64, h10, ⟨p', hR, hp'⟩, hg, hA, hzz⟩ := hW
      have hD := deed_any x c va vn vc wk K a cap bs p' hR (by omega) hx0 hx4 hc0 hc4
      rw [HDK.out] at hD
      have HL := Lib.hid hl
      have HO := Lib.hid ho
      have H64 := Lib.hid h64
      have H10 := Lib.hid h10
      have HG := Lib.hid hg
      have HA := Lib.hid hA
      have hbx : wk.heap[w.heap.size]? = some (.cells #[.int .i64 x, .int .i64 c, .slice va vn vc] 61 (0, 0)) := (hA w.heap.size (Nat.le_refl _) (by omega)).trans HZ2.out
      obtain ⟨b0, b1, b2⟩ := three_of hbx
      clear hl ho h64 h10 hR hg hA hbx
      go_wp2_with fail
      refine hD.mono ?_
      rintro e w5 ⟨b, ys, r, n, a5, c5, rfl, ho5, hy5, _, _, hl5, ⟨p5, hR5, hp5⟩, hg5⟩
      unfold dV
      have hz5 := hg5.size
      have HG5 := Lib.hid (grown_trans HG.out hg5)
      have HA5 := Lib.hid (above_step HA.out hzz (Above.of_grown hg5 hKw))
      have HK := Lib.hid (show Above w2.heap.size wk w5 from Above.of_grown hg5 (by omega))
      have HO5 := Lib.hid (HO.out.keep HK.out)
      have HU5 := Lib.hid ho5
      have HY5 := Lib.hid hy5
      have HR5 := Lib.hid hR5
      have hbG : Below w5.heap.size w5 (w5.alloc (.cells #[.bool b, .slice a5 ys.length c5, .int .i64 r, .int .i64 n] 26)) := (Below.refl _ _).alloc (Nat.le_refl _) _
      have HOA := Lib.hid (HO5.out.below hbG)
      have HUA := Lib.hid (show OwnI w2.heap.size _ _ _ from OwnI.mono2 (owns_below ho5 hbG) hzz)
      have HDI := Lib.hid (deed_oldA HO.out (above_step HK.out (by omega) (.of_below hbG)) (owns_below ho5 hbG))
      have HCC := Lib.hid (heap_alloc_new w5 (.cells #[.bool b, .slice a5 ys.length c5, .int .i64 r, .int .i64 n] 26))
      have HSZ := Lib.hid (show w2.heap.size ≤ (w5.alloc (.cells #[.bool b, .slice a5 ys.length c5, .int .i64 r, .int .i64 n] 26)).heap.size by rw [World.size_alloc]; omega)
      clear hbG hD hR5 hg5 ho5 hy5 b0 b1 b2
      go_wp2_with (at_builtin; refine wpList_push_d (w5.alloc (.cells #[.bool b, .slice a5 ys.length c5, .int .i64 r, .int .i64 n] 26)) rfl (.tmp 14) (.tmp 18) rfl w2.heap.size (.slice ao k co) ds rfl HOA.out w5.heap.size 1 (.slice a5 ys.length c5) ⟨b, ys, r, n⟩ rfl HCC.out HUA.out HDI.out (by have := HL.out; omega) HSZ.out ?_; intro a7 c7 w7 ho7 hg7; rw [HL.out] at ho7 ⊢; have HW7 := Lib.hid (DsW.push (q' := p + 1 + 40 * ((k + 1 : Nat) : Int)) hz02 hKw HL.out H64.out H10.out HO5.out HR5.out (by omega) HG5.out HA5.out (by omega) HY5.out hl5 ho7 hg7); clear ho7 hg7)
      go_roundw
      case rel => exact ⟨k + 1, a7, c7, by omega, by omega, by go_num, rfl, HW7.out⟩
      case measure => simp [intOf]; omega
    · have HF := Lib.hid (ds_done (p := p) hW hz02 (by omega) hk5)
      clear hW
      go_wp2
      go_ret
      exact HF.out

theorem OwnD.otherD {B D j : Nat} {w : World} {v z : Value} {ds : List Dd} {cs : Array Value} {t : TypeId} {fr : Nat × Nat} (h : OwnD B w v ds) (hD : w.heap[D]? = some (.cells cs t fr)) (h1 : 26 ≠ t) (h2 : 3 ≠ t) : OwnD B (w.setCell ⟨D, j, none⟩ z) v ds := by
  obtain ⟨ts, q1, q2, q3, q4⟩ := h
  have hs := grownBy_setCell w ⟨D, j, none⟩ z
  exact ⟨ts, World.ownsRow.kept q1 hs (own_other q1 hD h1), q2, fun i hi hi' => ⟨(q3 i hi hi').1, World.ownsRow.kept (q3 i hi hi').2.1 hs (own_other (q3 i hi hi').2.1 hD h2), (q3 i hi hi').2.2⟩, q4⟩
def made41 : Obj := .cells (madeCells (Value.agg #[.bool false, .slice none 0 0, .int .i64 0, .int .i64 0]).cells (41 * 4)) 26
theorem make_deeds41 (W : World) : (Instr.makeSlice 32 (.int .i64 41) (.int .i64 41)).run Tryd.prog W = .ok (.slice (some ⟨W.heap.size, 0, none⟩) 41 41) (W.alloc made41) := by
  obtain ⟨i0, hi, hz0, hz1, hz2⟩ := info_parts infoDeed
  have h := run_make W 32 26 i0 (.agg #[.bool false, .slice none 0 0, .int .i64 0, .int .i64 0]) Tryd.underlying32 hi hz0 .i64 .i64 41 41 (by omega) (by omega) (by rw [hz2]; omega) (by omega)
  rw [hz1] at h
  exact h
theorem own41 (W : World) : OwnD W.heap.size (W.alloc made41) (.slice (some ⟨W.heap.size, 0, none⟩) 41 41) (List.replicate 41 ⟨false, [], 0, 0⟩) :=
  own_nilsD (World.ownsRow_lit W _ 41 (Nat.le_refl _) (by unfold maxLen; omega) (size_madeCells _ _))
/-- A drawn desk and drawn deeds. -/
def RunDrawn (w : World) (e : Ending) (w' : World) : Prop :=
  ∃ (x c : Int) (gs : List Gs) (a1 : Option Addr) (c1 : Nat) (ds : List Dd) (a2 : Option Addr) (c2 : Nat), e = .returned (.tuple #[dkV x c (.slice a1 gs.length c1), .slice a2 ds.length c2]) ∧
    OwnG w.heap.size w' (.slice a1 gs.length c1) gs ∧ In64G gs ∧ gs.length ≤ 5 ∧ (∀ g ∈ gs, g.code.length ≤ 10) ∧ OwnD w.heap.size w' (.slice a2 ds.length c2) ds ∧ In64D ds ∧ ds.length ≤ 41 ∧ (∀ d ∈ ds, d.code.length ≤ 10) ∧ Below w.heap.size w w'
theorem runD_fin {w w4 : World} {x c : Int} {gs : List Gs} {ds : List Dd} {a1 a2 : Option Addr} {c1 c2 : Nat} (hR : w4.heap[w.heap.size]? = some (.cells #[.int .i64 0, .int .i64 0, .slice none 0 0] 61 (0, 0)))
    (ho : OwnG w.heap.size w4 (.slice a1 gs.length c1) gs) (h64 : In64G gs) (hl : gs.length ≤ 5) (hcl : ∀ g ∈ gs, g.code.length ≤ 10)
    (hi : OwnD w.heap.size w4 (.slice a2 ds.length c2) ds) (hy : In64D ds) (hyl : ds.length ≤ 41) (hdc : ∀ d ∈ ds, d.code.length ≤ 10) (hb : Below w.heap.size w w4) :
    RunDrawn w (.returned (.tuple #[dkV x c (.slice a1 gs.length c1), .slice a2 ds.length c2])) (((w4.setCell ⟨w.heap.size, 0, none⟩ (.int .i64 x)).setCell ⟨w.heap.size, 1, none⟩ (.int .i64 c)).setCell ⟨w.heap.size, 2, none⟩ (.slice a1 gs.length c1)) ∧
      (((w4.setCell ⟨w.heap.size, 0, none⟩ (.int .i64 x)).setCell ⟨w.heap.size, 1, none⟩ (.int .i64 c)).setCell ⟨w.heap.size, 2, none⟩ (.slice a1 gs.length c1)).heap[w.heap.size]? = some (.cells #[.int .i64 x, .int .i64 c, .slice a1 gs.length c1] 61 (0, 0)) := by
  have q1 := heap_setCell_same _ _ 0 _ _ (.int .i64 x) hR
  have q2 := heap_setCell_same _ _ 1 _ _ (.int .i64 c) q1
  have q3 := heap_setCell_same _ _ 2 _ _ (.slice a1 gs.length c1) q2
  exact ⟨⟨x, c, gs, a1, c1, ds, a2, c2, rfl, ((ho.otherD hR (by decide) (by decide)).otherD q1 (by decide) (by decide)).otherD q2 (by decide) (by decide), h64, hl, hcl, ((hi.otherD hR (by decide) (by decide)).otherD q1 (by decide) (by decide)).otherD q2 (by decide) (by decide), hy, hyl, hdc,
    ((hb.setCell (p := ⟨w.heap.size, 0, none⟩) (by simp) _).setCell (p := ⟨w.heap.size, 1, none⟩) (by simp) _).setCell (p := ⟨w.heap.size, 2, none⟩) (by simp) _⟩, q3⟩

theorem runD_fin41 {w w4 : World} {x c : Int} {gs : List Gs} {a1 : Option Addr} {c1 : Nat} (hR : w4.heap[w.heap.size]? = some (.cells #[.int .i64 0, .int .i64 0, .slice none 0 0] 61 (0, 0)))
    (ho : OwnG w.heap.size w4 (.slice a1 gs.length c1) gs) (h64 : In64G gs) (hl : gs.length ≤ 5) (hcl : ∀ g ∈ gs, g.code.length ≤ 10) (hb : Below w.heap.size w w4) :
    RunDrawn w (.returned (.tuple #[dkV x c (.slice a1 gs.length c1), .slice (some ⟨w4.heap.size, 0, none⟩) 41 41])) ((((w4.setCell ⟨w.heap.size, 0, none⟩ (.int .i64 x)).setCell ⟨w.heap.size, 1, none⟩ (.int .i64 c)).setCell ⟨w.heap.size, 2, none⟩ (.slice a1 gs.length c1)).alloc made41).drew ∧
      ((((w4.setCell ⟨w.heap.size, 0, none⟩ (.int .i64 x)).setCell ⟨w.heap.size, 1, none⟩ (.int .i64 c)).setCell ⟨w.heap.size, 2, none⟩ (.slice a1 gs.length c1)).alloc made41).drew.heap[w.heap.size]? = some (.cells #[.int .i64 x, .int .i64 c, .slice a1 gs.length c1] 61 (0, 0)) := by
  have q1 := heap_setCell_same _ _ 0 _ _ (.int .i64 x) hR
  have q2 := heap_setCell_same _ _ 1 _ _ (.int .i64 c) q1
  have q3 := heap_setCell_same _ _ 2 _ _ (.slice a1 gs.length c1) q2
  have hs : (((w4.setCell ⟨w.heap.size, 0, none⟩ (.int .i64 x)).setCell ⟨w.heap.size, 1, none⟩ (.int .i64 c)).setCell ⟨w.heap.size, 2, none⟩ (.slice a1 gs.length c1)).heap.size = w4.heap.size := by simp
  have hoG := ((ho.otherD (j := 0) (z := .int .i64 x) hR (by decide) (by decide)).otherD (j := 1) (z := .int .i64 c) q1 (by decide) (by decide)).otherD (j := 2) (z := .slice a1 gs.length c1) q2 (by decide) (by decide)
  have hbW := ((hb.setCell (p := ⟨w.heap.size, 0, none⟩) (by simp) (.int .i64 x)).setCell (p := ⟨w.heap.size, 1, none⟩) (by simp) (.int .i64 c)).setCell (p := ⟨w.heap.size, 2, none⟩) (by simp) (.slice a1 gs.length c1)
  obtain ⟨W, hW⟩ : ∃ z, z = ((w4.setCell ⟨w.heap.size, 0, none⟩ (.int .i64 x)).setCell ⟨w.heap.size, 1, none⟩ (.int .i64 c)).setCell ⟨w.heap.size, 2, none⟩ (.slice a1 gs.length c1) := ⟨_, rfl⟩
  rw [← hW] at q3 hs hoG hbW ⊢
  clear hW q1 q2
  have hbA : Below W.heap.size W (W.alloc made41).drew := ((Below.refl _ W).alloc (Nat.le_refl _) made41).drew
  have hD : OwnD w.heap.size (W.alloc made41).drew (.slice (some ⟨w4.heap.size, 0, none⟩) 41 41) (List.replicate 41 ⟨false, [], 0, 0⟩) := by
    have := (own41 W).mono hbW.size
    rw [hs] at this
    exact this.below (Below.refl _ _).drew
  refine ⟨⟨x, c, gs, a1, c1, List.replicate 41 ⟨false, [], 0, 0⟩, _, 41, by rw [List.length_replicate], hoG.below hbA, h64, hl, hcl, by rw [List.length_replicate]; exact hD, ?_, by simp, ?_, hbW.trans (hbA.mono hbW.size)⟩, (hbA.block _ (Array.getElem?_eq_some_iff.1 q3).1).trans q3⟩
  · intro d hd y hy
    rw [List.eq_of_mem_replicate hd] at hy
    cases hy
  · intro d hd
    rw [List.eq_of_mem_replicate hd]
    simp

end Go.Proofs.YtenlngclocfnlaaDoor
