/- The walk of FnExactDeskNew. -/
import Derived.Test.YtkjdlpbfalojdaaDeskL
namespace Go.Proofs.Ytkjdlpbfalojdaa
open Go.RowKit Go.Shelf
set_option linter.unusedVariables false
set_option maxRecDepth 100000

/-- The three cells of a desk that lies in a block. -/
def DeskAt (w : World) (g : Nat) (p c : Int) (v : Value) : Prop := w.heap[g]? = some (.cells #[.int .i64 p, .int .i64 c, v] 27 (0, 0))
theorem DeskAt.new (w : World) (p c : Int) (v : Value) : DeskAt (w.alloc (.cells #[.int .i64 p, .int .i64 c, v] 27)) w.heap.size p c v := heap_alloc_new w _
theorem DeskAt.lt {w : World} {g : Nat} {p c : Int} {v : Value} (h : DeskAt w g p c v) : g < w.heap.size := (Array.getElem?_eq_some_iff.1 h).1
theorem DeskAt.below {w w' : World} {g : Nat} {p c : Int} {v : Value} (h : DeskAt w g p c v) (hb : Below w.heap.size w w') : DeskAt w' g p c v := by
  unfold DeskAt at h ⊢
  rw [hb.block g (Array.getElem?_eq_some_iff.1 h).1]; exact h
theorem DeskAt.cells {w : World} {g : Nat} {p c : Int} {v : Value} (h : DeskAt w g p c v) : w.cell? ⟨g, 0, none⟩ = some (.int .i64 p) ∧ w.cell? ⟨g, 1, none⟩ = some (.int .i64 c) ∧ w.cell? ⟨g, 2, none⟩ = some v := by
  refine ⟨?_, ?_, ?_⟩ <;> rw [cell_of_row _ _ _ _ _ _ h] <;> simp

set_option maxHeartbeats 2000000 in
theorem FnExactDeskNew_walk (p c : Int) (w : World) (hp : In64 p) (hc : In64 c) :
    Calls Try.prog 8 #[.int .i64 p, .int .i64 c] w fun e w' => e = .returned (.bool true) ∧ Below w.heap.size w w' := by
  have hS := deskNewS_any p c w
  obtain ⟨p2, c2, b2, hv⟩ : ∃ p2 c2 b2, newV p c = .tuple #[dkV p2 c2 (.slice none 0 0), .bool b2] := by
    unfold newV; split
    · exact ⟨p, c, true, rfl⟩
    · exact ⟨0, 0, false, rfl⟩
  have HI := Lib.hid (fun W => deskNewI_any p c W)
  rw [hv] at hS HI
  have HV := Lib.hid hv
  have HD := Lib.hid (show dkV p2 c2 (.slice none 0 0) = .agg #[.int .i64 p2, .int .i64 c2, .slice none 0 0] from rfl)
  rw [HD.out] at hS HI
  have hbb : (b2 != b2) = false := by simp
  clear hv hp hc
  go_enter Try.func8, Try.ntmps8
  go_wp2_with fail
  refine hS.mono ?_
  rintro e w1 ⟨rfl, hb1⟩
  have HB1 := Lib.hid hb1
  clear hS hb1
  go_wp2_with fail
  have ha := DeskAt.new w1 p2 c2 (.slice none 0 0)
  have hba : Below w1.heap.size w1 (w1.alloc (.cells #[.int .i64 p2, .int .i64 c2, .slice none 0 0] 27)) := (Below.refl _ _).alloc (Nat.le_refl _) _
  obtain ⟨wa, hwa⟩ : ∃ x, x = w1.alloc (.cells #[.int .i64 p2, .int .i64 c2, .slice none 0 0] 27) := ⟨_, rfl⟩
  rw [← hwa] at ha hba ⊢
  have HBA := Lib.hid (HB1.out.trans (hba.mono HB1.out.size))
  obtain ⟨ga, hga⟩ : ∃ x, x = w1.heap.size := ⟨_, rfl⟩
  rw [← hga] at ha ⊢
  clear hwa hba hga
  refine (HI.out wa).mono ?_
  rintro e w2 ⟨rfl, hb2⟩
  have hx2 := ha.below hb2
  have HB2 := Lib.hid (HBA.out.trans (hb2.mono HBA.out.size))
  obtain ⟨x0, x1, x2⟩ := hx2.cells
  have HX2 := Lib.hid hx2
  have hg2 := hx2.lt
  clear hb2 ha hx2
  go_wp2_with fail
  have hb := DeskAt.new w2 p2 c2 (.slice none 0 0)
  have hba : Below w2.heap.size w2 (w2.alloc (.cells #[.int .i64 p2, .int .i64 c2, .slice none 0 0] 27)) := (Below.refl _ _).alloc (Nat.le_refl _) _
  obtain ⟨wb, hwa⟩ : ∃ x, x = w2.alloc (.cells #[.int .i64 p2, .int .i64 c2, .slice none 0 0] 27) := ⟨_, rfl⟩
  rw [← hwa] at hb hba ⊢
  have HBB := Lib.hid (HB2.out.trans (hba.mono HB2.out.size))
  have hxa := HX2.out.below hba
  obtain ⟨gb, hgb⟩ : ∃ x, x = w2.heap.size := ⟨_, rfl⟩
  rw [← hgb] at hb ⊢
  clear hwa hba hgb x0 x1 x2 hg2
  have hE := eqDesk_self p2 c2 (.slice none 0 0) (.slice none 0 0) [] wb (GL.nil 0 _) (GL.nil 0 _)
  rw [HD.out] at hE
  refine hE.mono ?_
  rintro e w3 ⟨rfl, hb3⟩
  have HXA3 := Lib.hid (hxa.below hb3)
  have HXB3 := Lib.hid (hb.below hb3)
  have HB3 := Lib.hid (HBB.out.trans (hb3.mono HBB.out.size))
  obtain ⟨x0, x1, x2⟩ := (hxa.below hb3).cells
  obtain ⟨y0, y1, y2⟩ := (hb.below hb3).cells
  clear hb3 hE hb hxa
  go_wp2_with fail
  have hM := markDesk_any (B := w3.heap.size) (C := w3.heap.size) p2 c2 (.slice none 0 0) [] 1 w3 (OwnG.empty _ _) (by intro g m cap e hp; cases hp) (Nat.le_refl _) (by omega) (by simp [totG])
  rw [HD.out] at hM
  refine hM.mono ?_
  rintro e w4 ⟨rfl, ho4, hb4, _⟩
  have HXA4 := Lib.hid (HXA3.out.below hb4)
  have HXB4 := Lib.hid (HXB3.out.below hb4)
  have HB4 := Lib.hid (HB3.out.trans (hb4.mono HB3.out.size))
  simp only [endK]
  clear hM ho4 hb4 x0 x1 x2 y0 y1 y2
  obtain ⟨x0, x1, x2⟩ := HXA4.out.cells
  obtain ⟨y0, y1, y2⟩ := HXB4.out.cells
  go_wp2_with fail
  have hH := heldDesk_any p2 c2 (.slice none 0 0) [] 1 w4 (GL.nil 0 _) (by omega) (by simp [totG])
  rw [HD.out] at hH
  refine hH.mono ?_
  rintro e w5 ⟨rfl, hb5⟩
  have HXA5 := Lib.hid (HXA4.out.below hb5)
  have HXB5 := Lib.hid (HXB4.out.below hb5)
  have HB5 := Lib.hid (HB4.out.trans (hb5.mono HB4.out.size))
  simp only [endK]
  clear hH hb5 x0 x1 x2 y0 y1 y2
  go_wp2_with fail
  refine (HI.out w5).mono ?_
  rintro e w6 ⟨rfl, hb6⟩
  have HXA6 := Lib.hid (HXA5.out.below hb6)
  have HXB6 := Lib.hid (HXB5.out.below hb6)
  have HB6 := Lib.hid (HB5.out.trans (hb6.mono HB5.out.size))
  clear hb6
  obtain ⟨x0, x1, x2⟩ := HXA6.out.cells
  have hg6 := HXA6.out.lt
  go_wp2_with fail
  have hc := DeskAt.new w6 p2 c2 (.slice none 0 0)
  have hba : Below w6.heap.size w6 (w6.alloc (.cells #[.int .i64 p2, .int .i64 c2, .slice none 0 0] 27)) := (Below.refl _ _).alloc (Nat.le_refl _) _
  obtain ⟨wc, hwa⟩ : ∃ x, x = w6.alloc (.cells #[.int .i64 p2, .int .i64 c2, .slice none 0 0] 27) := ⟨_, rfl⟩
  rw [← hwa] at hc hba ⊢
  have HBC := Lib.hid (HB6.out.trans (hba.mono HB6.out.size))
  have hxa := HXA6.out.below hba
  have hxb := HXB6.out.below hba
  clear hwa hba x0 x1 x2 hg6 hc
  have hE := eqDesk_self p2 c2 (.slice none 0 0) (.slice none 0 0) [] wc (GL.nil 0 _) (GL.nil 0 _)
  rw [HD.out] at hE
  refine hE.mono ?_
  rintro e w7 ⟨rfl, hb7⟩
  have HXB7 := Lib.hid (hxb.below hb7)
  have HB7 := Lib.hid (HBC.out.trans (hb7.mono HBC.out.size))
  clear hb7 hE hxa hxb
  obtain ⟨y0, y1, y2⟩ := HXB7.out.cells
  go_wp2_with fail
  have hH := heldDesk_any p2 c2 (.slice none 0 0) [] 1 w7 (GL.nil 0 _) (by omega) (by simp [totG])
  rw [HD.out] at hH
  refine hH.mono ?_
  rintro e w8 ⟨rfl, hb8⟩
  have HB8 := Lib.hid (HB7.out.trans (hb8.mono HB7.out.size))
  simp only [endK]
  clear hH hb8 y0 y1 y2
  go_wp2
  go_ret
  exact ⟨rfl, HB8.out⟩

end Go.Proofs.Ytkjdlpbfalojdaa
