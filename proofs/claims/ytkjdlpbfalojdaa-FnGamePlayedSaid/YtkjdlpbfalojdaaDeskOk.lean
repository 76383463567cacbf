/- DeskOk and DeskNew, of the program and of the reference. -/
import Derived.Test.YtkjdlpbfalojdaaNextI
namespace Go.Proofs.Ytkjdlpbfalojdaa
open Go.RowKit
set_option linter.unusedVariables false
set_option maxRecDepth 100000

/-- A desk as a value. -/
def dkV (p c : Int) (v : Value) : Value := .agg #[.int .i64 p, .int .i64 c, v]
def deskB (p c : Int) (gs : List Gs) : Bool := decide (0 < (fitL p c gs).length)
theorem deskB_no {p c : Int} {gs : List Gs} (h : guessesB p c gs = false) : deskB p c gs = false := by unfold deskB fitL; rw [h]; rfl
theorem deskB_new (p c : Int) : deskB p c [] = codesB p c := by
  have hg : guessesB p c [] = codesB p c := by unfold guessesB; simp
  unfold deskB fitL
  rw [hg]
  cases h : codesB p c
  · rfl
  · have hp := codesB_iff.1 h
    obtain ⟨⟨h1, h2⟩, h3, h4⟩ := hp
    have e : ((allP p c).filter fun x => fitsB x []) = allP p c := by
      rw [List.filter_eq_self]; intro x _; rfl
    rw [if_pos rfl, e]
    apply decide_eq_true
    unfold allP
    rw [allL_length]
    exact Nat.pow_pos (by omega)

theorem deskOkI_any {B : Nat} (p c : Int) (v : Value) (gs : List Gs) (w : World) (h : GL B w v gs) :
    Calls Try.prog 21 #[dkV p c v] w fun e w' => e = .returned (.bool (deskB p c gs)) ∧ Below w.heap.size w w' := by
  have hsh : ∃ a cap, v = .slice a gs.length cap := by obtain ⟨a, cap, _, hv, _⟩ := h; exact ⟨a, cap, hv⟩
  obtain ⟨a, cap, rfl⟩ := hsh
  have hb1 : Below w.heap.size w (w.alloc (.cells #[.int .i64 p, .int .i64 c, .slice a gs.length cap] 27)) := (Below.refl _ _).alloc (Nat.le_refl _) _
  have hF := fitI_any p c _ gs _ (h.below hb1)
  have HB1 := Lib.hid hb1
  unfold deskB
  obtain ⟨n, hn⟩ : ∃ n, n = (fitL p c gs).length := ⟨_, rfl⟩
  unfold FreshR at hF
  rw [← hn] at hF ⊢
  unfold dkV
  clear hb1 h hn
  cases hd : decide (0 < n)
  · have HD := Lib.hid hd
    have hn0 : ¬ (0 < (n : Int)) := by have := of_decide_eq_false hd; omega
    clear hd
    go_enter Try.func21, Try.ntmps21
    go_wp2_with fail
    refine hF.mono ?_
    rintro e w2 ⟨b, d, rfl, _, hb2⟩
    have HB2 := Lib.hid (HB1.out.trans (hb2.mono HB1.out.size))
    clear hF hb2
    go_wp2
    go_ret
    exact ⟨ret_bool (by simpa using HD.out), HB2.out⟩
  · have HD := Lib.hid hd
    have hn0 : 0 < (n : Int) := by have := of_decide_eq_true hd; omega
    clear hd
    go_enter Try.func21, Try.ntmps21
    go_wp2_with fail
    refine hF.mono ?_
    rintro e w2 ⟨b, d, rfl, _, hb2⟩
    have HB2 := Lib.hid (HB1.out.trans (hb2.mono HB1.out.size))
    clear hF hb2
    go_wp2
    go_ret
    exact ⟨ret_bool (by simpa using HD.out), HB2.out⟩

theorem deskOkS_any {B : Nat} (p c : Int) (v : Value) (gs : List Gs) (w : World) (h : GL B w v gs) :
    Calls Try.prog 25 #[dkV p c v] w fun e w' => e = .returned (.bool (deskB p c gs)) ∧ Below w.heap.size w w' := by
  have hsh : ∃ a cap, v = .slice a gs.length cap := by obtain ⟨a, cap, _, hv, _⟩ := h; exact ⟨a, cap, hv⟩
  obtain ⟨a, cap, rfl⟩ := hsh
  have hb1 : Below w.heap.size w (w.alloc (.cells #[.int .i64 p, .int .i64 c, .slice a gs.length cap] 27)) := (Below.refl _ _).alloc (Nat.le_refl _) _
  have hG := guessesS_any p c _ gs _ (h.below hb1)
  have hF := fitS_any p c _ gs _ (h.below hb1)
  have HB1 := Lib.hid hb1
  have HDN := Lib.hid (@deskB_no p c gs)
  unfold dkV
  clear hb1 h
  cases hg : guessesB p c gs
  · rw [hg] at hG
    have HR := Lib.hid (HDN.out hg)
    clear hF hg
    go_enter Try.func25, Try.ntmps25
    go_wp2_with fail
    refine hG.mono ?_
    rintro e w2 ⟨rfl, rfl⟩
    clear hG
    go_wp2
    go_ret
    exact ⟨ret_bool (by rw [HR.out]), HB1.out⟩
  · rw [hg] at hG
    clear hg
    unfold deskB
    obtain ⟨n, hn⟩ : ∃ n, n = (fitL p c gs).length := ⟨_, rfl⟩
    unfold FreshR at hF
    rw [← hn] at hF ⊢
    clear hn
    cases hd : decide (0 < n)
    · have HD := Lib.hid hd
      have hn0 : ¬ (0 < (n : Int)) := by have := of_decide_eq_false hd; omega
      clear hd
      go_enter Try.func25, Try.ntmps25
      go_wp2_with fail
      refine hG.mono ?_
      rintro e w2 ⟨rfl, rfl⟩
      clear hG
      go_wp2_with fail
      refine hF.mono ?_
      rintro e w2 ⟨b, d, rfl, _, hb2⟩
      have HB2 := Lib.hid (HB1.out.trans (hb2.mono HB1.out.size))
      clear hF hb2
      go_wp2
      go_ret
      exact ⟨ret_bool (by simpa using HD.out), HB2.out⟩
    · have HD := Lib.hid hd
      have hn0 : 0 < (n : Int) := by have := of_decide_eq_true hd; omega
      clear hd
      go_enter Try.func25, Try.ntmps25
      go_wp2_with fail
      refine hG.mono ?_
      rintro e w2 ⟨rfl, rfl⟩
      clear hG
      go_wp2_with fail
      refine hF.mono ?_
      rintro e w2 ⟨b, d, rfl, _, hb2⟩
      have HB2 := Lib.hid (HB1.out.trans (hb2.mono HB1.out.size))
      clear hF hb2
      go_wp2
      go_ret
      exact ⟨ret_bool (by simpa using HD.out), HB2.out⟩

theorem results_cell_tmp {P : Program} {fn : Func} {p q : Tmp} {ty : TypeId} (h : fn.results = #[.cell p ty, .tmp q]) (tmps : Array Value) (w : World) (g : Nat) (t : TypeId) (cs : Array Value) (fr : Nat × Nat) (d : TypeDesc)
    (hp : tmps.getD p undef = .pointer (some ⟨g, 0, none⟩)) (hg : w.heap[g]? = some (.cells cs t fr))
    (hu : P.underlying ty = some d) (hd : (match d with | .struct _ | .array _ _ => true | _ => false) = true) (hi : (P.info? ty).map (·.size) = some cs.size) :
    (results fn tmps).run P w = .ok (.tuple #[.agg cs, tmps.getD q undef]) w := by
  have hp' : tmps[p]?.getD undef = .pointer (some ⟨g, 0, none⟩) := by simpa using hp
  simp [results, h, hp', asAddr, run_loadVar_row w g t ty cs fr d hg hu hd hi]

/-- What DeskNew returns. -/
def newV (p c : Int) : Value := if codesB p c = true then .tuple #[dkV p c (.slice none 0 0), .bool true] else .tuple #[dkV 0 0 (.slice none 0 0), .bool false]

set_option maxHeartbeats 1000000 in
theorem deskNewI_any (p c : Int) (w : World) :
    Calls Try.prog 16 #[.int .i64 p, .int .i64 c] w fun e w' => e = .returned (newV p c) ∧ Below w.heap.size w w' := by
  obtain ⟨W2, hW2⟩ : ∃ W2, W2 = (w.alloc (.cells #[.int .i64 0, .int .i64 0, .slice none 0 0] 27)).alloc (.cells #[.int .i64 p, .int .i64 c, .slice none 0 0] 27) := ⟨_, rfl⟩
  have hb2 : Below w.heap.size w W2 := by rw [hW2]; exact ((Below.refl _ _).alloc (Nat.le_refl _) _).alloc (by simp) _
  have hD := deskOkI_any p c (.slice none 0 0) [] W2 (GL.nil 0 _)
  rw [deskB_new] at hD
  unfold dkV at hD
  have h0 : W2.heap[w.heap.size]? = some (.cells #[.int .i64 0, .int .i64 0, .slice none 0 0] 27 (0, 0)) := by rw [hW2, heap_alloc_old _ _ (by simp)]; exact heap_alloc_new w _
  have h1 : W2.heap[w.heap.size + 1]? = some (.cells #[.int .i64 p, .int .i64 c, .slice none 0 0] 27 (0, 0)) := by
    rw [hW2]; have q := @Go.heap_alloc_new (w.alloc (.cells #[.int .i64 0, .int .i64 0, .slice none 0 0] 27)) (.cells #[.int .i64 p, .int .i64 c, .slice none 0 0] 27); rw [World.size_alloc] at q; exact q
  have hz2 : W2.heap.size = w.heap.size + 2 := by rw [hW2]; simp
  rw [hW2] at hD
  have HW := Lib.hid hW2
  have HZ := Lib.hid hz2
  have HB2 := Lib.hid hb2
  have H0 := Lib.hid h0
  have H1 := Lib.hid h1
  clear hW2 hb2 h0 h1 hz2
  cases hc : codesB p c
  · rw [hc] at hD
    have HR := Lib.hid (show newV p c = .tuple #[dkV 0 0 (.slice none 0 0), .bool false] from by unfold newV; rw [hc]; rfl)
    clear hc
    go_enter Try.func16, Try.ntmps16
    go_wp2_with fail
    refine hD.mono ?_
    rintro e w3 ⟨rfl, hb3⟩
    rw [← HW.out] at hb3
    have g0 := (hb3.block w.heap.size (by rw [HZ.out]; omega)).trans H0.out
    have c0 := cell_of_row _ _ 0 _ _ (0, 0) g0
    have c1 := cell_of_row _ _ 1 _ _ (0, 0) g0
    have c2 := cell_of_row _ _ 2 _ _ (0, 0) g0
    have f0 := fun j => frozen_of_row _ _ j _ _ g0
    simp only [List.getElem?_toArray, List.getElem?_cons_zero, List.getElem?_cons_succ] at c0 c1 c2
    have HG0 := Lib.hid g0
    have HB3 := Lib.hid (HB2.out.trans (hb3.mono HB2.out.size))
    clear hD hb3 g0
    go_wp2
    have g1 := heap_setCell_same _ _ 2 _ _ (.slice none 0 0) (heap_setCell_same _ _ 1 _ _ (.int .i64 0) (heap_setCell_same _ _ 0 _ _ (.int .i64 0) HG0.out))
    refine bodyPost_ret (results_cell_tmp rfl _ _ w.heap.size _ _ (0, 0) _ rfl g1 Try.underlying27 rfl (by kernel_rfl)) rfl ?_
    exact ⟨by rw [HR.out]; rfl, ((HB3.out.setCell (p := ⟨w.heap.size, 0, none⟩) (Nat.le_refl _) _).setCell (p := ⟨w.heap.size, 1, none⟩) (Nat.le_refl _) _).setCell (p := ⟨w.heap.size, 2, none⟩) (Nat.le_refl _) _⟩
  · rw [hc] at hD
    have HR := Lib.hid (show newV p c = .tuple #[dkV p c (.slice none 0 0), .bool true] from by unfold newV; rw [hc]; rfl)
    clear hc
    go_enter Try.func16, Try.ntmps16
    go_wp2_with fail
    refine hD.mono ?_
    rintro e w3 ⟨rfl, hb3⟩
    rw [← HW.out] at hb3
    have g0 := (hb3.block w.heap.size (by rw [HZ.out]; omega)).trans H0.out
    have g6 := (hb3.block (w.heap.size + 1) (by rw [HZ.out]; omega)).trans H1.out
    have c0 := cell_of_row _ _ 0 _ _ (0, 0) g0
    have c1 := cell_of_row _ _ 1 _ _ (0, 0) g0
    have c2 := cell_of_row _ _ 2 _ _ (0, 0) g0
    have d0 := cell_of_row _ _ 0 _ _ (0, 0) g6
    have d1 := cell_of_row _ _ 1 _ _ (0, 0) g6
    have d2 := cell_of_row _ _ 2 _ _ (0, 0) g6
    have f0 := fun j => frozen_of_row _ _ j _ _ g0
    simp only [List.getElem?_toArray, List.getElem?_cons_zero, List.getElem?_cons_succ] at c0 c1 c2 d0 d1 d2
    have HG0 := Lib.hid g0
    have HB3 := Lib.hid (HB2.out.trans (hb3.mono HB2.out.size))
    clear hD hb3 g0 g6
    go_wp2
    have g1 := heap_setCell_same _ _ 2 _ _ (.slice none 0 0) (heap_setCell_same _ _ 1 _ _ (.int .i64 c) (heap_setCell_same _ _ 0 _ _ (.int .i64 p) HG0.out))
    refine bodyPost_ret (results_cell_tmp rfl _ _ w.heap.size _ _ (0, 0) _ rfl g1 Try.underlying27 rfl (by kernel_rfl)) rfl ?_
    exact ⟨by rw [HR.out]; rfl, ((HB3.out.setCell (p := ⟨w.heap.size, 0, none⟩) (Nat.le_refl _) _).setCell (p := ⟨w.heap.size, 1, none⟩) (Nat.le_refl _) _).setCell (p := ⟨w.heap.size, 2, none⟩) (Nat.le_refl _) _⟩

set_option maxHeartbeats 1000000 in
theorem deskNewS_any (p c : Int) (w : World) :
    Calls Try.prog 17 #[.int .i64 p, .int .i64 c] w fun e w' => e = .returned (newV p c) ∧ Below w.heap.size w w' := by
  obtain ⟨W2, hW2⟩ : ∃ W2, W2 = (w.alloc (.cells #[.int .i64 0, .int .i64 0, .slice none 0 0] 27)).alloc (.cells #[.int .i64 p, .int .i64 c, .slice none 0 0] 27) := ⟨_, rfl⟩
  have hb2 : Below w.heap.size w W2 := by rw [hW2]; exact ((Below.refl _ _).alloc (Nat.le_refl _) _).alloc (by simp) _
  have hD := deskOkS_any p c (.slice none 0 0) [] W2 (GL.nil 0 _)
  rw [deskB_new] at hD
  unfold dkV at hD
  have h0 : W2.heap[w.heap.size]? = some (.cells #[.int .i64 0, .int .i64 0, .slice none 0 0] 27 (0, 0)) := by rw [hW2, heap_alloc_old _ _ (by simp)]; exact heap_alloc_new w _
  have h1 : W2.heap[w.heap.size + 1]? = some (.cells #[.int .i64 p, .int .i64 c, .slice none 0 0] 27 (0, 0)) := by
    rw [hW2]; have q := @Go.heap_alloc_new (w.alloc (.cells #[.int .i64 0, .int .i64 0, .slice none 0 0] 27)) (.cells #[.int .i64 p, .int .i64 c, .slice none 0 0] 27); rw [World.size_alloc] at q; exact q
  have hz2 : W2.heap.size = w.heap.size + 2 := by rw [hW2]; simp
  rw [hW2] at hD
  have HW := Lib.hid hW2
  have HZ := Lib.hid hz2
  have HB2 := Lib.hid hb2
  have H0 := Lib.hid h0
  have H1 := Lib.hid h1
  clear hW2 hb2 h0 h1 hz2
  cases hc : codesB p c
  · rw [hc] at hD
    have HR := Lib.hid (show newV p c = .tuple #[dkV 0 0 (.slice none 0 0), .bool false] from by unfold newV; rw [hc]; rfl)
    clear hc
    go_enter Try.func17, Try.ntmps17
    go_wp2_with fail
    refine hD.mono ?_
    rintro e w3 ⟨rfl, hb3⟩
    rw [← HW.out] at hb3
    have g0 := (hb3.block w.heap.size (by rw [HZ.out]; omega)).trans H0.out
    have c0 := cell_of_row _ _ 0 _ _ (0, 0) g0
    have c1 := cell_of_row _ _ 1 _ _ (0, 0) g0
    have c2 := cell_of_row _ _ 2 _ _ (0, 0) g0
    have f0 := fun j => frozen_of_row _ _ j _ _ g0
    simp only [List.getElem?_toArray, List.getElem?_cons_zero, List.getElem?_cons_succ] at c0 c1 c2
    have HG0 := Lib.hid g0
    have HB3 := Lib.hid (HB2.out.trans (hb3.mono HB2.out.size))
    clear hD hb3 g0
    go_wp2
    have g1 := heap_setCell_same _ _ 2 _ _ (.slice none 0 0) (heap_setCell_same _ _ 1 _ _ (.int .i64 0) (heap_setCell_same _ _ 0 _ _ (.int .i64 0) HG0.out))
    refine bodyPost_ret (results_cell_tmp rfl _ _ w.heap.size _ _ (0, 0) _ rfl g1 Try.underlying27 rfl (by kernel_rfl)) rfl ?_
    exact ⟨by rw [HR.out]; rfl, ((HB3.out.setCell (p := ⟨w.heap.size, 0, none⟩) (Nat.le_refl _) _).setCell (p := ⟨w.heap.size, 1, none⟩) (Nat.le_refl _) _).setCell (p := ⟨w.heap.size, 2, none⟩) (Nat.le_refl _) _⟩
  · rw [hc] at hD
    have HR := Lib.hid (show newV p c = .tuple #[dkV p c (.slice none 0 0), .bool true] from by unfold newV; rw [hc]; rfl)
    clear hc
    go_enter Try.func17, Try.ntmps17
    go_wp2_with fail
    refine hD.mono ?_
    rintro e w3 ⟨rfl, hb3⟩
    rw [← HW.out] at hb3
    have g0 := (hb3.block w.heap.size (by rw [HZ.out]; omega)).trans H0.out
    have g6 := (hb3.block (w.heap.size + 1) (by rw [HZ.out]; omega)).trans H1.out
    have c0 := cell_of_row _ _ 0 _ _ (0, 0) g0
    have c1 := cell_of_row _ _ 1 _ _ (0, 0) g0
    have c2 := cell_of_row _ _ 2 _ _ (0, 0) g0
    have d0 := cell_of_row _ _ 0 _ _ (0, 0) g6
    have d1 := cell_of_row _ _ 1 _ _ (0, 0) g6
    have d2 := cell_of_row _ _ 2 _ _ (0, 0) g6
    have f0 := fun j => frozen_of_row _ _ j _ _ g0
    simp only [List.getElem?_toArray, List.getElem?_cons_zero, List.getElem?_cons_succ] at c0 c1 c2 d0 d1 d2
    have HG0 := Lib.hid g0
    have HB3 := Lib.hid (HB2.out.trans (hb3.mono HB2.out.size))
    clear hD hb3 g0 g6
    go_wp2
    have g1 := heap_setCell_same _ _ 2 _ _ (.slice none 0 0) (heap_setCell_same _ _ 1 _ _ (.int .i64 c) (heap_setCell_same _ _ 0 _ _ (.int .i64 p) HG0.out))
    refine bodyPost_ret (results_cell_tmp rfl _ _ w.heap.size _ _ (0, 0) _ rfl g1 Try.underlying27 rfl (by kernel_rfl)) rfl ?_
    exact ⟨by rw [HR.out]; rfl, ((HB3.out.setCell (p := ⟨w.heap.size, 0, none⟩) (Nat.le_refl _) _).setCell (p := ⟨w.heap.size, 1, none⟩) (Nat.le_refl _) _).setCell (p := ⟨w.heap.size, 2, none⟩) (Nat.le_refl _) _⟩

end Go.Proofs.Ytkjdlpbfalojdaa
