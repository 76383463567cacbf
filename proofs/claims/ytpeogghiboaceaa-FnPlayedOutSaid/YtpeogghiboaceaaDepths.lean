/- depthsOf and NeededAt of the program. -/
import Derived.Test.YtpeogghiboaceaaNeeded
namespace Go.Proofs.Ytpeogghiboaceaa
open Go.RowKit
set_option linter.unusedVariables false
set_option maxRecDepth 100000

theorem frozen_new (w : World) (c : Array Value) (t : TypeId) (i : Nat) : (w.alloc (.cells c t)).frozen? ⟨w.heap.size, i, none⟩ = false := by
  unfold World.frozen?
  rw [show (w.alloc (.cells c t)).heap[w.heap.size]? = _ from heap_alloc_new w _]
  simp

def needAtR (xss : List (List Int)) (lot : Int) : Int := if (tableB xss && lotOk xss lot) = true then need xss lot.toNat else -1

/-- depthsOf: a new map, if there is a lot. -/
def DepthsOut (v : Value) (xss : List (List Int)) (ok : Bool) (w : World) (e : Ending) (w' : World) : Prop :=
  Below w.heap.size w w' ∧ if ok = true then ∃ bm, e = .returned (.tuple #[.agg #[v, .map (some bm)], .bool true]) ∧ Memo xss bm w' ∧ w.heap.size ≤ bm
    else e = .returned (.tuple #[.agg #[.slice none 0 0, .map none], .bool false])

theorem depthsOf_any {B : Nat} (v : Value) (xss : List (List Int)) (lot : Int) (w : World) (h : Rows2 B w v xss) :
    Calls Try.prog 64 #[v, .int .i64 lot] w (DepthsOut v xss (tableB xss && lotOk xss lot) w) := by
  obtain ⟨b0, hb0⟩ : ∃ b, b = w.alloc (.cells #[.slice none 0 0, .map none] 64) := ⟨_, rfl⟩
  have hbb : Below w.heap.size w b0 := by rw [hb0]; exact (Below.refl _ _).alloc (Nat.le_refl _) _
  have hT := implTableOk_any v xss b0 (h.below hbb)
  have hc0 : b0.cell? ⟨w.heap.size, 0, none⟩ = some (.slice none 0 0) := by rw [hb0]; exact cell_of_row _ _ 0 _ _ (0, 0) (heap_alloc_new w _)
  have hc1 : b0.cell? ⟨w.heap.size, 1, none⟩ = some (.map none) := by rw [hb0]; exact cell_of_row _ _ 1 _ _ (0, 0) (heap_alloc_new w _)
  obtain ⟨ad, cap, rfl, hcap, hmax, V, hcells, hV⟩ := h.opened
  have HBB := Lib.hid hbb
  cases h1 : tableB xss
  · rw [h1] at hT
    clear h1 hcells hV h hbb
    go_enter Try.func64, Try.ntmps64
    go_wp2_with fail
    rw [← hb0]
    have HB0 := Lib.hid hb0
    clear hb0
    have hlt : w.heap.size < b0.heap.size := by rw [HB0.out]; simp
    have hf : b0.frozen? ⟨w.heap.size, 0, none⟩ = false ∧ b0.frozen? ⟨w.heap.size, 1, none⟩ = false := by
      rw [HB0.out]; exact ⟨frozen_new _ _ _ _, frozen_new _ _ _ _⟩
    refine hT.mono ?_
    rintro e w2 ⟨rfl, hb2⟩
    have HB2 := Lib.hid hb2
    have hd0 := (hb2.cell (p := ⟨w.heap.size, 0, none⟩) hlt).trans hc0
    have hd1 := (hb2.cell (p := ⟨w.heap.size, 1, none⟩) hlt).trans hc1
    have hf0 := (hb2.frozen (p := ⟨w.heap.size, 0, none⟩) hlt).trans hf.1
    have hf1 := (hb2.frozen (p := ⟨w.heap.size, 1, none⟩) hlt).trans hf.2
    have hz2 : w.heap.size < w2.heap.size := by have := hb2.size; omega
    clear hb2 hf hc0 hc1 hlt
    go_wp2
    exact bodyPost_ret (v := .tuple #[.agg #[.slice none 0 0, .map none], .bool false]) (by simp [results, Try.results64, hd0, hd1, go_sem]) rfl ⟨(((HBB.out.trans (HB2.out.mono HBB.out.size)).setCell (Nat.le_refl _) _).setCell (Nat.le_refl _) _), rfl⟩
  · have hn := tableB_len h1
    have hW := fun W => isWord_any (xss.length : Int) lot W (by omega) (by omega)
    simp only [Int.toNat_natCast] at hW
    rw [h1] at hT
    have e2 : inB lot 0 ((2 : Int) ^ xss.length - 1) = lotOk xss lot := rfl
    clear h1 hcells hV h hbb hn
    cases h2 : lotOk xss lot
    · rw [h2] at e2
      simp only [e2] at hW
      have hmm := @run_makeMap Try.prog
      clear h2 e2
      go_enter Try.func64, Try.ntmps64
      go_wp2_with fail
      rw [← hb0]
      have HB0 := Lib.hid hb0
      clear hb0
      have hlt : w.heap.size < b0.heap.size := by rw [HB0.out]; simp
      have hf : b0.frozen? ⟨w.heap.size, 0, none⟩ = false ∧ b0.frozen? ⟨w.heap.size, 1, none⟩ = false := by
        rw [HB0.out]; exact ⟨frozen_new _ _ _ _, frozen_new _ _ _ _⟩
      refine hT.mono ?_
      rintro e w2 ⟨rfl, hb2⟩
      have HB2 := Lib.hid hb2
      have hd0 := (hb2.cell (p := ⟨w.heap.size, 0, none⟩) hlt).trans hc0
      have hd1 := (hb2.cell (p := ⟨w.heap.size, 1, none⟩) hlt).trans hc1
      have hf0 := (hb2.frozen (p := ⟨w.heap.size, 0, none⟩) hlt).trans hf.1
      have hf1 := (hb2.frozen (p := ⟨w.heap.size, 1, none⟩) hlt).trans hf.2
      have hz2 : w.heap.size < w2.heap.size := by have := hb2.size; omega
      clear hb2 hf hc0 hc1 hlt
      go_wp2_with fail
      refine (hW _).mono ?_
      rintro e w3 ⟨rfl, rfl⟩
      go_wp2
      exact bodyPost_ret (v := .tuple #[.agg #[.slice none 0 0, .map none], .bool false]) (by simp [results, Try.results64, hd0, hd1, go_sem]) rfl ⟨(((HBB.out.trans (HB2.out.mono HBB.out.size)).setCell (Nat.le_refl _) _).setCell (Nat.le_refl _) _), rfl⟩
    · rw [h2] at e2
      simp only [e2] at hW
      have hmm := @run_makeMap Try.prog
      clear h2 e2
      go_enter Try.func64, Try.ntmps64
      go_wp2_with fail
      rw [← hb0]
      have HB0 := Lib.hid hb0
      clear hb0
      have hlt : w.heap.size < b0.heap.size := by rw [HB0.out]; simp
      have hf : b0.frozen? ⟨w.heap.size, 0, none⟩ = false ∧ b0.frozen? ⟨w.heap.size, 1, none⟩ = false := by
        rw [HB0.out]; exact ⟨frozen_new _ _ _ _, frozen_new _ _ _ _⟩
      refine hT.mono ?_
      rintro e w2 ⟨rfl, hb2⟩
      have HB2 := Lib.hid hb2
      have hd0 := (hb2.cell (p := ⟨w.heap.size, 0, none⟩) hlt).trans hc0
      have hd1 := (hb2.cell (p := ⟨w.heap.size, 1, none⟩) hlt).trans hc1
      have hf0 := (hb2.frozen (p := ⟨w.heap.size, 0, none⟩) hlt).trans hf.1
      have hf1 := (hb2.frozen (p := ⟨w.heap.size, 1, none⟩) hlt).trans hf.2
      have hz2 : w.heap.size < w2.heap.size := by have := hb2.size; omega
      clear hb2 hf hc0 hc1 hlt
      go_wp2_with fail
      refine (hW _).mono ?_
      rintro e w3 ⟨rfl, rfl⟩
      go_wp2
      obtain ⟨W, hW⟩ : ∃ W, W = (w2.setCell ⟨w.heap.size, 0, none⟩ (.slice ad xss.length cap)).setCell ⟨w.heap.size, 1, none⟩ (.map (some w2.heap.size)) := ⟨_, rfl⟩
      rw [← hW]
      have hWb : Below w.heap.size w W := by
        rw [hW]
        exact (((HBB.out.trans (HB2.out.mono HBB.out.size)).setCell (Nat.le_refl _) _).setCell (Nat.le_refl _) _)
      have hWs : W.heap.size = w2.heap.size := by rw [hW]; simp
      have hW0 : W.cell? ⟨w.heap.size, 0, none⟩ = some (.slice ad xss.length cap) := by rw [hW]; simp [hd0, go_sem]
      have hW1 : W.cell? ⟨w.heap.size, 1, none⟩ = some (.map (some w2.heap.size)) := by rw [hW]; simp [hd1, go_sem]
      have hA := Above.of_below (B := 0) ((Below.refl W.heap.size W).alloc (Nat.le_refl _) (.map #[] 0))
      have hA0 := hA.cell (Nat.zero_le _) hW0
      have hA1 := hA.cell (Nat.zero_le _) hW1
      have hM := Memo.made xss W
      rw [hWs] at hM
      refine bodyPost_ret (v := .tuple #[.agg #[.slice ad xss.length cap, .map (some w2.heap.size)], .bool true]) (by simp [results, Try.results64, hA0, hA1, go_sem]) rfl ⟨hWb.alloc hWb.size _, ?_⟩
      show if true = true then _ else _
      rw [if_pos rfl]
      exact ⟨w2.heap.size, rfl, hM, by omega⟩

theorem needAt_no {xss : List (List Int)} {lot : Int} (h : (tableB xss && lotOk xss lot) = false) : needAtR xss lot = -1 := by unfold needAtR; rw [h]; rfl
theorem needAt_yes {xss : List (List Int)} {L : Nat} (h : (tableB xss && lotOk xss (L : Int)) = true) : needAtR xss (L : Int) = need xss L := by unfold needAtR; rw [if_pos h]; simp
theorem lot_parts {xss : List (List Int)} {lot : Int} (h : (tableB xss && lotOk xss lot) = true) : tableB xss = true ∧ ∃ L : Nat, lot = L ∧ L < 2 ^ xss.length := by
  rw [Bool.and_eq_true] at h
  exact ⟨h.1, lotOk_nat h.2⟩

set_option maxHeartbeats 1000000 in
theorem implNeededAt_any {B : Nat} (v : Value) (xss : List (List Int)) (lot : Int) (w : World) (h : Rows2 B w v xss) :
    Calls Try.prog 25 #[v, .int .i64 lot] w fun e w' => e = .returned (.int .i64 (needAtR xss lot)) ∧ Below w.heap.size w w' := by
  have hD := depthsOf_any v xss lot w h
  obtain ⟨ad, cap, rfl, hcap, hmax, V, hcells, hV⟩ := h.opened
  cases hok : (tableB xss && lotOk xss lot)
  · rw [hok] at hD
    have HN := Lib.hid (needAt_no hok)
    clear hok hcells hV h
    go_enter Try.func25, Try.ntmps25
    go_wp2_with fail
    refine hD.mono ?_
    rintro e w2 ⟨hb2, he⟩
    have he2 : e = .returned (.tuple #[.agg #[.slice none 0 0, .map none], .bool false]) := he
    subst he2
    have HB2 := Lib.hid hb2
    clear hb2 he
    go_wp2
    go_ret
    exact ⟨ret_int (by rw [HN.out]), HB2.out.alloc HB2.out.size _⟩
  · rw [hok] at hD
    obtain ⟨hT, L, rfl, hL⟩ := lot_parts hok
    have HN := Lib.hid (needAt_yes hok)
    have HR := Lib.hid h
    clear hok hcells hV h
    go_enter Try.func25, Try.ntmps25
    go_wp2_with fail
    refine hD.mono ?_
    rintro e w2 ⟨hb2, he⟩
    rw [if_pos rfl] at he
    obtain ⟨bm, rfl, hm, hbm⟩ := he
    have hb3 := hb2.alloc hb2.size (.cells #[.slice ad xss.length cap, .map (some bm)] 64)
    have hm3 := hm.below ((Below.refl _ _).alloc (Nat.le_refl _) (.cells #[.slice ad xss.length cap, .map (some bm)] 64))
    have hN := needed_any _ xss hT bm (L + 1) L (by omega) hL _ (HR.out.below hb3) hm3
    have HB3 := Lib.hid hb3
    clear hb3 hm3 hb2 hm hT hL
    go_wp2_with fail
    refine hN.mono ?_
    rintro e w4 ⟨rfl, hm4, hg4⟩
    have HB4 := Lib.hid (HB3.out.grown hg4 HB3.out.size (fun j hj => by cases hj; exact hbm))
    clear hm4 hg4 hN
    go_wp2
    go_ret
    exact ⟨ret_int (by rw [HN.out]), HB4.out⟩

end Go.Proofs.Ytpeogghiboaceaa
