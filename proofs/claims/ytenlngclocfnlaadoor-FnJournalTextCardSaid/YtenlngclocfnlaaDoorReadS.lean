/- The reference's ReadDeed. -/
import Derived.Test.YtenlngclocfnlaaDoorReadI
import Derived.Test.YtenlngclocfnlaaDoorInvE
namespace Go.Proofs.YtenlngclocfnlaaDoor
open Go.RowKit
set_option linter.unusedVariables false
set_option maxRecDepth 100000

theorem MadeD.set {w W : World} {a : Option Addr} {n cap G : Nat} {r q : Int} (hb : Below w.heap.size w W) (hG : w.heap.size ≤ G) (hz : W.heap[G]? = some (.cells #[.bool false, .slice none 0 0, .int .i64 0, .int .i64 0] 26 (0, 0))) :
    MadeD w a n cap r q (.pointer (some ⟨G, 0, none⟩)) ((((W.setCell ⟨G, 0, none⟩ (.bool false)).setCell ⟨G, 1, none⟩ (.slice a n cap)).setCell ⟨G, 2, none⟩ (.int .i64 r)).setCell ⟨G, 3, none⟩ (.int .i64 q)) := by
  have q1 := heap_setCell_same _ _ 0 _ _ (.bool false) hz
  have q2 := heap_setCell_same _ _ 1 _ _ (.slice a n cap) q1
  have q3 := heap_setCell_same _ _ 2 _ _ (.int .i64 r) q2
  have q4 := heap_setCell_same _ _ 3 _ _ (.int .i64 q) q3
  exact ⟨G, rfl, (((hb.setCell (p := ⟨G, 0, none⟩) hG _).setCell (p := ⟨G, 1, none⟩) hG _).setCell (p := ⟨G, 2, none⟩) hG _).setCell (p := ⟨G, 3, none⟩) hG _, hG, q4⟩

set_option maxHeartbeats 8000000 in
theorem readDeedS_any (l : List UInt8) (w : World) (hl : l.length ≤ 4000000) :
    Calls Tryd.prog 8 #[strV l] w (ReadOut l w) := by
  unfold strV
  by_cases hback : l = wordBack
  · subst hback
    have HB := Lib.hid (show Below w.heap.size w (w.alloc (.cells #[.bool true, .slice none 0 0, .int .i64 0, .int .i64 0] 26)) from (Below.refl _ _).alloc (Nat.le_refl _) _)
    have HR := Lib.hid (heap_alloc_new w (.cells #[.bool true, .slice none 0 0, .int .i64 0, .int .i64 0] 26))
    unfold wordBack
    go_enter Tryd.func8, Tryd.ntmps8
    go_wp2
    ((try simp only [Exit.inBlock, Exit.then]); refine bodyPost_ret (results_cell_tmp rfl _ _ w.heap.size _ _ (0, 0) _ rfl HR.out Tryd.underlying26 rfl (by kernel_rfl)) rfl ?_)
    exact ReadOut.of (d := Dd.undo) rd_back.1 rd_back.2 (OwnI.empty _ _) HB.out
  · have hbk : (l == [98, 97, 99, 107]) = false := by simpa [wordBack] using hback
    obtain ⟨w1, hw1⟩ : ∃ z, z = w.alloc (.cells #[.bool false, .slice none 0 0, .int .i64 0, .int .i64 0] 26) := ⟨_, rfl⟩
    have hb1 : Below w.heap.size w w1 := by rw [hw1]; exact (Below.refl _ _).alloc (Nat.le_refl _) _
    have hR1 : w1.heap[w.heap.size]? = some (.cells #[.bool false, .slice none 0 0, .int .i64 0, .int .i64 0] 26 (0, 0)) := by rw [hw1]; exact heap_alloc_new w _
    have hS : Calls Tryd.prog 28 #[.string ⟨l.toArray⟩, .int .u8 32] w1 (WordsOut (words 32 l) w1) := l1Cut_any l 32 w1 hl
    have HBK := Lib.hid hback
    have HB := Lib.hid hb1
    have HR := Lib.hid hR1
    have HWL := Lib.hid (words_le 32 l)
    clear hback hb1 hR1
    go_enter Tryd.func8, Tryd.ntmps8
    go_wp2_with fail
    rw [← hw1]
    clear hw1
    refine hS.mono ?_
    rintro e w2 ⟨g, cap, rfl, hc1, hc2, hcs, hg1, hg2, hb2⟩
    have hb2' := HB.out.trans (hb2.mono HB.out.size)
    have hz2 := (hb2.block _ (Array.getElem?_eq_some_iff.1 HR.out).1).trans HR.out
    obtain ⟨us, hus⟩ : ∃ us, us = words 32 l := ⟨_, rfl⟩
    have HUS := Lib.hid hus.symm
    rw [← hus] at hc1 hcs HWL ⊢
    clear hS hus hbk hg1 hb2 HB HR
    by_cases h4 : us.length = 4
    · obtain ⟨u0, u1, u2, u3, rfl⟩ : ∃ a b c d, us = [a, b, c, d] := by
        match us, h4 with
        | [a, b, c, d], _ => exact ⟨a, b, c, d, rfl⟩
      have c1 := hcs 1 (by simp)
      have c2 := hcs 2 (by simp)
      have c3 := hcs 3 (by simp)
      simp only [List.getElem_cons_zero, List.getElem_cons_succ, strV] at c1 c2 c3
      simp only [List.length_cons, List.length_nil, Nat.zero_add, Nat.reduceAdd] at hc1 ⊢
      have hl1 : u1.length ≤ 4000000 := Nat.le_trans (HWL.out u1 (by simp)) hl
      have hl2 : u2.length ≤ 4000000 := Nat.le_trans (HWL.out u2 (by simp)) hl
      have hl3 : u3.length ≤ 4000000 := Nat.le_trans (HWL.out u3 (by simp)) hl
      have hO1 := l15Row_any u1 w2 hl1
      clear hcs h4
      go_wp2_with fail
      refine hO1.mono ?_
      rintro e w3 ⟨a1, k1, rfl, ho1, hb3⟩
      have HS2 := Lib.hid hb2'.size
      have HB3 := Lib.hid (hb2'.trans (hb3.mono hb2'.size))
      have HZ3 := Lib.hid ((hb3.block _ (Array.getElem?_eq_some_iff.1 hz2).1).trans hz2)
      have hg3 := (Nat.lt_of_lt_of_le hg2 hb3.size)
      have q2 := (hb3.cell hg2).trans c2
      have q3 := (hb3.cell hg2).trans c3
      have HX1 := Lib.hid (ho1.mono (B' := w.heap.size) HS2.out)
      have HROW := Lib.hid (fun h => read_row (l := l) HBK.out (u0 := u0) HUS.out h)
      have HI := Lib.hid (read_spec (l := l) HBK.out HUS.out)
      have HN2 := Lib.hid (fun W : World => l1Digits_any u2 W hl2)
      have HN3 := Lib.hid (fun W : World => l1Digits_any u3 W hl3)
      have HIN := Lib.hid (rowX_in u1)
      obtain ⟨xs, hxs⟩ : ∃ xs, xs = rowX u1 := ⟨_, rfl⟩
      obtain ⟨r, hr⟩ : ∃ r, r = numL u2 := ⟨_, rfl⟩
      obtain ⟨n, hn⟩ : ∃ n, n = numL u3 := ⟨_, rfl⟩
      obtain ⟨o, ho⟩ : ∃ o, o = rowB u1 := ⟨_, rfl⟩
      rw [← hxs] at HX1 HI HIN ⊢
      rw [← hr] at HN2 HI
      rw [← hn] at HN3 HI
      rw [← ho] at HROW ⊢
      clear hO1 ho1 hb3 c1 c2 c3 hb2' hz2 hg2 hl1 hl2 hl3 hxs hr hn ho
      go_upto_region 7 with fail
      go_cut [7] (fun s wx => MadeD w3 a1 xs.length k1 r n s wx)
      case first =>
        unfold strV at HN2 HN3
        refine wp_region_invE (by kernel_rfl) (fun k => (#[24, 25, 26, 27, 28, 29, 30, 31, 32, 33, 34, 7] : Array Nat).getD k 0) 12 45
          (fun k v W => match k with
            | 0 => v = Value.slice a1 xs.length k1
            | 1 => v = Value.slice (some ⟨g, 0, none⟩) 4 cap
            | 2 => v = Value.pointer (some ⟨g, 2, none⟩)
            | 3 => v = Value.string ⟨u2.toArray⟩
            | 4 => v = Value.int .i64 r
            | 5 => v = Value.slice (some ⟨g, 0, none⟩) 4 cap
            | 6 => v = Value.pointer (some ⟨g, 3, none⟩)
            | 7 => v = Value.string ⟨u3.toArray⟩
            | 8 => v = Value.int .i64 n
            | 9 => v = Value.agg #[Value.slice a1 xs.length k1, .int .i64 r, .int .i64 n]
            | 10 => v = Value.agg #[.bool false, Value.slice a1 xs.length k1, .int .i64 r, .int .i64 n]
            | 11 => ∃ G, v = .pointer (some ⟨G, 0, none⟩) ∧ w3.heap.size ≤ G ∧ W.heap[G]? = some (.cells #[.bool false, .slice none 0 0, .int .i64 0, .int .i64 0] 26 (0, 0))
            | _ => False) rfl (by kernel_rfl) ?mono ?step ?fin
        case mono =>
          intro k v W W' h hb
          match k, h with
          | 0, h => exact h
          | 1, h => exact h
          | 2, h => exact h
          | 3, h => exact h
          | 4, h => exact h
          | 5, h => exact h
          | 6, h => exact h
          | 7, h => exact h
          | 8, h => exact h
          | 9, h => exact h
          | 10, h => exact h
          | 11, h => (obtain ⟨G, h1, h2, h3⟩ := h; exact ⟨G, h1, h2, (hb.block _ (Array.getElem?_eq_some_iff.1 h3).1).trans h3⟩)
        case step =>
          intro i o hi ho A W hW hA hD K hK
          match i, ho with
          | 0, ho =>
            simp only [List.getElem?_cons_zero, Option.some.injEq] at ho
            subst ho
            have e5 : A.tmps.getD 5 undef = Value.slice a1 xs.length k1 := (hA 5 (by kernel_rfl)).trans rfl
            have e5' := e5
            rw [Array.getD_eq_getD_getElem?] at e5'
            have e4 : A.tmps.getD 4 undef = Value.slice (some ⟨g, 0, none⟩) 4 cap := (hA 4 (by kernel_rfl)).trans rfl
            have e4' := e4
            rw [Array.getD_eq_getD_getElem?] at e4'
            have HK := Lib.hid (show ∀ v W', Below W.heap.size W W' → (v = Value.slice a1 xs.length k1) → K (A.put (some 24) v) W' from hK.out)
            clear hA hD hK
            go_simp
            exact HK.out _ _ (Below.refl _ _) rfl
          | 1, ho =>
            simp only [List.getElem?_cons_succ, List.getElem?_cons_zero, Option.some.injEq] at ho
            subst ho
            have e5 : A.tmps.getD 5 undef = Value.slice a1 xs.length k1 := (hA 5 (by kernel_rfl)).trans rfl
            have e5' := e5
            rw [Array.getD_eq_getD_getElem?] at e5'
            have e4 : A.tmps.getD 4 undef = Value.slice (some ⟨g, 0, none⟩) 4 cap := (hA 4 (by kernel_rfl)).trans rfl
            have e4' := e4
            rw [Array.getD_eq_getD_getElem?] at e4'
            have HK := Lib.hid (show ∀ v W', Below W.heap.size W W' → (v = Value.slice (some ⟨g, 0, none⟩) 4 cap) → K (A.put (some 25) v) W' from hK.out)
            clear hA hD hK
            go_simp
            exact HK.out _ _ (Below.refl _ _) rfl
          | 2, ho =>
            simp only [List.getElem?_cons_succ, List.getElem?_cons_zero, Option.some.injEq] at ho
            subst ho
            have e5 : A.tmps.getD 5 undef = Value.slice a1 xs.length k1 := (hA 5 (by kernel_rfl)).trans rfl
            have e5' := e5
            rw [Array.getD_eq_getD_getElem?] at e5'
            have e4 : A.tmps.getD 4 undef = Value.slice (some ⟨g, 0, none⟩) 4 cap := (hA 4 (by kernel_rfl)).trans rfl
            have e4' := e4
            rw [Array.getD_eq_getD_getElem?] at e4'
            have d1 : A.tmps.getD 25 undef = Value.slice (some ⟨g, 0, none⟩) 4 cap := hD 1 (by kernel_rfl)
            have d1' := d1
            rw [Array.getD_eq_getD_getElem?] at d1'
            have HK := Lib.hid (show ∀ v W', Below W.heap.size W W' → (v = Value.pointer (some ⟨g, 2, none⟩)) → K (A.put (some 26) v) W' from hK.out)
            clear hA hD hK
            go_simp
            exact HK.out _ _ (Below.refl _ _) rfl
          | 3, ho =>
            simp only [List.getElem?_cons_succ, List.getElem?_cons_zero, Option.some.injEq] at ho
            subst ho
            have e5 : A.tmps.getD 5 undef = Value.slice a1 xs.length k1 := (hA 5 (by kernel_rfl)).trans rfl
            have e5' := e5
            rw [Array.getD_eq_getD_getElem?] at e5'
            have e4 : A.tmps.getD 4 undef = Value.slice (some ⟨g, 0, none⟩) 4 cap := (hA 4 (by kernel_rfl)).trans rfl
            have e4' := e4
            rw [Array.getD_eq_getD_getElem?] at e4'
            have d2 : A.tmps.getD 26 undef = Value.pointer (some ⟨g, 2, none⟩) := hD 2 (by kernel_rfl)
            have d2' := d2
            rw [Array.getD_eq_getD_getElem?] at d2'
            have HK := Lib.hid (show ∀ v W', Below W.heap.size W W' → (v = Value.string ⟨u2.toArray⟩) → K (A.put (some 27) v) W' from hK.out)
            have hcc := (hW.cell hg3).trans q2
            clear hA hD hK
            go_simp
            exact HK.out _ _ (Below.refl _ _) rfl
          | 4, ho =>
            simp only [List.getElem?_cons_succ, List.getElem?_cons_zero, Option.some.injEq] at ho
            subst ho
            have e5 : A.tmps.getD 5 undef = Value.slice a1 xs.length k1 := (hA 5 (by kernel_rfl)).trans rfl
            have e5' := e5
            rw [Array.getD_eq_getD_getElem?] at e5'
            have e4 : A.tmps.getD 4 undef = Value.slice (some ⟨g, 0, none⟩) 4 cap := (hA 4 (by kernel_rfl)).trans rfl
            have e4' := e4
            rw [Array.getD_eq_getD_getElem?] at e4'
            have d3 : A.tmps.getD 27 undef = Value.string ⟨u2.toArray⟩ := hD 3 (by kernel_rfl)
            have d3' := d3
            rw [Array.getD_eq_getD_getElem?] at d3'
            have HK := Lib.hid (show ∀ v W', Below W.heap.size W W' → (v = Value.int .i64 r) → K (A.put (some 28) v) W' from hK.out)
            clear hA hD hK
            go_simp
            refine (HN2.out W).mono ?_
            rintro e W' ⟨rfl, rfl⟩
            exact HK.out _ _ (Below.refl _ _) rfl
          | 5, ho =>
            simp only [List.getElem?_cons_succ, List.getElem?_cons_zero, Option.some.injEq] at ho
            subst ho
            have e5 : A.tmps.getD 5 undef = Value.slice a1 xs.length k1 := (hA 5 (by kernel_rfl)).trans rfl
            have e5' := e5
            rw [Array.getD_eq_getD_getElem?] at e5'
            have e4 : A.tmps.getD 4 undef = Value.slice (some ⟨g, 0, none⟩) 4 cap := (hA 4 (by kernel_rfl)).trans rfl
            have e4' := e4
            rw [Array.getD_eq_getD_getElem?] at e4'
            have HK := Lib.hid (show ∀ v W', Below W.heap.size W W' → (v = Value.slice (some ⟨g, 0, none⟩) 4 cap) → K (A.put (some 29) v) W' from hK.out)
            clear hA hD hK
            go_simp
            exact HK.out _ _ (Below.refl _ _) rfl
          | 6, ho =>
            simp only [List.getElem?_cons_succ, List.getElem?_cons_zero, Option.some.injEq] at ho
            subst ho
            have e5 : A.tmps.getD 5 undef = Value.slice a1 xs.length k1 := (hA 5 (by kernel_rfl)).trans rfl
            have e5' := e5
            rw [Array.getD_eq_getD_getElem?] at e5'
            have e4 : A.tmps.getD 4 undef = Value.slice (some ⟨g, 0, none⟩) 4 cap := (hA 4 (by kernel_rfl)).trans rfl
            have e4' := e4
            rw [Array.getD_eq_getD_getElem?] at e4'
            have d5 : A.tmps.getD 29 undef = Value.slice (some ⟨g, 0, none⟩) 4 cap := hD 5 (by kernel_rfl)
            have d5' := d5
            rw [Array.getD_eq_getD_getElem?] at d5'
            have HK := Lib.hid (show ∀ v W', Below W.heap.size W W' → (v = Value.pointer (some ⟨g, 3, none⟩)) → K (A.put (some 30) v) W' from hK.out)
            clear hA hD hK
            go_simp
            exact HK.out _ _ (Below.refl _ _) rfl
          | 7, ho =>
            simp only [List.getElem?_cons_succ, List.getElem?_cons_zero, Option.some.injEq] at ho
            subst ho
            have e5 : A.tmps.getD 5 undef = Value.slice a1 xs.length k1 := (hA 5 (by kernel_rfl)).trans rfl
            have e5' := e5
            rw [Array.getD_eq_getD_getElem?] at e5'
            have e4 : A.tmps.getD 4 undef = Value.slice (some ⟨g, 0, none⟩) 4 cap := (hA 4 (by kernel_rfl)).trans rfl
            have e4' := e4
            rw [Array.getD_eq_getD_getElem?] at e4'
            have d6 : A.tmps.getD 30 undef = Value.pointer (some ⟨g, 3, none⟩) := hD 6 (by kernel_rfl)
            have d6' := d6
            rw [Array.getD_eq_getD_getElem?] at d6'
            have HK := Lib.hid (show ∀ v W', Below W.heap.size W W' → (v = Value.string ⟨u3.toArray⟩) → K (A.put (some 31) v) W' from hK.out)
            have hcc := (hW.cell hg3).trans q3
            clear hA hD hK
            go_simp
            exact HK.out _ _ (Below.refl _ _) rfl
          | 8, ho =>
            simp only [List.getElem?_cons_succ, List.getElem?_cons_zero, Option.some.injEq] at ho
            subst ho
            have e5 : A.tmps.getD 5 undef = Value.slice a1 xs.length k1 := (hA 5 (by kernel_rfl)).trans rfl
            have e5' := e5
            rw [Array.getD_eq_getD_getElem?] at e5'
            have e4 : A.tmps.getD 4 undef = Value.slice (some ⟨g, 0, none⟩) 4 cap := (hA 4 (by kernel_rfl)).trans rfl
            have e4' := e4
            rw [Array.getD_eq_getD_getElem?] at e4'
            have d7 : A.tmps.getD 31 undef = Value.string ⟨u3.toArray⟩ := hD 7 (by kernel_rfl)
            have d7' := d7
            rw [Array.getD_eq_getD_getElem?] at d7'
            have HK := Lib.hid (show ∀ v W', Below W.heap.size W W' → (v = Value.int .i64 n) → K (A.put (some 32) v) W' from hK.out)
            clear hA hD hK
            go_simp
            refine (HN3.out W).mono ?_
            rintro e W' ⟨rfl, rfl⟩
            exact HK.out _ _ (Below.refl _ _) rfl
          | 9, ho =>
            simp only [List.getElem?_cons_succ, List.getElem?_cons_zero, Option.some.injEq] at ho
            subst ho
            have e5 : A.tmps.getD 5 undef = Value.slice a1 xs.length k1 := (hA 5 (by kernel_rfl)).trans rfl
            have e5' := e5
            rw [Array.getD_eq_getD_getElem?] at e5'
            have e4 : A.tmps.getD 4 undef = Value.slice (some ⟨g, 0, none⟩) 4 cap := (hA 4 (by kernel_rfl)).trans rfl
            have e4' := e4
            rw [Array.getD_eq_getD_getElem?] at e4'
            have d0 : A.tmps.getD 24 undef = Value.slice a1 xs.length k1 := hD 0 (by kernel_rfl)
            have d0' := d0
            rw [Array.getD_eq_getD_getElem?] at d0'
            have d4 : A.tmps.getD 28 undef = Value.int .i64 r := hD 4 (by kernel_rfl)
            have d4' := d4
            rw [Array.getD_eq_getD_getElem?] at d4'
            have d8 : A.tmps.getD 32 undef = Value.int .i64 n := hD 8 (by kernel_rfl)
            have d8' := d8
            rw [Array.getD_eq_getD_getElem?] at d8'
            have HK := Lib.hid (show ∀ v W', Below W.heap.size W W' → (v = Value.agg #[Value.slice a1 xs.length k1, .int .i64 r, .int .i64 n]) → K (A.put (some 33) v) W' from hK.out)
            clear hA hD hK
            go_simp
            exact HK.out _ _ (Below.refl _ _) rfl
          | 10, ho =>
            simp only [List.getElem?_cons_succ, List.getElem?_cons_zero, Option.some.injEq] at ho
            subst ho
            have e5 : A.tmps.getD 5 undef = Value.slice a1 xs.length k1 := (hA 5 (by kernel_rfl)).trans rfl
            have e5' := e5
            rw [Array.getD_eq_getD_getElem?] at e5'
            have e4 : A.tmps.getD 4 undef = Value.slice (some ⟨g, 0, none⟩) 4 cap := (hA 4 (by kernel_rfl)).trans rfl
            have e4' := e4
            rw [Array.getD_eq_getD_getElem?] at e4'
            have d9 : A.tmps.getD 33 undef = Value.agg #[Value.slice a1 xs.length k1, .int .i64 r, .int .i64 n] := hD 9 (by kernel_rfl)
            have d9' := d9
            rw [Array.getD_eq_getD_getElem?] at d9'
            have HK := Lib.hid (show ∀ v W', Below W.heap.size W W' → (v = Value.agg #[.bool false, Value.slice a1 xs.length k1, .int .i64 r, .int .i64 n]) → K (A.put (some 34) v) W' from hK.out)
            clear hA hD hK
            go_simp
            exact HK.out _ _ (Below.refl _ _) rfl
          | 11, ho =>
            simp only [List.getElem?_cons_succ, List.getElem?_cons_zero, Option.some.injEq] at ho
            subst ho
            have e5 : A.tmps.getD 5 undef = Value.slice a1 xs.length k1 := (hA 5 (by kernel_rfl)).trans rfl
            have e5' := e5
            rw [Array.getD_eq_getD_getElem?] at e5'
            have e4 : A.tmps.getD 4 undef = Value.slice (some ⟨g, 0, none⟩) 4 cap := (hA 4 (by kernel_rfl)).trans rfl
            have e4' := e4
            rw [Array.getD_eq_getD_getElem?] at e4'
            have HK := Lib.hid (show ∀ v W', Below W.heap.size W W' → (∃ G, v = .pointer (some ⟨G, 0, none⟩) ∧ w3.heap.size ≤ G ∧ W'.heap[G]? = some (.cells #[.bool false, .slice none 0 0, .int .i64 0, .int .i64 0] 26 (0, 0))) → K (A.put (some 7) v) W' from hK.out)
            have hsz := hW.size
            clear hA hD hK
            go_simp
            exact HK.out _ _ ((Below.refl _ _).alloc (Nat.le_refl _) _) ⟨_, rfl, hsz, heap_alloc_new W _⟩
          | n + 12, ho =>
            exact absurd hi (by omega)
        case fin =>
          intro o ho vs W hW h A hAe hV K hK
          simp only [List.getElem?_cons_succ, List.getElem?_cons_zero, Option.some.injEq] at ho
          subst ho
          have h10 : vs 10 = Value.agg #[.bool false, Value.slice a1 xs.length k1, .int .i64 r, .int .i64 n] := h 10 (by decide)
          obtain ⟨G, h11, hG, hrow⟩ := (show ∃ G, vs 11 = .pointer (some ⟨G, 0, none⟩) ∧ w3.heap.size ≤ G ∧ W.heap[G]? = some (.cells #[.bool false, .slice none 0 0, .int .i64 0, .int .i64 0] 26 (0, 0)) from h 11 (by decide))
          have d10 : A.tmps.getD 34 undef = Value.agg #[.bool false, Value.slice a1 xs.length k1, .int .i64 r, .int .i64 n] := (hV 10 (by decide)).trans h10
          have d10' := d10
          rw [Array.getD_eq_getD_getElem?] at d10'
          have d11 : A.tmps.getD 7 undef = .pointer (some ⟨G, 0, none⟩) := (hV 11 (by decide)).trans h11
          have d11' := d11
          rw [Array.getD_eq_getD_getElem?] at d11'
          obtain ⟨z0, z1, z2, z3, zf⟩ := box_zero hrow
          have HM := Lib.hid (MadeD.set (a := a1) (n := xs.length) (cap := k1) (r := r) (q := n) hW hG hrow)
          have HK := hK
          have HAE := Lib.hid hAe
          have H11 := Lib.hid h11
          clear h h10 h11 hrow hK hW hG hV hAe
          go_simp
          refine HK.out _ _ ?_
          rw [HAE.out, invA_lit [none, none, none, none, none, none, none, some 11, none, none, none, none, none, none, none, none, none, none, none, none, none, none, none, none, some 0, some 1, some 2, some 3, some 4, some 5, some 6, some 7, some 8, some 9, some 10, none, none, none, none, none, none, none, none, none, none] (by kernel_rfl) rfl]
          simp only [List.zipWith_cons_cons, List.zipWith_nil_left]
          rw [H11.out]
          go_wp2_with fail
          go_meet
          exact HM.out
      case rest =>
        obtain ⟨G, rfl, hb6, hG, hat⟩ := hcut
        obtain ⟨w6, rfl⟩ : ∃ z, z = wc := ⟨_, rfl⟩
        have HB6 := Lib.hid (HB3.out.trans (hb6.mono HB3.out.size))
        have HZ6 := Lib.hid ((hb6.block _ (Array.getElem?_eq_some_iff.1 HZ3.out).1).trans HZ3.out)
        have HX6 := Lib.hid (HX1.out.below hb6)
        have HAT := Lib.hid hat
        cases o
        · have HF := Lib.hid (box_none (HROW.out (.inl rfl)) HZ6.out HB6.out)
          obtain ⟨z0, z1, z2, z3, zf⟩ := box_zero HZ6.out
          clear hb6 hat q2 q3
          go_wp2
          ((try simp only [Exit.inBlock, Exit.then]); refine bodyPost_ret (results_cell_tmp rfl _ _ w.heap.size _ _ (0, 0) _ rfl HF.out.2 Tryd.underlying26 rfl (by kernel_rfl)) rfl ?_)
          exact HF.out.1
        · have hT := deedTextS_any false _ xs r n w6 (HX6.out.toInts HIN.out)
          obtain ⟨y0, y1, y2, y3⟩ := deed_cells hat
          unfold TextOut strV at hT
          obtain ⟨T, hTT⟩ : ∃ T, T = textD ⟨false, xs, r, n⟩ := ⟨_, rfl⟩
          rw [← hTT] at HI hT
          clear hb6 hat q2 q3 hTT HX1 HZ3 HB3 HIN HROW HN2 HN3
          unfold dV at hT
          go_wp2_with fail
          refine hT.mono ?_
          rintro e w7 ⟨rfl, hb7⟩
          have HB7 := Lib.hid (HB6.out.trans (hb7.mono HB6.out.size))
          have HZ7 := Lib.hid ((hb7.block _ (Array.getElem?_eq_some_iff.1 HZ6.out).1).trans HZ6.out)
          have HX7 := Lib.hid (HX6.out.below hb7)
          obtain ⟨y0, y1, y2, y3⟩ := deed_cells ((hb7.block _ (Array.getElem?_eq_some_iff.1 HAT.out).1).trans HAT.out)
          obtain ⟨z0, z1, z2, z3, zf⟩ := box_zero HZ7.out
          clear hT hb7
          by_cases hTl : T = l
          · have hr := HI.out
            rw [if_pos hTl] at hr
            have HF := Lib.hid (box_out (d := ⟨false, xs, r, n⟩) (rd_some hr).1 (rd_some hr).2 HZ7.out HB7.out HX7.out)
            have hq : (T == l) = true := by simp [hTl]
            clear hTl hr
            go_wp2
            ((try simp only [Exit.inBlock, Exit.then]); refine bodyPost_ret (results_cell_tmp rfl _ _ w.heap.size _ _ (0, 0) _ rfl HF.out.2 Tryd.underlying26 rfl (by kernel_rfl)) rfl ?_)
            exact HF.out.1
          · have hr := HI.out
            rw [if_neg hTl] at hr
            have HF := Lib.hid (box_none hr HZ7.out HB7.out)
            have hq : (T == l) = false := by simpa using hTl
            clear hTl hr
            go_wp2
            ((try simp only [Exit.inBlock, Exit.then]); refine bodyPost_ret (results_cell_tmp rfl _ _ w.heap.size _ _ (0, 0) _ rfl HF.out.2 Tryd.underlying26 rfl (by kernel_rfl)) rfl ?_)
            exact HF.out.1
    · have h4' : ¬ ((us.length : Int) = 4) := by omega
      have HF := Lib.hid (box_none (l := l) (read_len HBK.out (by rw [HUS.out]; exact h4)) hz2 hb2')
      obtain ⟨z0, z1, z2, z3, zf⟩ := box_zero hz2
      clear hz2 hb2' h4 hcs
      go_wp2
      ((try simp only [Exit.inBlock, Exit.then]); refine bodyPost_ret (results_cell_tmp rfl _ _ w.heap.size _ _ (0, 0) _ rfl HF.out.2 Tryd.underlying26 rfl (by kernel_rfl)) rfl ?_)
      exact HF.out.1

end Go.Proofs.YtenlngclocfnlaaDoor
