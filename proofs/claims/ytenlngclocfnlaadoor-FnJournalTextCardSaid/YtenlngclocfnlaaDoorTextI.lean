/- The program's DeedText. Printed by wip/tools/gen_texti.py. -/
import Derived.Test.YtenlngclocfnlaaDoorJourS
import Derived.Test.YtenlngclocfnlaaDoorBunD
import Derived.Test.YtenlngclocfnlaaDoorInv
namespace Go.Proofs.YtenlngclocfnlaaDoor
open Go.RowKit
set_option linter.unusedVariables false
set_option maxRecDepth 100000

theorem digits1 (N : Nat) (r : Int) (W : World) (h : W.cell? ⟨N, 0, none⟩ = some (.int .i64 r)) (h0 : inB r 0 9 = true) :
    Calls Tryd.prog 46 #[.slice (some ⟨N, 0, none⟩) 1 1] W fun e w' => e = .returned (.string ⟨[dg r].toArray⟩) ∧ Below W.heap.size W w' := by
  obtain ⟨h1, h2⟩ := inB_iff.1 h0
  have hI : Ints 0 W (.slice (some ⟨N, 0, none⟩) 1 1) [r] := by
    refine ⟨⟨some ⟨N, 0, none⟩, 1, rfl, Nat.le_refl _, by omega, fun _ => ⟨N, 0, rfl, Nat.zero_le _, fun i hi => ?_⟩⟩, fun x hx => ?_⟩
    · have : i = 0 := by simpa [ints] using hi
      subst this
      simpa [ints] using h
    · rw [List.mem_singleton.1 hx]; unfold In64; omega
  exact (digits_any _ [r] W hI (by simp [allD, h0]) (by simp)).mono fun e w' q => q
theorem new_cell (w : World) (v : Value) (t : TypeId) : (w.alloc (.cells #[v] t)).cell? ⟨w.heap.size, 0, none⟩ = some v := by
  simp
theorem new_cell2 (w : World) (o1 : Obj) (v : Value) (t : TypeId) : ((w.alloc o1).alloc (.cells #[v] t)).cell? ⟨w.heap.size + 1, 0, none⟩ = some v := by
  have := new_cell (w.alloc o1) v t
  rwa [World.size_alloc] at this
theorem old_cell {w : World} {p : Addr} {v : Value} (h : w.cell? p = some v) (hp : p.block < w.heap.size) (o : Obj) : (w.alloc o).cell? p = some v :=
  (((Below.refl w.heap.size w).alloc (Nat.le_refl _) o).cell hp).trans h

set_option maxHeartbeats 8000000 in
theorem deedTextI_any {B : Nat} (b : Bool) (u : Value) (xs : List Int) (r n : Int) (w : World) (h : Ints B w u xs) :
    Calls Tryd.prog 19 #[dV b u r n] w (TextOut (textD ⟨b, xs, r, n⟩) w) := by
  have HX := Lib.hid h
  obtain ⟨a, cap, rfl, hcap, hmax, _⟩ := h.opened
  clear h
  obtain ⟨w1, hw1⟩ : ∃ w1, w1 = (w.alloc (.cells #[.bool b, .slice a xs.length cap, .int .i64 r, .int .i64 n] 26)).alloc (.cells #[.slice a xs.length cap, .int .i64 r, .int .i64 n] 24) := ⟨_, rfl⟩
  have hb1 : Below w.heap.size w w1 := by rw [hw1]; exact ((Below.refl _ _).alloc (Nat.le_refl _) _).alloc (by simp) _
  have hz0 : w1.heap[w.heap.size]? = some (.cells #[.bool b, .slice a xs.length cap, .int .i64 r, .int .i64 n] 26 (0, 0)) := by rw [hw1, heap_alloc_old _ _ (by simp)]; exact heap_alloc_new w _
  have hz1 : w1.heap[w.heap.size + 1]? = some (.cells #[.slice a xs.length cap, .int .i64 r, .int .i64 n] 24 (0, 0)) := by
    rw [hw1]; have q := heap_alloc_new (w.alloc (.cells #[.bool b, .slice a xs.length cap, .int .i64 r, .int .i64 n] 26)) (.cells #[.slice a xs.length cap, .int .i64 r, .int .i64 n] 24); rw [World.size_alloc] at q; exact q
  have hs1 : w1.heap.size = w.heap.size + 2 := by rw [hw1]; simp
  have HB1 := Lib.hid hb1
  have HZ1 := Lib.hid hz1
  have c0 := cell_of_row _ _ 0 _ _ (0, 0) hz0
  have g0 := cell_of_row _ _ 0 _ _ (0, 0) hz1
  have g1 := cell_of_row _ _ 1 _ _ (0, 0) hz1
  have g2 := cell_of_row _ _ 2 _ _ (0, 0) hz1
  simp only [List.getElem?_toArray, List.getElem?_cons_zero, List.getElem?_cons_succ] at c0 g0 g1 g2
  clear hb1 hz0 hz1
  unfold dV
  have HA := Lib.hid (fun W q => allIn_any (.slice a xs.length cap) xs 0 9 W (show Ints B W _ xs from HX.out.below q))
  have HNO := Lib.hid (show ∀ z : Bool, allB xs 0 9 = z → (z = false → textOk xs r n = false) from fun z q e => by
    subst e
    unfold textOk
    unfold allB at q
    rw [q]
    simp)
  cases b
  · obtain ⟨t1, ht1⟩ : ∃ t, t = inB (xs.length : Int) 1 3 := ⟨_, rfl⟩
    obtain ⟨t2, ht2⟩ : ∃ t, t = allB xs 0 9 := ⟨_, rfl⟩
    obtain ⟨t3, ht3⟩ : ∃ t, t = inB r 0 9 := ⟨_, rfl⟩
    obtain ⟨t4, ht4⟩ : ∃ t, t = inB n 0 9 := ⟨_, rfl⟩
    have HOK := Lib.hid (show textOk xs r n = (t1 && t2 && t3 && t4) by rw [ht1, ht2, ht3, ht4]; rfl)
    have HT1 := Lib.hid ht1
    have HT2 := Lib.hid ht2
    have HT3 := Lib.hid ht3
    have HT4 := Lib.hid ht4
    have hI1 := in_any (xs.length : Int) 1 3 w1
    rw [← ht1] at hI1
    clear ht1 ht2 ht3 ht4 HNO
    go_enter Tryd.func19, Tryd.ntmps19
    go_wp2_with fail
    rw [← hw1]
    clear hw1
    refine hI1.mono ?_
    rintro e w2 ⟨rfl, rfl⟩
    clear hI1
    cases t1
    · go_wp2
      go_ret
      exact ⟨by rw [textD_bad (by rw [HOK.out]; simp)]; rfl, HB1.out⟩
    · have hA := HA.out w1 HB1.out
      rw [← HT2.out] at hA
      go_wp2_with fail
      refine hA.mono ?_
      rintro e w3 ⟨rfl, hb3⟩
      have HB3 := Lib.hid (HB1.out.trans (hb3.mono HB1.out.size))
      have hz3 := (hb3.block _ (Array.getElem?_eq_some_iff.1 HZ1.out).1).trans HZ1.out
      have g0 := cell_of_row _ _ 0 _ _ (0, 0) hz3
      have g1 := cell_of_row _ _ 1 _ _ (0, 0) hz3
      have g2 := cell_of_row _ _ 2 _ _ (0, 0) hz3
      simp only [List.getElem?_toArray, List.getElem?_cons_zero, List.getElem?_cons_succ] at g0 g1 g2
      have hs3 := hb3.size
      clear hA hb3 hz3 c0
      cases t2
      · go_wp2
        go_ret
        exact ⟨by rw [textD_bad (by rw [HOK.out]; simp)]; rfl, HB3.out⟩
      · have hI3 := in_any r 0 9 w3
        rw [← HT3.out] at hI3
        go_wp2_with fail
        refine hI3.mono ?_
        rintro e w4 ⟨rfl, rfl⟩
        clear hI3
        cases t3
        · go_wp2
          go_ret
          exact ⟨by rw [textD_bad (by rw [HOK.out]; simp)]; rfl, HB3.out⟩
        · have hI4 := in_any n 0 9 w3
          rw [← HT4.out] at hI4
          go_wp2_with fail
          refine hI4.mono ?_
          rintro e w4 ⟨rfl, rfl⟩
          clear hI4
          cases t4
          · go_wp2
            go_ret
            exact ⟨by rw [textD_bad (by rw [HOK.out]; simp)]; rfl, HB3.out⟩
          · have HR := Lib.hid HT3.out.symm
            have HN := Lib.hid HT4.out.symm
            have HALL := Lib.hid (show allD xs = true from HT2.out.symm)
            have hlen := inB_iff.1 HT1.out.symm
            have HD0 := Lib.hid (show ∀ W, Below w3.heap.size w3 W → Calls Tryd.prog 46 #[.slice a xs.length cap] W (fun e w' => e = .returned (.string ⟨(dgs xs).toArray⟩) ∧ Below W.heap.size W w') from fun W q => digits_any _ xs W (HX.out.below (HB3.out.trans (q.mono HB3.out.size))) HALL.out (by omega))
            have hL3 : (dgs xs).length ≤ 3 := by unfold dgs; rw [List.length_map]; omega
            obtain ⟨L, hL⟩ : ∃ L, L = dgs xs := ⟨_, rfl⟩
            rw [← hL] at HD0 hL3
            have HL := Lib.hid hL
            have hgl : w.heap.size + 1 < w3.heap.size := by omega
            clear hL hlen hs3 hcap hmax hs1 HA HT1 HT2 HT3 HT4
            go_wp2_with fail
            refine wp_region_inv (by kernel_rfl) (fun k => (#[33, 34, 35, 36, 37, 38, 39, 40, 41, 42, 43, 44, 45, 46, 47, 48, 2] : Array Nat).getD k 0) 49
              (fun k v W => match k with
                | 0 => v = .pointer (some ⟨w.heap.size + 1, 0, none⟩)
                | 1 => v = .slice a xs.length cap
                | 2 => v = .string ⟨L.toArray⟩
                | 3 => v = .string ((ByteArray.mk #[103, 117, 101, 115, 115, 32]) ++ ⟨L.toArray⟩)
                | 4 => v = .string ((ByteArray.mk #[103, 117, 101, 115, 115, 32]) ++ ⟨L.toArray⟩ ++ ⟨#[32]⟩)
                | 5 => v = .pointer (some ⟨w.heap.size + 1, 1, none⟩)
                | 6 => v = .int .i64 r
                | 7 => ∃ N, v = .slice (some ⟨N, 0, none⟩) 1 1 ∧ W.cell? ⟨N, 0, none⟩ = some (.int .i64 r)
                | 8 => v = .string ⟨#[dg r]⟩
                | 9 => v = .string ((ByteArray.mk #[103, 117, 101, 115, 115, 32]) ++ ⟨L.toArray⟩ ++ ⟨#[32]⟩ ++ ⟨#[dg r]⟩)
                | 10 => v = .string ((ByteArray.mk #[103, 117, 101, 115, 115, 32]) ++ ⟨L.toArray⟩ ++ ⟨#[32]⟩ ++ ⟨#[dg r]⟩ ++ ⟨#[32]⟩)
                | 11 => v = .pointer (some ⟨w.heap.size + 1, 2, none⟩)
                | 12 => v = .int .i64 n
                | 13 => ∃ N, v = .slice (some ⟨N, 0, none⟩) 1 1 ∧ W.cell? ⟨N, 0, none⟩ = some (.int .i64 n)
                | 14 => v = .string ⟨#[dg n]⟩
                | 15 => v = .string ((ByteArray.mk #[103, 117, 101, 115, 115, 32]) ++ ⟨L.toArray⟩ ++ ⟨#[32]⟩ ++ ⟨#[dg r]⟩ ++ ⟨#[32]⟩ ++ ⟨#[dg n]⟩)
                | 16 => v = .string ((ByteArray.mk #[103, 117, 101, 115, 115, 32]) ++ ⟨L.toArray⟩ ++ ⟨#[32]⟩ ++ ⟨#[dg r]⟩ ++ ⟨#[32]⟩ ++ ⟨#[dg n]⟩)
                | _ => False) rfl (by kernel_rfl) ?mono ?step ?fin
            case mono =>
              intro k v W W' h hb
              match k, h with
              | 0, h => exact h
              | 1, h => exact h
              | 2, h => exact h
              | 3, h => exact h
              | 4, h => exact h
              | 5, h => exact h
              | 6, h => exact h
              | 7, h => (obtain ⟨N, h1, h2⟩ := h; exact ⟨N, h1, (hb.cell (cell_lt' h2)).trans h2⟩)
              | 8, h => exact h
              | 9, h => exact h
              | 10, h => exact h
              | 11, h => exact h
              | 12, h => exact h
              | 13, h => (obtain ⟨N, h1, h2⟩ := h; exact ⟨N, h1, (hb.cell (cell_lt' h2)).trans h2⟩)
              | 14, h => exact h
              | 15, h => exact h
              | 16, h => exact h
            case step =>
              intro i o ho A W hW hA hD K hK
              match i, ho with
              | 0, ho =>
                simp only [List.getElem?_cons_zero, Option.some.injEq] at ho
                subst ho
                have e3 : A.tmps.getD 3 undef = .pointer (some ⟨w.heap.size + 1, 0, none⟩) := (hA 3 (by kernel_rfl)).trans rfl
                have e3' := e3
                rw [Array.getD_eq_getD_getElem?] at e3'
                have HK := Lib.hid (show ∀ v W', Below W.heap.size W W' → (v = .pointer (some ⟨w.heap.size + 1, 0, none⟩)) → K (A.put (some 33) v) W' from hK.out)
                clear hA hD hK
                go_simp
                exact HK.out _ _ (Below.refl _ _) rfl
              | 1, ho =>
                simp only [List.getElem?_cons_succ, List.getElem?_cons_zero, Option.some.injEq] at ho
                subst ho
                have e3 : A.tmps.getD 3 undef = .pointer (some ⟨w.heap.size + 1, 0, none⟩) := (hA 3 (by kernel_rfl)).trans rfl
                have e3' := e3
                rw [Array.getD_eq_getD_getElem?] at e3'
                have d0 : A.tmps.getD 33 undef = .pointer (some ⟨w.heap.size + 1, 0, none⟩) := hD 0 (by kernel_rfl)
                have d0' := d0
                rw [Array.getD_eq_getD_getElem?] at d0'
                have HK := Lib.hid (show ∀ v W', Below W.heap.size W W' → (v = .slice a xs.length cap) → K (A.put (some 34) v) W' from hK.out)
                have hcc := (hW.cell hgl).trans g0
                clear hA hD hK
                go_simp
                exact HK.out _ _ (Below.refl _ _) rfl
              | 2, ho =>
                simp only [List.getElem?_cons_succ, List.getElem?_cons_zero, Option.some.injEq] at ho
                subst ho
                have e3 : A.tmps.getD 3 undef = .pointer (some ⟨w.heap.size + 1, 0, none⟩) := (hA 3 (by kernel_rfl)).trans rfl
                have e3' := e3
                rw [Array.getD_eq_getD_getElem?] at e3'
                have d1 : A.tmps.getD 34 undef = .slice a xs.length cap := hD 1 (by kernel_rfl)
                have d1' := d1
                rw [Array.getD_eq_getD_getElem?] at d1'
                have HK := Lib.hid (show ∀ v W', Below W.heap.size W W' → (v = .string ⟨L.toArray⟩) → K (A.put (some 35) v) W' from hK.out)
                clear hA hD hK
                go_simp
                refine (HD0.out W hW).mono ?_
                rintro e W' ⟨rfl, hb⟩
                exact HK.out _ _ hb rfl
              | 3, ho =>
                simp only [List.getElem?_cons_succ, List.getElem?_cons_zero, Option.some.injEq] at ho
                subst ho
                have e3 : A.tmps.getD 3 undef = .pointer (some ⟨w.heap.size + 1, 0, none⟩) := (hA 3 (by kernel_rfl)).trans rfl
                have e3' := e3
                rw [Array.getD_eq_getD_getElem?] at e3'
                have d2 : A.tmps.getD 35 undef = .string ⟨L.toArray⟩ := hD 2 (by kernel_rfl)
                have d2' := d2
                rw [Array.getD_eq_getD_getElem?] at d2'
                have HK := Lib.hid (show ∀ v W', Below W.heap.size W W' → (v = .string ((ByteArray.mk #[103, 117, 101, 115, 115, 32]) ++ ⟨L.toArray⟩)) → K (A.put (some 36) v) W' from hK.out)
                clear hA hD hK
                go_simp
                rw [if_neg (by omega), Oper.upon_value]
                exact HK.out _ _ (Below.refl _ _) rfl
              | 4, ho =>
                simp only [List.getElem?_cons_succ, List.getElem?_cons_zero, Option.some.injEq] at ho
                subst ho
                have e3 : A.tmps.getD 3 undef = .pointer (some ⟨w.heap.size + 1, 0, none⟩) := (hA 3 (by kernel_rfl)).trans rfl
                have e3' := e3
                rw [Array.getD_eq_getD_getElem?] at e3'
                have d3 : A.tmps.getD 36 undef = .string ((ByteArray.mk #[103, 117, 101, 115, 115, 32]) ++ ⟨L.toArray⟩) := hD 3 (by kernel_rfl)
                have d3' := d3
                rw [Array.getD_eq_getD_getElem?] at d3'
                have HK := Lib.hid (show ∀ v W', Below W.heap.size W W' → (v = .string ((ByteArray.mk #[103, 117, 101, 115, 115, 32]) ++ ⟨L.toArray⟩ ++ ⟨#[32]⟩)) → K (A.put (some 37) v) W' from hK.out)
                clear hA hD hK
                go_simp
                rw [if_neg (by omega), Oper.upon_value]
                exact HK.out _ _ (Below.refl _ _) rfl
              | 5, ho =>
                simp only [List.getElem?_cons_succ, List.getElem?_cons_zero, Option.some.injEq] at ho
                subst ho
                have e3 : A.tmps.getD 3 undef = .pointer (some ⟨w.heap.size + 1, 0, none⟩) := (hA 3 (by kernel_rfl)).trans rfl
                have e3' := e3
                rw [Array.getD_eq_getD_getElem?] at e3'
                have HK := Lib.hid (show ∀ v W', Below W.heap.size W W' → (v = .pointer (some ⟨w.heap.size + 1, 1, none⟩)) → K (A.put (some 38) v) W' from hK.out)
                clear hA hD hK
                go_simp
                exact HK.out _ _ (Below.refl _ _) rfl
              | 6, ho =>
                simp only [List.getElem?_cons_succ, List.getElem?_cons_zero, Option.some.injEq] at ho
                subst ho
                have e3 : A.tmps.getD 3 undef = .pointer (some ⟨w.heap.size + 1, 0, none⟩) := (hA 3 (by kernel_rfl)).trans rfl
                have e3' := e3
                rw [Array.getD_eq_getD_getElem?] at e3'
                have d5 : A.tmps.getD 38 undef = .pointer (some ⟨w.heap.size + 1, 1, none⟩) := hD 5 (by kernel_rfl)
                have d5' := d5
                rw [Array.getD_eq_getD_getElem?] at d5'
                have HK := Lib.hid (show ∀ v W', Below W.heap.size W W' → (v = .int .i64 r) → K (A.put (some 39) v) W' from hK.out)
                have hcc := (hW.cell hgl).trans g1
                clear hA hD hK
                go_simp
                exact HK.out _ _ (Below.refl _ _) rfl
              | 7, ho =>
                simp only [List.getElem?_cons_succ, List.getElem?_cons_zero, Option.some.injEq] at ho
                subst ho
                have e3 : A.tmps.getD 3 undef = .pointer (some ⟨w.heap.size + 1, 0, none⟩) := (hA 3 (by kernel_rfl)).trans rfl
                have e3' := e3
                rw [Array.getD_eq_getD_getElem?] at e3'
                have d6 : A.tmps.getD 39 undef = .int .i64 r := hD 6 (by kernel_rfl)
                have d6' := d6
                rw [Array.getD_eq_getD_getElem?] at d6'
                have HK := Lib.hid (show ∀ v W', Below W.heap.size W W' → (∃ N, v = .slice (some ⟨N, 0, none⟩) 1 1 ∧ W'.cell? ⟨N, 0, none⟩ = some (.int .i64 r)) → K (A.put (some 40) v) W' from hK.out)
                clear hA hD hK
                go_simp
                exact HK.out _ _ ((Below.refl _ _).alloc (Nat.le_refl _) _) ⟨_, rfl, new_cell _ _ _⟩
              | 8, ho =>
                simp only [List.getElem?_cons_succ, List.getElem?_cons_zero, Option.some.injEq] at ho
                subst ho
                have e3 : A.tmps.getD 3 undef = .pointer (some ⟨w.heap.size + 1, 0, none⟩) := (hA 3 (by kernel_rfl)).trans rfl
                have e3' := e3
                rw [Array.getD_eq_getD_getElem?] at e3'
                obtain ⟨N, hN, hc⟩ := (show ∃ N, A.tmps.getD 40 undef = .slice (some ⟨N, 0, none⟩) 1 1 ∧ W.cell? ⟨N, 0, none⟩ = some (.int .i64 r) from hD 7 (by kernel_rfl))
                have hN' := hN
                rw [Array.getD_eq_getD_getElem?] at hN'
                have HK := Lib.hid (show ∀ v W', Below W.heap.size W W' → (v = .string ⟨#[dg r]⟩) → K (A.put (some 41) v) W' from hK.out)
                clear hA hD hK
                have hT := digits1 N r W hc HR.out
                go_simp
                refine hT.mono ?_
                rintro e W' ⟨rfl, hb⟩
                exact HK.out _ _ hb rfl
              | 9, ho =>
                simp only [List.getElem?_cons_succ, List.getElem?_cons_zero, Option.some.injEq] at ho
                subst ho
                have e3 : A.tmps.getD 3 undef = .pointer (some ⟨w.heap.size + 1, 0, none⟩) := (hA 3 (by kernel_rfl)).trans rfl
                have e3' := e3
                rw [Array.getD_eq_getD_getElem?] at e3'
                have d4 : A.tmps.getD 37 undef = .string ((ByteArray.mk #[103, 117, 101, 115, 115, 32]) ++ ⟨L.toArray⟩ ++ ⟨#[32]⟩) := hD 4 (by kernel_rfl)
                have d4' := d4
                rw [Array.getD_eq_getD_getElem?] at d4'
                have d8 : A.tmps.getD 41 undef = .string ⟨#[dg r]⟩ := hD 8 (by kernel_rfl)
                have d8' := d8
                rw [Array.getD_eq_getD_getElem?] at d8'
                have HK := Lib.hid (show ∀ v W', Below W.heap.size W W' → (v = .string ((ByteArray.mk #[103, 117, 101, 115, 115, 32]) ++ ⟨L.toArray⟩ ++ ⟨#[32]⟩ ++ ⟨#[dg r]⟩)) → K (A.put (some 42) v) W' from hK.out)
                clear hA hD hK
                go_simp
                rw [if_neg (by omega), Oper.upon_value]
                exact HK.out _ _ (Below.refl _ _) rfl
              | 10, ho =>
                simp only [List.getElem?_cons_succ, List.getElem?_cons_zero, Option.some.injEq] at ho
                subst ho
                have e3 : A.tmps.getD 3 undef = .pointer (some ⟨w.heap.size + 1, 0, none⟩) := (hA 3 (by kernel_rfl)).trans rfl
                have e3' := e3
                rw [Array.getD_eq_getD_getElem?] at e3'
                have d9 : A.tmps.getD 42 undef = .string ((ByteArray.mk #[103, 117, 101, 115, 115, 32]) ++ ⟨L.toArray⟩ ++ ⟨#[32]⟩ ++ ⟨#[dg r]⟩) := hD 9 (by kernel_rfl)
                have d9' := d9
                rw [Array.getD_eq_getD_getElem?] at d9'
                have HK := Lib.hid (show ∀ v W', Below W.heap.size W W' → (v = .string ((ByteArray.mk #[103, 117, 101, 115, 115, 32]) ++ ⟨L.toArray⟩ ++ ⟨#[32]⟩ ++ ⟨#[dg r]⟩ ++ ⟨#[32]⟩)) → K (A.put (some 43) v) W' from hK.out)
                clear hA hD hK
                go_simp
                rw [if_neg (by omega), Oper.upon_value]
                exact HK.out _ _ (Below.refl _ _) rfl
              | 11, ho =>
                simp only [List.getElem?_cons_succ, List.getElem?_cons_zero, Option.some.injEq] at ho
                subst ho
                have e3 : A.tmps.getD 3 undef = .pointer (some ⟨w.heap.size + 1, 0, none⟩) := (hA 3 (by kernel_rfl)).trans rfl
                have e3' := e3
                rw [Array.getD_eq_getD_getElem?] at e3'
                have HK := Lib.hid (show ∀ v W', Below W.heap.size W W' → (v = .pointer (some ⟨w.heap.size + 1, 2, none⟩)) → K (A.put (some 44) v) W' from hK.out)
                clear hA hD hK
                go_simp
                exact HK.out _ _ (Below.refl _ _) rfl
              | 12, ho =>
                simp only [List.getElem?_cons_succ, List.getElem?_cons_zero, Option.some.injEq] at ho
                subst ho
                have e3 : A.tmps.getD 3 undef = .pointer (some ⟨w.heap.size + 1, 0, none⟩) := (hA 3 (by kernel_rfl)).trans rfl
                have e3' := e3
                rw [Array.getD_eq_getD_getElem?] at e3'
                have d11 : A.tmps.getD 44 undef = .pointer (some ⟨w.heap.size + 1, 2, none⟩) := hD 11 (by kernel_rfl)
                have d11' := d11
                rw [Array.getD_eq_getD_getElem?] at d11'
                have HK := Lib.hid (show ∀ v W', Below W.heap.size W W' → (v = .int .i64 n) → K (A.put (some 45) v) W' from hK.out)
                have hcc := (hW.cell hgl).trans g2
                clear hA hD hK
                go_simp
                exact HK.out _ _ (Below.refl _ _) rfl
              | 13, ho =>
                simp only [List.getElem?_cons_succ, List.getElem?_cons_zero, Option.some.injEq] at ho
                subst ho
                have e3 : A.tmps.getD 3 undef = .pointer (some ⟨w.heap.size + 1, 0, none⟩) := (hA 3 (by kernel_rfl)).trans rfl
                have e3' := e3
                rw [Array.getD_eq_getD_getElem?] at e3'
                have d12 : A.tmps.getD 45 undef = .int .i64 n := hD 12 (by kernel_rfl)
                have d12' := d12
                rw [Array.getD_eq_getD_getElem?] at d12'
                have HK := Lib.hid (show ∀ v W', Below W.heap.size W W' → (∃ N, v = .slice (some ⟨N, 0, none⟩) 1 1 ∧ W'.cell? ⟨N, 0, none⟩ = some (.int .i64 n)) → K (A.put (some 46) v) W' from hK.out)
                clear hA hD hK
                go_simp
                exact HK.out _ _ ((Below.refl _ _).alloc (Nat.le_refl _) _) ⟨_, rfl, new_cell _ _ _⟩
              | 14, ho =>
                simp only [List.getElem?_cons_succ, List.getElem?_cons_zero, Option.some.injEq] at ho
                subst ho
                have e3 : A.tmps.getD 3 undef = .pointer (some ⟨w.heap.size + 1, 0, none⟩) := (hA 3 (by kernel_rfl)).trans rfl
                have e3' := e3
                rw [Array.getD_eq_getD_getElem?] at e3'
                obtain ⟨N, hN, hc⟩ := (show ∃ N, A.tmps.getD 46 undef = .slice (some ⟨N, 0, none⟩) 1 1 ∧ W.cell? ⟨N, 0, none⟩ = some (.int .i64 n) from hD 13 (by kernel_rfl))
                have hN' := hN
                rw [Array.getD_eq_getD_getElem?] at hN'
                have HK := Lib.hid (show ∀ v W', Below W.heap.size W W' → (v = .string ⟨#[dg n]⟩) → K (A.put (some 47) v) W' from hK.out)
                clear hA hD hK
                have hT := digits1 N n W hc HN.out
                go_simp
                refine hT.mono ?_
                rintro e W' ⟨rfl, hb⟩
                exact HK.out _ _ hb rfl
              | 15, ho =>
                simp only [List.getElem?_cons_succ, List.getElem?_cons_zero, Option.some.injEq] at ho
                subst ho
                have e3 : A.tmps.getD 3 undef = .pointer (some ⟨w.heap.size + 1, 0, none⟩) := (hA 3 (by kernel_rfl)).trans rfl
                have e3' := e3
                rw [Array.getD_eq_getD_getElem?] at e3'
                have d10 : A.tmps.getD 43 undef = .string ((ByteArray.mk #[103, 117, 101, 115, 115, 32]) ++ ⟨L.toArray⟩ ++ ⟨#[32]⟩ ++ ⟨#[dg r]⟩ ++ ⟨#[32]⟩) := hD 10 (by kernel_rfl)
                have d10' := d10
                rw [Array.getD_eq_getD_getElem?] at d10'
                have d14 : A.tmps.getD 47 undef = .string ⟨#[dg n]⟩ := hD 14 (by kernel_rfl)
                have d14' := d14
                rw [Array.getD_eq_getD_getElem?] at d14'
                have HK := Lib.hid (show ∀ v W', Below W.heap.size W W' → (v = .string ((ByteArray.mk #[103, 117, 101, 115, 115, 32]) ++ ⟨L.toArray⟩ ++ ⟨#[32]⟩ ++ ⟨#[dg r]⟩ ++ ⟨#[32]⟩ ++ ⟨#[dg n]⟩)) → K (A.put (some 48) v) W' from hK.out)
                clear hA hD hK
                go_simp
                rw [if_neg (by omega), Oper.upon_value]
                exact HK.out _ _ (Below.refl _ _) rfl
              | 16, ho =>
                simp only [List.getElem?_cons_succ, List.getElem?_cons_zero, Option.some.injEq] at ho
                subst ho
                have e3 : A.tmps.getD 3 undef = .pointer (some ⟨w.heap.size + 1, 0, none⟩) := (hA 3 (by kernel_rfl)).trans rfl
                have e3' := e3
                rw [Array.getD_eq_getD_getElem?] at e3'
                have d15 : A.tmps.getD 48 undef = .string ((ByteArray.mk #[103, 117, 101, 115, 115, 32]) ++ ⟨L.toArray⟩ ++ ⟨#[32]⟩ ++ ⟨#[dg r]⟩ ++ ⟨#[32]⟩ ++ ⟨#[dg n]⟩) := hD 15 (by kernel_rfl)
                have d15' := d15
                rw [Array.getD_eq_getD_getElem?] at d15'
                have HK := Lib.hid (show ∀ v W', Below W.heap.size W W' → (v = .string ((ByteArray.mk #[103, 117, 101, 115, 115, 32]) ++ ⟨L.toArray⟩ ++ ⟨#[32]⟩ ++ ⟨#[dg r]⟩ ++ ⟨#[32]⟩ ++ ⟨#[dg n]⟩)) → K (A.put (some 2) v) W' from hK.out)
                clear hA hD hK
                go_simp
                exact HK.out _ _ (Below.refl _ _) rfl
              | n + 17, ho =>
                simp at ho
            case fin =>
              intro vs W hW h
              have h16 : vs 16 = .string ((ByteArray.mk #[103, 117, 101, 115, 115, 32]) ++ ⟨L.toArray⟩ ++ ⟨#[32]⟩ ++ ⟨#[dg r]⟩ ++ ⟨#[32]⟩ ++ ⟨#[dg n]⟩) := h 16 (by simp)
              have HBW := Lib.hid (HB3.out.trans (hW.mono HB3.out.size))
              rw [invA_lit [none, none, some 16, none, none, none, none, none, none, none, none, none, none, none, none, none, none, none, none, none, none, none, none, none, none, none, none, none, none, none, none, none, none, some 0, some 1, some 2, some 3, some 4, some 5, some 6, some 7, some 8, some 9, some 10, some 11, some 12, some 13, some 14, some 15] (by kernel_rfl) rfl]
              simp only [List.zipWith_cons_cons, List.zipWith_nil_left]
              rw [h16]
              clear h h16 hW
              go_wp2
              go_ret
              exact ⟨by rw [textD_guess HOK.out, text_cat, HL.out]; rfl, HBW.out⟩
  · have hN := nothing_any a cap xs r n w1 (by omega)
    unfold gV at hN
    obtain ⟨t, ht⟩ : ∃ t, t = nothingB xs r n := ⟨_, rfl⟩
    rw [← ht] at hN
    have HT := Lib.hid ht
    clear ht
    go_enter Tryd.func19, Tryd.ntmps19
    go_wp2_with fail
    rw [← hw1]
    clear hw1
    refine hN.mono ?_
    rintro e w2 ⟨rfl, hb2⟩
    have HB2 := Lib.hid (HB1.out.trans (hb2.mono HB1.out.size))
    clear hN hb2
    cases t
    · go_wp2
      go_ret
      exact ⟨by rw [back_text, ← HT.out]; rfl, HB2.out⟩
    · go_wp2
      go_ret
      exact ⟨by rw [back_text, ← HT.out]; rfl, HB2.out⟩

end Go.Proofs.YtenlngclocfnlaaDoor
