/- A text is spoilt (draws of FnReadDeed). UNDER WAY: does not build yet. -/
import Derived.Test.YtjecolbodelniaaDoorDrawText
import Derived.Test.YtjecolbodelniaaDoorInvR
namespace Go.Proofs.YtjecolbodelniaaDoor
open Go.RowKit
set_option linter.unusedVariables false
set_option maxRecDepth 100000

theorem text_of (s : ByteArray) : ∃ l : List UInt8, s = ⟨l.toArray⟩ ∧ l.length = s.size := ⟨s.data.toList, by cases s; simp, by cases s; rfl⟩

theorem six_pick {q : Nat} (h : q < 6) : ∃ X : ByteArray, X.size ≤ 4 ∧ (#[.string ⟨#[]⟩, .string ⟨#[48]⟩, .string ⟨#[32]⟩, .string ⟨#[10]⟩, .string ⟨#[45]⟩, .string ⟨#[98, 97, 99, 107]⟩] : Array Value)[q]? = some (.string X) := by
  match q, h with
  | 0, _ => exact ⟨⟨#[]⟩, by decide, rfl⟩
  | 1, _ => exact ⟨⟨#[48]⟩, by decide, rfl⟩
  | 2, _ => exact ⟨⟨#[32]⟩, by decide, rfl⟩
  | 3, _ => exact ⟨⟨#[10]⟩, by decide, rfl⟩
  | 4, _ => exact ⟨⟨#[45]⟩, by decide, rfl⟩
  | 5, _ => exact ⟨⟨#[98, 97, 99, 107]⟩, by decide, rfl⟩
theorem spoil_out {s : ByteArray} {n : Nat} {w w' : World} {K : Nat} (hs : s.size ≤ n) (hg : w.grownBy w' (some K)) : ∃ l' : List UInt8, Ending.returned (.string s) = .returned (.string ⟨l'.toArray⟩) ∧ l'.length ≤ n ∧ w.grownBy w' (some K) := by
  obtain ⟨l', rfl, e⟩ := text_of s
  exact ⟨l', rfl, by omega, hg⟩

set_option maxHeartbeats 4000000 in
theorem spoil_any (l : List UInt8) (w : World) (K : Nat) (a : Option Addr) (cap : Nat) (bs : List Int) (p : Int) (h : Rd w K a cap bs p) (hp : p ≤ 1000000) (hl : l.length ≤ 4000000) :
    Calls Tryd.prog 53 #[.pointer (some ⟨K, 0, none⟩), .string ⟨l.toArray⟩] w fun e w' => ∃ l' : List UInt8, e = .returned (.string ⟨l'.toArray⟩) ∧ l'.length ≤ l.length + 4 ∧ w.grownBy w' (some K) := by
  have hKw := h.lt
  by_cases h0 : l = []
  · subst h0
    go_enter Tryd.func53, Tryd.ntmps53
    go_wp2
    go_ret
    exact ⟨[10], rfl, by simp, grown_of_below (Below.refl _ _)⟩
  · have hl0 : ¬ ((l.length : Int) = 0) := fun e => h0 (List.eq_nil_of_length_eq_zero (by omega))
    have hP := pick_any (l.length : Int) w K a cap bs p h (by omega) (by unfold In64; omega)
    have hlp : 0 < l.length := List.length_pos_iff.2 h0
    clear h0
    go_enter Tryd.func53, Tryd.ntmps53
    go_wp2_with fail
    refine hP.mono ?_
    rintro e w2 ⟨r, rfl, hr0, hr1, ⟨p2, hR2, hp2⟩, hg2⟩
    obtain ⟨k, rfl⟩ : ∃ k : Nat, r = k := ⟨r.toNat, by omega⟩
    have hk := hr1 (by omega)
    have hk0 : (0 : Int) ≤ (k : Int) := by omega
    have hk1 : (k : Int) ≤ (l.length : Int) := by omega
    have hk2 : (k : Int) + 1 ≤ (l.length : Int) := by omega
    have hk3 : (0 : Int) ≤ (k : Int) + 1 := by omega
    have hwr : IntKind.i64.wrap ((k : Int) + 1) = (k : Int) + 1 := by
      have q := wrap_nat64 (k + 1) (by omega)
      push_cast at q
      exact q
    have HG2 := Lib.hid hg2
    have hz2 := hg2.size
    have HRD := Lib.hid (fun q => pick_any 6 (w2.drewN q) K a cap bs p2 (hR2.drewN q) (by omega) (by unfold In64; omega))
    clear hP hr1 hg2
    go_upto_region 4 with fail
    have HR2 := Lib.hid hR2
    clear hR2 HRD
    refine wp_region_invR (Rel := fun x y => x.grownBy y (some K)) 5 (fun W => Rd W K a cap bs p2) (fun _ _ _ h1 h2 => grown_trans h1 h2) (fun W => grown_of_below (Below.refl _ W).drew) (HR2.out.drewN 1) (by kernel_rfl) (fun k => (#[13, 14, 15, 16, 17, 18, 19, 20, 21, 22, 23, 24, 25, 26, 4] : Array Nat).getD k 0) 27
      (fun j v W => match j with
        | 0 => v = .string ⟨l.toArray⟩
        | 1 => v = .int .i64 (k : Int)
        | 2 => ∃ Z : ByteArray, v = .string Z ∧ Z.size ≤ k
        | 3 => ∃ g, v = .slice (some ⟨g, 0, none⟩) 6 6 ∧ g ≠ K ∧ W.heap[g]? = some (.cells #[.string ⟨#[]⟩, .string ⟨#[48]⟩, .string ⟨#[32]⟩, .string ⟨#[10]⟩, .string ⟨#[45]⟩, .string ⟨#[98, 97, 99, 107]⟩] 9 (0, 0))
        | 4 => v = .pointer (some ⟨K, 0, none⟩)
        | 5 => ∃ q : Nat, v = .int .i64 (q : Int) ∧ q < 6
        | 6 => ∃ g q, v = .pointer (some ⟨g, q, none⟩) ∧ q < 6 ∧ g ≠ K ∧ W.heap[g]? = some (.cells #[.string ⟨#[]⟩, .string ⟨#[48]⟩, .string ⟨#[32]⟩, .string ⟨#[10]⟩, .string ⟨#[45]⟩, .string ⟨#[98, 97, 99, 107]⟩] 9 (0, 0))
        | 7 => ∃ Z : ByteArray, v = .string Z ∧ Z.size ≤ 4
        | 8 => ∃ Z : ByteArray, v = .string Z ∧ Z.size ≤ k + 4
        | 9 => v = .string ⟨l.toArray⟩
        | 10 => v = .int .i64 (k : Int)
        | 11 => v = .int .i64 ((k : Int) + 1)
        | 12 => ∃ Z : ByteArray, v = .string Z ∧ Z.size ≤ l.length - (k + 1)
        | 13 => ∃ Z : ByteArray, v = .string Z ∧ Z.size ≤ l.length + 4
        | 14 => ∃ Z : ByteArray, v = .string Z ∧ Z.size ≤ l.length + 4
        | _ => False) rfl (by kernel_rfl) ?mono ?step ?fin
    case mono =>
      intro j v W W' h hb
      match j, h with
      | 0, h => exact h
      | 1, h => exact h
      | 2, h => exact h
      | 3, h => (obtain ⟨g, h1, h2, h3⟩ := h; exact ⟨g, h1, h2, (hb.block _ (Array.getElem?_eq_some_iff.1 h3).1 (by simp; omega)).trans h3⟩)
      | 4, h => exact h
      | 5, h => exact h
      | 6, h => (obtain ⟨g, q, h1, h4, h2, h3⟩ := h; exact ⟨g, q, h1, h4, h2, (hb.block _ (Array.getElem?_eq_some_iff.1 h3).1 (by simp; omega)).trans h3⟩)
      | 7, h => exact h
      | 8, h => exact h
      | 9, h => exact h
      | 10, h => exact h
      | 11, h => exact h
      | 12, h => exact h
      | 13, h => exact h
      | 14, h => exact h
    case step =>
      intro i o ho A W hW hg hA hD K' hK
      match i, ho with
      | 0, ho =>
        simp only [List.getElem?_cons_zero, Option.some.injEq] at ho
        subst ho
        have e1 : A.tmps.getD 1 undef = .string ⟨l.toArray⟩ := (hA 1 (by kernel_rfl)).trans rfl
        have e1' := e1
        rw [Array.getD_eq_getD_getElem?] at e1'
        have HK := Lib.hid (show ∀ v W', W.grownBy W' (some K) → (0 ≠ 5 → Rd W K a cap bs p2 → Rd W' K a cap bs p2) → (v = .string ⟨l.toArray⟩) → K' (A.put (some 13) v) W' from hK.out)
        clear hA hD hK hg
        go_simp
        exact HK.out _ _ (grown_of_below (Below.refl _ _)) (fun _ q => q) rfl
      | 1, ho =>
        simp only [List.getElem?_cons_succ, List.getElem?_cons_zero, Option.some.injEq] at ho
        subst ho
        have e5 : A.tmps.getD 5 undef = .int .i64 (k : Int) := (hA 5 (by kernel_rfl)).trans rfl
        have e5' := e5
        rw [Array.getD_eq_getD_getElem?] at e5'
        have HK := Lib.hid (show ∀ v W', W.grownBy W' (some K) → (1 ≠ 5 → Rd W K a cap bs p2 → Rd W' K a cap bs p2) → (v = .int .i64 (k : Int)) → K' (A.put (some 14) v) W' from hK.out)
        clear hA hD hK hg
        go_simp
        exact HK.out _ _ (grown_of_below (Below.refl _ _)) (fun _ q => q) rfl
      | 2, ho =>
        simp only [List.getElem?_cons_succ, List.getElem?_cons_zero, Option.some.injEq] at ho
        subst ho
        have d0 : A.tmps.getD 13 undef = .string ⟨l.toArray⟩ := hD 0 (by kernel_rfl)
        have d0' := d0
        rw [Array.getD_eq_getD_getElem?] at d0'
        have d1 : A.tmps.getD 14 undef = .int .i64 (k : Int) := hD 1 (by kernel_rfl)
        have d1' := d1
        rw [Array.getD_eq_getD_getElem?] at d1'
        have HK := Lib.hid (show ∀ v W', W.grownBy W' (some K) → (2 ≠ 5 → Rd W K a cap bs p2 → Rd W' K a cap bs p2) → (∃ Z : ByteArray, v = .string Z ∧ Z.size ≤ k) → K' (A.put (some 15) v) W' from hK.out)
        clear hA hD hK hg
        go_simp
        exact HK.out _ _ (grown_of_below (Below.refl _ _)) (fun _ q => q) ⟨_, rfl, by simp [ByteArray.size]; try omega⟩
      | 3, ho =>
        simp only [List.getElem?_cons_succ, List.getElem?_cons_zero, Option.some.injEq] at ho
        subst ho
        have HK := Lib.hid (show ∀ v W', W.grownBy W' (some K) → (3 ≠ 5 → Rd W K a cap bs p2 → Rd W' K a cap bs p2) → (∃ g, v = .slice (some ⟨g, 0, none⟩) 6 6 ∧ g ≠ K ∧ W'.heap[g]? = some (.cells #[.string ⟨#[]⟩, .string ⟨#[48]⟩, .string ⟨#[32]⟩, .string ⟨#[10]⟩, .string ⟨#[45]⟩, .string ⟨#[98, 97, 99, 107]⟩] 9 (0, 0))) → K' (A.put (some 16) v) W' from hK.out)
        have hKW : K < W.heap.size := by have := hW.size; omega
        clear hA hD hK hg
        go_simp
        exact HK.out _ _ (grown_of_below ((Below.refl _ _).alloc (Nat.le_refl _) _)) (fun _ q => q.below ((Below.refl _ _).alloc (Nat.le_refl _) _)) ⟨W.heap.size, rfl, by omega, heap_alloc_new W _⟩
      | 4, ho =>
        simp only [List.getElem?_cons_succ, List.getElem?_cons_zero, Option.some.injEq] at ho
        subst ho
        have e0 : A.tmps.getD 0 undef = .pointer (some ⟨K, 0, none⟩) := (hA 0 (by kernel_rfl)).trans rfl
        have e0' := e0
        rw [Array.getD_eq_getD_getElem?] at e0'
        have HK := Lib.hid (show ∀ v W', W.grownBy W' (some K) → (4 ≠ 5 → Rd W K a cap bs p2 → Rd W' K a cap bs p2) → (v = .pointer (some ⟨K, 0, none⟩)) → K' (A.put (some 17) v) W' from hK.out)
        clear hA hD hK hg
        go_simp
        exact HK.out _ _ (grown_of_below (Below.refl _ _)) (fun _ q => q) rfl
      | 5, ho =>
        simp only [List.getElem?_cons_succ, List.getElem?_cons_zero, Option.some.injEq] at ho
        subst ho
        have d4 : A.tmps.getD 17 undef = .pointer (some ⟨K, 0, none⟩) := hD 4 (by kernel_rfl)
        have d4' := d4
        rw [Array.getD_eq_getD_getElem?] at d4'
        have HK := Lib.hid (show ∀ v W', W.grownBy W' (some K) → (5 ≠ 5 → Rd W K a cap bs p2 → Rd W' K a cap bs p2) → (∃ q : Nat, v = .int .i64 (q : Int) ∧ q < 6) → K' (A.put (some 18) v) W' from hK.out)
        have hR := hg rfl
        clear hA hD hK hg
        go_simp
        refine (pick_any 6 W K a cap bs p2 hR (by omega) (by unfold In64; omega)).mono ?_
        rintro e W' ⟨r6, rfl, hr60, hr61, _, hg7⟩
        have hr61 := hr61 (by omega)
        obtain ⟨q, rfl⟩ : ∃ q : Nat, r6 = q := ⟨r6.toNat, by omega⟩
        exact HK.out _ _ hg7 (fun e => absurd rfl e) ⟨q, rfl, by omega⟩
      | 6, ho =>
        simp only [List.getElem?_cons_succ, List.getElem?_cons_zero, Option.some.injEq] at ho
        subst ho
        obtain ⟨g, d3, hgK, hrow⟩ := (show ∃ g, A.tmps.getD 16 undef = .slice (some ⟨g, 0, none⟩) 6 6 ∧ g ≠ K ∧ W.heap[g]? = some (.cells #[.string ⟨#[]⟩, .string ⟨#[48]⟩, .string ⟨#[32]⟩, .string ⟨#[10]⟩, .string ⟨#[45]⟩, .string ⟨#[98, 97, 99, 107]⟩] 9 (0, 0)) from hD 3 (by kernel_rfl))
        have d3' := d3
        rw [Array.getD_eq_getD_getElem?] at d3'
        obtain ⟨q, d5, hq⟩ := (show ∃ q : Nat, A.tmps.getD 18 undef = .int .i64 (q : Int) ∧ q < 6 from hD 5 (by kernel_rfl))
        have d5' := d5
        rw [Array.getD_eq_getD_getElem?] at d5'
        have HK := Lib.hid (show ∀ v W', W.grownBy W' (some K) → (6 ≠ 5 → Rd W K a cap bs p2 → Rd W' K a cap bs p2) → (∃ g q, v = .pointer (some ⟨g, q, none⟩) ∧ q < 6 ∧ g ≠ K ∧ W'.heap[g]? = some (.cells #[.string ⟨#[]⟩, .string ⟨#[48]⟩, .string ⟨#[32]⟩, .string ⟨#[10]⟩, .string ⟨#[45]⟩, .string ⟨#[98, 97, 99, 107]⟩] 9 (0, 0))) → K' (A.put (some 19) v) W' from hK.out)
        have hq0 : (0 : Int) ≤ (q : Int) := by omega
        have hq1 : (q : Int) < 6 := by omega
        clear hA hD hK hg
        go_simp
        exact HK.out _ _ (grown_of_below (Below.refl _ _)) (fun _ q => q) ⟨g, q, by first | rfl | simp, hq, hgK, hrow⟩
      | 7, ho =>
        simp only [List.getElem?_cons_succ, List.getElem?_cons_zero, Option.some.injEq] at ho
        subst ho
        obtain ⟨g, q, d6, hq, hgK, hrow⟩ := (show ∃ g q, A.tmps.getD 19 undef = .pointer (some ⟨g, q, none⟩) ∧ q < 6 ∧ g ≠ K ∧ W.heap[g]? = some (.cells #[.string ⟨#[]⟩, .string ⟨#[48]⟩, .string ⟨#[32]⟩, .string ⟨#[10]⟩, .string ⟨#[45]⟩, .string ⟨#[98, 97, 99, 107]⟩] 9 (0, 0)) from hD 6 (by kernel_rfl))
        have d6' := d6
        rw [Array.getD_eq_getD_getElem?] at d6'
        have HK := Lib.hid (show ∀ v W', W.grownBy W' (some K) → (7 ≠ 5 → Rd W K a cap bs p2 → Rd W' K a cap bs p2) → (∃ Z : ByteArray, v = .string Z ∧ Z.size ≤ 4) → K' (A.put (some 20) v) W' from hK.out)
        obtain ⟨X, hX, hXq⟩ := six_pick hq
        have hcc : W.cell? ⟨g, q, none⟩ = some (.string X) := by rw [cell_of_row _ _ _ _ _ _ hrow]; exact hXq
        clear hA hD hK hg
        go_simp
        exact HK.out _ _ (grown_of_below (Below.refl _ _)) (fun _ q => q) ⟨X, rfl, hX⟩
      | 8, ho =>
        simp only [List.getElem?_cons_succ, List.getElem?_cons_zero, Option.some.injEq] at ho
        subst ho
        obtain ⟨A2, d2, hA2⟩ := (show ∃ Z : ByteArray, A.tmps.getD 15 undef = .string Z ∧ Z.size ≤ k from hD 2 (by kernel_rfl))
        have d2' := d2
        rw [Array.getD_eq_getD_getElem?] at d2'
        obtain ⟨A7, d7, hA7⟩ := (show ∃ Z : ByteArray, A.tmps.getD 20 undef = .string Z ∧ Z.size ≤ 4 from hD 7 (by kernel_rfl))
        have d7' := d7
        rw [Array.getD_eq_getD_getElem?] at d7'
        have HK := Lib.hid (show ∀ v W', W.grownBy W' (some K) → (8 ≠ 5 → Rd W K a cap bs p2 → Rd W' K a cap bs p2) → (∃ Z : ByteArray, v = .string Z ∧ Z.size ≤ k + 4) → K' (A.put (some 21) v) W' from hK.out)
        clear hA hD hK hg
        go_simp
        rw [if_neg (by first | omega | (simp only [ByteArray.size_append]; omega)), Oper.upon_value]
        exact HK.out _ _ (grown_of_below (Below.refl _ _)) (fun _ q => q) ⟨_, rfl, by rw [ByteArray.size_append]; omega⟩
      | 9, ho =>
        simp only [List.getElem?_cons_succ, List.getElem?_cons_zero, Option.some.injEq] at ho
        subst ho
        have e1 : A.tmps.getD 1 undef = .string ⟨l.toArray⟩ := (hA 1 (by kernel_rfl)).trans rfl
        have e1' := e1
        rw [Array.getD_eq_getD_getElem?] at e1'
        have HK := Lib.hid (show ∀ v W', W.grownBy W' (some K) → (9 ≠ 5 → Rd W K a cap bs p2 → Rd W' K a cap bs p2) → (v = .string ⟨l.toArray⟩) → K' (A.put (some 22) v) W' from hK.out)
        clear hA hD hK hg
        go_simp
        exact HK.out _ _ (grown_of_below (Below.refl _ _)) (fun _ q => q) rfl
      | 10, ho =>
        simp only [List.getElem?_cons_succ, List.getElem?_cons_zero, Option.some.injEq] at ho
        subst ho
        have e5 : A.tmps.getD 5 undef = .int .i64 (k : Int) := (hA 5 (by kernel_rfl)).trans rfl
        have e5' := e5
        rw [Array.getD_eq_getD_getElem?] at e5'
        have HK := Lib.hid (show ∀ v W', W.grownBy W' (some K) → (10 ≠ 5 → Rd W K a cap bs p2 → Rd W' K a cap bs p2) → (v = .int .i64 (k : Int)) → K' (A.put (some 23) v) W' from hK.out)
        clear hA hD hK hg
        go_simp
        exact HK.out _ _ (grown_of_below (Below.refl _ _)) (fun _ q => q) rfl
      | 11, ho =>
        simp only [List.getElem?_cons_succ, List.getElem?_cons_zero, Option.some.injEq] at ho
        subst ho
        have d10 : A.tmps.getD 23 undef = .int .i64 (k : Int) := hD 10 (by kernel_rfl)
        have d10' := d10
        rw [Array.getD_eq_getD_getElem?] at d10'
        have HK := Lib.hid (show ∀ v W', W.grownBy W' (some K) → (11 ≠ 5 → Rd W K a cap bs p2 → Rd W' K a cap bs p2) → (v = .int .i64 ((k : Int) + 1)) → K' (A.put (some 24) v) W' from hK.out)
        clear hA hD hK hg
        go_simp
        exact HK.out _ _ (grown_of_below (Below.refl _ _)) (fun _ q => q) rfl
      | 12, ho =>
        simp only [List.getElem?_cons_succ, List.getElem?_cons_zero, Option.some.injEq] at ho
        subst ho
        have d9 : A.tmps.getD 22 undef = .string ⟨l.toArray⟩ := hD 9 (by kernel_rfl)
        have d9' := d9
        rw [Array.getD_eq_getD_getElem?] at d9'
        have d11 : A.tmps.getD 24 undef = .int .i64 ((k : Int) + 1) := hD 11 (by kernel_rfl)
        have d11' := d11
        rw [Array.getD_eq_getD_getElem?] at d11'
        have HK := Lib.hid (show ∀ v W', W.grownBy W' (some K) → (12 ≠ 5 → Rd W K a cap bs p2 → Rd W' K a cap bs p2) → (∃ Z : ByteArray, v = .string Z ∧ Z.size ≤ l.length - (k + 1)) → K' (A.put (some 25) v) W' from hK.out)
        clear hA hD hK hg
        go_simp
        exact HK.out _ _ (grown_of_below (Below.refl _ _)) (fun _ q => q) ⟨_, rfl, by simp [ByteArray.size]; try omega⟩
      | 13, ho =>
        simp only [List.getElem?_cons_succ, List.getElem?_cons_zero, Option.some.injEq] at ho
        subst ho
        obtain ⟨A8, d8, hA8⟩ := (show ∃ Z : ByteArray, A.tmps.getD 21 undef = .string Z ∧ Z.size ≤ k + 4 from hD 8 (by kernel_rfl))
        have d8' := d8
        rw [Array.getD_eq_getD_getElem?] at d8'
        obtain ⟨A12, d12, hA12⟩ := (show ∃ Z : ByteArray, A.tmps.getD 25 undef = .string Z ∧ Z.size ≤ l.length - (k + 1) from hD 12 (by kernel_rfl))
        have d12' := d12
        rw [Array.getD_eq_getD_getElem?] at d12'
        have HK := Lib.hid (show ∀ v W', W.grownBy W' (some K) → (13 ≠ 5 → Rd W K a cap bs p2 → Rd W' K a cap bs p2) → (∃ Z : ByteArray, v = .string Z ∧ Z.size ≤ l.length + 4) → K' (A.put (some 26) v) W' from hK.out)
        clear hA hD hK hg
        go_simp
        rw [if_neg (by first | omega | (simp only [ByteArray.size_append]; omega)), Oper.upon_value]
        exact HK.out _ _ (grown_of_below (Below.refl _ _)) (fun _ q => q) ⟨_, rfl, by rw [ByteArray.size_append]; omega⟩
      | 14, ho =>
        simp only [List.getElem?_cons_succ, List.getElem?_cons_zero, Option.some.injEq] at ho
        subst ho
        obtain ⟨A13, d13, hA13⟩ := (show ∃ Z : ByteArray, A.tmps.getD 26 undef = .string Z ∧ Z.size ≤ l.length + 4 from hD 13 (by kernel_rfl))
        have d13' := d13
        rw [Array.getD_eq_getD_getElem?] at d13'
        have HK := Lib.hid (show ∀ v W', W.grownBy W' (some K) → (14 ≠ 5 → Rd W K a cap bs p2 → Rd W' K a cap bs p2) → (∃ Z : ByteArray, v = .string Z ∧ Z.size ≤ l.length + 4) → K' (A.put (some 4) v) W' from hK.out)
        clear hA hD hK hg
        go_simp
        exact HK.out _ _ (grown_of_below (Below.refl _ _)) (fun _ q => q) ⟨_, rfl, hA13⟩
      | n + 15, ho =>
        simp at ho
    case fin =>
      intro vs W hW h
      obtain ⟨A, h14, hA14⟩ := (show ∃ Z : ByteArray, vs 14 = .string Z ∧ Z.size ≤ l.length + 4 from h 14 (by decide))
      have HW := Lib.hid (grown_trans HG2.out hW)
      rw [invA_lit [none, none, none, none, some 14, none, none, none, none, none, none, none, none, some 0, some 1, some 2, some 3, some 4, some 5, some 6, some 7, some 8, some 9, some 10, some 11, some 12, some 13] (by kernel_rfl) rfl]
      simp only [List.zipWith_cons_cons, List.zipWith_nil_left]
      rw [h14]
      clear h h14 hW
      go_wp2
      go_ret
      exact spoil_out hA14 HW.out

end Go.Proofs.YtjecolbodelniaaDoor
