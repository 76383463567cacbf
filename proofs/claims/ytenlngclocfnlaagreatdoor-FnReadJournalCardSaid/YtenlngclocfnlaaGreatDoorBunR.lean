/- The laws' comparisons of lists of guesses and of desks. -/
import Derived.Test.YtenlngclocfnlaaGreatDoorBunE
import Derived.Test.YtenlngclocfnlaaGreatDoorBunP
import Derived.Test.YtenlngclocfnlaaGreatDoorBunO
/- The laws' comparisons of lists of guesses and of desks. -/
namespace Go.Proofs.YtenlngclocfnlaaGreatDoor
open Go.RowKit Go.Shelf
set_option linter.unusedVariables false
set_option maxRecDepth 100000

theorem sameI_any {B C : Nat} (a b : Value) (xs ys : List Int) (w : World) (ha : Ints B w a xs) (hb : Ints C w b ys) :
    Calls Tryz.prog 98 #[a, b] w (Quiet (.bool (decide (xs = ys))) w) := by
  obtain ⟨a, cap, rfl, hcap, hmax, hcells⟩ := ha.opened
  obtain ⟨b, cap', rfl, hcap', hmax', hcells'⟩ := hb.opened
  clear ha hb
  by_cases hl : xs.length = ys.length
  · have hl1 : ((xs.length : Int) != (ys.length : Int)) = false := by rw [bne_eq_false_iff_eq]; omega
    have hl2 : xs.length ≤ ys.length := by omega
    have hl3 : ys.length ≤ xs.length := by omega
    clear hl
    go_enter Tryz.func98, Tryz.ntmps98
    go_wp2
    go_loopw [5] (fun i wr => ∃ k q : Nat, k ≤ xs.length ∧ i = .int .i64 k ∧ xs.take k = ys.take k ∧ wr = w.drewN q) (fun i _ => xs.length - (intOf i).toNat)
    case atStart => exact ⟨0, 0, Nat.zero_le _, rfl, rfl, rfl⟩
    case round =>
      obtain ⟨k, q, hk, rfl, ht, rfl⟩ := hrel
      have HT := Lib.hid ht
      clear ht
      by_cases hlt : k < xs.length
      · obtain ⟨b1, o1, rfl, _, hc⟩ := hcells (by omega)
        obtain ⟨b2, o2, rfl, _, hc'⟩ := hcells' (by omega)
        have hck := hc k hlt
        have hck' := hc' k (by omega)
        have hlt' : k < ys.length := by omega
        have hi0 : (0 : Int) ≤ (k : Int) := by omega
        have hi1 : (k : Int) < (xs.length : Int) := by omega
        have hi2 : (k : Int) < (ys.length : Int) := by omega
        clear hc hcells hc' hcells'
        by_cases he : xs[k] = ys[k]
        · have he1 : (xs[k] != ys[k]) = false := by simpa using he
          have HE := Lib.hid he
          clear he
          go_wp2
          go_quiet (fail)
          go_wp2
          go_roundw
          case rel => exact ⟨k + 1, _, by omega, by go_num, take_eq_succ hlt hlt' HT.out HE.out, rfl⟩
          case measure => simp [intOf]; omega
        · have he1 : (xs[k] != ys[k]) = true := by simpa using he
          have HE := Lib.hid (ne_of_get hlt hlt' he)
          clear he
          go_wp2
          go_quiet (fail)
          go_wp2
          go_ret
          exact ⟨ret_bool (by simp [HE.out]), q + nq, by simp⟩
      · go_wp2
        go_ret
        have e : xs = ys := by
          have := HT.out
          rwa [List.take_of_length_le (by omega), List.take_of_length_le (by omega)] at this
        exact ⟨ret_bool (by simp [e]), _, rfl⟩
  · have hl1 : ((xs.length : Int) != (ys.length : Int)) = true := by simp; omega
    have HE := Lib.hid (show ¬ xs = ys from fun e => hl (by rw [e]))
    clear hl
    go_enter Tryz.func98, Tryz.ntmps98
    go_wp2
    go_ret
    exact ⟨ret_bool (by simp [HE.out]), 0, rfl⟩



set_option maxHeartbeats 2000000 in
theorem sameGuesses_self {B C : Nat} (v v' : Value) (gs : List Gs) (w : World) (h : GL B w v gs) (h' : GL C w v' gs) :
    Calls Tryz.prog 62 #[v, v'] w fun e w' => e = .returned (.bool true) ∧ Below w.heap.size w w' := by
  obtain ⟨a, cap, V, rfl, hcap, hmax, hcells, hV⟩ := h
  obtain ⟨a', cap', V', rfl, hcap', hmax', hcells', hV'⟩ := h'
  go_enter Tryz.func62, Tryz.ntmps62
  go_wp2
  go_loopw [5] (fun i wr => ∃ k : Nat, k ≤ gs.length ∧ i = .int .i64 k ∧ Below w.heap.size w wr) (fun i _ => gs.length - (intOf i).toNat)
  case atStart => exact ⟨0, Nat.zero_le _, rfl, Below.refl _ _⟩
  case round =>
    obtain ⟨k, hk, rfl, hb⟩ := hrel
    obtain ⟨wk, rfl⟩ : ∃ x, x = wr := ⟨_, rfl⟩
    by_cases hlt : k < gs.length
    · obtain ⟨b, off, rfl, _, hc⟩ := hcells (by omega)
      obtain ⟨b', off', rfl, _, hc'⟩ := hcells' (by omega)
      obtain ⟨c1, c2, c3⟩ := hc k hlt
      obtain ⟨e1, e2, e3⟩ := hc' k hlt
      obtain ⟨av, cv, hvv, _⟩ := (hV k hlt).opened
      obtain ⟨av', cv', hvv', _⟩ := (hV' k hlt).opened
      have hVk := hV k hlt
      have hVk' := hV' k hlt
      obtain ⟨x, hx⟩ : ∃ x, x = gs[k] := ⟨_, rfl⟩
      rw [← hx] at c2 c3 e2 e3 hvv hvv' hVk hVk'
      rw [hvv] at c1 hVk
      rw [hvv'] at e1 hVk'
      have K1 : ∀ z : GrownC wk, z.val.cell? ⟨b, off + k * 3, none⟩ = some (.slice av x.code.length cv) := fun z => (Above.of_below (B := 0) (hb.trans (z.ok.mono hb.size))).cell (Nat.zero_le _) c1
      have K2 : ∀ z : GrownC wk, z.val.cell? ⟨b, off + k * 3 + 1, none⟩ = some (.int .i64 x.right) := fun z => (Above.of_below (B := 0) (hb.trans (z.ok.mono hb.size))).cell (Nat.zero_le _) c2
      have K3 : ∀ z : GrownC wk, z.val.cell? ⟨b, off + k * 3 + 2, none⟩ = some (.int .i64 x.near) := fun z => (Above.of_below (B := 0) (hb.trans (z.ok.mono hb.size))).cell (Nat.zero_le _) c3
      have L1 : ∀ z : GrownC wk, z.val.cell? ⟨b', off' + k * 3, none⟩ = some (.slice av' x.code.length cv') := fun z => (Above.of_below (B := 0) (hb.trans (z.ok.mono hb.size))).cell (Nat.zero_le _) e1
      have L2 : ∀ z : GrownC wk, z.val.cell? ⟨b', off' + k * 3 + 1, none⟩ = some (.int .i64 x.right) := fun z => (Above.of_below (B := 0) (hb.trans (z.ok.mono hb.size))).cell (Nat.zero_le _) e2
      have L3 : ∀ z : GrownC wk, z.val.cell? ⟨b', off' + k * 3 + 2, none⟩ = some (.int .i64 x.near) := fun z => (Above.of_below (B := 0) (hb.trans (z.ok.mono hb.size))).cell (Nat.zero_le _) e3
      have hC : ∀ z : GrownC wk, Calls Tryz.prog 98 #[.slice av x.code.length cv, .slice av' x.code.length cv'] z.val (fun e w'' => e = .returned (.bool true) ∧ ∃ z' : GrownC wk, w'' = z'.val) := fun z =>
        (sameI_any _ _ x.code x.code z.val (hVk.below (hb.trans (z.ok.mono hb.size))) (hVk'.below (hb.trans (z.ok.mono hb.size)))).mono (fun e w'' ⟨he, hq⟩ => ⟨by rw [he]; simp, ⟨w'', z.ok.trans ((show Drawn z.val w'' from hq).below.mono z.ok.size)⟩, rfl⟩)
      have r1 : (x.right != x.right) = false := by simp
      have r2 : (x.near != x.near) = false := by simp
      have HB := Lib.hid hb
      have hk0 : (0 : Int) ≤ (k : Int) := by omega
      have hk1 : (k : Int) < (gs.length : Int) := by omega
      clear hc hc' hcells hcells' hV hV' hvv hvv' hVk hVk' hx hb c1 c2 c3 e1 e2 e3
      go_wp2
      refine wp_region_grownC (by kernel_rfl) (by kernel_rfl) ?_
      repeat (first | go_big_quiet_skip | (go_big_quiet_want; go_big_quiet_op; first | go_big_quiet_on | go_big_quiet_call ((go_at_call 98; exact hC _))))
      refine wpQuiet_nil ?_
      intro w8 hw8
      obtain ⟨z8, hz8⟩ := hw8
      have HB8 := Lib.hid (HB.out.trans (z8.ok.mono HB.out.size))
      rw [← hz8] at HB8
      clear hz8
      go_wp2
      go_roundw
      case rel => exact ⟨k + 1, by omega, by go_num, HB8.out⟩
      case measure => simp [intOf]; omega
    · have HB := Lib.hid hb
      clear hcells hcells' hV hV' hb
      go_wp2
      go_ret
      exact ⟨rfl, HB.out⟩

theorem sameDesk_self {B C : Nat} (p c : Int) (v v' : Value) (gs : List Gs) (w : World) (h : GL B w v gs) (h' : GL C w v' gs) :
    Calls Tryz.prog 18 #[dkV p c v, dkV p c v'] w fun e w' => e = .returned (.bool true) ∧ Below w.heap.size w w' := by
  have hsh : ∃ a cap, v = .slice a gs.length cap := by obtain ⟨a, cap, _, hv, _⟩ := h; exact ⟨a, cap, hv⟩
  obtain ⟨a, cap, rfl⟩ := hsh
  have hsh : ∃ a cap, v' = .slice a gs.length cap := by obtain ⟨a, cap, _, hv, _⟩ := h'; exact ⟨a, cap, hv⟩
  obtain ⟨a', cap', rfl⟩ := hsh
  have hb1 : Below w.heap.size w ((w.alloc (.cells #[.int .i64 p, .int .i64 c, .slice a gs.length cap] 30)).alloc (.cells #[.int .i64 p, .int .i64 c, .slice a' gs.length cap'] 30)) := ((Below.refl _ _).alloc (Nat.le_refl _) _).alloc (by simp) _
  have hE := sameGuesses_self _ _ gs _ (h.below hb1) (h'.below hb1)
  have HB1 := Lib.hid hb1
  have e1 : (p == p) = true := by simp
  have e2 : (c == c) = true := by simp
  unfold dkV
  clear h h' hb1
  go_enter Tryz.func18, Tryz.ntmps18
  go_wp2_with fail
  refine hE.mono ?_
  rintro e w2 ⟨rfl, hb2⟩
  have HB2 := Lib.hid (HB1.out.trans (hb2.mono HB1.out.size))
  clear hE hb2
  go_wp2
  go_ret
  exact ⟨rfl, HB2.out⟩

theorem noDesk_zero (w : World) :
    Calls Tryz.prog 22 #[dkV 0 0 (.slice none 0 0)] w fun e w' => e = .returned (.bool true) ∧ Below w.heap.size w w' := by
  have hb1 : Below w.heap.size w (w.alloc (.cells #[.int .i64 0, .int .i64 0, .slice none 0 0] 30)) := (Below.refl _ _).alloc (Nat.le_refl _) _
  have hE := sameDesk_self 0 0 (.slice none 0 0) (.slice none 0 0) [] _ (GL.nil 0 (w.alloc (.cells #[.int .i64 0, .int .i64 0, .slice none 0 0] 30))) (GL.nil 0 _)
  have HB1 := Lib.hid hb1
  unfold dkV at hE ⊢
  clear hb1
  go_enter Tryz.func22, Tryz.ntmps22
  go_wp2_with fail
  refine hE.mono ?_
  rintro e w2 ⟨rfl, hb2⟩
  have HB2 := Lib.hid (HB1.out.trans (hb2.mono HB1.out.size))
  clear hE hb2
  go_wp2
  go_ret
  exact ⟨rfl, HB2.out⟩

end Go.Proofs.YtenlngclocfnlaaGreatDoor

/- Equal deeds are told equal. -/
namespace Go.Proofs.YtenlngclocfnlaaGreatDoor
open Go.RowKit
set_option linter.unusedVariables false
set_option maxRecDepth 100000

theorem GL.one {B b : Nat} {w : World} {v : Value} {xs : List Int} {r n : Int} (hrow : w.heap[b]? = some (.cells #[v, .int .i64 r, .int .i64 n] 39 (0, 0))) (hI : Ints B w v xs) (hb : B ≤ b) : GL B w (.slice (some ⟨b, 0, none⟩) 1 1) [⟨xs, r, n⟩] := by
  refine ⟨some ⟨b, 0, none⟩, 1, fun _ => v, rfl, Nat.le_refl _, by omega, fun _ => ⟨b, 0, rfl, hb, fun i hi => ?_⟩, fun i hi => ?_⟩
  · have : i = 0 := by simpa using hi
    subst this
    refine ⟨?_, ?_, ?_⟩ <;> rw [cell_of_row _ _ _ _ _ _ hrow] <;> simp
  · have : i = 0 := by simpa using hi
    subst this
    exact hI

set_option maxHeartbeats 2000000 in
theorem sameDeed_self {B C : Nat} (b : Bool) (v v' : Value) (xs : List Int) (r n : Int) (w : World) (h : Ints B w v xs) (h' : Ints C w v' xs) (hB : B ≤ w.heap.size) (hC : C ≤ w.heap.size) :
    Calls Tryz.prog 46 #[.agg #[.bool b, v, .int .i64 r, .int .i64 n], .agg #[.bool b, v', .int .i64 r, .int .i64 n]] w fun e w' => e = .returned (.bool true) ∧ Below w.heap.size w w' := by
  obtain ⟨a, cap, rfl, _⟩ := id h.opened
  obtain ⟨a', cap', rfl, _⟩ := id h'.opened
  obtain ⟨w2, hw2⟩ : ∃ z, z = (w.alloc (.cells #[.bool b, .slice a xs.length cap, .int .i64 r, .int .i64 n] 41)).alloc (.cells #[.bool b, .slice a' xs.length cap', .int .i64 r, .int .i64 n] 41) := ⟨_, rfl⟩
  have hb2 : Below w.heap.size w w2 := by rw [hw2]; exact ((Below.refl _ _).alloc (Nat.le_refl _) _).alloc (by simp) _
  have hs2 : w2.heap.size = w.heap.size + 2 := by rw [hw2]; simp
  obtain ⟨w3, hw3⟩ : ∃ z, z = w2.alloc (.cells #[.slice a xs.length cap, .int .i64 r, .int .i64 n] 39) := ⟨_, rfl⟩
  have hb3 : Below w2.heap.size w2 w3 := by rw [hw3]; exact (Below.refl _ _).alloc (Nat.le_refl _) _
  have hs3 : w3.heap.size = w2.heap.size + 1 := by rw [hw3]; simp
  have hr3 : w3.heap[w2.heap.size]? = some (.cells #[.slice a xs.length cap, .int .i64 r, .int .i64 n] 39 (0, 0)) := by rw [hw3]; exact heap_alloc_new w2 _
  obtain ⟨w4, hw4⟩ : ∃ z, z = w3.alloc (.cells #[.slice a' xs.length cap', .int .i64 r, .int .i64 n] 39) := ⟨_, rfl⟩
  have hb4 : Below w3.heap.size w3 w4 := by rw [hw4]; exact (Below.refl _ _).alloc (Nat.le_refl _) _
  have hr4 : w4.heap[w3.heap.size]? = some (.cells #[.slice a' xs.length cap', .int .i64 r, .int .i64 n] 39 (0, 0)) := by rw [hw4]; exact heap_alloc_new w3 _
  have hr34 := (hb4.block _ (Array.getElem?_eq_some_iff.1 hr3).1).trans hr3
  have hE := sameGuesses_self _ _ _ w4 (GL.one hr34 (((h.below hb2).below hb3).below hb4) (by omega)) (GL.one hr4 (((h'.below hb2).below hb3).below hb4) (by omega))
  have HB4 := Lib.hid ((hb2.trans (hb3.mono hb2.size)).trans (hb4.mono (by omega)))
  have e1 : (b == b) = true := by simp
  subst hw4 hw3 hw2
  simp only [World.size_alloc] at hE
  clear h h' hb2 hb3 hb4 hr3 hr4 hr34 hs2 hs3
  go_enter Tryz.func46, Tryz.ntmps46
  go_wp2_with fail
  refine hE.mono ?_
  rintro e w5 ⟨rfl, hb5⟩
  have HB5 := Lib.hid (HB4.out.trans (hb5.mono (by first | exact HB4.out.size | omega)))
  clear hE hb5
  go_wp2
  go_ret
  exact ⟨rfl, HB5.out⟩

end Go.Proofs.YtenlngclocfnlaaGreatDoor

/- Equal lists of deeds are told equal. -/
namespace Go.Proofs.YtenlngclocfnlaaGreatDoor
open Go.RowKit Go.Shelf
set_option linter.unusedVariables false
set_option maxRecDepth 100000

set_option maxHeartbeats 2000000 in
theorem sameDeeds_self {B C : Nat} (v v' : Value) (ds : List Dd) (w : World) (h : DL B w v ds) (h' : DL C w v' ds) (hB : B ≤ w.heap.size) (hC : C ≤ w.heap.size) :
    Calls Tryz.prog 11 #[v, v'] w fun e w' => e = .returned (.bool true) ∧ Below w.heap.size w w' := by
  obtain ⟨a, cap, V, rfl, hcap, hmax, hcells, hV⟩ := h
  obtain ⟨a', cap', V', rfl, hcap', hmax', hcells', hV'⟩ := h'
  go_enter Tryz.func11, Tryz.ntmps11
  go_wp2
  go_loopw [5] (fun i wr => ∃ k : Nat, k ≤ ds.length ∧ i = .int .i64 k ∧ Below w.heap.size w wr) (fun i _ => ds.length - (intOf i).toNat)
  case atStart => exact ⟨0, Nat.zero_le _, rfl, Below.refl _ _⟩
  case round =>
    obtain ⟨k, hk, rfl, hb⟩ := hrel
    obtain ⟨wk, rfl⟩ : ∃ x, x = wr := ⟨_, rfl⟩
    by_cases hlt : k < ds.length
    · obtain ⟨b, off, rfl, _, hc⟩ := hcells (by omega)
      obtain ⟨b', off', rfl, _, hc'⟩ := hcells' (by omega)
      obtain ⟨c0, c1, c2, c3⟩ := hc k hlt
      obtain ⟨e0, e1, e2, e3⟩ := hc' k hlt
      obtain ⟨av, cv, hvv, _⟩ := (hV k hlt).opened
      obtain ⟨av', cv', hvv', _⟩ := (hV' k hlt).opened
      have hVk := hV k hlt
      have hVk' := hV' k hlt
      obtain ⟨x, hx⟩ : ∃ x, x = ds[k] := ⟨_, rfl⟩
      rw [← hx] at c0 c2 c3 e0 e2 e3 hvv hvv' hVk hVk'
      rw [hvv] at c1 hVk
      rw [hvv'] at e1 hVk'
      have K0 : ∀ z : GrownC wk, z.val.cell? ⟨b, off + k * 4, none⟩ = some (.bool x.back) := fun z => (Above.of_below (B := 0) (hb.trans (z.ok.mono hb.size))).cell (Nat.zero_le _) c0
      have K1 : ∀ z : GrownC wk, z.val.cell? ⟨b, off + k * 4 + 1, none⟩ = some (.slice av x.code.length cv) := fun z => (Above.of_below (B := 0) (hb.trans (z.ok.mono hb.size))).cell (Nat.zero_le _) c1
      have K2 : ∀ z : GrownC wk, z.val.cell? ⟨b, off + k * 4 + 2, none⟩ = some (.int .i64 x.right) := fun z => (Above.of_below (B := 0) (hb.trans (z.ok.mono hb.size))).cell (Nat.zero_le _) c2
      have K3 : ∀ z : GrownC wk, z.val.cell? ⟨b, off + k * 4 + 3, none⟩ = some (.int .i64 x.near) := fun z => (Above.of_below (B := 0) (hb.trans (z.ok.mono hb.size))).cell (Nat.zero_le _) c3
      have L0 : ∀ z : GrownC wk, z.val.cell? ⟨b', off' + k * 4, none⟩ = some (.bool x.back) := fun z => (Above.of_below (B := 0) (hb.trans (z.ok.mono hb.size))).cell (Nat.zero_le _) e0
      have L1 : ∀ z : GrownC wk, z.val.cell? ⟨b', off' + k * 4 + 1, none⟩ = some (.slice av' x.code.length cv') := fun z => (Above.of_below (B := 0) (hb.trans (z.ok.mono hb.size))).cell (Nat.zero_le _) e1
      have L2 : ∀ z : GrownC wk, z.val.cell? ⟨b', off' + k * 4 + 2, none⟩ = some (.int .i64 x.right) := fun z => (Above.of_below (B := 0) (hb.trans (z.ok.mono hb.size))).cell (Nat.zero_le _) e2
      have L3 : ∀ z : GrownC wk, z.val.cell? ⟨b', off' + k * 4 + 3, none⟩ = some (.int .i64 x.near) := fun z => (Above.of_below (B := 0) (hb.trans (z.ok.mono hb.size))).cell (Nat.zero_le _) e3
      have hC' : ∀ z : GrownC wk, Calls Tryz.prog 46 #[.agg #[.bool x.back, .slice av x.code.length cv, .int .i64 x.right, .int .i64 x.near], .agg #[.bool x.back, .slice av' x.code.length cv', .int .i64 x.right, .int .i64 x.near]] z.val (fun e w'' => e = .returned (.bool true) ∧ ∃ z' : GrownC wk, w'' = z'.val) := fun z =>
        (sameDeed_self x.back _ _ x.code x.right x.near z.val (hVk.below (hb.trans (z.ok.mono hb.size))) (hVk'.below (hb.trans (z.ok.mono hb.size))) (by have := hb.size; have := z.ok.size; omega) (by have := hb.size; have := z.ok.size; omega)).mono (fun e w'' ⟨he, hq⟩ => ⟨he, ⟨w'', z.ok.trans (hq.mono z.ok.size)⟩, rfl⟩)
      have HB := Lib.hid hb
      have hk0 : (0 : Int) ≤ (k : Int) := by omega
      have hk1 : (k : Int) < (ds.length : Int) := by omega
      clear hc hc' hcells hcells' hV hV' hvv hvv' hVk hVk' hx hb c0 c1 c2 c3 e0 e1 e2 e3
      go_wp2
      refine wp_region_grownC (by kernel_rfl) (by kernel_rfl) ?_
      repeat (first | go_big_quiet_skip | (go_big_quiet_want; go_big_quiet_op; first | go_big_quiet_on | go_big_quiet_call ((go_at_call 46; exact hC' _))))
      refine wpQuiet_nil ?_
      intro w8 hw8
      obtain ⟨z8, hz8⟩ := hw8
      have HB8 := Lib.hid (HB.out.trans (z8.ok.mono HB.out.size))
      rw [← hz8] at HB8
      clear hz8
      go_wp2
      go_roundw
      case rel => exact ⟨k + 1, by omega, by go_num, HB8.out⟩
      case measure => simp [intOf]; omega
    · have HB := Lib.hid hb
      clear hcells hcells' hV hV' hb
      go_wp2
      go_ret
      exact ⟨rfl, HB.out⟩

end Go.Proofs.YtenlngclocfnlaaGreatDoor
