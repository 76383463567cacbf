/- Equal lists of deeds are told equal. -/
import Derived.Test.YtenlngclocfnlaaDoorSameD
import Derived.Test.YtenlngclocfnlaaDoorOwnD
namespace Go.Proofs.YtenlngclocfnlaaDoor
open Go.RowKit Go.Shelf
set_option linter.unusedVariables false
set_option maxRecDepth 100000

set_option maxHeartbeats 2000000 in
theorem sameDeeds_self {B C : Nat} (v v' : Value) (ds : List Dd) (w : World) (h : DL B w v ds) (h' : DL C w v' ds) (hB : B ≤ w.heap.size) (hC : C ≤ w.heap.size) :
    Calls Tryd.prog 27 #[v, v'] w fun e w' => e = .returned (.bool true) ∧ Below w.heap.size w w' := by
  obtain ⟨a, cap, V, rfl, hcap, hmax, hcells, hV⟩ := h
  obtain ⟨a', cap', V', rfl, hcap', hmax', hcells', hV'⟩ := h'
  go_enter Tryd.func27, Tryd.ntmps27
  go_wp2
  go_loopw [5] (fun i wr => ∃ k : Nat, k ≤ ds.length ∧ i = .int .i64 k ∧ Below w.heap.size w wr) (fun i _ => ds.length - (intOf i).toNat)
  case atStart => exact ⟨0, Nat.zero_le _, rfl, Below.refl _ _⟩
  case round =>
    obtain ⟨k, hk, rfl, hb⟩ := hrel
    obtain ⟨wk, rfl⟩ : ∃ x, x = wr := ⟨_, rfl⟩
    by_cases hlt : k < ds.length
    · obtain ⟨b, off, rfl, _, hc⟩ := hcells (by omega)
      obtain ⟨b', off', rfl, _, hc'⟩ := hcells' (by omega)
      obtain ⟨c0, c1, c2, c3⟩ := hc k hlt
      obtain ⟨e0, e1, e2, e3⟩ := hc' k hlt
      obtain ⟨av, cv, hvv, _⟩ := (hV k hlt).opened
      obtain ⟨av', cv', hvv', _⟩ := (hV' k hlt).opened
      have hVk := hV k hlt
      have hVk' := hV' k hlt
      obtain ⟨x, hx⟩ : ∃ x, x = ds[k] := ⟨_, rfl⟩
      rw [← hx] at c0 c2 c3 e0 e2 e3 hvv hvv' hVk hVk'
      rw [hvv] at c1 hVk
      rw [hvv'] at e1 hVk'
      have K0 : ∀ z : GrownC wk, z.val.cell? ⟨b, off + k * 4, none⟩ = some (.bool x.back) := fun z => (Above.of_below (B := 0) (hb.trans (z.ok.mono hb.size))).cell (Nat.zero_le _) c0
      have K1 : ∀ z : GrownC wk, z.val.cell? ⟨b, off + k * 4 + 1, none⟩ = some (.slice av x.code.length cv) := fun z => (Above.of_below (B := 0) (hb.trans (z.ok.mono hb.size))).cell (Nat.zero_le _) c1
      have K2 : ∀ z : GrownC wk, z.val.cell? ⟨b, off + k * 4 + 2, none⟩ = some (.int .i64 x.right) := fun z => (Above.of_below (B := 0) (hb.trans (z.ok.mono hb.size))).cell (Nat.zero_le _) c2
      have K3 : ∀ z : GrownC wk, z.val.cell? ⟨b, off + k * 4 + 3, none⟩ = some (.int .i64 x.near) := fun z => (Above.of_below (B := 0) (hb.trans (z.ok.mono hb.size))).cell (Nat.zero_le _) c3
      have L0 : ∀ z : GrownC wk, z.val.cell? ⟨b', off' + k * 4, none⟩ = some (.bool x.back) := fun z => (Above.of_below (B := 0) (hb.trans (z.ok.mono hb.size))).cell (Nat.zero_le _) e0
      have L1 : ∀ z : GrownC wk, z.val.cell? ⟨b', off' + k * 4 + 1, none⟩ = some (.slice av' x.code.length cv') := fun z => (Above.of_below (B := 0) (hb.trans (z.ok.mono hb.size))).cell (Nat.zero_le _) e1
      have L2 : ∀ z : GrownC wk, z.val.cell? ⟨b', off' + k * 4 + 2, none⟩ = some (.int .i64 x.right) := fun z => (Above.of_below (B := 0) (hb.trans (z.ok.mono hb.size))).cell (Nat.zero_le _) e2
      have L3 : ∀ z : GrownC wk, z.val.cell? ⟨b', off' + k * 4 + 3, none⟩ = some (.int .i64 x.near) := fun z => (Above.of_below (B := 0) (hb.trans (z.ok.mono hb.size))).cell (Nat.zero_le _) e3
      have hC' : ∀ z : GrownC wk, Calls Tryd.prog 22 #[.agg #[.bool x.back, .slice av x.code.length cv, .int .i64 x.right, .int .i64 x.near], .agg #[.bool x.back, .slice av' x.code.length cv', .int .i64 x.right, .int .i64 x.near]] z.val (fun e w'' => e = .returned (.bool true) ∧ ∃ z' : GrownC wk, w'' = z'.val) := fun z =>
        (sameDeed_self x.back _ _ x.code x.right x.near z.val (hVk.below (hb.trans (z.ok.mono hb.size))) (hVk'.below (hb.trans (z.ok.mono hb.size))) (by have := hb.size; have := z.ok.size; omega) (by have := hb.size; have := z.ok.size; omega)).mono (fun e w'' ⟨he, hq⟩ => ⟨he, ⟨w'', z.ok.trans (hq.mono z.ok.size)⟩, rfl⟩)
      have HB := Lib.hid hb
      have hk0 : (0 : Int) ≤ (k : Int) := by omega
      have hk1 : (k : Int) < (ds.length : Int) := by omega
      clear hc hc' hcells hcells' hV hV' hvv hvv' hVk hVk' hx hb c0 c1 c2 c3 e0 e1 e2 e3
      go_wp2
      refine wp_region_grownC (by kernel_rfl) (by kernel_rfl) ?_
      repeat (first | go_big_quiet_skip | (go_big_quiet_want; go_big_quiet_op; first | go_big_quiet_on | go_big_quiet_call ((go_at_call 22; exact hC' _))))
      refine wpQuiet_nil ?_
      intro w8 hw8
      obtain ⟨z8, hz8⟩ := hw8
      have HB8 := Lib.hid (HB.out.trans (z8.ok.mono HB.out.size))
      rw [← hz8] at HB8
      clear hz8
      go_wp2
      go_roundw
      case rel => exact ⟨k + 1, by omega, by go_num, HB8.out⟩
      case measure => simp [intOf]; omega
    · have HB := Lib.hid hb
      clear hcells hcells' hV hV' hb
      go_wp2
      go_ret
      exact ⟨rfl, HB.out⟩

end Go.Proofs.YtenlngclocfnlaaDoor
