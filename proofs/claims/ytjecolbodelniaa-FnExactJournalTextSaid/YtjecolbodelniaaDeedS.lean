/- Lists of deeds: sizes, comparisons, copies. Written by wip/tools/gen_deeds.py. -/
import Derived.Test.YtjecolbodelniaaOwnD2
import Derived.Test.YtjecolbodelniaaBunH
import Derived.Test.YtjecolbodelniaaBunF
namespace Go.Proofs.Ytjecolbodelniaa
open Go.RowKit Go.Shelf
set_option linter.unusedVariables false
set_option maxRecDepth 100000

def FreshD (gs : List Dd) (w : World) (e : Ending) (w' : World) : Prop := ∃ a cap, e = .returned (.slice a gs.length cap) ∧ OwnD w.heap.size w' (.slice a gs.length cap) gs ∧ Below w.heap.size w w'
theorem fill_stepD {gs : List Dd} {z : Dd} {k n : Nat} (h : k < gs.length) (hn : n = gs.length) : (gs.take k ++ List.replicate (n - k) z).set k gs[k] = gs.take (k + 1) ++ List.replicate (n - (k + 1)) z := by
  subst hn
  rw [List.take_succ_eq_append_getElem h, List.set_append_right _ _ (by rw [List.length_take]; omega)]
  have e : k - (gs.take k).length = 0 := by rw [List.length_take]; omega
  rw [e, show gs.length - k = (gs.length - (k + 1)) + 1 from by omega, List.replicate_succ, List.set_cons_zero, List.append_assoc]
  rfl

theorem szDeedS_any {B : Nat} (v : Value) (gs : List Dd) (l : Int) (w : World) (h : DL B w v gs) (h0 : 0 ≤ l) (h1 : l ≤ 1099511627776) :
    Calls Try.prog 30 #[v, .int .i64 l] w fun e w' => e = .returned (.int .i64 (szSS (gs.map Dd.code) l)) ∧ Below w.heap.size w w' := by
  obtain ⟨a, cap, V, rfl, hcap, hmax, hcells, hV⟩ := h
  by_cases hle : (gs.length : Int) ≤ l
  · have HS := Lib.hid (show szGo (gs.map Dd.code) (l - (gs.length : Int)) = szSS (gs.map Dd.code) l by unfold szSS; rw [List.length_map, if_pos hle])
    have hd : ¬ (l - (gs.length : Int) < 0) := by omega
    go_enter Try.func30, Try.ntmps30
    go_wp2
    go_loopw [1, 5] (fun s i wr => ∃ (k : Nat) (c : Int), k ≤ gs.length ∧ i = .int .i64 k ∧ s = .int .i64 c ∧ szGo ((gs.drop k).map Dd.code) c = szSS (gs.map Dd.code) l ∧ 0 ≤ c ∧ c ≤ l ∧ Below w.heap.size w wr) (fun _ i _ => gs.length - (intOf i).toNat)
    case atStart => exact ⟨0, _, Nat.zero_le _, rfl, rfl, by rw [← HS.out]; simp, by omega, by omega, Below.refl _ _⟩
    case round =>
      obtain ⟨k, c, hk, rfl, rfl, ht, hc0, hc1, hb⟩ := hrel
      obtain ⟨wk, rfl⟩ : ∃ x, x = wr := ⟨_, rfl⟩
      clear hd
      by_cases hlt : k < gs.length
      · obtain ⟨b, off, rfl, _, hc⟩ := hcells (by omega)
        obtain ⟨c0, c1, c2, c3⟩ := hc k hlt
        have d0 := (Above.of_below (B := 0) hb).cell (Nat.zero_le _) c0
        have d1 := (Above.of_below (B := 0) hb).cell (Nat.zero_le _) c1
        have d2 := (Above.of_below (B := 0) hb).cell (Nat.zero_le _) c2
        have d3 := (Above.of_below (B := 0) hb).cell (Nat.zero_le _) c3
        obtain ⟨av, cv, hvv, _⟩ := (hV k hlt).opened
        have hH := szDeed_any gs[k].back (V k) gs[k].code gs[k].right gs[k].near c wk ((hV k hlt).below hb) hc0 (by omega)
        rw [List.drop_eq_getElem_cons hlt, List.map_cons, szGo] at ht
        rw [hvv] at d1 hH
        unfold dV at hH
        unfold szR at hH
        obtain ⟨n, hn⟩ : ∃ n, n = gs[k].code.length := ⟨_, rfl⟩
        obtain ⟨r, hr⟩ : ∃ r, r = gs[k].right := ⟨_, rfl⟩
        obtain ⟨bk, hbk⟩ : ∃ bk, bk = gs[k].back := ⟨_, rfl⟩
        rw [← hbk] at hH d0
        obtain ⟨nr, hnr⟩ : ∃ nr, nr = gs[k].near := ⟨_, rfl⟩
        rw [← hn] at hH ht d1
        rw [← hr] at hH d2
        rw [← hnr] at hH d3
        have hzk := hb.size
        have HB := Lib.hid hb
        clear hc hcells hV hvv c0 c1 c2 c3 hn hr hnr hb hbk
        by_cases hneg : (n : Int) ≤ c
        · rw [if_pos hneg] at ht hH
          have HT := Lib.hid ht
          have hnn : ¬ (c - (n : Int) < 0) := by omega
          clear ht
          go_wp2_with fail
          refine hH.mono ?_
          rintro e w2 ⟨rfl, hb2⟩
          have HB2 := Lib.hid (HB.out.trans (hb2.mono hzk))
          clear hH hb2
          go_wp2
          go_roundw
          case rel => exact ⟨k + 1, _, by omega, by go_num, rfl, HT.out, by omega, by omega, HB2.out⟩
          case measure => simp [intOf]; omega
        · rw [if_neg hneg] at ht hH
          have HT := Lib.hid ht
          clear ht
          go_wp2_with fail
          refine hH.mono ?_
          rintro e w2 ⟨rfl, hb2⟩
          have HB2 := Lib.hid (HB.out.trans (hb2.mono hzk))
          clear hH hb2
          go_wp2
          go_ret
          exact ⟨ret_int (by rw [← HT.out]), HB2.out⟩
      · have e : gs.drop k = [] := List.drop_eq_nil_of_le (by omega)
        rw [e, List.map_nil, szGo] at ht
        have HT := Lib.hid ht
        have HB := Lib.hid hb
        clear ht e hb
        go_wp2
        go_ret
        exact ⟨ret_int (by rw [← HT.out]), HB.out⟩
  · have HS := Lib.hid (show szSS (gs.map Dd.code) l = -1 by unfold szSS; rw [List.length_map, if_neg hle])
    have hd : l - (gs.length : Int) < 0 := by omega
    go_enter Try.func30, Try.ntmps30
    go_wp2
    go_ret
    exact ⟨ret_int (by rw [HS.out]), Below.refl _ _⟩

set_option maxHeartbeats 2000000 in
theorem eqDeedS_self {B C : Nat} (v v' : Value) (gs : List Dd) (w : World) (h : DL B w v gs) (h' : DL C w v' gs) :
    Calls Try.prog 32 #[v, v'] w fun e w' => e = .returned (.bool true) ∧ Below w.heap.size w w' := by
  obtain ⟨a, cap, V, rfl, hcap, hmax, hcells, hV⟩ := h
  obtain ⟨a', cap', V', rfl, hcap', hmax', hcells', hV'⟩ := h'
  go_enter Try.func32, Try.ntmps32
  go_wp2
  go_loopw [5] (fun i wr => ∃ k : Nat, k ≤ gs.length ∧ i = .int .i64 k ∧ Below w.heap.size w wr) (fun i _ => gs.length - (intOf i).toNat)
  case atStart => exact ⟨0, Nat.zero_le _, rfl, Below.refl _ _⟩
  case round =>
    obtain ⟨k, hk, rfl, hb⟩ := hrel
    obtain ⟨wk, rfl⟩ : ∃ x, x = wr := ⟨_, rfl⟩
    by_cases hlt : k < gs.length
    · obtain ⟨b, off, rfl, _, hc⟩ := hcells (by omega)
      obtain ⟨b', off', rfl, _, hc'⟩ := hcells' (by omega)
      obtain ⟨c0, c1, c2, c3⟩ := hc k hlt
      obtain ⟨e0, e1, e2, e3⟩ := hc' k hlt
      obtain ⟨av, cv, hvv, _⟩ := (hV k hlt).opened
      obtain ⟨av', cv', hvv', _⟩ := (hV' k hlt).opened
      have hVk := hV k hlt
      have hVk' := hV' k hlt
      obtain ⟨x, hx⟩ : ∃ x, x = gs[k] := ⟨_, rfl⟩
      rw [← hx] at c0 c2 c3 e0 e2 e3 hvv hvv' hVk hVk'
      rw [hvv] at c1 hVk
      rw [hvv'] at e1 hVk'
      have K0 : ∀ z : GrownC wk, z.val.cell? ⟨b, off + k * 4, none⟩ = some (.bool x.back) := fun z => (Above.of_below (B := 0) (hb.trans (z.ok.mono hb.size))).cell (Nat.zero_le _) c0
      have L0 : ∀ z : GrownC wk, z.val.cell? ⟨b', off' + k * 4, none⟩ = some (.bool x.back) := fun z => (Above.of_below (B := 0) (hb.trans (z.ok.mono hb.size))).cell (Nat.zero_le _) e0
      have K1 : ∀ z : GrownC wk, z.val.cell? ⟨b, off + k * 4 + 1, none⟩ = some (.slice av x.code.length cv) := fun z => (Above.of_below (B := 0) (hb.trans (z.ok.mono hb.size))).cell (Nat.zero_le _) c1
      have K2 : ∀ z : GrownC wk, z.val.cell? ⟨b, off + k * 4 + 2, none⟩ = some (.int .i64 x.right) := fun z => (Above.of_below (B := 0) (hb.trans (z.ok.mono hb.size))).cell (Nat.zero_le _) c2
      have K3 : ∀ z : GrownC wk, z.val.cell? ⟨b, off + k * 4 + 3, none⟩ = some (.int .i64 x.near) := fun z => (Above.of_below (B := 0) (hb.trans (z.ok.mono hb.size))).cell (Nat.zero_le _) c3
      have L1 : ∀ z : GrownC wk, z.val.cell? ⟨b', off' + k * 4 + 1, none⟩ = some (.slice av' x.code.length cv') := fun z => (Above.of_below (B := 0) (hb.trans (z.ok.mono hb.size))).cell (Nat.zero_le _) e1
      have L2 : ∀ z : GrownC wk, z.val.cell? ⟨b', off' + k * 4 + 2, none⟩ = some (.int .i64 x.right) := fun z => (Above.of_below (B := 0) (hb.trans (z.ok.mono hb.size))).cell (Nat.zero_le _) e2
      have L3 : ∀ z : GrownC wk, z.val.cell? ⟨b', off' + k * 4 + 3, none⟩ = some (.int .i64 x.near) := fun z => (Above.of_below (B := 0) (hb.trans (z.ok.mono hb.size))).cell (Nat.zero_le _) e3
      have hC : ∀ z : GrownC wk, Calls Try.prog 21 #[.agg #[.bool x.back, .slice av x.code.length cv, .int .i64 x.right, .int .i64 x.near], .agg #[.bool x.back, .slice av' x.code.length cv', .int .i64 x.right, .int .i64 x.near]] z.val (fun e w'' => e = .returned (.bool true) ∧ ∃ z' : GrownC wk, w'' = z'.val) := fun z =>
        (eqDeed_self x.back _ _ x.code x.right x.near z.val (hVk.below (hb.trans (z.ok.mono hb.size))) (hVk'.below (hb.trans (z.ok.mono hb.size)))).mono (fun e w'' ⟨he, hbb⟩ => ⟨he, ⟨w'', z.ok.trans (hbb.mono z.ok.size)⟩, rfl⟩)
      have HB := Lib.hid hb
      have hk0 : (0 : Int) ≤ (k : Int) := by omega
      have hk1 : (k : Int) < (gs.length : Int) := by omega
      clear hc hc' hcells hcells' hV hV' hvv hvv' hVk hVk' hx hb c0 c1 c2 c3 e0 e1 e2 e3
      go_wp2
      refine wp_region_grownC (by kernel_rfl) (by kernel_rfl) ?_
      repeat (first | go_big_quiet_skip | (go_big_quiet_want; go_big_quiet_op; first | go_big_quiet_on | go_big_quiet_call ((go_at_call 21; exact hC _))))
      refine wpQuiet_nil ?_
      intro w8 hw8
      obtain ⟨z8, hz8⟩ := hw8
      have HB8 := Lib.hid (HB.out.trans (z8.ok.mono HB.out.size))
      rw [← hz8] at HB8
      clear hz8
      go_wp2
      go_roundw
      case rel => exact ⟨k + 1, by omega, by go_num, HB8.out⟩
      case measure => simp [intOf]; omega
    · have HB := Lib.hid hb
      clear hcells hcells' hV hV' hb
      go_wp2
      go_ret
      exact ⟨rfl, HB.out⟩

set_option maxHeartbeats 2000000 in
theorem toDeedS_any {B : Nat} (v : Value) (gs : List Dd) (w : World) (h : DL B w v gs) (hl : gs.length ≤ 2000000) (hc : ∀ g ∈ gs, g.code.length ≤ 1099511627776) :
    Calls Try.prog 31 #[v] w (FreshD gs w) := by
  obtain ⟨a, cap, V, rfl, hcap, hmax, hcells, hV⟩ := h
  go_enter Try.func31, Try.ntmps31
  go_wp2_with (at_make; refine wpList_make_deeds _ rfl _ _ rfl _ _ gs.length rfl rfl rfl rfl (by omega) ?_; intro w1 hown hb1 hs1; have HOWN := Lib.hid hown; have HB1 := Lib.hid hb1; clear hown hb1)
  go_loopw [4] (fun i wr => ∃ k : Nat, k ≤ gs.length ∧ i = .int .i64 k ∧ OwnD w.heap.size wr (.slice (some ⟨w.heap.size, 0, none⟩) gs.length gs.length) (gs.take k ++ List.replicate (gs.length - k) ⟨false, [], 0, 0⟩) ∧ Below w.heap.size w wr) (fun i _ => gs.length - (intOf i).toNat)
  case atStart => exact ⟨0, Nat.zero_le _, rfl, by simpa using HOWN.out, HB1.out⟩
  case round =>
    obtain ⟨k, hk, rfl, ho, hb⟩ := hrel
    obtain ⟨wk, rfl⟩ : ∃ x, x = wr := ⟨_, rfl⟩
    clear HOWN HB1
    by_cases hlt : k < gs.length
    · obtain ⟨b, off, rfl, _, hcs⟩ := hcells (by omega)
      obtain ⟨c0, c1, c2, c3⟩ := hcs k hlt
      have d0 := (Above.of_below (B := 0) hb).cell (Nat.zero_le _) c0
      have d1 := (Above.of_below (B := 0) hb).cell (Nat.zero_le _) c1
      have d2 := (Above.of_below (B := 0) hb).cell (Nat.zero_le _) c2
      have d3 := (Above.of_below (B := 0) hb).cell (Nat.zero_le _) c3
      obtain ⟨av, cv, hvv, _⟩ := (hV k hlt).opened
      have hT := toDeed_any gs[k].back (V k) gs[k].code gs[k].right gs[k].near wk ((hV k hlt).below hb) (hc _ (List.getElem_mem hlt))
      have HST := Lib.hid (fill_stepD (z := ⟨false, [], 0, 0⟩) hlt rfl)
      have hlen : (gs.take k ++ List.replicate (gs.length - k) (⟨false, [], 0, 0⟩ : Dd)).length = gs.length := by simp; omega
      have HLE := Lib.hid hlen
      obtain ⟨x, hx⟩ : ∃ x, x = gs[k] := ⟨_, rfl⟩
      rw [← hx] at d0 d2 d3 hT HST
      rw [hvv] at d1 hT
      rw [← hx] at d1 hT
      unfold dV at hT
      have HO := Lib.hid ho
      have HB := Lib.hid hb
      have hzk := hb.size
      have hi0 : (0 : Int) ≤ (k : Int) := by omega
      have hi1 : (k : Int) < (gs.length : Int) := by omega
      clear hcs hcells hV hvv hx ho hb c0 c1 c2 c3 hlen
      go_wp2_with fail
      refine hT.mono ?_
      rintro e w3 ⟨a3, c3', rfl, ho3, hb3⟩
      unfold dV
      obtain ⟨g9, cap9, e9, _, _, _, _, hfz, hat⟩ := (HO.out.below hb3).opened (by rw [HLE.out]; omega)
      injection e9 with e9 e9b e9c
      clear e9b e9c
      injection e9 with e9
      injection e9 with e9 _
      subst e9
      obtain ⟨z, z0, z1, _, z2, z3⟩ := hat k (by rw [HLE.out]; exact hlt)
      have hput := (HO.out.below hb3).put k (by rw [HLE.out]; exact hlt) (x := x) (ho3.mono hzk) (HO.out.apartNew hb3 ho3 k)
      rw [HST.out] at hput
      have hf0 := hfz (k * 4)
      have hf1 := set_thawedG w3 w.heap.size (k * 4) (k * 4 + 1) (.bool x.back) (hfz _)
      have hf2 := set_thawedG (w3.setCell ⟨w.heap.size, k * 4, none⟩ (.bool x.back)) w.heap.size (k * 4 + 1) (k * 4 + 2) (.slice a3 x.code.length c3') (set_thawedG w3 w.heap.size (k * 4) (k * 4 + 2) (.bool x.back) (hfz _))
      have hf3 := set_thawedG ((w3.setCell ⟨w.heap.size, k * 4, none⟩ (.bool x.back)).setCell ⟨w.heap.size, k * 4 + 1, none⟩ (.slice a3 x.code.length c3')) w.heap.size (k * 4 + 2) (k * 4 + 3) (.int .i64 x.right) (set_thawedG (w3.setCell ⟨w.heap.size, k * 4, none⟩ (.bool x.back)) w.heap.size (k * 4 + 1) (k * 4 + 3) (.slice a3 x.code.length c3') (set_thawedG w3 w.heap.size (k * 4) (k * 4 + 3) (.bool x.back) (hfz _)))
      have hc1 := set_seenG w3 w.heap.size (k * 4) (k * 4 + 1) (.bool x.back) _ z1 (by omega)
      have hc2 := set_seenG (w3.setCell ⟨w.heap.size, k * 4, none⟩ (.bool x.back)) w.heap.size (k * 4 + 1) (k * 4 + 2) (.slice a3 x.code.length c3') _ (set_seenG w3 w.heap.size (k * 4) (k * 4 + 2) (.bool x.back) _ z2 (by omega)) (by omega)
      have hc3 := set_seenG ((w3.setCell ⟨w.heap.size, k * 4, none⟩ (.bool x.back)).setCell ⟨w.heap.size, k * 4 + 1, none⟩ (.slice a3 x.code.length c3')) w.heap.size (k * 4 + 2) (k * 4 + 3) (.int .i64 x.right) _ (set_seenG (w3.setCell ⟨w.heap.size, k * 4, none⟩ (.bool x.back)) w.heap.size (k * 4 + 1) (k * 4 + 3) (.slice a3 x.code.length c3') _ (set_seenG w3 w.heap.size (k * 4) (k * 4 + 3) (.bool x.back) _ z3 (by omega)) (by omega)) (by omega)
      unfold put4 at hput
      have HP := Lib.hid hput.1
      have HB3 := Lib.hid ((HB.out.trans (hb3.mono hzk)).grown hput.2 (Nat.le_trans hzk hb3.size) (fun q hq => by cases hq; exact Nat.le_refl _))
      clear hT ho3 hb3 hfz hat hput z1 z2 z3
      go_wp2
      go_roundw
      case rel => exact ⟨k + 1, by omega, by go_num, HP.out, HB3.out⟩
      case measure => simp [intOf]; omega
    · have e : gs.take k ++ List.replicate (gs.length - k) (⟨false, [], 0, 0⟩ : Dd) = gs := by rw [List.take_of_length_le (by omega), show gs.length - k = 0 by omega]; simp
      rw [e] at ho
      have HO := Lib.hid ho
      have HB := Lib.hid hb
      have HC := Lib.hid hc
      clear e ho hb hcells hV hc
      go_wp2
      go_ret
      exact ⟨_, _, rfl, HO.out, HB.out⟩

end Go.Proofs.Ytjecolbodelniaa
