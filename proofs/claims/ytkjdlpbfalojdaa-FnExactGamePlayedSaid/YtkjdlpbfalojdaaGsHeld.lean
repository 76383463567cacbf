/- Lists of guesses: are the marks still there; how many cells; are two lists alike. -/
import Derived.Test.YtkjdlpbfalojdaaGsMark
namespace Go.Proofs.Ytkjdlpbfalojdaa
open Go.RowKit Go.Shelf
set_option linter.unusedVariables false
set_option maxRecDepth 100000

theorem markGs_get {gs : List Gs} {k : Nat} (h : k < gs.length) (m : Int) (h' : k < (markGs gs m).length) : (markGs gs m)[k] = ⟨markL gs[k].code.length (endK (gs.take k) m), endK (gs.take k) m + gs[k].code.length, endK (gs.take k) m + gs[k].code.length + 1⟩ := by
  have e : markGs gs m = markGs (gs.take k) m ++ markGs (gs.drop k) (endK (gs.take k) m) := by rw [← markGs_app, List.take_append_drop]
  rw [List.getElem_of_eq e, List.getElem_append_right (by rw [markGs_length, List.length_take]; omega)]
  have h2 := List.drop_eq_getElem_cons h
  have e2 : markGs (gs.drop k) (endK (gs.take k) m) = ⟨markL gs[k].code.length (endK (gs.take k) m), endK (gs.take k) m + gs[k].code.length, endK (gs.take k) m + gs[k].code.length + 1⟩ :: markGs (gs.drop (k + 1)) (endK (gs.take k) m + gs[k].code.length + 2) := by rw [h2]; rfl
  rw [List.getElem_of_eq e2]
  have e3 : k - (markGs (gs.take k) m).length = 0 := by simp; omega
  simp only [e3, List.getElem_cons_zero]
theorem markGs_in64 (gs : List Gs) (m : Int) (h0 : 0 ≤ m) (h1 : m + totG gs ≤ 1099511627776) : In64G (markGs gs m) := by
  intro x hx y hy
  obtain ⟨k, hk, rfl⟩ := List.getElem_of_mem hx
  have hk' : k < gs.length := by simpa using hk
  rw [markGs_get hk'] at hy
  have := totG_next hk'
  have := endK_tot (gs.take k) m
  simp only [markL, List.mem_map, List.mem_range] at hy
  obtain ⟨j, hj, rfl⟩ := hy
  unfold In64
  omega

theorem heldGuessS_any {B : Nat} (v : Value) (gs : List Gs) (m : Int) (w : World) (h : GL B w v (markGs gs m)) (h0 : 0 ≤ m) (h1 : m + totG gs ≤ 1099511627776) :
    Calls Try.prog 49 #[v, .int .i64 m] w fun e w' => e = .returned (.int .i64 (endK gs m)) ∧ w = w' := by
  obtain ⟨a, cap, V, rfl, hcap, hmax, hcells, hV⟩ := h
  have HG := Lib.hid (fun (k : Nat) (hk : k < gs.length) (h' : k < (markGs gs m).length) => markGs_get hk m h')
  simp only [markGs_length] at hcap hcells hV ⊢
  go_enter Try.func49, Try.ntmps49
  go_wp2
  go_loop [1, 5] (fun s i => ∃ (k : Nat), k ≤ gs.length ∧ i = .int .i64 k ∧ s = .int .i64 (endK (gs.take k) m)) (fun _ i => gs.length - (intOf i).toNat)
  case atStart => exact ⟨0, Nat.zero_le _, rfl, rfl⟩
  case round =>
    obtain ⟨k, hk, rfl, rfl⟩ := hrel
    by_cases hlt : k < gs.length
    · obtain ⟨b, off, rfl, _, hc⟩ := hcells (by omega)
      obtain ⟨c1, c2, c3⟩ := hc k hlt
      have hVk := hV k hlt
      rw [HG.out k hlt] at c2 c3 hVk
      have htn := totG_next hlt
      have hem := endK_tot (gs.take k) m
      have HNX := Lib.hid (endK_next hlt m)
      obtain ⟨e, he⟩ : ∃ e, e = endK (gs.take k) m := ⟨_, rfl⟩
      rw [← he] at c2 c3 hVk hem HNX ⊢
      obtain ⟨n, hn⟩ : ∃ n, n = gs[k].code.length := ⟨_, rfl⟩
      simp only [← hn] at c2 c3 hVk htn
      rw [← hn] at HNX
      have hH := heldIntS_any (V k) (markL n e) e w hVk (by omega) (by omega) (by simp; omega)
      rw [heldL_mark] at hH
      have he0 : 0 ≤ e := by omega
      have he1 : e + n + 2 ≤ 1099511627776 := by omega
      have hnn : ¬ (e + (n : Int) < 0) := by omega
      obtain ⟨av, cv, hvv, _⟩ := hVk.opened
      rw [show (markL n e).length = n by simp] at hvv
      rw [hvv] at c1 hH
      clear hcells hc hV hVk hvv hem htn he hn
      go_wp2_with fail
      refine hH.mono ?_
      rintro e2 w2 ⟨rfl, rfl⟩
      clear hH
      go_wp2
      go_round
      case rel => exact ⟨k + 1, by omega, by go_num, by rw [HNX.out]; go_num⟩
      case measure => simp [intOf]; omega
    · have e : gs.take k = gs := List.take_of_length_le (by omega)
      rw [e]
      clear e
      go_wp2
      go_ret
      exact ⟨rfl, rfl⟩

theorem szGuessS_any {B : Nat} (v : Value) (gs : List Gs) (l : Int) (w : World) (h : GL B w v gs) (h0 : 0 ≤ l) (h1 : l ≤ 1099511627776) :
    Calls Try.prog 32 #[v, .int .i64 l] w fun e w' => e = .returned (.int .i64 (szSS (gs.map Gs.code) l)) ∧ Below w.heap.size w w' := by
  obtain ⟨a, cap, V, rfl, hcap, hmax, hcells, hV⟩ := h
  by_cases hle : (gs.length : Int) ≤ l
  · have HS := Lib.hid (show szGo (gs.map Gs.code) (l - (gs.length : Int)) = szSS (gs.map Gs.code) l by unfold szSS; rw [List.length_map, if_pos hle])
    have hd : ¬ (l - (gs.length : Int) < 0) := by omega
    go_enter Try.func32, Try.ntmps32
    go_wp2
    go_loopw [1, 5] (fun s i wr => ∃ (k : Nat) (c : Int), k ≤ gs.length ∧ i = .int .i64 k ∧ s = .int .i64 c ∧ szGo ((gs.drop k).map Gs.code) c = szSS (gs.map Gs.code) l ∧ 0 ≤ c ∧ c ≤ l ∧ Below w.heap.size w wr) (fun _ i _ => gs.length - (intOf i).toNat)
    case atStart => exact ⟨0, _, Nat.zero_le _, rfl, rfl, by rw [← HS.out]; simp, by omega, by omega, Below.refl _ _⟩
    case round =>
      obtain ⟨k, c, hk, rfl, rfl, ht, hc0, hc1, hb⟩ := hrel
      obtain ⟨wk, rfl⟩ : ∃ x, x = wr := ⟨_, rfl⟩
      clear hd
      by_cases hlt : k < gs.length
      · obtain ⟨b, off, rfl, _, hc⟩ := hcells (by omega)
        obtain ⟨c1, c2, c3⟩ := hc k hlt
        have d1 := (Above.of_below (B := 0) hb).cell (Nat.zero_le _) c1
        have d2 := (Above.of_below (B := 0) hb).cell (Nat.zero_le _) c2
        have d3 := (Above.of_below (B := 0) hb).cell (Nat.zero_le _) c3
        obtain ⟨av, cv, hvv, _⟩ := (hV k hlt).opened
        have hH := szGuess_any (V k) gs[k].code gs[k].right gs[k].near c wk ((hV k hlt).below hb) hc0 (by omega)
        rw [List.drop_eq_getElem_cons hlt, List.map_cons, szGo] at ht
        rw [hvv] at d1 hH
        unfold gV at hH
        unfold szR at hH
        obtain ⟨n, hn⟩ : ∃ n, n = gs[k].code.length := ⟨_, rfl⟩
        obtain ⟨r, hr⟩ : ∃ r, r = gs[k].right := ⟨_, rfl⟩
        obtain ⟨nr, hnr⟩ : ∃ nr, nr = gs[k].near := ⟨_, rfl⟩
        rw [← hn] at hH ht d1
        rw [← hr] at hH d2
        rw [← hnr] at hH d3
        have hzk := hb.size
        have HB := Lib.hid hb
        clear hc hcells hV hvv c1 c2 c3 hn hr hnr hb
        by_cases hneg : (n : Int) ≤ c
        · rw [if_pos hneg] at ht hH
          have HT := Lib.hid ht
          have hnn : ¬ (c - (n : Int) < 0) := by omega
          clear ht
          go_wp2_with fail
          refine hH.mono ?_
          rintro e w2 ⟨rfl, hb2⟩
          have HB2 := Lib.hid (HB.out.trans (hb2.mono hzk))
          clear hH hb2
          go_wp2
          go_roundw
          case rel => exact ⟨k + 1, _, by omega, by go_num, rfl, HT.out, by omega, by omega, HB2.out⟩
          case measure => simp [intOf]; omega
        · rw [if_neg hneg] at ht hH
          have HT := Lib.hid ht
          clear ht
          go_wp2_with fail
          refine hH.mono ?_
          rintro e w2 ⟨rfl, hb2⟩
          have HB2 := Lib.hid (HB.out.trans (hb2.mono hzk))
          clear hH hb2
          go_wp2
          go_ret
          exact ⟨ret_int (by rw [← HT.out]), HB2.out⟩
      · have e : gs.drop k = [] := List.drop_eq_nil_of_le (by omega)
        rw [e, List.map_nil, szGo] at ht
        have HT := Lib.hid ht
        have HB := Lib.hid hb
        clear ht e hb
        go_wp2
        go_ret
        exact ⟨ret_int (by rw [← HT.out]), HB.out⟩
  · have HS := Lib.hid (show szSS (gs.map Gs.code) l = -1 by unfold szSS; rw [List.length_map, if_neg hle])
    have hd : l - (gs.length : Int) < 0 := by omega
    go_enter Try.func32, Try.ntmps32
    go_wp2
    go_ret
    exact ⟨ret_int (by rw [HS.out]), Below.refl _ _⟩

set_option maxHeartbeats 2000000 in
theorem eqGuessS_self {B C : Nat} (v v' : Value) (gs : List Gs) (w : World) (h : GL B w v gs) (h' : GL C w v' gs) :
    Calls Try.prog 35 #[v, v'] w fun e w' => e = .returned (.bool true) ∧ Below w.heap.size w w' := by
  obtain ⟨a, cap, V, rfl, hcap, hmax, hcells, hV⟩ := h
  obtain ⟨a', cap', V', rfl, hcap', hmax', hcells', hV'⟩ := h'
  go_enter Try.func35, Try.ntmps35
  go_wp2
  go_loopw [5] (fun i wr => ∃ k : Nat, k ≤ gs.length ∧ i = .int .i64 k ∧ Below w.heap.size w wr) (fun i _ => gs.length - (intOf i).toNat)
  case atStart => exact ⟨0, Nat.zero_le _, rfl, Below.refl _ _⟩
  case round =>
    obtain ⟨k, hk, rfl, hb⟩ := hrel
    obtain ⟨wk, rfl⟩ : ∃ x, x = wr := ⟨_, rfl⟩
    by_cases hlt : k < gs.length
    · obtain ⟨b, off, rfl, _, hc⟩ := hcells (by omega)
      obtain ⟨b', off', rfl, _, hc'⟩ := hcells' (by omega)
      obtain ⟨c1, c2, c3⟩ := hc k hlt
      obtain ⟨e1, e2, e3⟩ := hc' k hlt
      obtain ⟨av, cv, hvv, _⟩ := (hV k hlt).opened
      obtain ⟨av', cv', hvv', _⟩ := (hV' k hlt).opened
      have hVk := hV k hlt
      have hVk' := hV' k hlt
      obtain ⟨x, hx⟩ : ∃ x, x = gs[k] := ⟨_, rfl⟩
      rw [← hx] at c2 c3 e2 e3 hvv hvv' hVk hVk'
      rw [hvv] at c1 hVk
      rw [hvv'] at e1 hVk'
      have K1 : ∀ z : GrownC wk, z.val.cell? ⟨b, off + k * 3, none⟩ = some (.slice av x.code.length cv) := fun z => (Above.of_below (B := 0) (hb.trans (z.ok.mono hb.size))).cell (Nat.zero_le _) c1
      have K2 : ∀ z : GrownC wk, z.val.cell? ⟨b, off + k * 3 + 1, none⟩ = some (.int .i64 x.right) := fun z => (Above.of_below (B := 0) (hb.trans (z.ok.mono hb.size))).cell (Nat.zero_le _) c2
      have K3 : ∀ z : GrownC wk, z.val.cell? ⟨b, off + k * 3 + 2, none⟩ = some (.int .i64 x.near) := fun z => (Above.of_below (B := 0) (hb.trans (z.ok.mono hb.size))).cell (Nat.zero_le _) c3
      have L1 : ∀ z : GrownC wk, z.val.cell? ⟨b', off' + k * 3, none⟩ = some (.slice av' x.code.length cv') := fun z => (Above.of_below (B := 0) (hb.trans (z.ok.mono hb.size))).cell (Nat.zero_le _) e1
      have L2 : ∀ z : GrownC wk, z.val.cell? ⟨b', off' + k * 3 + 1, none⟩ = some (.int .i64 x.right) := fun z => (Above.of_below (B := 0) (hb.trans (z.ok.mono hb.size))).cell (Nat.zero_le _) e2
      have L3 : ∀ z : GrownC wk, z.val.cell? ⟨b', off' + k * 3 + 2, none⟩ = some (.int .i64 x.near) := fun z => (Above.of_below (B := 0) (hb.trans (z.ok.mono hb.size))).cell (Nat.zero_le _) e3
      have hC : ∀ z : GrownC wk, Calls Try.prog 79 #[.agg #[.slice av x.code.length cv, .int .i64 x.right, .int .i64 x.near], .agg #[.slice av' x.code.length cv', .int .i64 x.right, .int .i64 x.near]] z.val (fun e w'' => e = .returned (.bool true) ∧ ∃ z' : GrownC wk, w'' = z'.val) := fun z =>
        (eqGuess_any _ _ x.code x.code x.right x.near x.right x.near z.val (hVk.below (hb.trans (z.ok.mono hb.size))) (hVk'.below (hb.trans (z.ok.mono hb.size)))).mono (fun e w'' ⟨he, hbb⟩ => ⟨by rw [he]; simp, ⟨w'', z.ok.trans (hbb.mono z.ok.size)⟩, rfl⟩)
      have HB := Lib.hid hb
      have hk0 : (0 : Int) ≤ (k : Int) := by omega
      have hk1 : (k : Int) < (gs.length : Int) := by omega
      clear hc hc' hcells hcells' hV hV' hvv hvv' hVk hVk' hx hb c1 c2 c3 e1 e2 e3
      go_wp2
      refine wp_region_grownC (by kernel_rfl) (by kernel_rfl) ?_
      repeat (first | go_big_quiet_skip | (go_big_quiet_want; go_big_quiet_op; first | go_big_quiet_on | go_big_quiet_call ((go_at_call 79; exact hC _))))
      refine wpQuiet_nil ?_
      intro w8 hw8
      obtain ⟨z8, hz8⟩ := hw8
      have HB8 := Lib.hid (HB.out.trans (z8.ok.mono HB.out.size))
      rw [← hz8] at HB8
      clear hz8
      go_wp2
      go_roundw
      case rel => exact ⟨k + 1, by omega, by go_num, HB8.out⟩
      case measure => simp [intOf]; omega
    · have HB := Lib.hid hb
      clear hcells hcells' hV hV' hb
      go_wp2
      go_ret
      exact ⟨rfl, HB.out⟩

end Go.Proofs.Ytkjdlpbfalojdaa
