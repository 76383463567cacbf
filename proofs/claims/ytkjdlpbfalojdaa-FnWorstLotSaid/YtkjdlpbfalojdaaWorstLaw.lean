/- The walk of FnWorstLot. -/
import Derived.Test.YtkjdlpbfalojdaaHasRow
import Derived.Test.YtkjdlpbfalojdaaWorstPig
import Derived.Test.YtkjdlpbfalojdaaAlive
namespace Go.Proofs.Ytkjdlpbfalojdaa
open Go.RowKit Go.Shelf
set_option linter.unusedVariables false
set_option maxRecDepth 100000

theorem results_tmp4 {fn : Func} {t u v x : Tmp} (h : fn.results = #[.tmp t, .tmp u, .tmp v, .tmp x]) (tmps : Array Value) (P : Program) (w : World) :
    (results fn tmps).run P w = .ok (.tuple #[tmps.getD t undef, tmps.getD u undef, tmps.getD v undef, tmps.getD x undef]) w := by
  simp [results, h]

theorem drawWorstLot_any {B : Nat} (v : Value) (bs : List Int) (w : World) (h : Bytes B w v bs) :
    Calls Try.prog 26 #[v] w fun e w' => ∃ (x c : Int) (gs : List Gs) (a' : Option Addr) (c' : Nat) (ys : List Int) (a2 : Option Addr) (c2 : Nat), e = .returned (.tuple #[.int .i64 x, .int .i64 c, .slice a' gs.length c', .slice a2 ys.length c2]) ∧ GL w.heap.size w' (.slice a' gs.length c') gs ∧ Ints w.heap.size w' (.slice a2 ys.length c2) ys ∧ Below w.heap.size w w' := by
  obtain ⟨a0, cap0, rfl, _⟩ := id h.1
  rw [List.length_map] at h ⊢
  have hO := open_any _ bs w h
  clear h
  go_enter Try.func26, Try.ntmps26
  go_wp2_with fail
  refine hO.mono ?_
  rintro e w1 ⟨a, cap, bs1, rfl, hR1, hb1⟩
  have HB1 := Lib.hid hb1
  have hz1 := hb1.size
  have hK := hR1.lt
  have hG := guessing_any 14 w1 _ a cap bs1 0 hR1 (by omega) (by omega) (by omega)
  clear hO hb1 hR1
  go_wp2_with fail
  refine hG.mono ?_
  rintro e w2 ⟨x, c, gs, a', c', rfl, ho, h64, _, hx1, hx4, hc0, hc4, _, _, ⟨p2, hR2, hp2⟩, hg2⟩
  have hz2 := hg2.size
  have hC := code_any x c 14 (max c 1) w2 _ a cap bs1 p2 hR2 (by omega) (by omega) hx4 hc0 (by omega) (by omega) (by omega) (.inr hx1) rfl
  have HO := Lib.hid (ho.toGL h64)
  have HB2 := Lib.hid (HB1.out.grown hg2 hz1 (fun j hj => by cases hj; exact Nat.le_refl _))
  clear hG ho h64 hg2 hR2
  go_wp2_with fail
  refine hC.mono ?_
  rintro e w3 ⟨ys, a3, c3, rfl, hu3, _, hyi, _, _, hg3⟩
  have HU := Lib.hid ((hu3.toInts hyi).mono (Nat.le_trans hz1 hz2))
  have HO3 := Lib.hid ((HO.out.keep (Above.of_grown hg3 hK)).mono hz1)
  have HB3 := Lib.hid (HB2.out.grown hg3 HB2.out.size (fun j hj => by cases hj; exact Nat.le_refl _))
  clear hC hu3 hyi hg3 HO
  go_wp2
  ((try simp only [Exit.inBlock, Exit.then]); refine bodyPost_ret (results_tmp4 rfl _ _ _) rfl ?_)
  exact ⟨x, c, gs, a', c', ys, a3, c3, rfl, HO3.out, HU.out, HB3.out⟩

theorem worst_neg {p c : Int} {gs : List Gs} {y : List Int} (h : worstLotZ p c gs y < 0) : worstLotZ p c gs y = -1 := by
  unfold worstLotZ at h ⊢
  split
  · rename_i q
    rw [if_pos q] at h
    omega
  · rfl
theorem worst_fits {p c : Int} {gs : List Gs} {y : List Int} (h : ¬ worstLotZ p c gs y < 0) : (p = 1 ∨ p = 2 ∨ p = 3) ∧ worstLotZ p c gs y ≤ (fitL p c gs).length ∧ ((fitL p c gs).length : Int) ≤ worstLotZ p c gs y * (p + 1) * (p + 1) ∧ (fitL p c gs).length ≤ 125 := by
  unfold worstLotZ at h ⊢
  split at h
  · rename_i q
    rw [if_pos q]
    have hcp := codeOkB_iff.1 q.2
    obtain ⟨n, m, rfl, rfl, hn3, _⟩ := own_nat hcp.1
    have h1 := worstN_le (fitL n m gs) y
    have h2 := worst_pig hn3 (fit_codes (p := n) (c := m) (gs := gs)) hcp
    have h3 := fitL_len n m gs
    have hn1 := hcp.1.1.1
    obtain ⟨W, hW⟩ : ∃ W, W = worstN (fitL n m gs) y := ⟨_, rfl⟩
    rw [← hW] at h1 h2 ⊢
    have hc : n = 1 ∨ n = 2 ∨ n = 3 := by omega
    rcases hc with rfl | rfl | rfl
    · exact ⟨by omega, by omega, by omega, by omega⟩
    · exact ⟨by omega, by omega, by omega, by omega⟩
    · exact ⟨by omega, by omega, by omega, by omega⟩
  · omega

set_option maxHeartbeats 1000000 in
theorem FnWorstLot_walk (v : Value) (bs : List Int) (w : World) (h : Bytes 0 w v bs) :
    Calls Try.prog 5 #[v] w fun e w' => e = .returned (.bool true) ∧ Below w.heap.size w w' := by
  obtain ⟨a0, cap0, rfl, hc1, hc2, hc3⟩ := id h.1
  rw [List.length_map] at h ⊢
  clear hc1 hc2 hc3
  have hDr := drawWorstLot_any _ bs w h
  clear h
  by_cases hs : 1048576 < bs.length
  · go_enter Try.func5, Try.ntmps5
    go_wp2
    go_ret
    exact ⟨rfl, Below.refl _ _⟩
  · go_enter Try.func5, Try.ntmps5
    go_wp2_with fail
    refine hDr.mono ?_
    rintro e w1 ⟨p, c, gs, a1, c1, ys, a2, c2, rfl, hg1, hu1, hb1⟩
    have HB1 := Lib.hid hb1
    have HG1 := Lib.hid hg1
    have HU1 := Lib.hid hu1
    have HNG := Lib.hid (fun h => worst_neg (p := p) (c := c) (gs := gs) (y := ys) h)
    have HFT := Lib.hid (fun h => worst_fits (p := p) (c := c) (gs := gs) (y := ys) h)
    have HI := Lib.hid (worstLotI_any p c _ _ gs ys w1 hg1 hu1)
    have HS := Lib.hid (fun W (h : GL w.heap.size W (.slice a1 gs.length c1) gs) (h' : Ints w.heap.size W (.slice a2 ys.length c2) ys) => worstLotS_any p c _ _ gs ys W h h')
    have HFI := Lib.hid (fun W (h : GL w.heap.size W (.slice a1 gs.length c1) gs) => fitI_any p c _ gs W h)
    unfold FreshR at HFI
    obtain ⟨n, hn⟩ : ∃ n, n = worstLotZ p c gs ys := ⟨_, rfl⟩
    obtain ⟨L, hL⟩ : ∃ L, L = fitL p c gs := ⟨_, rfl⟩
    rw [← hn] at HNG HFT HI HS
    rw [← hL] at HFT HFI
    clear hDr hb1 hg1 hu1 hn hL
    go_wp2_with fail
    refine HI.out.mono ?_
    rintro e w2 ⟨rfl, hb2⟩
    have HB2 := Lib.hid (HB1.out.trans (hb2.mono HB1.out.size))
    have HG2 := Lib.hid (HG1.out.below hb2)
    have HU2 := Lib.hid (HU1.out.below hb2)
    clear HI hb2 HG1 HU1
    go_wp2_with fail
    refine (HS.out _ HG2.out HU2.out).mono ?_
    rintro e w3 ⟨rfl, hb3⟩
    have HB3 := Lib.hid (HB2.out.trans (hb3.mono HB2.out.size))
    have HG3 := Lib.hid (HG2.out.below hb3)
    clear HS hb3 HG2 HU2
    have hnn : (n != n) = false := by simp
    by_cases hlt : n < 0
    · obtain rfl := HNG.out hlt
      go_wp2_with fail
      refine (alive_any _).mono ?_
      rintro e w4 ⟨rfl, rfl⟩
      go_wp2
      go_ret
      exact ⟨rfl, HB3.out⟩
    · obtain ⟨hp, h1, h2, h3⟩ := HFT.out (by omega)
      go_wp2_with fail
      refine (HFI.out _ HG3.out).mono ?_
      rintro e w4 ⟨a4, c4, rfl, _, hb4⟩
      have HB4 := Lib.hid (HB3.out.trans (hb4.mono HB3.out.size))
      clear HFI hb4 HG3
      obtain ⟨N, hN⟩ : ∃ N, N = L.length := ⟨_, rfl⟩
      rw [← hN] at h1 h2 h3 ⊢
      clear hN
      have hle : n ≤ (N : Int) := h1
      rcases hp with rfl | rfl | rfl
      all_goals
        simp only [Int.reduceAdd] at h2
        go_wp2
        go_ret
        exact ⟨rfl, HB4.out⟩

end Go.Proofs.Ytkjdlpbfalojdaa
