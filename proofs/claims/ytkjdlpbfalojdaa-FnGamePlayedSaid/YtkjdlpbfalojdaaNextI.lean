/- The program's WorstLot and NextGuess. -/
import Derived.Test.YtkjdlpbfalojdaaWorstI
namespace Go.Proofs.Ytkjdlpbfalojdaa
open Go.RowKit
set_option linter.unusedVariables false
set_option maxRecDepth 100000

set_option maxHeartbeats 2000000 in
theorem worstLotI_any {B C : Nat} (p c : Int) (v u : Value) (gs : List Gs) (y : List Int) (w : World) (h : GL B w v gs) (hu : Ints C w u y) :
    Calls Try.prog 27 #[.int .i64 p, .int .i64 c, v, u] w (GrownInt (worstLotZ p c gs y) w) := by
  have hG := guessesI_any p c v gs w h
  have hsh : ∃ a cap, v = .slice a gs.length cap := by obtain ⟨a, cap, _, hv, _⟩ := h; exact ⟨a, cap, hv⟩
  obtain ⟨a, cap, rfl⟩ := hsh
  obtain ⟨au, cu, rfl, _⟩ := hu.opened
  have HU := Lib.hid hu
  have HH := Lib.hid h
  cases hg : guessesB p c gs
  · rw [hg] at hG
    have HR := Lib.hid (show worstLotZ p c gs y = -1 from by unfold worstLotZ; rw [hg]; rfl)
    clear hg h hu
    go_enter Try.func27, Try.ntmps27
    go_wp2_with fail
    refine hG.mono ?_
    rintro e w2 ⟨rfl, hb2⟩
    have HB2 := Lib.hid hb2
    clear hG hb2
    go_wp2
    go_ret
    exact ⟨ret_int (by rw [HR.out]), HB2.out⟩
  · rw [hg] at hG
    have hC := fun (W : World) (hb : Below w.heap.size w W) => codeOkI_any p c (.slice au y.length cu) y W (hu.below hb)
    cases hc : codeOkB p c y
    · rw [hc] at hC
      have HR := Lib.hid (show worstLotZ p c gs y = -1 from by unfold worstLotZ; rw [hc, if_neg (by simp)])
      have HC := Lib.hid hC
      clear hg hc h hu hC
      go_enter Try.func27, Try.ntmps27
      go_wp2_with fail
      refine hG.mono ?_
      rintro e w2 ⟨rfl, hb2⟩
      have hC := HC.out w2 hb2
      have HB2 := Lib.hid hb2
      clear hG hb2 HC
      go_wp2_with fail
      refine hC.mono ?_
      rintro e w3 ⟨rfl, hb3⟩
      have HB3 := Lib.hid (HB2.out.trans (hb3.mono HB2.out.size))
      clear hC hb3
      go_wp2
      go_ret
      exact ⟨ret_int (by rw [HR.out]), HB3.out⟩
    · rw [hc] at hC
      have HR := Lib.hid (show worstLotZ p c gs y = (worstN (fitL p c gs) y : Int) from by unfold worstLotZ; rw [if_pos ⟨hg, hc⟩])
      have hcp := codeOkB_iff.1 hc
      obtain ⟨n, m, rfl, rfl, _, _⟩ := own_nat (guesses_codes hg)
      have HC := Lib.hid hC
      have HF := Lib.hid (fun (W : World) (hb : Below w.heap.size w W) => fitI_any n m (.slice a gs.length cap) gs W (h.below hb))
      have HW := Lib.hid (fun (W0 W : World) (b : Option Addr) (d : Nat) (ho : OwnR W0.heap.size W (.slice b (fitL n m gs).length d) (fitL n m gs)) (hb : Below w.heap.size w W) => worstI_any n m _ (.slice au y.length cu) (fitL n m gs) y W (fit_rows ho) (hu.below hb) fit_codes hcp (by have := fitL_len n m gs; omega))
      clear hg hc h hu hcp hC
      go_enter Try.func27, Try.ntmps27
      go_wp2_with fail
      refine hG.mono ?_
      rintro e w2 ⟨rfl, hb2⟩
      have hC := HC.out w2 hb2
      have HB2 := Lib.hid hb2
      clear hG hb2 HC
      go_wp2_with fail
      refine hC.mono ?_
      rintro e w3 ⟨rfl, hb3⟩
      have HB3 := Lib.hid (HB2.out.trans (hb3.mono HB2.out.size))
      have hF := HF.out w3 HB3.out
      clear hC hb3 HF
      go_wp2_with fail
      refine hF.mono ?_
      rintro e w4 ⟨b, d, rfl, ho4, hb4⟩
      have HB4 := Lib.hid (HB3.out.trans (hb4.mono HB3.out.size))
      have hW := HW.out w3 w4 b d ho4 HB4.out
      clear hF ho4 hb4 HW
      go_wp2_with fail
      refine hW.mono ?_
      rintro e w5 ⟨rfl, hb5⟩
      have HB5 := Lib.hid hb5
      clear hW hb5
      go_wp2
      go_ret
      exact ⟨ret_int (by rw [HR.out]), HB4.out.trans (HB5.out.mono HB4.out.size)⟩

theorem bestK_pair (left : List (List Int)) (k : Nat) : bestK left k = ((bestK left k).1, (bestK left k).2) := rfl

set_option maxHeartbeats 4000000 in
theorem nextI_any {B : Nat} (p c : Int) (v : Value) (gs : List Gs) (w : World) (h : GL B w v gs) :
    Calls Try.prog 40 #[.int .i64 p, .int .i64 c, v] w (NextOut p c gs w) := by
  have hF := fitI_any p c v gs w h
  have hsh : ∃ a cap, v = .slice a gs.length cap := by obtain ⟨a, cap, _, hv, _⟩ := h; exact ⟨a, cap, hv⟩
  obtain ⟨a, cap, rfl⟩ := hsh
  have HLN := Lib.hid (fitL_len p c gs)
  have HCD := Lib.hid (fit_codes (p := p) (c := c) (gs := gs))
  unfold NextOut
  obtain ⟨L, hL⟩ : ∃ L, L = fitL p c gs := ⟨_, rfl⟩
  rw [← hL] at hF HLN HCD ⊢
  clear hL h
  rcases Nat.eq_zero_or_pos L.length with h0 | h0
  · have hl0 : ((L.length : Int) == 0) = true := by rw [h0]; rfl
    have HL0 := Lib.hid (List.eq_nil_of_length_eq_zero h0)
    clear h0
    go_enter Try.func40, Try.ntmps40
    go_wp2_with fail
    refine hF.mono ?_
    rintro e w2 ⟨b, d, rfl, ho2, hb2⟩
    have HB2 := Lib.hid hb2
    clear hF ho2 hb2
    go_wp2
    go_ret2
    exact ⟨none, 0, by rw [HL0.out]; rfl, by rw [HL0.out]; exact OwnI.empty _ _, HB2.out⟩
  · have hl0 : ((L.length : Int) == 0) = false := by rw [beq_eq_false_iff_ne]; omega
    have hLn := HLN.out
    go_enter Try.func40, Try.ntmps40
    go_wp2_with fail
    refine hF.mono ?_
    rintro e w2 ⟨b, d, rfl, ho2, hb2⟩
    obtain ⟨b', d', he, hd1, hd2⟩ := ho2.shape
    injection he with e1 e2 e3
    subst e1 e3
    clear e2
    obtain ⟨g, u0, rfl, hgB, hcu, hou⟩ := ho2.at 0 h0
    obtain ⟨au, cu, rfl, _⟩ := own_shape hou
    have hcp := HCD.out _ (List.getElem_mem h0)
    obtain ⟨n, m, rfl, rfl, _, _⟩ := own_nat hcp.1
    have hC : ∀ z : GrownC w2, Calls Try.prog 75 #[.slice (some ⟨g, 0, none⟩) L.length d, .slice au L[0].length cu] z.val (fun e w'' => e = .returned (.int .i64 (worstN L L[0] : Nat)) ∧ ∃ z' : GrownC w2, w'' = z'.val) := fun z =>
      (worstI_any n m _ _ L L[0] z.val ((ho2.below z.ok).rows fun x hx => code_in64 (HCD.out x hx)) ((OwnI.below hou z.ok).toInts (code_in64 hcp)) HCD.out hcp (by omega)).mono (fun e w'' ⟨he, hb⟩ => ⟨he, ⟨w'', z.ok.trans (hb.mono z.ok.size)⟩, rfl⟩)
    have C1 : ∀ z : GrownC w2, z.val.cell? ⟨g, 0, none⟩ = some (.slice au L[0].length cu) := fun z => (Above.of_below (B := 0) z.ok).cell (Nat.zero_le _) hcu
    obtain ⟨x0, hx0⟩ : ∃ x0, x0 = L[0] := ⟨_, rfl⟩
    rw [← hx0] at hC C1 hou
    have HO2 := Lib.hid ho2
    have HB2 := Lib.hid hb2
    have HOU := Lib.hid hou
    have HONE := Lib.hid (show bestK L 1 = (x0, (worstN L x0 : Int)) from by rw [bestK_one, hx0]; simp [List.getD, List.getElem?_eq_getElem h0])
    clear hF ho2 hb2 hou hcp hcu hx0
    go_wp2
    refine wp_region_grownC (by kernel_rfl) (by kernel_rfl) ?_
    repeat (first | go_big_quiet_skip | (go_big_quiet_want; go_big_quiet_op; first | go_big_quiet_on | go_big_quiet_call ((go_at_call 75; exact hC _))))
    refine wpQuiet_nil ?_
    intro w8 hw8
    obtain ⟨z8, hz8⟩ := hw8
    have HB8 := Lib.hid z8.ok
    rw [← hz8] at HB8
    clear hz8 hC C1
    have HO8 := Lib.hid (HO2.out.below HB8.out)
    have HU8 := Lib.hid (OwnI.below HOU.out HB8.out)
    have HZ := Lib.hid hd1
    have hd2' : d ≤ 9223372036854775807 := hd2
    rcases Nat.lt_or_ge 1 d with hdc | hdc
    · have hdn : ¬ (1 = d) := by omega
      have hdn2 : ¬ (d = 1) := by omega
      have hdi : (1 : Int) ≤ (d : Int) := by omega
      have hli : (1 : Int) ≤ (L.length : Int) := by omega
      go_wp2
      go_loopw [9, 10, 32] (fun s l i wr => ∃ (k : Nat) (a : Option Addr) (cap : Nat), k + 1 ≤ L.length ∧ i = .int .i64 k ∧ l = .int .i64 (bestK L (k + 1)).2 ∧ s = .slice a (bestK L (k + 1)).1.length cap ∧ OwnI w.heap.size wr (.slice a (bestK L (k + 1)).1.length cap) (bestK L (k + 1)).1 ∧ Below w8.heap.size w8 wr) (fun _ _ i _ => L.length - (intOf i).toNat)
      case atStart => exact ⟨0, au, cu, by omega, rfl, by rw [HONE.out], by rw [HONE.out], by rw [HONE.out]; exact HU8.out, Below.refl _ _⟩
      case round =>
        obtain ⟨k, ak, ck, hk, rfl, rfl, rfl, ho, hb⟩ := hrel
        obtain ⟨wk, rfl⟩ : ∃ x, x = wr := ⟨_, rfl⟩
        clear HU8
        by_cases hlt : k + 1 < L.length
        · have HS1 := Lib.hid (@best_hit L (k + 1) hlt)
          have HS2 := Lib.hid (@best_miss L (k + 1) hlt)
          have hpos := bestK_pos L (k + 1) (by omega)
          obtain ⟨g', u, e1, _, hcu, hou⟩ := (HO8.out.below hb).at (k + 1) hlt
          injection e1 with e1
          injection e1 with e1
          subst e1
          obtain ⟨av, cv, rfl, _⟩ := own_shape hou
          have hcp := HCD.out _ (List.getElem_mem hlt)
          have hW := worstI_any n m _ _ L L[k + 1] wk ((HO8.out.below hb).rows fun x hx => code_in64 (HCD.out x hx)) (hou.toInts (code_in64 hcp)) HCD.out hcp (by omega)
          obtain ⟨x, hx⟩ : ∃ x, x = L[k + 1] := ⟨_, rfl⟩
          rw [← hx] at HS1 HS2 hcu hou hW
          obtain ⟨W, hWn⟩ : ∃ W : Int, W = (worstN L x : Int) := ⟨_, rfl⟩
          unfold GrownInt at hW
          rw [← hWn] at HS1 HS2 hW
          obtain ⟨l, hl⟩ : ∃ l, l = (bestK L (k + 1)).2 := ⟨_, rfl⟩
          rw [← hl] at HS1 HS2 hpos ⊢
          obtain ⟨y, hy⟩ : ∃ y, y = (bestK L (k + 1)).1 := ⟨_, rfl⟩
          rw [← hy] at ho ⊢
          have HY := Lib.hid (show bestK L (k + 1) = (y, l) from Prod.ext hy.symm hl.symm)
          have HO := Lib.hid ho
          have HB := Lib.hid hb
          have HOU2 := Lib.hid hou
          rw [show k + 1 = 1 + k from Nat.add_comm _ _] at hcu
          have hi0 : (0 : Int) ≤ (k : Int) := by omega
          have hi1 : (k : Int) < ((L.length - 1 : Nat) : Int) := by omega
          clear hx hWn hl hy ho hb hou hcp
          by_cases hl1 : W < l
          · have HN := Lib.hid (HS1.out (.inr hl1))
            clear HS1 HS2
            go_wp2_with fail
            refine hW.mono ?_
            rintro e w4 ⟨rfl, hb4⟩
            have HO4 := Lib.hid (OwnI.below HOU2.out hb4)
            have HB4 := Lib.hid (HB.out.trans (hb4.mono HB.out.size))
            clear hW hb4
            go_wp2
            go_roundw
            case rel => exact ⟨k + 1, av, cv, by omega, by go_num, by rw [HN.out], by rw [HN.out], by rw [HN.out]; exact HO4.out, HB4.out⟩
            case measure => simp [intOf]; omega
          · have HN := Lib.hid ((HS2.out (by omega) hl1).trans HY.out)
            clear HS1 HS2
            go_wp2_with fail
            refine hW.mono ?_
            rintro e w4 ⟨rfl, hb4⟩
            have HO4 := Lib.hid (OwnI.below HO.out hb4)
            have HB4 := Lib.hid (HB.out.trans (hb4.mono HB.out.size))
            clear hW hb4
            go_wp2
            go_roundw
            case rel => exact ⟨k + 1, ak, ck, by omega, by go_num, by rw [HN.out], by rw [HN.out], by rw [HN.out]; exact HO4.out, HB4.out⟩
            case measure => simp [intOf]; omega
        · have e : k + 1 = L.length := by omega
          have HR := Lib.hid (show (bestK L (k + 1)).1 = nextL L from by rw [e]; rfl)
          have HD := Lib.hid (show decide (0 < L.length) = true from decide_eq_true h0)
          have HO := Lib.hid ho
          have HB := Lib.hid hb
          clear e ho hb
          go_wp2
          go_ret2
          exact ⟨ak, ck, by rw [HD.out, HR.out]; rfl, by rw [← HR.out]; exact HO.out, (HB2.out.trans (HB8.out.mono HB2.out.size)).trans (HB.out.mono (Nat.le_trans HB2.out.size HB8.out.size))⟩
    · have hd1' : d = 1 := by omega
      subst hd1'
      have hL1 : L.length = 1 := by omega
      have HR := Lib.hid (show (x0 : List Int) = nextL L from by unfold nextL; rw [hL1, HONE.out])
      have HD := Lib.hid (show decide (0 < L.length) = true from decide_eq_true h0)
      have HL1 := Lib.hid hL1
      clear hL1
      go_wp2
      go_loopw [9, 10, 32] (fun s l i wr => i = .int .i64 0 ∧ s = .slice au x0.length cu ∧ wr = w8) (fun _ _ i _ => L.length - (intOf i).toNat)
      case atStart => exact ⟨rfl, rfl, rfl⟩
      case round =>
        obtain ⟨rfl, rfl, rfl⟩ := hrel
        have hl1 := HL1.out
        have hz : L.length - 1 = 0 := by omega
        clear hl1
        go_wp2
        go_ret2
        exact ⟨au, cu, by rw [HD.out, HR.out]; rfl, by rw [← HR.out]; exact HU8.out, HB2.out.trans (HB8.out.mono HB2.out.size)⟩

end Go.Proofs.Ytkjdlpbfalojdaa
