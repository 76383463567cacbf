/- The reference's WorstLot and NextGuess. -/
import Derived.Test.YtkjdlpbfalojdaaWorstS
namespace Go.Proofs.Ytkjdlpbfalojdaa
open Go.RowKit
set_option linter.unusedVariables false
set_option maxRecDepth 100000

def worstLotZ (p c : Int) (gs : List Gs) (y : List Int) : Int := if guessesB p c gs = true ∧ codeOkB p c y = true then (worstN (fitL p c gs) y : Int) else -1
theorem fit_codes {p c : Int} {gs : List Gs} : ∀ x ∈ fitL p c gs, CodeP p c x := fun x hx => (fitL_mem.1 hx).2.1
theorem fit_rows {B : Nat} {w : World} {p c : Int} {gs : List Gs} {v : Value} (h : OwnR B w v (fitL p c gs)) : Rows2 B w v (fitL p c gs) := h.rows fun x hx => code_in64 (fit_codes x hx)

set_option maxHeartbeats 2000000 in
theorem worstLotS_any {B C : Nat} (p c : Int) (v u : Value) (gs : List Gs) (y : List Int) (w : World) (h : GL B w v gs) (hu : Ints C w u y) :
    Calls Try.prog 28 #[.int .i64 p, .int .i64 c, v, u] w (GrownInt (worstLotZ p c gs y) w) := by
  have hG := guessesS_any p c v gs w h
  have hC := codeOkS_any p c u y w hu
  have hsh : ∃ a cap, v = .slice a gs.length cap := by obtain ⟨a, cap, _, hv, _⟩ := h; exact ⟨a, cap, hv⟩
  obtain ⟨a, cap, rfl⟩ := hsh
  obtain ⟨au, cu, rfl, _⟩ := hu.opened
  cases hg : guessesB p c gs
  · rw [hg] at hG
    have HR := Lib.hid (show worstLotZ p c gs y = -1 from by unfold worstLotZ; rw [hg]; rfl)
    clear hg hC h hu
    go_enter Try.func28, Try.ntmps28
    go_wp2_with fail
    refine hG.mono ?_
    rintro e w2 ⟨rfl, rfl⟩
    clear hG
    go_wp2
    go_ret
    exact ⟨ret_int (by rw [HR.out]), Below.refl _ _⟩
  · rw [hg] at hG
    cases hc : codeOkB p c y
    · rw [hc] at hC
      have HR := Lib.hid (show worstLotZ p c gs y = -1 from by unfold worstLotZ; rw [hc, if_neg (by simp)])
      clear hg hc h hu
      go_enter Try.func28, Try.ntmps28
      go_wp2_with fail
      refine hG.mono ?_
      rintro e w2 ⟨rfl, rfl⟩
      clear hG
      go_wp2_with fail
      refine hC.mono ?_
      rintro e w2 ⟨rfl, rfl⟩
      clear hC
      go_wp2
      go_ret
      exact ⟨ret_int (by rw [HR.out]), Below.refl _ _⟩
    · rw [hc] at hC
      have HR := Lib.hid (show worstLotZ p c gs y = (worstN (fitL p c gs) y : Int) from by unfold worstLotZ; rw [if_pos ⟨hg, hc⟩])
      have hcp := codeOkB_iff.1 hc
      have hF := fitS_any p c (.slice a gs.length cap) gs w h
      obtain ⟨n, m, rfl, rfl, _, _⟩ := own_nat (guesses_codes hg)
      have HW := Lib.hid (fun (W : World) (b : Option Addr) (d : Nat) (ho : OwnR w.heap.size W (.slice b (fitL n m gs).length d) (fitL n m gs)) (hb : Below w.heap.size w W) => worstS_any n m _ (.slice au y.length cu) (fitL n m gs) y W (fit_rows ho) (hu.below hb) fit_codes hcp (by have := fitL_len n m gs; omega))
      clear hg hc h hu hcp
      go_enter Try.func28, Try.ntmps28
      go_wp2_with fail
      refine hG.mono ?_
      rintro e w2 ⟨rfl, rfl⟩
      clear hG
      go_wp2_with fail
      refine hC.mono ?_
      rintro e w2 ⟨rfl, rfl⟩
      clear hC
      go_wp2_with fail
      refine hF.mono ?_
      rintro e w2 ⟨b, d, rfl, ho2, hb2⟩
      have hW := HW.out w2 b d ho2 hb2
      have HB2 := Lib.hid hb2
      clear hF ho2 hb2 HW
      go_wp2_with fail
      refine hW.mono ?_
      rintro e w3 ⟨rfl, hb3⟩
      have HB3 := Lib.hid hb3
      clear hW hb3
      go_wp2
      go_ret
      exact ⟨ret_int (by rw [HR.out]), HB2.out.trans (HB3.out.mono HB2.out.size)⟩

def NextOut (p c : Int) (gs : List Gs) (w : World) (e : Ending) (w' : World) : Prop :=
  ∃ a cap, e = .returned (.tuple #[.slice a (nextL (fitL p c gs)).length cap, .bool (decide (0 < (fitL p c gs).length))]) ∧ OwnI w.heap.size w' (.slice a (nextL (fitL p c gs)).length cap) (nextL (fitL p c gs)) ∧ Below w.heap.size w w'

theorem best_hit {left : List (List Int)} {k : Nat} (hk : k < left.length) (h : (bestK left k).2 < 0 ∨ (worstN left left[k] : Int) < (bestK left k).2) : bestK left (k + 1) = (left[k], (worstN left left[k] : Int)) := by
  have e : left.getD k [] = left[k] := by simp [List.getD, List.getElem?_eq_getElem hk]
  rw [bestK, e, if_pos h]
theorem best_miss {left : List (List Int)} {k : Nat} (hk : k < left.length) (h : ¬ (bestK left k).2 < 0) (h2 : ¬ (worstN left left[k] : Int) < (bestK left k).2) : bestK left (k + 1) = bestK left k := by
  have e : left.getD k [] = left[k] := by simp [List.getD, List.getElem?_eq_getElem hk]
  rw [bestK, e, if_neg (by rintro (q | q); exact h q; exact h2 q)]
theorem best_end (left : List (List Int)) : decide (0 ≤ (bestK left left.length).2) = decide (0 < left.length) := by
  rw [decide_eq_decide]
  constructor
  · intro h
    rcases Nat.eq_zero_or_pos left.length with e | e
    · rw [e] at h; simp [bestK] at h
    · exact e
  · exact bestK_pos left _

set_option maxHeartbeats 4000000 in
theorem nextS_any {B : Nat} (p c : Int) (v : Value) (gs : List Gs) (w : World) (h : GL B w v gs) :
    Calls Try.prog 41 #[.int .i64 p, .int .i64 c, v] w (NextOut p c gs w) := by
  have hF := fitS_any p c v gs w h
  have hsh : ∃ a cap, v = .slice a gs.length cap := by obtain ⟨a, cap, _, hv, _⟩ := h; exact ⟨a, cap, hv⟩
  obtain ⟨a, cap, rfl⟩ := hsh
  have HLN := Lib.hid (fitL_len p c gs)
  have HCD := Lib.hid (fit_codes (p := p) (c := c) (gs := gs))
  unfold NextOut
  obtain ⟨L, hL⟩ : ∃ L, L = fitL p c gs := ⟨_, rfl⟩
  rw [← hL] at hF HLN HCD ⊢
  clear hL h
  go_enter Try.func41, Try.ntmps41
  go_wp2_with fail
  refine hF.mono ?_
  rintro e w2 ⟨b, d, rfl, ho2, hb2⟩
  obtain ⟨b', d', he, hd1, hd2⟩ := ho2.shape
  injection he with e1 e2 e3
  subst e1 e3
  clear e2
  have hlit := OwnI.lit w2
  have hb3 : Below w2.heap.size w2 (w2.alloc (.cells #[] 3)) := (Below.refl _ _).alloc (Nat.le_refl _) _
  have hz2 := hb2.size
  have HO2 := Lib.hid (ho2.below hb3)
  have HB2 := Lib.hid (hb2.trans (hb3.mono hz2))
  have HLIT := Lib.hid (hlit.mono hz2)
  clear hF ho2 hb2 hlit hb3
  go_wp2
  obtain ⟨w3, hw3⟩ : ∃ w3, w3 = w2.alloc (.cells #[] 3) := ⟨_, rfl⟩
  rw [← hw3] at HO2 HB2 HLIT ⊢
  clear hw3
  go_loopw [9, 10, 11] (fun s l i wr => ∃ (k : Nat) (a : Option Addr) (cap : Nat), k ≤ L.length ∧ i = .int .i64 k ∧ l = .int .i64 (bestK L k).2 ∧ s = .slice a (bestK L k).1.length cap ∧ OwnI w.heap.size wr (.slice a (bestK L k).1.length cap) (bestK L k).1 ∧ Below w3.heap.size w3 wr) (fun _ _ i _ => L.length - (intOf i).toNat)
  case atStart => exact ⟨0, _, _, Nat.zero_le _, rfl, rfl, rfl, HLIT.out, Below.refl _ _⟩
  case round =>
    obtain ⟨k, ak, ck, hk, rfl, rfl, rfl, ho, hb⟩ := hrel
    obtain ⟨wk, rfl⟩ : ∃ x, x = wr := ⟨_, rfl⟩
    clear HLIT
    by_cases hlt : k < L.length
    · have HS1 := Lib.hid (@best_hit L k hlt)
      have HS2 := Lib.hid (@best_miss L k hlt)
      obtain ⟨g, u, e1, hgB, hcu, hou⟩ := (HO2.out.below hb).at k hlt
      subst e1
      obtain ⟨au, cu, rfl, _⟩ := own_shape hou
      have hcp := HCD.out _ (List.getElem_mem hlt)
      obtain ⟨n, m, rfl, rfl, _, _⟩ := own_nat hcp.1
      have hW := worstS_any n m _ _ L L[k] wk ((HO2.out.below hb).rows fun x hx => code_in64 (HCD.out x hx)) (hou.toInts (code_in64 hcp)) HCD.out hcp (by have := HLN.out; omega)
      obtain ⟨x, hx⟩ : ∃ x, x = L[k] := ⟨_, rfl⟩
      rw [← hx] at HS1 HS2 hcu hou hW
      obtain ⟨W, hWn⟩ : ∃ W : Int, W = (worstN L x : Int) := ⟨_, rfl⟩
      unfold GrownInt at hW
      rw [← hWn] at HS1 HS2 hW
      obtain ⟨l, hl⟩ : ∃ l, l = (bestK L k).2 := ⟨_, rfl⟩
      rw [← hl] at HS1 HS2 ⊢
      obtain ⟨y, hy⟩ : ∃ y, y = (bestK L k).1 := ⟨_, rfl⟩
      rw [← hy] at ho ⊢
      have HY := Lib.hid (show bestK L k = (y, l) from Prod.ext hy.symm hl.symm)
      have HO := Lib.hid ho
      have HB := Lib.hid hb
      have HOU := Lib.hid hou
      have hi0 : (0 : Int) ≤ (k : Int) := by omega
      have hi1 : (k : Int) < (L.length : Int) := by omega
      clear hx hWn hl hy ho hb hou hcp
      by_cases hl0 : l < 0
      · have HN := Lib.hid (HS1.out (.inl hl0))
        clear HS1 HS2
        go_wp2_with fail
        refine hW.mono ?_
        rintro e w4 ⟨rfl, hb4⟩
        have hcu4 := (Above.of_below (B := 0) hb4).cell (Nat.zero_le _) hcu
        have HO4 := Lib.hid (owns_below HOU.out hb4)
        have HB4 := Lib.hid (HB.out.trans (hb4.mono HB.out.size))
        clear hW hb4 hcu
        go_wp2
        go_roundw
        case rel => exact ⟨k + 1, au, cu, by omega, by go_num, by rw [HN.out], by rw [HN.out], by rw [HN.out]; exact HO4.out, HB4.out⟩
        case measure => simp [intOf]; omega
      · by_cases hl1 : W < l
        · have HN := Lib.hid (HS1.out (.inr hl1))
          clear HS1 HS2
          go_wp2_with fail
          refine hW.mono ?_
          rintro e w4 ⟨rfl, hb4⟩
          have hcu4 := (Above.of_below (B := 0) hb4).cell (Nat.zero_le _) hcu
          have HO4 := Lib.hid (owns_below HOU.out hb4)
          have HB4 := Lib.hid (HB.out.trans (hb4.mono HB.out.size))
          clear hW hb4 hcu
          go_wp2
          go_roundw
          case rel => exact ⟨k + 1, au, cu, by omega, by go_num, by rw [HN.out], by rw [HN.out], by rw [HN.out]; exact HO4.out, HB4.out⟩
          case measure => simp [intOf]; omega
        · have HN := Lib.hid ((HS2.out hl0 hl1).trans HY.out)
          clear HS1 HS2
          go_wp2_with fail
          refine hW.mono ?_
          rintro e w4 ⟨rfl, hb4⟩
          have hcu4 := (Above.of_below (B := 0) hb4).cell (Nat.zero_le _) hcu
          have HO4 := Lib.hid (owns_below HO.out hb4)
          have HB4 := Lib.hid (HB.out.trans (hb4.mono HB.out.size))
          clear hW hb4 hcu
          go_wp2
          go_roundw
          case rel => exact ⟨k + 1, ak, ck, by omega, by go_num, by rw [HN.out], by rw [HN.out], by rw [HN.out]; exact HO4.out, HB4.out⟩
          case measure => simp [intOf]; omega
    · have e : k = L.length := by omega
      subst e
      have HN := Lib.hid (show bestK L L.length = (nextL L, (bestK L L.length).2) from rfl)
      have hE := best_end L
      obtain ⟨l, hl⟩ : ∃ l, l = (bestK L L.length).2 := ⟨_, rfl⟩
      rw [← hl] at hE ⊢
      have HO := Lib.hid ho
      have HB := Lib.hid hb
      clear hl ho hb
      cases hd : decide (0 < L.length)
      · rw [hd] at hE
        have HE := Lib.hid hE
        have hn : ¬ 0 ≤ l := of_decide_eq_false hE
        have HD := Lib.hid hd
        clear hE hd
        go_wp2
        go_ret2
        exact ⟨ak, ck, by rw [HD.out]; rfl, HO.out, HB2.out.trans (HB.out.mono HB2.out.size)⟩
      · rw [hd] at hE
        have HE := Lib.hid hE
        have hn : 0 ≤ l := of_decide_eq_true hE
        have HD := Lib.hid hd
        clear hE hd
        go_wp2
        go_ret2
        exact ⟨ak, ck, by rw [HD.out]; rfl, HO.out, HB2.out.trans (HB.out.mono HB2.out.size)⟩

end Go.Proofs.Ytkjdlpbfalojdaa
