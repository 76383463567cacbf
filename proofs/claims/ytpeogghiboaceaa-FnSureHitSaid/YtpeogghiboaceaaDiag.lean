/- DiagonalShots: the program's at all fields; the reference's, some shots. -/
import Derived.Test.YtpeogghiboaceaaSure
namespace Go.Proofs.Ytpeogghiboaceaa
open Go.RowKit
set_option linter.unusedVariables false
set_option maxRecDepth 100000

def oneP (C j : Nat) : List Int := List.replicate j 1 ++ List.replicate (C - j) 0
def oneQ (R C i : Nat) : List (List Int) := List.replicate i (List.replicate C 1) ++ List.replicate (R - i) []
def oneL (R C i j : Nat) : List (List Int) := (oneQ R C i).set i (oneP C j)
def ones (R C : Nat) : List (List Int) := List.replicate R (List.replicate C 1)
theorem oneP_length {C j : Nat} (h : j ≤ C) : (oneP C j).length = C := by simp [oneP]; omega
theorem oneQ_length {R C i : Nat} (h : i ≤ R) : (oneQ R C i).length = R := by simp [oneQ]; omega
theorem oneL_length {R C i j : Nat} (h : i ≤ R) : (oneL R C i j).length = R := by simp [oneL, oneQ_length h]
theorem rep_set {α : Type} (x y : α) (j n : Nat) (h : j < n) : (List.replicate j x ++ List.replicate (n - j) y).set j x = List.replicate (j + 1) x ++ List.replicate (n - (j + 1)) y := by
  obtain ⟨m, hm⟩ : ∃ m, n - j = m + 1 := ⟨n - j - 1, by omega⟩
  rw [List.set_append_right _ _ (by simp), List.length_replicate, Nat.sub_self, hm, List.replicate_succ, List.set_cons_zero, show n - (j + 1) = m by omega, List.replicate_succ' (n := j), List.append_assoc]
  rfl
theorem oneP_set {C j : Nat} (h : j < C) : (oneP C j).set j 1 = oneP C (j + 1) := rep_set _ _ _ _ h
theorem oneP_zero (C : Nat) : oneP C 0 = List.replicate C 0 := by simp [oneP]
theorem oneL_get {R C i j : Nat} (h : i < R) (h' : i < (oneL R C i j).length) : (oneL R C i j)[i] = oneP C j := by simp [oneL]
theorem oneL_full {R C i : Nat} (h : i < R) : oneL R C i C = oneQ R C (i + 1) := by
  unfold oneL oneQ
  have e : oneP C C = List.replicate C 1 := by simp [oneP]
  rw [e]
  exact rep_set _ _ _ _ h
theorem oneL_set {R C i j : Nat} (h : i < R) (hj : j < C) : (oneL R C i j).set i ((oneP C j).set j 1) = oneL R C i (j + 1) := by
  rw [oneP_set hj]; simp [oneL]

set_option maxHeartbeats 1000000 in
theorem diagOnes_any (R C : Nat) (w : World) (hR1 : 1 ≤ R) (hR2 : R ≤ 6) (hC1 : 1 ≤ C) (hC2 : C ≤ 6) :
    Calls Try.prog 54 #[.int .i64 R, .int .i64 C, .int .i64 1, .int .i64 0] w (RowsOut (ones R C) w) := by
  have g1 : (inB (R : Int) 1 6 && inB (C : Int) 1 6) = true := by simp [inB]; omega
  have g2 : inB 1 1 6 = true := rfl
  have g3 : inB 0 0 0 = true := rfl
  go_enter Try.func54, Try.ntmps54
  go_wp2_with (first | (at_make; refine wpList_make_rows _ rfl _ _ rfl _ _ R rfl rfl rfl rfl (by omega) ?_; intro w1 hown hb1 hs1) | (go_at_call 93; refine (isBoard_any _ _ _).mono ?_; rintro e w' ⟨rfl, rfl⟩; rw [g1]) | (go_at_call 75; refine (in_any _ _ _ _).mono ?_; rintro e w' ⟨rfl, rfl⟩; (first | rw [g2] | rw [g3])))
  go_loopw [32] (fun c wr => ∃ i : Nat, i ≤ R ∧ c = .int .i64 i ∧ OwnII w.heap.size wr (.slice (some ⟨w.heap.size, 0, none⟩) R R) (oneQ R C i) ∧ Below w.heap.size w wr) (fun c _ => R - (intOf c).toNat)
  case atStart => exact ⟨0, Nat.zero_le _, rfl, by simpa [oneQ] using hown, hb1⟩
  case round =>
    obtain ⟨i, hi, rfl, ho, hb⟩ := hrel
    clear hown hb1
    by_cases hlt : i < R
    · obtain ⟨⟨u0, hc0, _⟩, hf0⟩ := ho.at i (by rw [oneQ_length hi]; exact hlt)
      have hsz := hb.size
      have HO := Lib.hid ho
      have HB := Lib.hid hb
      clear ho hb
      go_wp2_with (at_make; refine wpList_make_ints _ rfl _ _ rfl _ _ C rfl rfl rfl rfl (by omega) ?_; intro w2 hr2 hb2 hs2; obtain ⟨hcx, hfx⟩ := keep_cf hb2 hc0 hf0; have HR := Lib.hid hr2; have HB2 := Lib.hid hb2; clear hr2 hb2)
      have hW : OwnII w.heap.size (w2.setCell ⟨w.heap.size, i, none⟩ (.slice (some ⟨wr.heap.size, 0, none⟩) C C)) (.slice (some ⟨w.heap.size, 0, none⟩) R R) (oneL R C i 0) := by
        have := HO.out.setFresh HB2.out hsz i HR.out
        unfold oneL; rw [oneP_zero]; exact this
      have hWB : Below w.heap.size w (w2.setCell ⟨w.heap.size, i, none⟩ (.slice (some ⟨wr.heap.size, 0, none⟩) C C)) := (HB.out.trans (HB2.out.mono hsz)).setCell (p := ⟨w.heap.size, i, none⟩) (Nat.le_refl _) _
      obtain ⟨wo, hwo⟩ : ∃ wo : World, wo = w2.setCell ⟨w.heap.size, i, none⟩ (.slice (some ⟨wr.heap.size, 0, none⟩) C C) := ⟨_, rfl⟩
      rw [← hwo] at hW hWB ⊢
      clear hwo hcx hfx hc0 hf0 HO HB HR HB2 hs2 hs1
      go_loopw [45] (fun c wi => ∃ j : Nat, j ≤ C ∧ c = .int .i64 j ∧ OwnII w.heap.size wi (.slice (some ⟨w.heap.size, 0, none⟩) R R) (oneL R C i j) ∧ Below w.heap.size w wi) (fun c _ => C - (intOf c).toNat)
      case atStart => exact ⟨0, Nat.zero_le _, rfl, hW, hWB⟩
      case round =>
        obtain ⟨j, hj, rfl, ho, hb⟩ := hrel
        clear hW hWB
        by_cases hjn : j < C
        · have hlen : (oneL R C i j).length = R := oneL_length hi
          have hrow : (oneL R C i j)[i]'(by omega) = oneP C j := oneL_get hlt (by omega)
          obtain ⟨g', cap', hc1, hB1, hcap1, hcap2, hcell, hfr, hset⟩ := ho.elem i (by omega) (by rw [hrow, oneP_length hj]; omega)
          rw [hrow, oneP_length hj] at hc1
          have hck := hcell j (by rw [hrow, oneP_length hj]; exact hjn)
          have hfk := hfr j
          have hlen2 : ((oneL R C i j)[i]'(by omega)).length = C := by rw [hrow, oneP_length hj]
          rw [hlen2] at hcap1
          have HB := Lib.hid hb
          obtain ⟨e0, he0⟩ : ∃ e0, e0 = ((oneL R C i j)[i]'(by omega))[j]'(by omega) := ⟨_, rfl⟩
          rw [← he0] at hck
          have hst := hset j 1
          rw [hrow] at hst
          have HS := Lib.hid hst
          have HL := Lib.hid hlen
          have hm : ((((i : Int) + (j : Int)).tmod 1) == 0) = true := by simp
          have hm2 : ((((i : Int) + (j : Int)) % 1) == 0) = true := by simp
          clear ho hb hcell hfr hset he0 hlen hrow hlen2 hst
          go_wp2
          go_roundw
          case rel => exact ⟨j + 1, by omega, by go_num, by rw [← oneL_set hlt hjn]; exact HS.out, HB.out.setCell (by exact hB1) _⟩
          case measure => simp [intOf]; omega
        · have e : j = C := by omega
          have HO := Lib.hid ho
          have HB := Lib.hid hb
          clear ho hb
          rw [e] at HO
          go_wp2
          go_roundw
          case rel => exact ⟨i + 1, by omega, by go_num, by rw [← oneL_full hlt]; exact HO.out, HB.out⟩
          case measure => simp [intOf]; omega
    · have e : i = R := by omega
      have HO := Lib.hid (show OwnII w.heap.size wr (.slice (some ⟨w.heap.size, 0, none⟩) R R) (ones R C) by rw [e] at ho; unfold oneQ at ho; simpa [ones] using ho)
      have HB := Lib.hid hb
      clear ho hb
      go_wp2
      go_ret
      exact ⟨some ⟨w.heap.size, 0, none⟩, R, by simp [ones], by simpa [ones] using HO.out, HB.out⟩

theorem ones_ok {R C : Nat} (hR1 : 1 ≤ R) (hR2 : R ≤ 6) (hC1 : 1 ≤ C) (hC2 : C ≤ 6) : shotsB R C (ones R C) = true := by
  unfold shotsB ones
  have h1 : inB (R : Int) 1 6 = true := by simp [inB]; omega
  have h2 : inB (C : Int) 1 6 = true := by simp [inB]; omega
  have h3 : shotRow (C : Int) (List.replicate C 1) = true := by
    unfold shotRow allB
    simp [inB]
  rw [h1, h2, List.length_replicate]
  simp [h3]
theorem ones_cell {R C r c : Nat} (hr : r < R) (hc : c < C) : cellN (ones R C) r c = 1 := by
  unfold cellN ones
  simp [List.getD, hr, hc]
theorem ones_hit {R C l : Nat} {p : Pl} (hf : FitsP R C l p) : ∀ k, k ≤ l → hitK (ones R C) p k = k
  | 0, _ => rfl
  | k + 1, hk => by
    obtain ⟨q1, q2⟩ := fits_field hf (show k < l by omega)
    rw [hitK, ones_hit hf k (by omega), ones_cell q1 q2]; omega
theorem ones_sure {R C : Nat} {long : Int} (hR1 : 1 ≤ R) (hR2 : R ≤ 6) (hC1 : 1 ≤ C) (hC2 : C ≤ 6) (hl : inB long 1 6 = true) : sureB R C (ones R C) long = true := by
  unfold sureB
  rw [ones_ok hR1 hR2 hC1 hC2, hl]
  have hst : stillR R C (ones R C) long = [] := by
    unfold stillR
    rw [ones_ok hR1 hR2 hC1 hC2, if_pos rfl]
    rw [List.filter_eq_nil_iff]
    intro p hp
    have hbo : boardB R C long = true := by
      unfold boardB
      rw [hl]; simp [inB]; omega
    obtain ⟨R', C', l, q1, q2, rfl, _, _, _, _, hl1, hl2⟩ := board_parts hbo
    have hfit : FitsP R C l p := placesK_fits (Nat.le_refl _) hl1 (by rw [← placesR_nat hbo]; exact hp)
    have e : ((l : Nat) : Int).toNat = l := by simp
    rw [e, ones_hit hfit l (Nat.le_refl _)]
    simp; omega
  rw [hst]; rfl

end Go.Proofs.Ytpeogghiboaceaa
