/- The reference's l4Worst. -/
import Derived.Test.YtkjdlpbfalojdaaWorstMath
namespace Go.Proofs.Ytkjdlpbfalojdaa
open Go.RowKit
set_option linter.unusedVariables false
set_option maxRecDepth 100000

def GrownInt (x : Int) (w : World) (e : Ending) (w' : World) : Prop := e = .returned (.int .i64 x) ∧ Below w.heap.size w w'

set_option maxHeartbeats 4000000 in
theorem worstS_any {B C : Nat} (n c : Nat) (v u : Value) (left : List (List Int)) (y : List Int) (w : World) (h : Rows2 B w v left) (hu : Ints C w u y) (hl : ∀ x ∈ left, CodeP n c x) (hy : CodeP n c y) (hlen : left.length ≤ 1000000) :
    Calls Try.prog 76 #[.int .i64 n, .int .i64 c, v, u] w (GrownInt (worstN left y) w) := by
  have hn3 : n ≤ 3 := by have := hy.1; unfold codesP at this; omega
  obtain ⟨ws, hws⟩ : ∃ ws, ws = left.map (fun x => ansZ x y) := ⟨_, rfl⟩
  have HLW := Lib.hid (show ws.length = left.length from by rw [hws]; simp)
  have HG := Lib.hid (show ∀ a ∈ ws, GoodA n a from by
    intro a ha
    rw [hws] at ha
    obtain ⟨x, hx, rfl⟩ := List.mem_map.1 ha
    exact good_ans (hl x hx) hy)
  have HW := Lib.hid (show worstN left y = worstK ws left.length from by rw [hws]; rfl)
  have HWS := Lib.hid (fun (k : Nat) (hk : k < left.length) (hk' : k < ws.length) => show ws[k] = ansZ left[k] y from by subst hws; simp)
  have HL := Lib.hid hl
  have HY := Lib.hid hy
  have HH := Lib.hid h
  have HU := Lib.hid hu
  obtain ⟨a, cap, rfl, hcap, hmax, V, hcells, hV⟩ := h.opened
  obtain ⟨au, cu, rfl, _⟩ := hu.opened
  obtain ⟨N, hN⟩ : ∃ N, N = (n + 1) * (n + 1) := ⟨_, rfl⟩
  have hNm : ((n : Int) + 1) * ((n : Int) + 1) = (N : Int) := by rw [hN]; push_cast; rfl
  have hN16 : N ≤ 16 := by have : n = 0 ∨ n = 1 ∨ n = 2 ∨ n = 3 := by omega
                           rcases this with rfl | rfl | rfl | rfl <;> omega
  have HN := Lib.hid hN
  clear hws hN hl hy h hu
  go_enter Try.func76, Try.ntmps76
  go_wp2_with (at_make; refine wpList_make_ints _ rfl _ _ rfl _ _ N rfl rfl rfl rfl (by omega) ?_; intro w1 hown hb1 hs1; have HOWN := Lib.hid hown; have HB1 := Lib.hid hb1; clear hown hb1)
  go_loopw [10, 11] (fun s i wr => ∃ k : Nat, k ≤ left.length ∧ i = .int .i64 k ∧ s = .int .i64 (worstK ws k : Nat) ∧ OwnI w.heap.size wr (.slice (some ⟨w.heap.size, 0, none⟩) N N) (lotsK n ws k) ∧ Below w.heap.size w wr) (fun _ i _ => left.length - (intOf i).toNat)
  case atStart => exact ⟨0, Nat.zero_le _, rfl, rfl, by rw [lotsK_zero, ← HN.out]; exact HOWN.out, HB1.out⟩
  case round =>
    obtain ⟨k, hk, rfl, rfl, ho, hb⟩ := hrel
    obtain ⟨wk, rfl⟩ : ∃ x, x = wr := ⟨_, rfl⟩
    have hwl := worstK_le ws k
    clear HOWN HB1 hNm
    by_cases hlt : k < left.length
    · obtain ⟨b, off, rfl, _, hc⟩ := hcells (by omega)
      have hck := (Above.of_below (B := 0) hb).cell (Nat.zero_le _) (hc k hlt)
      have hlw := HLW.out
      have hk2 : k < ws.length := by omega
      have hgd := HG.out _ (List.getElem_mem hk2)
      have hat := atN_lt hgd hn3
      have hA := answerS_ok n c (V k) (.slice au y.length cu) left[k] y wk ((hV k hlt).below hb) (HU.out.below hb) (HL.out _ (List.getElem_mem hlt)) HY.out
      have e1 : rightZ left[k] y = ws[k].1 := by rw [HWS.out k hlt hk2]; rfl
      have e2 : nearZ left[k] y = ws[k].2 := by rw [HWS.out k hlt hk2]; rfl
      rw [e1, e2] at hA
      have hget := lotsK_get (k := k) HG.out hn3 hgd (by rw [lotsK_length]; exact hat)
      have HSET := Lib.hid (lotsK_set hk2 HG.out hn3)
      have HNX := Lib.hid (worst_next hk2)
      have hcb : (ws.take k).count ws[k] ≤ k := Nat.le_trans List.count_le_length (by simp; omega)
      obtain ⟨ao, co, he, _, _, hod⟩ := ho.opened
      injection he with ea eb ec
      subst ea
      clear eb ec
      obtain ⟨g, ea, _, hoc, hof⟩ := hod (by rw [lotsK_length]; omega)
      injection ea with ea
      injection ea with ea
      subst ea
      have hcell := hoc (atN n ws[k]) (by rw [lotsK_length]; exact hat)
      rw [hget] at hcell
      have hfr := hof (atN n ws[k])
      obtain ⟨R, hR⟩ : ∃ R : Nat, R = ws[k].1.toNat * (n + 1) := ⟨_, rfl⟩
      have hR2 : atN n ws[k] = R + ws[k].2.toNat := by unfold atN; rw [hR]
      obtain ⟨q1, q2, q3, q4⟩ := hgd
      have hmul : ws[k].1 * ((n : Int) + 1) = (R : Int) := by
        rw [hR]; push_cast; rw [Int.toNat_of_nonneg q1]
      obtain ⟨A, hAt⟩ : ∃ A, A = atN n ws[k] := ⟨_, rfl⟩
      rw [← hAt] at hR2 hat hcell hfr HSET
      obtain ⟨r, hr⟩ : ∃ r, r = ws[k].1 := ⟨_, rfl⟩
      obtain ⟨t, ht⟩ : ∃ t, t = ws[k].2 := ⟨_, rfl⟩
      rw [← hr] at hA hmul q1 q2
      rw [← ht] at hA hR2 q3 q4
      obtain ⟨M, hM⟩ : ∃ M, M = (ws.take k).count ws[k] := ⟨_, rfl⟩
      rw [← hM] at hcell HSET HNX hcb
      obtain ⟨X, hX⟩ : ∃ X, X = worstK ws k := ⟨_, rfl⟩
      rw [← hX] at HNX hwl ⊢
      have hsum : (R : Int) + t = (A : Int) := by omega
      have hAN : A < N := by rw [HN.out]; exact hat
      have hRb : R ≤ 16 := by omega
      have HO := Lib.hid ho
      have HB := Lib.hid hb
      have hi0 : (0 : Int) ≤ (k : Int) := by omega
      have hi1 : (k : Int) < (left.length : Int) := by omega
      have hi2 : (0 : Int) ≤ (A : Int) := by omega
      have hi3 : (A : Int) < (N : Int) := by omega
      clear hc hcells hV hlw e1 e2 hget hod hoc hof hR hR2 hAt hr ht hM hX ho hb hat
      rcases Nat.lt_or_ge X (M + 1) with hm | hm
      · have hm1 : (X : Int) < (M : Int) + 1 := by omega
        have HMX := Lib.hid (show max X (M + 1) = M + 1 from Nat.max_eq_right (by omega))
        clear hm
        go_wp2_with fail
        refine hA.mono ?_
        rintro e w3 ⟨rfl, hq3⟩
        have hD : Drawn wk w3 := hq3
        clear hq3 hA
        have hck3 := hD.cell hck
        have hcell3 := hD.cell hcell
        have hfr3 : w3.frozen? ⟨w.heap.size, A, none⟩ = false := by obtain ⟨q, rfl⟩ := hD; exact hfr
        have HB3 := Lib.hid (HB.out.trans (hD.below.mono HB.out.size))
        have HO3 := Lib.hid (HO.out.below hD.below)
        clear hD hck hcell hfr
        go_wp2
        go_roundw
        case rel => exact ⟨k + 1, by omega, by go_num, by rw [HNX.out, HMX.out]; go_num, by rw [← HSET.out]; exact HO3.out.set A _, HB3.out.setCell (p := ⟨w.heap.size, A, none⟩) (Nat.le_refl _) _⟩
        case measure => simp [intOf]; omega
      · have hm1 : ¬ (X : Int) < (M : Int) + 1 := by omega
        have HMX := Lib.hid (show max X (M + 1) = X from Nat.max_eq_left (by omega))
        clear hm
        go_wp2_with fail
        refine hA.mono ?_
        rintro e w3 ⟨rfl, hq3⟩
        have hD : Drawn wk w3 := hq3
        clear hq3 hA
        have hck3 := hD.cell hck
        have hcell3 := hD.cell hcell
        have hfr3 : w3.frozen? ⟨w.heap.size, A, none⟩ = false := by obtain ⟨q, rfl⟩ := hD; exact hfr
        have HB3 := Lib.hid (HB.out.trans (hD.below.mono HB.out.size))
        have HO3 := Lib.hid (HO.out.below hD.below)
        clear hD hck hcell hfr
        go_wp2
        go_roundw
        case rel => exact ⟨k + 1, by omega, by go_num, by rw [HNX.out, HMX.out], by rw [← HSET.out]; exact HO3.out.set A _, HB3.out.setCell (p := ⟨w.heap.size, A, none⟩) (Nat.le_refl _) _⟩
        case measure => simp [intOf]; omega
    · have e : k = left.length := by omega
      have HR := Lib.hid (show worstN left y = worstK ws k from by rw [e]; exact HW.out)
      have HB := Lib.hid hb
      clear e hcells hV ho hb
      go_wp2
      go_ret
      exact ⟨ret_int (by rw [HR.out]), HB.out⟩

end Go.Proofs.Ytkjdlpbfalojdaa
