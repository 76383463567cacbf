/- The reference's AnswerTo. -/
import Derived.Test.YtkjdlpbfalojdaaCode2
namespace Go.Proofs.Ytkjdlpbfalojdaa
open Go.RowKit
set_option linter.unusedVariables false
set_option maxRecDepth 100000

def cntK (x : List Int) (c : Int) (k : Nat) : Nat := (x.take k).count c
theorem cntK_full {x : List Int} (c : Int) {k : Nat} (h : x.length ≤ k) : cntK x c k = cntC x c := by unfold cntK cntC; rw [List.take_of_length_le h]
theorem cntK_hit {x : List Int} {c : Int} {k : Nat} (h : k < x.length) (e : x[k] = c) : cntK x c (k + 1) = cntK x c k + 1 := by
  unfold cntK
  rw [List.take_succ_eq_append_getElem h, List.count_append, e]
  simp
theorem cntK_miss {x : List Int} {c : Int} {k : Nat} (h : k < x.length) (e : ¬ x[k] = c) : cntK x c (k + 1) = cntK x c k := by
  unfold cntK
  rw [List.take_succ_eq_append_getElem h, List.count_append]
  simp [e]
theorem cntK_le (x : List Int) (c : Int) (k : Nat) : cntK x c k ≤ k := Nat.le_trans List.count_le_length (by simp; omega)
theorem rightN_hit {x y : List Int} {k : Nat} (h : k < x.length) (h' : k < y.length) (e : x[k] = y[k]) : rightN x y (k + 1) = rightN x y k + 1 := by
  simp [rightN, List.getD, List.getElem?_eq_getElem h, List.getElem?_eq_getElem h', e]
theorem rightN_miss {x y : List Int} {k : Nat} (h : k < x.length) (h' : k < y.length) (e : ¬ x[k] = y[k]) : rightN x y (k + 1) = rightN x y k := by
  simp [rightN, List.getD, List.getElem?_eq_getElem h, List.getElem?_eq_getElem h', e]

set_option maxHeartbeats 2000000 in
theorem answerS_ok {B C : Nat} (n : Nat) (c : Nat) (u v : Value) (x y : List Int) (w : World) (hx : Ints B w u x) (hy : Ints C w v y) (hcx : CodeP n c x) (hcy : CodeP n c y) :
    Calls Try.prog 80 #[.int .i64 n, .int .i64 c, u, v] w (Quiet (.tuple #[.int .i64 (rightZ x y), .int .i64 (nearZ x y)]) w) := by
  have hOx := codeOkS_any n c u x w hx
  have hOy := codeOkS_any n c v y w hy
  rw [codeOkB_iff.2 hcx] at hOx
  rw [codeOkB_iff.2 hcy] at hOy
  obtain ⟨a, cap, rfl, hcap, hmax, hcells⟩ := hx.opened
  obtain ⟨b, cap', rfl, hcap', hmax', hcells'⟩ := hy.opened
  have hnl : n = x.length := by have := hcx.2.1; omega
  have hly : y.length = x.length := by have := hcy.2.1; omega
  have hn3 : n ≤ 3 := by have := hcx.1; unfold codesP at this; omega
  have hc5 : c ≤ 5 := by have := hcx.1; unfold codesP at this; omega
  have HE := Lib.hid (both_five (y := y) hcx)
  have HLY := Lib.hid hly
  subst hnl
  clear hx hy hcx hcy hly
  go_enter Try.func80, Try.ntmps80
  go_wp2_with fail
  refine hOx.mono ?_
  rintro e w2 ⟨rfl, rfl⟩
  clear hOx
  go_wp2_with fail
  refine hOy.mono ?_
  rintro e w2 ⟨rfl, rfl⟩
  clear hOy
  go_wp2
  go_loopw [10, 12] (fun s i wr => ∃ k q : Nat, k ≤ x.length ∧ i = .int .i64 k ∧ s = .int .i64 (rightN x y k : Nat) ∧ wr = w.drewN q) (fun _ i _ => x.length - (intOf i).toNat)
  case atStart => exact ⟨0, 0, Nat.zero_le _, rfl, rfl, rfl⟩
  case round =>
    obtain ⟨k, q, hk, rfl, rfl, rfl⟩ := hrel
    have hR := right_le x y k
    by_cases hlt : k < x.length
    · have hly := HLY.out
      obtain ⟨b1, o1, rfl, _, hc⟩ := hcells (by omega)
      obtain ⟨b2, o2, rfl, _, hc'⟩ := hcells' (by omega)
      have hk1 : k < x.length := by omega
      have hk2 : k < y.length := by omega
      have hck := hc k hk1
      have hck' := hc' k hk2
      have hi0 : (0 : Int) ≤ (k : Int) := by omega
      have hi1 : (k : Int) < (x.length : Int) := by omega
      have hi2 : (k : Int) < (y.length : Int) := by omega
      clear hc hcells hc' hcells' hly
      by_cases he : x[k] = y[k]
      · have he1 : (x[k] == y[k]) = true := by simpa using he
        have HS := Lib.hid (rightN_hit hk1 hk2 he)
        clear he
        go_wp2
        go_quiet (fail)
        go_wp2
        go_roundw
        case rel => exact ⟨k + 1, _, by omega, by go_num, by rw [HS.out]; go_num, rfl⟩
        case measure => simp [intOf]; omega
      · have he1 : (x[k] == y[k]) = false := by simpa using he
        have HS := Lib.hid (rightN_miss hk1 hk2 he)
        clear he
        go_wp2
        go_quiet (fail)
        go_wp2
        go_roundw
        case rel => exact ⟨k + 1, _, by omega, by go_num, by rw [HS.out], rfl⟩
        case measure => simp [intOf]; omega
    · have e : k = x.length := by omega
      subst e
      go_wp2
      go_loopw [11, 13] (fun s i wr => ∃ j q : Nat, j ≤ c ∧ i = .int .i64 j ∧ s = .int .i64 (bothN x y j : Nat) ∧ wr = w.drewN q) (fun _ i _ => c - (intOf i).toNat)
      case atStart => exact ⟨0, q, Nat.zero_le _, rfl, rfl, rfl⟩
      case round =>
        obtain ⟨j, q2, hj, rfl, rfl, rfl⟩ := hrel
        have hB : bothN x y j ≤ x.length := both_len
        by_cases hjc : j < c
        · go_wp2
          go_loopw [14, 15, 16] (fun s t i wr => ∃ m q : Nat, m ≤ x.length ∧ i = .int .i64 m ∧ s = .int .i64 (cntK x j m : Nat) ∧ t = .int .i64 (cntK y j m : Nat) ∧ wr = w.drewN q) (fun _ _ i _ => x.length - (intOf i).toNat)
          case atStart => exact ⟨0, q2, Nat.zero_le _, rfl, rfl, rfl, rfl⟩
          case round =>
            obtain ⟨m, q3, hm, rfl, rfl, rfl, rfl⟩ := hrel
            have hC1 := cntK_le x j m
            have hC2 := cntK_le y j m
            by_cases hmk : m < x.length
            · have hly := HLY.out
              obtain ⟨b1, o1, rfl, _, hc⟩ := hcells (by omega)
              obtain ⟨b2, o2, rfl, _, hc'⟩ := hcells' (by omega)
              have hk1 : m < x.length := by omega
              have hk2 : m < y.length := by omega
              have hck := hc m hk1
              have hck' := hc' m hk2
              have hi0 : (0 : Int) ≤ (m : Int) := by omega
              have hi1 : (m : Int) < (x.length : Int) := by omega
              have hi2 : (m : Int) < (y.length : Int) := by omega
              clear hc hcells hc' hcells' hly
              by_cases he : x[m] = (j : Int) <;> by_cases he2 : y[m] = (j : Int)
              · have he1 : (x[m] == (j : Int)) = true := by simpa using he
                have he3 : (y[m] == (j : Int)) = true := by simpa using he2
                have HS := Lib.hid (cntK_hit hk1 he)
                have HS2 := Lib.hid (cntK_hit hk2 he2)
                clear he he2
                go_wp2
                go_roundw
                case rel => exact ⟨m + 1, _, by omega, by go_num, by rw [HS.out]; go_num, by rw [HS2.out]; go_num, rfl⟩
                case measure => simp [intOf]; omega
              · have he1 : (x[m] == (j : Int)) = true := by simpa using he
                have he3 : (y[m] == (j : Int)) = false := by simpa using he2
                have HS := Lib.hid (cntK_hit hk1 he)
                have HS2 := Lib.hid (cntK_miss hk2 he2)
                clear he he2
                go_wp2
                go_roundw
                case rel => exact ⟨m + 1, _, by omega, by go_num, by rw [HS.out]; go_num, by rw [HS2.out], rfl⟩
                case measure => simp [intOf]; omega
              · have he1 : (x[m] == (j : Int)) = false := by simpa using he
                have he3 : (y[m] == (j : Int)) = true := by simpa using he2
                have HS := Lib.hid (cntK_miss hk1 he)
                have HS2 := Lib.hid (cntK_hit hk2 he2)
                clear he he2
                go_wp2
                go_roundw
                case rel => exact ⟨m + 1, _, by omega, by go_num, by rw [HS.out], by rw [HS2.out]; go_num, rfl⟩
                case measure => simp [intOf]; omega
              · have he1 : (x[m] == (j : Int)) = false := by simpa using he
                have he3 : (y[m] == (j : Int)) = false := by simpa using he2
                have HS := Lib.hid (cntK_miss hk1 he)
                have HS2 := Lib.hid (cntK_miss hk2 he2)
                clear he he2
                go_wp2
                go_roundw
                case rel => exact ⟨m + 1, _, by omega, by go_num, by rw [HS.out], by rw [HS2.out], rfl⟩
                case measure => simp [intOf]; omega
            · have e1 : cntK x j m = cntC x j := cntK_full _ (by omega)
              have e2 : cntK y j m = cntC y j := cntK_full _ (by rw [HLY.out]; omega)
              rw [e1] at hC1 ⊢
              rw [e2] at hC2 ⊢
              have HS := Lib.hid (show bothN x y (j + 1) = bothN x y j + min (cntC x j) (cntC y j) from rfl)
              clear e1 e2 hcells hcells'
              rcases Nat.lt_or_ge (cntC y j) (cntC x j) with hmn | hmn
              · have hm1 : ((cntC y j : Nat) : Int) < (cntC x j : Nat) := by omega
                go_wp2
                go_roundw
                case rel => exact ⟨j + 1, _, by omega, by go_num, by rw [HS.out, Nat.min_eq_right (by omega)]; go_num, rfl⟩
                case measure => simp [intOf]; omega
              · have hm1 : ¬ ((cntC y j : Nat) : Int) < (cntC x j : Nat) := by omega
                go_wp2
                go_roundw
                case rel => exact ⟨j + 1, _, by omega, by go_num, by rw [HS.out, Nat.min_eq_left (by omega)]; go_num, rfl⟩
                case measure => simp [intOf]; omega
        · have e : j = c := by omega
          subst e
          clear hcells hcells'
          go_wp2
          go_ret2
          refine ⟨?_, q2, rfl⟩
          unfold rightZ nearZ
          rw [HE.out]
          rfl

end Go.Proofs.Ytkjdlpbfalojdaa
