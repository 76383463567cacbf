/- after, of the program. -/
import Derived.Test.YtpeogghiboaceaaBeside2
import Derived.Test.YtpeogghiboaceaaBits
namespace Go.Proofs.Ytpeogghiboaceaa
open Go.RowKit Go.Shelf
set_option linter.unusedVariables false

theorem testBit_lotN (f : Nat → Bool) (n j : Nat) : (lotN f n).testBit j = (decide (j < n) && f j) := by
  induction n with
  | zero => simp [lotN]
  | succ n ih =>
    rw [lotN]
    by_cases hj : j < n
    · have e : decide (j < n + 1) = decide (j < n) := by simp [hj]; omega
      split
      · rw [Nat.add_comm, Nat.testBit_two_pow_add_gt hj, ih, e]
      · rw [Nat.add_zero, ih, e]
    · by_cases he : j = n
      · subst he
        split
        · rename_i hf
          rw [Nat.add_comm, Nat.testBit_two_pow_add_eq, ih]; simp [hf]
        · rename_i hf
          rw [Nat.add_zero, ih]; simp at hf; simp [hf]
      · have h1 := lotN_lt f (n + 1)
        rw [lotN] at h1
        have h2 : 2 ^ (n + 1) ≤ 2 ^ j := Nat.pow_le_pow_right (by omega) (by omega)
        rw [Nat.testBit_lt_two_pow (by omega)]
        simp; omega
theorem lotN_congr {f g : Nat → Bool} {n : Nat} (h : ∀ j, j < n → f j = g j) : lotN f n = lotN g n := by
  apply Nat.eq_of_testBit_eq
  intro j
  rw [testBit_lotN, testBit_lotN]
  by_cases hj : j < n
  · rw [h j hj]
  · simp [hj]
theorem lotN_or {f : Nat → Bool} {n k : Nat} (hk : k < n) : lotN f n ||| 2 ^ k = lotN (fun j => f j || j == k) n := by
  apply Nat.eq_of_testBit_eq
  intro j
  rw [Nat.testBit_or, testBit_lotN, testBit_lotN, Nat.testBit_two_pow]
  by_cases hj : j < n
  · simp only [hj, decide_true, Bool.true_and]
    congr 1
    rw [Bool.eq_iff_iff]; simp; omega
  · simp only [hj, decide_false, Bool.false_and, Bool.false_or]
    simp; omega

def edge (xss : List (List Int)) (i j : Nat) : Bool := cell2 xss i j == 1
/-- Of the first i boxes of the set one but the opened one is beside box j. -/
def reachN (xss : List (List Int)) (S : Nat) (o : Int) (j : Nat) : Nat → Bool
  | 0 => false
  | i + 1 => reachN xss S o j i || (((i : Int) != o) && bitN S i && edge xss i j)
def afterN (xss : List (List Int)) (S : Nat) (o : Int) : Nat := lotN (fun j => reachN xss S o j xss.length) xss.length
/-- In the midst of a row. -/
def midN (xss : List (List Int)) (S : Nat) (o : Int) (i k : Nat) : Nat := lotN (fun j => reachN xss S o j i || (decide (j < k) && edge xss i j)) xss.length
theorem midN_zero (xss : List (List Int)) (S : Nat) (o : Int) (i : Nat) : midN xss S o i 0 = lotN (fun j => reachN xss S o j i) xss.length := lotN_congr fun j _ => by simp
theorem midN_end {xss : List (List Int)} {S : Nat} {o : Int} {i : Nat} (h1 : ((i : Int) != o) = true) (h2 : bitN S i = true) : midN xss S o i xss.length = lotN (fun j => reachN xss S o j (i + 1)) xss.length :=
  lotN_congr fun j hj => by simp [reachN, hj, h1, h2]
theorem skipN {xss : List (List Int)} {S : Nat} {o : Int} {i : Nat} (h : (((i : Int) != o) && bitN S i) = false) : lotN (fun j => reachN xss S o j i) xss.length = lotN (fun j => reachN xss S o j (i + 1)) xss.length :=
  lotN_congr fun j hj => by simp only [reachN, h, Bool.false_and, Bool.or_false]
theorem midN_step {xss : List (List Int)} {S : Nat} {o : Int} {i k : Nat} {x : Int} (hk : k < xss.length) (hk60 : k ≤ 60) (hn : xss.length ≤ 60) (he : cell2 xss i k = x) (hx : x = 0 ∨ x = 1) :
    bits .or .i64 (midN xss S o i k : Nat) (wrap64 (x * (2 : Int) ^ k)) = (midN xss S o i (k + 1) : Nat) := by
  have h1 := lotN_lt (fun j => reachN xss S o j i || (decide (j < k) && edge xss i j)) xss.length
  have h2 := pow_small hn
  have h3 := pow_small hk60
  rcases hx with rfl | rfl
  · rw [Int.zero_mul]
    have e : wrap64 0 = ((0 : Nat) : Int) := IntWalk.wrap64_in _ ⟨by omega, by omega⟩
    rw [e, i64_or_nat _ _ (by unfold midN; omega) (by omega), Nat.or_zero]
    congr 1
    refine lotN_congr fun j hj => ?_
    have : (decide (j < k + 1) && edge xss i j) = (decide (j < k) && edge xss i j) := by
      by_cases e : j = k
      · subst e; simp [edge, he]
      · have : decide (j < k + 1) = decide (j < k) := by simp; omega
        rw [this]
    rw [this]
  · rw [Int.one_mul, shl_cast hk60, i64_or_nat _ _ (by unfold midN; omega) (by omega)]
    congr 1
    unfold midN
    rw [lotN_or hk]
    refine lotN_congr fun j hj => ?_
    by_cases e : j = k
    · subst e; simp [edge, he]
    · have e1 : (j == k) = false := by simpa using e
      have e2 : decide (j < k + 1) = decide (j < k) := by simp; omega
      rw [e1, e2, Bool.or_false]

theorem besideB_spec {xss : List (List Int)} (h : besideB xss = true) : (1 ≤ xss.length ∧ xss.length ≤ 6) ∧ (∀ i (hi : i < xss.length), xss[i].length = xss.length ∧ ∀ k (hk : k < xss[i].length), xss[i][k] = 0 ∨ xss[i][k] = 1) := by
  have hp : besideP xss := of_decide_eq_true h
  refine ⟨hp.1, fun i hi => ?_⟩
  obtain ⟨h1, h2, _⟩ := hp.2.1 i hi
  rw [getD_get hi] at h1 h2
  refine ⟨h1, fun k hk => ?_⟩
  unfold allB at h2
  simp only [List.all_eq_true] at h2
  have := h2 xss[i][k] (List.getElem_mem _)
  simp [inB] at this
  omega

theorem lotN_false {f : Nat → Bool} {n : Nat} (h : ∀ j, f j = false) : lotN f n = 0 := by
  induction n with
  | zero => rfl
  | succ n ih => simp [lotN, ih, h]
theorem bit_and0 (L k : Nat) (hL : L < 9223372036854775808) : (bits .and .i64 ((L : Int) / 2 ^ k) 1 == 0) = !bitN L k := by
  have h1 : L / 2 ^ k ≤ L := Nat.div_le_self _ _
  rw [shr_cast, show (1 : Int) = ((1 : Nat) : Int) from rfl, i64_and_nat _ _ (by omega) (by omega), nat_mask1]
  unfold bitN
  generalize L / 2 ^ k = m
  rw [Bool.eq_iff_iff]
  simp
  omega

set_option maxHeartbeats 1000000 in
theorem after_any {B : Nat} (v : Value) (xss : List (List Int)) (S : Nat) (o : Int) (w : World) (h : Rows2 B w v xss) (hb : besideB xss = true) (hS : S < 64) (ho : In64 o) :
    Calls Try.prog 60 #[v, .int .i64 S, .int .i64 o] w fun e w' => e = .returned (.int .i64 (afterN xss S o : Nat)) ∧ w = w' := by
  obtain ⟨ad, cap, rfl, hcap, hmax, V, hcells, hV⟩ := h.opened
  obtain ⟨⟨hn1, hn6⟩, hrow⟩ := besideB_spec hb
  have HROW := Lib.hid hrow
  clear h hb hrow
  unfold In64 at ho
  go_enter Try.func60, Try.ntmps60
  go_wp2
  go_loop [7, 14] (fun s i => ∃ k : Nat, k ≤ xss.length ∧ i = .int .i64 k ∧ s = .int .i64 (lotN (fun j => reachN xss S o j k) xss.length : Nat)) (fun _ i => xss.length - (intOf i).toNat)
  case atStart => exact ⟨0, Nat.zero_le _, rfl, by rw [show lotN (fun j => reachN xss S o j 0) xss.length = 0 from lotN_false fun _ => rfl]; rfl⟩
  case round =>
    obtain ⟨k, hk, rfl, rfl⟩ := hrel
    by_cases hlt : k < xss.length
    · obtain ⟨b, off, rfl, _, hc⟩ := hcells (by omega)
      have hck := hc k hlt
      obtain ⟨ak, ck, hvk, hk1, hk2, hkc⟩ := (hV k hlt).opened
      rw [hvk] at hck
      have hlk := (HROW.out k hlt).1
      obtain ⟨b2, o2, rfl, _, hx⟩ := hkc (by omega)
      have hba := bit_and0 S k (by omega)
      have hk6 : k < 6 := by omega
      clear hc hcells hV hvk hkc
      by_cases he : (k : Int) = o
      · have he1 : ((k : Int) == o) = true := by simpa using he
        have HH := Lib.hid (skipN (xss := xss) (S := S) (o := o) (i := k) (by simp [he]))
        clear he hx hba hlk
        go_wp2
        go_round
        case rel => exact ⟨k + 1, by omega, by go_num, by rw [HH.out]⟩
        case measure => simp [intOf]; omega
      · have he1 : ((k : Int) == o) = false := by simpa using he
        cases hbit : bitN S k
        · rw [hbit] at hba
          have HH := Lib.hid (skipN (xss := xss) (S := S) (o := o) (i := k) (by simp [hbit]))
          clear he hx hbit hlk
          go_wp2
          go_round
          case rel => exact ⟨k + 1, by omega, by go_num, by rw [HH.out]⟩
          case measure => simp [intOf]; omega
        · rw [hbit] at hba
          have HH := Lib.hid (midN_end (xss := xss) (S := S) (o := o) (i := k) (by simpa using he) hbit)
          have HX := Lib.hid (fun t (ht : t < xss[k].length) => hx t ht)
          have HLK := Lib.hid hlk
          have hlk1 : xss[k].length ≤ 6 := by omega
          clear he hx hbit hlk
          rw [← midN_zero]
          go_wp2
          go_loop [7, 31] (fun s i => ∃ j : Nat, j ≤ xss[k].length ∧ i = .int .i64 j ∧ s = .int .i64 (midN xss S o k j : Nat)) (fun _ i => xss[k].length - (intOf i).toNat)
          case atStart => exact ⟨0, Nat.zero_le _, rfl, rfl⟩
          case round =>
            obtain ⟨j, hj, rfl, rfl⟩ := hrel
            by_cases hjl : j < xss[k].length
            · have hxj := HX.out j hjl
              have hv := (HROW.out k hlt).2 j hjl
              have hcl := cell2_eq hlt hjl
              obtain ⟨x, hxe⟩ : ∃ x, x = xss[k][j] := ⟨_, rfl⟩
              rw [← hxe] at hxj hv hcl
              have HS := Lib.hid (midN_step (xss := xss) (S := S) (o := o) (i := k) (k := j) (by have := HLK.out; omega) (by omega) (by omega) hcl hv)
              clear hxe hcl
              go_wp2
              go_round
              case rel => exact ⟨j + 1, by omega, by go_num, by rw [← HS.out]⟩
              case measure => simp [intOf]; omega
            · have HE := Lib.hid (show j = xss.length by have := HLK.out; omega)
              go_wp2
              go_round
              case rel => exact ⟨k + 1, by omega, by go_num, by rw [HE.out, HH.out]⟩
              case measure => simp [intOf]; omega
    · have HE := Lib.hid (show k = xss.length by omega)
      clear hcells hV
      go_wp2
      go_ret
      exact ⟨ret_int (by rw [HE.out]; rfl), rfl⟩

end Go.Proofs.Ytpeogghiboaceaa
