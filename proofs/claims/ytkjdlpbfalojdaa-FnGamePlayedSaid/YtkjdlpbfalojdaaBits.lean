/- Bits of an int. No walk. -/
import Derived.Test.YtkjdlpbfalojdaaBase
import Derived.Laws.BitsAllLaws
namespace Go.Proofs.Ytkjdlpbfalojdaa
open Go.RowKit
set_option linter.unusedVariables false

theorem wrap_nat64 (a : Nat) (ha : a < 9223372036854775808) : IntKind.i64.wrap (a : Int) = a := by
  rw [IntKind.wrap_i64]; omega
theorem i64_and_nat (a b : Nat) (ha : a < 9223372036854775808) (hb : b < 9223372036854775808) : bits .and .i64 (a : Int) (b : Int) = ((a &&& b : Nat) : Int) := by
  have hx : a &&& b < 2 ^ 63 := Nat.and_lt_two_pow _ (by omega)
  show IntKind.i64.wrap ((BitVec.ofInt 64 (a : Int) &&& BitVec.ofInt 64 (b : Int)).toNat : Int) = _
  rw [BitVec.toNat_and, ofInt_u64 a (by omega), ofInt_u64 b (by omega), wrap_nat64 _ (by omega)]
theorem i64_or_nat (a b : Nat) (ha : a < 9223372036854775808) (hb : b < 9223372036854775808) : bits .or .i64 (a : Int) (b : Int) = ((a ||| b : Nat) : Int) := by
  have hx : a ||| b < 2 ^ 63 := Nat.or_lt_two_pow (by omega) (by omega)
  show IntKind.i64.wrap ((BitVec.ofInt 64 (a : Int) ||| BitVec.ofInt 64 (b : Int)).toNat : Int) = _
  rw [BitVec.toNat_or, ofInt_u64 a (by omega), ofInt_u64 b (by omega), wrap_nat64 _ (by omega)]
theorem i64_xor_nat (a b : Nat) (ha : a < 9223372036854775808) (hb : b < 9223372036854775808) : bits .xor .i64 (a : Int) (b : Int) = ((a ^^^ b : Nat) : Int) := by
  have hx : a ^^^ b < 2 ^ 63 := Nat.xor_lt_two_pow (by omega) (by omega)
  show IntKind.i64.wrap ((BitVec.ofInt 64 (a : Int) ^^^ BitVec.ofInt 64 (b : Int)).toNat : Int) = _
  rw [BitVec.toNat_xor, ofInt_u64 a (by omega), ofInt_u64 b (by omega), wrap_nat64 _ (by omega)]

def bitN (L k : Nat) : Bool := L / 2 ^ k % 2 == 1
theorem shr_cast (L k : Nat) : (L : Int) / 2 ^ k = ((L / 2 ^ k : Nat) : Int) := by simp
theorem bit_and (L k : Nat) (hL : L < 9223372036854775808) : (bits .and .i64 ((L : Int) / 2 ^ k) 1 == 1) = bitN L k := by
  have h1 : L / 2 ^ k ≤ L := Nat.div_le_self _ _
  rw [shr_cast, show (1 : Int) = ((1 : Nat) : Int) from rfl, i64_and_nat _ _ (by omega) (by omega), nat_mask1]
  unfold bitN
  generalize L / 2 ^ k = m
  rw [Bool.eq_iff_iff, beq_iff_eq, beq_iff_eq]; omega
theorem bit_mod (L k : Nat) : ((L : Int) / 2 ^ k % 2 == 1) = bitN L k := by
  rw [shr_cast]
  unfold bitN
  generalize L / 2 ^ k = m
  rw [Bool.eq_iff_iff, beq_iff_eq, beq_iff_eq]; omega

/-- The sum of the powers of all k below n at which f holds. -/
def lotN (f : Nat → Bool) : Nat → Nat
  | 0 => 0
  | n + 1 => lotN f n + if f n then 2 ^ n else 0
theorem lotN_lt (f : Nat → Bool) (n : Nat) : lotN f n < 2 ^ n := by
  induction n with
  | zero => simp [lotN]
  | succ n ih => rw [lotN, Nat.pow_succ]; split <;> omega
theorem lotN_hit {f : Nat → Bool} {k : Nat} (h : f k = true) : lotN f (k + 1) = lotN f k + 2 ^ k := by simp [lotN, h]
theorem lotN_miss {f : Nat → Bool} {k : Nat} (h : f k = false) : lotN f (k + 1) = lotN f k := by simp [lotN, h]
theorem pow_small {k : Nat} (hk : k ≤ 60) : 2 ^ k ≤ 1152921504606846976 := by
  have h : 2 ^ k ≤ 2 ^ 60 := Nat.pow_le_pow_right (by omega) hk
  have e : (2 : Nat) ^ 60 = 1152921504606846976 := by decide
  rwa [e] at h
theorem shl_cast {k : Nat} (hk : k ≤ 60) : wrap64 ((2 : Int) ^ k) = ((2 ^ k : Nat) : Int) := by
  have := pow_small hk
  have e : (2 : Int) ^ k = ((2 ^ k : Nat) : Int) := by simp
  rw [e]
  generalize 2 ^ k = m at *
  exact IntWalk.wrap64_in _ ⟨by omega, by omega⟩
theorem or_hit {f : Nat → Bool} {k : Nat} (hk : k ≤ 60) (h : f k = true) : bits .or .i64 (lotN f k : Nat) (wrap64 ((2 : Int) ^ k)) = (lotN f (k + 1) : Nat) := by
  have h1 := lotN_lt f k
  have h2 := pow_small hk
  rw [shl_cast hk, i64_or_nat _ _ (by omega) (by omega), lotN_hit h, Nat.or_comm, nat_join k _ _ (Nat.mod_self _) h1]
  omega
theorem add_hit {f : Nat → Bool} {k : Nat} (hk : k ≤ 60) (h : f k = true) : wrap64 ((lotN f k : Nat) + wrap64 ((2 : Int) ^ k)) = (lotN f (k + 1) : Nat) := by
  have h1 := lotN_lt f k
  have h2 := pow_small hk
  rw [shl_cast hk, lotN_hit h, IntWalk.wrap64_in _ ⟨by omega, by omega⟩]
  omega

end Go.Proofs.Ytkjdlpbfalojdaa
