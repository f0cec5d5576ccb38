/- Bits of an int: or, and, a bit taken out. -/
import Derived.Test.YtlfemkelnllmnaaShort
set_option linter.all false
set_option linter.unusedVariables false
set_option linter.unusedSimpArgs false
namespace Go.Proofs.Ytlfemkelnllmnaa
open Go.RowKit

theorem wrap_small (n : Nat) (h : n < 9223372036854775808) : IntKind.i64.wrap (n : Int) = (n : Int) := by
  rw [IntKind.wrap_i64]; omega
theorem i64_or_nat (a b : Nat) (ha : a < 9223372036854775808) (hb : b < 9223372036854775808) : bits .or .i64 (a : Int) (b : Int) = ((a ||| b : Nat) : Int) := by
  have hx : a ||| b < 2 ^ 63 := Nat.or_lt_two_pow (by omega) (by omega)
  show IntKind.i64.wrap ((BitVec.ofInt 64 (a : Int) ||| BitVec.ofInt 64 (b : Int)).toNat : Int) = _
  rw [BitVec.toNat_or, ofInt_u64 a (by omega), ofInt_u64 b (by omega)]
  exact wrap_small _ (by omega)
theorem i64_and_nat (a b : Nat) (ha : a < 9223372036854775808) (hb : b < 9223372036854775808) : bits .and .i64 (a : Int) (b : Int) = ((a &&& b : Nat) : Int) := by
  have hx : a &&& b < 2 ^ 63 := Nat.and_lt_two_pow _ (by omega)
  show IntKind.i64.wrap ((BitVec.ofInt 64 (a : Int) &&& BitVec.ofInt 64 (b : Int)).toNat : Int) = _
  rw [BitVec.toNat_and, ofInt_u64 a (by omega), ofInt_u64 b (by omega)]
  exact wrap_small _ (by omega)
theorem i64_andNot_nat (a b : Nat) (ha : a < 9223372036854775808) (hb : b < 9223372036854775808) : bits .andNot .i64 (a : Int) (b : Int) = ((a &&& (18446744073709551615 - b) : Nat) : Int) := by
  have hx : a &&& (18446744073709551615 - b) < 2 ^ 63 := Nat.lt_of_le_of_lt Nat.and_le_left (by omega)
  show IntKind.i64.wrap ((BitVec.ofInt 64 (a : Int) &&& ~~~BitVec.ofInt 64 (b : Int)).toNat : Int) = _
  rw [BitVec.toNat_and, BitVec.toNat_not, ofInt_u64 a (by omega), ofInt_u64 b (by omega)]
  have e : 2 ^ 64 - 1 - b = 18446744073709551615 - b := by omega
  rw [e]
  exact wrap_small _ (by omega)
theorem pow_lt12 (k : Nat) (hk : k < 12) : (2 : Nat) ^ k < 4096 := Nat.pow_lt_pow_right (by omega) hk
theorem wrap_pow (k : Nat) (hk : k < 12) : IntKind.i64.wrap (2 ^ k) = ((2 ^ k : Nat) : Int) := by
  have h := pow_lt12 k hk
  have : ((2 : Int) ^ k) = ((2 ^ k : Nat) : Int) := by norm_cast
  rw [this]
  exact wrap_small _ (by omega)
theorem wrap_powu (k : Nat) (hk : k < 12) : IntKind.u64.wrap (2 ^ k) = ((2 ^ k : Nat) : Int) := by
  have h := pow_lt12 k hk
  have : ((2 : Int) ^ k) = ((2 ^ k : Nat) : Int) := by norm_cast
  rw [this, IntKind.wrap_u64]
  generalize 2 ^ k = c at *
  omega
theorem or_powi (m k : Nat) (hm : m < 4096) (hk : k < 12) : bits .or .i64 (m : Int) (IntKind.i64.wrap (2 ^ k)) = ((m ||| 2 ^ k : Nat) : Int) := by
  have h := pow_lt12 k hk
  rw [wrap_pow k hk]; exact i64_or_nat _ _ (by omega) (by omega)

theorem or_powi64 (m k : Nat) (hm : m < 4096) (hk : k < 12) : bits .or .i64 (m : Int) (wrap64 (2 ^ k)) = ((m ||| 2 ^ k : Nat) : Int) := by
  have h := pow_lt12 k hk
  have h2 := wrap_pow k hk
  rw [IntKind.wrap_i64] at h2
  unfold wrap64
  rw [h2]; exact i64_or_nat _ _ (by omega) (by omega)

/-- A set without one plate. -/
def withoutN (s i : Nat) : Nat := s &&& (18446744073709551615 - 2 ^ i)
theorem withoutN_lt {s i : Nat} (h : s < 4096) : withoutN s i < 4096 := Nat.lt_of_le_of_lt Nat.and_le_left h
theorem without_u64 (s i : Nat) (hs : s < 4096) (hi : i < 12) : bits .andNot .u64 (s : Int) (IntKind.u64.wrap (2 ^ i)) = (withoutN s i : Int) := by
  have h := pow_lt12 i hi
  rw [wrap_powu i hi]; exact u64_andNot_nat _ _ (by omega) (by omega)
theorem without_i64 (s i : Nat) (hs : s < 4096) (hi : i < 12) : bits .andNot .i64 (s : Int) (IntKind.i64.wrap (2 ^ i)) = (withoutN s i : Int) := by
  have h := pow_lt12 i hi
  rw [wrap_pow i hi]; exact i64_andNot_nat _ _ (by omega) (by omega)
theorem withoutN_testBit (s i j : Nat) (hs : s < 4096) (hi : i < 12) : (withoutN s i).testBit j = (s.testBit j && decide (j ≠ i)) := by
  unfold withoutN
  have h := pow_lt12 i hi
  have hb : (18446744073709551615 - 2 ^ i).testBit j = (decide (j < 64) && !(2 ^ i).testBit j) := by
    have := Nat.testBit_two_pow_sub_succ (show 2 ^ i < 2 ^ 64 by omega) j
    rwa [show 2 ^ 64 - (2 ^ i + 1) = 18446744073709551615 - 2 ^ i by omega] at this
  rw [Nat.testBit_and, hb, Nat.testBit_two_pow]
  by_cases hj : j < 64
  · by_cases e : i = j
    · simp [e]
    · simp [e, hj, Ne.symm e]
  · have : s.testBit j = false := Nat.testBit_lt_two_pow (Nat.lt_of_lt_of_le hs (by have : 2 ^ 12 ≤ 2 ^ j := Nat.pow_le_pow_right (by omega) (by omega); omega))
    simp [this]
end Go.Proofs.Ytlfemkelnllmnaa
