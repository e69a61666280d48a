/- Plain laws for bits. -/
import Derived.Test.YtdljpdafghdedaaAPKit
set_option linter.unusedVariables false
set_option linter.unusedSimpArgs false
namespace Go.Abs

theorem land_mask (y m s : Nat) : y &&& (m <<< s) = ((y >>> s) &&& m) <<< s := by
  apply Nat.eq_of_testBit_eq
  intro i
  simp only [Nat.testBit_and, Nat.testBit_shiftLeft, Nat.testBit_shiftRight]
  by_cases h : s ≤ i
  · simp [h, Nat.add_sub_cancel' h]
  · simp [h]
theorem land_low (y s k : Nat) : y &&& ((2 ^ k - 1) <<< s) = (y / 2 ^ s % 2 ^ k) * 2 ^ s := by
  rw [land_mask, Nat.and_two_pow_sub_one_eq_mod, Nat.shiftLeft_eq, Nat.shiftRight_eq_div_pow]
theorem lor_add (a b s : Nat) (h : b < 2 ^ s) : (a * 2 ^ s) ||| b = a * 2 ^ s + b := by
  rw [← Nat.shiftLeft_eq, Nat.shiftLeft_add_eq_or_of_lt h]

theorem ofInt_toNat (n : Int) : (BitVec.ofInt 64 n).toNat = (n % 18446744073709551616).toNat := by
  rw [BitVec.toNat_ofInt]
  rfl
theorem bitop_or {a b : Nat} (ha : a < 9223372036854775808) (hb : b < 9223372036854775808) : bitop .or .i64 (a : Int) (b : Int) = ((a ||| b : Nat) : Int) := by
  have h : a ||| b < 2 ^ 63 := Nat.or_lt_two_pow (by omega) (by omega)
  unfold bitop
  show IntKind.wrap .i64 (((BitVec.ofInt 64 (a : Int)) ||| (BitVec.ofInt 64 (b : Int))).toNat : Int) = _
  rw [BitVec.toNat_or, ofInt_toNat, ofInt_toNat]
  have e1 : ((a : Int) % 18446744073709551616).toNat = a := by omega
  have e2 : ((b : Int) % 18446744073709551616).toNat = b := by omega
  rw [e1, e2, wrap64 (by omega) (by omega)]
theorem bitop_and_low (n : Int) (k : Nat) (hk : k ≤ 62) : bitop .and .i64 n ((2 ^ k - 1 : Nat) : Int) = n % (2 ^ k : Nat) := by
  have hp : 2 ^ k ≤ 2 ^ 62 := Nat.pow_le_pow_right (by decide) hk
  have hp0 : 0 < 2 ^ k := Nat.two_pow_pos k
  unfold bitop
  show IntKind.wrap .i64 (((BitVec.ofInt 64 n) &&& (BitVec.ofInt 64 ((2 ^ k - 1 : Nat) : Int))).toNat : Int) = _
  rw [BitVec.toNat_and, ofInt_toNat, ofInt_toNat]
  have e2 : (((2 ^ k - 1 : Nat) : Int) % 18446744073709551616).toNat = 2 ^ k - 1 := by omega
  rw [e2, Nat.and_two_pow_sub_one_eq_mod]
  have hlt : (n % 18446744073709551616).toNat % 2 ^ k < 2 ^ k := Nat.mod_lt _ hp0
  rw [wrap64 (by omega) (by omega), Int.natCast_emod, Int.toNat_of_nonneg (Int.emod_nonneg _ (by decide))]
  have hd : ((2 ^ k : Nat) : Int) ∣ 18446744073709551616 := by
    have : (2 ^ k : Nat) ∣ 18446744073709551616 := Nat.pow_dvd_pow (m := k) (n := 64) 2 (by omega)
    exact Int.natCast_dvd_natCast.2 this
  exact Int.emod_emod_of_dvd n hd
theorem bitop_and_mask {y : Nat} (hy : y < 9223372036854775808) (s k : Nat) (hm : (2 ^ k - 1) <<< s < 9223372036854775808) : bitop .and .i64 (y : Int) (((2 ^ k - 1) <<< s : Nat) : Int) = ((y / 2 ^ s % 2 ^ k * 2 ^ s : Nat) : Int) := by
  unfold bitop
  show IntKind.wrap .i64 (((BitVec.ofInt 64 (y : Int)) &&& (BitVec.ofInt 64 (((2 ^ k - 1) <<< s : Nat) : Int))).toNat : Int) = _
  rw [BitVec.toNat_and, ofInt_toNat, ofInt_toNat]
  have e1 : ((y : Int) % 18446744073709551616).toNat = y := by omega
  rw [← land_low]
  have h3 : y &&& (2 ^ k - 1) <<< s ≤ y := Nat.and_le_left
  revert h3 hm
  generalize (2 ^ k - 1) <<< s = M
  intro hm h3
  have e2 : ((M : Int) % 18446744073709551616).toNat = M := by omega
  rw [e1, e2, wrap64 (by omega) (by omega)]
end Go.Abs
