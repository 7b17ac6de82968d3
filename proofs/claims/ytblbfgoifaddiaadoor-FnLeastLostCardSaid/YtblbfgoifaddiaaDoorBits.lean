/- The model's bit operations on small numbers, in plain words. -/
import Derived.Laws.BitsLemmas
import Derived.Below
namespace Go.Proofs.YtblbfgoifaddiaaDoor
set_option linter.unusedVariables false
theorem i64_and1 (n : Int) : bits .and .i64 n 1 = n % 2 := by
  have h1 : (BitVec.ofInt 64 1).toNat = 2 ^ 1 - 1 := by decide
  have key : (BitVec.ofInt 64 n &&& BitVec.ofInt 64 1).toNat = (n % ((2 ^ 64 : Nat) : Int)).toNat % 2 ^ 1 := by
    rw [BitVec.toNat_and, BitVec.toNat_ofInt, h1, Nat.and_two_pow_sub_one_eq_mod]
  show IntKind.i64.wrap ((BitVec.ofInt 64 n &&& BitVec.ofInt 64 1).toNat : Nat) = n % 2
  rw [key, IntKind.wrap_i64]
  omega
theorem ofInt_small (a : Nat) (ha : a < 9223372036854775808) : (BitVec.ofInt 64 (a : Int)).toNat = a := by
  rw [BitVec.ofInt_natCast, BitVec.toNat_ofNat]; exact Nat.mod_eq_of_lt (by omega)
theorem i64_and_nat (a b : Nat) (ha : a < 65536) (hb : b < 65536) : bits .and .i64 (a : Int) (b : Int) = ((a &&& b : Nat) : Int) := by
  have hx : a &&& b < 2 ^ 16 := Nat.and_lt_two_pow _ (by omega)
  show IntKind.i64.wrap ((BitVec.ofInt 64 (a : Int) &&& BitVec.ofInt 64 (b : Int)).toNat : Int) = _
  rw [BitVec.toNat_and, ofInt_small a (by omega), ofInt_small b (by omega), IntKind.wrap_i64]
  omega
theorem i64_andNot_nat (a b : Nat) (ha : a < 65536) (hb : b < 65536) : bits .andNot .i64 (a : Int) (b : Int) = ((a &&& (18446744073709551615 - b) : Nat) : Int) := by
  have hx : a &&& (18446744073709551615 - b) < 2 ^ 16 := by rw [Nat.and_comm]; exact Nat.and_lt_two_pow _ (by omega)
  show IntKind.i64.wrap ((BitVec.ofInt 64 (a : Int) &&& ~~~BitVec.ofInt 64 (b : Int)).toNat : Int) = _
  rw [BitVec.toNat_and, BitVec.toNat_not, ofInt_small a (by omega), ofInt_small b (by omega), IntKind.wrap_i64]
  have e : 2 ^ 64 - 1 - b = 18446744073709551615 - b := by omega
  rw [e]
  omega
/-- a number's k-th bit -/
def bitI (s : Int) (k : Nat) : Int := s / 2 ^ k % 2
theorem bitI_01 (s : Int) (k : Nat) : bitI s k = 0 ∨ bitI s k = 1 := by unfold bitI; omega
theorem and1_bit (s : Int) (k : Nat) : bits .and .i64 (s / 2 ^ k) 1 = bitI s k := i64_and1 _
theorem tmod_bit {s : Int} (k : Nat) (h : 0 ≤ s) : (s / 2 ^ k).tmod 2 = bitI s k := Int.tmod_eq_emod_of_nonneg (Int.ediv_nonneg h (Int.le_of_lt (Int.pow_pos (by decide))))
theorem pow2_bounds {n : Nat} (h : n ≤ 8) : (1 : Int) ≤ 2 ^ n ∧ (2 : Int) ^ n ≤ 256 := by
  have : n = 0 ∨ n = 1 ∨ n = 2 ∨ n = 3 ∨ n = 4 ∨ n = 5 ∨ n = 6 ∨ n = 7 ∨ n = 8 := by omega
  rcases this with rfl | rfl | rfl | rfl | rfl | rfl | rfl | rfl | rfl <;> decide
end Go.Proofs.YtblbfgoifaddiaaDoor
