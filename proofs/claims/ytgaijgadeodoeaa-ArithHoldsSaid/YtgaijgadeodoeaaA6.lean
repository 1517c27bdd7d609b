/-
  Bits, shifts and powers (plain).
-/
import Derived.Test.YtgaijgadeodoeaaA3
namespace Go.Proofs.Ytgaijgadeodoeaa
open Go.RowKit

theorem bits_in (op : BinOp) (a b : Int) : In64 (bits op .i64 a b) := by
  have := bounds_i64 (wf_bits op .i64 a b)
  unfold In64
  omega

theorem i64_and1 (n : Int) : bits .and .i64 n 1 = n % 2 := by
  show IntKind.i64.wrap ((BitVec.ofInt 64 n &&& BitVec.ofInt 64 1).toNat : Nat) = n % 2
  rw [IntKind.wrap_i64]
  have h : (BitVec.ofInt 64 n &&& BitVec.ofInt 64 1).toNat = (n % 2).toNat := by
    rw [BitVec.toNat_and, BitVec.toNat_ofInt, BitVec.toNat_ofInt]
    have : ((1 : Int) % ((2 ^ 64 : Nat) : Int)).toNat = 1 := by decide
    rw [this, Nat.and_one_is_mod]
    omega
  rw [h]
  omega

theorem i64_notAll (a : Int) (ha : In64 a) : bits .xor .i64 (-1) a = -1 - a := by
  unfold In64 at ha
  show IntKind.i64.wrap ((BitVec.ofInt 64 (-1) ^^^ BitVec.ofInt 64 a).toNat : Nat) = -1 - a
  rw [IntKind.wrap_i64]
  have e : BitVec.ofInt 64 (-1) = BitVec.allOnes 64 := by decide
  rw [e, BitVec.allOnes_xor, BitVec.toNat_not, BitVec.toNat_ofInt]
  omega

theorem sign_bits {a : Int} (h1 : -9223372036854775808 ≤ a) (h2 : a ≤ 9223372036854775807) :
    bits .or .i64 (a / 9223372036854775808) (wrap64 (IntKind.u64.wrap (wrap64 (-a)) / 9223372036854775808)) = if a < 0 then -1 else if 0 < a then 1 else 0 := by
  by_cases h : a < 0
  · rw [if_pos h]
    have e1 : a / 9223372036854775808 = -1 := by omega
    rw [e1]
    by_cases h3 : a = -9223372036854775808
    · have e2 : wrap64 (IntKind.u64.wrap (wrap64 (-a)) / 9223372036854775808) = 1 := by
        simp only [IntKind.wrap_u64]; unfold wrap64; omega
      rw [e2]; decide
    · have e2 : wrap64 (IntKind.u64.wrap (wrap64 (-a)) / 9223372036854775808) = 0 := by
        simp only [IntKind.wrap_u64]; unfold wrap64; omega
      rw [e2]; decide
  · rw [if_neg h]
    have e1 : a / 9223372036854775808 = 0 := by omega
    rw [e1]
    by_cases h3 : 0 < a
    · rw [if_pos h3]
      have e2 : wrap64 (IntKind.u64.wrap (wrap64 (-a)) / 9223372036854775808) = 1 := by
        simp only [IntKind.wrap_u64]; unfold wrap64; omega
      rw [e2]; decide
    · rw [if_neg h3]
      have e2 : wrap64 (IntKind.u64.wrap (wrap64 (-a)) / 9223372036854775808) = 0 := by
        simp only [IntKind.wrap_u64]; unfold wrap64; omega
      rw [e2]; decide

theorem two_pow_pos (n : Nat) : (0 : Int) < 2 ^ n := Int.pow_pos (by decide)

theorem pow_split {b : Nat} (h : b ≤ 63) : (18446744073709551616 : Int) = 2 ^ (64 - b) * 2 ^ b := by
  rw [← Int.pow_add, show 64 - b + b = 64 by omega]; rfl

/-- Shifted there and back. -/
theorem shl_shr {a : Int} {b : Nat} (hb : b ≤ 63) : wrap64 (a * 2 ^ b) / 2 ^ b = a ↔ In64 (a * 2 ^ b) := by
  have hp := two_pow_pos b
  have h2 := pow_split hb
  have hq := two_pow_pos (64 - b)
  constructor
  · intro h
    by_cases hi : In64 (a * 2 ^ b)
    · exact hi
    · exfalso
      have e : wrap64 (a * 2 ^ b) = (a - 2 ^ (64 - b) * ((a * 2 ^ b + 9223372036854775808) / 18446744073709551616)) * 2 ^ b := by
        have e1 : wrap64 (a * 2 ^ b) = a * 2 ^ b - 18446744073709551616 * ((a * 2 ^ b + 9223372036854775808) / 18446744073709551616) := by unfold wrap64; omega
        rw [e1, Int.sub_mul]
        congr 1
        generalize (a * 2 ^ b + 9223372036854775808) / 18446744073709551616 = q
        rw [h2, Int.mul_assoc, Int.mul_assoc, Int.mul_comm (2 ^ b) q]
      have hk : (a * 2 ^ b + 9223372036854775808) / 18446744073709551616 ≠ 0 := by unfold In64 at hi; omega
      generalize (a * 2 ^ b + 9223372036854775808) / 18446744073709551616 = q at e hk
      rw [e, Int.mul_ediv_cancel _ (by omega)] at h
      have : 2 ^ (64 - b) * q = 0 := by omega
      rcases Int.mul_eq_zero.1 this with h5 | h5
      · omega
      · exact hk h5
  · intro h
    rw [show wrap64 (a * 2 ^ b) = a * 2 ^ b by unfold In64 at h; unfold wrap64; omega]
    exact Int.mul_ediv_cancel _ (by omega)

theorem pow_ge {b : Nat} (h : 64 ≤ b) : (18446744073709551616 : Int) ≤ 2 ^ b := by
  have e : (2 : Int) ^ b = 18446744073709551616 * 2 ^ (b - 64) := by
    rw [show (18446744073709551616 : Int) = 2 ^ 64 by rfl, ← Int.pow_add, show 64 + (b - 64) = b by omega]
  have := two_pow_pos (b - 64)
  omega

theorem shl_big {a : Int} {b : Nat} (ha : a ≠ 0) (h : 64 ≤ b) : ¬ In64 (a * 2 ^ b) := by
  have hp := pow_ge h
  unfold In64
  rcases Int.lt_or_le 0 a with h1 | h1
  · have := Int.mul_le_mul_of_nonneg_right (show (1 : Int) ≤ a by omega) (show (0 : Int) ≤ 2 ^ b by omega)
    omega
  · have := Int.mul_le_mul_of_nonneg_right (show a ≤ (-1 : Int) by omega) (show (0 : Int) ≤ 2 ^ b by omega)
    omega

theorem shr_big {a : Int} {b : Nat} (ha : In64 a) (h : 64 ≤ b) : a / 2 ^ 63 = a / 2 ^ b := by
  have hp := pow_ge h
  unfold In64 at ha
  have e63 : (2 : Int) ^ 63 = 9223372036854775808 := rfl
  rw [e63]
  rcases Int.lt_or_le a 0 with h1 | h1
  · have e1 : a / 9223372036854775808 = -1 := by omega
    have e2 : a / 2 ^ b = -1 := by
      have h3 : -1 ≤ a / 2 ^ b := (Int.le_ediv_iff_mul_le (by omega)).2 (by omega)
      have h4 : a / 2 ^ b < 0 := Int.ediv_neg_of_neg_of_pos h1 (by omega)
      omega
    rw [e1, e2]
  · rw [Int.ediv_eq_zero_of_lt h1 (by omega), Int.ediv_eq_zero_of_lt h1 (by omega)]

theorem neg_one_pow (b : Nat) : (-1 : Int) ^ b = 1 - 2 * ((b : Int) % 2) := by
  induction b with
  | zero => rfl
  | succ n ih => rw [Int.pow_succ, ih]; omega

theorem pow_grows {a : Int} (ha : 2 ≤ a.natAbs) (i j : Nat) (h : i ≤ j) : (a ^ i).natAbs ≤ (a ^ j).natAbs := by
  induction j with
  | zero => have : i = 0 := by omega
            subst this; exact Nat.le_refl _
  | succ j ih =>
    by_cases e : i = j + 1
    · subst e; exact Nat.le_refl _
    · have h1 := ih (by omega)
      rw [Int.pow_succ, Int.natAbs_mul]
      exact Nat.le_trans h1 (Nat.le_mul_of_pos_right _ (by omega))

theorem pow_grows_lt {a : Int} (ha : 2 ≤ a.natAbs) (i j : Nat) (h : i < j) (h0 : 1 ≤ (a ^ i).natAbs) : (a ^ i).natAbs < (a ^ j).natAbs := by
  have h1 := pow_grows ha (i + 1) j (by omega)
  rw [Int.pow_succ, Int.natAbs_mul] at h1
  have h2 : (a ^ i).natAbs * 2 ≤ (a ^ i).natAbs * a.natAbs := Nat.mul_le_mul_left _ ha
  omega

/-- Once out of range, out of range. -/
theorem pow_out {a : Int} (ha : 2 ≤ a.natAbs) {i j : Nat} (h : i ≤ j) (ho : ¬ In64 (a ^ i)) : ¬ In64 (a ^ j) := by
  by_cases e : i = j
  · subst e; exact ho
  · have h1 : 9223372036854775808 ≤ (a ^ i).natAbs := by unfold In64 at ho; omega
    have h2 := pow_grows_lt ha i j (by omega) (by omega)
    unfold In64
    omega
end Go.Proofs.Ytgaijgadeodoeaa
