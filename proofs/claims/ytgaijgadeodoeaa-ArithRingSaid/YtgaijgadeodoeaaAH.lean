/-
  hornkeep.ArithRing: the plain laws
-/
import Derived.Test.YtgaijgadeodoeaaAD
namespace Go.Proofs.Ytgaijgadeodoeaa
open Go.RowKit

theorem opR_in {r : Num} {n : Int} (h : opR r = (n, true)) : r = .ok n := by
  cases r with
  | ok m => cases h; rfl
  | bad s => cases h
theorem ov_true {m n : Int} (h : opR (ov m) = (n, true)) : n = m := by
  have h1 := opR_in h
  unfold ov at h1
  split at h1
  · cases h1; rfl
  · cases h1

theorem ring_add {a b c ab bc l r : Int} {u v : Bool} (h1 : opR (nAdd a b) = (ab, true)) (h2 : opR (nAdd b c) = (bc, true)) (h3 : opR (nAdd ab c) = (l, u)) (h4 : opR (nAdd a bc) = (r, v)) : r = l ∧ v = u := by
  have e1 := ov_true h1
  have e2 := ov_true h2
  subst e1 e2
  rw [nAdd, Int.add_assoc] at h3
  rw [nAdd, h3] at h4
  cases h4
  exact ⟨rfl, rfl⟩

theorem ring_mul {a b c ab bc l r : Int} {u v : Bool} (h1 : opR (nMul a b) = (ab, true)) (h2 : opR (nMul b c) = (bc, true)) (h3 : opR (nMul ab c) = (l, u)) (h4 : opR (nMul a bc) = (r, v)) : r = l ∧ v = u := by
  have e1 := ov_true h1
  have e2 := ov_true h2
  subst e1 e2
  rw [nMul, Int.mul_assoc] at h3
  rw [nMul, h3] at h4
  cases h4
  exact ⟨rfl, rfl⟩

theorem nAdd_comm (a b : Int) : nAdd b a = nAdd a b := by rw [nAdd, nAdd, Int.add_comm]
theorem nMul_comm (a b : Int) : nMul b a = nMul a b := by rw [nMul, nMul, Int.mul_comm]

theorem i64_and31 (n : Int) : bits .and .i64 n 31 = n % 32 := by
  show IntKind.i64.wrap ((BitVec.ofInt 64 n &&& BitVec.ofInt 64 31).toNat : Nat) = n % 32
  rw [IntKind.wrap_i64]
  have h : (BitVec.ofInt 64 n &&& BitVec.ofInt 64 31).toNat = (n % 32).toNat := by
    rw [BitVec.toNat_and, BitVec.toNat_ofInt, BitVec.toNat_ofInt]
    have : ((31 : Int) % ((2 ^ 64 : Nat) : Int)).toNat = 2 ^ 5 - 1 := by decide
    rw [this, Nat.and_two_pow_sub_one_eq_mod]
    omega
  rw [h]
  omega

theorem pow31 (k : Nat) (h : k ≤ 31) : (2 : Int) ^ k ≤ 2147483648 ∧ (1 : Int) ≤ 2 ^ k := by
  have h1 : (2 : Nat) ^ k ≤ 2 ^ 31 := Nat.pow_le_pow_right (by decide) h
  have h2 : 1 ≤ (2 : Nat) ^ k := Nat.one_le_two_pow
  have h3 : ((2 ^ k : Nat) : Int) = (2 : Int) ^ k := by simp
  omega

theorem ediv_in {a p : Int} (a1 : -9223372036854775808 ≤ a) (a2 : a ≤ 9223372036854775807) (hp : 1 ≤ p) : -9223372036854775808 ≤ a / p ∧ a / p ≤ 9223372036854775807 := by
  constructor
  · refine Int.le_ediv_of_mul_le (by omega) ?_
    have h9 : (-9223372036854775808 : Int) * p ≤ -9223372036854775808 * 1 := by
      rw [Int.neg_mul, Int.neg_mul]
      have := Int.mul_le_mul_of_nonneg_left hp (show (0 : Int) ≤ 9223372036854775808 by omega)
      omega
    omega
  · have h3 := Int.mul_ediv_add_emod a p
    have h4 := Int.emod_nonneg a (show p ≠ 0 by omega)
    rcases Int.lt_or_le (a / p) 9223372036854775808 with h | h
    · omega
    · have h6 := Int.mul_le_mul_of_nonneg_right hp (show (0 : Int) ≤ a / p by omega)
      omega

/-- The last line: shifts are products and quotients. -/
theorem ring_shift {a : Int} (ha : In64 a) {k : Nat} (hk : k ≤ 31) {t back : Int} {y x : Bool} (h1 : opR (nLeft a k) = (t, y)) (h2 : opR (nRight t k) = (back, x)) :
    opR (nPow 2 k) = (2 ^ k, true) ∧ opR (nMul a (2 ^ k)) = (t, y) ∧ opR (nRight a k) = (a / 2 ^ k, true) ∧ opR (nDiv a (2 ^ k)) = (a / 2 ^ k, true) ∧ (y = true → back = a) := by
  obtain ⟨p1, p2⟩ := pow31 k hk
  have hk0 : ¬ (k : Int) < 0 := by omega
  have e1 : nLeft a k = ov (a * 2 ^ k) := by rw [nLeft, if_neg hk0, Int.toNat_natCast]
  have hd : In64 (a / 2 ^ k) := ediv_in ha.1 ha.2 p2
  refine ⟨?_, ?_, ?_, ?_, ?_⟩
  · rw [nPow, if_neg hk0, Int.toNat_natCast, ov_ok (by omega) (by omega)]; rfl
  · rw [nMul, ← e1]; exact h1
  · rw [nRight, if_neg hk0, Int.toNat_natCast]; rfl
  · rw [nDiv, if_neg (by omega), Int.fdiv_eq_ediv_of_nonneg _ (by omega), ov_ok hd.1 hd.2]; rfl
  · intro hw
    subst hw
    rw [e1] at h1
    have e2 := ov_true h1
    subst e2
    rw [nRight, if_neg hk0, Int.toNat_natCast] at h2
    cases h2
    exact Int.mul_ediv_cancel _ (by omega)
end Go.Proofs.Ytgaijgadeodoeaa
