/-
  hornkeep.ArithDivides: the plain laws
-/
import Derived.Test.YtgaijgadeodoeaaAD
namespace Go.Proofs.Ytgaijgadeodoeaa
open Go.RowKit

/-- What the quotients and rests are to each other. -/
structure Divides (a b q r d m : Int) : Prop where
  q1 : In64 q
  r1 : In64 r
  d1 : In64 d
  m1 : In64 m
  e1 : q * b + r = a
  e2 : d * b + m = a
  mp : 0 < b → 0 ≤ m ∧ m < b
  mn : b < 0 → b < m ∧ m ≤ 0
  rp : 0 < b → -b < r ∧ r < b
  rn : b < 0 → b < r ∧ r < -b
  ra : 0 ≤ a → 0 ≤ r
  rb : a ≤ 0 → r ≤ 0
  qd : d ≤ q
  zero : m = 0 ↔ r = 0

theorem divides_of {a b : Int} (ha : In64 a) (hb : In64 b) (h0 : b ≠ 0) (ho : In64 (a.tdiv b)) : Divides a b (a.tdiv b) (a.tmod b) (a.fdiv b) (a.fmod b) := by
  have h1 : b * a.tdiv b + a.tmod b = a := Int.mul_tdiv_add_tmod a b
  have h2 : b * a.fdiv b + a.fmod b = a := Int.mul_fdiv_add_fmod a b
  have hm : (a.tmod b).natAbs < b.natAbs := by rw [← tmod_size]; have := Nat.mod_lt a.natAbs (show 0 < b.natAbs by omega); split <;> omega
  have hf1 : 0 < b → 0 ≤ a.fmod b ∧ a.fmod b < b := fun h => ⟨Int.fmod_nonneg_of_pos a (by omega), Int.fmod_lt_of_pos a (by omega)⟩
  have hf2 : b < 0 → b < a.fmod b ∧ a.fmod b ≤ 0 := by
    intro h
    have e : a.fmod b = -((-a).fmod (-b)) := by rw [Int.neg_fmod_neg]; omega
    have h3 := Int.fmod_nonneg_of_pos (-a) (b := -b) (by omega)
    have h4 := Int.fmod_lt_of_pos (-a) (b := -b) (by omega)
    omega
  have ra : 0 ≤ a → 0 ≤ a.tmod b := fun h => Int.tmod_nonneg b h
  have rb : a ≤ 0 → a.tmod b ≤ 0 := by
    intro h
    have := Int.tmod_nonneg b (show 0 ≤ -a by omega)
    rw [Int.neg_tmod] at this
    omega
  have hadj := fdiv_adj (a := a) h0
  have hsm : a.tmod b ≠ 0 → -9223372036854775808 < a.tdiv b := fun h => tdiv_small h ha
  obtain ⟨b1, b2⟩ := hb
  obtain ⟨o1, o2⟩ := ho
  have hin : In64 (a.tmod b) := ⟨by omega, by omega⟩
  have hin2 : In64 (a.fmod b) := ⟨by omega, by omega⟩
  have e1 : a.tdiv b * b + a.tmod b = a := by rw [Int.mul_comm]; exact h1
  have e2 : a.fdiv b * b + a.fmod b = a := by rw [Int.mul_comm]; exact h2
  by_cases hc : a.tmod b ≠ 0 ∧ ((a.tmod b < 0) ≠ (b < 0))
  · obtain ⟨h3, h4⟩ := hadj.1 hc
    have h5 := hsm hc.1
    refine ⟨⟨o1, o2⟩, hin, ⟨by omega, by omega⟩, hin2, e1, e2, hf1, hf2, fun h => by omega, fun h => by omega, ra, rb, by omega, ?_⟩
    constructor
    · intro h6; omega
    · intro h6; exact absurd h6 hc.1
  · obtain ⟨h3, h4⟩ := hadj.2 hc
    refine ⟨⟨o1, o2⟩, hin, ⟨by omega, by omega⟩, hin2, e1, e2, hf1, hf2, fun h => by omega, fun h => by omega, ra, rb, by omega, by rw [h4]⟩

theorem tdiv_in {a b : Int} (ha : In64 a) (hb : b ≠ 0) (ho : ¬ (a = -9223372036854775808 ∧ b = -1)) : In64 (a.tdiv b) := by
  have h1 : b * a.tdiv b + a.tmod b = a := Int.mul_tdiv_add_tmod a b
  have h2 := tdiv_le a b
  obtain ⟨a1, a2⟩ := ha
  refine ⟨by omega, ?_⟩
  by_cases h3 : a.tdiv b ≤ 9223372036854775807
  · exact h3
  · exfalso
    have h4 : a.tdiv b = 9223372036854775808 := by omega
    have h5 : a = -9223372036854775808 := by omega
    subst h5
    rw [h4] at h1
    have hr : (Int.tmod (-9223372036854775808) b).natAbs < b.natAbs := by rw [← tmod_size]; have := Nat.mod_lt (Int.natAbs (-9223372036854775808)) (show 0 < b.natAbs by omega); split <;> omega
    refine ho ⟨rfl, ?_⟩
    generalize Int.tmod (-9223372036854775808) b = r at *
    omega

theorem wrap64_mul_add (q b r a : Int) (ha : In64 a) (h : q * b + r = a) : wrap64 (wrap64 (q * b) + r) = a := by
  obtain ⟨a1, a2⟩ := ha
  generalize q * b = p at h
  unfold wrap64
  omega

/-- A greatest divisor. -/
structure Gcd (a b g : Int) : Prop where
  g1 : 1 ≤ g
  g2 : g ≤ 9223372036854775807
  ga : a.tmod g = 0
  gb : b.tmod g = 0
  gc : ∀ c, c ≠ 0 → a.tmod c = 0 → b.tmod c = 0 → g.tmod c = 0

theorem gcd_of {a b : Int} (hb : b ≠ 0) (hg : In64 (Nat.gcd a.natAbs b.natAbs)) : Gcd a b (Nat.gcd a.natAbs b.natAbs) := by
  have hp : 0 < Nat.gcd a.natAbs b.natAbs := Nat.gcd_pos_of_pos_right _ (by omega)
  refine ⟨by omega, hg.2, ?_, ?_, ?_⟩
  · exact Int.tmod_eq_zero_of_dvd (Int.natAbs_dvd_natAbs.1 (by rw [Int.natAbs_natCast]; exact Nat.gcd_dvd_left _ _))
  · exact Int.tmod_eq_zero_of_dvd (Int.natAbs_dvd_natAbs.1 (by rw [Int.natAbs_natCast]; exact Nat.gcd_dvd_right _ _))
  · intro c hc h1 h2
    have d1 := Int.dvd_of_tmod_eq_zero h1
    have d2 := Int.dvd_of_tmod_eq_zero h2
    refine Int.tmod_eq_zero_of_dvd (Int.natAbs_dvd_natAbs.1 (by rw [Int.natAbs_natCast]; exact Nat.dvd_gcd (Int.natAbs_dvd_natAbs.2 d1) (Int.natAbs_dvd_natAbs.2 d2)))

theorem gcd_big {a b : Int} (ha : In64 a) (hb : In64 b) (h0 : b ≠ 0) (hg : ¬ In64 (Nat.gcd a.natAbs b.natAbs)) : b = -9223372036854775808 ∧ a.tmod (-9223372036854775808) = 0 := by
  obtain ⟨a1, a2⟩ := ha
  obtain ⟨b1, b2⟩ := hb
  have h1 : Nat.gcd a.natAbs b.natAbs ≤ b.natAbs := Nat.le_of_dvd (by omega) (Nat.gcd_dvd_right _ _)
  have h2 : 9223372036854775807 < Nat.gcd a.natAbs b.natAbs := by
    have : ¬ (-9223372036854775808 ≤ (Nat.gcd a.natAbs b.natAbs : Int) ∧ (Nat.gcd a.natAbs b.natAbs : Int) ≤ 9223372036854775807) := hg
    omega
  have h3 : b = -9223372036854775808 := by omega
  refine ⟨h3, ?_⟩
  subst h3
  have h4 : Nat.gcd a.natAbs (Int.natAbs (-9223372036854775808)) = 9223372036854775808 := by
    have : Int.natAbs (-9223372036854775808) = 9223372036854775808 := rfl
    omega
  refine Int.tmod_eq_zero_of_dvd ?_
  have h5 := Nat.gcd_dvd_left a.natAbs (Int.natAbs (-9223372036854775808))
  rw [h4] at h5
  exact Int.natAbs_dvd_natAbs.1 h5
end Go.Proofs.Ytgaijgadeodoeaa
