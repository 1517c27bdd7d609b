/-
  hornkeep.ArithDivides: the walks joined
-/
import Derived.Test.YtgaijgadeodoeaaAF
import Derived.Test.YtgaijgadeodoeaaAF1
import Derived.Test.YtgaijgadeodoeaaAF2
import Derived.Test.YtgaijgadeodoeaaAF3
namespace Go.Proofs.Ytgaijgadeodoeaa
open Go.RowKit

theorem opR_ov {n : Int} (h : In64 n) : opR (ov n) = (n, true) := by rw [ov_ok h.1 h.2]; rfl

theorem big_two {a : Int} (ha : In64 a) (h : a.tmod (-9223372036854775808) = 0) : a = 0 ∨ a = -9223372036854775808 := by
  obtain ⟨a1, a2⟩ := ha
  have h1 := Int.mul_tdiv_add_tmod a (-9223372036854775808)
  omega

theorem arithDivides_walk (a b c : Int) (w : World) (ha : In64 a) (hb : In64 b) (_ : In64 c) :
    Calls Try.prog 5 #[.int .i64 a, .int .i64 b, .int .i64 c] w (Ret (.bool true) w) := by
  by_cases h0 : b = 0
  · subst h0
    exact divides_zero a c w ha
  by_cases ho : a = -9223372036854775808 ∧ b = -1
  · obtain ⟨rfl, rfl⟩ := ho
    exact divides_over c w
  have hq := tdiv_in ha h0 ho
  have D := divides_of ha hb h0 hq
  by_cases hg : In64 (Nat.gcd a.natAbs b.natAbs)
  · have G := gcd_of h0 hg
    have q1 : opR (nQuo a b) = (a.tdiv b, true) := by rw [nQuo, if_neg h0]; exact opR_ov hq
    have q2 : opR (nRem a b) = (a.tmod b, true) := by rw [nRem, if_neg h0]; rfl
    have q3 : opR (nDiv a b) = (a.fdiv b, true) := by rw [nDiv, if_neg h0]; exact opR_ov D.d1
    have q4 : opR (nMod a b) = (a.fmod b, true) := by rw [nMod, if_neg h0]; rfl
    have q5 : opR (nGcd a b) = ((Nat.gcd a.natAbs b.natAbs : Int), true) := opR_ov hg
    rcases Int.lt_trichotomy (a.tmod b) 0 with hr | hr | hr
    · by_cases hp : 0 < b
      · exact divides_pos_n a b c _ _ _ _ _ w ha hb hr hp q1 q2 q3 q4 q5 D G
      · by_cases hm : b = -9223372036854775808
        · exact divides_min_n a b c _ _ _ _ _ w ha hb hr hm q1 q2 q3 q4 q5 D G
        · exact divides_neg_n a b c _ _ _ _ _ w ha hb hr ⟨by have := hb.1; omega, by omega⟩ q1 q2 q3 q4 q5 D G
    · by_cases hp : 0 < b
      · exact divides_pos_z a b c _ _ _ _ _ w ha hb hr hp q1 q2 q3 q4 q5 D G
      · by_cases hm : b = -9223372036854775808
        · exact divides_min_z a b c _ _ _ _ _ w ha hb hr hm q1 q2 q3 q4 q5 D G
        · exact divides_neg_z a b c _ _ _ _ _ w ha hb hr ⟨by have := hb.1; omega, by omega⟩ q1 q2 q3 q4 q5 D G
    · by_cases hp : 0 < b
      · exact divides_pos_p a b c _ _ _ _ _ w ha hb hr hp q1 q2 q3 q4 q5 D G
      · by_cases hm : b = -9223372036854775808
        · exact divides_min_p a b c _ _ _ _ _ w ha hb hr hm q1 q2 q3 q4 q5 D G
        · exact divides_neg_p a b c _ _ _ _ _ w ha hb hr ⟨by have := hb.1; omega, by omega⟩ q1 q2 q3 q4 q5 D G
  · obtain ⟨rfl, h1⟩ := gcd_big ha hb h0 hg
    rcases big_two ha h1 with rfl | rfl
    · exact divides_big0 c w
    · exact divides_big1 c w
end Go.Proofs.Ytgaijgadeodoeaa
