/-
  The program's own operations on numbers: div, mod, gcd, left, pow.
-/
import Derived.Test.YtgaijgadeodoeaaA2
namespace Go.Proofs.Ytgaijgadeodoeaa
open Go.RowKit

/-- Floor and cut. -/
theorem fdiv_adj {a b : Int} (hb : b ≠ 0) :
    (a.tmod b ≠ 0 ∧ ((a.tmod b < 0) ≠ (b < 0)) → a.fdiv b = a.tdiv b - 1 ∧ a.fmod b = a.tmod b + b) ∧
    (¬ (a.tmod b ≠ 0 ∧ ((a.tmod b < 0) ≠ (b < 0))) → a.fdiv b = a.tdiv b ∧ a.fmod b = a.tmod b) := by
  have h1 : b * a.tdiv b + a.tmod b = a := Int.mul_tdiv_add_tmod a b
  have h2 : b * a.fdiv b + a.fmod b = a := Int.mul_fdiv_add_fmod a b
  have hm : (a.tmod b).natAbs < b.natAbs := by rw [← tmod_size]; have := Nat.mod_lt a.natAbs (show 0 < b.natAbs by omega); split <;> omega
  have hf : if 0 < b then 0 ≤ a.fmod b ∧ a.fmod b < b else b < a.fmod b ∧ a.fmod b ≤ 0 := by
    split
    · exact ⟨Int.fmod_nonneg_of_pos a (by omega), Int.fmod_lt_of_pos a (by omega)⟩
    · have e : a.fmod b = -((-a).fmod (-b)) := by rw [Int.neg_fmod_neg]; omega
      have h3 := Int.fmod_nonneg_of_pos (-a) (b := -b) (by omega)
      have h4 := Int.fmod_lt_of_pos (-a) (b := -b) (by omega)
      omega
  have h5 : b * (a.fdiv b - a.tdiv b) = a.tmod b - a.fmod b := by rw [Int.mul_sub]; omega
  have hd : a.fdiv b = a.tdiv b + (a.fdiv b - a.tdiv b) := by omega
  generalize a.fdiv b - a.tdiv b = d at h5 hd
  have hdd : d = 0 ∨ d = -1 := by
    by_cases hp : 0 < b
    · rw [if_pos hp] at hf
      rcases Int.lt_or_le 0 d with h6 | h6
      · have := Int.mul_le_mul_of_nonneg_left (show (1 : Int) ≤ d by omega) (show 0 ≤ b by omega)
        omega
      · rcases Int.lt_or_le d (-1) with h7 | h7
        · have := Int.mul_le_mul_of_nonneg_left (show d ≤ (-2 : Int) by omega) (show 0 ≤ b by omega)
          omega
        · omega
    · rw [if_neg hp] at hf
      rcases Int.lt_or_le 0 d with h6 | h6
      · have := Int.mul_le_mul_of_nonneg_left (show (1 : Int) ≤ d by omega) (show 0 ≤ -b by omega)
        rw [Int.neg_mul, Int.neg_mul] at this
        omega
      · rcases Int.lt_or_le d (-1) with h7 | h7
        · have := Int.mul_le_mul_of_nonneg_left (show d ≤ (-2 : Int) by omega) (show 0 ≤ -b by omega)
          rw [Int.neg_mul, Int.neg_mul] at this
          omega
        · omega
  have hz : a.tmod b = 0 → d = 0 := by
    intro h0
    rcases hdd with h | h
    · exact h
    · subst h
      split at hf <;> omega
  constructor
  · rintro ⟨g1, g2⟩
    rcases hdd with h | h
    · subst h
      by_cases hp : 0 < b
      · rw [if_pos hp] at hf
        exact absurd (propext (iff_of_false (by omega) (by omega))) g2
      · rw [if_neg hp] at hf
        exact absurd (propext (iff_of_true (by omega) (by omega))) g2
    · subst h
      omega
  · intro g
    rcases hdd with h | h
    · subst h
      omega
    · subst h
      refine absurd ⟨fun e => by have := hz e; omega, fun e => ?_⟩ g
      by_cases hp : 0 < b
      · rw [if_pos hp] at hf
        have : ¬ a.tmod b < 0 := by rw [e]; omega
        omega
      · rw [if_neg hp] at hf
        have : a.tmod b < 0 := by rw [e]; omega
        omega

theorem tdiv_le (a b : Int) : (a.tdiv b).natAbs ≤ a.natAbs := by
  rw [← tdiv_size]
  have h1 : a.natAbs / b.natAbs ≤ a.natAbs := Nat.div_le_self _ _
  generalize a.natAbs / b.natAbs = q at *
  split <;> omega

theorem tdiv_small {a b : Int} (h : a.tmod b ≠ 0) (ha : In64 a) : -9223372036854775808 < a.tdiv b := by
  by_cases h1 : b.natAbs = 1
  · exfalso
    rcases (show b = 1 ∨ b = -1 by omega) with rfl | rfl
    · exact h (by simp)
    · exact h (by simp)
  · by_cases h0 : b = 0
    · subst h0; simp
    · have e := tdiv_size a b
      have h2 : a.natAbs / b.natAbs ≤ a.natAbs / 2 := Nat.div_le_div_left (by omega) (by omega)
      unfold In64 at ha
      rw [← e]
      generalize a.natAbs / b.natAbs = q at *
      split <;> omega

theorem prop_ne_bool {p q : Prop} [Decidable p] [Decidable q] : ((!(decide p == decide q)) = true) ↔ (p ≠ q) := by
  by_cases hp : p <;> by_cases hq : q <;> simp [hp, hq]

set_option maxHeartbeats 400000 in
theorem div_calls (a b : Int) (w : World) (ha : In64 a) (hb : In64 b) : Calls Try.prog 138 #[.int .i64 a, .int .i64 b] w (NumIs wr (nDiv a b) w) := by
  have Ha := Lib.hid ha
  have Hb := Lib.hid hb
  by_cases h0 : b = 0
  · subst h0
    clear ha hb
    go_enter Try.func138, Try.ntmps138
    go_wp2_with fail
    refine (quo_calls a 0 _ Ha.out Hb.out).mono ?_
    rw [show nQuo a 0 = .bad sZero from if_pos rfl]
    rintro e w1 ⟨t, h1, h2, rfl, hg⟩
    go_wp2_with fail
    exact ⟨rfl, t, h1, h2, rfl, hg⟩
  · have hq : nQuo a b = ov (a.tdiv b) := if_neg h0
    have hm : nRem a b = .ok (a.tmod b) := if_neg h0
    have hd : nDiv a b = ov (a.fdiv b) := if_neg h0
    have Hq := Lib.hid hq
    have Hm := Lib.hid hm
    have hadj := fdiv_adj (a := a) h0
    rw [hd]
    clear hq hm hd
    by_cases hi : -9223372036854775808 ≤ a.tdiv b ∧ a.tdiv b ≤ 9223372036854775807
    · have Hi := Lib.hid (ov_ok hi.1 hi.2)
      have hlo := tdiv_small (a := a) (b := b) (ha := ha)
      obtain ⟨hi1, hi2⟩ := hi
      have hti := tmod_in (b := b) ha
      obtain ⟨ht1, ht2⟩ := hti
      clear ha hb
      generalize hqe : a.tdiv b = q at *
      generalize hre : a.tmod b = r at *
      by_cases hc : r ≠ 0 ∧ ((r < 0) ≠ (b < 0))
      · have hf := (hadj.1 hc).1
        have hlo' := hlo hc.1
        have hr0 : (r != 0) = true := by simpa using hc.1
        have hrb : (!(decide (r < 0) == decide (b < 0))) = true := prop_ne_bool.2 hc.2
        rw [hf, ov_ok (by omega) (by omega)]
        clear hadj hlo hc hf hqe hre
        go_enter Try.func138, Try.ntmps138
        go_wp2_with fail
        refine (quo_calls a b _ Ha.out Hb.out).mono ?_
        rw [Hq.out, Hi.out]
        rintro e w1 ⟨rfl, hg, _⟩
        go_wp2_with fail
        refine (rem_calls a b _ Ha.out Hb.out).mono ?_
        rw [Hm.out]
        rintro e w2 ⟨rfl, hg2, _⟩
        go_wp2_with fail
        go_ret
        exact num_ok rfl rfl (hg.trans hg2) ⟨by omega, by omega⟩
      · have hf := (hadj.2 hc).1
        rw [hf, Hi.out]
        have Hc : Hid ((r == 0) = true ∨ (r == 0) = false ∧ (!(decide (r < 0) == decide (b < 0))) = false) := by
          by_cases h5 : r = 0
          · exact .inl (by simp [h5])
          · refine .inr ⟨by simp [h5], ?_⟩
            rw [Bool.eq_false_iff]
            intro h6
            exact hc ⟨h5, prop_ne_bool.1 h6⟩
        clear hadj hlo hc hf hqe hre
        rcases Hc.out with h5 | ⟨h5, h6⟩
        · have h5' : r = 0 := by simpa using h5
          subst h5'
          clear Hc h5
          go_enter Try.func138, Try.ntmps138
          go_wp2_with fail
          refine (quo_calls a b _ Ha.out Hb.out).mono ?_
          rw [Hq.out, Hi.out]
          rintro e w1 ⟨rfl, hg, _⟩
          go_wp2_with fail
          refine (rem_calls a b _ Ha.out Hb.out).mono ?_
          rw [Hm.out]
          rintro e w2 ⟨rfl, hg2, _⟩
          go_wp2_with fail
          go_ret
          exact num_ok rfl rfl (hg.trans hg2) ⟨by omega, by omega⟩
        · have h7 : (r != 0) = true := by simpa using h5
          clear Hc h5
          go_enter Try.func138, Try.ntmps138
          go_wp2_with fail
          refine (quo_calls a b _ Ha.out Hb.out).mono ?_
          rw [Hq.out, Hi.out]
          rintro e w1 ⟨rfl, hg, _⟩
          go_wp2_with fail
          refine (rem_calls a b _ Ha.out Hb.out).mono ?_
          rw [Hm.out]
          rintro e w2 ⟨rfl, hg2, _⟩
          go_wp2_with fail
          go_ret
          exact num_ok rfl rfl (hg.trans hg2) ⟨by omega, by omega⟩
    · have hle := tdiv_le a b
      have hq0 : a.tdiv b = 9223372036854775808 := by unfold In64 at ha; omega
      have hz : ¬ (a.tmod b ≠ 0 ∧ ((a.tmod b < 0) ≠ (b < 0))) := by
        intro h5
        have h6 : a.tmod b ≠ 0 := h5.1
        have h7 : b.natAbs = 1 := by
          have h8 := tdiv_size a b
          by_cases h9 : b.natAbs = 1
          · exact h9
          · have h10 : a.natAbs / b.natAbs ≤ a.natAbs / 2 := Nat.div_le_div_left (by omega) (by omega)
            unfold In64 at ha
            generalize a.natAbs / b.natAbs = q at *
            split at h8 <;> omega
        rcases (show b = 1 ∨ b = -1 by omega) with rfl | rfl
        · exact h6 (by simp)
        · exact h6 (by simp)
      have hbad : ov (a.tdiv b) = .bad sOverflow := ov_bad (by omega)
      have Hbad := Lib.hid hbad
      rw [(hadj.2 hz).1, hbad]
      clear hadj hle hq0 hz hbad ha hb hi
      go_enter Try.func138, Try.ntmps138
      go_wp2_with fail
      refine (quo_calls a b _ Ha.out Hb.out).mono ?_
      rw [Hq.out, Hbad.out]
      rintro e w1 ⟨t, h1, h2, rfl, hg⟩
      go_wp2_with fail
      exact ⟨rfl, t, h1, h2, rfl, hg⟩

set_option maxHeartbeats 400000 in
theorem mod_calls (a b : Int) (w : World) (ha : In64 a) (hb : In64 b) : Calls Try.prog 139 #[.int .i64 a, .int .i64 b] w (NumIs wr (nMod a b) w) := by
  have Ha := Lib.hid ha
  have Hb := Lib.hid hb
  by_cases h0 : b = 0
  · subst h0
    clear ha hb
    go_enter Try.func139, Try.ntmps139
    go_wp2_with fail
    refine (rem_calls a 0 _ Ha.out Hb.out).mono ?_
    rw [show nRem a 0 = .bad sZero from if_pos rfl]
    rintro e w1 ⟨t, h1, h2, rfl, hg⟩
    go_wp2_with fail
    exact ⟨rfl, t, h1, h2, rfl, hg⟩
  · have hm : nRem a b = .ok (a.tmod b) := if_neg h0
    have hd : nMod a b = .ok (a.fmod b) := if_neg h0
    have Hm := Lib.hid hm
    have hadj := fdiv_adj (a := a) h0
    have hti := tmod_in (b := b) ha
    obtain ⟨ht1, ht2⟩ := hti
    obtain ⟨hb1, hb2⟩ := hb
    rw [hd]
    clear hm hd ha
    generalize hre : a.tmod b = r at *
    by_cases hc : r ≠ 0 ∧ ((r < 0) ≠ (b < 0))
    · have hf := (hadj.1 hc).2
      have hr0 : (r != 0) = true := by simpa using hc.1
      have hrb : (!(decide (r < 0) == decide (b < 0))) = true := prop_ne_bool.2 hc.2
      have hs : -9223372036854775808 ≤ r + b ∧ r + b ≤ 9223372036854775807 := by
        have h5 := hc.2
        by_cases h6 : r < 0
        · by_cases h7 : b < 0
          · exact absurd (propext (iff_of_true h6 h7)) h5
          · omega
        · by_cases h7 : b < 0
          · omega
          · exact absurd (propext (iff_of_false h6 h7)) h5
      obtain ⟨hs1, hs2⟩ := hs
      rw [hf]
      clear hadj hc hf hre
      go_enter Try.func139, Try.ntmps139
      go_wp2_with fail
      refine (rem_calls a b _ Ha.out Hb.out).mono ?_
      rw [Hm.out]
      rintro e w2 ⟨rfl, hg2, _⟩
      go_wp2_with fail
      go_ret
      exact num_ok rfl rfl hg2 ⟨by omega, by omega⟩
    · have hf := (hadj.2 hc).2
      rw [hf]
      have Hc : Hid ((r == 0) = true ∨ (r == 0) = false ∧ (!(decide (r < 0) == decide (b < 0))) = false) := by
        by_cases h5 : r = 0
        · exact .inl (by simp [h5])
        · refine .inr ⟨by simp [h5], ?_⟩
          rw [Bool.eq_false_iff]
          intro h6
          exact hc ⟨h5, prop_ne_bool.1 h6⟩
      clear hadj hc hf hre
      rcases Hc.out with h5 | ⟨h5, h6⟩
      · have h5' : r = 0 := by simpa using h5
        subst h5'
        clear Hc h5
        go_enter Try.func139, Try.ntmps139
        go_wp2_with fail
        refine (rem_calls a b _ Ha.out Hb.out).mono ?_
        rw [Hm.out]
        rintro e w2 ⟨rfl, hg2, _⟩
        go_wp2_with fail
        go_ret
        exact num_ok rfl rfl hg2 ⟨by omega, by omega⟩
      · have h7 : (r != 0) = true := by simpa using h5
        clear Hc h5
        go_enter Try.func139, Try.ntmps139
        go_wp2_with fail
        refine (rem_calls a b _ Ha.out Hb.out).mono ?_
        rw [Hm.out]
        rintro e w2 ⟨rfl, hg2, _⟩
        go_wp2_with fail
        go_ret
        exact num_ok rfl rfl hg2 ⟨by omega, by omega⟩
end Go.Proofs.Ytgaijgadeodoeaa
