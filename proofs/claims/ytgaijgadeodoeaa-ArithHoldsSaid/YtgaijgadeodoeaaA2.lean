/-
  The program's own operations on numbers: mul, abs, quo, rem, div, mod, gcd.
-/
import Derived.Test.YtgaijgadeodoeaaA1
namespace Go.Proofs.Ytgaijgadeodoeaa
open Go.RowKit

/-- What a call throws goes on. -/
theorem thrown_on {ty : TypeId} {t : T} {w w1 : World} {e : Ending} {w' : World} (h : Thrown ty t w1 e w') (hg : Gr w w1) : Thrown ty t w e w' := by
  obtain ⟨b, h1, h2, h3, h4⟩ := h
  exact ⟨b, h1, h2, h3, hg.trans h4⟩

theorem natAbs_mul_sign (a b : Int) : (if (!(decide (a < 0) == decide (b < 0))) = true then -((a.natAbs * b.natAbs : Nat) : Int) else ((a.natAbs * b.natAbs : Nat) : Int)) = a * b := by
  rw [← Int.natAbs_mul]
  by_cases ha : a < 0 <;> by_cases hb : b < 0
  · have := Int.mul_pos_of_neg_of_neg ha hb
    simp only [ha, hb, decide_true, beq_self_eq_true, Bool.not_true, Bool.false_eq_true, if_false]; omega
  · have := Int.mul_nonpos_of_nonpos_of_nonneg (Int.le_of_lt ha) (Int.not_lt.1 hb)
    have e : (!(decide (a < 0) == decide (b < 0))) = true := by simp [ha, hb]
    rw [if_pos e]; omega
  · have := Int.mul_nonpos_of_nonneg_of_nonpos (Int.not_lt.1 ha) (Int.le_of_lt hb)
    have e : (!(decide (a < 0) == decide (b < 0))) = true := by simp [ha, hb]
    rw [if_pos e]; omega
  · have := Int.mul_nonneg (Int.not_lt.1 ha) (Int.not_lt.1 hb)
    have e : ¬ (!(decide (a < 0) == decide (b < 0))) = true := by simp [ha, hb]
    rw [if_neg e]; omega

set_option maxHeartbeats 400000 in
theorem mul_calls (a b : Int) (w : World) (ha : In64 a) (hb : In64 b) : Calls Try.prog 135 #[.int .i64 a, .int .i64 b] w (NumIs wr (nMul a b) w) := by
  have Ha := Lib.hid ha
  have Hb := Lib.hid hb
  have hx : a.natAbs < 18446744073709551616 := by unfold In64 at ha; omega
  have hy : b.natAbs < 18446744073709551616 := by unfold In64 at hb; omega
  have hs := natAbs_mul_sign a b
  have Hs := Lib.hid hs
  clear ha hb hs
  by_cases hp : a.natAbs * b.natAbs < 18446744073709551616
  · have e1 : a.natAbs * b.natAbs / 18446744073709551616 = 0 := Nat.div_eq_of_lt hp
    have e2 : a.natAbs * b.natAbs % 18446744073709551616 = a.natAbs * b.natAbs := Nat.mod_eq_of_lt hp
    have E1 := Lib.hid e1
    have E2 := Lib.hid e2
    have Hp := Lib.hid hp
    have Hx := Lib.hid hx
    have Hy := Lib.hid hy
    clear e1 e2 hp hx hy
    go_enter Try.func135, Try.ntmps135
    go_wp2_with fail
    refine (size_calls a _ Ha.out).mono ?_
    rintro e w1 ⟨rfl, rfl⟩
    go_wp2_with fail
    refine (size_calls b _ Hb.out).mono ?_
    rintro e w1 ⟨rfl, rfl⟩
    go_wp2_with fail
    refine (Try.bits_Mul64 a.natAbs b.natAbs Hx.out Hy.out _).mono ?_
    rintro e w1 ⟨rfl, rfl⟩
    rw [E1.out, E2.out]
    go_wp2_with fail
    refine (signed_calls (a.natAbs * b.natAbs) _ _ Hp.out).mono ?_
    rw [Hs.out]
    cases hr : ov (a * b) with
    | ok n =>
      rintro e w1 ⟨rfl, hg, hi⟩
      go_wp2_with fail
      go_ret
      exact num_ok hr rfl hg hi
    | bad s =>
      rintro e w1 ⟨t, h1, h2, rfl, hg⟩
      go_wp2_with fail
      refine ⟨rfl, ?_⟩
      rw [nMul, hr]
      exact ⟨t, h1, h2, rfl, hg⟩
  · have hr : Hid (nMul a b = .bad sOverflow) := by
      refine ov_bad ?_
      have h9 := Hs.out
      split at h9 <;> omega
    have e1 : ((a.natAbs * b.natAbs / 18446744073709551616 : Nat) : Int) ≠ 0 := by
      have : 1 ≤ a.natAbs * b.natAbs / 18446744073709551616 := (Nat.le_div_iff_mul_le (by omega)).2 (by omega)
      omega
    generalize hz : a.natAbs * b.natAbs / 18446744073709551616 = z at e1
    have e1' : ((z : Int) != 0) = true := by simpa using e1
    have Hz := Lib.hid hz
    have Hx := Lib.hid hx
    have Hy := Lib.hid hy
    clear hp hx hy hz e1
    go_enter Try.func135, Try.ntmps135
    go_wp2_with fail
    refine (size_calls a _ Ha.out).mono ?_
    rintro e w1 ⟨rfl, rfl⟩
    go_wp2_with fail
    refine (size_calls b _ Hb.out).mono ?_
    rintro e w1 ⟨rfl, rfl⟩
    go_wp2_with fail
    refine (Try.bits_Mul64 a.natAbs b.natAbs Hx.out Hy.out _).mono ?_
    rintro e w1 ⟨rfl, rfl⟩
    rw [Hz.out]
    go_wp2_with fail
    refine (throw_calls _ _).mono ?_
    rintro e w1 ⟨rfl, hb1⟩
    go_wp2_with fail
    exact ⟨rfl, num_bad hr.out overflowL (by decide) rfl hb1⟩

set_option maxHeartbeats 400000 in
theorem abs_calls (a : Int) (w : World) (ha : In64 a) : Calls Try.prog 131 #[.int .i64 a] w (NumIs wr (nAbs a) w) := by
  have Ha := Lib.hid ha
  have hx : a.natAbs < 18446744073709551616 := by unfold In64 at ha; omega
  have Hx := Lib.hid hx
  clear ha hx
  go_enter Try.func131, Try.ntmps131
  go_wp2_with fail
  refine (size_calls a _ Ha.out).mono ?_
  rintro e w1 ⟨rfl, rfl⟩
  go_wp2_with fail
  refine (signed_calls a.natAbs false _ Hx.out).mono ?_
  simp only [Bool.false_eq_true, if_false]
  cases hr : ov (a.natAbs : Int) with
  | ok n =>
    rintro e w1 ⟨rfl, hg, hi⟩
    go_wp2_with fail
    go_ret
    exact num_ok hr rfl hg hi
  | bad s =>
    rintro e w1 ⟨t, h1, h2, rfl, hg⟩
    go_wp2_with fail
    refine ⟨rfl, ?_⟩
    rw [nAbs, hr]
    exact ⟨t, h1, h2, rfl, hg⟩

set_option maxHeartbeats 400000 in
theorem notZero_no (w : World) : Calls Try.prog 160 #[.int .i64 0] w (Thrown wr (atomT sZero) w) := by
  go_enter Try.func160, Try.ntmps160
  go_wp2_with fail
  refine (throw_calls _ _).mono ?_
  rintro e w1 ⟨rfl, hb1⟩
  go_wp2_with fail
  exact ⟨rfl, num_bad (r := .bad sZero) rfl zeroL (by decide) rfl hb1⟩

set_option maxHeartbeats 400000 in
theorem notZero_yes (b : Int) (hb : b ≠ 0) (w : World) : Calls Try.prog 160 #[.int .i64 b] w fun e w' => e = .returned (.tuple #[]) ∧ w = w' := by
  have hb0 : (b == 0) = false := by simp [hb]
  go_enter Try.func160, Try.ntmps160
  go_wp2_with fail
  go_end0
  exact ⟨rfl, rfl⟩

set_option maxHeartbeats 400000 in
theorem notBelow_no (b : Int) (hb : b < 0) (w : World) : Calls Try.prog 146 #[.int .i64 b] w (Thrown wr (atomT sNegative) w) := by
  go_enter Try.func146, Try.ntmps146
  go_wp2_with fail
  refine (throw_calls _ _).mono ?_
  rintro e w1 ⟨rfl, hb1⟩
  go_wp2_with fail
  exact ⟨rfl, num_bad (r := .bad sNegative) rfl negativeL (by decide) rfl hb1⟩

set_option maxHeartbeats 400000 in
theorem notBelow_yes (b : Int) (hb : 0 ≤ b) (w : World) : Calls Try.prog 146 #[.int .i64 b] w fun e w' => e = .returned (.tuple #[]) ∧ w = w' := by
  go_enter Try.func146, Try.ntmps146
  go_wp2_with fail
  go_end0
  exact ⟨rfl, rfl⟩

/-- Go's quotient, by sizes. -/
theorem tdiv_size (a b : Int) : (if (!(decide (a < 0) == decide (b < 0))) = true then -((a.natAbs / b.natAbs : Nat) : Int) else ((a.natAbs / b.natAbs : Nat) : Int)) = a.tdiv b := by
  by_cases ha : a < 0 <;> by_cases hb : b < 0
  · have e : ¬ (!(decide (a < 0) == decide (b < 0))) = true := by simp [ha, hb]
    rw [if_neg e]
    obtain ⟨m, rfl⟩ : ∃ m : Nat, a = -(m : Int) := ⟨a.natAbs, by omega⟩
    obtain ⟨n, rfl⟩ : ∃ n : Nat, b = -(n : Int) := ⟨b.natAbs, by omega⟩
    rw [Int.neg_tdiv_neg, Int.natAbs_neg, Int.natAbs_neg]; rfl
  · have e : (!(decide (a < 0) == decide (b < 0))) = true := by simp [ha, hb]
    rw [if_pos e]
    obtain ⟨m, rfl⟩ : ∃ m : Nat, a = -(m : Int) := ⟨a.natAbs, by omega⟩
    obtain ⟨n, rfl⟩ : ∃ n : Nat, b = (n : Int) := ⟨b.natAbs, by omega⟩
    rw [Int.neg_tdiv, Int.natAbs_neg]; rfl
  · have e : (!(decide (a < 0) == decide (b < 0))) = true := by simp [ha, hb]
    rw [if_pos e]
    obtain ⟨m, rfl⟩ : ∃ m : Nat, a = (m : Int) := ⟨a.natAbs, by omega⟩
    obtain ⟨n, rfl⟩ : ∃ n : Nat, b = -(n : Int) := ⟨b.natAbs, by omega⟩
    rw [Int.tdiv_neg, Int.natAbs_neg]; rfl
  · have e : ¬ (!(decide (a < 0) == decide (b < 0))) = true := by simp [ha, hb]
    rw [if_neg e]
    obtain ⟨m, rfl⟩ : ∃ m : Nat, a = (m : Int) := ⟨a.natAbs, by omega⟩
    obtain ⟨n, rfl⟩ : ∃ n : Nat, b = (n : Int) := ⟨b.natAbs, by omega⟩
    rfl

theorem tmod_size (a b : Int) : (if decide (a < 0) = true then -((a.natAbs % b.natAbs : Nat) : Int) else ((a.natAbs % b.natAbs : Nat) : Int)) = a.tmod b := by
  by_cases ha : a < 0
  · rw [if_pos (by simp [ha])]
    obtain ⟨m, rfl⟩ : ∃ m : Nat, a = -(m : Int) := ⟨a.natAbs, by omega⟩
    rw [Int.neg_tmod, Int.natAbs_neg, Int.natAbs_natCast]
    rcases Int.natAbs_eq b with h | h <;> rw [h]
    · rw [Int.natAbs_natCast]; rfl
    · rw [Int.tmod_neg, Int.natAbs_neg, Int.natAbs_natCast]; rfl
  · rw [if_neg (by simp [ha])]
    obtain ⟨m, rfl⟩ : ∃ m : Nat, a = (m : Int) := ⟨a.natAbs, by omega⟩
    rw [Int.natAbs_natCast]
    rcases Int.natAbs_eq b with h | h <;> rw [h]
    · rw [Int.natAbs_natCast]; rfl
    · rw [Int.tmod_neg, Int.natAbs_neg, Int.natAbs_natCast]; rfl

theorem tmod_in {a b : Int} (ha : In64 a) : In64 (a.tmod b) := by
  rw [← tmod_size]
  have : a.natAbs % b.natAbs ≤ a.natAbs := Nat.mod_le _ _
  unfold In64 at *
  by_cases h0 : a < 0
  · rw [if_pos (by simp [h0])]; omega
  · rw [if_neg (by simp [h0])]; omega

set_option maxHeartbeats 400000 in
theorem quo_calls (a b : Int) (w : World) (ha : In64 a) (hb : In64 b) : Calls Try.prog 136 #[.int .i64 a, .int .i64 b] w (NumIs wr (nQuo a b) w) := by
  have Ha := Lib.hid ha
  have Hb := Lib.hid hb
  have Hs := Lib.hid (tdiv_size a b)
  have Hx : Hid (a.natAbs / b.natAbs < 18446744073709551616) := by
    have : a.natAbs / b.natAbs ≤ a.natAbs := Nat.div_le_self _ _
    show _ < _
    unfold In64 at ha; omega
  clear ha hb
  by_cases h0 : b = 0
  · subst h0
    go_enter Try.func136, Try.ntmps136
    go_wp2_with fail
    refine (notZero_no _).mono ?_
    rintro e w1 ⟨t, h1, h2, rfl, hg⟩
    go_wp2_with fail
    exact ⟨rfl, t, h1, h2, rfl, hg⟩
  · have hq : nQuo a b = ov (a.tdiv b) := if_neg h0
    rw [hq]
    have hb1 : 1 ≤ (b.natAbs : Int) := by omega
    have hq1 : (a.natAbs : Int) / (b.natAbs : Int) ≤ 18446744073709551615 := by have h9 := Hx.out; rw [← Int.natCast_ediv]; omega
    have hq0 : 0 ≤ (a.natAbs : Int) / (b.natAbs : Int) := by rw [← Int.natCast_ediv]; exact Int.natCast_nonneg _
    clear hq
    go_enter Try.func136, Try.ntmps136
    go_wp2_with fail
    refine (notZero_yes b h0 _).mono ?_
    rintro e w1 ⟨rfl, rfl⟩
    go_wp2_with fail
    refine (size_calls a _ Ha.out).mono ?_
    rintro e w1 ⟨rfl, rfl⟩
    go_wp2_with fail
    refine (size_calls b _ Hb.out).mono ?_
    rintro e w1 ⟨rfl, rfl⟩
    go_wp2_with fail
    rw [← Int.natCast_ediv]
    refine (signed_calls (a.natAbs / b.natAbs) _ _ Hx.out).mono ?_
    rw [Hs.out]
    cases hr : ov (a.tdiv b) with
    | ok n =>
      rintro e w1 ⟨rfl, hg, hi⟩
      go_wp2_with fail
      go_ret
      exact num_ok hr rfl hg hi
    | bad s =>
      rintro e w1 ⟨t, h1, h2, rfl, hg⟩
      go_wp2_with fail
      exact ⟨rfl, t, h1, h2, rfl, hg⟩

set_option maxHeartbeats 400000 in
theorem rem_calls (a b : Int) (w : World) (ha : In64 a) (hb : In64 b) : Calls Try.prog 137 #[.int .i64 a, .int .i64 b] w (NumIs wr (nRem a b) w) := by
  have Ha := Lib.hid ha
  have Hb := Lib.hid hb
  have Hs := Lib.hid (tmod_size a b)
  have Hi := Lib.hid (tmod_in (b := b) ha)
  have Hx : Hid (a.natAbs % b.natAbs < 18446744073709551616) := by
    have : a.natAbs % b.natAbs ≤ a.natAbs := Nat.mod_le _ _
    show _ < _
    unfold In64 at ha; omega
  clear ha hb
  by_cases h0 : b = 0
  · subst h0
    go_enter Try.func137, Try.ntmps137
    go_wp2_with fail
    refine (notZero_no _).mono ?_
    rintro e w1 ⟨t, h1, h2, rfl, hg⟩
    go_wp2_with fail
    exact ⟨rfl, t, h1, h2, rfl, hg⟩
  · have hq : nRem a b = .ok (a.tmod b) := if_neg h0
    rw [hq]
    have hb1 : 1 ≤ (b.natAbs : Int) := by omega
    have hq1 : (a.natAbs : Int) % (b.natAbs : Int) ≤ 18446744073709551615 := by have h9 := Hx.out; rw [← Int.natCast_emod]; omega
    have hq0 : 0 ≤ (a.natAbs : Int) % (b.natAbs : Int) := by rw [← Int.natCast_emod]; exact Int.natCast_nonneg _
    clear hq
    go_enter Try.func137, Try.ntmps137
    go_wp2_with fail
    refine (notZero_yes b h0 _).mono ?_
    rintro e w1 ⟨rfl, rfl⟩
    go_wp2_with fail
    refine (size_calls a _ Ha.out).mono ?_
    rintro e w1 ⟨rfl, rfl⟩
    go_wp2_with fail
    refine (size_calls b _ Hb.out).mono ?_
    rintro e w1 ⟨rfl, rfl⟩
    go_wp2_with fail
    rw [← Int.natCast_emod]
    refine (signed_calls (a.natAbs % b.natAbs) _ _ Hx.out).mono ?_
    rw [Hs.out, ov_ok Hi.out.1 Hi.out.2]
    rintro e w1 ⟨rfl, hg, hi⟩
    go_wp2_with fail
    go_ret
    exact num_ok rfl rfl hg hi
end Go.Proofs.Ytgaijgadeodoeaa
