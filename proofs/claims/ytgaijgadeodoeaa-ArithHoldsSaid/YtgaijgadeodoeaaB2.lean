/-
  hornref.divisor
-/
import Derived.Test.YtgaijgadeodoeaaB0
namespace Go.Proofs.Ytgaijgadeodoeaa
open Go.RowKit

theorem gcd_step (a b : Int) : Nat.gcd b.natAbs (a.tmod b).natAbs = Nat.gcd a.natAbs b.natAbs := by
  rw [Int.natAbs_tmod, Nat.gcd_comm, ← Nat.gcd_rec, Nat.gcd_comm]

theorem tmod_low {a b : Int} (ha : a ≤ 0) (hb : b ≠ 0) : (a.tmod b).natAbs < b.natAbs ∧ a.tmod b ≤ 0 := by
  refine ⟨by rw [Int.natAbs_tmod]; exact Nat.mod_lt _ (by omega), ?_⟩
  have := Int.tmod_nonneg b (show 0 ≤ -a by omega)
  rw [Int.neg_tmod] at this
  omega

set_option maxHeartbeats 1000000 in
theorem divisor_calls (a b : Int) (w : World) (ha : In64 a) (hb : In64 b) : Calls Try.prog 106 #[.int .i64 a, .int .i64 b] w (NumP (nGcd a b) w) := by
  obtain ⟨a1, a2⟩ := ha
  obtain ⟨b1, b2⟩ := hb
  generalize hg : Nat.gcd a.natAbs b.natAbs = g
  have Hg := Lib.hid hg
  have Hr : Hid (nGcd a b = ov g) := by show _ = _; rw [nGcd, hg]
  clear hg
  generalize nGcd a b = r at *
  rcases Int.lt_or_le 0 a with ha | ha <;> rcases Int.lt_or_le 0 b with hb | hb
  all_goals
    go_enter Try.func106, Try.ntmps106
    go_wp2_with fail
    go_loopw [0, 1] (fun v0 v1 wr => ∃ x y : Int, v0 = .int .i64 x ∧ v1 = .int .i64 y ∧ -9223372036854775808 ≤ x ∧ x ≤ 0 ∧ -9223372036854775808 ≤ y ∧ y ≤ 0 ∧ Hid (Nat.gcd x.natAbs y.natAbs = g) ∧ Gr w wr)
      (fun _ v1 _ => (intOf v1).natAbs)
    case atStart =>
      refine ⟨_, _, rfl, rfl, by omega, by omega, by omega, by omega, ?_, by go_grown⟩
      have h9 := Hg.out
      show Nat.gcd _ _ = g
      simpa using h9
    case round =>
      obtain ⟨x, y, rfl, rfl, x1, x2, y1, y2, hpre, hgr⟩ := hrel
      by_cases hy : y = 0
      · have hy' : (y != 0) = false := by rw [hy]; rfl
        have Hx : Hid (x.natAbs = g) := by
          have h9 := hpre.out
          rw [hy] at h9
          show x.natAbs = g
          simpa using h9
        clear hpre hy
        by_cases hx : x = -9223372036854775808
        · have hx' : (x == -9223372036854775808) = true := by rw [hx]; rfl
          have Hrr : Hid (r = .bad sOverflow) := by
            show r = _
            rw [Hr.out]
            have := Hx.out
            exact ov_bad (by omega)
          clear hx
          go_wp2_with fail
          go_ret2
          exact nump_bad Hrr.out overflowL (by decide) (by decide) hgr
        · have hx' : (x == -9223372036854775808) = false := beq_eq_false_iff_ne.2 hx
          have Hrr : Hid (r = .ok (-x)) := by
            show r = _
            rw [Hr.out]
            have := Hx.out
            rw [show ((g : Nat) : Int) = -x by omega]
            exact ov_ok (by omega) (by omega)
          have x3 : -9223372036854775807 ≤ x := by omega
          clear hx
          go_wp2_with fail
          go_ret2
          exact nump_ok Hrr.out rfl hgr ⟨by omega, by omega⟩
      · have hy' : (y != 0) = true := by simpa using hy
        have hy0 : ¬ y = 0 := hy
        by_cases h1 : y = -1
        · have h1' : (y == -1) = true := by rw [h1]; rfl
          have Hx : Hid (Nat.gcd (Int.natAbs (-1)) (Int.natAbs 0) = g) := by
            have h9 := hpre.out
            rw [h1] at h9
            show Nat.gcd _ _ = g
            simpa using h9
          have hm : 0 < y.natAbs := by omega
          clear hpre hy h1
          go_wp2_with fail
          go_roundw
          case rel => exact ⟨-1, 0, rfl, rfl, by omega, by omega, by omega, by omega, Hx.out, hgr⟩
          case measure => simp [intOf]; omega
        · have h1' : (y == -1) = false := beq_eq_false_iff_ne.2 h1
          have Hx : Hid (Nat.gcd y.natAbs (x.tmod y).natAbs = g) := by show _ = g; rw [gcd_step]; exact hpre.out
          obtain ⟨m1, m2⟩ := tmod_low x2 hy
          clear hpre hy
          go_wp2_with fail
          go_quiet (fail)
          go_wp2_with fail
          go_roundw
          case rel => exact ⟨y, x.tmod y, rfl, rfl, by omega, by omega, by omega, by omega, Hx.out, hgr.drewN _⟩
          case measure => first | (simpa [intOf] using m1) | exact m1
end Go.Proofs.Ytgaijgadeodoeaa
