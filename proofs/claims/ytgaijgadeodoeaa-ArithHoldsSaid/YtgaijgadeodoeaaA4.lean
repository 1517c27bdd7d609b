/-
  The program's own operations on numbers: gcd, left, pow, and those without a name.
-/
import Derived.Test.YtgaijgadeodoeaaA6
namespace Go.Proofs.Ytgaijgadeodoeaa
open Go.RowKit

set_option maxHeartbeats 400000 in
theorem gcd_calls (a b : Int) (w : World) (ha : In64 a) (hb : In64 b) : Calls Try.prog 142 #[.int .i64 a, .int .i64 b] w (NumIs wr (nGcd a b) w) := by
  have Ha := Lib.hid ha
  have Hb := Lib.hid hb
  have hx : a.natAbs < 18446744073709551616 := by unfold In64 at ha; omega
  have hy : b.natAbs < 18446744073709551616 := by unfold In64 at hb; omega
  clear ha hb
  go_enter Try.func142, Try.ntmps142
  go_wp2_with fail
  refine (size_calls a _ Ha.out).mono ?_
  rintro e w1 ⟨rfl, rfl⟩
  go_wp2_with fail
  refine (size_calls b _ Hb.out).mono ?_
  rintro e w1 ⟨rfl, rfl⟩
  go_wp2_with fail
  go_loopw [5, 6] (fun v5 v6 wr => ∃ x y : Nat, v5 = .int .u64 x ∧ v6 = .int .u64 y ∧ x < 18446744073709551616 ∧ y < 18446744073709551616 ∧ Hid (Nat.gcd x y = Nat.gcd a.natAbs b.natAbs) ∧ Gr w wr)
    (fun _ i _ => (intOf i).toNat)
  case atStart => exact ⟨a.natAbs, b.natAbs, rfl, rfl, hx, hy, rfl, by go_grown⟩
  case round =>
    obtain ⟨x, y, rfl, rfl, hx1, hy1, hg, hgr⟩ := hrel
    by_cases h0 : y = 0
    · subst h0
      go_wp2_with fail
      refine (signed_calls x false _ hx1).mono ?_
      simp only [Bool.false_eq_true, if_false]
      have e : nGcd a b = ov (x : Int) := by
        have h9 := hg.out
        rw [Nat.gcd_zero_right] at h9
        rw [nGcd, ← h9]
      cases hr : ov (x : Int) with
      | ok n =>
        rintro e1 w1 ⟨rfl, hg, hi⟩
        have E := Lib.hid (e.trans hr)
        clear e hr
        go_wp2_with fail
        go_ret
        exact num_ok E.out rfl (hgr.trans hg) hi
      | bad s =>
        rintro e1 w1 ⟨t, h1, h2, rfl, hg⟩
        have E := Lib.hid (e.trans hr)
        clear e hr
        go_wp2_with fail
        refine ⟨rfl, ?_⟩
        rw [E.out]
        exact ⟨t, h1, h2, rfl, hgr.trans hg⟩
    · have h1 : ((y : Int) != 0) = true := by simpa using h0
      have h2 : 1 ≤ (y : Int) := by omega
      go_wp2_with fail
      go_region
      all_goals
        go_wp2_with fail
        go_roundw
        case rel =>
          exact ⟨y, x % y, rfl, by rw [Int.natCast_emod], hy1, Nat.lt_of_le_of_lt (Nat.mod_le _ _) hx1, by
            have h9 := hg.out
            rw [Nat.gcd_comm, Nat.gcd_rec] at h9
            show Nat.gcd y (x % y) = _
            rw [Nat.gcd_comm]; exact h9, by first | exact hgr | exact hgr.drew | go_grown⟩
        case measure => have h8 := Nat.mod_lt x (show 0 < y by omega); simp [intOf]; omega

set_option maxHeartbeats 400000 in
theorem right_calls (a b : Int) (w : World) (ha : In64 a) (hb : In64 b) : Calls Try.prog 145 #[.int .i64 a, .int .i64 b] w (NumIs wr (nRight a b) w) := by
  obtain ⟨a1, a2⟩ := ha
  obtain ⟨b1, b2⟩ := hb
  by_cases h0 : b < 0
  · have hr : nRight a b = .bad sNegative := if_pos h0
    rw [hr]
    clear hr
    go_enter Try.func145, Try.ntmps145
    go_wp2_with fail
    refine (notBelow_no b h0 _).mono ?_
    rintro e w1 ⟨t, h1, h2, rfl, hg⟩
    go_wp2_with fail
    exact ⟨rfl, t, h1, h2, rfl, hg⟩
  · have hr : Hid (nRight a b = .ok (a / 2 ^ b.toNat)) := if_neg h0
    go_enter Try.func145, Try.ntmps145
    go_wp2_with fail
    refine (notBelow_yes b (by omega) _).mono ?_
    rintro e w1 ⟨rfl, rfl⟩
    go_wp2_with fail
    go_ret
    have hn : a / 2 ^ (min b 63).toNat = a / 2 ^ b.toNat := by
      by_cases h5 : b ≤ 63
      · rw [Int.min_eq_left h5]
      · rw [Int.min_eq_right (by omega)]
        exact shr_big (b := b.toNat) ⟨a1, a2⟩ (by omega)
    refine num_ok hr.out hn (Gr.rfl' _) ?_
    have hp := two_pow_pos b.toNat
    unfold In64
    rcases Int.lt_or_le a 0 with h6 | h6
    · have h7 := Int.ediv_neg_of_neg_of_pos h6 hp
      have h8 : a ≤ a / 2 ^ b.toNat := (Int.le_ediv_iff_mul_le hp).2 (by
        have := Int.mul_le_mul_of_nonneg_left (show (1 : Int) ≤ 2 ^ b.toNat by omega) (show 0 ≤ -a by omega)
        rw [Int.neg_mul, Int.neg_mul] at this
        omega)
      omega
    · have h7 := Int.ediv_nonneg h6 (Int.le_of_lt hp)
      have h8 : a / 2 ^ b.toNat ≤ a := Int.ediv_le_self _ h6
      omega

set_option maxHeartbeats 400000 in
theorem left_calls (a b : Int) (w : World) (ha : In64 a) (hb : In64 b) : Calls Try.prog 144 #[.int .i64 a, .int .i64 b] w (NumIs wr (nLeft a b) w) := by
  obtain ⟨a1, a2⟩ := ha
  obtain ⟨b1, b2⟩ := hb
  by_cases h0 : b < 0
  · have hr : nLeft a b = .bad sNegative := if_pos h0
    rw [hr]
    clear hr
    go_enter Try.func144, Try.ntmps144
    go_wp2_with fail
    refine (notBelow_no b h0 _).mono ?_
    rintro e w1 ⟨t, h1, h2, rfl, hg⟩
    go_wp2_with fail
    exact ⟨rfl, t, h1, h2, rfl, hg⟩
  · have hl : nLeft a b = ov (a * 2 ^ b.toNat) := if_neg h0
    rw [hl]
    clear hl
    have hb0 : 0 ≤ b := by omega
    by_cases ha0 : a = 0
    · subst ha0
      go_enter Try.func144, Try.ntmps144
      go_wp2_with fail
      refine (notBelow_yes b hb0 _).mono ?_
      rintro e w1 ⟨rfl, rfl⟩
      go_wp2_with fail
      go_ret
      exact num_ok (n := 0) (by rw [Int.zero_mul]; exact ov_ok (by omega) (by omega)) rfl (Gr.rfl' _) ⟨by omega, by omega⟩
    · have ha1 : (a == 0) = false := by simpa using ha0
      by_cases h63 : b ≤ 63
      · by_cases hi : In64 (a * 2 ^ b.toNat)
        · have h5 := (shl_shr (a := a) (b := b.toNat) (by omega)).2 hi
          have h6 : (wrap64 (a * 2 ^ b.toNat) / 2 ^ b.toNat != a) = false := by simpa using h5
          have Hov := Lib.hid (ov_ok hi.1 hi.2)
          have Hw : Hid (wrap64 (a * 2 ^ b.toNat) = a * 2 ^ b.toNat) := by
            show wrap64 _ = _
            unfold In64 at hi; unfold wrap64; omega
          have Hi := Lib.hid hi
          clear h5 hi ha0 h0
          go_enter Try.func144, Try.ntmps144
          go_wp2_with fail
          refine (notBelow_yes b hb0 _).mono ?_
          rintro e w1 ⟨rfl, rfl⟩
          go_wp2_with fail
          go_ret
          exact num_ok Hov.out Hw.out (Gr.rfl' _) Hi.out
        · have h6 : (wrap64 (a * 2 ^ b.toNat) / 2 ^ b.toNat != a) = true := by
            rw [bne_iff_ne]
            exact fun h5 => hi ((shl_shr (a := a) (b := b.toNat) (by omega)).1 h5)
          have Hov : Hid (ov (a * 2 ^ b.toNat) = .bad sOverflow) := if_neg hi
          clear hi ha0 h0
          go_enter Try.func144, Try.ntmps144
          go_wp2_with fail
          refine (notBelow_yes b hb0 _).mono ?_
          rintro e w1 ⟨rfl, rfl⟩
          go_wp2_with fail
          refine (throw_calls _ _).mono ?_
          rintro e w1 ⟨rfl, hb1⟩
          go_wp2_with fail
          exact ⟨rfl, num_bad Hov.out overflowL (by decide) rfl hb1⟩
      · have Hov : Hid (ov (a * 2 ^ b.toNat) = .bad sOverflow) := if_neg (shl_big ha0 (by omega))
        clear ha0 h0
        go_enter Try.func144, Try.ntmps144
        go_wp2_with fail
        refine (notBelow_yes b hb0 _).mono ?_
        rintro e w1 ⟨rfl, rfl⟩
        go_wp2_with fail
        refine (throw_calls _ _).mono ?_
        rintro e w1 ⟨rfl, hb1⟩
        go_wp2_with fail
        exact ⟨rfl, num_bad Hov.out overflowL (by decide) rfl hb1⟩
end Go.Proofs.Ytgaijgadeodoeaa
