/-
  The program's own operations on numbers: those without a name.
-/
import Derived.Test.YtgaijgadeodoeaaA6
namespace Go.Proofs.Ytgaijgadeodoeaa
open Go.RowKit

set_option maxHeartbeats 400000 in
theorem plus_calls (a : Int) (w : World) (ha : In64 a) : Calls Try.prog 130 #[.int .i64 a] w (NumIs wr (.ok a) w) := by
  have Ha := Lib.hid ha
  obtain ⟨a1, a2⟩ := ha
  go_enter Try.func130, Try.ntmps130
  go_wp2_with fail
  go_ret
  exact num_ok rfl rfl (Gr.rfl' _) Ha.out

set_option maxHeartbeats 400000 in
theorem sign_calls (a : Int) (w : World) (ha : In64 a) : Calls Try.prog 132 #[.int .i64 a] w (NumIs wr (nSign a) w) := by
  have Ha := Lib.hid ha
  obtain ⟨a1, a2⟩ := ha
  go_enter Try.func132, Try.ntmps132
  go_wp2_with fail
  go_ret
  exact num_ok rfl (sign_bits a1 a2) (Gr.rfl' _) (by split <;> (try split) <;> exact ⟨by omega, by omega⟩)

set_option maxHeartbeats 400000 in
theorem not_calls (a : Int) (w : World) (ha : In64 a) : Calls Try.prog 133 #[.int .i64 a] w (NumIs wr (nNot a) w) := by
  have Ha := Lib.hid ha
  obtain ⟨a1, a2⟩ := ha
  go_enter Try.func133, Try.ntmps133
  go_wp2_with fail
  go_ret
  exact num_ok rfl (i64_notAll a Ha.out) (Gr.rfl' _) ⟨by omega, by omega⟩

set_option maxHeartbeats 400000 in
theorem min_calls (a b : Int) (w : World) (ha : In64 a) (hb : In64 b) : Calls Try.prog 140 #[.int .i64 a, .int .i64 b] w (NumIs wr (nMin a b) w) := by
  have Ha := Lib.hid ha
  obtain ⟨a1, a2⟩ := ha
  have Hb := Lib.hid hb
  go_enter Try.func140, Try.ntmps140
  go_wp2_with fail
  go_ret
  exact num_ok rfl (by rw [Int.min_def]; split <;> split <;> omega) (Gr.rfl' _) (by split <;> first | exact Ha.out | exact Hb.out)

set_option maxHeartbeats 400000 in
theorem max_calls (a b : Int) (w : World) (ha : In64 a) (hb : In64 b) : Calls Try.prog 141 #[.int .i64 a, .int .i64 b] w (NumIs wr (nMax a b) w) := by
  have Ha := Lib.hid ha
  obtain ⟨a1, a2⟩ := ha
  have Hb := Lib.hid hb
  go_enter Try.func141, Try.ntmps141
  go_wp2_with fail
  go_ret
  exact num_ok rfl (by rw [Int.max_def]; split <;> split <;> omega) (Gr.rfl' _) (by split <;> first | exact Ha.out | exact Hb.out)

set_option maxHeartbeats 400000 in
theorem and_calls (a b : Int) (w : World) (ha : In64 a) (hb : In64 b) : Calls Try.prog 147 #[.int .i64 a, .int .i64 b] w (NumIs wr (nAnd a b) w) := by
  have Ha := Lib.hid ha
  obtain ⟨a1, a2⟩ := ha
  have Hb := Lib.hid hb
  go_enter Try.func147, Try.ntmps147
  go_wp2_with fail
  go_ret
  exact num_ok rfl rfl (Gr.rfl' _) (bits_in _ _ _)

set_option maxHeartbeats 400000 in
theorem or_calls (a b : Int) (w : World) (ha : In64 a) (hb : In64 b) : Calls Try.prog 148 #[.int .i64 a, .int .i64 b] w (NumIs wr (nOr a b) w) := by
  have Ha := Lib.hid ha
  obtain ⟨a1, a2⟩ := ha
  have Hb := Lib.hid hb
  go_enter Try.func148, Try.ntmps148
  go_wp2_with fail
  go_ret
  exact num_ok rfl rfl (Gr.rfl' _) (bits_in _ _ _)

set_option maxHeartbeats 400000 in
theorem xor_calls (a b : Int) (w : World) (ha : In64 a) (hb : In64 b) : Calls Try.prog 149 #[.int .i64 a, .int .i64 b] w (NumIs wr (nXor a b) w) := by
  have Ha := Lib.hid ha
  obtain ⟨a1, a2⟩ := ha
  have Hb := Lib.hid hb
  go_enter Try.func149, Try.ntmps149
  go_wp2_with fail
  go_ret
  exact num_ok rfl rfl (Gr.rfl' _) (bits_in _ _ _)

set_option maxHeartbeats 400000 in
theorem neg_calls (a : Int) (w : World) (ha : In64 a) : Calls Try.prog 128 #[.int .i64 a] w (NumIs wr (nNeg a) w) := by
  have Ha := Lib.hid ha
  have e : nNeg a = nSub 0 a := by rw [nNeg, nSub, Int.zero_sub]
  rw [e]
  clear ha e
  go_enter Try.func128, Try.ntmps128
  go_wp2_with fail
  refine (sub_calls 0 a _ ⟨by omega, by omega⟩ Ha.out).mono ?_
  cases hr : nSub 0 a with
  | ok n =>
    rintro e w1 ⟨rfl, hg, hi⟩
    go_wp2_with fail
    go_ret
    exact num_ok hr rfl hg hi
  | bad s =>
    rintro e w1 ⟨t, h1, h2, rfl, hg⟩
    go_wp2_with fail
    exact ⟨rfl, t, h1, h2, rfl, hg⟩

theorem natAbs_two {a : Int} (h0 : a ≠ 0) (h1 : a ≠ 1) (h2 : a ≠ -1) : 2 ≤ a.natAbs := by omega

set_option maxHeartbeats 400000 in
theorem pow_calls (a b : Int) (w : World) (ha : In64 a) (hb : In64 b) : Calls Try.prog 143 #[.int .i64 a, .int .i64 b] w (NumIs wr (nPow a b) w) := by
  have Ha := Lib.hid ha
  obtain ⟨a1, a2⟩ := ha
  obtain ⟨b1, b2⟩ := hb
  by_cases h0 : b < 0
  · have hr : nPow a b = .bad sNegative := if_pos h0
    rw [hr]
    clear hr
    go_enter Try.func143, Try.ntmps143
    go_wp2_with fail
    refine (notBelow_no b h0 _).mono ?_
    rintro e w1 ⟨t, h1, h2, rfl, hg⟩
    go_wp2_with fail
    exact ⟨rfl, t, h1, h2, rfl, hg⟩
  have hl : nPow a b = ov (a ^ b.toNat) := if_neg h0
  rw [hl]
  clear hl
  have hb0 : 0 ≤ b := by omega
  obtain ⟨n, rfl⟩ : ∃ n : Nat, b = n := ⟨b.toNat, by omega⟩
  rw [Int.toNat_natCast]
  by_cases e1 : a = 1
  · subst e1
    go_enter Try.func143, Try.ntmps143
    go_wp2_with fail
    refine (notBelow_yes _ hb0 _).mono ?_
    rintro e w1 ⟨rfl, rfl⟩
    go_wp2_with fail
    go_ret
    exact num_ok (n := 1) (by rw [Int.one_pow]; exact ov_ok (by omega) (by omega)) rfl (Gr.rfl' _) ⟨by omega, by omega⟩
  by_cases e2 : a = -1
  · subst e2
    have hm : (n : Int) % 2 = 0 ∨ (n : Int) % 2 = 1 := by omega
    have HN := Lib.hid (neg_one_pow n)
    have H1 := Lib.hid (i64_and1 (n : Int))
    clear e1
    go_enter Try.func143, Try.ntmps143
    go_wp2_with fail
    refine (notBelow_yes _ hb0 _).mono ?_
    rintro e w1 ⟨rfl, rfl⟩
    go_wp2_with fail
    go_ret
    refine num_ok (n := 1 - 2 * ((n : Int) % 2)) (by rw [HN.out]; exact ov_ok (by omega) (by omega)) ?_ (Gr.rfl' _) ⟨by omega, by omega⟩
    rw [H1.out]
    unfold wrap64
    omega
  by_cases e3 : a = 0 ∧ 0 < n
  · obtain ⟨rfl, h3⟩ := e3
    have h3' : 0 < (n : Int) := by omega
    go_enter Try.func143, Try.ntmps143
    go_wp2_with fail
    refine (notBelow_yes _ hb0 _).mono ?_
    rintro e w1 ⟨rfl, rfl⟩
    go_wp2_with fail
    go_ret
    exact num_ok (n := 0) (by rw [Int.zero_pow (by omega)]; exact ov_ok (by omega) (by omega)) rfl (Gr.rfl' _) ⟨by omega, by omega⟩
  have e1' : (a == 1) = false := by simpa using e1
  have e2' : (a == -1) = false := by simpa using e2
  by_cases hn : n = 0
  · subst hn
    clear e1 e2 e3
    go_enter Try.func143, Try.ntmps143
    go_wp2_with fail
    refine (notBelow_yes _ hb0 _).mono ?_
    rintro e w1 ⟨rfl, rfl⟩
    go_wp2_with fail
    all_goals
      go_rounds 1
      go_ret
      exact num_ok (n := 1) (by rw [Int.pow_zero]; exact ov_ok (by omega) (by omega)) rfl (Gr.rfl' _) ⟨by omega, by omega⟩
  have h4 : a ≠ 0 := fun h4 => e3 ⟨h4, by omega⟩
  have h4' : (a == 0) = false := by simpa using h4
  have Hbig := Lib.hid (natAbs_two h4 e1 e2)
  clear e1 e2 e3 h4
  go_enter Try.func143, Try.ntmps143
  go_wp2_with fail
  refine (notBelow_yes _ hb0 _).mono ?_
  rintro e w1 ⟨rfl, rfl⟩
  go_wp2_with fail
  go_loopw [5, 26] (fun v5 v6 wr => ∃ i : Nat, i ≤ n ∧ v5 = .int .i64 (a ^ i) ∧ v6 = .int .i64 i ∧ Hid (In64 (a ^ i)) ∧ Gr w wr)
    (fun _ i _ => n - (intOf i).toNat)
  case atStart => exact ⟨0, Nat.zero_le _, by rw [Int.pow_zero], rfl, ⟨by rw [Int.pow_zero]; omega, by rw [Int.pow_zero]; omega⟩, by go_grown⟩
  case round =>
    obtain ⟨i, hi, rfl, rfl, hin, hg⟩ := hrel
    by_cases hlt : i < n
    · go_wp2_with fail
      refine (mul_calls (a ^ i) a _ hin.out Ha.out).mono ?_
      have em : nMul (a ^ i) a = ov (a ^ (i + 1)) := by rw [nMul, Int.pow_succ]
      rw [em]
      by_cases ho : In64 (a ^ (i + 1))
      · rw [ov_ok ho.1 ho.2]
        have Ho := Lib.hid ho
        clear ho em
        rintro e w2 ⟨rfl, hg2, _⟩
        go_wp2_with fail
        go_roundw
        case rel => exact ⟨i + 1, by omega, rfl, by go_num, Ho.out, hg.trans hg2⟩
        case measure => simp [intOf]; omega
      · have E : Hid (ov (a ^ n) = .bad sOverflow) := if_neg (pow_out Hbig.out (i := i + 1) (by omega) ho)
        rw [show ov (a ^ (i + 1)) = .bad sOverflow from if_neg ho]
        clear ho em
        rintro e w2 ⟨t, h1, h2, rfl, hg2⟩
        go_wp2_with fail
        refine ⟨rfl, ?_⟩
        rw [E.out]
        exact ⟨t, h1, h2, rfl, hg.trans hg2⟩
    · obtain rfl : i = n := by omega
      go_wp2_with fail
      go_ret
      exact num_ok (ov_ok hin.out.1 hin.out.2) rfl hg hin.out
end Go.Proofs.Ytgaijgadeodoeaa
