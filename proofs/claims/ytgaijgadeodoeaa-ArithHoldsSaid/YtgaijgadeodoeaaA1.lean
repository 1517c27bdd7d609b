/-
  The program's own operations on numbers: throw, size, signed, add, sub, mul, quo, rem, abs.
-/
import Derived.Test.YtgaijgadeodoeaaA0
import Derived.Test.YtgaijgadeodoeaaShelf
namespace Go.Proofs.Ytgaijgadeodoeaa
open Go.RowKit

/-- The type of what is thrown. -/
abbrev wr : TypeId := 73

theorem ret_k {k : IntKind} {a b : Int} (h : a = b) : Ending.returned (.int k a) = .returned (.int k b) := by rw [h]

set_option maxHeartbeats 400000 in
theorem atom_calls (s : ByteArray) (w : World) : Calls Try.prog 81 #[.string s] w (Ret (atomTm s).val w) := by
  go_enter Try.func81, Try.ntmps81
  go_wp2_with fail
  exact bodyPost_ret (v := .agg #[.int .i64 3, .int .i64 0, .string s, .slice none 0 0]) (by simp [results, Try.results81, go_sem]) rfl ⟨rfl, by go_grown⟩

set_option maxHeartbeats 400000 in
theorem throw_calls (s : ByteArray) (w : World) : Calls Try.prog 99 #[.string s] w fun e w' => e = .panicked [{ v := .iface wr (atomTm s).val, recovered := false }] ∧ Gr w w' := by
  go_enter Try.func99, Try.ntmps99
  go_wp2_with fail
  refine (atom_calls s _).mono ?_
  rintro e w1 ⟨rfl, hb1⟩
  simp only [atomTm, Tm.val, Tm.k, Tm.n, Tm.s, Tm.p, Tm.l, Tm.c, List.length_nil]
  go_wp2_with fail
  exact ⟨rfl, rfl, hb1⟩

theorem u64_neg {a : Int} (h1 : -9223372036854775808 ≤ a) (ha : a < 0) : IntKind.u64.wrap (-IntKind.u64.wrap a) = a.natAbs := by
  simp only [IntKind.wrap_u64]; omega

set_option maxHeartbeats 400000 in
theorem size_calls (a : Int) (w : World) (h : In64 a) : Calls Try.prog 158 #[.int .i64 a] w fun e w' => e = .returned (.int .u64 a.natAbs) ∧ w = w' := by
  obtain ⟨h1, h2⟩ := h
  by_cases ha : a < 0
  · go_enter Try.func158, Try.ntmps158
    go_wp2_with fail
    go_ret
    exact ⟨ret_k (u64_neg h1 ha), rfl⟩
  · go_enter Try.func158, Try.ntmps158
    go_wp2_with fail
    go_ret
    exact ⟨ret_k (by omega), rfl⟩

theorem wrap64_up {x : Int} (h : 9223372036854775807 < x) (h' : x < 18446744073709551616) : wrap64 x = x - 18446744073709551616 := by unfold wrap64; omega
theorem wrap64_down {x : Int} (h : x < -9223372036854775808) (h' : -18446744073709551616 ≤ x) : wrap64 x = x + 18446744073709551616 := by unfold wrap64; omega

set_option maxHeartbeats 400000 in
theorem add_calls (a b : Int) (w : World) (ha : In64 a) (hb : In64 b) : Calls Try.prog 134 #[.int .i64 a, .int .i64 b] w (NumIs wr (nAdd a b) w) := by
  obtain ⟨a1, a2⟩ := ha
  obtain ⟨b1, b2⟩ := hb
  by_cases hi : -9223372036854775808 ≤ a + b ∧ a + b ≤ 9223372036854775807
  · have hr : Hid (nAdd a b = .ok (a + b)) := ov_ok hi.1 hi.2
    obtain ⟨i1, i2⟩ := hi
    by_cases h0 : 0 < b
    · go_enter Try.func134, Try.ntmps134
      go_wp2_with fail
      all_goals
        go_ret
        exact num_ok hr.out rfl (Gr.rfl' _) ⟨i1, i2⟩
    · by_cases h1 : b = 0
      · subst h1
        go_enter Try.func134, Try.ntmps134
        go_wp2_with fail
        all_goals
          go_ret
          exact num_ok hr.out (by simp) (Gr.rfl' _) ⟨i1, i2⟩
      · go_enter Try.func134, Try.ntmps134
        go_wp2_with fail
        all_goals
          go_ret
          exact num_ok hr.out rfl (Gr.rfl' _) ⟨i1, i2⟩
  · have hr : Hid (nAdd a b = .bad sOverflow) := ov_bad (by omega)
    by_cases h0 : 0 < b
    · obtain ⟨c, hc⟩ : ∃ c, wrap64 (a + b) = c := ⟨_, rfl⟩
      have h2 : c < a := by rw [← hc, wrap64_up (by omega) (by omega)]; omega
      have h2' : ¬ a < c := by omega
      have hb0 : (b != 0) = true := by rw [bne_iff_ne]; omega
      clear hi
      go_enter Try.func134, Try.ntmps134
      go_wp2_with fail
      refine (throw_calls _ _).mono ?_
      rintro e w1 ⟨rfl, hb1⟩
      go_wp2_with fail
      exact ⟨rfl, num_bad hr.out overflowL (by decide) rfl hb1⟩
    · obtain ⟨c, hc⟩ : ∃ c, wrap64 (a + b) = c := ⟨_, rfl⟩
      have h2 : a < c := by rw [← hc, wrap64_down (by omega) (by omega)]; omega
      have h2' : ¬ c < a := by omega
      have hb0 : (b != 0) = true := by rw [bne_iff_ne]; omega
      have h3 : ¬ 0 < b := h0
      clear hi h0
      go_enter Try.func134, Try.ntmps134
      go_wp2_with fail
      refine (throw_calls _ _).mono ?_
      rintro e w1 ⟨rfl, hb1⟩
      go_wp2_with fail
      exact ⟨rfl, num_bad hr.out overflowL (by decide) rfl hb1⟩

set_option maxHeartbeats 400000 in
theorem sub_calls (a b : Int) (w : World) (ha : In64 a) (hb : In64 b) : Calls Try.prog 129 #[.int .i64 a, .int .i64 b] w (NumIs wr (nSub a b) w) := by
  obtain ⟨a1, a2⟩ := ha
  obtain ⟨b1, b2⟩ := hb
  by_cases hi : -9223372036854775808 ≤ a - b ∧ a - b ≤ 9223372036854775807
  · have hr : Hid (nSub a b = .ok (a - b)) := ov_ok hi.1 hi.2
    obtain ⟨i1, i2⟩ := hi
    by_cases h0 : 0 < b
    · go_enter Try.func129, Try.ntmps129
      go_wp2_with fail
      all_goals
        go_ret
        exact num_ok hr.out rfl (Gr.rfl' _) ⟨i1, i2⟩
    · by_cases h1 : b = 0
      · subst h1
        go_enter Try.func129, Try.ntmps129
        go_wp2_with fail
        all_goals
          go_ret
          exact num_ok hr.out (by simp) (Gr.rfl' _) ⟨i1, i2⟩
      · go_enter Try.func129, Try.ntmps129
        go_wp2_with fail
        all_goals
          go_ret
          exact num_ok hr.out rfl (Gr.rfl' _) ⟨i1, i2⟩
  · have hr : Hid (nSub a b = .bad sOverflow) := ov_bad (by omega)
    by_cases h0 : 0 < b
    · obtain ⟨c, hc⟩ : ∃ c, wrap64 (a - b) = c := ⟨_, rfl⟩
      have h2 : a < c := by rw [← hc, wrap64_down (by omega) (by omega)]; omega
      have h2' : ¬ c < a := by omega
      have hb0 : (b != 0) = true := by rw [bne_iff_ne]; omega
      clear hi
      go_enter Try.func129, Try.ntmps129
      go_wp2_with fail
      refine (throw_calls _ _).mono ?_
      rintro e w1 ⟨rfl, hb1⟩
      go_wp2_with fail
      exact ⟨rfl, num_bad hr.out overflowL (by decide) rfl hb1⟩
    · obtain ⟨c, hc⟩ : ∃ c, wrap64 (a - b) = c := ⟨_, rfl⟩
      have h2 : c < a := by rw [← hc, wrap64_up (by omega) (by omega)]; omega
      have h2' : ¬ a < c := by omega
      have hb0 : (b != 0) = true := by rw [bne_iff_ne]; omega
      have h3 : ¬ 0 < b := h0
      clear hi h0
      go_enter Try.func129, Try.ntmps129
      go_wp2_with fail
      refine (throw_calls _ _).mono ?_
      rintro e w1 ⟨rfl, hb1⟩
      go_wp2_with fail
      exact ⟨rfl, num_bad hr.out overflowL (by decide) rfl hb1⟩

theorem signed_neg {n : Nat} (h : n ≤ 9223372036854775808) : wrap64 (IntKind.u64.wrap (-(n : Int))) = -(n : Int) := by
  simp only [IntKind.wrap_u64]; unfold wrap64; omega

set_option maxHeartbeats 400000 in
theorem signed_calls (n : Nat) (below : Bool) (w : World) (hn : n < 18446744073709551616) : Calls Try.prog 157 #[.int .u64 n, .bool below] w (NumIs wr (ov (if below then -(n : Int) else n)) w) := by
  cases below
  · simp only [Bool.false_eq_true, if_false]
    by_cases h : n ≤ 9223372036854775807
    · have hr : Hid (ov (n : Int) = .ok n) := ov_ok (by omega) (by omega)
      have h' : (n : Int) ≤ 9223372036854775807 := by omega
      go_enter Try.func157, Try.ntmps157
      go_wp2_with fail
      go_ret
      exact num_ok hr.out rfl (Gr.rfl' _) ⟨by omega, h'⟩
    · have hr : Hid (ov (n : Int) = .bad sOverflow) := ov_bad (by omega)
      have h' : 9223372036854775807 < (n : Int) := by omega
      go_enter Try.func157, Try.ntmps157
      go_wp2_with fail
      refine (throw_calls _ _).mono ?_
      rintro e w1 ⟨rfl, hb1⟩
      go_wp2_with fail
      exact ⟨rfl, num_bad hr.out overflowL (by decide) rfl hb1⟩
  · simp only [if_true]
    by_cases h : n ≤ 9223372036854775808
    · have hr : Hid (ov (-(n : Int)) = .ok (-n)) := ov_ok (by omega) (by omega)
      have h' : (n : Int) ≤ 9223372036854775808 := by omega
      go_enter Try.func157, Try.ntmps157
      go_wp2_with fail
      go_ret
      exact num_ok hr.out (signed_neg h) (Gr.rfl' _) ⟨by omega, by omega⟩
    · have hr : Hid (ov (-(n : Int)) = .bad sOverflow) := ov_bad (by omega)
      have h' : ¬ (n : Int) ≤ 9223372036854775808 := by omega
      have h'' : 9223372036854775807 < (n : Int) := by omega
      go_enter Try.func157, Try.ntmps157
      go_wp2_with fail
      refine (throw_calls _ _).mono ?_
      rintro e w1 ⟨rfl, hb1⟩
      go_wp2_with fail
      exact ⟨rfl, num_bad hr.out overflowL (by decide) rfl hb1⟩
end Go.Proofs.Ytgaijgadeodoeaa
