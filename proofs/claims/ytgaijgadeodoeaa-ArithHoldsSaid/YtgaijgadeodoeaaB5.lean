/-
  hornref.shifted
-/
import Derived.Test.YtgaijgadeodoeaaB3
import Derived.Test.YtgaijgadeodoeaaB4
namespace Go.Proofs.Ytgaijgadeodoeaa
open Go.RowKit

theorem shl_out {a : Int} {i j : Nat} (h : i ≤ j) (ho : ¬ In64 (a * 2 ^ i)) : ¬ In64 (a * 2 ^ j) := by
  intro hj
  apply ho
  obtain ⟨k, rfl⟩ : ∃ k, j = i + k := ⟨j - i, by omega⟩
  rw [Int.pow_add, ← Int.mul_assoc] at hj
  have hk : (1 : Int) ≤ 2 ^ k := two_pow_pos k
  generalize a * 2 ^ i = x at *
  generalize (2 : Int) ^ k = p at *
  obtain ⟨h1, h2⟩ := hj
  rcases Int.lt_or_le x 0 with hx | hx
  · have := Int.mul_le_mul_of_nonneg_left hk (show 0 ≤ -x by omega)
    rw [Int.neg_mul, Int.neg_mul] at this
    exact ⟨by omega, by omega⟩
  · have := Int.mul_le_mul_of_nonneg_left hk hx
    exact ⟨by omega, by omega⟩

set_option maxHeartbeats 1000000 in
theorem shifted_left (s : ByteArray) (a b : Int) (w : World) (hs : s.toList = [60, 60]) (ha : In64 a) (hb : In64 b) : Calls Try.prog 108 #[.string s, .int .i64 a, .int .i64 b] w (NumP (nLeft a b) w) := by
  have Ha := Lib.hid ha
  obtain ⟨b1, b2⟩ := hb
  by_cases h0 : b < 0
  · have Hr : Hid (nLeft a b = .bad sNegative) := if_pos h0
    clear ha
    go_enter Try.func108, Try.ntmps108
    go_wp2_with fail
    go_ret2
    exact nump_bad Hr.out negativeL (by decide) (by decide) (Gr.rfl' _)
  obtain ⟨n, rfl⟩ : ∃ n : Nat, b = n := ⟨b.toNat, by omega⟩
  have Hl : Hid (nLeft a n = ov (a * 2 ^ n)) := by show _ = _; rw [nLeft, if_neg h0, Int.toNat_natCast]
  clear h0
  have Hs := Lib.hid hs
  obtain ⟨a1, a2⟩ := ha
  go_enter Try.func108, Try.ntmps108
  go_wp2_with fail
  go_loopw [1, 8, 9] (fun v1 v8 v9 wr => ∃ (i : Nat) (p : Int) (m : ByteArray), i ≤ n ∧ v1 = .int .i64 p ∧ v8 = .string m ∧ v9 = .int .i64 i ∧ Hid (m = ⟨#[]⟩ ∧ p = a * 2 ^ i ∧ In64 (a * 2 ^ i) ∨ p = 0 ∧ m.size ≠ 0 ∧ m.size ≤ 100 ∧ m.toList = sOverflow ∧ ¬ In64 (a * 2 ^ i)) ∧ Gr w wr)
    (fun _ _ v9 _ => n - (intOf v9).toNat)
  case atStart => exact ⟨0, a, ⟨#[]⟩, Nat.zero_le _, rfl, rfl, rfl, .inl ⟨rfl, by rw [Int.pow_zero, Int.mul_one], by rw [Int.pow_zero, Int.mul_one]; exact Ha.out⟩, by go_grown⟩
  case round =>
    obtain ⟨i, p, m, hi, rfl, rfl, rfl, hst, hg⟩ := hrel
    rcases hst.out with ⟨rfl, hp, hin⟩ | ⟨rfl, m0, m1, m2, hout⟩
    · have Hp := Lib.hid hp
      have Hin := Lib.hid hin
      clear hst hp hin
      by_cases hlt : i < n
      · by_cases hz : p = 0
        · have hz' : (p != 0) = false := by rw [hz]; rfl
          have Hz : Hid (nLeft a n = .ok 0) := by
            show _ = _
            have e := Hp.out
            rw [hz] at e
            have e2 : a = 0 := by
              rcases Int.mul_eq_zero.1 e.symm with h | h
              · exact h
              · have := two_pow_pos i; omega
            rw [Hl.out, e2, Int.zero_mul]
            exact ov_ok (by decide) (by decide)
          have Hz2 := Lib.hid hz
          clear hz
          go_wp2_with fail
          go_ret2
          exact nump_ok Hz.out Hz2.out hg ⟨by decide, by decide⟩
        · have hz' : (p != 0) = true := by simpa using hz
          clear hz
          have em : Hid (nMul p 2 = ov (a * 2 ^ (i + 1))) := by show _ = _; rw [nMul, Hp.out, Int.pow_succ, Int.mul_assoc]
          go_wp2_with fail
          refine (rtimes_calls p 2 _ (by rw [Hp.out]; exact Hin.out) ⟨by decide, by decide⟩).mono ?_
          rw [em.out]
          by_cases ho : In64 (a * 2 ^ (i + 1))
          · rw [ov_ok ho.1 ho.2]
            have Ho := Lib.hid ho
            clear ho em
            rintro e w2 ⟨rfl, hg2, _⟩
            go_wp2_with fail
            go_roundw
            case rel => exact ⟨i + 1, _, _, by omega, rfl, rfl, by go_num, .inl ⟨rfl, rfl, Ho.out⟩, hg.trans hg2⟩
            case measure => simp [intOf]; omega
          · rw [show ov (a * 2 ^ (i + 1)) = .bad sOverflow from if_neg ho]
            have Ho := Lib.hid ho
            clear ho em
            rintro e w2 ⟨m, n1, n2, n3, rfl, hg2⟩
            go_wp2_with fail
            go_roundw
            case rel => exact ⟨i + 1, _, _, by omega, rfl, rfl, by go_num, .inr ⟨rfl, n3, n2, n1, Ho.out⟩, hg.trans hg2⟩
            case measure => simp [intOf]; omega
      · have hie : Hid (i = n) := by show i = n; omega
        go_wp2_with fail
        go_ret2
        exact nump_ok (n := p) (Hl.out.trans (by rw [← hie.out, ← Hp.out]; exact ov_ok (by rw [Hp.out]; exact Hin.out.1) (by rw [Hp.out]; exact Hin.out.2))) rfl hg (by rw [Hp.out]; exact Hin.out)
    · have mt := mtest m0
      have M0 := Lib.hid m0
      have M1 := Lib.hid m1
      have M2 := Lib.hid m2
      have Ho := Lib.hid hout
      clear hst m0 m1 m2 hout
      have Hr : Hid (nLeft a n = .bad sOverflow) := Hl.out.trans (if_neg (shl_out hi Ho.out))
      go_wp2_with fail
      all_goals
        go_ret2
        exact nump_bad Hr.out M2.out M1.out M0.out hg

theorem ediv_pow_succ (a : Int) (i : Nat) : a / 2 ^ (i + 1) = a / 2 ^ i / 2 := by
  rw [Int.pow_succ, Int.ediv_ediv_of_nonneg (Int.le_of_lt (two_pow_pos i))]

theorem shr_end {a : Int} {i j : Nat} (h : i ≤ j) (he : a / 2 ^ i = 0 ∨ a / 2 ^ i = -1) : a / 2 ^ j = a / 2 ^ i := by
  obtain ⟨k, rfl⟩ : ∃ k, j = i + k := ⟨j - i, by omega⟩
  clear h
  induction k with
  | zero => rfl
  | succ k ih =>
    rw [← Nat.add_assoc, ediv_pow_succ, ih]
    rcases he with he | he <;> rw [he] <;> decide

theorem ediv_in64 {a : Int} (ha : In64 a) (i : Nat) : In64 (a / 2 ^ i) := by
  induction i with
  | zero => rw [Int.pow_zero, Int.ediv_one]; exact ha
  | succ i ih =>
    rw [ediv_pow_succ]
    obtain ⟨h1, h2⟩ := ih
    exact ⟨by omega, by omega⟩

set_option maxHeartbeats 1000000 in
theorem shifted_right (s : ByteArray) (a b : Int) (w : World) (hs : s.toList = [62, 62]) (ha : In64 a) (hb : In64 b) : Calls Try.prog 108 #[.string s, .int .i64 a, .int .i64 b] w (NumP (nRight a b) w) := by
  have Ha := Lib.hid ha
  obtain ⟨b1, b2⟩ := hb
  by_cases h0 : b < 0
  · have Hr : Hid (nRight a b = .bad sNegative) := if_pos h0
    clear ha
    go_enter Try.func108, Try.ntmps108
    go_wp2_with fail
    go_ret2
    exact nump_bad Hr.out negativeL (by decide) (by decide) (Gr.rfl' _)
  obtain ⟨n, rfl⟩ : ∃ n : Nat, b = n := ⟨b.toNat, by omega⟩
  have Hl : Hid (nRight a n = .ok (a / 2 ^ n)) := by show _ = _; rw [nRight, if_neg h0, Int.toNat_natCast]
  clear h0
  obtain ⟨a1, a2⟩ := ha
  go_enter Try.func108, Try.ntmps108
  go_wp2_with fail
  go_loopw [1, 8, 9] (fun v1 v8 v9 wr => ∃ (i : Nat) (p : Int), i ≤ n ∧ v1 = .int .i64 p ∧ v8 = .string ⟨#[]⟩ ∧ v9 = .int .i64 i ∧ Hid (p = a / 2 ^ i) ∧ Gr w wr)
    (fun _ _ v9 _ => n - (intOf v9).toNat)
  case atStart => exact ⟨0, a, Nat.zero_le _, rfl, rfl, rfl, by show _ = _; rw [Int.pow_zero, Int.ediv_one], by go_grown⟩
  case round =>
    obtain ⟨i, p, hi, rfl, rfl, rfl, hp, hg⟩ := hrel
    have Hin : Hid (In64 p) := by show In64 p; rw [hp.out]; exact ediv_in64 Ha.out i
    by_cases hlt : i < n
    · by_cases hz : p = 0
      · have hz' : (p != 0) = false := by rw [hz]; rfl
        have Hz : Hid (nRight a n = .ok p) := by
          show _ = _
          rw [Hl.out, shr_end hi (.inl (by rw [← hp.out, hz])), ← hp.out]
        clear hz
        go_wp2_with fail
        go_ret2
        exact nump_ok Hz.out rfl hg Hin.out
      · have hz' : (p != 0) = true := by simpa using hz
        clear hz
        by_cases h1 : p = -1
        · have h1' : (p == -1) = true := by rw [h1]; rfl
          have Hz : Hid (nRight a n = .ok (-1)) := by
            show _ = _
            rw [Hl.out, shr_end hi (.inr (by rw [← hp.out, h1])), ← hp.out, h1]
          clear h1
          go_wp2_with fail
          go_ret2
          exact nump_ok Hz.out rfl hg ⟨by decide, by decide⟩
        · have h1' : (p == -1) = false := beq_eq_false_iff_ne.2 h1
          clear h1
          have em : Hid (nDiv p 2 = .ok (a / 2 ^ (i + 1))) := by
            show _ = _
            have h9 := ediv_in64 Ha.out (i + 1)
            rw [ediv_pow_succ, ← hp.out] at h9 ⊢
            rw [nDiv, if_neg (by decide), Int.fdiv_eq_ediv_of_nonneg _ (by decide)]
            exact ov_ok h9.1 h9.2
          go_wp2_with fail
          refine (parted_div ⟨#[100, 105, 118]⟩ p 2 _ (ByteArray.toList_mk _) Hin.out ⟨by decide, by decide⟩).mono ?_
          rw [em.out]
          clear em
          rintro e w2 ⟨rfl, hg2, _⟩
          go_wp2_with fail
          go_roundw
          case rel => exact ⟨i + 1, _, by omega, rfl, rfl, by go_num, rfl, hg.trans hg2⟩
          case measure => simp [intOf]; omega
    · have hie : Hid (i = n) := by show i = n; omega
      go_wp2_with fail
      go_ret2
      exact nump_ok (n := p) (Hl.out.trans (by rw [← hie.out, ← hp.out])) rfl hg Hin.out
end Go.Proofs.Ytgaijgadeodoeaa
