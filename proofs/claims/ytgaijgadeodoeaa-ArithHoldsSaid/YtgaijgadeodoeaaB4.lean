/-
  hornref.power
-/
import Derived.Test.YtgaijgadeodoeaaB0
namespace Go.Proofs.Ytgaijgadeodoeaa
open Go.RowKit

theorem mtest {m : ByteArray} (h : m.size ≠ 0) : (m.toList == []) = false := by
  rw [beq_eq_false_iff_ne]
  intro e
  rw [← toList_length, e] at h
  exact h rfl

set_option maxHeartbeats 2000000 in
theorem power_calls (a b : Int) (w : World) (ha : In64 a) (hb : In64 b) : Calls Try.prog 107 #[.int .i64 a, .int .i64 b] w (NumP (nPow a b) w) := by
  have Ha := Lib.hid ha
  obtain ⟨a1, a2⟩ := ha
  obtain ⟨b1, b2⟩ := hb
  by_cases h0 : b < 0
  · have Hr : Hid (nPow a b = .bad sNegative) := if_pos h0
    go_enter Try.func107, Try.ntmps107
    go_wp2_with fail
    go_ret2
    exact nump_bad Hr.out negativeL (by decide) (by decide) (Gr.rfl' _)
  obtain ⟨n, rfl⟩ : ∃ n : Nat, b = n := ⟨b.toNat, by omega⟩
  have Hl : Hid (nPow a n = ov (a ^ n)) := by show _ = _; rw [nPow, if_neg h0, Int.toNat_natCast]
  clear h0
  by_cases hn : n = 0
  · subst hn
    go_enter Try.func107, Try.ntmps107
    go_wp2_with fail
    all_goals
      go_ret2
      exact nump_ok (Hl.out.trans (by rw [Int.pow_zero]; exact ov_ok (by decide) (by decide))) rfl (Gr.rfl' _) ⟨by decide, by decide⟩
  have hn' : ((n : Int) == 0) = false := by rw [beq_eq_false_iff_ne]; omega
  by_cases e1 : a = 1
  · subst e1
    go_enter Try.func107, Try.ntmps107
    go_wp2_with fail
    go_ret2
    exact nump_ok (Hl.out.trans (by rw [Int.one_pow]; exact ov_ok (by decide) (by decide))) rfl (Gr.rfl' _) ⟨by decide, by decide⟩
  have e1' : (a == 1) = false := beq_eq_false_iff_ne.2 e1
  by_cases e2 : a = 0
  · subst e2
    have Hn := Lib.hid hn
    clear hn
    go_enter Try.func107, Try.ntmps107
    go_wp2_with fail
    go_ret2
    exact nump_ok (Hl.out.trans (by rw [Int.zero_pow Hn.out]; exact ov_ok (by decide) (by decide))) rfl (Gr.rfl' _) ⟨by decide, by decide⟩
  have e2' : (a == 0) = false := beq_eq_false_iff_ne.2 e2
  by_cases e3 : a = -1
  · subst e3
    have HN := Lib.hid (neg_one_pow n)
    by_cases hp : (n : Int) % 2 = 0
    · have hp' : ((n : Int) % 2 == 0) = true := beq_iff_eq.2 hp
      have Hp := Lib.hid hp
      clear hp
      go_enter Try.func107, Try.ntmps107
      go_wp2_with fail
      go_ret2
      exact nump_ok (n := 1) (Hl.out.trans (by rw [HN.out, Hp.out]; exact ov_ok (by decide) (by decide))) rfl (Gr.rfl' _) ⟨by decide, by decide⟩
    · have hp' : ((n : Int) % 2 == 0) = false := beq_eq_false_iff_ne.2 hp
      have Hp : Hid ((n : Int) % 2 = 1) := by show _ = _; omega
      clear hp
      go_enter Try.func107, Try.ntmps107
      go_wp2_with fail
      go_ret2
      exact nump_ok (n := -1) (Hl.out.trans (by rw [HN.out, Hp.out]; exact ov_ok (by decide) (by decide))) rfl (Gr.rfl' _) ⟨by decide, by decide⟩
  have e3' : (a == -1) = false := beq_eq_false_iff_ne.2 e3
  have Hbig : Hid (2 ≤ a.natAbs) := by show 2 ≤ _; omega
  clear e1 e2 e3 hn
  go_enter Try.func107, Try.ntmps107
  go_wp2_with fail
  go_loopw [6, 7, 8] (fun v6 v7 v8 wr => ∃ (i : Nat) (p : Int) (m : ByteArray), i ≤ n ∧ v6 = .int .i64 p ∧ v7 = .string m ∧ v8 = .int .i64 i ∧ Hid (m = ⟨#[]⟩ ∧ p = a ^ i ∧ In64 (a ^ i) ∨ p = 0 ∧ m.size ≠ 0 ∧ m.size ≤ 100 ∧ m.toList = sOverflow ∧ ¬ In64 (a ^ i)) ∧ Gr w wr)
    (fun _ v7 v8 _ => n - (intOf v8).toNat)
  case atStart => exact ⟨0, 1, ⟨#[]⟩, Nat.zero_le _, rfl, rfl, rfl, .inl ⟨rfl, by rw [Int.pow_zero], by rw [Int.pow_zero]; exact ⟨by decide, by decide⟩⟩, by go_grown⟩
  case round =>
    obtain ⟨i, p, m, hi, rfl, rfl, rfl, hst, hg⟩ := hrel
    rcases hst.out with ⟨rfl, hp, hin⟩ | ⟨rfl, m0, m1, m2, hout⟩
    · have Hp := Lib.hid hp
      have Hin := Lib.hid hin
      clear hst hp hin
      by_cases hlt : i < n
      · have em : Hid (nMul p a = ov (a ^ (i + 1))) := by show _ = _; rw [nMul, Hp.out, Int.pow_succ]
        go_wp2_with fail
        refine (rtimes_calls p a _ (by rw [Hp.out]; exact Hin.out) Ha.out).mono ?_
        rw [em.out]
        by_cases ho : In64 (a ^ (i + 1))
        · rw [ov_ok ho.1 ho.2]
          have Ho := Lib.hid ho
          clear ho em
          rintro e w2 ⟨rfl, hg2, _⟩
          go_wp2_with fail
          go_roundw
          case rel => exact ⟨i + 1, _, _, by omega, rfl, rfl, by go_num, .inl ⟨rfl, rfl, Ho.out⟩, hg.trans hg2⟩
          case measure => simp [intOf]; omega
        · rw [show ov (a ^ (i + 1)) = .bad sOverflow from if_neg ho]
          have Ho := Lib.hid ho
          clear ho em
          rintro e w2 ⟨m, n1, n2, n3, rfl, hg2⟩
          go_wp2_with fail
          go_roundw
          case rel => exact ⟨i + 1, _, _, by omega, rfl, rfl, by go_num, .inr ⟨rfl, n3, n2, n1, Ho.out⟩, hg.trans hg2⟩
          case measure => simp [intOf]; omega
      · have hie : Hid (i = n) := by show i = n; omega
        go_wp2_with fail
        go_ret2
        exact nump_ok (n := p) (Hl.out.trans (by rw [← hie.out, ← Hp.out]; exact ov_ok (by rw [Hp.out]; exact Hin.out.1) (by rw [Hp.out]; exact Hin.out.2))) rfl hg (by rw [Hp.out]; exact Hin.out)
    · have mt := mtest m0
      have M0 := Lib.hid m0
      have M1 := Lib.hid m1
      have M2 := Lib.hid m2
      have Ho := Lib.hid hout
      clear hst m0 m1 m2 hout
      have Hr : Hid (nPow a n = .bad sOverflow) := Hl.out.trans (if_neg (pow_out Hbig.out hi Ho.out))
      go_wp2_with fail
      all_goals
        go_ret2
        exact nump_bad Hr.out M2.out M1.out M0.out hg
end Go.Proofs.Ytgaijgadeodoeaa
