/-
  The reference's operations on numbers: what they hand back; the plain laws on products and bits.
-/
import Derived.Test.YtgaijgadeodoeaaA7
namespace Go.Proofs.Ytgaijgadeodoeaa
open Go.RowKit

/-- A number and no word, or 0 and what went wrong. -/
def NumP (r : Num) (w : World) (e : Ending) (w' : World) : Prop :=
  match r with
  | .ok n => e = .returned (.tuple #[.int .i64 n, .string ⟨#[]⟩]) ∧ Gr w w' ∧ In64 n
  | .bad s => ∃ m : ByteArray, m.toList = s ∧ m.size ≤ 100 ∧ m.size ≠ 0 ∧ e = .returned (.tuple #[.int .i64 0, .string m]) ∧ Gr w w'

theorem nump_ok {r : Num} {n m : Int} {w w' : World} (h : r = .ok n) (hm : m = n) (hg : Gr w w') (hi : In64 n) : NumP r w (.returned (.tuple #[.int .i64 m, .string ⟨#[]⟩])) w' := by
  subst h hm
  exact ⟨rfl, hg, hi⟩
theorem nump_bad {r : Num} {s : ByteArray} {l : Str} {w w' : World} (h : r = .bad l) (hl : s.toList = l) (hs : s.size ≤ 100) (h0 : s.size ≠ 0) (hg : Gr w w') : NumP r w (.returned (.tuple #[.int .i64 0, .string s])) w' := by
  subst h
  exact ⟨s, hl, hs, h0, rfl, hg⟩

theorem wrap64_id {x : Int} (h : In64 x) : wrap64 x = x := by
  obtain ⟨h1, h2⟩ := h
  unfold wrap64
  omega

theorem times_iff {a b : Int} (ha : In64 a) (hb : In64 b) (h0 : b ≠ 0) (hn : ¬ (b = -1 ∧ a = -9223372036854775808)) :
    wrap64 ((wrap64 (a * b)).tdiv b) = a ↔ In64 (a * b) := by
  obtain ⟨a1, a2⟩ := ha
  obtain ⟨b1, b2⟩ := hb
  have hp : ∃ k : Int, wrap64 (a * b) = a * b + 18446744073709551616 * k ∧ -9223372036854775808 ≤ wrap64 (a * b) ∧ wrap64 (a * b) ≤ 9223372036854775807 := by
    unfold wrap64
    generalize a * b = p
    exact ⟨-((p + 9223372036854775808) / 18446744073709551616), by omega, by omega, by omega⟩
  obtain ⟨k, hk, p1, p2⟩ := hp
  constructor
  · intro h
    generalize wrap64 (a * b) = p at *
    have hq : p.tdiv b = a := by
      by_cases hb1 : b = -1
      · subst hb1
        have e : p.tdiv (-1) = -p := by rw [Int.tdiv_neg, Int.tdiv_one]
        rw [e] at h ⊢
        have : p = a * -1 + 18446744073709551616 * k := hk
        have hpl : p = -9223372036854775808 → False := by
          intro h9
          subst h9
          have : wrap64 (- -9223372036854775808) = -9223372036854775808 := by unfold wrap64; omega
          omega
        rw [wrap64_id ⟨by omega, by omega⟩] at h
        exact h
      · rw [wrap64_id ?_] at h
        · exact h
        · have h1 : (p.tdiv b).natAbs = p.natAbs / b.natAbs := Int.natAbs_tdiv p b
          by_cases hbb : b = 1
          · subst hbb; rw [Int.tdiv_one]; exact ⟨p1, p2⟩
          · have h2 : p.natAbs / b.natAbs ≤ p.natAbs / 2 := Nat.div_le_div_left (by omega) (by omega)
            have h3 : (p.tdiv b).natAbs ≤ 4611686018427387904 := by omega
            exact ⟨by omega, by omega⟩
    have h1 := Int.mul_tdiv_add_tmod p b
    rw [hq] at h1
    have h2 : (p.tmod b).natAbs < b.natAbs := by rw [Int.natAbs_tmod]; exact Nat.mod_lt _ (by omega)
    rw [Int.mul_comm] at h1
    generalize a * b = m at *
    have hk0 : k = 0 := by omega
    subst hk0
    exact ⟨by omega, by omega⟩
  · intro h
    rw [wrap64_id h, Int.mul_tdiv_cancel _ h0]
    exact wrap64_id ⟨a1, a2⟩

set_option maxHeartbeats 400000 in
theorem rtimes_rest (a b : Int) (w : World) (ha : In64 a) (hb : In64 b) (a0 : a ≠ 0) (b0 : b ≠ 0) (n1 : ¬ (a = -1 ∧ b = -9223372036854775808)) (n2 : ¬ (b = -1 ∧ a = -9223372036854775808)) :
    Calls Try.prog 104 #[.int .i64 a, .int .i64 b] w (NumP (nMul a b) w) := by
  have ht := times_iff ha hb b0 n2
  have a0' : (a == 0) = false := beq_eq_false_iff_ne.2 a0
  have b0' : (b == 0) = false := beq_eq_false_iff_ne.2 b0
  have A1 : ∃ u v : Bool, (a == -1) = u ∧ (b == -9223372036854775808) = v ∧ (u && v) = false := by
    refine ⟨_, _, rfl, rfl, ?_⟩
    rw [Bool.and_eq_false_iff, beq_eq_false_iff_ne, beq_eq_false_iff_ne]
    omega
  have B1 : ∃ u v : Bool, (b == -1) = u ∧ (a == -9223372036854775808) = v ∧ (u && v) = false := by
    refine ⟨_, _, rfl, rfl, ?_⟩
    rw [Bool.and_eq_false_iff, beq_eq_false_iff_ne, beq_eq_false_iff_ne]
    omega
  obtain ⟨u, v, hu, hv, huv⟩ := A1
  obtain ⟨x, y, hx, hy, hxy⟩ := B1
  by_cases hi : In64 (a * b)
  · have Hi := Lib.hid hi
    have ht' : (wrap64 ((wrap64 (a * b)).tdiv b) != a) = false := by rw [ht.2 hi]; simp
    have Hr : Hid (nMul a b = .ok (a * b)) := ov_ok hi.1 hi.2
    have Hw := Lib.hid (wrap64_id hi)
    clear ht hi a0 n1 n2 ha hb
    cases u <;> cases v <;> cases x <;> cases y <;> first | (exact absurd huv (by decide)) | (exact absurd hxy (by decide)) | skip
    all_goals
      clear huv hxy
      go_enter Try.func104, Try.ntmps104
      go_wp2_with fail
      go_ret2
      exact nump_ok Hr.out Hw.out (Gr.rfl' _) Hi.out
  · have ht' : (wrap64 ((wrap64 (a * b)).tdiv b) != a) = true := by
      rw [bne_iff_ne]; exact fun e => hi (ht.1 e)
    have Hr : Hid (nMul a b = .bad sOverflow) := if_neg hi
    clear ht hi a0 n1 n2 ha hb
    cases u <;> cases v <;> cases x <;> cases y <;> first | (exact absurd huv (by decide)) | (exact absurd hxy (by decide)) | skip
    all_goals
      clear huv hxy
      go_enter Try.func104, Try.ntmps104
      go_wp2_with fail
      go_ret2
      exact nump_bad Hr.out overflowL (by decide) (by decide) (Gr.rfl' _)

set_option maxHeartbeats 400000 in
theorem rtimes_calls (a b : Int) (w : World) (ha : In64 a) (hb : In64 b) : Calls Try.prog 104 #[.int .i64 a, .int .i64 b] w (NumP (nMul a b) w) := by
  by_cases a0 : a = 0
  · subst a0
    have Hr : Hid (nMul 0 b = .ok 0) := by show _ = _; rw [nMul, Int.zero_mul]; exact ov_ok (by decide) (by decide)
    clear ha hb
    go_enter Try.func104, Try.ntmps104
    go_wp2_with fail
    go_ret2
    exact nump_ok Hr.out rfl (Gr.rfl' _) ⟨by decide, by decide⟩
  by_cases b0 : b = 0
  · subst b0
    have Hr : Hid (nMul a 0 = .ok 0) := by show _ = _; rw [nMul, Int.mul_zero]; exact ov_ok (by decide) (by decide)
    have a0' : (a == 0) = false := beq_eq_false_iff_ne.2 a0
    clear ha hb a0
    go_enter Try.func104, Try.ntmps104
    go_wp2_with fail
    go_ret2
    exact nump_ok Hr.out rfl (Gr.rfl' _) ⟨by decide, by decide⟩
  by_cases n1 : a = -1 ∧ b = -9223372036854775808
  · obtain ⟨rfl, rfl⟩ := n1
    clear ha hb a0 b0
    go_enter Try.func104, Try.ntmps104
    go_wp2_with fail
    go_ret2
    exact nump_bad (ov_bad (.inr (by decide))) overflowL (by decide) (by decide) (Gr.rfl' _)
  by_cases n2 : b = -1 ∧ a = -9223372036854775808
  · obtain ⟨rfl, rfl⟩ := n2
    clear ha hb a0 b0 n1
    go_enter Try.func104, Try.ntmps104
    go_wp2_with fail
    go_ret2
    exact nump_bad (ov_bad (.inr (by decide))) overflowL (by decide) (by decide) (Gr.rfl' _)
  · exact rtimes_rest a b w ha hb a0 b0 n1 n2
end Go.Proofs.Ytgaijgadeodoeaa
