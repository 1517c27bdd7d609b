/-
  hornref.bitwise
-/
import Derived.Test.YtgaijgadeodoeaaB0
namespace Go.Proofs.Ytgaijgadeodoeaa
open Go.RowKit

theorem ofInt_pow {i : Nat} (hi : i < 64) : BitVec.ofInt 64 (wrap64 (2 ^ i)) = BitVec.twoPow 64 i := by
  apply BitVec.eq_of_toNat_eq
  rw [BitVec.toNat_ofInt, BitVec.toNat_twoPow]
  have h1 : (2 : Nat) ^ i < 2 ^ 64 := Nat.pow_lt_pow_right (by decide) hi
  have h3 : ((2 ^ i : Nat) : Int) = (2 : Int) ^ i := by simp
  rw [← h3, Nat.mod_eq_of_lt h1]
  generalize (2 : Nat) ^ i = p at *
  unfold wrap64
  omega

theorem bit_iff {a : Int} {i : Nat} (hi : i < 64) : bits .and .i64 a (wrap64 (2 ^ i)) = 0 ↔ (BitVec.ofInt 64 a).toNat.testBit i = false := by
  show IntKind.i64.wrap ((BitVec.ofInt 64 a &&& BitVec.ofInt 64 (wrap64 (2 ^ i))).toNat : Nat) = 0 ↔ _
  rw [ofInt_pow hi, BitVec.and_twoPow, ← BitVec.getLsbD, IntKind.wrap_i64]
  cases h : (BitVec.ofInt 64 a).getLsbD i
  · simp
  · simp only [if_true, BitVec.toNat_twoPow, Bool.true_eq_false, iff_false]
    have h1 : (2 : Nat) ^ i < 2 ^ 64 := Nat.pow_lt_pow_right (by decide) hi
    have h2 : 0 < (2 : Nat) ^ i := Nat.two_pow_pos i
    rw [Nat.mod_eq_of_lt h1]
    generalize (2 : Nat) ^ i = p at *
    omega

theorem bit_no {a : Int} {i : Nat} (hi : i < 64) (h : bits .and .i64 a (wrap64 (2 ^ i)) = 0) : (BitVec.ofInt 64 a).toNat.testBit i = false := (bit_iff hi).1 h
theorem bit_yes {a : Int} {i : Nat} (hi : i < 64) (h : ¬ bits .and .i64 a (wrap64 (2 ^ i)) = 0) : (BitVec.ofInt 64 a).toNat.testBit i = true := by
  rw [← Bool.not_eq_false]; exact fun e => h ((bit_iff hi).2 e)

theorem mod_two_pow (N i : Nat) : N % 2 ^ (i + 1) = N % 2 ^ i + 2 ^ i * (N.testBit i).toNat := by
  rw [Nat.pow_succ, Nat.mod_mul, Nat.toNat_testBit]

theorem bw_no {N i : Nat} (h : N.testBit i = false) : wrap64 ((N % 2 ^ i : Nat) : Int) = wrap64 ((N % 2 ^ (i + 1) : Nat) : Int) := by
  rw [mod_two_pow, h]; simp
theorem bw_yes {N i : Nat} (h : N.testBit i = true) : wrap64 (wrap64 ((N % 2 ^ i : Nat) : Int) + wrap64 (2 ^ i)) = wrap64 ((N % 2 ^ (i + 1) : Nat) : Int) := by
  rw [mod_two_pow, h]
  have h3 : ((2 ^ i : Nat) : Int) = (2 : Int) ^ i := by simp
  rw [← h3, Bool.toNat_true, Nat.mul_one]
  generalize N % 2 ^ i = x
  generalize 2 ^ i = p
  unfold wrap64
  omega

set_option maxHeartbeats 1000000 in
theorem bitwise_and (s : ByteArray) (a b : Int) (w : World) (hs : s.toList = [47, 92]) (ha : In64 a) (hb : In64 b) : Calls Try.prog 109 #[.string s, .int .i64 a, .int .i64 b] w fun e w' => e = .returned (.int .i64 (bits .and .i64 a b)) ∧ Gr w w' := by
  obtain ⟨a1, a2⟩ := ha
  obtain ⟨b1, b2⟩ := hb
  obtain ⟨N, hN⟩ : ∃ N : Nat, N = (BitVec.ofInt 64 a).toNat &&& (BitVec.ofInt 64 b).toNat := ⟨_, rfl⟩
  have HN : Hid (∀ j, N.testBit j = ((BitVec.ofInt 64 a).toNat.testBit j && (BitVec.ofInt 64 b).toNat.testBit j)) := by
    show ∀ j, _
    intro j
    rw [hN, Nat.testBit_and]
  have HR : Hid (bits .and .i64 a b = wrap64 (N % 2 ^ 64 : Nat)) := by
    show _ = _
    have h1 : N = (BitVec.ofInt 64 a &&& BitVec.ofInt 64 b).toNat := by rw [hN, BitVec.toNat_and]
    rw [Nat.mod_eq_of_lt (by rw [h1]; exact BitVec.isLt _), h1]
    show IntKind.i64.wrap ((BitVec.ofInt 64 a &&& BitVec.ofInt 64 b).toNat : Nat) = _
    rw [IntKind.wrap_i64, wrap64]
  clear hN
  go_enter Try.func109, Try.ntmps109
  go_wp2_with fail
  go_loopw [7, 8] (fun v7 v8 wr => ∃ i : Nat, i ≤ 64 ∧ v7 = .int .i64 (wrap64 (N % 2 ^ i : Nat)) ∧ v8 = .int .i64 i ∧ Gr w wr)
    (fun _ v8 _ => 64 - (intOf v8).toNat)
  case atStart => exact ⟨0, by decide, by rw [Nat.pow_zero, Nat.mod_one, wrap64_id ⟨by decide, by decide⟩]; rfl, rfl, by go_grown⟩
  case round =>
    obtain ⟨i, hi, rfl, rfl, hg⟩ := hrel
    by_cases hlt : i < 64
    · generalize hx : wrap64 (N % 2 ^ i : Nat) = x
      have Hx := Lib.hid hx
      clear hx
      go_wp2_with fail
      go_quiet (fail)
      go_wp2_with fail
      all_goals
        have hbit := HN.out i
        refine ⟨⟨i + 1, by omega, ?_, by go_num, hg.drewN _⟩, by simp [intOf]; omega⟩
        rw [← Hx.out]
        first
        | exact congrArg (Value.int .i64) (bw_no (by
            rw [hbit]
            first | rw [bit_no (a := a) hlt (by assumption)] | rw [bit_yes (a := a) hlt (by assumption)] | skip
            first | rw [bit_no (a := b) hlt (by assumption)] | rw [bit_yes (a := b) hlt (by assumption)] | skip
            first | rfl | simp))
        | exact congrArg (Value.int .i64) (bw_yes (by
            rw [hbit]
            first | rw [bit_no (a := a) hlt (by assumption)] | rw [bit_yes (a := a) hlt (by assumption)] | skip
            first | rw [bit_no (a := b) hlt (by assumption)] | rw [bit_yes (a := b) hlt (by assumption)] | skip
            first | rfl | simp))
    · have hie : Hid (i = 64) := by show i = 64; omega
      go_wp2_with fail
      go_ret
      refine ⟨?_, hg⟩
      rw [HR.out, ← hie.out]
      rfl

set_option maxHeartbeats 1000000 in
theorem bitwise_or (s : ByteArray) (a b : Int) (w : World) (hs : s.toList = [92, 47]) (ha : In64 a) (hb : In64 b) : Calls Try.prog 109 #[.string s, .int .i64 a, .int .i64 b] w fun e w' => e = .returned (.int .i64 (bits .or .i64 a b)) ∧ Gr w w' := by
  obtain ⟨a1, a2⟩ := ha
  obtain ⟨b1, b2⟩ := hb
  obtain ⟨N, hN⟩ : ∃ N : Nat, N = (BitVec.ofInt 64 a).toNat ||| (BitVec.ofInt 64 b).toNat := ⟨_, rfl⟩
  have HN : Hid (∀ j, N.testBit j = ((BitVec.ofInt 64 a).toNat.testBit j || (BitVec.ofInt 64 b).toNat.testBit j)) := by
    show ∀ j, _
    intro j
    rw [hN, Nat.testBit_or]
  have HR : Hid (bits .or .i64 a b = wrap64 (N % 2 ^ 64 : Nat)) := by
    show _ = _
    have h1 : N = (BitVec.ofInt 64 a ||| BitVec.ofInt 64 b).toNat := by rw [hN, BitVec.toNat_or]
    rw [Nat.mod_eq_of_lt (by rw [h1]; exact BitVec.isLt _), h1]
    show IntKind.i64.wrap ((BitVec.ofInt 64 a ||| BitVec.ofInt 64 b).toNat : Nat) = _
    rw [IntKind.wrap_i64, wrap64]
  clear hN
  go_enter Try.func109, Try.ntmps109
  go_wp2_with fail
  go_loopw [7, 8] (fun v7 v8 wr => ∃ i : Nat, i ≤ 64 ∧ v7 = .int .i64 (wrap64 (N % 2 ^ i : Nat)) ∧ v8 = .int .i64 i ∧ Gr w wr)
    (fun _ v8 _ => 64 - (intOf v8).toNat)
  case atStart => exact ⟨0, by decide, by rw [Nat.pow_zero, Nat.mod_one, wrap64_id ⟨by decide, by decide⟩]; rfl, rfl, by go_grown⟩
  case round =>
    obtain ⟨i, hi, rfl, rfl, hg⟩ := hrel
    by_cases hlt : i < 64
    · generalize hx : wrap64 (N % 2 ^ i : Nat) = x
      have Hx := Lib.hid hx
      clear hx
      go_wp2_with fail
      go_quiet (fail)
      go_wp2_with fail
      all_goals
        have hbit := HN.out i
        refine ⟨⟨i + 1, by omega, ?_, by go_num, hg.drewN _⟩, by simp [intOf]; omega⟩
        rw [← Hx.out]
        first
        | exact congrArg (Value.int .i64) (bw_no (by
            rw [hbit]
            first | rw [bit_no (a := a) hlt (by assumption)] | rw [bit_yes (a := a) hlt (by assumption)] | skip
            first | rw [bit_no (a := b) hlt (by assumption)] | rw [bit_yes (a := b) hlt (by assumption)] | skip
            first | rfl | simp))
        | exact congrArg (Value.int .i64) (bw_yes (by
            rw [hbit]
            first | rw [bit_no (a := a) hlt (by assumption)] | rw [bit_yes (a := a) hlt (by assumption)] | skip
            first | rw [bit_no (a := b) hlt (by assumption)] | rw [bit_yes (a := b) hlt (by assumption)] | skip
            first | rfl | simp))
    · have hie : Hid (i = 64) := by show i = 64; omega
      go_wp2_with fail
      go_ret
      refine ⟨?_, hg⟩
      rw [HR.out, ← hie.out]
      rfl

set_option maxHeartbeats 1000000 in
theorem bitwise_xor (s : ByteArray) (a b : Int) (w : World) (hs : s.toList = [120, 111, 114]) (ha : In64 a) (hb : In64 b) : Calls Try.prog 109 #[.string s, .int .i64 a, .int .i64 b] w fun e w' => e = .returned (.int .i64 (bits .xor .i64 a b)) ∧ Gr w w' := by
  obtain ⟨a1, a2⟩ := ha
  obtain ⟨b1, b2⟩ := hb
  obtain ⟨N, hN⟩ : ∃ N : Nat, N = (BitVec.ofInt 64 a).toNat ^^^ (BitVec.ofInt 64 b).toNat := ⟨_, rfl⟩
  have HN : Hid (∀ j, N.testBit j = ((BitVec.ofInt 64 a).toNat.testBit j ^^ (BitVec.ofInt 64 b).toNat.testBit j)) := by
    show ∀ j, _
    intro j
    rw [hN, Nat.testBit_xor]
  have HR : Hid (bits .xor .i64 a b = wrap64 (N % 2 ^ 64 : Nat)) := by
    show _ = _
    have h1 : N = (BitVec.ofInt 64 a ^^^ BitVec.ofInt 64 b).toNat := by rw [hN, BitVec.toNat_xor]
    rw [Nat.mod_eq_of_lt (by rw [h1]; exact BitVec.isLt _), h1]
    show IntKind.i64.wrap ((BitVec.ofInt 64 a ^^^ BitVec.ofInt 64 b).toNat : Nat) = _
    rw [IntKind.wrap_i64, wrap64]
  clear hN
  go_enter Try.func109, Try.ntmps109
  go_wp2_with fail
  go_loopw [7, 8] (fun v7 v8 wr => ∃ i : Nat, i ≤ 64 ∧ v7 = .int .i64 (wrap64 (N % 2 ^ i : Nat)) ∧ v8 = .int .i64 i ∧ Gr w wr)
    (fun _ v8 _ => 64 - (intOf v8).toNat)
  case atStart => exact ⟨0, by decide, by rw [Nat.pow_zero, Nat.mod_one, wrap64_id ⟨by decide, by decide⟩]; rfl, rfl, by go_grown⟩
  case round =>
    obtain ⟨i, hi, rfl, rfl, hg⟩ := hrel
    by_cases hlt : i < 64
    · generalize hx : wrap64 (N % 2 ^ i : Nat) = x
      have Hx := Lib.hid hx
      clear hx
      by_cases ka : bits .and .i64 a (wrap64 (2 ^ i)) = 0 <;> by_cases kb : bits .and .i64 b (wrap64 (2 ^ i)) = 0
      · have ka2 : (bits .and .i64 a (wrap64 (2 ^ i)) != 0) = false := by rw [ka]; rfl
        have kb2 : (bits .and .i64 b (wrap64 (2 ^ i)) != 0) = false := by rw [kb]; rfl
        have KA := Lib.hid ka
        have KB := Lib.hid kb
        clear ka kb
        go_wp2_with fail
        go_quiet (fail)
        go_wp2_with fail
        all_goals
          have ka := KA.out
          have kb := KB.out
          have hbit := HN.out i
          refine ⟨⟨i + 1, by omega, ?_, by go_num, hg.drewN _⟩, by simp [intOf]; omega⟩
          rw [← Hx.out]
          first
          | exact congrArg (Value.int .i64) (bw_no (by
              rw [hbit]
              first | rw [bit_no (a := a) hlt (by assumption)] | rw [bit_yes (a := a) hlt (by assumption)] | skip
              first | rw [bit_no (a := b) hlt (by assumption)] | rw [bit_yes (a := b) hlt (by assumption)] | skip
              first | rfl | simp))
          | exact congrArg (Value.int .i64) (bw_yes (by
              rw [hbit]
              first | rw [bit_no (a := a) hlt (by assumption)] | rw [bit_yes (a := a) hlt (by assumption)] | skip
              first | rw [bit_no (a := b) hlt (by assumption)] | rw [bit_yes (a := b) hlt (by assumption)] | skip
              first | rfl | simp))
      · have ka2 : (bits .and .i64 a (wrap64 (2 ^ i)) != 0) = false := by rw [ka]; rfl
        have kb2 : (bits .and .i64 b (wrap64 (2 ^ i)) != 0) = true := by simpa using kb
        have KA := Lib.hid ka
        have KB := Lib.hid kb
        clear ka kb
        go_wp2_with fail
        go_quiet (fail)
        go_wp2_with fail
        all_goals
          have ka := KA.out
          have kb := KB.out
          have hbit := HN.out i
          refine ⟨⟨i + 1, by omega, ?_, by go_num, hg.drewN _⟩, by simp [intOf]; omega⟩
          rw [← Hx.out]
          first
          | exact congrArg (Value.int .i64) (bw_no (by
              rw [hbit]
              first | rw [bit_no (a := a) hlt (by assumption)] | rw [bit_yes (a := a) hlt (by assumption)] | skip
              first | rw [bit_no (a := b) hlt (by assumption)] | rw [bit_yes (a := b) hlt (by assumption)] | skip
              first | rfl | simp))
          | exact congrArg (Value.int .i64) (bw_yes (by
              rw [hbit]
              first | rw [bit_no (a := a) hlt (by assumption)] | rw [bit_yes (a := a) hlt (by assumption)] | skip
              first | rw [bit_no (a := b) hlt (by assumption)] | rw [bit_yes (a := b) hlt (by assumption)] | skip
              first | rfl | simp))
      · have ka2 : (bits .and .i64 a (wrap64 (2 ^ i)) != 0) = true := by simpa using ka
        have kb2 : (bits .and .i64 b (wrap64 (2 ^ i)) != 0) = false := by rw [kb]; rfl
        have KA := Lib.hid ka
        have KB := Lib.hid kb
        clear ka kb
        go_wp2_with fail
        go_quiet (fail)
        go_wp2_with fail
        all_goals
          have ka := KA.out
          have kb := KB.out
          have hbit := HN.out i
          refine ⟨⟨i + 1, by omega, ?_, by go_num, hg.drewN _⟩, by simp [intOf]; omega⟩
          rw [← Hx.out]
          first
          | exact congrArg (Value.int .i64) (bw_no (by
              rw [hbit]
              first | rw [bit_no (a := a) hlt (by assumption)] | rw [bit_yes (a := a) hlt (by assumption)] | skip
              first | rw [bit_no (a := b) hlt (by assumption)] | rw [bit_yes (a := b) hlt (by assumption)] | skip
              first | rfl | simp))
          | exact congrArg (Value.int .i64) (bw_yes (by
              rw [hbit]
              first | rw [bit_no (a := a) hlt (by assumption)] | rw [bit_yes (a := a) hlt (by assumption)] | skip
              first | rw [bit_no (a := b) hlt (by assumption)] | rw [bit_yes (a := b) hlt (by assumption)] | skip
              first | rfl | simp))
      · have ka2 : (bits .and .i64 a (wrap64 (2 ^ i)) != 0) = true := by simpa using ka
        have kb2 : (bits .and .i64 b (wrap64 (2 ^ i)) != 0) = true := by simpa using kb
        have KA := Lib.hid ka
        have KB := Lib.hid kb
        clear ka kb
        go_wp2_with fail
        go_quiet (fail)
        go_wp2_with fail
        all_goals
          have ka := KA.out
          have kb := KB.out
          have hbit := HN.out i
          refine ⟨⟨i + 1, by omega, ?_, by go_num, hg.drewN _⟩, by simp [intOf]; omega⟩
          rw [← Hx.out]
          first
          | exact congrArg (Value.int .i64) (bw_no (by
              rw [hbit]
              first | rw [bit_no (a := a) hlt (by assumption)] | rw [bit_yes (a := a) hlt (by assumption)] | skip
              first | rw [bit_no (a := b) hlt (by assumption)] | rw [bit_yes (a := b) hlt (by assumption)] | skip
              first | rfl | simp))
          | exact congrArg (Value.int .i64) (bw_yes (by
              rw [hbit]
              first | rw [bit_no (a := a) hlt (by assumption)] | rw [bit_yes (a := a) hlt (by assumption)] | skip
              first | rw [bit_no (a := b) hlt (by assumption)] | rw [bit_yes (a := b) hlt (by assumption)] | skip
              first | rfl | simp))
    · have hie : Hid (i = 64) := by show i = 64; omega
      go_wp2_with fail
      go_ret
      refine ⟨?_, hg⟩
      rw [HR.out, ← hie.out]
      rfl

end Go.Proofs.Ytgaijgadeodoeaa
