/-
  hornkeep.ArithRing: the walk, 2
-/
import Derived.Test.YtgaijgadeodoeaaAH
namespace Go.Proofs.Ytgaijgadeodoeaa
open Go.RowKit

set_option maxHeartbeats 4000000 in
set_option maxRecDepth 100000 in
theorem ring_2 (a b c ab bc : Int) (w : World) (ha : In64 a) (hb : In64 b) (hc : In64 c) (hx : opR (nAdd a b) = (ab, true)) (hz : opR (nAdd b c) = (bc, false)) :
    Calls Try.prog 6 #[.int .i64 a, .int .i64 b, .int .i64 c] w (Ret (.bool true) w) := by
  have Ha := Lib.hid ha
  have Hb := Lib.hid hb
  have Hc := Lib.hid hc
  have Hx := Lib.hid hx
  have Hz := Lib.hid hz
  have Hx' : Hid (opR (nAdd b a) = (ab, true)) := by show _ = _; rw [nAdd_comm]; exact hx
  generalize hp : opR (nMul a b) = pp
  obtain ⟨p, x2⟩ := pp
  have Hp := Lib.hid hp
  have Hp' : Hid (opR (nMul b a) = (p, x2)) := by show _ = _; rw [nMul_comm]; exact hp
  generalize hs : opR (nMul b c) = ss
  obtain ⟨s, z2⟩ := ss
  have Hs := Lib.hid hs
  generalize hl : opR (nAdd ab c) = ll
  obtain ⟨l, u⟩ := ll
  have Hl := Lib.hid hl
  generalize hr : opR (nAdd a bc) = rr
  obtain ⟨r, v⟩ := rr
  have Hr := Lib.hid hr
  generalize hl2 : opR (nMul p c) = ll2
  obtain ⟨l2, u2⟩ := ll2
  have Hl2 := Lib.hid hl2
  generalize hr2 : opR (nMul a s) = rr2
  obtain ⟨r2, v2⟩ := rr2
  have Hr2 := Lib.hid hr2
  clear ha hb hc hx hz hp hs hl hr hl2 hr2
  go_enter Try.func6, Try.ntmps6
  go_wp2_with fail
  refine (op_calls (s := ⟨#[43]⟩) (f := nAdd) (r := (ab, true)) (by rw [ByteArray.toList_mk]; rfl) (by decide) Ha.out Hb.out (Hx.out) _).mono ?_
  rintro e w1 ⟨rfl, hb1, hi1⟩
  have I1 := Lib.hid hi1
  have g1 : Gr w w1 := hb1
  clear hb1 hi1
  go_wp2_with fail
  refine (op_calls (s := ⟨#[43]⟩) (f := nAdd) (r := (ab, true)) (by rw [ByteArray.toList_mk]; rfl) (by decide) Hb.out Ha.out (Hx'.out) _).mono ?_
  rintro e w2 ⟨rfl, hb2, hi2⟩
  have I2 := Lib.hid hi2
  have g2 : Gr w w2 := g1.trans hb2
  clear hb2 hi2
  go_wp2_with fail
  refine (op_calls (s := ⟨#[42]⟩) (f := nMul) (r := (p, x2)) (by rw [ByteArray.toList_mk]; rfl) (by decide) Ha.out Hb.out (Hp.out) _).mono ?_
  rintro e w3 ⟨rfl, hb3, hi3⟩
  have I3 := Lib.hid hi3
  have g3 : Gr w w3 := g2.trans hb3
  clear hb3 hi3
  go_wp2_with fail
  refine (op_calls (s := ⟨#[42]⟩) (f := nMul) (r := (p, x2)) (by rw [ByteArray.toList_mk]; rfl) (by decide) Hb.out Ha.out (Hp'.out) _).mono ?_
  rintro e w4 ⟨rfl, hb4, hi4⟩
  have I4 := Lib.hid hi4
  have g4 : Gr w w4 := g3.trans hb4
  clear hb4 hi4
  go_wp2_with fail
  refine (op_calls (s := ⟨#[43]⟩) (f := nAdd) (r := (bc, false)) (by rw [ByteArray.toList_mk]; rfl) (by decide) Hb.out Hc.out (Hz.out) _).mono ?_
  rintro e w5 ⟨rfl, hb5, hi5⟩
  have I5 := Lib.hid hi5
  have g5 : Gr w w5 := g4.trans hb5
  clear hb5 hi5
  go_wp2_with fail
  refine (op_calls (s := ⟨#[43]⟩) (f := nAdd) (r := (l, u)) (by rw [ByteArray.toList_mk]; rfl) (by decide) I1.out Hc.out (Hl.out) _).mono ?_
  rintro e w6 ⟨rfl, hb6, hi6⟩
  have I6 := Lib.hid hi6
  have g6 : Gr w w6 := g5.trans hb6
  clear hb6 hi6
  go_wp2_with fail
  refine (op_calls (s := ⟨#[43]⟩) (f := nAdd) (r := (r, v)) (by rw [ByteArray.toList_mk]; rfl) (by decide) Ha.out I5.out (Hr.out) _).mono ?_
  rintro e w7 ⟨rfl, hb7, hi7⟩
  have I7 := Lib.hid hi7
  have g7 : Gr w w7 := g6.trans hb7
  clear hb7 hi7
  go_wp2_with fail
  refine (op_calls (s := ⟨#[42]⟩) (f := nMul) (r := (s, z2)) (by rw [ByteArray.toList_mk]; rfl) (by decide) Hb.out Hc.out (Hs.out) _).mono ?_
  rintro e w8 ⟨rfl, hb8, hi8⟩
  have I8 := Lib.hid hi8
  have g8 : Gr w w8 := g7.trans hb8
  clear hb8 hi8
  go_wp2_with fail
  refine (op_calls (s := ⟨#[42]⟩) (f := nMul) (r := (l2, u2)) (by rw [ByteArray.toList_mk]; rfl) (by decide) I3.out Hc.out (Hl2.out) _).mono ?_
  rintro e w9 ⟨rfl, hb9, hi9⟩
  have I9 := Lib.hid hi9
  have g9 : Gr w w9 := g8.trans hb9
  clear hb9 hi9
  go_wp2_with fail
  refine (op_calls (s := ⟨#[42]⟩) (f := nMul) (r := (r2, v2)) (by rw [ByteArray.toList_mk]; rfl) (by decide) Ha.out I8.out (Hr2.out) _).mono ?_
  rintro e w10 ⟨rfl, hb10, hi10⟩
  have I10 := Lib.hid hi10
  have g10 : Gr w w10 := g9.trans hb10
  clear hb10 hi10
  cases x2
  · go_wp2_with fail
    rw [i64_and31]
    obtain ⟨k, hk⟩ : ∃ k : Nat, c % 32 = k := ⟨(c % 32).toNat, by omega⟩
    rw [hk]
    have hk31 : k ≤ 31 := by omega
    have Hk : Hid (In64 (k : Int)) := (⟨by omega, by omega⟩ : In64 (k : Int))
    generalize ht : opR (nLeft a k) = tt
    obtain ⟨t, y⟩ := tt
    generalize hbk : opR (nRight t k) = bk
    obtain ⟨back, yy⟩ := bk
    obtain ⟨q1, q2, q3, q4, q5⟩ := ring_shift Ha.out hk31 ht hbk
    have h2k : (2 : Int) ^ k ≤ 2147483648 ∧ (1 : Int) ≤ 2 ^ k := pow31 k hk31
    generalize (2 : Int) ^ k = pw at *
    have Hpw : Hid (In64 pw) := (⟨by omega, by omega⟩ : In64 pw)
    generalize a / pw = low at *
    have H2 : Hid (In64 2) := (⟨by decide, by decide⟩ : In64 2)
    have Ht := Lib.hid ht
    have Hbk := Lib.hid hbk
    have Q1 := Lib.hid q1
    have Q2 := Lib.hid q2
    have Q3 := Lib.hid q3
    have Q4 := Lib.hid q4
    have Q5 := Lib.hid q5
    clear ht hbk q1 q2 q3 q4 q5 hk hk31 h2k
    refine (op_calls (s := ⟨#[60, 60]⟩) (f := nLeft) (r := (t, y)) (by rw [ByteArray.toList_mk]; rfl) (by decide) Ha.out Hk.out (Ht.out) _).mono ?_
    rintro e w11 ⟨rfl, hb11, hi11⟩
    have I11 := Lib.hid hi11
    have g11 : Gr w w11 := g10.trans hb11
    clear hb11 hi11
    go_wp2_with fail
    refine (op_calls (s := ⟨#[62, 62]⟩) (f := nRight) (r := (back, yy)) (by rw [ByteArray.toList_mk]; rfl) (by decide) I11.out Hk.out (Hbk.out) _).mono ?_
    rintro e w12 ⟨rfl, hb12, hi12⟩
    have I12 := Lib.hid hi12
    have g12 : Gr w w12 := g11.trans hb12
    clear hb12 hi12
    go_wp2_with fail
    refine (op_calls (s := ⟨#[94]⟩) (f := nPow) (r := (pw, true)) (by rw [ByteArray.toList_mk]; rfl) (by decide) H2.out Hk.out (Q1.out) _).mono ?_
    rintro e w13 ⟨rfl, hb13, hi13⟩
    have I13 := Lib.hid hi13
    have g13 : Gr w w13 := g12.trans hb13
    clear hb13 hi13
    go_wp2_with fail
    refine (op_calls (s := ⟨#[42]⟩) (f := nMul) (r := (t, y)) (by rw [ByteArray.toList_mk]; rfl) (by decide) Ha.out Hpw.out (Q2.out) _).mono ?_
    rintro e w14 ⟨rfl, hb14, hi14⟩
    have I14 := Lib.hid hi14
    have g14 : Gr w w14 := g13.trans hb14
    clear hb14 hi14
    go_wp2_with fail
    refine (op_calls (s := ⟨#[62, 62]⟩) (f := nRight) (r := (low, true)) (by rw [ByteArray.toList_mk]; rfl) (by decide) Ha.out Hk.out (Q3.out) _).mono ?_
    rintro e w15 ⟨rfl, hb15, hi15⟩
    have I15 := Lib.hid hi15
    have g15 : Gr w w15 := g14.trans hb15
    clear hb15 hi15
    go_wp2_with fail
    refine (op_calls (s := ⟨#[100, 105, 118]⟩) (f := nDiv) (r := (low, true)) (by rw [ByteArray.toList_mk]; rfl) (by decide) Ha.out Hpw.out (Q4.out) _).mono ?_
    rintro e w16 ⟨rfl, hb16, hi16⟩
    have I16 := Lib.hid hi16
    have g16 : Gr w w16 := g15.trans hb16
    clear hb16 hi16
    go_wp2_with fail
    all_goals
      go_ret
      refine ret_bool ?_ g16
      have q5 := Q5.out
      first
      | rfl
      | (cases y <;> simp_all)
  cases z2
  · go_wp2_with fail
    rw [i64_and31]
    obtain ⟨k, hk⟩ : ∃ k : Nat, c % 32 = k := ⟨(c % 32).toNat, by omega⟩
    rw [hk]
    have hk31 : k ≤ 31 := by omega
    have Hk : Hid (In64 (k : Int)) := (⟨by omega, by omega⟩ : In64 (k : Int))
    generalize ht : opR (nLeft a k) = tt
    obtain ⟨t, y⟩ := tt
    generalize hbk : opR (nRight t k) = bk
    obtain ⟨back, yy⟩ := bk
    obtain ⟨q1, q2, q3, q4, q5⟩ := ring_shift Ha.out hk31 ht hbk
    have h2k : (2 : Int) ^ k ≤ 2147483648 ∧ (1 : Int) ≤ 2 ^ k := pow31 k hk31
    generalize (2 : Int) ^ k = pw at *
    have Hpw : Hid (In64 pw) := (⟨by omega, by omega⟩ : In64 pw)
    generalize a / pw = low at *
    have H2 : Hid (In64 2) := (⟨by decide, by decide⟩ : In64 2)
    have Ht := Lib.hid ht
    have Hbk := Lib.hid hbk
    have Q1 := Lib.hid q1
    have Q2 := Lib.hid q2
    have Q3 := Lib.hid q3
    have Q4 := Lib.hid q4
    have Q5 := Lib.hid q5
    clear ht hbk q1 q2 q3 q4 q5 hk hk31 h2k
    refine (op_calls (s := ⟨#[60, 60]⟩) (f := nLeft) (r := (t, y)) (by rw [ByteArray.toList_mk]; rfl) (by decide) Ha.out Hk.out (Ht.out) _).mono ?_
    rintro e w11 ⟨rfl, hb11, hi11⟩
    have I11 := Lib.hid hi11
    have g11 : Gr w w11 := g10.trans hb11
    clear hb11 hi11
    go_wp2_with fail
    refine (op_calls (s := ⟨#[62, 62]⟩) (f := nRight) (r := (back, yy)) (by rw [ByteArray.toList_mk]; rfl) (by decide) I11.out Hk.out (Hbk.out) _).mono ?_
    rintro e w12 ⟨rfl, hb12, hi12⟩
    have I12 := Lib.hid hi12
    have g12 : Gr w w12 := g11.trans hb12
    clear hb12 hi12
    go_wp2_with fail
    refine (op_calls (s := ⟨#[94]⟩) (f := nPow) (r := (pw, true)) (by rw [ByteArray.toList_mk]; rfl) (by decide) H2.out Hk.out (Q1.out) _).mono ?_
    rintro e w13 ⟨rfl, hb13, hi13⟩
    have I13 := Lib.hid hi13
    have g13 : Gr w w13 := g12.trans hb13
    clear hb13 hi13
    go_wp2_with fail
    refine (op_calls (s := ⟨#[42]⟩) (f := nMul) (r := (t, y)) (by rw [ByteArray.toList_mk]; rfl) (by decide) Ha.out Hpw.out (Q2.out) _).mono ?_
    rintro e w14 ⟨rfl, hb14, hi14⟩
    have I14 := Lib.hid hi14
    have g14 : Gr w w14 := g13.trans hb14
    clear hb14 hi14
    go_wp2_with fail
    refine (op_calls (s := ⟨#[62, 62]⟩) (f := nRight) (r := (low, true)) (by rw [ByteArray.toList_mk]; rfl) (by decide) Ha.out Hk.out (Q3.out) _).mono ?_
    rintro e w15 ⟨rfl, hb15, hi15⟩
    have I15 := Lib.hid hi15
    have g15 : Gr w w15 := g14.trans hb15
    clear hb15 hi15
    go_wp2_with fail
    refine (op_calls (s := ⟨#[100, 105, 118]⟩) (f := nDiv) (r := (low, true)) (by rw [ByteArray.toList_mk]; rfl) (by decide) Ha.out Hpw.out (Q4.out) _).mono ?_
    rintro e w16 ⟨rfl, hb16, hi16⟩
    have I16 := Lib.hid hi16
    have g16 : Gr w w16 := g15.trans hb16
    clear hb16 hi16
    go_wp2_with fail
    all_goals
      go_ret
      refine ret_bool ?_ g16
      have q5 := Q5.out
      first
      | rfl
      | (cases y <;> simp_all)
  obtain ⟨rfl, rfl⟩ := ring_mul Hp.out Hs.out Hl2.out Hr2.out
  by_cases a0 : a = 0
  · have a1 : (a != 0) = false := by rw [a0]; rfl
    clear a0
    go_wp2_with fail
    rw [i64_and31]
    obtain ⟨k, hk⟩ : ∃ k : Nat, c % 32 = k := ⟨(c % 32).toNat, by omega⟩
    rw [hk]
    have hk31 : k ≤ 31 := by omega
    have Hk : Hid (In64 (k : Int)) := (⟨by omega, by omega⟩ : In64 (k : Int))
    generalize ht : opR (nLeft a k) = tt
    obtain ⟨t, y⟩ := tt
    generalize hbk : opR (nRight t k) = bk
    obtain ⟨back, yy⟩ := bk
    obtain ⟨q1, q2, q3, q4, q5⟩ := ring_shift Ha.out hk31 ht hbk
    have h2k : (2 : Int) ^ k ≤ 2147483648 ∧ (1 : Int) ≤ 2 ^ k := pow31 k hk31
    generalize (2 : Int) ^ k = pw at *
    have Hpw : Hid (In64 pw) := (⟨by omega, by omega⟩ : In64 pw)
    generalize a / pw = low at *
    have H2 : Hid (In64 2) := (⟨by decide, by decide⟩ : In64 2)
    have Ht := Lib.hid ht
    have Hbk := Lib.hid hbk
    have Q1 := Lib.hid q1
    have Q2 := Lib.hid q2
    have Q3 := Lib.hid q3
    have Q4 := Lib.hid q4
    have Q5 := Lib.hid q5
    clear ht hbk q1 q2 q3 q4 q5 hk hk31 h2k
    refine (op_calls (s := ⟨#[60, 60]⟩) (f := nLeft) (r := (t, y)) (by rw [ByteArray.toList_mk]; rfl) (by decide) Ha.out Hk.out (Ht.out) _).mono ?_
    rintro e w11 ⟨rfl, hb11, hi11⟩
    have I11 := Lib.hid hi11
    have g11 : Gr w w11 := g10.trans hb11
    clear hb11 hi11
    go_wp2_with fail
    refine (op_calls (s := ⟨#[62, 62]⟩) (f := nRight) (r := (back, yy)) (by rw [ByteArray.toList_mk]; rfl) (by decide) I11.out Hk.out (Hbk.out) _).mono ?_
    rintro e w12 ⟨rfl, hb12, hi12⟩
    have I12 := Lib.hid hi12
    have g12 : Gr w w12 := g11.trans hb12
    clear hb12 hi12
    go_wp2_with fail
    refine (op_calls (s := ⟨#[94]⟩) (f := nPow) (r := (pw, true)) (by rw [ByteArray.toList_mk]; rfl) (by decide) H2.out Hk.out (Q1.out) _).mono ?_
    rintro e w13 ⟨rfl, hb13, hi13⟩
    have I13 := Lib.hid hi13
    have g13 : Gr w w13 := g12.trans hb13
    clear hb13 hi13
    go_wp2_with fail
    refine (op_calls (s := ⟨#[42]⟩) (f := nMul) (r := (t, y)) (by rw [ByteArray.toList_mk]; rfl) (by decide) Ha.out Hpw.out (Q2.out) _).mono ?_
    rintro e w14 ⟨rfl, hb14, hi14⟩
    have I14 := Lib.hid hi14
    have g14 : Gr w w14 := g13.trans hb14
    clear hb14 hi14
    go_wp2_with fail
    refine (op_calls (s := ⟨#[62, 62]⟩) (f := nRight) (r := (low, true)) (by rw [ByteArray.toList_mk]; rfl) (by decide) Ha.out Hk.out (Q3.out) _).mono ?_
    rintro e w15 ⟨rfl, hb15, hi15⟩
    have I15 := Lib.hid hi15
    have g15 : Gr w w15 := g14.trans hb15
    clear hb15 hi15
    go_wp2_with fail
    refine (op_calls (s := ⟨#[100, 105, 118]⟩) (f := nDiv) (r := (low, true)) (by rw [ByteArray.toList_mk]; rfl) (by decide) Ha.out Hpw.out (Q4.out) _).mono ?_
    rintro e w16 ⟨rfl, hb16, hi16⟩
    have I16 := Lib.hid hi16
    have g16 : Gr w w16 := g15.trans hb16
    clear hb16 hi16
    go_wp2_with fail
    all_goals
      go_ret
      refine ret_bool ?_ g16
      have q5 := Q5.out
      first
      | rfl
      | (cases y <;> simp_all)
  have a1 : (a != 0) = true := by simpa using a0
  clear a0
  by_cases c0 : c = 0
  · have c1 : (c != 0) = false := by rw [c0]; rfl
    clear c0
    go_wp2_with fail
    rw [i64_and31]
    obtain ⟨k, hk⟩ : ∃ k : Nat, c % 32 = k := ⟨(c % 32).toNat, by omega⟩
    rw [hk]
    have hk31 : k ≤ 31 := by omega
    have Hk : Hid (In64 (k : Int)) := (⟨by omega, by omega⟩ : In64 (k : Int))
    generalize ht : opR (nLeft a k) = tt
    obtain ⟨t, y⟩ := tt
    generalize hbk : opR (nRight t k) = bk
    obtain ⟨back, yy⟩ := bk
    obtain ⟨q1, q2, q3, q4, q5⟩ := ring_shift Ha.out hk31 ht hbk
    have h2k : (2 : Int) ^ k ≤ 2147483648 ∧ (1 : Int) ≤ 2 ^ k := pow31 k hk31
    generalize (2 : Int) ^ k = pw at *
    have Hpw : Hid (In64 pw) := (⟨by omega, by omega⟩ : In64 pw)
    generalize a / pw = low at *
    have H2 : Hid (In64 2) := (⟨by decide, by decide⟩ : In64 2)
    have Ht := Lib.hid ht
    have Hbk := Lib.hid hbk
    have Q1 := Lib.hid q1
    have Q2 := Lib.hid q2
    have Q3 := Lib.hid q3
    have Q4 := Lib.hid q4
    have Q5 := Lib.hid q5
    clear ht hbk q1 q2 q3 q4 q5 hk hk31 h2k
    refine (op_calls (s := ⟨#[60, 60]⟩) (f := nLeft) (r := (t, y)) (by rw [ByteArray.toList_mk]; rfl) (by decide) Ha.out Hk.out (Ht.out) _).mono ?_
    rintro e w11 ⟨rfl, hb11, hi11⟩
    have I11 := Lib.hid hi11
    have g11 : Gr w w11 := g10.trans hb11
    clear hb11 hi11
    go_wp2_with fail
    refine (op_calls (s := ⟨#[62, 62]⟩) (f := nRight) (r := (back, yy)) (by rw [ByteArray.toList_mk]; rfl) (by decide) I11.out Hk.out (Hbk.out) _).mono ?_
    rintro e w12 ⟨rfl, hb12, hi12⟩
    have I12 := Lib.hid hi12
    have g12 : Gr w w12 := g11.trans hb12
    clear hb12 hi12
    go_wp2_with fail
    refine (op_calls (s := ⟨#[94]⟩) (f := nPow) (r := (pw, true)) (by rw [ByteArray.toList_mk]; rfl) (by decide) H2.out Hk.out (Q1.out) _).mono ?_
    rintro e w13 ⟨rfl, hb13, hi13⟩
    have I13 := Lib.hid hi13
    have g13 : Gr w w13 := g12.trans hb13
    clear hb13 hi13
    go_wp2_with fail
    refine (op_calls (s := ⟨#[42]⟩) (f := nMul) (r := (t, y)) (by rw [ByteArray.toList_mk]; rfl) (by decide) Ha.out Hpw.out (Q2.out) _).mono ?_
    rintro e w14 ⟨rfl, hb14, hi14⟩
    have I14 := Lib.hid hi14
    have g14 : Gr w w14 := g13.trans hb14
    clear hb14 hi14
    go_wp2_with fail
    refine (op_calls (s := ⟨#[62, 62]⟩) (f := nRight) (r := (low, true)) (by rw [ByteArray.toList_mk]; rfl) (by decide) Ha.out Hk.out (Q3.out) _).mono ?_
    rintro e w15 ⟨rfl, hb15, hi15⟩
    have I15 := Lib.hid hi15
    have g15 : Gr w w15 := g14.trans hb15
    clear hb15 hi15
    go_wp2_with fail
    refine (op_calls (s := ⟨#[100, 105, 118]⟩) (f := nDiv) (r := (low, true)) (by rw [ByteArray.toList_mk]; rfl) (by decide) Ha.out Hpw.out (Q4.out) _).mono ?_
    rintro e w16 ⟨rfl, hb16, hi16⟩
    have I16 := Lib.hid hi16
    have g16 : Gr w w16 := g15.trans hb16
    clear hb16 hi16
    go_wp2_with fail
    all_goals
      go_ret
      refine ret_bool ?_ g16
      have q5 := Q5.out
      first
      | rfl
      | (cases y <;> simp_all)
  have c1 : (c != 0) = true := by simpa using c0
  clear c0
  go_wp2_with fail
  rw [i64_and31]
  obtain ⟨k, hk⟩ : ∃ k : Nat, c % 32 = k := ⟨(c % 32).toNat, by omega⟩
  rw [hk]
  have hk31 : k ≤ 31 := by omega
  have Hk : Hid (In64 (k : Int)) := (⟨by omega, by omega⟩ : In64 (k : Int))
  generalize ht : opR (nLeft a k) = tt
  obtain ⟨t, y⟩ := tt
  generalize hbk : opR (nRight t k) = bk
  obtain ⟨back, yy⟩ := bk
  obtain ⟨q1, q2, q3, q4, q5⟩ := ring_shift Ha.out hk31 ht hbk
  have h2k : (2 : Int) ^ k ≤ 2147483648 ∧ (1 : Int) ≤ 2 ^ k := pow31 k hk31
  generalize (2 : Int) ^ k = pw at *
  have Hpw : Hid (In64 pw) := (⟨by omega, by omega⟩ : In64 pw)
  generalize a / pw = low at *
  have H2 : Hid (In64 2) := (⟨by decide, by decide⟩ : In64 2)
  have Ht := Lib.hid ht
  have Hbk := Lib.hid hbk
  have Q1 := Lib.hid q1
  have Q2 := Lib.hid q2
  have Q3 := Lib.hid q3
  have Q4 := Lib.hid q4
  have Q5 := Lib.hid q5
  clear ht hbk q1 q2 q3 q4 q5 hk hk31 h2k
  refine (op_calls (s := ⟨#[60, 60]⟩) (f := nLeft) (r := (t, y)) (by rw [ByteArray.toList_mk]; rfl) (by decide) Ha.out Hk.out (Ht.out) _).mono ?_
  rintro e w11 ⟨rfl, hb11, hi11⟩
  have I11 := Lib.hid hi11
  have g11 : Gr w w11 := g10.trans hb11
  clear hb11 hi11
  go_wp2_with fail
  refine (op_calls (s := ⟨#[62, 62]⟩) (f := nRight) (r := (back, yy)) (by rw [ByteArray.toList_mk]; rfl) (by decide) I11.out Hk.out (Hbk.out) _).mono ?_
  rintro e w12 ⟨rfl, hb12, hi12⟩
  have I12 := Lib.hid hi12
  have g12 : Gr w w12 := g11.trans hb12
  clear hb12 hi12
  go_wp2_with fail
  refine (op_calls (s := ⟨#[94]⟩) (f := nPow) (r := (pw, true)) (by rw [ByteArray.toList_mk]; rfl) (by decide) H2.out Hk.out (Q1.out) _).mono ?_
  rintro e w13 ⟨rfl, hb13, hi13⟩
  have I13 := Lib.hid hi13
  have g13 : Gr w w13 := g12.trans hb13
  clear hb13 hi13
  go_wp2_with fail
  refine (op_calls (s := ⟨#[42]⟩) (f := nMul) (r := (t, y)) (by rw [ByteArray.toList_mk]; rfl) (by decide) Ha.out Hpw.out (Q2.out) _).mono ?_
  rintro e w14 ⟨rfl, hb14, hi14⟩
  have I14 := Lib.hid hi14
  have g14 : Gr w w14 := g13.trans hb14
  clear hb14 hi14
  go_wp2_with fail
  refine (op_calls (s := ⟨#[62, 62]⟩) (f := nRight) (r := (low, true)) (by rw [ByteArray.toList_mk]; rfl) (by decide) Ha.out Hk.out (Q3.out) _).mono ?_
  rintro e w15 ⟨rfl, hb15, hi15⟩
  have I15 := Lib.hid hi15
  have g15 : Gr w w15 := g14.trans hb15
  clear hb15 hi15
  go_wp2_with fail
  refine (op_calls (s := ⟨#[100, 105, 118]⟩) (f := nDiv) (r := (low, true)) (by rw [ByteArray.toList_mk]; rfl) (by decide) Ha.out Hpw.out (Q4.out) _).mono ?_
  rintro e w16 ⟨rfl, hb16, hi16⟩
  have I16 := Lib.hid hi16
  have g16 : Gr w w16 := g15.trans hb16
  clear hb16 hi16
  go_wp2_with fail
  all_goals
    go_ret
    refine ret_bool ?_ g16
    have q5 := Q5.out
    first
    | rfl
    | (cases y <;> simp_all)
end Go.Proofs.Ytgaijgadeodoeaa
