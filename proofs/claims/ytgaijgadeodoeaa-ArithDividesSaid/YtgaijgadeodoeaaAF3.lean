/-
  hornkeep.ArithDivides: the walk, b 0 < b
-/
import Derived.Test.YtgaijgadeodoeaaAE
namespace Go.Proofs.Ytgaijgadeodoeaa
open Go.RowKit

set_option maxHeartbeats 2000000 in
set_option maxRecDepth 100000 in
theorem divides_pos_n (a b c q r d m g : Int) (w : World) (ha : In64 a) (hb : In64 b) (k1 : r < 0) (k2 : 0 < b)
    (hq : opR (nQuo a b) = (q, true)) (hr : opR (nRem a b) = (r, true)) (hd : opR (nDiv a b) = (d, true)) (hm : opR (nMod a b) = (m, true)) (hg : opR (nGcd a b) = (g, true)) (D : Divides a b q r d m) (G : Gcd a b g) :
    Calls Try.prog 5 #[.int .i64 a, .int .i64 b, .int .i64 c] w (Ret (.bool true) w) := by
  have Ha := Lib.hid ha
  have Hb := Lib.hid hb
  have Hq := Lib.hid hq
  have Hr := Lib.hid hr
  have Hd := Lib.hid hd
  have Hm := Lib.hid hm
  have Hg := Lib.hid hg
  have HD := Lib.hid D
  have HG := Lib.hid G
  have K1 := Lib.hid k1
  have K2 := Lib.hid k2
  have H0 : Hid (b ≠ 0) := by show b ≠ 0; omega
  clear ha hb hq hr hd hm hg D G k1 k2
  go_enter Try.func5, Try.ntmps5
  go_wp2_with fail
  refine (op_calls (s := ⟨#[47, 47]⟩) (f := nQuo) (r := (q, true)) (by rw [ByteArray.toList_mk]; rfl) (by decide) Ha.out Hb.out (Hq.out) _).mono ?_
  rintro e w1 ⟨rfl, hb1, _⟩
  have g1 : Gr w w1 := hb1
  clear hb1
  go_wp2_with fail
  refine (op_calls (s := ⟨#[114, 101, 109]⟩) (f := nRem) (r := (r, true)) (by rw [ByteArray.toList_mk]; rfl) (by decide) Ha.out Hb.out (Hr.out) _).mono ?_
  rintro e w2 ⟨rfl, hb2, _⟩
  have g2 : Gr w w2 := g1.trans hb2
  clear hb2
  go_wp2_with fail
  refine (op_calls (s := ⟨#[100, 105, 118]⟩) (f := nDiv) (r := (d, true)) (by rw [ByteArray.toList_mk]; rfl) (by decide) Ha.out Hb.out (Hd.out) _).mono ?_
  rintro e w3 ⟨rfl, hb3, _⟩
  have g3 : Gr w w3 := g2.trans hb3
  clear hb3
  go_wp2_with fail
  refine (op_calls (s := ⟨#[109, 111, 100]⟩) (f := nMod) (r := (m, true)) (by rw [ByteArray.toList_mk]; rfl) (by decide) Ha.out Hb.out (Hm.out) _).mono ?_
  rintro e w4 ⟨rfl, hb4, _⟩
  have g4 : Gr w w4 := g3.trans hb4
  clear hb4
  have h00 : (b == 0) = false := beq_eq_false_iff_ne.2 H0.out
  have e1 : (wrap64 (wrap64 (q * b) + r) != a) = false := by rw [wrap64_mul_add q b r a Ha.out HD.out.e1]; simp
  have e2 : (wrap64 (wrap64 (d * b) + m) != a) = false := by rw [wrap64_mul_add d b m a Ha.out HD.out.e2]; simp
  have hqd := HD.out.qd
  obtain ⟨b1, b2⟩ := Hb.out
  have hr := K1.out
  have hb := K2.out
  obtain ⟨m1, m2⟩ := HD.out.mp hb
  obtain ⟨r1, r2⟩ := HD.out.rp hb
  have hmne : m ≠ 0 := fun e => by have := HD.out.zero.1 e; omega
  have hm0 : (m == 0) = false := beq_eq_false_iff_ne.2 hmne
  have hr0 : (r == 0) = false := beq_eq_false_iff_ne.2 (by omega)
  have ha0 : a < 0 := by by_cases h : a < 0; exact h; have := HD.out.ra (by omega); omega
  have hm1 : 0 < m := by omega
  clear hmne
  go_wp2_with fail
  refine (op_calls (s := ⟨#[103, 99, 100]⟩) (f := nGcd) (r := (g, true)) (by rw [ByteArray.toList_mk]; rfl) (by decide) Ha.out Hb.out Hg.out _).mono ?_
  rintro e w5 ⟨rfl, hb5, _⟩
  have g5 : Gr w w5 := g4.trans hb5
  have x1 : (a.tmod g != 0) = false := by rw [HG.out.ga]; rfl
  have x2 : (b.tmod g != 0) = false := by rw [HG.out.gb]; rfl
  have x3 := HG.out.g1
  have x5 : (b % g != 0) = false := by rw [← Int.tmod_eq_emod_of_nonneg (by omega), HG.out.gb]; rfl
  clear hb5
  go_wp2_with fail
  all_goals
    go_ret
    refine ret_bool ?_ g5
    first
    | rfl
    | (have k0 : ¬ c = 0 := by assumption
       have ka : a.tmod c = 0 := by first | assumption | (rw [Int.tmod_eq_emod_of_nonneg (by omega)]; assumption)
       have kb : b.tmod c = 0 := by first | assumption | (rw [Int.tmod_eq_emod_of_nonneg (by omega)]; assumption)
       have kg := HG.out.gc c k0 ka kb
       rw [Int.tmod_eq_emod_of_nonneg (by omega)] at kg
       rw [kg]
       simp)

set_option maxHeartbeats 2000000 in
set_option maxRecDepth 100000 in
theorem divides_pos_z (a b c q r d m g : Int) (w : World) (ha : In64 a) (hb : In64 b) (k1 : r = 0) (k2 : 0 < b)
    (hq : opR (nQuo a b) = (q, true)) (hr : opR (nRem a b) = (r, true)) (hd : opR (nDiv a b) = (d, true)) (hm : opR (nMod a b) = (m, true)) (hg : opR (nGcd a b) = (g, true)) (D : Divides a b q r d m) (G : Gcd a b g) :
    Calls Try.prog 5 #[.int .i64 a, .int .i64 b, .int .i64 c] w (Ret (.bool true) w) := by
  have Ha := Lib.hid ha
  have Hb := Lib.hid hb
  have Hq := Lib.hid hq
  have Hr := Lib.hid hr
  have Hd := Lib.hid hd
  have Hm := Lib.hid hm
  have Hg := Lib.hid hg
  have HD := Lib.hid D
  have HG := Lib.hid G
  have K1 := Lib.hid k1
  have K2 := Lib.hid k2
  have H0 : Hid (b ≠ 0) := by show b ≠ 0; omega
  clear ha hb hq hr hd hm hg D G k1 k2
  go_enter Try.func5, Try.ntmps5
  go_wp2_with fail
  refine (op_calls (s := ⟨#[47, 47]⟩) (f := nQuo) (r := (q, true)) (by rw [ByteArray.toList_mk]; rfl) (by decide) Ha.out Hb.out (Hq.out) _).mono ?_
  rintro e w1 ⟨rfl, hb1, _⟩
  have g1 : Gr w w1 := hb1
  clear hb1
  go_wp2_with fail
  refine (op_calls (s := ⟨#[114, 101, 109]⟩) (f := nRem) (r := (r, true)) (by rw [ByteArray.toList_mk]; rfl) (by decide) Ha.out Hb.out (Hr.out) _).mono ?_
  rintro e w2 ⟨rfl, hb2, _⟩
  have g2 : Gr w w2 := g1.trans hb2
  clear hb2
  go_wp2_with fail
  refine (op_calls (s := ⟨#[100, 105, 118]⟩) (f := nDiv) (r := (d, true)) (by rw [ByteArray.toList_mk]; rfl) (by decide) Ha.out Hb.out (Hd.out) _).mono ?_
  rintro e w3 ⟨rfl, hb3, _⟩
  have g3 : Gr w w3 := g2.trans hb3
  clear hb3
  go_wp2_with fail
  refine (op_calls (s := ⟨#[109, 111, 100]⟩) (f := nMod) (r := (m, true)) (by rw [ByteArray.toList_mk]; rfl) (by decide) Ha.out Hb.out (Hm.out) _).mono ?_
  rintro e w4 ⟨rfl, hb4, _⟩
  have g4 : Gr w w4 := g3.trans hb4
  clear hb4
  have h00 : (b == 0) = false := beq_eq_false_iff_ne.2 H0.out
  have e1 : (wrap64 (wrap64 (q * b) + r) != a) = false := by rw [wrap64_mul_add q b r a Ha.out HD.out.e1]; simp
  have e2 : (wrap64 (wrap64 (d * b) + m) != a) = false := by rw [wrap64_mul_add d b m a Ha.out HD.out.e2]; simp
  have hqd := HD.out.qd
  obtain ⟨b1, b2⟩ := Hb.out
  have hr := K1.out
  have hb := K2.out
  obtain ⟨m1, m2⟩ := HD.out.mp hb
  obtain ⟨r1, r2⟩ := HD.out.rp hb
  have hme : m = 0 := HD.out.zero.2 hr
  have hm0 : (m == 0) = true := beq_iff_eq.2 hme
  have hr0 : (r == 0) = true := beq_iff_eq.2 hr
  have h1 : r ≤ 0 := by omega
  have h2 : 0 ≤ r := by omega
  have h3 : m ≤ 0 := by omega
  have h4 : 0 ≤ m := by omega
  clear hr hme
  go_wp2_with fail
  refine (op_calls (s := ⟨#[103, 99, 100]⟩) (f := nGcd) (r := (g, true)) (by rw [ByteArray.toList_mk]; rfl) (by decide) Ha.out Hb.out Hg.out _).mono ?_
  rintro e w5 ⟨rfl, hb5, _⟩
  have g5 : Gr w w5 := g4.trans hb5
  have x1 : (a.tmod g != 0) = false := by rw [HG.out.ga]; rfl
  have x2 : (b.tmod g != 0) = false := by rw [HG.out.gb]; rfl
  have x3 := HG.out.g1
  have x5 : (b % g != 0) = false := by rw [← Int.tmod_eq_emod_of_nonneg (by omega), HG.out.gb]; rfl
  clear hb5
  go_wp2_with fail
  all_goals
    go_ret
    refine ret_bool ?_ g5
    first
    | rfl
    | (have k0 : ¬ c = 0 := by assumption
       have ka : a.tmod c = 0 := by first | assumption | (rw [Int.tmod_eq_emod_of_nonneg (by omega)]; assumption)
       have kb : b.tmod c = 0 := by first | assumption | (rw [Int.tmod_eq_emod_of_nonneg (by omega)]; assumption)
       have kg := HG.out.gc c k0 ka kb
       rw [Int.tmod_eq_emod_of_nonneg (by omega)] at kg
       rw [kg]
       simp)

set_option maxHeartbeats 2000000 in
set_option maxRecDepth 100000 in
theorem divides_pos_p (a b c q r d m g : Int) (w : World) (ha : In64 a) (hb : In64 b) (k1 : 0 < r) (k2 : 0 < b)
    (hq : opR (nQuo a b) = (q, true)) (hr : opR (nRem a b) = (r, true)) (hd : opR (nDiv a b) = (d, true)) (hm : opR (nMod a b) = (m, true)) (hg : opR (nGcd a b) = (g, true)) (D : Divides a b q r d m) (G : Gcd a b g) :
    Calls Try.prog 5 #[.int .i64 a, .int .i64 b, .int .i64 c] w (Ret (.bool true) w) := by
  have Ha := Lib.hid ha
  have Hb := Lib.hid hb
  have Hq := Lib.hid hq
  have Hr := Lib.hid hr
  have Hd := Lib.hid hd
  have Hm := Lib.hid hm
  have Hg := Lib.hid hg
  have HD := Lib.hid D
  have HG := Lib.hid G
  have K1 := Lib.hid k1
  have K2 := Lib.hid k2
  have H0 : Hid (b ≠ 0) := by show b ≠ 0; omega
  clear ha hb hq hr hd hm hg D G k1 k2
  go_enter Try.func5, Try.ntmps5
  go_wp2_with fail
  refine (op_calls (s := ⟨#[47, 47]⟩) (f := nQuo) (r := (q, true)) (by rw [ByteArray.toList_mk]; rfl) (by decide) Ha.out Hb.out (Hq.out) _).mono ?_
  rintro e w1 ⟨rfl, hb1, _⟩
  have g1 : Gr w w1 := hb1
  clear hb1
  go_wp2_with fail
  refine (op_calls (s := ⟨#[114, 101, 109]⟩) (f := nRem) (r := (r, true)) (by rw [ByteArray.toList_mk]; rfl) (by decide) Ha.out Hb.out (Hr.out) _).mono ?_
  rintro e w2 ⟨rfl, hb2, _⟩
  have g2 : Gr w w2 := g1.trans hb2
  clear hb2
  go_wp2_with fail
  refine (op_calls (s := ⟨#[100, 105, 118]⟩) (f := nDiv) (r := (d, true)) (by rw [ByteArray.toList_mk]; rfl) (by decide) Ha.out Hb.out (Hd.out) _).mono ?_
  rintro e w3 ⟨rfl, hb3, _⟩
  have g3 : Gr w w3 := g2.trans hb3
  clear hb3
  go_wp2_with fail
  refine (op_calls (s := ⟨#[109, 111, 100]⟩) (f := nMod) (r := (m, true)) (by rw [ByteArray.toList_mk]; rfl) (by decide) Ha.out Hb.out (Hm.out) _).mono ?_
  rintro e w4 ⟨rfl, hb4, _⟩
  have g4 : Gr w w4 := g3.trans hb4
  clear hb4
  have h00 : (b == 0) = false := beq_eq_false_iff_ne.2 H0.out
  have e1 : (wrap64 (wrap64 (q * b) + r) != a) = false := by rw [wrap64_mul_add q b r a Ha.out HD.out.e1]; simp
  have e2 : (wrap64 (wrap64 (d * b) + m) != a) = false := by rw [wrap64_mul_add d b m a Ha.out HD.out.e2]; simp
  have hqd := HD.out.qd
  obtain ⟨b1, b2⟩ := Hb.out
  have hr := K1.out
  have hb := K2.out
  obtain ⟨m1, m2⟩ := HD.out.mp hb
  obtain ⟨r1, r2⟩ := HD.out.rp hb
  have hmne : m ≠ 0 := fun e => by have := HD.out.zero.1 e; omega
  have hm0 : (m == 0) = false := beq_eq_false_iff_ne.2 hmne
  have hr0 : (r == 0) = false := beq_eq_false_iff_ne.2 (by omega)
  have ha0 : 0 < a := by by_cases h : 0 < a; exact h; have := HD.out.rb (by omega); omega
  have hm1 : 0 < m := by omega
  clear hmne
  go_wp2_with fail
  refine (op_calls (s := ⟨#[103, 99, 100]⟩) (f := nGcd) (r := (g, true)) (by rw [ByteArray.toList_mk]; rfl) (by decide) Ha.out Hb.out Hg.out _).mono ?_
  rintro e w5 ⟨rfl, hb5, _⟩
  have g5 : Gr w w5 := g4.trans hb5
  have x1 : (a.tmod g != 0) = false := by rw [HG.out.ga]; rfl
  have x2 : (b.tmod g != 0) = false := by rw [HG.out.gb]; rfl
  have x3 := HG.out.g1
  have x4 : (a % g != 0) = false := by rw [← Int.tmod_eq_emod_of_nonneg (by omega), HG.out.ga]; rfl
  have x5 : (b % g != 0) = false := by rw [← Int.tmod_eq_emod_of_nonneg (by omega), HG.out.gb]; rfl
  clear hb5
  go_wp2_with fail
  all_goals
    go_ret
    refine ret_bool ?_ g5
    first
    | rfl
    | (have k0 : ¬ c = 0 := by assumption
       have ka : a.tmod c = 0 := by first | assumption | (rw [Int.tmod_eq_emod_of_nonneg (by omega)]; assumption)
       have kb : b.tmod c = 0 := by first | assumption | (rw [Int.tmod_eq_emod_of_nonneg (by omega)]; assumption)
       have kg := HG.out.gc c k0 ka kb
       rw [Int.tmod_eq_emod_of_nonneg (by omega)] at kg
       rw [kg]
       simp)
end Go.Proofs.Ytgaijgadeodoeaa
