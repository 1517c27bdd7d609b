/-
  hornref.parted
-/
import Derived.Test.YtgaijgadeodoeaaB0
import Derived.Test.YtgaijgadeodoeaaAE
namespace Go.Proofs.Ytgaijgadeodoeaa
open Go.RowKit

set_option maxHeartbeats 1000000 in
theorem parted_quo (s : ByteArray) (a b : Int) (w : World) (hs : s.toList = [47, 47]) (ha : In64 a) (hb : In64 b) : Calls Try.prog 105 #[.string s, .int .i64 a, .int .i64 b] w (NumP (nQuo a b) w) := by
  by_cases h0 : b = 0
  · subst h0
    have Hr : Hid (nQuo a 0 = .bad sZero) := if_pos rfl
    clear ha hb
    go_enter Try.func105, Try.ntmps105
    go_wp2_with fail
    go_ret2
    exact nump_bad Hr.out zeroL (by decide) (by decide) (Gr.rfl' _)
  by_cases h1 : b = -1
  · subst h1
    have Hr : Hid (nQuo a (-1) = ov (-a)) := by show _ = _; rw [nQuo, if_neg (by decide), Int.tdiv_neg, Int.tdiv_one]
    by_cases h2 : a = -9223372036854775808
    · subst h2
      clear ha hb h0
      go_enter Try.func105, Try.ntmps105
      go_wp2_with fail
      go_ret2
      exact nump_bad (Hr.out.trans (ov_bad (.inr (by decide)))) overflowL (by decide) (by decide) (Gr.rfl' _)
    · have h2' : (a == -9223372036854775808) = false := beq_eq_false_iff_ne.2 h2
      obtain ⟨a1, a2⟩ := ha
      have a3 : -9223372036854775807 ≤ a := by omega
      clear hb h0 h2
      go_enter Try.func105, Try.ntmps105
      go_wp2_with fail
      go_ret2
      exact nump_ok (Hr.out.trans (ov_ok (by omega) (by omega))) rfl (Gr.rfl' _) ⟨by omega, by omega⟩
  have h1' : (b == -1) = false := beq_eq_false_iff_ne.2 h1
  have h0' : (b == 0) = false := beq_eq_false_iff_ne.2 h0
  have ho := tdiv_in ha h0 (fun h => h1 h.2)
  have HD := Lib.hid (divides_of ha hb h0 ho)
  have Hr : Hid (nQuo a b = .ok (a.tdiv b)) := by
    show _ = _
    rw [nQuo, if_neg h0]
    exact ov_ok HD.out.q1.1 HD.out.q1.2
  have HO := Lib.hid ho
  clear ha hb ho h1
  go_enter Try.func105, Try.ntmps105
  go_wp2_with fail
  go_quiet (fail)
  go_wp2_with fail
  all_goals
    go_ret2
    exact nump_ok Hr.out (by have h1 := HO.out.1; have h2 := HO.out.2; simp only [IntKind.wrap_i64]; omega) (Gr.drewN (Gr.rfl' _) _) HD.out.q1

set_option maxHeartbeats 1000000 in
theorem parted_rem (s : ByteArray) (a b : Int) (w : World) (hs : s.toList = [114, 101, 109]) (ha : In64 a) (hb : In64 b) : Calls Try.prog 105 #[.string s, .int .i64 a, .int .i64 b] w (NumP (nRem a b) w) := by
  by_cases h0 : b = 0
  · subst h0
    have Hr : Hid (nRem a 0 = .bad sZero) := if_pos rfl
    clear ha hb
    go_enter Try.func105, Try.ntmps105
    go_wp2_with fail
    go_ret2
    exact nump_bad Hr.out zeroL (by decide) (by decide) (Gr.rfl' _)
  by_cases h1 : b = -1
  · subst h1
    have Hr : Hid (nRem a (-1) = .ok 0) := by show _ = _; rw [nRem, if_neg (by decide)]; simp [Int.tmod_neg]
    clear ha hb h0
    go_enter Try.func105, Try.ntmps105
    go_wp2_with fail
    go_ret2
    exact nump_ok Hr.out rfl (Gr.rfl' _) ⟨by decide, by decide⟩
  have h1' : (b == -1) = false := beq_eq_false_iff_ne.2 h1
  have h0' : (b == 0) = false := beq_eq_false_iff_ne.2 h0
  have ho := tdiv_in ha h0 (fun h => h1 h.2)
  have HD := Lib.hid (divides_of ha hb h0 ho)
  have Hr : Hid (nRem a b = .ok (a.tmod b)) := by
    show _ = _
    rw [nRem, if_neg h0]
  have HO := Lib.hid ho
  clear ha hb ho h1
  go_enter Try.func105, Try.ntmps105
  go_wp2_with fail
  go_quiet (fail)
  go_wp2_with fail
  all_goals
    go_ret2
    exact nump_ok Hr.out rfl (Gr.drewN (Gr.rfl' _) _) HD.out.r1

set_option maxHeartbeats 1000000 in
theorem parted_div (s : ByteArray) (a b : Int) (w : World) (hs : s.toList = [100, 105, 118]) (ha : In64 a) (hb : In64 b) : Calls Try.prog 105 #[.string s, .int .i64 a, .int .i64 b] w (NumP (nDiv a b) w) := by
  by_cases h0 : b = 0
  · subst h0
    have Hr : Hid (nDiv a 0 = .bad sZero) := if_pos rfl
    clear ha hb
    go_enter Try.func105, Try.ntmps105
    go_wp2_with fail
    go_ret2
    exact nump_bad Hr.out zeroL (by decide) (by decide) (Gr.rfl' _)
  by_cases h1 : b = -1
  · subst h1
    have Hr : Hid (nDiv a (-1) = ov (-a)) := by show _ = _; rw [nDiv, if_neg (by decide), ((fdiv_adj (a := a) (b := -1) (by decide)).2 (by simp [Int.tmod_neg])).1, Int.tdiv_neg, Int.tdiv_one]
    by_cases h2 : a = -9223372036854775808
    · subst h2
      clear ha hb h0
      go_enter Try.func105, Try.ntmps105
      go_wp2_with fail
      go_ret2
      exact nump_bad (Hr.out.trans (ov_bad (.inr (by decide)))) overflowL (by decide) (by decide) (Gr.rfl' _)
    · have h2' : (a == -9223372036854775808) = false := beq_eq_false_iff_ne.2 h2
      obtain ⟨a1, a2⟩ := ha
      have a3 : -9223372036854775807 ≤ a := by omega
      clear hb h0 h2
      go_enter Try.func105, Try.ntmps105
      go_wp2_with fail
      go_ret2
      exact nump_ok (Hr.out.trans (ov_ok (by omega) (by omega))) rfl (Gr.rfl' _) ⟨by omega, by omega⟩
  have h1' : (b == -1) = false := beq_eq_false_iff_ne.2 h1
  have h0' : (b == 0) = false := beq_eq_false_iff_ne.2 h0
  have ho := tdiv_in ha h0 (fun h => h1 h.2)
  have HD := Lib.hid (divides_of ha hb h0 ho)
  have Hr : Hid (nDiv a b = .ok (a.fdiv b)) := by
    show _ = _
    rw [nDiv, if_neg h0]
    exact ov_ok HD.out.d1.1 HD.out.d1.2
  have HO := Lib.hid ho
  have hadj := fdiv_adj (a := a) h0
  clear ha hb ho h1
  rcases Int.lt_or_lt_of_ne h0 with hb | hb <;> rcases Int.lt_trichotomy (a.tmod b) 0 with hr | hr | hr
  · have c1 : (a.tmod b != 0) = true := by simp; omega
    have E := Lib.hid (hadj.2 (fun e => e.2 (propext ⟨fun _ => by omega, fun _ => by omega⟩)))
    have hrb : (!(decide (a.tmod b < 0) == decide (b < 0))) = false := by rw [Bool.eq_false_iff]; exact fun e => prop_ne_bool.1 e (propext ⟨fun _ => by omega, fun _ => by omega⟩)
    clear hadj hr hb
    go_enter Try.func105, Try.ntmps105
    go_wp2_with fail
    go_quiet (fail)
    go_wp2_with fail
    all_goals
      go_ret2
      refine nump_ok Hr.out ?_ (Gr.drewN (Gr.rfl' _) _) HD.out.d1
      have h1 := HD.out.d1.1
      have h2 := HD.out.d1.2
      have h3 := HO.out.1
      have h4 := HO.out.2
      have h5 := E.out
      have h6 := HD.out.r1.1
      have h7 := HD.out.r1.2
      first | exact h5.1.symm | exact h5.2.symm | (simp only [IntKind.wrap_i64, wrap64]; omega) | (simp only [IntKind.wrap_i64]; omega) | (simp only [wrap64]; omega)
  · have c1 : (a.tmod b != 0) = false := by simp; omega
    have E := Lib.hid (hadj.2 (fun e => e.1 hr))
    clear hadj hr hb
    go_enter Try.func105, Try.ntmps105
    go_wp2_with fail
    go_quiet (fail)
    go_wp2_with fail
    all_goals
      go_ret2
      refine nump_ok Hr.out ?_ (Gr.drewN (Gr.rfl' _) _) HD.out.d1
      have h1 := HD.out.d1.1
      have h2 := HD.out.d1.2
      have h3 := HO.out.1
      have h4 := HO.out.2
      have h5 := E.out
      have h6 := HD.out.r1.1
      have h7 := HD.out.r1.2
      first | exact h5.1.symm | exact h5.2.symm | (simp only [IntKind.wrap_i64, wrap64]; omega) | (simp only [IntKind.wrap_i64]; omega) | (simp only [wrap64]; omega)
  · have c1 : (a.tmod b != 0) = true := by simp; omega
    have E := Lib.hid (hadj.1 ⟨by omega, fun e => by have := propext_iff.1 e; omega⟩)
    have hrb : (!(decide (a.tmod b < 0) == decide (b < 0))) = true := prop_ne_bool.2 (fun e => by have := propext_iff.1 e; omega)
    clear hadj hr hb
    go_enter Try.func105, Try.ntmps105
    go_wp2_with fail
    go_quiet (fail)
    go_wp2_with fail
    all_goals
      go_ret2
      refine nump_ok Hr.out ?_ (Gr.drewN (Gr.rfl' _) _) HD.out.d1
      have h1 := HD.out.d1.1
      have h2 := HD.out.d1.2
      have h3 := HO.out.1
      have h4 := HO.out.2
      have h5 := E.out
      have h6 := HD.out.r1.1
      have h7 := HD.out.r1.2
      first | exact h5.1.symm | exact h5.2.symm | (simp only [IntKind.wrap_i64, wrap64]; omega) | (simp only [IntKind.wrap_i64]; omega) | (simp only [wrap64]; omega)
  · have c1 : (a.tmod b != 0) = true := by simp; omega
    have E := Lib.hid (hadj.1 ⟨by omega, fun e => by have := propext_iff.1 e; omega⟩)
    have hrb : (!(decide (a.tmod b < 0) == decide (b < 0))) = true := prop_ne_bool.2 (fun e => by have := propext_iff.1 e; omega)
    clear hadj hr hb
    go_enter Try.func105, Try.ntmps105
    go_wp2_with fail
    go_quiet (fail)
    go_wp2_with fail
    all_goals
      go_ret2
      refine nump_ok Hr.out ?_ (Gr.drewN (Gr.rfl' _) _) HD.out.d1
      have h1 := HD.out.d1.1
      have h2 := HD.out.d1.2
      have h3 := HO.out.1
      have h4 := HO.out.2
      have h5 := E.out
      have h6 := HD.out.r1.1
      have h7 := HD.out.r1.2
      first | exact h5.1.symm | exact h5.2.symm | (simp only [IntKind.wrap_i64, wrap64]; omega) | (simp only [IntKind.wrap_i64]; omega) | (simp only [wrap64]; omega)
  · have c1 : (a.tmod b != 0) = false := by simp; omega
    have E := Lib.hid (hadj.2 (fun e => e.1 hr))
    clear hadj hr hb
    go_enter Try.func105, Try.ntmps105
    go_wp2_with fail
    go_quiet (fail)
    go_wp2_with fail
    all_goals
      go_ret2
      refine nump_ok Hr.out ?_ (Gr.drewN (Gr.rfl' _) _) HD.out.d1
      have h1 := HD.out.d1.1
      have h2 := HD.out.d1.2
      have h3 := HO.out.1
      have h4 := HO.out.2
      have h5 := E.out
      have h6 := HD.out.r1.1
      have h7 := HD.out.r1.2
      first | exact h5.1.symm | exact h5.2.symm | (simp only [IntKind.wrap_i64, wrap64]; omega) | (simp only [IntKind.wrap_i64]; omega) | (simp only [wrap64]; omega)
  · have c1 : (a.tmod b != 0) = true := by simp; omega
    have E := Lib.hid (hadj.2 (fun e => e.2 (propext ⟨fun _ => by omega, fun _ => by omega⟩)))
    have hrb : (!(decide (a.tmod b < 0) == decide (b < 0))) = false := by rw [Bool.eq_false_iff]; exact fun e => prop_ne_bool.1 e (propext ⟨fun _ => by omega, fun _ => by omega⟩)
    clear hadj hr hb
    go_enter Try.func105, Try.ntmps105
    go_wp2_with fail
    go_quiet (fail)
    go_wp2_with fail
    all_goals
      go_ret2
      refine nump_ok Hr.out ?_ (Gr.drewN (Gr.rfl' _) _) HD.out.d1
      have h1 := HD.out.d1.1
      have h2 := HD.out.d1.2
      have h3 := HO.out.1
      have h4 := HO.out.2
      have h5 := E.out
      have h6 := HD.out.r1.1
      have h7 := HD.out.r1.2
      first | exact h5.1.symm | exact h5.2.symm | (simp only [IntKind.wrap_i64, wrap64]; omega) | (simp only [IntKind.wrap_i64]; omega) | (simp only [wrap64]; omega)

set_option maxHeartbeats 1000000 in
theorem parted_mod (s : ByteArray) (a b : Int) (w : World) (hs : s.toList = [109, 111, 100]) (ha : In64 a) (hb : In64 b) : Calls Try.prog 105 #[.string s, .int .i64 a, .int .i64 b] w (NumP (nMod a b) w) := by
  by_cases h0 : b = 0
  · subst h0
    have Hr : Hid (nMod a 0 = .bad sZero) := if_pos rfl
    clear ha hb
    go_enter Try.func105, Try.ntmps105
    go_wp2_with fail
    go_ret2
    exact nump_bad Hr.out zeroL (by decide) (by decide) (Gr.rfl' _)
  by_cases h1 : b = -1
  · subst h1
    have Hr : Hid (nMod a (-1) = .ok 0) := by show _ = _; rw [nMod, if_neg (by decide)]; have h8 := (fdiv_adj (a := a) (b := -1) (by decide)).2 (by simp [Int.tmod_neg]); rw [h8.2]; simp [Int.tmod_neg]
    clear ha hb h0
    go_enter Try.func105, Try.ntmps105
    go_wp2_with fail
    go_ret2
    exact nump_ok Hr.out rfl (Gr.rfl' _) ⟨by decide, by decide⟩
  have h1' : (b == -1) = false := beq_eq_false_iff_ne.2 h1
  have h0' : (b == 0) = false := beq_eq_false_iff_ne.2 h0
  have ho := tdiv_in ha h0 (fun h => h1 h.2)
  have HD := Lib.hid (divides_of ha hb h0 ho)
  have Hr : Hid (nMod a b = .ok (a.fmod b)) := by
    show _ = _
    rw [nMod, if_neg h0]
  have HO := Lib.hid ho
  have hadj := fdiv_adj (a := a) h0
  clear ha hb ho h1
  rcases Int.lt_or_lt_of_ne h0 with hb | hb <;> rcases Int.lt_trichotomy (a.tmod b) 0 with hr | hr | hr
  · have c1 : (a.tmod b != 0) = true := by simp; omega
    have E := Lib.hid (hadj.2 (fun e => e.2 (propext ⟨fun _ => by omega, fun _ => by omega⟩)))
    have hrb : (!(decide (a.tmod b < 0) == decide (b < 0))) = false := by rw [Bool.eq_false_iff]; exact fun e => prop_ne_bool.1 e (propext ⟨fun _ => by omega, fun _ => by omega⟩)
    clear hadj hr hb
    go_enter Try.func105, Try.ntmps105
    go_wp2_with fail
    go_quiet (fail)
    go_wp2_with fail
    all_goals
      go_ret2
      refine nump_ok Hr.out ?_ (Gr.drewN (Gr.rfl' _) _) HD.out.m1
      have h1 := HD.out.m1.1
      have h2 := HD.out.m1.2
      have h3 := HO.out.1
      have h4 := HO.out.2
      have h5 := E.out
      have h6 := HD.out.r1.1
      have h7 := HD.out.r1.2
      first | exact h5.1.symm | exact h5.2.symm | (simp only [IntKind.wrap_i64, wrap64]; omega) | (simp only [IntKind.wrap_i64]; omega) | (simp only [wrap64]; omega)
  · have c1 : (a.tmod b != 0) = false := by simp; omega
    have E := Lib.hid (hadj.2 (fun e => e.1 hr))
    clear hadj hr hb
    go_enter Try.func105, Try.ntmps105
    go_wp2_with fail
    go_quiet (fail)
    go_wp2_with fail
    all_goals
      go_ret2
      refine nump_ok Hr.out ?_ (Gr.drewN (Gr.rfl' _) _) HD.out.m1
      have h1 := HD.out.m1.1
      have h2 := HD.out.m1.2
      have h3 := HO.out.1
      have h4 := HO.out.2
      have h5 := E.out
      have h6 := HD.out.r1.1
      have h7 := HD.out.r1.2
      first | exact h5.1.symm | exact h5.2.symm | (simp only [IntKind.wrap_i64, wrap64]; omega) | (simp only [IntKind.wrap_i64]; omega) | (simp only [wrap64]; omega)
  · have c1 : (a.tmod b != 0) = true := by simp; omega
    have E := Lib.hid (hadj.1 ⟨by omega, fun e => by have := propext_iff.1 e; omega⟩)
    have hrb : (!(decide (a.tmod b < 0) == decide (b < 0))) = true := prop_ne_bool.2 (fun e => by have := propext_iff.1 e; omega)
    clear hadj hr hb
    go_enter Try.func105, Try.ntmps105
    go_wp2_with fail
    go_quiet (fail)
    go_wp2_with fail
    all_goals
      go_ret2
      refine nump_ok Hr.out ?_ (Gr.drewN (Gr.rfl' _) _) HD.out.m1
      have h1 := HD.out.m1.1
      have h2 := HD.out.m1.2
      have h3 := HO.out.1
      have h4 := HO.out.2
      have h5 := E.out
      have h6 := HD.out.r1.1
      have h7 := HD.out.r1.2
      first | exact h5.1.symm | exact h5.2.symm | (simp only [IntKind.wrap_i64, wrap64]; omega) | (simp only [IntKind.wrap_i64]; omega) | (simp only [wrap64]; omega)
  · have c1 : (a.tmod b != 0) = true := by simp; omega
    have E := Lib.hid (hadj.1 ⟨by omega, fun e => by have := propext_iff.1 e; omega⟩)
    have hrb : (!(decide (a.tmod b < 0) == decide (b < 0))) = true := prop_ne_bool.2 (fun e => by have := propext_iff.1 e; omega)
    clear hadj hr hb
    go_enter Try.func105, Try.ntmps105
    go_wp2_with fail
    go_quiet (fail)
    go_wp2_with fail
    all_goals
      go_ret2
      refine nump_ok Hr.out ?_ (Gr.drewN (Gr.rfl' _) _) HD.out.m1
      have h1 := HD.out.m1.1
      have h2 := HD.out.m1.2
      have h3 := HO.out.1
      have h4 := HO.out.2
      have h5 := E.out
      have h6 := HD.out.r1.1
      have h7 := HD.out.r1.2
      first | exact h5.1.symm | exact h5.2.symm | (simp only [IntKind.wrap_i64, wrap64]; omega) | (simp only [IntKind.wrap_i64]; omega) | (simp only [wrap64]; omega)
  · have c1 : (a.tmod b != 0) = false := by simp; omega
    have E := Lib.hid (hadj.2 (fun e => e.1 hr))
    clear hadj hr hb
    go_enter Try.func105, Try.ntmps105
    go_wp2_with fail
    go_quiet (fail)
    go_wp2_with fail
    all_goals
      go_ret2
      refine nump_ok Hr.out ?_ (Gr.drewN (Gr.rfl' _) _) HD.out.m1
      have h1 := HD.out.m1.1
      have h2 := HD.out.m1.2
      have h3 := HO.out.1
      have h4 := HO.out.2
      have h5 := E.out
      have h6 := HD.out.r1.1
      have h7 := HD.out.r1.2
      first | exact h5.1.symm | exact h5.2.symm | (simp only [IntKind.wrap_i64, wrap64]; omega) | (simp only [IntKind.wrap_i64]; omega) | (simp only [wrap64]; omega)
  · have c1 : (a.tmod b != 0) = true := by simp; omega
    have E := Lib.hid (hadj.2 (fun e => e.2 (propext ⟨fun _ => by omega, fun _ => by omega⟩)))
    have hrb : (!(decide (a.tmod b < 0) == decide (b < 0))) = false := by rw [Bool.eq_false_iff]; exact fun e => prop_ne_bool.1 e (propext ⟨fun _ => by omega, fun _ => by omega⟩)
    clear hadj hr hb
    go_enter Try.func105, Try.ntmps105
    go_wp2_with fail
    go_quiet (fail)
    go_wp2_with fail
    all_goals
      go_ret2
      refine nump_ok Hr.out ?_ (Gr.drewN (Gr.rfl' _) _) HD.out.m1
      have h1 := HD.out.m1.1
      have h2 := HD.out.m1.2
      have h3 := HO.out.1
      have h4 := HO.out.2
      have h5 := E.out
      have h6 := HD.out.r1.1
      have h7 := HD.out.r1.2
      first | exact h5.1.symm | exact h5.2.symm | (simp only [IntKind.wrap_i64, wrap64]; omega) | (simp only [IntKind.wrap_i64]; omega) | (simp only [wrap64]; omega)

end Go.Proofs.Ytgaijgadeodoeaa
