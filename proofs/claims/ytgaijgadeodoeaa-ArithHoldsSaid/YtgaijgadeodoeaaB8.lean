/-
  hornref.evaluable, hornref.A
-/
import Derived.Test.YtgaijgadeodoeaaB7
import Derived.Test.YtgaijgadeodoeaaAD
namespace Go.Proofs.Ytgaijgadeodoeaa
open Go.RowKit

def evaluable (s : Str) (n : Nat) : Bool := if n = 1 then (prim1 s).isSome else if n = 2 then (prim2 s).isSome else false

set_option maxHeartbeats 400000 in
theorem rA_calls (s : ByteArray) (w : World) : Calls Try.prog 56 #[.string s] w (Ret (atomTm s).val w) := by
  go_enter Try.func56, Try.ntmps56
  go_wp2_with fail
  exact bodyPost_ret (v := .agg #[.int .i64 3, .int .i64 0, .string s, .slice none 0 0]) (by simp [results, Try.results56, go_sem]) rfl ⟨rfl, by go_grown⟩

set_option maxHeartbeats 4000000 in
set_option maxRecDepth 100000 in
theorem evaluable_1_0 (s : ByteArray) (w : World) (e : s.toList = [45]) : Calls Try.prog 57 #[.string s, .int .i64 1] w (Ret (.bool (prim1 s.toList).isSome) w) := by
  have hr : Hid ((prim1 s.toList).isSome = true) := by show _ = _; rw [e]; rfl
  go_enter Try.func57, Try.ntmps57
  simp only [List.append_eq, List.cons_append, List.nil_append]
  go_wp2_with fail
  go_ret
  exact ret_bool hr.out.symm (Gr.rfl' _)

set_option maxHeartbeats 4000000 in
set_option maxRecDepth 100000 in
theorem evaluable_1_1 (s : ByteArray) (w : World) (e : s.toList = [43]) : Calls Try.prog 57 #[.string s, .int .i64 1] w (Ret (.bool (prim1 s.toList).isSome) w) := by
  have hr : Hid ((prim1 s.toList).isSome = true) := by show _ = _; rw [e]; rfl
  go_enter Try.func57, Try.ntmps57
  simp only [List.append_eq, List.cons_append, List.nil_append]
  go_wp2_with fail
  go_ret
  exact ret_bool hr.out.symm (Gr.rfl' _)

set_option maxHeartbeats 4000000 in
set_option maxRecDepth 100000 in
theorem evaluable_1_2 (s : ByteArray) (w : World) (e : s.toList = [97, 98, 115]) : Calls Try.prog 57 #[.string s, .int .i64 1] w (Ret (.bool (prim1 s.toList).isSome) w) := by
  have hr : Hid ((prim1 s.toList).isSome = true) := by show _ = _; rw [e]; rfl
  go_enter Try.func57, Try.ntmps57
  simp only [List.append_eq, List.cons_append, List.nil_append]
  go_wp2_with fail
  go_ret
  exact ret_bool hr.out.symm (Gr.rfl' _)

set_option maxHeartbeats 4000000 in
set_option maxRecDepth 100000 in
theorem evaluable_1_3 (s : ByteArray) (w : World) (e : s.toList = [115, 105, 103, 110]) : Calls Try.prog 57 #[.string s, .int .i64 1] w (Ret (.bool (prim1 s.toList).isSome) w) := by
  have hr : Hid ((prim1 s.toList).isSome = true) := by show _ = _; rw [e]; rfl
  go_enter Try.func57, Try.ntmps57
  simp only [List.append_eq, List.cons_append, List.nil_append]
  go_wp2_with fail
  go_ret
  exact ret_bool hr.out.symm (Gr.rfl' _)

set_option maxHeartbeats 4000000 in
set_option maxRecDepth 100000 in
theorem evaluable_1_4 (s : ByteArray) (w : World) (e : s.toList = [92]) : Calls Try.prog 57 #[.string s, .int .i64 1] w (Ret (.bool (prim1 s.toList).isSome) w) := by
  have hr : Hid ((prim1 s.toList).isSome = true) := by show _ = _; rw [e]; rfl
  go_enter Try.func57, Try.ntmps57
  simp only [List.append_eq, List.cons_append, List.nil_append]
  go_wp2_with fail
  go_ret
  exact ret_bool hr.out.symm (Gr.rfl' _)

set_option maxHeartbeats 4000000 in
set_option maxRecDepth 100000 in
theorem evaluable_1_none (s : ByteArray) (w : World) (hn : prim1 s.toList = none) : Calls Try.prog 57 #[.string s, .int .i64 1] w (Ret (.bool (prim1 s.toList).isSome) w) := by
  have hr : Hid ((prim1 s.toList).isSome = false) := by show _ = _; rw [hn]; rfl
  have f0 : (s.toList == [45]) = false := beq_eq_false_iff_ne.2 fun e => by rw [e] at hn; cases hn
  have f1 : (s.toList == [43]) = false := beq_eq_false_iff_ne.2 fun e => by rw [e] at hn; cases hn
  have f2 : (s.toList == [97, 98, 115]) = false := beq_eq_false_iff_ne.2 fun e => by rw [e] at hn; cases hn
  have f3 : (s.toList == [115, 105, 103, 110]) = false := beq_eq_false_iff_ne.2 fun e => by rw [e] at hn; cases hn
  have f4 : (s.toList == [92]) = false := beq_eq_false_iff_ne.2 fun e => by rw [e] at hn; cases hn
  clear hn
  go_enter Try.func57, Try.ntmps57
  simp only [List.append_eq, List.cons_append, List.nil_append]
  go_wp2_with fail
  go_ret
  exact ret_bool hr.out.symm (Gr.rfl' _)

theorem evaluable_1 (s : ByteArray) (w : World) : Calls Try.prog 57 #[.string s, .int .i64 1] w (Ret (.bool (prim1 s.toList).isSome) w) := by
  by_cases e0 : s.toList = [45]
  · exact evaluable_1_0 s w e0
  by_cases e1 : s.toList = [43]
  · exact evaluable_1_1 s w e1
  by_cases e2 : s.toList = [97, 98, 115]
  · exact evaluable_1_2 s w e2
  by_cases e3 : s.toList = [115, 105, 103, 110]
  · exact evaluable_1_3 s w e3
  by_cases e4 : s.toList = [92]
  · exact evaluable_1_4 s w e4
  exact evaluable_1_none s w (by rw [prim1, if_neg e0, if_neg e1, if_neg e2, if_neg e3, if_neg e4])

set_option maxHeartbeats 4000000 in
set_option maxRecDepth 100000 in
theorem evaluable_2_0 (s : ByteArray) (w : World) (e : s.toList = [43]) : Calls Try.prog 57 #[.string s, .int .i64 2] w (Ret (.bool (prim2 s.toList).isSome) w) := by
  have hr : Hid ((prim2 s.toList).isSome = true) := by show _ = _; rw [e]; rfl
  go_enter Try.func57, Try.ntmps57
  simp only [List.append_eq, List.cons_append, List.nil_append]
  go_wp2_with fail
  go_ret
  exact ret_bool hr.out.symm (Gr.rfl' _)

set_option maxHeartbeats 4000000 in
set_option maxRecDepth 100000 in
theorem evaluable_2_1 (s : ByteArray) (w : World) (e : s.toList = [45]) : Calls Try.prog 57 #[.string s, .int .i64 2] w (Ret (.bool (prim2 s.toList).isSome) w) := by
  have hr : Hid ((prim2 s.toList).isSome = true) := by show _ = _; rw [e]; rfl
  go_enter Try.func57, Try.ntmps57
  simp only [List.append_eq, List.cons_append, List.nil_append]
  go_wp2_with fail
  go_ret
  exact ret_bool hr.out.symm (Gr.rfl' _)

set_option maxHeartbeats 4000000 in
set_option maxRecDepth 100000 in
theorem evaluable_2_2 (s : ByteArray) (w : World) (e : s.toList = [42]) : Calls Try.prog 57 #[.string s, .int .i64 2] w (Ret (.bool (prim2 s.toList).isSome) w) := by
  have hr : Hid ((prim2 s.toList).isSome = true) := by show _ = _; rw [e]; rfl
  go_enter Try.func57, Try.ntmps57
  simp only [List.append_eq, List.cons_append, List.nil_append]
  go_wp2_with fail
  go_ret
  exact ret_bool hr.out.symm (Gr.rfl' _)

set_option maxHeartbeats 4000000 in
set_option maxRecDepth 100000 in
theorem evaluable_2_3 (s : ByteArray) (w : World) (e : s.toList = [47, 47]) : Calls Try.prog 57 #[.string s, .int .i64 2] w (Ret (.bool (prim2 s.toList).isSome) w) := by
  have hr : Hid ((prim2 s.toList).isSome = true) := by show _ = _; rw [e]; rfl
  go_enter Try.func57, Try.ntmps57
  simp only [List.append_eq, List.cons_append, List.nil_append]
  go_wp2_with fail
  go_ret
  exact ret_bool hr.out.symm (Gr.rfl' _)

set_option maxHeartbeats 4000000 in
set_option maxRecDepth 100000 in
theorem evaluable_2_4 (s : ByteArray) (w : World) (e : s.toList = [114, 101, 109]) : Calls Try.prog 57 #[.string s, .int .i64 2] w (Ret (.bool (prim2 s.toList).isSome) w) := by
  have hr : Hid ((prim2 s.toList).isSome = true) := by show _ = _; rw [e]; rfl
  go_enter Try.func57, Try.ntmps57
  simp only [List.append_eq, List.cons_append, List.nil_append]
  go_wp2_with fail
  go_ret
  exact ret_bool hr.out.symm (Gr.rfl' _)

set_option maxHeartbeats 4000000 in
set_option maxRecDepth 100000 in
theorem evaluable_2_5 (s : ByteArray) (w : World) (e : s.toList = [100, 105, 118]) : Calls Try.prog 57 #[.string s, .int .i64 2] w (Ret (.bool (prim2 s.toList).isSome) w) := by
  have hr : Hid ((prim2 s.toList).isSome = true) := by show _ = _; rw [e]; rfl
  go_enter Try.func57, Try.ntmps57
  simp only [List.append_eq, List.cons_append, List.nil_append]
  go_wp2_with fail
  go_ret
  exact ret_bool hr.out.symm (Gr.rfl' _)

set_option maxHeartbeats 4000000 in
set_option maxRecDepth 100000 in
theorem evaluable_2_6 (s : ByteArray) (w : World) (e : s.toList = [109, 111, 100]) : Calls Try.prog 57 #[.string s, .int .i64 2] w (Ret (.bool (prim2 s.toList).isSome) w) := by
  have hr : Hid ((prim2 s.toList).isSome = true) := by show _ = _; rw [e]; rfl
  go_enter Try.func57, Try.ntmps57
  simp only [List.append_eq, List.cons_append, List.nil_append]
  go_wp2_with fail
  go_ret
  exact ret_bool hr.out.symm (Gr.rfl' _)

set_option maxHeartbeats 4000000 in
set_option maxRecDepth 100000 in
theorem evaluable_2_7 (s : ByteArray) (w : World) (e : s.toList = [109, 105, 110]) : Calls Try.prog 57 #[.string s, .int .i64 2] w (Ret (.bool (prim2 s.toList).isSome) w) := by
  have hr : Hid ((prim2 s.toList).isSome = true) := by show _ = _; rw [e]; rfl
  go_enter Try.func57, Try.ntmps57
  simp only [List.append_eq, List.cons_append, List.nil_append]
  go_wp2_with fail
  go_ret
  exact ret_bool hr.out.symm (Gr.rfl' _)

set_option maxHeartbeats 4000000 in
set_option maxRecDepth 100000 in
theorem evaluable_2_8 (s : ByteArray) (w : World) (e : s.toList = [109, 97, 120]) : Calls Try.prog 57 #[.string s, .int .i64 2] w (Ret (.bool (prim2 s.toList).isSome) w) := by
  have hr : Hid ((prim2 s.toList).isSome = true) := by show _ = _; rw [e]; rfl
  go_enter Try.func57, Try.ntmps57
  simp only [List.append_eq, List.cons_append, List.nil_append]
  go_wp2_with fail
  go_ret
  exact ret_bool hr.out.symm (Gr.rfl' _)

set_option maxHeartbeats 4000000 in
set_option maxRecDepth 100000 in
theorem evaluable_2_9 (s : ByteArray) (w : World) (e : s.toList = [103, 99, 100]) : Calls Try.prog 57 #[.string s, .int .i64 2] w (Ret (.bool (prim2 s.toList).isSome) w) := by
  have hr : Hid ((prim2 s.toList).isSome = true) := by show _ = _; rw [e]; rfl
  go_enter Try.func57, Try.ntmps57
  simp only [List.append_eq, List.cons_append, List.nil_append]
  go_wp2_with fail
  go_ret
  exact ret_bool hr.out.symm (Gr.rfl' _)

set_option maxHeartbeats 4000000 in
set_option maxRecDepth 100000 in
theorem evaluable_2_10 (s : ByteArray) (w : World) (e : s.toList = [42, 42]) : Calls Try.prog 57 #[.string s, .int .i64 2] w (Ret (.bool (prim2 s.toList).isSome) w) := by
  have hr : Hid ((prim2 s.toList).isSome = true) := by show _ = _; rw [e]; rfl
  go_enter Try.func57, Try.ntmps57
  simp only [List.append_eq, List.cons_append, List.nil_append]
  go_wp2_with fail
  go_ret
  exact ret_bool hr.out.symm (Gr.rfl' _)

set_option maxHeartbeats 4000000 in
set_option maxRecDepth 100000 in
theorem evaluable_2_11 (s : ByteArray) (w : World) (e : s.toList = [94]) : Calls Try.prog 57 #[.string s, .int .i64 2] w (Ret (.bool (prim2 s.toList).isSome) w) := by
  have hr : Hid ((prim2 s.toList).isSome = true) := by show _ = _; rw [e]; rfl
  go_enter Try.func57, Try.ntmps57
  simp only [List.append_eq, List.cons_append, List.nil_append]
  go_wp2_with fail
  go_ret
  exact ret_bool hr.out.symm (Gr.rfl' _)

set_option maxHeartbeats 4000000 in
set_option maxRecDepth 100000 in
theorem evaluable_2_12 (s : ByteArray) (w : World) (e : s.toList = [60, 60]) : Calls Try.prog 57 #[.string s, .int .i64 2] w (Ret (.bool (prim2 s.toList).isSome) w) := by
  have hr : Hid ((prim2 s.toList).isSome = true) := by show _ = _; rw [e]; rfl
  go_enter Try.func57, Try.ntmps57
  simp only [List.append_eq, List.cons_append, List.nil_append]
  go_wp2_with fail
  go_ret
  exact ret_bool hr.out.symm (Gr.rfl' _)

set_option maxHeartbeats 4000000 in
set_option maxRecDepth 100000 in
theorem evaluable_2_13 (s : ByteArray) (w : World) (e : s.toList = [62, 62]) : Calls Try.prog 57 #[.string s, .int .i64 2] w (Ret (.bool (prim2 s.toList).isSome) w) := by
  have hr : Hid ((prim2 s.toList).isSome = true) := by show _ = _; rw [e]; rfl
  go_enter Try.func57, Try.ntmps57
  simp only [List.append_eq, List.cons_append, List.nil_append]
  go_wp2_with fail
  go_ret
  exact ret_bool hr.out.symm (Gr.rfl' _)

set_option maxHeartbeats 4000000 in
set_option maxRecDepth 100000 in
theorem evaluable_2_14 (s : ByteArray) (w : World) (e : s.toList = [47, 92]) : Calls Try.prog 57 #[.string s, .int .i64 2] w (Ret (.bool (prim2 s.toList).isSome) w) := by
  have hr : Hid ((prim2 s.toList).isSome = true) := by show _ = _; rw [e]; rfl
  go_enter Try.func57, Try.ntmps57
  simp only [List.append_eq, List.cons_append, List.nil_append]
  go_wp2_with fail
  go_ret
  exact ret_bool hr.out.symm (Gr.rfl' _)

set_option maxHeartbeats 4000000 in
set_option maxRecDepth 100000 in
theorem evaluable_2_15 (s : ByteArray) (w : World) (e : s.toList = [92, 47]) : Calls Try.prog 57 #[.string s, .int .i64 2] w (Ret (.bool (prim2 s.toList).isSome) w) := by
  have hr : Hid ((prim2 s.toList).isSome = true) := by show _ = _; rw [e]; rfl
  go_enter Try.func57, Try.ntmps57
  simp only [List.append_eq, List.cons_append, List.nil_append]
  go_wp2_with fail
  go_ret
  exact ret_bool hr.out.symm (Gr.rfl' _)

set_option maxHeartbeats 4000000 in
set_option maxRecDepth 100000 in
theorem evaluable_2_16 (s : ByteArray) (w : World) (e : s.toList = [120, 111, 114]) : Calls Try.prog 57 #[.string s, .int .i64 2] w (Ret (.bool (prim2 s.toList).isSome) w) := by
  have hr : Hid ((prim2 s.toList).isSome = true) := by show _ = _; rw [e]; rfl
  go_enter Try.func57, Try.ntmps57
  simp only [List.append_eq, List.cons_append, List.nil_append]
  go_wp2_with fail
  go_ret
  exact ret_bool hr.out.symm (Gr.rfl' _)

set_option maxHeartbeats 4000000 in
set_option maxRecDepth 100000 in
theorem evaluable_2_none (s : ByteArray) (w : World) (hn : prim2 s.toList = none) : Calls Try.prog 57 #[.string s, .int .i64 2] w (Ret (.bool (prim2 s.toList).isSome) w) := by
  have hr : Hid ((prim2 s.toList).isSome = false) := by show _ = _; rw [hn]; rfl
  have f0 : (s.toList == [43]) = false := beq_eq_false_iff_ne.2 fun e => by rw [e] at hn; cases hn
  have f1 : (s.toList == [45]) = false := beq_eq_false_iff_ne.2 fun e => by rw [e] at hn; cases hn
  have f2 : (s.toList == [42]) = false := beq_eq_false_iff_ne.2 fun e => by rw [e] at hn; cases hn
  have f3 : (s.toList == [47, 47]) = false := beq_eq_false_iff_ne.2 fun e => by rw [e] at hn; cases hn
  have f4 : (s.toList == [114, 101, 109]) = false := beq_eq_false_iff_ne.2 fun e => by rw [e] at hn; cases hn
  have f5 : (s.toList == [100, 105, 118]) = false := beq_eq_false_iff_ne.2 fun e => by rw [e] at hn; cases hn
  have f6 : (s.toList == [109, 111, 100]) = false := beq_eq_false_iff_ne.2 fun e => by rw [e] at hn; cases hn
  have f7 : (s.toList == [109, 105, 110]) = false := beq_eq_false_iff_ne.2 fun e => by rw [e] at hn; cases hn
  have f8 : (s.toList == [109, 97, 120]) = false := beq_eq_false_iff_ne.2 fun e => by rw [e] at hn; cases hn
  have f9 : (s.toList == [103, 99, 100]) = false := beq_eq_false_iff_ne.2 fun e => by rw [e] at hn; cases hn
  have f10 : (s.toList == [42, 42]) = false := beq_eq_false_iff_ne.2 fun e => by rw [e] at hn; cases hn
  have f11 : (s.toList == [94]) = false := beq_eq_false_iff_ne.2 fun e => by rw [e] at hn; cases hn
  have f12 : (s.toList == [60, 60]) = false := beq_eq_false_iff_ne.2 fun e => by rw [e] at hn; cases hn
  have f13 : (s.toList == [62, 62]) = false := beq_eq_false_iff_ne.2 fun e => by rw [e] at hn; cases hn
  have f14 : (s.toList == [47, 92]) = false := beq_eq_false_iff_ne.2 fun e => by rw [e] at hn; cases hn
  have f15 : (s.toList == [92, 47]) = false := beq_eq_false_iff_ne.2 fun e => by rw [e] at hn; cases hn
  have f16 : (s.toList == [120, 111, 114]) = false := beq_eq_false_iff_ne.2 fun e => by rw [e] at hn; cases hn
  clear hn
  go_enter Try.func57, Try.ntmps57
  simp only [List.append_eq, List.cons_append, List.nil_append]
  go_wp2_with fail
  go_ret
  exact ret_bool hr.out.symm (Gr.rfl' _)

set_option maxHeartbeats 400000 in
set_option maxRecDepth 100000 in
theorem evaluable_0 (s : ByteArray) (n : Int) (h1 : (n == 1) = false) (h2 : (n == 2) = false) (w : World) : Calls Try.prog 57 #[.string s, .int .i64 n] w (Ret (.bool false) w) := by
  go_enter Try.func57, Try.ntmps57
  simp only [List.append_eq, List.cons_append, List.nil_append]
  go_wp2_with fail
  go_ret
  exact ret_bool rfl (Gr.rfl' _)

theorem evaluable_2 (s : ByteArray) (w : World) : Calls Try.prog 57 #[.string s, .int .i64 2] w (Ret (.bool (prim2 s.toList).isSome) w) := by
  by_cases e0 : s.toList = [43]
  · exact evaluable_2_0 s w e0
  by_cases e1 : s.toList = [45]
  · exact evaluable_2_1 s w e1
  by_cases e2 : s.toList = [42]
  · exact evaluable_2_2 s w e2
  by_cases e3 : s.toList = [47, 47]
  · exact evaluable_2_3 s w e3
  by_cases e4 : s.toList = [114, 101, 109]
  · exact evaluable_2_4 s w e4
  by_cases e5 : s.toList = [100, 105, 118]
  · exact evaluable_2_5 s w e5
  by_cases e6 : s.toList = [109, 111, 100]
  · exact evaluable_2_6 s w e6
  by_cases e7 : s.toList = [109, 105, 110]
  · exact evaluable_2_7 s w e7
  by_cases e8 : s.toList = [109, 97, 120]
  · exact evaluable_2_8 s w e8
  by_cases e9 : s.toList = [103, 99, 100]
  · exact evaluable_2_9 s w e9
  by_cases e10 : s.toList = [42, 42]
  · exact evaluable_2_10 s w e10
  by_cases e11 : s.toList = [94]
  · exact evaluable_2_11 s w e11
  by_cases e12 : s.toList = [60, 60]
  · exact evaluable_2_12 s w e12
  by_cases e13 : s.toList = [62, 62]
  · exact evaluable_2_13 s w e13
  by_cases e14 : s.toList = [47, 92]
  · exact evaluable_2_14 s w e14
  by_cases e15 : s.toList = [92, 47]
  · exact evaluable_2_15 s w e15
  by_cases e16 : s.toList = [120, 111, 114]
  · exact evaluable_2_16 s w e16
  exact evaluable_2_none s w (by rw [prim2, if_neg e0, if_neg e1, if_neg e2, if_neg e3, if_neg e4, if_neg e5, if_neg e6, if_neg e7, if_neg e8, if_neg e9, if_neg e10, if_neg e11, if_neg e12, if_neg e13, if_neg e14, if_neg e15, if_neg e16])

theorem evaluable_calls (s : ByteArray) (n : Nat) (w : World) : Calls Try.prog 57 #[.string s, .int .i64 n] w (Ret (.bool (evaluable s.toList n)) w) := by
  by_cases h1 : n = 1
  · subst h1; exact evaluable_1 s w
  by_cases h2 : n = 2
  · subst h2; exact evaluable_2 s w
  · rw [evaluable, if_neg h1, if_neg h2]; exact evaluable_0 s n (beq_eq_false_iff_ne.2 (by omega)) (beq_eq_false_iff_ne.2 (by omega)) w

end Go.Proofs.Ytgaijgadeodoeaa
