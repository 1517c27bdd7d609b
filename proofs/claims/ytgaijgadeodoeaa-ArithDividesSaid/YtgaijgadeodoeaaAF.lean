/-
  hornkeep.ArithDivides: the walk
-/
import Derived.Test.YtgaijgadeodoeaaAE
namespace Go.Proofs.Ytgaijgadeodoeaa
open Go.RowKit

set_option maxHeartbeats 1000000 in
set_option maxRecDepth 100000 in
theorem divides_zero (a c : Int) (w : World) (ha : In64 a) :
    Calls Try.prog 5 #[.int .i64 a, .int .i64 0, .int .i64 c] w (Ret (.bool true) w) := by
  have Ha := Lib.hid ha
  have Hb : Hid (In64 0) := (⟨by decide, by decide⟩ : In64 0)
  clear ha
  go_enter Try.func5, Try.ntmps5
  go_wp2_with fail
  refine (op_calls (s := ⟨#[47, 47]⟩) (f := nQuo) (r := (0, false)) (by rw [ByteArray.toList_mk]; rfl) (by decide) Ha.out Hb.out (by rw [nQuo, if_pos rfl]; rfl) _).mono ?_
  rintro e w1 ⟨rfl, hb1, _⟩
  have g1 : Gr w w1 := hb1
  clear hb1
  go_wp2_with fail
  refine (op_calls (s := ⟨#[114, 101, 109]⟩) (f := nRem) (r := (0, false)) (by rw [ByteArray.toList_mk]; rfl) (by decide) Ha.out Hb.out (by rw [nRem, if_pos rfl]; rfl) _).mono ?_
  rintro e w2 ⟨rfl, hb2, _⟩
  have g2 : Gr w w2 := g1.trans hb2
  clear hb2
  go_wp2_with fail
  refine (op_calls (s := ⟨#[100, 105, 118]⟩) (f := nDiv) (r := (0, false)) (by rw [ByteArray.toList_mk]; rfl) (by decide) Ha.out Hb.out (by rw [nDiv, if_pos rfl]; rfl) _).mono ?_
  rintro e w3 ⟨rfl, hb3, _⟩
  have g3 : Gr w w3 := g2.trans hb3
  clear hb3
  go_wp2_with fail
  refine (op_calls (s := ⟨#[109, 111, 100]⟩) (f := nMod) (r := (0, false)) (by rw [ByteArray.toList_mk]; rfl) (by decide) Ha.out Hb.out (by rw [nMod, if_pos rfl]; rfl) _).mono ?_
  rintro e w4 ⟨rfl, hb4, _⟩
  have g4 : Gr w w4 := g3.trans hb4
  clear hb4
  go_wp2_with fail
  go_ret
  exact ret_bool rfl g4

set_option maxHeartbeats 1000000 in
set_option maxRecDepth 100000 in
theorem divides_over (c : Int) (w : World) :
    Calls Try.prog 5 #[.int .i64 (-9223372036854775808), .int .i64 (-1), .int .i64 c] w (Ret (.bool true) w) := by
  have Ha : Hid (In64 (-9223372036854775808)) := (⟨by decide, by decide⟩ : In64 (-9223372036854775808))
  have Hb : Hid (In64 (-1)) := (⟨by decide, by decide⟩ : In64 (-1))
  go_enter Try.func5, Try.ntmps5
  go_wp2_with fail
  refine (op_calls (s := ⟨#[47, 47]⟩) (f := nQuo) (r := (0, false)) (by rw [ByteArray.toList_mk]; rfl) (by decide) Ha.out Hb.out (by decide) _).mono ?_
  rintro e w1 ⟨rfl, hb1, _⟩
  have g1 : Gr w w1 := hb1
  clear hb1
  go_wp2_with fail
  refine (op_calls (s := ⟨#[114, 101, 109]⟩) (f := nRem) (r := (0, true)) (by rw [ByteArray.toList_mk]; rfl) (by decide) Ha.out Hb.out (by decide) _).mono ?_
  rintro e w2 ⟨rfl, hb2, _⟩
  have g2 : Gr w w2 := g1.trans hb2
  clear hb2
  go_wp2_with fail
  refine (op_calls (s := ⟨#[100, 105, 118]⟩) (f := nDiv) (r := (0, false)) (by rw [ByteArray.toList_mk]; rfl) (by decide) Ha.out Hb.out (by decide) _).mono ?_
  rintro e w3 ⟨rfl, hb3, _⟩
  have g3 : Gr w w3 := g2.trans hb3
  clear hb3
  go_wp2_with fail
  refine (op_calls (s := ⟨#[109, 111, 100]⟩) (f := nMod) (r := (0, true)) (by rw [ByteArray.toList_mk]; rfl) (by decide) Ha.out Hb.out (by decide) _).mono ?_
  rintro e w4 ⟨rfl, hb4, _⟩
  have g4 : Gr w w4 := g3.trans hb4
  clear hb4
  go_wp2_with fail
  refine (op_calls (s := ⟨#[103, 99, 100]⟩) (f := nGcd) (r := (1, true)) (by rw [ByteArray.toList_mk]; rfl) (by decide) Ha.out Hb.out (by decide) _).mono ?_
  rintro e w5 ⟨rfl, hb5, _⟩
  have g5 : Gr w w5 := g4.trans hb5
  clear hb5
  go_wp2_with fail
  all_goals
    go_ret
    exact ret_bool rfl g5

set_option maxHeartbeats 1000000 in
set_option maxRecDepth 100000 in
theorem divides_big0 (c : Int) (w : World) :
    Calls Try.prog 5 #[.int .i64 (0), .int .i64 (-9223372036854775808), .int .i64 c] w (Ret (.bool true) w) := by
  have Ha : Hid (In64 (0)) := (⟨by decide, by decide⟩ : In64 (0))
  have Hb : Hid (In64 (-9223372036854775808)) := (⟨by decide, by decide⟩ : In64 (-9223372036854775808))
  go_enter Try.func5, Try.ntmps5
  go_wp2_with fail
  refine (op_calls (s := ⟨#[47, 47]⟩) (f := nQuo) (r := (0, true)) (by rw [ByteArray.toList_mk]; rfl) (by decide) Ha.out Hb.out (by decide) _).mono ?_
  rintro e w1 ⟨rfl, hb1, _⟩
  have g1 : Gr w w1 := hb1
  clear hb1
  go_wp2_with fail
  refine (op_calls (s := ⟨#[114, 101, 109]⟩) (f := nRem) (r := (0, true)) (by rw [ByteArray.toList_mk]; rfl) (by decide) Ha.out Hb.out (by decide) _).mono ?_
  rintro e w2 ⟨rfl, hb2, _⟩
  have g2 : Gr w w2 := g1.trans hb2
  clear hb2
  go_wp2_with fail
  refine (op_calls (s := ⟨#[100, 105, 118]⟩) (f := nDiv) (r := (0, true)) (by rw [ByteArray.toList_mk]; rfl) (by decide) Ha.out Hb.out (by decide) _).mono ?_
  rintro e w3 ⟨rfl, hb3, _⟩
  have g3 : Gr w w3 := g2.trans hb3
  clear hb3
  go_wp2_with fail
  refine (op_calls (s := ⟨#[109, 111, 100]⟩) (f := nMod) (r := (0, true)) (by rw [ByteArray.toList_mk]; rfl) (by decide) Ha.out Hb.out (by decide) _).mono ?_
  rintro e w4 ⟨rfl, hb4, _⟩
  have g4 : Gr w w4 := g3.trans hb4
  clear hb4
  go_wp2_with fail
  refine (op_calls (s := ⟨#[103, 99, 100]⟩) (f := nGcd) (r := (0, false)) (by rw [ByteArray.toList_mk]; rfl) (by decide) Ha.out Hb.out (by decide) _).mono ?_
  rintro e w5 ⟨rfl, hb5, _⟩
  have g5 : Gr w w5 := g4.trans hb5
  clear hb5
  go_wp2_with fail
  all_goals
    go_ret
    exact ret_bool rfl g5

set_option maxHeartbeats 1000000 in
set_option maxRecDepth 100000 in
theorem divides_big1 (c : Int) (w : World) :
    Calls Try.prog 5 #[.int .i64 (-9223372036854775808), .int .i64 (-9223372036854775808), .int .i64 c] w (Ret (.bool true) w) := by
  have Ha : Hid (In64 (-9223372036854775808)) := (⟨by decide, by decide⟩ : In64 (-9223372036854775808))
  have Hb : Hid (In64 (-9223372036854775808)) := (⟨by decide, by decide⟩ : In64 (-9223372036854775808))
  go_enter Try.func5, Try.ntmps5
  go_wp2_with fail
  refine (op_calls (s := ⟨#[47, 47]⟩) (f := nQuo) (r := (1, true)) (by rw [ByteArray.toList_mk]; rfl) (by decide) Ha.out Hb.out (by decide) _).mono ?_
  rintro e w1 ⟨rfl, hb1, _⟩
  have g1 : Gr w w1 := hb1
  clear hb1
  go_wp2_with fail
  refine (op_calls (s := ⟨#[114, 101, 109]⟩) (f := nRem) (r := (0, true)) (by rw [ByteArray.toList_mk]; rfl) (by decide) Ha.out Hb.out (by decide) _).mono ?_
  rintro e w2 ⟨rfl, hb2, _⟩
  have g2 : Gr w w2 := g1.trans hb2
  clear hb2
  go_wp2_with fail
  refine (op_calls (s := ⟨#[100, 105, 118]⟩) (f := nDiv) (r := (1, true)) (by rw [ByteArray.toList_mk]; rfl) (by decide) Ha.out Hb.out (by decide) _).mono ?_
  rintro e w3 ⟨rfl, hb3, _⟩
  have g3 : Gr w w3 := g2.trans hb3
  clear hb3
  go_wp2_with fail
  refine (op_calls (s := ⟨#[109, 111, 100]⟩) (f := nMod) (r := (0, true)) (by rw [ByteArray.toList_mk]; rfl) (by decide) Ha.out Hb.out (by decide) _).mono ?_
  rintro e w4 ⟨rfl, hb4, _⟩
  have g4 : Gr w w4 := g3.trans hb4
  clear hb4
  go_wp2_with fail
  refine (op_calls (s := ⟨#[103, 99, 100]⟩) (f := nGcd) (r := (0, false)) (by rw [ByteArray.toList_mk]; rfl) (by decide) Ha.out Hb.out (by decide) _).mono ?_
  rintro e w5 ⟨rfl, hb5, _⟩
  have g5 : Gr w w5 := g4.trans hb5
  clear hb5
  go_wp2_with fail
  all_goals
    go_ret
    exact ret_bool rfl g5
end Go.Proofs.Ytgaijgadeodoeaa
