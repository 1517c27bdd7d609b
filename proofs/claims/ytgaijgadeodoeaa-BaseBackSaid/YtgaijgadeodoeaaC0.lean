/-
  cmp.Compare, cmp.isNaN at int and int64, cmp.Or
-/
import Derived.Test.YtgaijgadeodoeaaT0
import Derived.Test.YtgaijgadeodoeaaShelf
namespace Go.Proofs.Ytgaijgadeodoeaa
open Go.RowKit

def cmpI (a b : Int) : Int := if a < b then -1 else if b < a then 1 else 0
theorem cmpI_lt {a b : Int} (h : a < b) : cmpI a b = -1 := by simp [cmpI, h]
theorem cmpI_gt {a b : Int} (h : b < a) : cmpI a b = 1 := by unfold cmpI; rw [if_neg (by omega), if_pos h]
theorem cmpI_eq {a b : Int} (h : a ≤ b) (h' : b ≤ a) : cmpI a b = 0 := by unfold cmpI; rw [if_neg (by omega), if_neg (by omega)]
def RetSame (v : Value) (w : World) (e : Ending) (w' : World) : Prop := e = .returned v ∧ w = w'

theorem ret_same {a b : Int} {w : World} (h : a = b) : RetSame (.int .i64 b) w (.returned (.int .i64 a)) w := ⟨by rw [h], rfl⟩

set_option maxHeartbeats 400000 in
theorem isNaN_int (a : Int) (w : World) : Calls Try.prog 125 #[.int .i64 a] w fun e w' => e = .returned (.bool false) ∧ w = w' := by
  go_enter Try.func125, Try.ntmps125
  go_wp2_with fail
  go_ret
  exact ⟨by simp, rfl⟩

set_option maxHeartbeats 400000 in
theorem isNaN_int64 (a : Int) (w : World) : Calls Try.prog 127 #[.int .i64 a] w fun e w' => e = .returned (.bool false) ∧ w = w' := by
  go_enter Try.func127, Try.ntmps127
  go_wp2_with fail
  go_ret
  exact ⟨by simp, rfl⟩

set_option maxHeartbeats 400000 in
theorem compare_int (a b : Int) (w : World) : Calls Try.prog 93 #[.int .i64 a, .int .i64 b] w (RetSame (.int .i64 (cmpI a b)) w) := by
  go_enter Try.func93, Try.ntmps93
  go_wp2_with (go_at_call 125; refine (isNaN_int _ _).mono ?_; rintro e w' ⟨rfl, rfl⟩)
  all_goals
    go_ret
    first | exact ret_same (cmpI_lt (by assumption)).symm | exact ret_same (cmpI_gt (by assumption)).symm | exact ret_same (cmpI_eq (by assumption) (by assumption)).symm

set_option maxHeartbeats 400000 in
theorem compare_int64 (a b : Int) (w : World) : Calls Try.prog 97 #[.int .i64 a, .int .i64 b] w (RetSame (.int .i64 (cmpI a b)) w) := by
  go_enter Try.func97, Try.ntmps97
  go_wp2_with (go_at_call 127; refine (isNaN_int64 _ _).mono ?_; rintro e w' ⟨rfl, rfl⟩)
  all_goals
    go_ret
    first | exact ret_same (cmpI_lt (by assumption)).symm | exact ret_same (cmpI_gt (by assumption)).symm | exact ret_same (cmpI_eq (by assumption) (by assumption)).symm

set_option maxHeartbeats 400000 in
/-- cmp.Or of two numbers. -/
theorem or_two (x y : Int) (b o : Nat) (w : World) (h0 : w.cell? ⟨b, o, none⟩ = some (.int .i64 x)) (h1 : w.cell? ⟨b, o + 1, none⟩ = some (.int .i64 y)) :
    Calls Try.prog 95 #[.slice (some ⟨b, o, none⟩) 2 2] w (RetSame (.int .i64 (if x = 0 then y else x)) w) := by
  by_cases hx : x = 0
  · subst hx
    by_cases hy : y = 0
    · subst hy
      go_enter Try.func95, Try.ntmps95
      go_wp2_with fail
      go_rounds 3
      go_ret
      exact ret_same (by simp)
    · have hy' : (y != 0) = true := by simp [hy]
      go_enter Try.func95, Try.ntmps95
      go_wp2_with fail
      go_rounds 3
      go_ret
      exact ret_same (by simp)
  · have hx' : (x != 0) = true := by simp [hx]
    rw [if_neg hx]
    go_enter Try.func95, Try.ntmps95
    go_wp2_with fail
    go_rounds 3
    go_ret
    exact ret_same rfl

theorem strings_compare (a b : ByteArray) (w : World) : Calls Try.prog 94 #[.string a, .string b] w (RetSame (.int .i64 (Lib.compareBytes a.toList b.toList)) w) := by
  rw [ByteArray.toList_eq, ByteArray.toList_eq]
  exact (Try.strings_Compare a b w).mono fun e w' ⟨h1, h2⟩ => ⟨h1, h2.symm⟩
end Go.Proofs.Ytgaijgadeodoeaa
