/-
  The relations of numbers: plain; the program's six functions.
-/
import Derived.Test.YtgaijgadeodoeaaBD
import Derived.Test.YtgaijgadeodoeaaF2
import Derived.Test.YtgaijgadeodoeaaF5
namespace Go.Proofs.Ytgaijgadeodoeaa
open Go.RowKit

def rEq (a b : Int) : Bool := decide (a = b)
def rNe (a b : Int) : Bool := decide (a ≠ b)
def rLt (a b : Int) : Bool := decide (a < b)
def rGt (a b : Int) : Bool := decide (b < a)
def rLe (a b : Int) : Bool := decide (a ≤ b)
def rGe (a b : Int) : Bool := decide (b ≤ a)

/-- The relation of a name. -/
def relOf (s : Str) : Option (Int → Int → Bool) :=
  if s = [61, 58, 61] then some rEq
  else if s = [61, 92, 61] then some rNe
  else if s = [60] then some rLt
  else if s = [62] then some rGt
  else if s = [61, 60] then some rLe
  else if s = [62, 61] then some rGe
  else none

/-- What two terms come to, held against one another. -/
def holdsE (f : Int → Int → Bool) (a b : Ev) : Bool × T × Int :=
  match a with
  | .bad x => (false, x, 14)
  | .ok m => match b with
    | .bad y => (false, y, 14)
    | .ok n => (f m n, zeroT, 0)

theorem holdsE_bad1 (f : Int → Int → Bool) (x : T) (b : Ev) : holdsE f (.bad x) b = (false, x, 14) := rfl
theorem holdsE_bad2 (f : Int → Int → Bool) (m : Int) (y : T) : holdsE f (.ok m) (.bad y) = (false, y, 14) := rfl
theorem holdsE_ok (f : Int → Int → Bool) (m n : Int) : holdsE f (.ok m) (.ok n) = (f m n, zeroT, 0) := rfl

/-- P13's relations. -/
def holdsT (s : Str) (a b : T) : Bool × T × Int :=
  if a.formed && b.formed then match relOf s with
    | none => (false, zeroT, 1)
    | some f => holdsE f (evalT a) (evalT b)
  else (false, zeroT, 2)

def RetH (r : Bool × T × Int) (w : World) (e : Ending) (w' : World) : Prop :=
  ∃ b : Tm, b.In w' ∧ b.erase = r.2.1 ∧ e = .returned (.tuple #[.bool r.1, b.val, .int .i64 r.2.2]) ∧ Gr w w'

theorem reth {r : Bool × T × Int} {w w' : World} {e : Ending} {x : Bool} {t : T} {n : Int} (h : r = (x, t, n)) (b : Tm) (hin : b.In w') (he : b.erase = t) (hr : e = .returned (.tuple #[.bool x, b.val, .int .i64 n])) (hg : Gr w w') : RetH r w e w' := by
  subst h; exact ⟨b, hin, he, hr, hg⟩

/-- A ball does not lie on a block that holds no term of its own. -/
theorem ball_off {w : World} {R : Nat} {s : ByteArray} {p : Option Addr} {n c : Nat} {tb : Tm} (hR : Blk4 w R (.int .i64 0) (.int .i64 0) (.string s) (.slice p n c)) (hin : tb.In w) (hr : tb.erase.real = true) : tb.On (· ≠ R) := by
  refine Tm.On_real (w := w) (fun b o k s' h1 h2 hk => ?_) hin hr
  rintro rfl
  rw [cell_of_row w b _ _ _ _ hR] at h1
  match o, h1 with
  | 0, h1 => simp at h1; exact hk h1.symm
  | 1, h1 => simp at h1; exact hk h1.symm
  | 2, h1 => simp at h1
  | 3, h1 => simp at h1
  | o + 4, h1 => simp at h1

theorem zero_form {t : Tm} (h : t.erase = zeroT) : ∃ p c, t = .mk 0 0 ⟨#[]⟩ p c [] := by
  obtain ⟨k, n, s, p, c, l⟩ := t
  rw [Tm.erase, zeroT] at h
  injection h with h1 h2 h3 h4
  subst h1; subst h2
  have hs := toList_nil h3
  subst hs
  have hl : l = [] := by
    have := Tm.eraseL_length l
    rw [h4] at this
    exact List.eq_nil_of_length_eq_zero this.symm
  subst hl
  exact ⟨p, c, rfl⟩

theorem zero_val (p : Option Addr) (c : Nat) : (Tm.mk 0 0 ⟨#[]⟩ p c []).val = .agg #[.int .i64 0, .int .i64 0, .string ⟨#[]⟩, .slice p 0 c] := rfl
theorem zeroTm_val : zeroTm.val = .agg #[.int .i64 0, .int .i64 0, .string ⟨#[]⟩, .slice none 0 0] := rfl

theorem Blk4.store {w : World} {b : Nat} {v0 v1 v2 v3 : Value} (h : Blk4 w b v0 v1 v2 v3) (x0 x1 x2 x3 : Value) :
    Blk4 ((((w.setCell ⟨b, 0, none⟩ x0).setCell ⟨b, 1, none⟩ x1).setCell ⟨b, 2, none⟩ x2).setCell ⟨b, 3, none⟩ x3) b x0 x1 x2 x3 :=
  heap_setCell_same _ b _ _ _ _ (heap_setCell_same _ b _ _ _ _ (heap_setCell_same _ b _ _ _ _ (heap_setCell_same _ b _ _ _ _ h)))

theorem evalR_real {t : T} {b : T} (h : evalT t = .bad b) : b.real = true := evalT_real _ _ _ (Nat.le_refl _) h

-- CLOSURES
set_option maxHeartbeats 400000 in
theorem holds_fn0 (m n : Int) (w : World) : Calls Try.prog 46 #[.int .i64 m, .int .i64 n] w (Ret (.bool (rEq m n)) w) := by
  go_enter Try.func46, Try.ntmps46
  go_wp2_with fail
  go_ret
  exact ret_bool (by rw [Bool.eq_iff_iff]; simp [rEq]) (by go_grown)

set_option maxHeartbeats 400000 in
theorem holds_fn1 (m n : Int) (w : World) : Calls Try.prog 47 #[.int .i64 m, .int .i64 n] w (Ret (.bool (rNe m n)) w) := by
  go_enter Try.func47, Try.ntmps47
  go_wp2_with fail
  go_ret
  exact ret_bool (by rw [Bool.eq_iff_iff]; simp [rNe]) (by go_grown)

set_option maxHeartbeats 400000 in
theorem holds_fn2 (m n : Int) (w : World) : Calls Try.prog 48 #[.int .i64 m, .int .i64 n] w (Ret (.bool (rLt m n)) w) := by
  go_enter Try.func48, Try.ntmps48
  go_wp2_with fail
  go_ret
  exact ret_bool (by rw [Bool.eq_iff_iff]; simp [rLt]) (by go_grown)

set_option maxHeartbeats 400000 in
theorem holds_fn3 (m n : Int) (w : World) : Calls Try.prog 49 #[.int .i64 m, .int .i64 n] w (Ret (.bool (rGt m n)) w) := by
  go_enter Try.func49, Try.ntmps49
  go_wp2_with fail
  go_ret
  exact ret_bool (by rw [Bool.eq_iff_iff]; simp [rGt]) (by go_grown)

set_option maxHeartbeats 400000 in
theorem holds_fn4 (m n : Int) (w : World) : Calls Try.prog 50 #[.int .i64 m, .int .i64 n] w (Ret (.bool (rLe m n)) w) := by
  go_enter Try.func50, Try.ntmps50
  go_wp2_with fail
  go_ret
  exact ret_bool (by rw [Bool.eq_iff_iff]; simp [rLe]) (by go_grown)

set_option maxHeartbeats 400000 in
theorem holds_fn5 (m n : Int) (w : World) : Calls Try.prog 51 #[.int .i64 m, .int .i64 n] w (Ret (.bool (rGe m n)) w) := by
  go_enter Try.func51, Try.ntmps51
  go_wp2_with fail
  go_ret
  exact ret_bool (by rw [Bool.eq_iff_iff]; simp [rGe]) (by go_grown)

end Go.Proofs.Ytgaijgadeodoeaa
