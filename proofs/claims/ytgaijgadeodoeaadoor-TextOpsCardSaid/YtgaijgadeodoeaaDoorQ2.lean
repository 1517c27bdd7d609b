/-
  Operators, plain: which lists are right, and that counting names finds two of one kind.
-/
import Derived.Test.YtgaijgadeodoeaaDoorQ1
namespace Go.Proofs.YtgaijgadeodoeaaDoor
open Go.RowKit

/-- An operator that may not stand by itself. -/
def badOp (x : Opv) : Bool :=
  decide (100 < x.s.size) || decide (x.p < 1) || decide (1200 < x.p) || decide (x.t < 1) || decide (5 < x.t) || decide (x.s.toList = [44]) || decide (x.s.toList = [124]) || decide (x.s.toList = [91, 93]) || decide (x.s.toList = [123, 125])

/-- Two of one name and one kind. -/
def clash (x y : Opv) : Bool := decide (x.s.toList = y.s.toList) && (decide (x.t ≤ 3) == decide (y.t ≤ 3))

/-- Is something wrong with the first k? -/
def badTo (l : List Opv) : Nat → Bool
  | 0 => decide (200 < l.length)
  | k + 1 => badTo l k || match l[k]? with
    | none => false
    | some x => badOp x || (l.take k).any (clash · x)

theorem badTo_mono (l : List Opv) (k : Nat) (h : badTo l k = true) : badTo l (k + 1) = true := by
  rw [badTo, h]; rfl

theorem badTo_succ (l : List Opv) (k : Nat) (hk : k < l.length) : badTo l (k + 1) = (badTo l k || (badOp l[k] || (l.take k).any (clash · l[k]))) := by
  rw [badTo, List.getElem?_eq_getElem hk]

/-- How many of the first ones have the name and are infix (or prefix). -/
def countOp (infix_ : Bool) (s : List UInt8) (l : List Opv) : Nat := (l.filter fun x => decide (x.s.toList = s) && (decide (x.t ≤ 3) == infix_)).length

theorem countOp_any (x : Opv) (l : List Opv) : (l.any (clash · x)) = decide (0 < countOp (decide (x.t ≤ 3)) x.s.toList l) := by
  induction l with
  | nil => rfl
  | cons y ys ih =>
    rw [List.any_cons, ih, countOp, countOp, List.filter_cons]
    cases hc : (decide (y.s.toList = x.s.toList) && (decide (y.t ≤ 3) == decide (x.t ≤ 3))) with
    | true => simp [clash, hc]
    | false => simp [clash, hc]

/-- What is said of a list of operators. -/
def opsErr (l : List Opv) : Int := if badTo l l.length then 6 else 0
theorem opsErr_true {l : List Opv} (h : badTo l l.length = true) : opsErr l = 6 := by rw [opsErr, if_pos h]
theorem opsErr_false {l : List Opv} (h : badTo l l.length = false) : opsErr l = 0 := by rw [opsErr, h]; rfl

end Go.Proofs.YtgaijgadeodoeaaDoor
