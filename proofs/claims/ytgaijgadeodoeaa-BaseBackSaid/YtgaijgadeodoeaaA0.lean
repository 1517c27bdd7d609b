/-
  Numbers: what the document says of each operation (plain).
-/
import Derived.Test.YtgaijgadeodoeaaT4
namespace Go.Proofs.Ytgaijgadeodoeaa
open Go.RowKit

abbrev Str := List UInt8
def sOverflow : Str := [111, 118, 101, 114, 102, 108, 111, 119]
def sZero : Str := [122, 101, 114, 111, 95, 100, 105, 118, 105, 100, 101]
def sNegative : Str := [110, 101, 103, 97, 116, 105, 118, 101]
def sUnbound : Str := [117, 110, 98, 111, 117, 110, 100]
def sNotEval : Str := [110, 111, 116, 95, 101, 118, 97, 108, 117, 97, 98, 108, 101]

/-- A number that fits, or a name of what went wrong. -/
inductive Num where
  | ok (n : Int)
  | bad (s : Str)

def In64 (n : Int) : Prop := -9223372036854775808 ≤ n ∧ n ≤ 9223372036854775807
instance (n : Int) : Decidable (In64 n) := inferInstanceAs (Decidable (_ ∧ _))

def ov (n : Int) : Num := if In64 n then .ok n else .bad sOverflow

theorem ov_ok {n : Int} (h : -9223372036854775808 ≤ n) (h' : n ≤ 9223372036854775807) : ov n = .ok n := if_pos ⟨h, h'⟩
theorem ov_bad {n : Int} (h : n < -9223372036854775808 ∨ 9223372036854775807 < n) : ov n = .bad sOverflow := if_neg fun ⟨h1, h2⟩ => by omega

def nAdd (a b : Int) : Num := ov (a + b)
def nSub (a b : Int) : Num := ov (a - b)
def nMul (a b : Int) : Num := ov (a * b)
def nQuo (a b : Int) : Num := if b = 0 then .bad sZero else ov (a.tdiv b)
def nRem (a b : Int) : Num := if b = 0 then .bad sZero else .ok (a.tmod b)
def nDiv (a b : Int) : Num := if b = 0 then .bad sZero else ov (a.fdiv b)
def nMod (a b : Int) : Num := if b = 0 then .bad sZero else .ok (a.fmod b)
def nMin (a b : Int) : Num := .ok (if a < b then a else b)
def nMax (a b : Int) : Num := .ok (if a < b then b else a)
def nGcd (a b : Int) : Num := ov (Nat.gcd a.natAbs b.natAbs)
def nPow (a b : Int) : Num := if b < 0 then .bad sNegative else ov (a ^ b.toNat)
def nLeft (a b : Int) : Num := if b < 0 then .bad sNegative else ov (a * 2 ^ b.toNat)
def nRight (a b : Int) : Num := if b < 0 then .bad sNegative else .ok (a / 2 ^ b.toNat)
def nAnd (a b : Int) : Num := .ok (bits .and .i64 a b)
def nOr (a b : Int) : Num := .ok (bits .or .i64 a b)
def nXor (a b : Int) : Num := .ok (bits .xor .i64 a b)
def nNeg (a : Int) : Num := ov (-a)
def nAbs (a : Int) : Num := ov a.natAbs
def nSign (a : Int) : Num := .ok (if a < 0 then -1 else if 0 < a then 1 else 0)
def nNot (a : Int) : Num := .ok (-1 - a)

/-- An atom's value. -/
def atomTm (s : ByteArray) : Tm := .mk 3 0 s none 0 []
def atomT (s : Str) : T := .mk 3 0 s []
theorem atomTm_erase (s : ByteArray) : (atomTm s).erase = atomT s.toList := by simp [atomTm, atomT, Tm.erase, Tm.eraseL]
theorem atomTm_in {s : ByteArray} (h : s.size ≤ 140737488351232) (w : World) : (atomTm s).In w := by
  rw [atomTm, Tm.In, Tm.InL]
  exact ⟨⟨by omega, by omega⟩, ⟨by omega, by omega⟩, h, Nat.le_refl _, ⟨by simp, by omega⟩, .inl rfl, trivial⟩

/-- Thrown: a ball that is this term. -/
def Thrown (ty : TypeId) (t : T) (w : World) (e : Ending) (w' : World) : Prop :=
  ∃ b : Tm, b.In w' ∧ b.erase = t ∧ e = .panicked [{ v := .iface ty b.val, recovered := false }] ∧ Gr w w'

/-- A number is handed back, or a ball is thrown. -/
def NumIs (ty : TypeId) (r : Num) (w : World) (e : Ending) (w' : World) : Prop :=
  match r with
  | .ok n => e = .returned (.int .i64 n) ∧ Gr w w' ∧ In64 n
  | .bad s => Thrown ty (atomT s) w e w'

theorem num_ok {ty : TypeId} {r : Num} {n m : Int} {w w' : World} (h : r = .ok n) (hm : m = n) (hg : Gr w w') (hi : In64 n) : NumIs ty r w (.returned (.int .i64 m)) w' := by
  subst h hm
  exact ⟨rfl, hg, hi⟩
theorem num_bad {ty : TypeId} {r : Num} {s : ByteArray} {l : Str} {c : List PanicEntry} {w w' : World} (h : r = .bad l) (hl : s.toList = l) (hs : s.size ≤ 140737488351232) (hc : c = [{ v := .iface ty (atomTm s).val, recovered := false }]) (hg : Gr w w') : NumIs ty r w (.panicked c) w' := by
  subst h hc hl
  exact ⟨atomTm s, atomTm_in hs _, atomTm_erase s, rfl, hg⟩

theorem overflowL : (ByteArray.mk #[111, 118, 101, 114, 102, 108, 111, 119]).toList = sOverflow := ByteArray.toList_mk _
theorem zeroL : (ByteArray.mk #[122, 101, 114, 111, 95, 100, 105, 118, 105, 100, 101]).toList = sZero := ByteArray.toList_mk _
theorem negativeL : (ByteArray.mk #[110, 101, 103, 97, 116, 105, 118, 101]).toList = sNegative := ByteArray.toList_mk _
theorem unboundL : (ByteArray.mk #[117, 110, 98, 111, 117, 110, 100]).toList = sUnbound := ByteArray.toList_mk _
end Go.Proofs.Ytgaijgadeodoeaa
