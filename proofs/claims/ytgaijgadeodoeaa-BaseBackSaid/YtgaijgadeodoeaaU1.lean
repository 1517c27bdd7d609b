/-
  Which names are reserved, which builtins are allowed, which codes may run: plain.
-/
import Derived.Test.YtgaijgadeodoeaaA0
namespace Go.Proofs.Ytgaijgadeodoeaa
open Go.RowKit

def sCall : List UInt8 := [99, 97, 108, 108]
def resRow0 : List (List UInt8) := [[116, 114, 117, 101], [102, 97, 105, 108], [33], [110, 108]]
def resRow1 : List (List UInt8) := [[92, 43], [116, 104, 114, 111, 119], [118, 97, 114], [110, 111, 110, 118, 97, 114], [97, 116, 111, 109], [105, 110, 116, 101, 103, 101, 114], [97, 116, 111, 109, 105, 99], [99, 111, 109, 112, 111, 117, 110, 100], [99, 97, 108, 108, 97, 98, 108, 101], [103, 114, 111, 117, 110, 100], [97, 115, 115, 101, 114, 116, 122], [97, 115, 115, 101, 114, 116, 97], [114, 101, 116, 114, 97, 99, 116], [112, 114, 105, 110, 116], [58, 45]]
def resRow2 : List (List UInt8) := [[44], [59], [45, 62], [61], [92, 61], [61, 61], [92, 61, 61], [64, 60], [64, 62], [64, 61, 60], [64, 62, 61], [61, 46, 46], [99, 111, 112, 121, 95, 116, 101, 114, 109], [105, 115], [61, 58, 61], [61, 92, 61], [60], [62], [61, 60], [62, 61], [97, 116, 111, 109, 95, 108, 101, 110, 103, 116, 104], [97, 116, 111, 109, 95, 99, 104, 97, 114, 115], [108, 101, 110, 103, 116, 104], [115, 111, 114, 116], [58, 45], [45, 45, 62]]
def resRow3 : List (List UInt8) := [[99, 97, 116, 99, 104], [102, 105, 110, 100, 97, 108, 108], [99, 111, 109, 112, 97, 114, 101], [102, 117, 110, 99, 116, 111, 114], [97, 114, 103], [98, 101, 116, 119, 101, 101, 110]]
def proRow0 : List (List UInt8) := [[116, 114, 117, 101], [102, 97, 105, 108], [33], [110, 108]]
def proRow1 : List (List UInt8) := [[92, 43], [99, 97, 108, 108], [116, 104, 114, 111, 119], [118, 97, 114], [110, 111, 110, 118, 97, 114], [97, 116, 111, 109], [105, 110, 116, 101, 103, 101, 114], [97, 116, 111, 109, 105, 99], [99, 111, 109, 112, 111, 117, 110, 100], [99, 97, 108, 108, 97, 98, 108, 101], [103, 114, 111, 117, 110, 100], [97, 115, 115, 101, 114, 116, 122], [97, 115, 115, 101, 114, 116, 97], [114, 101, 116, 114, 97, 99, 116], [112, 114, 105, 110, 116], [58, 45]]
def proRow2 : List (List UInt8) := [[44], [59], [45, 62], [61], [92, 61], [61, 61], [92, 61, 61], [64, 60], [64, 62], [64, 61, 60], [64, 62, 61], [61, 46, 46], [99, 111, 112, 121, 95, 116, 101, 114, 109], [105, 115], [61, 58, 61], [61, 92, 61], [60], [62], [61, 60], [62, 61], [97, 116, 111, 109, 95, 108, 101, 110, 103, 116, 104], [97, 116, 111, 109, 95, 99, 104, 97, 114, 115], [108, 101, 110, 103, 116, 104], [115, 111, 114, 116], [58, 45], [45, 45, 62]]
def proRow3 : List (List UInt8) := [[99, 97, 116, 99, 104], [102, 105, 110, 100, 97, 108, 108], [99, 111, 109, 112, 97, 114, 101], [102, 117, 110, 99, 116, 111, 114], [97, 114, 103], [98, 101, 116, 119, 101, 101, 110]]
def notAllowed : List (List UInt8) := [[116, 114, 117, 101], [102, 97, 105, 108], [33], [44], [59], [45, 62], [92, 43], [99, 97, 108, 108], [99, 97, 116, 99, 104], [102, 105, 110, 100, 97, 108, 108], [98, 101, 116, 119, 101, 101, 110], [97, 115, 115, 101, 114, 116, 122], [97, 115, 115, 101, 114, 116, 97], [114, 101, 116, 114, 97, 99, 116], [58, 45], [45, 45, 62]]
def resRow : Nat → List (List UInt8)
  | 0 => resRow0
  | 1 => resRow1
  | 2 => resRow2
  | 3 => resRow3
  | _ => []

/-- Is a name with so many arguments reserved? -/
def reserved (s : List UInt8) (n : Int) : Bool :=
  if s = sCall then decide (1 ≤ n) && decide (n ≤ 8) else if n < 0 ∨ 3 < n then false else decide (s ∈ resRow n.toNat)

theorem reserved_call (n : Int) : reserved sCall n = (decide (1 ≤ n) && decide (n ≤ 8)) := by rw [reserved, if_pos rfl]
theorem reserved_out {s : List UInt8} {n : Int} (hs : s ≠ sCall) (hn : n < 0 ∨ 3 < n) : reserved s n = false := by rw [reserved, if_neg hs, if_pos hn]
theorem reserved_in {s : List UInt8} {n : Int} (hs : s ≠ sCall) (h0 : 0 ≤ n) (h3 : n ≤ 3) : reserved s n = decide (s ∈ resRow n.toNat) := by rw [reserved, if_neg hs, if_neg (by omega)]

/-- The program's own lists say the same. -/
theorem pro_0 (s : List UInt8) : reserved s 0 = decide (s ∈ proRow0) := by
  by_cases hs : s = sCall
  · subst hs; rfl
  · rw [reserved_in hs (by omega) (by omega)]; rfl
theorem pro_1 (s : List UInt8) : reserved s 1 = decide (s ∈ proRow1) := by
  by_cases hs : s = sCall
  · subst hs; rfl
  · rw [reserved_in hs (by omega) (by omega)]
    rw [decide_eq_decide]
    simp only [resRow, resRow1, proRow1, Int.toNat_one, List.mem_cons, List.mem_nil_iff, or_false]
    simp only [sCall] at hs
    simp [hs]
theorem pro_2 (s : List UInt8) : reserved s 2 = (decide (s = sCall) || decide (s ∈ proRow2)) := by
  by_cases hs : s = sCall
  · subst hs; rfl
  · rw [reserved_in hs (by omega) (by omega), decide_eq_false hs]; rfl
theorem pro_3 (s : List UInt8) : reserved s 3 = (decide (s = sCall) || decide (s ∈ proRow3)) := by
  by_cases hs : s = sCall
  · subst hs; rfl
  · rw [reserved_in hs (by omega) (by omega), decide_eq_false hs]; rfl
theorem pro_x (s : List UInt8) {n : Int} (h0 : n ≠ 0) (h1 : n ≠ 1) (h2 : n ≠ 2) (h3 : n ≠ 3) : reserved s n = (decide (s = sCall) && decide (1 ≤ n) && decide (n ≤ 8)) := by
  by_cases hs : s = sCall
  · subst hs; rw [reserved_call]; simp
  · rw [reserved_out hs (by omega), decide_eq_false hs]; rfl

/-- Is a builtin allowed in code? -/
def allowed (s : List UInt8) (n : Int) : Bool := if s ∈ notAllowed then false else reserved s n
def sThrow : List UInt8 := [116, 104, 114, 111, 119]
theorem allowed_throw (n : Int) : allowed sThrow n = decide (n = 1) := by
  rw [allowed, if_neg (by decide)]
  by_cases h : n < 0 ∨ 3 < n
  · rw [reserved_out (by decide) h, decide_eq_false (by omega)]
  · rw [reserved_in (by decide) (by omega) (by omega)]
    have : n = 0 ∨ n = 1 ∨ n = 2 ∨ n = 3 := by omega
    rcases this with rfl | rfl | rfl | rfl <;> decide
theorem allowed_not {s : List UInt8} (n : Int) (h : s ∈ notAllowed) : allowed s n = false := by rw [allowed, if_pos h]
theorem allowed_res {s : List UInt8} (n : Int) (h : s ∉ notAllowed) : allowed s n = reserved s n := by rw [allowed, if_neg h]

/-- A constant, an instruction, an entry. -/
structure Cn where
  k : Int
  s : ByteArray
  n : Int
structure Ins where
  op : Int
  a : Int
  b : Int
  c : Cn
structure Ent where
  s : ByteArray
  n : Int
  at_ : Int

def insRows : List (List UInt8) := [[], [97, 115, 45], [97, 115, 45], [97, 45, 107], [97, 45, 99], [115, 45, 45], [115, 45, 45], [45, 45, 107], [45, 45, 99], [110, 45, 45], [97, 115, 45], [97, 115, 45], [97, 45, 107], [97, 45, 99], [45, 45, 113], [45, 45, 113], [45, 45, 45], [45, 45, 45], [112, 45, 45], [112, 45, 45], [115, 45, 45], [115, 45, 45], [115, 45, 45], [45, 45, 98], [112, 45, 107], [112, 45, 99]]
/-- Which fields an instruction has. -/
def rowOf (op : Int) : List UInt8 := if 1 ≤ op ∧ op < 26 then insRows.getD op.toNat [] else []

def numOk (c : UInt8) (n size : Int) : Bool :=
  if c = 97 then decide (0 ≤ n) && decide (n < 50)
  else if c = 115 then decide (0 ≤ n) && decide (n < 200)
  else if c = 112 then decide (0 ≤ n) && decide (n < size)
  else if c = 110 then decide (1 ≤ n) && decide (n ≤ 50)
  else decide (n = 0)

def counted (x : Cn) (least : Int) : Bool := decide (x.k = 4) && decide ((x.s.size : Int) ≤ 100) && decide (least ≤ x.n) && decide (x.n ≤ 50)
def constant (x : Cn) : Bool := (decide (x.k = 3) && decide (x.n = 0) && decide ((x.s.size : Int) ≤ 100)) || (decide (x.k = 2) && decide (x.s.toList = []))
def conOk (c : UInt8) (x : Cn) : Bool :=
  if c = 107 then constant x
  else if c = 99 then counted x 1
  else if c = 113 then counted x 0
  else if c = 98 then counted x 0 && allowed x.s.toList x.n
  else decide (x.k = 0) && decide (x.s.toList = []) && decide (x.n = 0)

/-- May an instruction be, in code of so many? -/
def insOk (x : Ins) (size : Int) : Bool := match rowOf x.op with
  | [p, q, r] => numOk p x.a size && numOk q x.b size && conOk r x.c
  | _ => false

def entBad (x : Ent) (size : Int) : Bool :=
  decide (x.at_ < 0) || decide (size ≤ x.at_) || decide (x.n < 0) || decide (50 < x.n) || decide (100 < (x.s.size : Int)) || reserved x.s.toList x.n
def entSame (x y : Ent) : Bool := decide (x.s.toList = y.s.toList) && decide (x.n = y.n)
/-- Are the first k entries right? -/
def entsTo (l : List Ent) (size : Int) : Nat → Bool
  | 0 => true
  | k + 1 => entsTo l size k && match l[k]? with
    | none => true
    | some x => !entBad x size && !(l.take k).any (entSame · x)

theorem entsTo_at {l : List Ent} {size : Int} {k : Nat} {y : Ent} (hy : l[k]? = some y) : entsTo l size (k + 1) = (entsTo l size k && (!entBad y size && !(l.take k).any (entSame · y))) := by rw [entsTo, hy]
theorem entsTo_le {l : List Ent} {size : Int} {j k : Nat} (h : entsTo l size j = false) (hjk : j ≤ k) : entsTo l size k = false := by
  induction k with
  | zero => obtain rfl : j = 0 := by omega
            exact h
  | succ k ih =>
    by_cases hj : j = k + 1
    · exact hj ▸ h
    · rw [entsTo, ih (by omega)]; rfl

def lastOk (op : Int) : Bool := decide (op = 15) || decide (op = 16) || decide (op = 17) || decide (op = 19)

/-- P21: what is said of a code. -/
def codeErr (l : List Ins) (m : List Ent) (q : Int) : Int :=
  if 100000 < l.length then 9
  else if l.length = 0 ∨ q < 0 ∨ (l.length : Int) ≤ q then 10
  else if l.all (insOk · l.length) then (if lastOk ((l.getLast?.map (·.op)).getD 0) && entsTo m l.length m.length then 0 else 10)
  else 10

theorem codeErr_long {l : List Ins} {m : List Ent} {q : Int} (h : 100000 < l.length) : codeErr l m q = 9 := by rw [codeErr, if_pos h]
theorem codeErr_query {l : List Ins} {m : List Ent} {q : Int} (h : ¬ 100000 < l.length) (h2 : l.length = 0 ∨ q < 0 ∨ (l.length : Int) ≤ q) : codeErr l m q = 10 := by rw [codeErr, if_neg h, if_pos h2]
theorem codeErr_ins {l : List Ins} {m : List Ent} {q : Int} (h : ¬ 100000 < l.length) (h2 : l.all (insOk · l.length) = false) : codeErr l m q = 10 := by
  rw [codeErr, if_neg h, h2]
  split <;> rfl
theorem codeErr_last {l : List Ins} {m : List Ent} {q : Int} {x : Ins} (h : ¬ 100000 < l.length) (hx : l[l.length - 1]? = some x) (h2 : lastOk x.op = false) : codeErr l m q = 10 := by
  rw [codeErr, if_neg h, List.getLast?_eq_getElem?, hx]
  simp only [Option.map_some, Option.getD_some, h2, Bool.false_and]
  split
  · rfl
  · split <;> rfl
theorem codeErr_ents {l : List Ins} {m : List Ent} {q : Int} (h : ¬ 100000 < l.length) (h2 : entsTo m l.length m.length = false) : codeErr l m q = 10 := by
  rw [codeErr, if_neg h, h2, Bool.and_false]
  split
  · rfl
  · split <;> rfl
theorem codeErr_fine {l : List Ins} {m : List Ent} {q : Int} {x : Ins} (h : ¬ 100000 < l.length) (h1 : ¬ (l.length = 0 ∨ q < 0 ∨ (l.length : Int) ≤ q)) (h2 : l.all (insOk · l.length) = true) (hx : l[l.length - 1]? = some x) (h3 : lastOk x.op = true)
    (h4 : entsTo m l.length m.length = true) : codeErr l m q = 0 := by
  rw [codeErr, if_neg h, if_neg h1, if_pos h2, List.getLast?_eq_getElem?, hx, h4]
  simp only [Option.map_some, Option.getD_some, h3]
  rfl
end Go.Proofs.Ytgaijgadeodoeaa
