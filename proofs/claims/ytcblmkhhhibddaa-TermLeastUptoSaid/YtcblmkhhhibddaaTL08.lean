/-
  Which names are reserved, which builtins are allowed, which codes may run: plain.
  The order of terms: a total one (plain).
  Facts for the bases that the laws make (no program here).
  hornkeep.still: a term of one's own that is as it was.
-/
import Derived.Test.YtcblmkhhhibddaaTL03
import Derived.Test.YtcblmkhhhibddaaTL06
import Derived.Test.YtcblmkhhhibddaaTL04
import Derived.Test.YtcblmkhhhibddaaTL07
import Derived.Test.YtcblmkhhhibddaaTL02
namespace Go.Proofs.Ytcblmkhhhibddaa
open Go.RowKit

def sCall : List UInt8 := [99, 97, 108, 108]
def resRow0 : List (List UInt8) := [[116, 114, 117, 101], [102, 97, 105, 108], [33], [110, 108]]
def resRow1 : List (List UInt8) := [[92, 43], [116, 104, 114, 111, 119], [118, 97, 114], [110, 111, 110, 118, 97, 114], [97, 116, 111, 109], [105, 110, 116, 101, 103, 101, 114], [97, 116, 111, 109, 105, 99], [99, 111, 109, 112, 111, 117, 110, 100], [99, 97, 108, 108, 97, 98, 108, 101], [103, 114, 111, 117, 110, 100], [97, 115, 115, 101, 114, 116, 122], [97, 115, 115, 101, 114, 116, 97], [114, 101, 116, 114, 97, 99, 116], [112, 114, 105, 110, 116], [58, 45]]
def resRow2 : List (List UInt8) := [[44], [59], [45, 62], [61], [92, 61], [61, 61], [92, 61, 61], [64, 60], [64, 62], [64, 61, 60], [64, 62, 61], [61, 46, 46], [99, 111, 112, 121, 95, 116, 101, 114, 109], [105, 115], [61, 58, 61], [61, 92, 61], [60], [62], [61, 60], [62, 61], [97, 116, 111, 109, 95, 108, 101, 110, 103, 116, 104], [97, 116, 111, 109, 95, 99, 104, 97, 114, 115], [108, 101, 110, 103, 116, 104], [115, 111, 114, 116], [58, 45], [45, 45, 62]]
def resRow3 : List (List UInt8) := [[99, 97, 116, 99, 104], [102, 105, 110, 100, 97, 108, 108], [99, 111, 109, 112, 97, 114, 101], [102, 117, 110, 99, 116, 111, 114], [97, 114, 103], [98, 101, 116, 119, 101, 101, 110]]
def proRow0 : List (List UInt8) := [[116, 114, 117, 101], [102, 97, 105, 108], [33], [110, 108]]
def proRow1 : List (List UInt8) := [[92, 43], [99, 97, 108, 108], [116, 104, 114, 111, 119], [118, 97, 114], [110, 111, 110, 118, 97, 114], [97, 116, 111, 109], [105, 110, 116, 101, 103, 101, 114], [97, 116, 111, 109, 105, 99], [99, 111, 109, 112, 111, 117, 110, 100], [99, 97, 108, 108, 97, 98, 108, 101], [103, 114, 111, 117, 110, 100], [97, 115, 115, 101, 114, 116, 122], [97, 115, 115, 101, 114, 116, 97], [114, 101, 116, 114, 97, 99, 116], [112, 114, 105, 110, 116], [58, 45]]
def proRow2 : List (List UInt8) := [[44], [59], [45, 62], [61], [92, 61], [61, 61], [92, 61, 61], [64, 60], [64, 62], [64, 61, 60], [64, 62, 61], [61, 46, 46], [99, 111, 112, 121, 95, 116, 101, 114, 109], [105, 115], [61, 58, 61], [61, 92, 61], [60], [62], [61, 60], [62, 61], [97, 116, 111, 109, 95, 108, 101, 110, 103, 116, 104], [97, 116, 111, 109, 95, 99, 104, 97, 114, 115], [108, 101, 110, 103, 116, 104], [115, 111, 114, 116], [58, 45], [45, 45, 62]]
def proRow3 : List (List UInt8) := [[99, 97, 116, 99, 104], [102, 105, 110, 100, 97, 108, 108], [99, 111, 109, 112, 97, 114, 101], [102, 117, 110, 99, 116, 111, 114], [97, 114, 103], [98, 101, 116, 119, 101, 101, 110]]
def notAllowed : List (List UInt8) := [[116, 114, 117, 101], [102, 97, 105, 108], [33], [44], [59], [45, 62], [92, 43], [99, 97, 108, 108], [99, 97, 116, 99, 104], [102, 105, 110, 100, 97, 108, 108], [98, 101, 116, 119, 101, 101, 110], [97, 115, 115, 101, 114, 116, 122], [97, 115, 115, 101, 114, 116, 97], [114, 101, 116, 114, 97, 99, 116], [58, 45], [45, 45, 62]]
def resRow : Nat → List (List UInt8)
  | 0 => resRow0
  | 1 => resRow1
  | 2 => resRow2
  | 3 => resRow3
  | _ => []

/-- Is a name with so many arguments reserved? -/
def reserved (s : List UInt8) (n : Int) : Bool :=
  if s = sCall then decide (1 ≤ n) && decide (n ≤ 8) else if n < 0 ∨ 3 < n then false else decide (s ∈ resRow n.toNat)

theorem reserved_call (n : Int) : reserved sCall n = (decide (1 ≤ n) && decide (n ≤ 8)) := by rw [reserved, if_pos rfl]
theorem reserved_out {s : List UInt8} {n : Int} (hs : s ≠ sCall) (hn : n < 0 ∨ 3 < n) : reserved s n = false := by rw [reserved, if_neg hs, if_pos hn]
theorem reserved_in {s : List UInt8} {n : Int} (hs : s ≠ sCall) (h0 : 0 ≤ n) (h3 : n ≤ 3) : reserved s n = decide (s ∈ resRow n.toNat) := by rw [reserved, if_neg hs, if_neg (by omega)]

/-- The program's own lists say the same. -/
theorem pro_0 (s : List UInt8) : reserved s 0 = decide (s ∈ proRow0) := by
  by_cases hs : s = sCall
  · subst hs; rfl
  · rw [reserved_in hs (by omega) (by omega)]; rfl
theorem pro_1 (s : List UInt8) : reserved s 1 = decide (s ∈ proRow1) := by
  by_cases hs : s = sCall
  · subst hs; rfl
  · rw [reserved_in hs (by omega) (by omega)]
    rw [decide_eq_decide]
    simp only [resRow, resRow1, proRow1, Int.toNat_one, List.mem_cons, List.mem_nil_iff, or_false]
    simp only [sCall] at hs
    simp [hs]
theorem pro_2 (s : List UInt8) : reserved s 2 = (decide (s = sCall) || decide (s ∈ proRow2)) := by
  by_cases hs : s = sCall
  · subst hs; rfl
  · rw [reserved_in hs (by omega) (by omega), decide_eq_false hs]; rfl
theorem pro_3 (s : List UInt8) : reserved s 3 = (decide (s = sCall) || decide (s ∈ proRow3)) := by
  by_cases hs : s = sCall
  · subst hs; rfl
  · rw [reserved_in hs (by omega) (by omega), decide_eq_false hs]; rfl
theorem pro_x (s : List UInt8) {n : Int} (h0 : n ≠ 0) (h1 : n ≠ 1) (h2 : n ≠ 2) (h3 : n ≠ 3) : reserved s n = (decide (s = sCall) && decide (1 ≤ n) && decide (n ≤ 8)) := by
  by_cases hs : s = sCall
  · subst hs; rw [reserved_call]; simp
  · rw [reserved_out hs (by omega), decide_eq_false hs]; rfl

/-- Is a builtin allowed in code? -/
def allowed (s : List UInt8) (n : Int) : Bool := if s ∈ notAllowed then false else reserved s n
def sThrow : List UInt8 := [116, 104, 114, 111, 119]
theorem allowed_throw (n : Int) : allowed sThrow n = decide (n = 1) := by
  rw [allowed, if_neg (by decide)]
  by_cases h : n < 0 ∨ 3 < n
  · rw [reserved_out (by decide) h, decide_eq_false (by omega)]
  · rw [reserved_in (by decide) (by omega) (by omega)]
    have : n = 0 ∨ n = 1 ∨ n = 2 ∨ n = 3 := by omega
    rcases this with rfl | rfl | rfl | rfl <;> decide
theorem allowed_not {s : List UInt8} (n : Int) (h : s ∈ notAllowed) : allowed s n = false := by rw [allowed, if_pos h]
theorem allowed_res {s : List UInt8} (n : Int) (h : s ∉ notAllowed) : allowed s n = reserved s n := by rw [allowed, if_neg h]

/-- A constant, an instruction, an entry. -/
structure Cn where
  k : Int
  s : ByteArray
  n : Int
structure Ins where
  op : Int
  a : Int
  b : Int
  c : Cn
structure Ent where
  s : ByteArray
  n : Int
  at_ : Int

def insRows : List (List UInt8) := [[], [97, 115, 45], [97, 115, 45], [97, 45, 107], [97, 45, 99], [115, 45, 45], [115, 45, 45], [45, 45, 107], [45, 45, 99], [110, 45, 45], [97, 115, 45], [97, 115, 45], [97, 45, 107], [97, 45, 99], [45, 45, 113], [45, 45, 113], [45, 45, 45], [45, 45, 45], [112, 45, 45], [112, 45, 45], [115, 45, 45], [115, 45, 45], [115, 45, 45], [45, 45, 98], [112, 45, 107], [112, 45, 99]]
/-- Which fields an instruction has. -/
def rowOf (op : Int) : List UInt8 := if 1 ≤ op ∧ op < 26 then insRows.getD op.toNat [] else []

def numOk (c : UInt8) (n size : Int) : Bool :=
  if c = 97 then decide (0 ≤ n) && decide (n < 50)
  else if c = 115 then decide (0 ≤ n) && decide (n < 200)
  else if c = 112 then decide (0 ≤ n) && decide (n < size)
  else if c = 110 then decide (1 ≤ n) && decide (n ≤ 50)
  else decide (n = 0)

def counted (x : Cn) (least : Int) : Bool := decide (x.k = 4) && decide ((x.s.size : Int) ≤ 100) && decide (least ≤ x.n) && decide (x.n ≤ 50)
def constant (x : Cn) : Bool := (decide (x.k = 3) && decide (x.n = 0) && decide ((x.s.size : Int) ≤ 100)) || (decide (x.k = 2) && decide (x.s.toList = []))
def conOk (c : UInt8) (x : Cn) : Bool :=
  if c = 107 then constant x
  else if c = 99 then counted x 1
  else if c = 113 then counted x 0
  else if c = 98 then counted x 0 && allowed x.s.toList x.n
  else decide (x.k = 0) && decide (x.s.toList = []) && decide (x.n = 0)

/-- May an instruction be, in code of so many? -/
def insOk (x : Ins) (size : Int) : Bool := match rowOf x.op with
  | [p, q, r] => numOk p x.a size && numOk q x.b size && conOk r x.c
  | _ => false

def entBad (x : Ent) (size : Int) : Bool :=
  decide (x.at_ < 0) || decide (size ≤ x.at_) || decide (x.n < 0) || decide (50 < x.n) || decide (100 < (x.s.size : Int)) || reserved x.s.toList x.n
def entSame (x y : Ent) : Bool := decide (x.s.toList = y.s.toList) && decide (x.n = y.n)
/-- Are the first k entries right? -/
def entsTo (l : List Ent) (size : Int) : Nat → Bool
  | 0 => true
  | k + 1 => entsTo l size k && match l[k]? with
    | none => true
    | some x => !entBad x size && !(l.take k).any (entSame · x)

theorem entsTo_at {l : List Ent} {size : Int} {k : Nat} {y : Ent} (hy : l[k]? = some y) : entsTo l size (k + 1) = (entsTo l size k && (!entBad y size && !(l.take k).any (entSame · y))) := by rw [entsTo, hy]
theorem entsTo_le {l : List Ent} {size : Int} {j k : Nat} (h : entsTo l size j = false) (hjk : j ≤ k) : entsTo l size k = false := by
  induction k with
  | zero => obtain rfl : j = 0 := by omega
            exact h
  | succ k ih =>
    by_cases hj : j = k + 1
    · exact hj ▸ h
    · rw [entsTo, ih (by omega)]; rfl

def lastOk (op : Int) : Bool := decide (op = 15) || decide (op = 16) || decide (op = 17) || decide (op = 19)

/-- P21: what is said of a code. -/
def codeErr (l : List Ins) (m : List Ent) (q : Int) : Int :=
  if 100000 < l.length then 9
  else if l.length = 0 ∨ q < 0 ∨ (l.length : Int) ≤ q then 10
  else if l.all (insOk · l.length) then (if lastOk ((l.getLast?.map (·.op)).getD 0) && entsTo m l.length m.length then 0 else 10)
  else 10

theorem codeErr_long {l : List Ins} {m : List Ent} {q : Int} (h : 100000 < l.length) : codeErr l m q = 9 := by rw [codeErr, if_pos h]
theorem codeErr_query {l : List Ins} {m : List Ent} {q : Int} (h : ¬ 100000 < l.length) (h2 : l.length = 0 ∨ q < 0 ∨ (l.length : Int) ≤ q) : codeErr l m q = 10 := by rw [codeErr, if_neg h, if_pos h2]
theorem codeErr_ins {l : List Ins} {m : List Ent} {q : Int} (h : ¬ 100000 < l.length) (h2 : l.all (insOk · l.length) = false) : codeErr l m q = 10 := by
  rw [codeErr, if_neg h, h2]
  split <;> rfl
theorem codeErr_last {l : List Ins} {m : List Ent} {q : Int} {x : Ins} (h : ¬ 100000 < l.length) (hx : l[l.length - 1]? = some x) (h2 : lastOk x.op = false) : codeErr l m q = 10 := by
  rw [codeErr, if_neg h, List.getLast?_eq_getElem?, hx]
  simp only [Option.map_some, Option.getD_some, h2, Bool.false_and]
  split
  · rfl
  · split <;> rfl
theorem codeErr_ents {l : List Ins} {m : List Ent} {q : Int} (h : ¬ 100000 < l.length) (h2 : entsTo m l.length m.length = false) : codeErr l m q = 10 := by
  rw [codeErr, if_neg h, h2, Bool.and_false]
  split
  · rfl
  · split <;> rfl
theorem codeErr_fine {l : List Ins} {m : List Ent} {q : Int} {x : Ins} (h : ¬ 100000 < l.length) (h1 : ¬ (l.length = 0 ∨ q < 0 ∨ (l.length : Int) ≤ q)) (h2 : l.all (insOk · l.length) = true) (hx : l[l.length - 1]? = some x) (h3 : lastOk x.op = true)
    (h4 : entsTo m l.length m.length = true) : codeErr l m q = 0 := by
  rw [codeErr, if_neg h, if_neg h1, if_pos h2, List.getLast?_eq_getElem?, hx, h4]
  simp only [Option.map_some, Option.getD_some, h3]
  rfl
end Go.Proofs.Ytcblmkhhhibddaa

namespace Go.Proofs.Ytcblmkhhhibddaa

def lex (x y : Int) : Int := if x = 0 then y else x

/-- Three comparisons that fit. -/
structure Tri (x y z : Int) : Prop where
  le : x ≤ 0 → y ≤ 0 → z ≤ 0 ∧ (z = 0 → x = 0 ∧ y = 0)
  l : x = 0 → z = y
  r : y = 0 → z = x

theorem Tri.lex {x y z x' y' z' : Int} (h : Tri x y z) (h' : x = 0 → y = 0 → Tri x' y' z') : Tri (lex x x') (lex y y') (lex z z') := by
  unfold Go.Proofs.Ytcblmkhhhibddaa.lex
  by_cases hx : x = 0
  · have hz := h.l hx
    by_cases hy : y = 0
    · have hz0 : z = 0 := by omega
      rw [if_pos hx, if_pos hy, if_pos hz0]
      exact h' hx hy
    · rw [if_pos hx, if_neg hy, if_neg (by omega), hz]
      exact ⟨fun _ h2 => ⟨h2, fun h3 => absurd h3 hy⟩, fun _ => rfl, fun h2 => absurd h2 hy⟩
  · by_cases hy : y = 0
    · have hz := h.r hy
      rw [if_neg hx, if_pos hy, if_neg (by omega), hz]
      exact ⟨fun h1 _ => ⟨h1, fun h3 => absurd h3 hx⟩, fun h1 => absurd h1 hx, fun _ => rfl⟩
    · rw [if_neg hx, if_neg hy]
      refine ⟨fun h1 h2 => ?_, fun h1 => absurd h1 hx, fun h2 => absurd h2 hy⟩
      obtain ⟨h3, h4⟩ := h.le h1 h2
      have hz : z ≠ 0 := fun e => hx (h4 e).1
      rw [if_neg hz]
      exact ⟨h3, fun e => absurd e hz⟩

theorem cmpI_tri (a b c : Int) : Tri (cmpI a b) (cmpI b c) (cmpI a c) := by
  unfold cmpI
  constructor <;> (split <;> split <;> split <;> (try split) <;> (try split) <;> (try split) <;> omega)

theorem cmpI_neg (a b : Int) : cmpI b a = -cmpI a b := by
  unfold cmpI
  split <;> split <;> (try split) <;> omega

theorem cmpI_range (a b : Int) : -1 ≤ cmpI a b ∧ cmpI a b ≤ 1 := by
  unfold cmpI
  split <;> (try split) <;> omega

theorem cmpI_zero {a b : Int} : cmpI a b = 0 ↔ a = b := by
  unfold cmpI
  constructor
  · intro h; split at h <;> (try split at h) <;> omega
  · rintro rfl; simp

def cb1 (a b : UInt8) : Int := if a < b then -1 else if b < a then 1 else 0
theorem cb1_eq (a b : UInt8) : cb1 a b = cmpI a.toNat b.toNat := by
  unfold cb1 cmpI
  simp only [UInt8.lt_iff_toNat_lt]
  split <;> split <;> (try split) <;> (try split) <;> omega

theorem cb_cons (a b : UInt8) (x y : List UInt8) : Lib.compareBytes (a :: x) (b :: y) = lex (cb1 a b) (Lib.compareBytes x y) := by
  rw [Lib.compareBytes, lex, cb1]
  split
  · rfl
  · split <;> rfl

theorem cb_tri : ∀ a b c : List UInt8, Tri (Lib.compareBytes a b) (Lib.compareBytes b c) (Lib.compareBytes a c)
  | [], [], [] => by simp only [Lib.compareBytes]; constructor <;> omega
  | [], [], _ :: _ => by simp only [Lib.compareBytes]; constructor <;> omega
  | [], _ :: _, [] => by simp only [Lib.compareBytes]; constructor <;> omega
  | _ :: _, [], [] => by simp only [Lib.compareBytes]; constructor <;> omega
  | _ :: _, [], _ :: _ => by
    have h1 : ∀ a b : List UInt8, -1 ≤ Lib.compareBytes a b ∧ Lib.compareBytes a b ≤ 1 := fun a b => by
      induction a generalizing b with
      | nil => cases b <;> simp [Lib.compareBytes]
      | cons x xs ih =>
        cases b with
        | nil => simp [Lib.compareBytes]
        | cons y ys =>
          rw [Lib.compareBytes]
          have := ih ys
          split <;> (try split) <;> omega
    simp only [Lib.compareBytes.eq_2, Lib.compareBytes.eq_3]
    constructor <;> omega
  | [], x :: xs, y :: ys => by
    simp only [Lib.compareBytes.eq_2]
    constructor <;> omega
  | x :: xs, y :: ys, [] => by
    simp only [Lib.compareBytes.eq_3]
    constructor <;> omega
  | a :: x, b :: y, c :: z => by
    rw [cb_cons, cb_cons, cb_cons]
    refine Tri.lex ?_ fun _ _ => cb_tri x y z
    rw [cb1_eq, cb1_eq, cb1_eq]
    exact cmpI_tri _ _ _

theorem lex_neg {x y x' y' : Int} (h : y = -x) (h' : y' = -x') : lex y y' = -lex x x' := by
  unfold lex
  split <;> split <;> omega

theorem lex_range {x y : Int} (h : -1 ≤ x ∧ x ≤ 1) (h' : -1 ≤ y ∧ y ≤ 1) : -1 ≤ lex x y ∧ lex x y ≤ 1 := by
  unfold lex
  split <;> assumption

theorem lex_zero {x y : Int} : lex x y = 0 ↔ x = 0 ∧ y = 0 := by
  unfold lex
  split <;> constructor <;> omega

theorem cb_neg : ∀ a b : List UInt8, Lib.compareBytes b a = -Lib.compareBytes a b
  | [], [] => by simp [Lib.compareBytes]
  | [], _ :: _ => by simp [Lib.compareBytes]
  | _ :: _, [] => by simp [Lib.compareBytes]
  | a :: x, b :: y => by
    rw [cb_cons, cb_cons]
    exact lex_neg (by rw [cb1_eq, cb1_eq, cmpI_neg]) (cb_neg x y)

theorem cb_range : ∀ a b : List UInt8, -1 ≤ Lib.compareBytes a b ∧ Lib.compareBytes a b ≤ 1
  | [], [] => by simp [Lib.compareBytes]
  | [], _ :: _ => by simp [Lib.compareBytes]
  | _ :: _, [] => by simp [Lib.compareBytes]
  | a :: x, b :: y => by
    rw [cb_cons]
    exact lex_range (by rw [cb1_eq]; exact cmpI_range _ _) (cb_range x y)

theorem cb_zero : ∀ a b : List UInt8, Lib.compareBytes a b = 0 ↔ a = b
  | [], [] => by simp [Lib.compareBytes]
  | [], _ :: _ => by simp [Lib.compareBytes]
  | _ :: _, [] => by simp [Lib.compareBytes]
  | a :: x, b :: y => by
    rw [cb_cons, lex_zero, cb1_eq, cmpI_zero, cb_zero x y, List.cons.injEq]
    constructor
    · rintro ⟨h1, h2⟩; exact ⟨by rw [← UInt8.toNat_inj]; omega, h2⟩
    · rintro ⟨h1, h2⟩; exact ⟨by rw [h1], h2⟩

theorem order_eq (k n : Int) (s : List UInt8) (l : List T) (k' n' : Int) (s' : List UInt8) (l' : List T) :
    T.order (.mk k n s l) (.mk k' n' s' l') = lex (cmpI k k') (if k = 3 then Lib.compareBytes s s' else if k = 4 then lex (lex (cmpI l.length l'.length) (Lib.compareBytes s s')) (T.orderL l l') else cmpI n n') := by
  rw [T.order]
  unfold lex
  by_cases h : k = k'
  · rw [if_pos h, if_pos (cmpI_zero.2 h)]
  · rw [if_neg h, if_neg (fun e => h (cmpI_zero.1 e))]

mutual
theorem order_tri : ∀ a b c : T, Tri (T.order a b) (T.order b c) (T.order a c)
  | .mk k n s l, .mk k' n' s' l', .mk k'' n'' s'' l'' => by
    rw [order_eq, order_eq, order_eq]
    refine Tri.lex (cmpI_tri _ _ _) fun h1 h2 => ?_
    have e1 := cmpI_zero.1 h1
    have e2 := cmpI_zero.1 h2
    subst e1 e2
    by_cases h3 : k = 3
    · simp only [if_pos h3]
      exact cb_tri _ _ _
    simp only [if_neg h3]
    by_cases h4 : k = 4
    · simp only [if_pos h4]
      refine Tri.lex (Tri.lex (cmpI_tri _ _ _) fun _ _ => cb_tri _ _ _) fun _ _ => orderL_tri l l' l''
    · simp only [if_neg h4]
      exact cmpI_tri _ _ _
theorem orderL_tri : ∀ a b c : List T, Tri (T.orderL a b) (T.orderL b c) (T.orderL a c)
  | [], [], [] => by simp only [T.orderL]; constructor <;> omega
  | [], [], _ :: _ => by simp only [T.orderL]; constructor <;> omega
  | [], _ :: _, [] => by simp only [T.orderL]; constructor <;> omega
  | _ :: _, [], [] => by simp only [T.orderL]; constructor <;> omega
  | x :: xs, [], y :: ys => by simp only [T.orderL]; constructor <;> omega
  | [], x :: xs, y :: ys => by simp only [T.orderL]; constructor <;> omega
  | x :: xs, y :: ys, [] => by simp only [T.orderL]; constructor <;> omega
  | a :: x, b :: y, c :: z => by
    have h := Tri.lex (order_tri a b c) fun _ _ => orderL_tri x y z
    simp only [T.orderL]
    exact h
end

mutual
theorem order_neg : ∀ a b : T, T.order b a = -T.order a b
  | .mk k n s l, .mk k' n' s' l' => by
    rw [order_eq, order_eq]
    by_cases h : k = k'
    · subst h
      refine lex_neg (cmpI_neg _ _) ?_
      by_cases h3 : k = 3
      · simp only [if_pos h3]; exact cb_neg _ _
      simp only [if_neg h3]
      by_cases h4 : k = 4
      · simp only [if_pos h4]
        exact lex_neg (lex_neg (cmpI_neg _ _) (cb_neg _ _)) (orderL_neg l l')
      · simp only [if_neg h4]; exact cmpI_neg _ _
    · unfold lex
      rw [if_neg (fun e => h (cmpI_zero.1 e)), if_neg (fun e => h (cmpI_zero.1 e).symm), cmpI_neg]
theorem orderL_neg : ∀ a b : List T, T.orderL b a = -T.orderL a b
  | [], [] => by simp [T.orderL]
  | [], _ :: _ => by simp [T.orderL]
  | _ :: _, [] => by simp [T.orderL]
  | a :: x, b :: y => by
    have h := lex_neg (order_neg a b) (orderL_neg x y)
    simp only [T.orderL]
    exact h
end

mutual
theorem order_range : ∀ a b : T, -1 ≤ T.order a b ∧ T.order a b ≤ 1
  | .mk k n s l, .mk k' n' s' l' => by
    rw [order_eq]
    refine lex_range (cmpI_range _ _) ?_
    by_cases h3 : k = 3
    · simp only [if_pos h3]; exact cb_range _ _
    simp only [if_neg h3]
    by_cases h4 : k = 4
    · simp only [if_pos h4]; exact lex_range (lex_range (cmpI_range _ _) (cb_range _ _)) (orderL_range l l')
    · simp only [if_neg h4]; exact cmpI_range _ _
theorem orderL_range : ∀ a b : List T, -1 ≤ T.orderL a b ∧ T.orderL a b ≤ 1
  | [], [] => by simp [T.orderL]
  | [], _ :: _ => by simp [T.orderL]
  | _ :: _, [] => by simp [T.orderL]
  | a :: x, b :: y => by
    have h := lex_range (order_range a b) (orderL_range x y)
    simp only [T.orderL]
    exact h
end

mutual
theorem same_iff : ∀ a b : T, T.same a b = true ↔ a = b
  | .mk k n s l, .mk k' n' s' l' => by
    rw [T.same]
    simp only [Bool.and_eq_true, decide_eq_true_eq, T.mk.injEq]
    constructor
    · rintro ⟨⟨⟨⟨h1, h2⟩, h3⟩, h4⟩, h5⟩; exact ⟨h1, h2, h3, (sameL_iff l l' h4).1 h5⟩
    · rintro ⟨h1, h2, h3, h4⟩; exact ⟨⟨⟨⟨h1, h2⟩, h3⟩, by rw [h4]⟩, (sameL_iff l l' (by rw [h4])).2 h4⟩
theorem sameL_iff : ∀ a b : List T, a.length = b.length → (T.sameL a b = true ↔ a = b)
  | [], [], _ => by simp [T.sameL]
  | [], _ :: _, h => by simp at h
  | _ :: _, [], h => by simp at h
  | a :: x, b :: y, h => by
    rw [T.sameL, Bool.and_eq_true, same_iff a b, sameL_iff x y (by simpa using h), List.cons.injEq]
end

mutual
theorem order_zero : ∀ a b : T, a.formed = true → b.formed = true → (T.order a b = 0 ↔ a = b)
  | .mk k n s l, .mk k' n' s' l', ha, hb => by
    rw [order_eq, lex_zero, cmpI_zero, T.mk.injEq]
    by_cases hk : k = k'
    · subst hk
      rw [T.formed] at ha hb
      by_cases h1 : k = 1
      · subst h1
        simp at ha hb
        simp [cmpI_zero, ha, hb]
      by_cases h2 : k = 2
      · subst h2
        simp at ha hb
        simp [cmpI_zero, ha, hb]
      by_cases h3 : k = 3
      · subst h3
        simp at ha hb
        simp [cb_zero, ha, hb]
      by_cases h4 : k = 4
      · subst h4
        simp at ha hb
        simp only [show ¬ (4 : Int) = 3 by decide, if_false, if_true, lex_zero, cmpI_zero, cb_zero, true_and]
        constructor
        · rintro ⟨⟨e1, e2⟩, e3⟩
          exact ⟨by rw [ha.1.1.1.1, hb.1.1.1.1], e2, (orderL_zero l l' ha.2 hb.2).1 e3⟩
        · rintro ⟨e1, e2, e3⟩
          exact ⟨⟨by rw [e3], e2⟩, (orderL_zero l l' ha.2 hb.2).2 e3⟩
      · simp [h1, h2, h3, h4] at ha
    · constructor
      · rintro ⟨e, _⟩; exact absurd e hk
      · rintro ⟨e, _⟩; exact absurd e hk
theorem orderL_zero : ∀ a b : List T, T.formedL a = true → T.formedL b = true → (T.orderL a b = 0 ↔ a = b)
  | [], [], _, _ => by simp [T.orderL]
  | [], _ :: _, _, _ => by simp [T.orderL]
  | _ :: _, [], _, _ => by simp [T.orderL]
  | a :: x, b :: y, ha, hb => by
    rw [T.formedL, Bool.and_eq_true] at ha hb
    have h1 := order_zero a b ha.1 hb.1
    have h2 := orderL_zero x y ha.2 hb.2
    have h : T.orderL (a :: x) (b :: y) = lex (T.order a b) (T.orderL x y) := by simp only [T.orderL]; rfl
    rw [h, lex_zero, h1, h2, List.cons.injEq]
end
end Go.Proofs.Ytcblmkhhhibddaa

namespace Go.Proofs.Ytcblmkhhhibddaa

theorem formed_small {t : T} (h : t.formed = true) : t.s.length ≤ 100 ∧ t.l.length ≤ 50 := by
  obtain ⟨k, n, s, l⟩ := t
  by_cases h1 : k = 1
  · subst h1
    obtain ⟨_, rfl, rfl⟩ := formed_var h
    exact ⟨by simp [T.s], by simp [T.l]⟩
  rcases formed_args h with ⟨rfl, _⟩ | ⟨h4, rfl⟩
  · rw [T.formed] at h
    simp only [show ¬ (4 : Int) = 1 by decide, show ¬ (4 : Int) = 2 by decide, show ¬ (4 : Int) = 3 by decide, if_false, if_true, Bool.and_eq_true, decide_eq_true_eq] at h
    simp only [T.s, T.l]
    omega
  · rw [T.formed] at h
    simp only [T.s, T.l]
    by_cases h2 : k = 2
    · subst h2
      simp at h
      simp [h]
    · by_cases h3 : k = 3
      · subst h3
        simp at h
        simp [h]
      · simp [h1, h2, h3, h4] at h

theorem res_neck : reserved sNeck 2 = true := by decide
theorem same_refl (x : T) : T.same x x = true := (same_iff x x).2 rfl

theorem make_p : T.make reserved (atomT [112]) = some (atomT [112], atomT sTrue) := by
  have hp : (atomT [112]).parts = (atomT [112], atomT sTrue) := by rw [T.parts, if_neg (by decide)]
  rw [T.make, hp]
  simp only
  rw [body_true]
  simp only
  rw [if_pos (by decide)]
  rw [atomT, atomT, map_atom _ (by decide) (by decide), map_atom _ (by decide) (by decide)]

theorem eq_of_toList {a b : ByteArray} (h : a.toList = b.toList) : a = b := by
  rw [Go.ByteArray.toList_eq, Go.ByteArray.toList_eq] at h
  cases a
  cases b
  congr 1
  exact Array.toList_inj.1 h

theorem size_toList (a : ByteArray) : a.toList.length = a.size := by rw [Go.ByteArray.toList_eq]; rfl

theorem tm_small {t : Tm} (h : t.erase.formed = true) : t.s.size ≤ 1000 ∧ t.l.length ≤ 1000 := by
  obtain ⟨h1, h2⟩ := formed_small h
  obtain ⟨k, n, s, p, c, l⟩ := t
  rw [Tm.erase] at h1 h2
  simp only [T.s, T.l, Tm.eraseL_length, size_toList] at h1 h2
  exact ⟨by simp only [Tm.s]; omega, by simp only [Tm.l]; omega⟩

/-- A term in memory that is an atom. -/
theorem atom_parts {t : Tm} {s : ByteArray} (h : t.erase = atomT s.toList) : t.s = s ∧ t.l = [] := by
  obtain ⟨k, n, s', p, c, l⟩ := t
  rw [Tm.erase, atomT] at h
  injection h with _ _ h3 h4
  refine ⟨eq_of_toList h3, ?_⟩
  have := Tm.eraseL_length l
  rw [h4] at this
  exact List.eq_nil_of_length_eq_zero this.symm

theorem on_nil {t : Tm} {S : Nat → Prop} (h : t.l = []) : t.On S := by
  obtain ⟨k, n, s, p, c, l⟩ := t
  simp only [Tm.l] at h
  subst h
  rw [Tm.On, Tm.OnL]
  exact ⟨.inl rfl, trivial⟩
end Go.Proofs.Ytcblmkhhhibddaa

namespace Go.Proofs.Ytcblmkhhhibddaa
open Go.RowKit Go.Lib

theorem marks_at (j r : Nat) (hj : j < 3) (hr : r < 4) : marks[j * 4 + r]? = markTm.cells[r]? := by
  match j, hj, r, hr with
  | 0, _, 0, _ | 0, _, 1, _ | 0, _, 2, _ | 0, _, 3, _ => rfl
  | 1, _, 0, _ | 1, _, 1, _ | 1, _, 2, _ | 1, _, 3, _ => rfl
  | 2, _, 0, _ | 2, _, 1, _ | 2, _, 2, _ | 2, _, 3, _ => rfl
theorem mark_in (w : World) : markTm.In w := by
  rw [markTm, Tm.In, Tm.InL]
  exact ⟨by omega, by omega, by decide, Nat.le_refl _, ⟨by simp, by omega⟩, .inl rfl, trivial⟩

theorem erase_at : ∀ {l l' : List Tm}, Tm.eraseL l = Tm.eraseL l' → ∀ (i : Nat) (h1 : i < l.length) (h2 : i < l'.length), l[i].erase = l'[i].erase
  | x :: xs, y :: ys, h, 0, _, _ => by
    rw [Tm.eraseL, Tm.eraseL] at h
    injection h
  | x :: xs, y :: ys, h, i + 1, h1, h2 => by
    rw [Tm.eraseL, Tm.eraseL] at h
    injection h with _ h
    exact erase_at h i (by simpa using h1) (by simpa using h2)

def stillOf (x : Tm) : Prop := ∀ (t : Tm) (w : World), x.In w → t.In w → x.erase = t.erase → x.Roomy w → Calls Try.prog 19 #[x.val, t.val] w (Ret (.bool true) w)

set_option maxHeartbeats 4000000 in
set_option maxRecDepth 100000 in
theorem still_step (k n : Int) (s : ByteArray) (px pt : Option Addr) (cx ct : Nat) (lx lt : List Tm) (ih : ∀ x ∈ lx, stillOf x) (w : World) (hx : (Tm.mk k n s px cx lx).In w) (ht : (Tm.mk k n s pt ct lt).In w) (hle : Tm.eraseL lx = Tm.eraseL lt) (hro : (Tm.mk k n s px cx lx).Roomy w) :
    Calls Try.prog 19 #[(Tm.mk k n s px cx lx).val, (Tm.mk k n s pt ct lt).val] w (Ret (.bool true) w) := by
  have hll : lt.length = lx.length := by rw [← Tm.eraseL_length lt, ← hle, Tm.eraseL_length]
  have HSx := Lib.hid hx.sl
  have HSt := Lib.hid ht.sl
  have hcx : cx ≤ 9223372036854775807 := hx.sl.2.1.2
  have hlx : lx.length * 56 ≤ 140737488351232 := hx.sl.2.1.1
  have hct : lx.length ≤ ct := by have := ht.sl.1; omega
  have hcxl : lx.length ≤ cx := hx.sl.1
  rw [Tm.Roomy] at hro
  have Hro := Lib.hid hro
  have Hih := Lib.hid ih
  have HE : Hid (∀ (i : Nat) (h1 : i < lx.length) (h2 : i < lt.length), lx[i].erase = lt[i].erase) := fun i h1 h2 => erase_at hle i h1 h2
  clear hx ht hle hro ih
  have hR : Hid (∀ b, true = b → ∀ w', Gr w w' → Ret (.bool true) w (.returned (.bool b)) w') := fun b hb w' hg => ⟨by rw [hb], hg⟩
  generalize hQ : Ret (.bool true) w = Q at hR ⊢
  clear hQ
  simp only [tm_val]
  rw [hll]
  go_enter Try.func19, Try.ntmps19
  try simp only [List.append_eq, List.cons_append, List.nil_append]
  go_upto_region 1 with fail
  obtain ⟨HX, HT, gA⟩ := two_blocks w (.int .i64 k) (.int .i64 n) (.string s) (.slice px lx.length cx) (.int .i64 k) (.int .i64 n) (.string s) (.slice pt lx.length ct)
  generalize (w.alloc (.cells #[.int .i64 k, .int .i64 n, .string s, .slice px lx.length cx] 25)).alloc (.cells #[.int .i64 k, .int .i64 n, .string s, .slice pt lx.length ct] 25) = wA at *
  obtain ⟨⟨x0, x1, x2, x3⟩, _, _⟩ := HX.out.parts
  obtain ⟨⟨t0, t1, t2, t3⟩, _, _⟩ := HT.out.parts
  go_upto_region 3 with fail
  go_wp2_with fail
  clear x0 x1 x2 x3 t0 t1 t2 t3
  go_loopg [39] lx.length (fun m i wr => ∃ j : Nat, j ≤ lx.length ∧ m = lx.length - j ∧ i = .int .i64 j ∧ Gr wA wr)
  case atStart => exact ⟨0, Nat.zero_le _, rfl, rfl, Gr.rfl' _⟩
  case round =>
    obtain ⟨j, hj, rfl, rfl, hgr⟩ := hrel
    have gr : Gr w wr := gA.trans hgr
    have HXr := Lib.hid (HX.out.gr hgr)
    have HTr := Lib.hid (HT.out.gr hgr)
    obtain ⟨⟨x0, x1, x2, x3⟩, _, _⟩ := HXr.out.parts
    obtain ⟨⟨t0, t1, t2, t3⟩, _, _⟩ := HTr.out.parts
    by_cases hlt : j < lx.length
    · obtain ⟨bx, ox, hpx⟩ := HSx.out.ptr (by omega)
      obtain ⟨bt, ot, hpt⟩ := HSt.out.ptr (by omega)
      subst hpx hpt
      obtain ⟨⟨c0, c1, c2, c3⟩, hxi, _⟩ := (HSx.out.mono gr).elem j hlt
      obtain ⟨⟨d0, d1, d2, d3⟩, hti, _⟩ := (HSt.out.mono gr).elem j (by omega)
      have hmem : lx[j] ∈ lx := List.getElem_mem hlt
      have Hix := Lib.hid (Hih.out _ hmem)
      have Hrx := Lib.hid (Tm.RoomyL_mem Hro.out.2 _ hmem)
      have Hxw := Lib.hid (Tm.InL_mem HSx.out.2.2.2 _ hmem)
      have HEj := Lib.hid (HE.out j hlt (by omega))
      have Hxi := Lib.hid hxi
      have Hti := Lib.hid hti
      clear hmem hxi hti
      generalize lx[j] = x at *
      have hjt : j < lt.length := by omega
      generalize lt[j] = y at *
      have Hxv := Lib.hid (show x.val = .agg #[.int .i64 x.k, .int .i64 x.n, .string x.s, .slice x.p x.l.length x.c] from rfl)
      have Hyv := Lib.hid (show y.val = .agg #[.int .i64 y.k, .int .i64 y.n, .string y.s, .slice y.p y.l.length y.c] from rfl)
      go_upto_region 6 with fail
      refine wp_region_rely [fx (.pointer (some ⟨w.heap.size, 3, none⟩)), fx (.slice (some ⟨bx, ox, none⟩) lx.length cx), fx (.int .i64 j), fx (.pointer (some ⟨bx, ox + j * 4, none⟩)), fx x.val, fx (.pointer (some ⟨w.heap.size + 1, 3, none⟩)), fx (.slice (some ⟨bt, ot, none⟩) lx.length ct), fx (.int .i64 j), fx (.pointer (some ⟨bt, ot + j * 4, none⟩)), fx y.val, fx (.bool true), fx (.bool false)]
        (by kernel_rfl) (by kernel_rfl) (by repeat (first | exact Stable.nil | refine Stable.fix ?_)) ?_ ?_
      · refine ⟨?_, ?_, ?_, ?_, ?_, ?_, ?_, ?_, ?_, ?_, ?a10, ?_, trivial⟩
        all_goals
          intro a wq hg hold
          have h2 : a.tmps[2]?.getD undef = .pointer (some ⟨w.heap.size, 0, none⟩) := hold 2 rfl
          have h3 : a.tmps[3]?.getD undef = .pointer (some ⟨w.heap.size + 1, 0, none⟩) := hold 3 rfl
          have h5 : a.tmps[5]?.getD undef = .int .i64 j := hold 5 rfl
          clear hold
          have X3 := Gr.at hg x3
          have T3 := Gr.at hg t3
          have C0 := Gr.at hg c0
          have C1 := Gr.at hg c1
          have C2 := Gr.at hg c2
          have C3 := Gr.at hg c3
          have D0 := Gr.at hg d0
          have D1 := Gr.at hg d1
          have D2 := Gr.at hg d2
          have D3 := Gr.at hg d3
          clear x0 x1 x2 x3 t0 t1 t2 t3 c0 c1 c2 c3 d0 d1 d2 d3
          simp [predsImp, Region.binds, dstAt, fx]
          intros
          first
            | (rw [if_pos (by simp [*])]
               intro K hK)
            | (rename_i K hK)
          go_simp
        case a10 =>
          refine (Hix.out y _ (Tm.In_below hg Hxi.out) (Tm.In_below hg Hti.out) HEj.out (Hrx.out.gr Hxw.out (gr.trans hg))).mono ?_
          rintro e w10 ⟨rfl, hg2⟩
          exact hK _ _ rfl hg2
        all_goals exact hK _ _ rfl (Gr.rfl' _)
      · intro wq hg
        rintro _ rfl _ rfl _ rfl _ rfl _ rfl _ rfl _ rfl _ rfl _ rfl _ rfl _ rfl _ rfl
        clear x0 x1 x2 x3 t0 t1 t2 t3 c0 c1 c2 c3 d0 d1 d2 d3
        simp only [finAll, Act.put, List.setIfInBounds_toArray, List.set_cons_succ, List.set_cons_zero]
        go_wp2_with fail
        go_roundg (lx.length - (j + 1))
        case measure => omega
        case rel => exact ⟨j + 1, by omega, rfl, by go_num, hgr.trans hg⟩
    · obtain rfl : j = lx.length := by omega
      by_cases h0 : lx = []
      · subst h0
        simp only [List.length_nil] at *
        go_wp2_with fail
        exact hR.out _ rfl _ gr
      · obtain ⟨bx, hpx, hcx3, hmk⟩ : ∃ b, px = some ⟨b, 0, none⟩ ∧ cx = lx.length + 3 ∧ ∀ j, j < 12 → w.cell? ⟨b, lx.length * 4 + j, none⟩ = marks[j]? := Hro.out.1.resolve_left h0
        subst hpx hcx3
        have Hmk := Lib.hid hmk
        have hpos : 0 < lx.length := List.length_pos_iff.2 h0
        clear hmk h0
        go_upto_region 12 with fail
        rw [show lx.length + 3 - lx.length = 3 by omega]
        clear x0 x1 x2 x3 t0 t1 t2 t3
        go_wp2_with fail
        go_loopg [71] 3 (fun m i wq => ∃ j : Nat, j ≤ 3 ∧ m = 3 - j ∧ i = .int .i64 j ∧ Gr wr wq)
        case atStart => exact ⟨0, by omega, rfl, rfl, Gr.rfl' _⟩
        case round =>
          obtain ⟨j, hj, rfl, rfl, hgq⟩ := hrel
          by_cases h3 : j < 3
          · have hq : ∀ r, r < 4 → wr.cell? ⟨bx, lx.length * 4 + j * 4 + r, none⟩ = markTm.cells[r]? := by
              intro r hr
              have h := Hmk.out (j * 4 + r) (by omega)
              rw [← Nat.add_assoc, marks_at j r h3 hr] at h
              match r, hr, h with
              | 0, _, h => exact Gr.at (gr.trans hgq) h
              | 1, _, h => exact Gr.at (gr.trans hgq) h
              | 2, _, h => exact Gr.at (gr.trans hgq) h
              | 3, _, h => exact Gr.at (gr.trans hgq) h
            have c0 : wr.cell? ⟨bx, lx.length * 4 + j * 4, none⟩ = some (.int .i64 9) := hq 0 (by omega)
            have c1 : wr.cell? ⟨bx, lx.length * 4 + j * 4 + 1, none⟩ = some (.int .i64 (-77)) := hq 1 (by omega)
            have c2 : wr.cell? ⟨bx, lx.length * 4 + j * 4 + 2, none⟩ = some (.string spoiltB) := hq 2 (by omega)
            have c3 : wr.cell? ⟨bx, lx.length * 4 + j * 4 + 3, none⟩ = some (.slice none 0 0) := hq 3 (by omega)
            clear hq
            go_upto_region 15 with fail
            refine wp_region_rely [fx (.slice (some ⟨bx, lx.length * 4, none⟩) 3 3), fx (.int .i64 j), fx (.pointer (some ⟨bx, lx.length * 4 + j * 4, none⟩)), fx markTm.val, fx markTm.val, fx (.bool true), fx (.bool false)]
              (by kernel_rfl) (by kernel_rfl) (by repeat (first | exact Stable.nil | refine Stable.fix ?_)) ?_ ?_
            · refine ⟨?_, ?_, ?_, ?_, ?a4, ?a5, ?_, trivial⟩
              all_goals
                intro a wp hg hold
                have h6 : a.tmps[6]?.getD undef = .slice (some ⟨bx, lx.length * 4, none⟩) 3 3 := hold 6 rfl
                have h7 : a.tmps[7]?.getD undef = .int .i64 j := hold 7 rfl
                clear hold
                have C0 := Gr.at hg c0
                have C1 := Gr.at hg c1
                have C2 := Gr.at hg c2
                have C3 := Gr.at hg c3
                clear c0 c1 c2 c3
                simp [predsImp, Region.binds, dstAt, fx]
                intros
                first
                  | (rw [if_pos (by simp [*])]
                     intro K hK)
                  | (rename_i K hK)
                go_simp
              case a4 =>
                refine (markY_calls _).mono ?_
                rintro e w10 ⟨rfl, hg2⟩
                exact hK _ _ rfl hg2
              case a5 =>
                refine (same_calls (t := markTm) (u := markTm) (mark_in _) (mark_in _)).mono ?_
                rw [same_refl]
                rintro e w10 ⟨rfl, hg2⟩
                exact hK _ _ rfl hg2
              all_goals exact hK _ _ rfl (Gr.rfl' _)
            · intro wp hg
              rintro _ rfl _ rfl _ rfl _ rfl _ rfl _ rfl _ rfl
              clear c0 c1 c2 c3
              simp only [finAll, Act.put, List.setIfInBounds_toArray, List.set_cons_succ, List.set_cons_zero]
              go_wp2_with fail
              go_roundg (3 - (j + 1))
              case measure => omega
              case rel => exact ⟨j + 1, by omega, rfl, by go_num, hgq.trans hg⟩
          · obtain rfl : j = 3 := by omega
            go_wp2_with fail
            exact hR.out _ rfl _ (gr.trans hgq)

theorem still_any (N : Nat) : ∀ x : Tm, SizeOf.sizeOf x ≤ N → stillOf x := by
  induction N with
  | zero => intro x h; cases x; simp at h
  | succ N ih =>
    intro x h t w hx ht he hr
    obtain ⟨k, n, s, p, c, l⟩ := x
    obtain ⟨k', n', s', p', c', l'⟩ := t
    rw [Tm.erase, Tm.erase] at he
    injection he with h1 h2 h3 h4
    subst h1
    subst h2
    obtain rfl := eq_of_toList h3
    exact still_step k n s p p' c c' l l' (fun x hx => ih x (by have := Tm.sizeOf_mem hx k n s p c; omega)) w hx ht h4 hr
/-- What is one's own and as it was, is still. -/
theorem still_calls {x t : Tm} {w : World} (hx : x.In w) (ht : t.In w) (he : x.erase = t.erase) (hr : x.Roomy w) : Calls Try.prog 19 #[x.val, t.val] w (Ret (.bool true) w) := still_any _ x (Nat.le_refl _) t w hx ht he hr
end Go.Proofs.Ytcblmkhhhibddaa
