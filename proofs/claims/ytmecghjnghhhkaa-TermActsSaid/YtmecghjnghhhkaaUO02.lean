/-
  An argument of type api.Term that can be read is a term that lies in the world.
  Arguments that are slices of structs: opened to lists.
  Numbers: what the document says of each operation (plain).
  Slices of binds.
-/
import Derived.Test.YtmecghjnghhhkaaUO01
import Derived.ProofKit
import Derived.OpenShut
import Derived.ShutString
import Derived.ChangeOld
import Derived.Lib.SmallJoins
import Derived.Deep.Slices
namespace Go.Proofs.Ytmecghjnghhhkaa
open Go.ChangeShapes Go.WideShapes Go.ChangeAt Go.RowKit Go.Deep

theorem own_ : ownKnob Try.prog.godebug = none := by kernel_rfl
theorem laidOut_ : laidOutB Try.prog = true := by kernel_rfl
theorem cellsTerm : Try.prog.cellsOf 27 = 4 := by kernel_rfl
theorem bytesTerm : Try.prog.bytesOf 27 = 56 := by kernel_rfl
theorem cellsI : Try.prog.cellsOf 3 = 1 := by kernel_rfl
theorem cellsI64 : Try.prog.cellsOf 2 = 1 := by kernel_rfl
theorem cellsS : Try.prog.cellsOf 9 = 1 := by kernel_rfl
theorem cellsTerms : Try.prog.cellsOf 25 = 1 := by kernel_rfl

theorem bounds64 {n : Int} (h : (Lit.int .i64 n).wf = true) : -9223372036854775808 ≤ n ∧ n ≤ 9223372036854775807 := by
  have := bounds_i64 h
  omega

theorem reach_eq : reachBytes = 140737488351232 := by decide

theorem list4 {α : Type} {l : List α} (h : l.length = 4) : ∃ a b c d, l = [a, b, c, d] := by
  match l, h with
  | [a, b, c, d], _ => exact ⟨a, b, c, d, rfl⟩

theorem weightsAll_mem {H : Type} {P : Program} {e : TypeId} {d : DataW H} : ∀ {ds : List (DataW H)}, d ∈ ds → ∀ {n : Nat}, n ∈ d.weights P e → n ∈ DataW.weightsAll P e ds
  | x :: xs, h, n, hn => by
    rw [DataW.weightsAll, List.mem_append]
    rcases List.mem_cons.1 h with rfl | h
    · exact .inl hn
    · exact .inr (weightsAll_mem h hn)

section
variable {H : Type} {enc : TypeId × Value → H} {W : World}

/-- A list of terms, each lying behind the other. -/
theorem list_of {n : Nat} {p : Nat → Tm → Prop} (h : ∀ i, i < n → ∃ x, p i x) : ∃ l : List Tm, l.length = n ∧ ∀ i x, l[i]? = some x → p i x := by
  induction n with
  | zero => exact ⟨[], rfl, fun i x hx => by simp at hx⟩
  | succ n ih =>
    obtain ⟨l, hl, hp⟩ := ih fun i hi => h i (by omega)
    obtain ⟨y, hy⟩ := h n (by omega)
    refine ⟨l ++ [y], by simp [hl], fun i x hx => ?_⟩
    by_cases hi : i < l.length
    · rw [List.getElem?_append_left hi] at hx
      exact hp i x hx
    · rw [List.getElem?_append_right (by omega)] at hx
      have : i = l.length := by
        by_cases h9 : i - l.length = 0
        · omega
        · rw [List.getElem?_cons] at hx
          simp [h9] at hx
      subst this
      simp at hx
      subst hx
      rw [hl]
      exact hy

/-- Four cells that read as a term. -/
theorem open_term (fuel : Nat) : ∀ (cs : List Value) (x : DataW H × List MemPlace), DataW.trod enc Try.prog W 0 (fun _ => true) true fuel 27 cs = some x →
    (∀ n ∈ x.1.weights Try.prog 27, n ≤ reachBytes) → ∃ t : Tm, cs = t.cells ∧ t.In W := by
  induction fuel using Nat.strongRecOn with
  | _ fuel ih =>
    intro cs x h hw
    obtain ⟨xs, m, rfl, rfl, hl, hlen, hf⟩ := DataW.trod_struct Try.underlying27 h
    rw [cellsTerm] at hl
    obtain ⟨y0, y1, y2, y3, rfl⟩ := list4 hlen
    obtain ⟨v0, v1, v2, v3, rfl⟩ := list4 hl
    have g0 := hf 0 _ rfl
    have g1 := hf 1 _ rfl
    have g2 := hf 2 _ rfl
    have g3 := hf 3 _ rfl
    simp [cellsI, cellsI64, cellsS, cellsTerms] at g0 g1 g2 g3
    obtain ⟨k, hk, rfl, wk⟩ := DataW.trod_int Try.underlying3 g0
    obtain ⟨n, hn, rfl, wn⟩ := DataW.trod_int Try.underlying2 g1
    obtain ⟨s, hs, rfl, ws⟩ := DataW.trod_string Try.underlying9 g2
    simp only [List.cons.injEq, and_true] at hk hn hs
    subst hk hn hs
    simp only [List.map_cons, List.map_nil, DataW.weights, Try.underlying27, DataW.weightsEach, List.append_nil, List.nil_append, List.mem_append, List.mem_cons, List.mem_nil_iff, or_false, List.map_cons] at hw
    have hs' : s.size ≤ 140737488351232 := by
      have h9 := hw s.data.toList.length (.inl rfl)
      rw [reach_eq] at h9
      exact h9
    rcases DataW.trod_slice Try.underlying25 g3 with ⟨hcs, hx⟩ | ⟨a, len, cap, elems, rest, n', hm, hcs, hx, _, hlc, hcm, hle, hel, hre, _⟩
    · simp only [List.cons.injEq, and_true] at hcs
      subst hcs
      refine ⟨.mk k n s none 0 [], rfl, ?_⟩
      rw [Tm.In]
      exact ⟨bounds64 wk, bounds64 wn, hs', Nat.le_refl _, ⟨by simp, by omega⟩, .inl rfl, by rw [Tm.InL]; trivial⟩
    · simp only [List.cons.injEq, and_true] at hcs
      subst hcs
      subst hx
      subst hm
      have hrl := (hre rfl).1
      simp only [DataW.weights, Try.underlying25, List.length_map, List.mem_cons, List.mem_append, bytesTerm] at hw
      have hcap : cap * 56 ≤ 140737488351232 := by
        have h9 := hw ((elems.length + rest.length) * 56) (.inr (.inl rfl))
        rw [reach_eq, hle, hrl] at h9
        have : len + (cap - len) = cap := by omega
        rwa [this] at h9
      have hall : ∀ i, i < len → ∃ x : Tm, (∃ cs', W.cells? 0 (a.add (i * 4)) 4 = some cs' ∧ cs' = x.cells) ∧ x.In W := by
        intro i hi
        have h9 := hel i hi
        have hi' : i < elems.length := by omega
        rw [cellsTerm, List.getElem?_eq_getElem hi', Option.bind_eq_some_iff] at h9
        obtain ⟨cs', h10, h11⟩ := h9
        obtain ⟨t, ht, hin⟩ := ih n' (by omega) cs' _ h11 fun q hq => hw q (.inr (.inr (.inl (weightsAll_mem (List.mem_map.2 ⟨_, List.getElem_mem hi', rfl⟩) hq))))
        exact ⟨t, ⟨cs', h10, ht⟩, hin⟩
      obtain ⟨l, hll, hlp⟩ := list_of hall
      refine ⟨.mk k n s (some a) cap l, by rw [← hll]; rfl, ?_⟩
      rw [Tm.In]
      refine ⟨bounds64 wk, bounds64 wn, hs', by omega, by omega, ?_, Tm.InL_of fun x hx => ?_⟩
      · by_cases hl0 : l = []
        · exact .inl hl0
        · refine .inr ?_
          have h0 : 0 < l.length := List.length_pos_iff.2 hl0
          obtain ⟨⟨cs', h10, h12⟩, _⟩ := hlp 0 l[0] (List.getElem?_eq_getElem h0)
          obtain ⟨_, _, hc⟩ := World.cells?_some h10
          have hc0 := hc 0 (by omega)
          obtain ⟨b, o, spot⟩ := a
          have hspot : spot = none := by
            have h13 : W.cell? ⟨b, o, spot⟩ = some (.int .i64 l[0].k) := by rw [h12] at hc0; simpa [Addr.add, Tm.cells] using hc0
            exact World.cell?_spot h13
          subst hspot
          refine ⟨b, o, rfl, fun i x hx => ?_⟩
          obtain ⟨⟨cs'', h10, h12⟩, _⟩ := hlp i x hx
          obtain ⟨_, _, hc⟩ := World.cells?_some h10
          rw [h12] at hc
          have e0 := hc 0 (by omega)
          have e1 := hc 1 (by omega)
          have e2 := hc 2 (by omega)
          have e3 := hc 3 (by omega)
          rw [add_plain, add_plain] at e0 e1 e2 e3
          exact ⟨e0, e1, e2, e3⟩
      · obtain ⟨i, hi, rfl⟩ := List.getElem_of_mem hx
        exact (hlp i l[i] (List.getElem?_eq_getElem hi)).2

set_option maxRecDepth 100000 in
/-- An argument of type api.Term. -/
theorem open_term_arg {r : Reach} {b0 : Nat} {v : Value} {d : DataW H} {p : List MemPlace} (hv : Value.okWide Try.prog W r b0 27 v)
    (h : DataW.Trod enc Try.prog W 0 (fun _ => true) true 27 v d p) (hw : ∀ n ∈ d.weights Try.prog 27, n ≤ reachBytes) : ∃ t : Tm, v = t.val ∧ t.In W := by
  obtain ⟨cs, rfl, hsz⟩ := okWide_struct Try.underlying27 hv
  obtain ⟨fuel, hf⟩ := h
  obtain ⟨t, ht, hin⟩ := open_term fuel _ _ hf hw
  refine ⟨t, ?_, hin⟩
  have : cs.toList = t.cells := ht
  unfold Tm.val
  congr 1
  rw [← Array.toArray_toList (xs := cs), this]
  rfl
end
end Go.Proofs.Ytmecghjnghhhkaa

namespace Go.Proofs.Ytmecghjnghhhkaa
open Go.ChangeShapes Go.WideShapes Go.ChangeAt Go.RowKit Go.Deep

theorem list_of_any {X : Type} {n : Nat} {p : Nat → X → Prop} (h : ∀ i, i < n → ∃ x, p i x) : ∃ l : List X, l.length = n ∧ ∀ i x, l[i]? = some x → p i x := by
  induction n with
  | zero => exact ⟨[], rfl, fun i x hx => by simp at hx⟩
  | succ n ih =>
    obtain ⟨l, hl, hp⟩ := ih fun i hi => h i (by omega)
    obtain ⟨y, hy⟩ := h n (by omega)
    refine ⟨l ++ [y], by simp [hl], fun i x hx => ?_⟩
    by_cases hi : i < l.length
    · rw [List.getElem?_append_left hi] at hx
      exact hp i x hx
    · rw [List.getElem?_append_right (by omega)] at hx
      have h0 : i = l.length := by
        have := (List.getElem?_eq_some_iff.1 hx).1
        simp at this
        omega
      subst h0
      simp only [Nat.sub_self, List.getElem?_cons_zero, Option.some.injEq] at hx
      subst hx
      rw [hl]
      exact hy

section
variable {H : Type} {enc : TypeId × Value → H} {W : World}

/-- A slice whose elements can be opened. -/
theorem open_slice_el {X : Type} {E T : TypeId} {sz bytes : Nat} (cellsX : X → List Value) (InX : X → Prop) (ht : Try.prog.underlying T = some (.slice E)) (hc : Try.prog.cellsOf E = sz) (hb : Try.prog.bytesOf E = bytes)
    (hel : ∀ (fuel : Nat) (cs : List Value) (x : DataW H × List MemPlace), DataW.trod enc Try.prog W 0 (fun _ => true) true fuel E cs = some x → (∀ n ∈ x.1.weights Try.prog E, n ≤ reachBytes) → ∃ y : X, cs = cellsX y ∧ InX y)
    {fuel : Nat} {cs : List Value} {x : DataW H × List MemPlace} (h : DataW.trod enc Try.prog W 0 (fun _ => true) true fuel T cs = some x) (hw : ∀ n ∈ x.1.weights Try.prog T, n ≤ reachBytes) :
    cs = [.slice none 0 0] ∨ ∃ (a : Addr) (cap : Nat) (l : List X), cs = [.slice (some a) l.length cap] ∧ l.length ≤ cap ∧ cap ≤ 9223372036854775807 ∧ cap * bytes ≤ 140737488351232 ∧
      ∀ i y, l[i]? = some y → W.cells? 0 (a.add (i * sz)) sz = some (cellsX y) ∧ InX y := by
  rcases DataW.trod_slice ht h with ⟨hcs, _⟩ | ⟨a, len, cap, elems, rest, n', hm, hcs, hx, _, hlc, hcm, hle, hel', hre, _⟩
  · exact .inl hcs
  · right
    subst hx
    subst hm
    have hrl := (hre rfl).1
    simp only [DataW.weights, ht, List.length_map, List.mem_cons, List.mem_append, hb] at hw
    have hcap : cap * bytes ≤ 140737488351232 := by
      have h9 := hw ((elems.length + rest.length) * bytes) (.inl rfl)
      rw [reach_eq, hle, hrl] at h9
      have : len + (cap - len) = cap := by omega
      rwa [this] at h9
    have hall : ∀ i, i < len → ∃ y : X, W.cells? 0 (a.add (i * sz)) sz = some (cellsX y) ∧ InX y := by
      intro i hi
      have h9 := hel' i hi
      have hi' : i < elems.length := by omega
      rw [hc, List.getElem?_eq_getElem hi', Option.bind_eq_some_iff] at h9
      obtain ⟨cs', h10, h11⟩ := h9
      obtain ⟨y, hy, hin⟩ := hel n' cs' _ h11 fun q hq => hw q (.inr (.inl (weightsAll_mem (List.mem_map.2 ⟨_, List.getElem_mem hi', rfl⟩) hq)))
      exact ⟨y, by rw [h10, hy], hin⟩
    obtain ⟨l, hll, hlp⟩ := list_of_any hall
    simp only [maxLen] at hcm
    exact ⟨a, cap, l, by rw [hcs, hll], by omega, by omega, hcap, hlp⟩

theorem list5 {α : Type} {l : List α} (h : l.length = 5) : ∃ a b c d e, l = [a, b, c, d, e] := by
  match l, h with
  | [a, b, c, d, e], _ => exact ⟨a, b, c, d, e, rfl⟩
theorem list2 {α : Type} {l : List α} (h : l.length = 2) : ∃ a b, l = [a, b] := by
  match l, h with
  | [a, b], _ => exact ⟨a, b, rfl⟩
theorem list3 {α : Type} {l : List α} (h : l.length = 3) : ∃ a b c, l = [a, b, c] := by
  match l, h with
  | [a, b, c], _ => exact ⟨a, b, c, rfl⟩
end
end Go.Proofs.Ytmecghjnghhhkaa

namespace Go.Proofs.Ytmecghjnghhhkaa
open Go.RowKit

abbrev Str := List UInt8
def sOverflow : Str := [111, 118, 101, 114, 102, 108, 111, 119]
def sZero : Str := [122, 101, 114, 111, 95, 100, 105, 118, 105, 100, 101]
def sNegative : Str := [110, 101, 103, 97, 116, 105, 118, 101]
def sUnbound : Str := [117, 110, 98, 111, 117, 110, 100]
def sNotEval : Str := [110, 111, 116, 95, 101, 118, 97, 108, 117, 97, 98, 108, 101]

/-- A number that fits, or a name of what went wrong. -/
inductive Num where
  | ok (n : Int)
  | bad (s : Str)

def In64 (n : Int) : Prop := -9223372036854775808 ≤ n ∧ n ≤ 9223372036854775807
instance (n : Int) : Decidable (In64 n) := inferInstanceAs (Decidable (_ ∧ _))

def ov (n : Int) : Num := if In64 n then .ok n else .bad sOverflow

theorem ov_ok {n : Int} (h : -9223372036854775808 ≤ n) (h' : n ≤ 9223372036854775807) : ov n = .ok n := if_pos ⟨h, h'⟩
theorem ov_bad {n : Int} (h : n < -9223372036854775808 ∨ 9223372036854775807 < n) : ov n = .bad sOverflow := if_neg fun ⟨h1, h2⟩ => by omega

def nAdd (a b : Int) : Num := ov (a + b)
def nSub (a b : Int) : Num := ov (a - b)
def nMul (a b : Int) : Num := ov (a * b)
def nQuo (a b : Int) : Num := if b = 0 then .bad sZero else ov (a.tdiv b)
def nRem (a b : Int) : Num := if b = 0 then .bad sZero else .ok (a.tmod b)
def nDiv (a b : Int) : Num := if b = 0 then .bad sZero else ov (a.fdiv b)
def nMod (a b : Int) : Num := if b = 0 then .bad sZero else .ok (a.fmod b)
def nMin (a b : Int) : Num := .ok (if a < b then a else b)
def nMax (a b : Int) : Num := .ok (if a < b then b else a)
def nGcd (a b : Int) : Num := ov (Nat.gcd a.natAbs b.natAbs)
def nPow (a b : Int) : Num := if b < 0 then .bad sNegative else ov (a ^ b.toNat)
def nLeft (a b : Int) : Num := if b < 0 then .bad sNegative else ov (a * 2 ^ b.toNat)
def nRight (a b : Int) : Num := if b < 0 then .bad sNegative else .ok (a / 2 ^ b.toNat)
def nAnd (a b : Int) : Num := .ok (bits .and .i64 a b)
def nOr (a b : Int) : Num := .ok (bits .or .i64 a b)
def nXor (a b : Int) : Num := .ok (bits .xor .i64 a b)
def nNeg (a : Int) : Num := ov (-a)
def nAbs (a : Int) : Num := ov a.natAbs
def nSign (a : Int) : Num := .ok (if a < 0 then -1 else if 0 < a then 1 else 0)
def nNot (a : Int) : Num := .ok (-1 - a)

/-- An atom's value. -/
def atomTm (s : ByteArray) : Tm := .mk 3 0 s none 0 []
def atomT (s : Str) : T := .mk 3 0 s []
theorem atomTm_erase (s : ByteArray) : (atomTm s).erase = atomT s.toList := by simp [atomTm, atomT, Tm.erase, Tm.eraseL]
theorem atomTm_in {s : ByteArray} (h : s.size ≤ 140737488351232) (w : World) : (atomTm s).In w := by
  rw [atomTm, Tm.In, Tm.InL]
  exact ⟨⟨by omega, by omega⟩, ⟨by omega, by omega⟩, h, Nat.le_refl _, ⟨by simp, by omega⟩, .inl rfl, trivial⟩

/-- Thrown: a ball that is this term. -/
def Thrown (ty : TypeId) (t : T) (w : World) (e : Ending) (w' : World) : Prop :=
  ∃ b : Tm, b.In w' ∧ b.erase = t ∧ e = .panicked [{ v := .iface ty b.val, recovered := false }] ∧ Gr w w'

/-- A number is handed back, or a ball is thrown. -/
def NumIs (ty : TypeId) (r : Num) (w : World) (e : Ending) (w' : World) : Prop :=
  match r with
  | .ok n => e = .returned (.int .i64 n) ∧ Gr w w' ∧ In64 n
  | .bad s => Thrown ty (atomT s) w e w'

theorem num_ok {ty : TypeId} {r : Num} {n m : Int} {w w' : World} (h : r = .ok n) (hm : m = n) (hg : Gr w w') (hi : In64 n) : NumIs ty r w (.returned (.int .i64 m)) w' := by
  subst h hm
  exact ⟨rfl, hg, hi⟩
theorem num_bad {ty : TypeId} {r : Num} {s : ByteArray} {l : Str} {c : List PanicEntry} {w w' : World} (h : r = .bad l) (hl : s.toList = l) (hs : s.size ≤ 140737488351232) (hc : c = [{ v := .iface ty (atomTm s).val, recovered := false }]) (hg : Gr w w') : NumIs ty r w (.panicked c) w' := by
  subst h hc hl
  exact ⟨atomTm s, atomTm_in hs _, atomTm_erase s, rfl, hg⟩

theorem overflowL : (ByteArray.mk #[111, 118, 101, 114, 102, 108, 111, 119]).toList = sOverflow := ByteArray.toList_mk _
theorem zeroL : (ByteArray.mk #[122, 101, 114, 111, 95, 100, 105, 118, 105, 100, 101]).toList = sZero := ByteArray.toList_mk _
theorem negativeL : (ByteArray.mk #[110, 101, 103, 97, 116, 105, 118, 101]).toList = sNegative := ByteArray.toList_mk _
theorem unboundL : (ByteArray.mk #[117, 110, 98, 111, 117, 110, 100]).toList = sUnbound := ByteArray.toList_mk _
end Go.Proofs.Ytmecghjnghhhkaa

namespace Go.Proofs.Ytmecghjnghhhkaa
open Go.ChangeShapes Go.WideShapes Go.ChangeAt Go.RowKit Go.Deep

section
variable {H : Type} {enc : TypeId × Value → H} {W : World}

/-- A bind with its addresses. -/
structure Bd where
  v : Int
  t : Tm

def Bd.cells (x : Bd) : List Value := .int .i64 x.v :: x.t.cells

def Bd.row (w : World) (b o : Nat) (l : List Bd) : Prop :=
  ∀ (i : Nat) (x : Bd), l[i]? = some x →
    w.cell? ⟨b, o + i * 5, none⟩ = some (.int .i64 x.v) ∧ w.cell? ⟨b, o + i * 5 + 1, none⟩ = some (.int .i64 x.t.k) ∧ w.cell? ⟨b, o + i * 5 + 1 + 1, none⟩ = some (.int .i64 x.t.n) ∧
    w.cell? ⟨b, o + i * 5 + 1 + 2, none⟩ = some (.string x.t.s) ∧ w.cell? ⟨b, o + i * 5 + 1 + 3, none⟩ = some (.slice x.t.p x.t.l.length x.t.c)

/-- A slice of binds. -/
structure Bds where
  p : Option Addr
  c : Nat
  l : List Bd

def Bds.val (x : Bds) : Value := .slice x.p x.l.length x.c
def Bds.In (w : World) (x : Bds) : Prop :=
  x.l.length ≤ x.c ∧ (x.l.length * 64 ≤ 140737488351232 ∧ x.c ≤ 9223372036854775807) ∧ (x.l = [] ∨ ∃ b o, x.p = some ⟨b, o, none⟩ ∧ Bd.row w b o x.l) ∧ ∀ y ∈ x.l, y.t.In w ∧ In64 y.v

theorem Bd.row_lt {w : World} {b o : Nat} {l : List Bd} (h : Bd.row w b o l) (hl : l ≠ []) : b < w.heap.size := by
  cases l with
  | nil => exact absurd rfl hl
  | cons x xs => exact World.block_lt_of_cell? _ _ (h 0 x rfl).1

theorem Bds.In.mono {w w' : World} {x : Bds} (h : x.In w) (hg : Gr w w') : x.In w' := by
  obtain ⟨h1, h2, h3, h4⟩ := h
  refine ⟨h1, h2, ?_, fun y hy => ⟨Tm.In_below hg (h4 y hy).1, (h4 y hy).2⟩⟩
  rcases h3 with h3 | ⟨b, o, hp, hr⟩
  · exact .inl h3
  · by_cases hl : x.l = []
    · exact .inl hl
    · refine .inr ⟨b, o, hp, fun i y hy => ?_⟩
      have hlt := Bd.row_lt hr hl
      have hs : ∀ o', w'.cell? ⟨b, o', none⟩ = w.cell? ⟨b, o', none⟩ := fun o' => hg.cell (p := ⟨b, o', none⟩) hlt
      have := hr i y hy
      simpa only [hs] using this

theorem Bds.In.elem {w : World} {b o : Nat} {c : Nat} {l : List Bd} (h : (Bds.mk (some ⟨b, o, none⟩) c l).In w) (i : Nat) (hi : i < l.length) :
    (w.cell? ⟨b, o + i * 5, none⟩ = some (.int .i64 l[i].v) ∧ w.cell? ⟨b, o + i * 5 + 1, none⟩ = some (.int .i64 l[i].t.k) ∧ w.cell? ⟨b, o + i * 5 + 1 + 1, none⟩ = some (.int .i64 l[i].t.n) ∧
    w.cell? ⟨b, o + i * 5 + 1 + 2, none⟩ = some (.string l[i].t.s) ∧ w.cell? ⟨b, o + i * 5 + 1 + 3, none⟩ = some (.slice l[i].t.p l[i].t.l.length l[i].t.c)) ∧ l[i].t.In w ∧ In64 l[i].v ∧ b < w.heap.size := by
  obtain ⟨_, _, h3, h4⟩ := h
  rcases h3 with rfl | ⟨b', o', hp, hr⟩
  · simp at hi
  · cases hp
    exact ⟨hr i l[i] (List.getElem?_eq_getElem hi), (h4 _ (List.getElem_mem hi)).1, (h4 _ (List.getElem_mem hi)).2, Bd.row_lt hr (by rintro rfl; simp at hi)⟩

theorem Bds.In.ptr {w : World} {p : Option Addr} {c : Nat} {l : List Bd} (h : (Bds.mk p c l).In w) (hl : 0 < l.length) : ∃ b o, p = some ⟨b, o, none⟩ := by
  obtain ⟨_, _, h3, _⟩ := h
  rcases h3 with rfl | ⟨b', o', hp, _⟩
  · simp at hl
  · exact ⟨b', o', hp⟩

theorem cellsBind : Try.prog.cellsOf 114 = 5 := by kernel_rfl
theorem bytesBind : Try.prog.bytesOf 114 = 64 := by kernel_rfl

set_option maxRecDepth 100000 in
theorem open_bd (fuel : Nat) (cs : List Value) (x : DataW H × List MemPlace) (h : DataW.trod enc Try.prog W 0 (fun _ => true) true fuel 114 cs = some x)
    (hw : ∀ n ∈ x.1.weights Try.prog 114, n ≤ reachBytes) : ∃ y : Bd, cs = y.cells ∧ y.t.In W ∧ In64 y.v := by
  obtain ⟨xs, m, rfl, rfl, hl, hlen, hf⟩ := DataW.trod_struct Try.underlying114 h
  rw [cellsBind] at hl
  obtain ⟨y0, y1, rfl⟩ := list2 hlen
  obtain ⟨v0, v1, v2, v3, v4, rfl⟩ := list5 hl
  have g0 := hf 0 _ rfl
  have g1 := hf 1 _ rfl
  simp [cellsI64, cellsTerm] at g0 g1
  obtain ⟨k, hk, rfl, wk⟩ := DataW.trod_int Try.underlying2 g0
  simp only [List.cons.injEq, and_true] at hk
  subst hk
  simp only [List.map_cons, List.map_nil, DataW.weights, Try.underlying114, DataW.weightsEach, List.append_nil, List.nil_append] at hw
  obtain ⟨t, ht, hin⟩ := open_term m _ _ g1 fun n hn => hw n hn
  exact ⟨⟨k, t⟩, by rw [Bd.cells, ← ht], hin, bounds64 wk⟩

set_option maxRecDepth 100000 in
/-- An argument of type []api.Bind. -/
theorem open_binds_arg {r : Reach} {b0 : Nat} {v : Value} {d : DataW H} {p : List MemPlace} (hv : Value.okWide Try.prog W r b0 30 v)
    (h : DataW.Trod enc Try.prog W 0 (fun _ => true) true 30 v d p) (hw : ∀ n ∈ d.weights Try.prog 30, n ≤ reachBytes) : ∃ x : Bds, v = x.val ∧ x.In W := by
  obtain ⟨a0, len0, cap0, rfl⟩ := okWide_slice Try.underlying30 hv
  obtain ⟨fuel, hf⟩ := h
  rcases open_slice_el Bd.cells (fun y => y.t.In W ∧ In64 y.v) Try.underlying30 cellsBind bytesBind open_bd hf hw with hcs | ⟨a, cap, l, hcs, h1, h2, h3, h4⟩
  · simp [Value.cells] at hcs
    obtain ⟨rfl, rfl, rfl⟩ := hcs
    exact ⟨⟨none, 0, []⟩, rfl, Nat.le_refl _, ⟨by simp, by simp⟩, .inl rfl, fun y hy => by simp at hy⟩
  · simp [Value.cells] at hcs
    obtain ⟨rfl, rfl, rfl⟩ := hcs
    refine ⟨⟨some a, cap0, l⟩, rfl, h1, ⟨by simp only; omega, h2⟩, ?_, fun y hy => ?_⟩
    · by_cases hl0 : l = []
      · exact .inl hl0
      · right
        have h0 : 0 < l.length := List.length_pos_iff.2 hl0
        obtain ⟨h10, _⟩ := h4 0 l[0] (List.getElem?_eq_getElem h0)
        obtain ⟨_, _, hc⟩ := World.cells?_some h10
        have hc0 := hc 0 (by omega)
        obtain ⟨b, o, spot⟩ := a
        have hspot : spot = none := by
          have h13 : W.cell? ⟨b, o, spot⟩ = some (.int .i64 l[0].v) := by simpa [Addr.add, Bd.cells] using hc0
          exact World.cell?_spot h13
        subst hspot
        refine ⟨b, o, rfl, fun i x hx => ?_⟩
        obtain ⟨h10, _⟩ := h4 i x hx
        obtain ⟨_, _, hc⟩ := World.cells?_some h10
        have e0 := hc 0 (by omega)
        have e1 := hc 1 (by omega)
        have e2 := hc 2 (by omega)
        have e3 := hc 3 (by omega)
        have e4 := hc 4 (by omega)
        rw [add_plain, add_plain] at e0 e1 e2 e3 e4
        exact ⟨e0, e1, e2, e3, e4⟩
    · obtain ⟨i, hi, rfl⟩ := List.getElem_of_mem hy
      exact (h4 i l[i] (List.getElem?_eq_getElem hi)).2
end
end Go.Proofs.Ytmecghjnghhhkaa
