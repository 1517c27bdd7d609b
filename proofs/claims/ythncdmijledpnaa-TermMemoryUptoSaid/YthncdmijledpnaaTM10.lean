/-
  An argument of type api.Term that can be read: how many parts it has at most.
  Arguments that are slices of structs: opened to lists.
  Arguments of type []api.Term and []int that can be read, and how many elements they have at most.
  Slices of binds.
  Arguments of type []api.Bind that can be read, and how many elements they have at most.
  Substitutions, plain: maps of maps, variables that occur, sizes, what goes through what.
  The two counts of a term are one.
  hornref.Find, hornref.Apply
-/
import Derived.Test.YthncdmijledpnaaTM02
import Derived.Test.YthncdmijledpnaaTM09
import Derived.Test.YthncdmijledpnaaRows
import Derived.Deep.Slices
import Derived.Test.YthncdmijledpnaaTM03
import Derived.Test.YthncdmijledpnaaTM04
namespace Go.Proofs.Ythncdmijledpnaa
open Go.ChangeShapes Go.WideShapes Go.ChangeAt Go.RowKit Go.Deep

theorem sizeL_le {H : Type} {β : Type} : ∀ {l : List Tm} {es : List (DataW H × β)}, l.length ≤ es.length → (∀ (i : Nat) (x : Tm) (y : DataW H × β), l[i]? = some x → es[i]? = some y → x.erase.size ≤ Rows.uptoBulk y.1) → T.sizeL (Tm.eraseL l) ≤ Rows.uptoBulkAll (es.map Prod.fst)
  | [], _, _, _ => by rw [Tm.eraseL, T.sizeL]; omega
  | x :: xs, [], h, _ => by simp at h
  | x :: xs, y :: ys, h, hp => by
    have h1 := hp 0 x y rfl rfl
    have h2 := sizeL_le (l := xs) (es := ys) (by simpa using h) fun i x y hx hy => hp (i + 1) x y (by simpa using hx) (by simpa using hy)
    rw [Tm.eraseL, T.sizeL, List.map_cons, Rows.uptoBulkAll]
    omega

section
variable {H : Type} {enc : TypeId × Value → H} {W : World}

/-- Four cells that read as a term. -/
theorem open_termU (fuel : Nat) : ∀ (cs : List Value) (x : DataW H × List MemPlace), DataW.trod enc Try.prog W 0 (fun _ => true) true fuel 25 cs = some x →
    (∀ n ∈ x.1.weights Try.prog 25, n ≤ reachBytes) → ∃ t : Tm, cs = t.cells ∧ t.In W ∧ t.erase.size ≤ Rows.uptoBulk x.1 := by
  induction fuel using Nat.strongRecOn with
  | _ fuel ih =>
    intro cs x h hw
    obtain ⟨xs, m, rfl, rfl, hl, hlen, hf⟩ := DataW.trod_struct Try.underlying25 h
    rw [cellsTerm] at hl
    obtain ⟨y0, y1, y2, y3, rfl⟩ := list4 hlen
    obtain ⟨v0, v1, v2, v3, rfl⟩ := list4 hl
    have g0 := hf 0 _ rfl
    have g1 := hf 1 _ rfl
    have g2 := hf 2 _ rfl
    have g3 := hf 3 _ rfl
    simp [cellsI, cellsI64, cellsS, cellsTerms] at g0 g1 g2 g3
    obtain ⟨k, hk, rfl, wk⟩ := DataW.trod_int Try.underlying3 g0
    obtain ⟨n, hn, rfl, wn⟩ := DataW.trod_int Try.underlying2 g1
    obtain ⟨s, hs, rfl, ws⟩ := DataW.trod_string Try.underlying9 g2
    simp only [List.cons.injEq, and_true] at hk hn hs
    subst hk hn hs
    simp only [List.map_cons, List.map_nil, DataW.weights, Try.underlying25, DataW.weightsEach, List.append_nil, List.nil_append, List.mem_append, List.mem_cons, List.mem_nil_iff, or_false, List.map_cons] at hw
    have hs' : s.size ≤ 140737488351232 := by
      have h9 := hw s.data.toList.length (.inl rfl)
      rw [reach_eq] at h9
      exact h9
    rcases DataW.trod_slice Try.underlying23 g3 with ⟨hcs, hx⟩ | ⟨a, len, cap, elems, rest, n', hm, hcs, hx, _, hlc, hcm, hle, hel, hre, _⟩
    · simp only [List.cons.injEq, and_true] at hcs
      subst hcs
      refine ⟨.mk k n s none 0 [], rfl, ?_, by simp only [List.map_cons, List.map_nil, Tm.erase, Tm.eraseL, T.size, T.sizeL, Rows.uptoBulk, Rows.uptoBulkAll]; omega⟩
      rw [Tm.In]
      exact ⟨bounds64 wk, bounds64 wn, hs', Nat.le_refl _, ⟨by simp, by omega⟩, .inl rfl, by rw [Tm.InL]; trivial⟩
    · simp only [List.cons.injEq, and_true] at hcs
      subst hcs
      subst hx
      subst hm
      have hrl := (hre rfl).1
      simp only [DataW.weights, Try.underlying23, List.length_map, List.mem_cons, List.mem_append, bytesTerm] at hw
      have hcap : cap * 56 ≤ 140737488351232 := by
        have h9 := hw ((elems.length + rest.length) * 56) (.inr (.inl rfl))
        rw [reach_eq, hle, hrl] at h9
        have : len + (cap - len) = cap := by omega
        rwa [this] at h9
      have hall : ∀ i, i < len → ∃ x : Tm, (∃ cs', W.cells? 0 (a.add (i * 4)) 4 = some cs' ∧ cs' = x.cells) ∧ x.In W ∧ ∀ y, elems[i]? = some y → x.erase.size ≤ Rows.uptoBulk y.1 := by
        intro i hi
        have h9 := hel i hi
        have hi' : i < elems.length := by omega
        rw [cellsTerm, List.getElem?_eq_getElem hi', Option.bind_eq_some_iff] at h9
        obtain ⟨cs', h10, h11⟩ := h9
        obtain ⟨t, ht, hin, hz⟩ := ih n' (by omega) cs' _ h11 fun q hq => hw q (.inr (.inr (.inl (weightsAll_mem (List.mem_map.2 ⟨_, List.getElem_mem hi', rfl⟩) hq))))
        exact ⟨t, ⟨cs', h10, ht⟩, hin, fun y hy => by rw [List.getElem?_eq_getElem hi'] at hy; cases hy; exact hz⟩
      obtain ⟨l, hll, hlp⟩ := list_of hall
      have hsum : T.sizeL (Tm.eraseL l) ≤ Rows.uptoBulkAll (elems.map Prod.fst) := sizeL_le (by omega) fun i x y hx hy => (hlp i x hx).2.2 y hy
      refine ⟨.mk k n s (some a) cap l, by rw [← hll]; rfl, ?_, by simp only [List.map_cons, List.map_nil, Tm.erase, T.size, Rows.uptoBulk, Rows.uptoBulkAll]; have hsum2 : T.sizeL (Tm.eraseL l) ≤ Rows.uptoBulkAll (List.map (fun x => x.1) elems) := hsum; omega⟩
      rw [Tm.In]
      refine ⟨bounds64 wk, bounds64 wn, hs', by omega, by omega, ?_, Tm.InL_of fun x hx => ?_⟩
      · by_cases hl0 : l = []
        · exact .inl hl0
        · refine .inr ?_
          have h0 : 0 < l.length := List.length_pos_iff.2 hl0
          obtain ⟨⟨cs', h10, h12⟩, _⟩ := hlp 0 l[0] (List.getElem?_eq_getElem h0)
          obtain ⟨_, _, hc⟩ := World.cells?_some h10
          have hc0 := hc 0 (by omega)
          obtain ⟨b, o, spot⟩ := a
          have hspot : spot = none := by
            have h13 : W.cell? ⟨b, o, spot⟩ = some (.int .i64 l[0].k) := by rw [h12] at hc0; simpa [Addr.add, Tm.cells] using hc0
            exact World.cell?_spot h13
          subst hspot
          refine ⟨b, o, rfl, fun i x hx => ?_⟩
          obtain ⟨⟨cs'', h10, h12⟩, _⟩ := hlp i x hx
          obtain ⟨_, _, hc⟩ := World.cells?_some h10
          rw [h12] at hc
          have e0 := hc 0 (by omega)
          have e1 := hc 1 (by omega)
          have e2 := hc 2 (by omega)
          have e3 := hc 3 (by omega)
          rw [add_plain, add_plain] at e0 e1 e2 e3
          exact ⟨e0, e1, e2, e3⟩
      · obtain ⟨i, hi, rfl⟩ := List.getElem_of_mem hx
        exact (hlp i l[i] (List.getElem?_eq_getElem hi)).2.1

set_option maxRecDepth 100000 in
/-- An argument of type api.Term. -/
theorem open_termU_arg {r : Reach} {b0 : Nat} {v : Value} {d : DataW H} {p : List MemPlace} (hv : Value.okWide Try.prog W r b0 25 v)
    (h : DataW.Trod enc Try.prog W 0 (fun _ => true) true 25 v d p) (hw : ∀ n ∈ d.weights Try.prog 25, n ≤ reachBytes) : ∃ t : Tm, v = t.val ∧ t.In W ∧ t.erase.size ≤ Rows.uptoBulk d := by
  obtain ⟨cs, rfl, hsz⟩ := okWide_struct Try.underlying25 hv
  obtain ⟨fuel, hf⟩ := h
  obtain ⟨t, ht, hin, hz⟩ := open_termU fuel _ _ hf hw
  refine ⟨t, ?_, hin, hz⟩
  have : cs.toList = t.cells := ht
  unfold Tm.val
  congr 1
  rw [← Array.toArray_toList (xs := cs), this]
  rfl
end
end Go.Proofs.Ythncdmijledpnaa

namespace Go.Proofs.Ythncdmijledpnaa
open Go.ChangeShapes Go.WideShapes Go.ChangeAt Go.RowKit Go.Deep

theorem list_of_any {X : Type} {n : Nat} {p : Nat → X → Prop} (h : ∀ i, i < n → ∃ x, p i x) : ∃ l : List X, l.length = n ∧ ∀ i x, l[i]? = some x → p i x := by
  induction n with
  | zero => exact ⟨[], rfl, fun i x hx => by simp at hx⟩
  | succ n ih =>
    obtain ⟨l, hl, hp⟩ := ih fun i hi => h i (by omega)
    obtain ⟨y, hy⟩ := h n (by omega)
    refine ⟨l ++ [y], by simp [hl], fun i x hx => ?_⟩
    by_cases hi : i < l.length
    · rw [List.getElem?_append_left hi] at hx
      exact hp i x hx
    · rw [List.getElem?_append_right (by omega)] at hx
      have h0 : i = l.length := by
        have := (List.getElem?_eq_some_iff.1 hx).1
        simp at this
        omega
      subst h0
      simp only [Nat.sub_self, List.getElem?_cons_zero, Option.some.injEq] at hx
      subst hx
      rw [hl]
      exact hy

section
variable {H : Type} {enc : TypeId × Value → H} {W : World}

/-- A slice whose elements can be opened. -/
theorem open_slice_el {X : Type} {E T : TypeId} {sz bytes : Nat} (cellsX : X → List Value) (InX : X → Prop) (ht : Try.prog.underlying T = some (.slice E)) (hc : Try.prog.cellsOf E = sz) (hb : Try.prog.bytesOf E = bytes)
    (hel : ∀ (fuel : Nat) (cs : List Value) (x : DataW H × List MemPlace), DataW.trod enc Try.prog W 0 (fun _ => true) true fuel E cs = some x → (∀ n ∈ x.1.weights Try.prog E, n ≤ reachBytes) → ∃ y : X, cs = cellsX y ∧ InX y)
    {fuel : Nat} {cs : List Value} {x : DataW H × List MemPlace} (h : DataW.trod enc Try.prog W 0 (fun _ => true) true fuel T cs = some x) (hw : ∀ n ∈ x.1.weights Try.prog T, n ≤ reachBytes) :
    cs = [.slice none 0 0] ∨ ∃ (a : Addr) (cap : Nat) (l : List X), cs = [.slice (some a) l.length cap] ∧ l.length ≤ cap ∧ cap ≤ 9223372036854775807 ∧ cap * bytes ≤ 140737488351232 ∧
      ∀ i y, l[i]? = some y → W.cells? 0 (a.add (i * sz)) sz = some (cellsX y) ∧ InX y := by
  rcases DataW.trod_slice ht h with ⟨hcs, _⟩ | ⟨a, len, cap, elems, rest, n', hm, hcs, hx, _, hlc, hcm, hle, hel', hre, _⟩
  · exact .inl hcs
  · right
    subst hx
    subst hm
    have hrl := (hre rfl).1
    simp only [DataW.weights, ht, List.length_map, List.mem_cons, List.mem_append, hb] at hw
    have hcap : cap * bytes ≤ 140737488351232 := by
      have h9 := hw ((elems.length + rest.length) * bytes) (.inl rfl)
      rw [reach_eq, hle, hrl] at h9
      have : len + (cap - len) = cap := by omega
      rwa [this] at h9
    have hall : ∀ i, i < len → ∃ y : X, W.cells? 0 (a.add (i * sz)) sz = some (cellsX y) ∧ InX y := by
      intro i hi
      have h9 := hel' i hi
      have hi' : i < elems.length := by omega
      rw [hc, List.getElem?_eq_getElem hi', Option.bind_eq_some_iff] at h9
      obtain ⟨cs', h10, h11⟩ := h9
      obtain ⟨y, hy, hin⟩ := hel n' cs' _ h11 fun q hq => hw q (.inr (.inl (weightsAll_mem (List.mem_map.2 ⟨_, List.getElem_mem hi', rfl⟩) hq)))
      exact ⟨y, by rw [h10, hy], hin⟩
    obtain ⟨l, hll, hlp⟩ := list_of_any hall
    simp only [maxLen] at hcm
    exact ⟨a, cap, l, by rw [hcs, hll], by omega, by omega, hcap, hlp⟩

theorem list5 {α : Type} {l : List α} (h : l.length = 5) : ∃ a b c d e, l = [a, b, c, d, e] := by
  match l, h with
  | [a, b, c, d, e], _ => exact ⟨a, b, c, d, e, rfl⟩
theorem list2 {α : Type} {l : List α} (h : l.length = 2) : ∃ a b, l = [a, b] := by
  match l, h with
  | [a, b], _ => exact ⟨a, b, rfl⟩
end
end Go.Proofs.Ythncdmijledpnaa

namespace Go.Proofs.Ythncdmijledpnaa
open Go.ChangeShapes Go.WideShapes Go.ChangeAt Go.RowKit Go.Deep

/-- A slice of numbers. -/
structure Ints where
  p : Option Addr
  c : Nat
  l : List Int
def Ints.val (x : Ints) : Value := .slice x.p x.l.length x.c
def Ints.In (w : World) (x : Ints) : Prop :=
  x.l.length ≤ x.c ∧ (x.l.length * 8 ≤ 140737488351232 ∧ x.c ≤ 9223372036854775807) ∧ (x.l = [] ∨ ∃ b o, x.p = some ⟨b, o, none⟩ ∧ b < w.heap.size ∧ ∀ i n, x.l[i]? = some n → w.cell? ⟨b, o + i, none⟩ = some (.int .i64 n)) ∧ ∀ n ∈ x.l, In64 n
theorem Ints.In.mono {w w' : World} {x : Ints} (h : x.In w) (hg : Gr w w') : x.In w' :=
  ⟨h.1, h.2.1, h.2.2.1.imp id fun ⟨b, o, h1, h2, h3⟩ => ⟨b, o, h1, Nat.lt_of_lt_of_le h2 hg.size, fun i n hn => Gr.at hg (h3 i n hn)⟩, h.2.2.2⟩
/-- A slice of terms. -/
structure Tms where
  p : Option Addr
  c : Nat
  l : List Tm
def Tms.val (x : Tms) : Value := .slice x.p x.l.length x.c
def Tms.In (w : World) (x : Tms) : Prop := Tm.Sl w x.p x.c x.l

section
variable {H : Type} {enc : TypeId × Value → H} {W : World}

theorem bulk_pos (d : DataW H) : 1 ≤ Rows.uptoBulk d := by
  cases d with
  | lit x => cases x <;> simp [Rows.uptoBulk]
  | _ => simp [Rows.uptoBulk]
theorem bulkAll_len : ∀ ds : List (DataW H), ds.length ≤ Rows.uptoBulkAll ds
  | [] => Nat.zero_le _
  | d :: ds => by
    have := bulk_pos d
    have := bulkAll_len ds
    rw [Rows.uptoBulkAll, List.length_cons]
    omega
theorem bulk_slice {T E : TypeId} (ht : Try.prog.underlying T = some (.slice E)) {fuel : Nat} {q : Option Addr} {n c : Nat} {x : DataW H × List MemPlace} (h : DataW.trod enc Try.prog W 0 (fun _ => true) true fuel T [.slice q n c] = some x) : n ≤ Rows.uptoBulk x.1 := by
  rcases DataW.trod_slice ht h with ⟨hcs, _⟩ | ⟨a, len, cap, elems, rest, n', hm, hcs, hx, _, hlc, hcm, hle, _⟩
  · simp only [List.cons.injEq, Value.slice.injEq, and_true] at hcs
    omega
  · simp only [List.cons.injEq, Value.slice.injEq, and_true] at hcs
    subst hx
    have := bulkAll_len (elems.map (·.1))
    rw [List.length_map] at this
    simp only [Rows.uptoBulk]
    omega

theorem bytesI : Try.prog.bytesOf 3 = 8 := by kernel_rfl
theorem open_i1 (fuel : Nat) (cs : List Value) (x : DataW H × List MemPlace) (h : DataW.trod enc Try.prog W 0 (fun _ => true) true fuel 3 cs = some x)
    (_ : ∀ n ∈ x.1.weights Try.prog 3, n ≤ reachBytes) : ∃ y : Int, cs = [.int .i64 y] ∧ In64 y := by
  obtain ⟨k, hk, _, wk⟩ := DataW.trod_int Try.underlying3 h
  exact ⟨k, hk, bounds64 wk⟩

set_option maxRecDepth 100000 in
theorem open_intsU_arg {r : Reach} {b0 : Nat} {v : Value} {d : DataW H} {p : List MemPlace} (hv : Value.okWide Try.prog W r b0 55 v)
    (h : DataW.Trod enc Try.prog W 0 (fun _ => true) true 55 v d p) (hw : ∀ n ∈ d.weights Try.prog 55, n ≤ reachBytes) : ∃ x : Ints, v = x.val ∧ x.In W ∧ x.l.length ≤ Rows.uptoBulk d := by
  obtain ⟨a0, len0, cap0, rfl⟩ := okWide_slice Try.underlying55 hv
  obtain ⟨fuel, hf⟩ := h
  have hbk := bulk_slice Try.underlying55 hf
  rcases open_slice_el (fun y : Int => [.int .i64 y]) In64 Try.underlying55 cellsI bytesI open_i1 hf hw with hcs | ⟨a, cap, l, hcs, h1, h2, h3, h4⟩
  · simp [Value.cells] at hcs
    obtain ⟨rfl, rfl, rfl⟩ := hcs
    exact ⟨⟨none, 0, []⟩, rfl, ⟨Nat.le_refl _, ⟨by simp, by simp⟩, .inl rfl, fun y hy => by simp at hy⟩, Nat.zero_le _⟩
  · simp [Value.cells] at hcs
    obtain ⟨rfl, rfl, rfl⟩ := hcs
    refine ⟨⟨some a, cap0, l⟩, rfl, ⟨h1, ⟨by simp only; omega, h2⟩, ?_, fun y hy => ?_⟩, hbk⟩
    · by_cases hl0 : l = []
      · exact .inl hl0
      · right
        have h0 : 0 < l.length := List.length_pos_iff.2 hl0
        obtain ⟨h10, _⟩ := h4 0 l[0] (List.getElem?_eq_getElem h0)
        obtain ⟨_, _, hc⟩ := World.cells?_some h10
        have hc0 := hc 0 (by omega)
        obtain ⟨b, o, spot⟩ := a
        have hc1 : W.cell? ⟨b, o, spot⟩ = some (.int .i64 l[0]) := by simpa [Addr.add] using hc0
        have hspot : spot = none := World.cell?_spot hc1
        subst hspot
        refine ⟨b, o, rfl, World.block_lt_of_cell? _ _ hc1, fun i x hx => ?_⟩
        obtain ⟨h10, _⟩ := h4 i x hx
        obtain ⟨_, _, hc⟩ := World.cells?_some h10
        have e0 := hc 0 (by omega)
        rw [add_plain, add_plain] at e0
        simpa using e0
    · obtain ⟨i, hi, rfl⟩ := List.getElem_of_mem hy
      exact (h4 i l[i] (List.getElem?_eq_getElem hi)).2
end
end Go.Proofs.Ythncdmijledpnaa

namespace Go.Proofs.Ythncdmijledpnaa
open Go.ChangeShapes Go.WideShapes Go.ChangeAt Go.RowKit Go.Deep

section
variable {H : Type} {enc : TypeId × Value → H} {W : World}

/-- A bind with its addresses. -/
structure Bd where
  v : Int
  t : Tm

def Bd.cells (x : Bd) : List Value := .int .i64 x.v :: x.t.cells

def Bd.row (w : World) (b o : Nat) (l : List Bd) : Prop :=
  ∀ (i : Nat) (x : Bd), l[i]? = some x →
    w.cell? ⟨b, o + i * 5, none⟩ = some (.int .i64 x.v) ∧ w.cell? ⟨b, o + i * 5 + 1, none⟩ = some (.int .i64 x.t.k) ∧ w.cell? ⟨b, o + i * 5 + 1 + 1, none⟩ = some (.int .i64 x.t.n) ∧
    w.cell? ⟨b, o + i * 5 + 1 + 2, none⟩ = some (.string x.t.s) ∧ w.cell? ⟨b, o + i * 5 + 1 + 3, none⟩ = some (.slice x.t.p x.t.l.length x.t.c)

/-- A slice of binds. -/
structure Bds where
  p : Option Addr
  c : Nat
  l : List Bd

def Bds.val (x : Bds) : Value := .slice x.p x.l.length x.c
def Bds.In (w : World) (x : Bds) : Prop :=
  x.l.length ≤ x.c ∧ (x.l.length * 64 ≤ 140737488351232 ∧ x.c ≤ 9223372036854775807) ∧ (x.l = [] ∨ ∃ b o, x.p = some ⟨b, o, none⟩ ∧ Bd.row w b o x.l) ∧ ∀ y ∈ x.l, y.t.In w ∧ In64 y.v

theorem Bd.row_lt {w : World} {b o : Nat} {l : List Bd} (h : Bd.row w b o l) (hl : l ≠ []) : b < w.heap.size := by
  cases l with
  | nil => exact absurd rfl hl
  | cons x xs => exact World.block_lt_of_cell? _ _ (h 0 x rfl).1

theorem Bds.In.mono {w w' : World} {x : Bds} (h : x.In w) (hg : Gr w w') : x.In w' := by
  obtain ⟨h1, h2, h3, h4⟩ := h
  refine ⟨h1, h2, ?_, fun y hy => ⟨Tm.In_below hg (h4 y hy).1, (h4 y hy).2⟩⟩
  rcases h3 with h3 | ⟨b, o, hp, hr⟩
  · exact .inl h3
  · by_cases hl : x.l = []
    · exact .inl hl
    · refine .inr ⟨b, o, hp, fun i y hy => ?_⟩
      have hlt := Bd.row_lt hr hl
      have hs : ∀ o', w'.cell? ⟨b, o', none⟩ = w.cell? ⟨b, o', none⟩ := fun o' => hg.cell (p := ⟨b, o', none⟩) hlt
      have := hr i y hy
      simpa only [hs] using this

theorem Bds.In.elem {w : World} {b o : Nat} {c : Nat} {l : List Bd} (h : (Bds.mk (some ⟨b, o, none⟩) c l).In w) (i : Nat) (hi : i < l.length) :
    (w.cell? ⟨b, o + i * 5, none⟩ = some (.int .i64 l[i].v) ∧ w.cell? ⟨b, o + i * 5 + 1, none⟩ = some (.int .i64 l[i].t.k) ∧ w.cell? ⟨b, o + i * 5 + 1 + 1, none⟩ = some (.int .i64 l[i].t.n) ∧
    w.cell? ⟨b, o + i * 5 + 1 + 2, none⟩ = some (.string l[i].t.s) ∧ w.cell? ⟨b, o + i * 5 + 1 + 3, none⟩ = some (.slice l[i].t.p l[i].t.l.length l[i].t.c)) ∧ l[i].t.In w ∧ In64 l[i].v ∧ b < w.heap.size := by
  obtain ⟨_, _, h3, h4⟩ := h
  rcases h3 with rfl | ⟨b', o', hp, hr⟩
  · simp at hi
  · cases hp
    exact ⟨hr i l[i] (List.getElem?_eq_getElem hi), (h4 _ (List.getElem_mem hi)).1, (h4 _ (List.getElem_mem hi)).2, Bd.row_lt hr (by rintro rfl; simp at hi)⟩

theorem Bds.In.ptr {w : World} {p : Option Addr} {c : Nat} {l : List Bd} (h : (Bds.mk p c l).In w) (hl : 0 < l.length) : ∃ b o, p = some ⟨b, o, none⟩ := by
  obtain ⟨_, _, h3, _⟩ := h
  rcases h3 with rfl | ⟨b', o', hp, _⟩
  · simp at hl
  · exact ⟨b', o', hp⟩

theorem cellsBind : Try.prog.cellsOf 115 = 5 := by kernel_rfl
theorem bytesBind : Try.prog.bytesOf 115 = 64 := by kernel_rfl

set_option maxRecDepth 100000 in
theorem open_bd (fuel : Nat) (cs : List Value) (x : DataW H × List MemPlace) (h : DataW.trod enc Try.prog W 0 (fun _ => true) true fuel 115 cs = some x)
    (hw : ∀ n ∈ x.1.weights Try.prog 115, n ≤ reachBytes) : ∃ y : Bd, cs = y.cells ∧ y.t.In W ∧ In64 y.v := by
  obtain ⟨xs, m, rfl, rfl, hl, hlen, hf⟩ := DataW.trod_struct Try.underlying115 h
  rw [cellsBind] at hl
  obtain ⟨y0, y1, rfl⟩ := list2 hlen
  obtain ⟨v0, v1, v2, v3, v4, rfl⟩ := list5 hl
  have g0 := hf 0 _ rfl
  have g1 := hf 1 _ rfl
  simp [cellsI64, cellsTerm] at g0 g1
  obtain ⟨k, hk, rfl, wk⟩ := DataW.trod_int Try.underlying2 g0
  simp only [List.cons.injEq, and_true] at hk
  subst hk
  simp only [List.map_cons, List.map_nil, DataW.weights, Try.underlying115, DataW.weightsEach, List.append_nil, List.nil_append] at hw
  obtain ⟨t, ht, hin⟩ := open_term m _ _ g1 fun n hn => hw n hn
  exact ⟨⟨k, t⟩, by rw [Bd.cells, ← ht], hin, bounds64 wk⟩

set_option maxRecDepth 100000 in
/-- An argument of type []api.Bind. -/
theorem open_binds_arg {r : Reach} {b0 : Nat} {v : Value} {d : DataW H} {p : List MemPlace} (hv : Value.okWide Try.prog W r b0 44 v)
    (h : DataW.Trod enc Try.prog W 0 (fun _ => true) true 44 v d p) (hw : ∀ n ∈ d.weights Try.prog 44, n ≤ reachBytes) : ∃ x : Bds, v = x.val ∧ x.In W := by
  obtain ⟨a0, len0, cap0, rfl⟩ := okWide_slice Try.underlying44 hv
  obtain ⟨fuel, hf⟩ := h
  rcases open_slice_el Bd.cells (fun y => y.t.In W ∧ In64 y.v) Try.underlying44 cellsBind bytesBind open_bd hf hw with hcs | ⟨a, cap, l, hcs, h1, h2, h3, h4⟩
  · simp [Value.cells] at hcs
    obtain ⟨rfl, rfl, rfl⟩ := hcs
    exact ⟨⟨none, 0, []⟩, rfl, Nat.le_refl _, ⟨by simp, by simp⟩, .inl rfl, fun y hy => by simp at hy⟩
  · simp [Value.cells] at hcs
    obtain ⟨rfl, rfl, rfl⟩ := hcs
    refine ⟨⟨some a, cap0, l⟩, rfl, h1, ⟨by simp only; omega, h2⟩, ?_, fun y hy => ?_⟩
    · by_cases hl0 : l = []
      · exact .inl hl0
      · right
        have h0 : 0 < l.length := List.length_pos_iff.2 hl0
        obtain ⟨h10, _⟩ := h4 0 l[0] (List.getElem?_eq_getElem h0)
        obtain ⟨_, _, hc⟩ := World.cells?_some h10
        have hc0 := hc 0 (by omega)
        obtain ⟨b, o, spot⟩ := a
        have hspot : spot = none := by
          have h13 : W.cell? ⟨b, o, spot⟩ = some (.int .i64 l[0].v) := by simpa [Addr.add, Bd.cells] using hc0
          exact World.cell?_spot h13
        subst hspot
        refine ⟨b, o, rfl, fun i x hx => ?_⟩
        obtain ⟨h10, _⟩ := h4 i x hx
        obtain ⟨_, _, hc⟩ := World.cells?_some h10
        have e0 := hc 0 (by omega)
        have e1 := hc 1 (by omega)
        have e2 := hc 2 (by omega)
        have e3 := hc 3 (by omega)
        have e4 := hc 4 (by omega)
        rw [add_plain, add_plain] at e0 e1 e2 e3 e4
        exact ⟨e0, e1, e2, e3, e4⟩
    · obtain ⟨i, hi, rfl⟩ := List.getElem_of_mem hy
      exact (h4 i l[i] (List.getElem?_eq_getElem hi)).2
end
end Go.Proofs.Ythncdmijledpnaa

namespace Go.Proofs.Ythncdmijledpnaa
open Go.ChangeShapes Go.WideShapes Go.ChangeAt Go.RowKit Go.Deep

set_option maxRecDepth 100000 in
theorem open_bindsU_arg {H : Type} {enc : TypeId × Value → H} {W : World} {r : Reach} {b0 : Nat} {v : Value} {d : DataW H} {p : List MemPlace} (hv : Value.okWide Try.prog W r b0 44 v)
    (h : DataW.Trod enc Try.prog W 0 (fun _ => true) true 44 v d p) (hw : ∀ n ∈ d.weights Try.prog 44, n ≤ reachBytes) : ∃ x : Bds, v = x.val ∧ x.In W ∧ x.l.length ≤ Rows.uptoBulk d := by
  obtain ⟨x, rfl, hx⟩ := open_binds_arg hv h hw
  obtain ⟨fuel, hf⟩ := h
  exact ⟨x, rfl, hx, bulk_slice Try.underlying44 hf⟩
end Go.Proofs.Ythncdmijledpnaa

namespace Go.Proofs.Ythncdmijledpnaa

mutual
theorem T.map_map (f g : Int → T) : ∀ t : T, T.map g (T.map f t) = T.map (fun n => T.map g (f n)) t
  | .mk k n s l => by
    rw [T.map, T.map]
    by_cases h1 : k = 1
    · rw [if_pos h1, if_pos h1]
    · rw [if_neg h1, if_neg h1]
      by_cases h4 : k = 4
      · rw [if_pos h4, if_pos h4, T.map, if_neg h1, if_pos h4, T.mapL_mapL f g l]
      · rw [if_neg h4, if_neg h4, T.map, if_neg h1, if_neg h4]
theorem T.mapL_mapL (f g : Int → T) : ∀ l : List T, T.mapL g (T.mapL f l) = T.mapL (fun n => T.map g (f n)) l
  | [] => by rw [T.mapL, T.mapL, T.mapL]
  | x :: xs => by rw [T.mapL, T.mapL, T.mapL, T.map_map f g x, T.mapL_mapL f g xs]
end

mutual
/-- The variable occurs in the term. -/
def T.occ (n : Int) : T → Prop
  | .mk k m _ l => if k = 1 then m = n else if k = 4 then T.occL n l else False
def T.occL (n : Int) : List T → Prop
  | [] => False
  | x :: xs => T.occ n x ∨ T.occL n xs
end
mutual
theorem T.map_congr {f g : Int → T} : ∀ t : T, (∀ n, T.occ n t → f n = g n) → T.map f t = T.map g t
  | .mk k n s l, h => by
    rw [T.map, T.map]
    by_cases h1 : k = 1
    · rw [if_pos h1, if_pos h1]
      exact h n (by rw [T.occ, if_pos h1])
    · rw [if_neg h1, if_neg h1]
      by_cases h4 : k = 4
      · rw [if_pos h4, if_pos h4, T.mapL_congr l fun m hm => h m (by rw [T.occ, if_neg h1, if_pos h4]; exact hm)]
      · rw [if_neg h4, if_neg h4]
theorem T.mapL_congr {f g : Int → T} : ∀ l : List T, (∀ n, T.occL n l → f n = g n) → T.mapL f l = T.mapL g l
  | [], _ => by rw [T.mapL, T.mapL]
  | x :: xs, h => by
    rw [T.mapL, T.mapL, T.map_congr x fun n hn => h n (by rw [T.occL]; exact .inl hn), T.mapL_congr xs fun n hn => h n (by rw [T.occL]; exact .inr hn)]
end
mutual
theorem T.occ_map {f : Int → T} {m : Int} : ∀ t : T, T.occ m (T.map f t) ↔ ∃ n, T.occ n t ∧ T.occ m (f n)
  | .mk k n s l => by
    rw [T.map]
    by_cases h1 : k = 1
    · rw [if_pos h1]
      constructor
      · intro h; exact ⟨n, by rw [T.occ, if_pos h1], h⟩
      · rintro ⟨j, hj, h⟩
        rw [T.occ, if_pos h1] at hj
        rw [hj]; exact h
    · rw [if_neg h1]
      by_cases h4 : k = 4
      · rw [if_pos h4, T.occ, if_neg h1, if_pos h4, T.occL_map l]
        constructor
        · rintro ⟨j, hj, h⟩; exact ⟨j, by rw [T.occ, if_neg h1, if_pos h4]; exact hj, h⟩
        · rintro ⟨j, hj, h⟩
          rw [T.occ, if_neg h1, if_pos h4] at hj
          exact ⟨j, hj, h⟩
      · rw [if_neg h4, T.occ, if_neg h1, if_neg h4]
        constructor
        · intro h; exact h.elim
        · rintro ⟨j, hj, _⟩
          rw [T.occ, if_neg h1, if_neg h4] at hj
          exact hj
theorem T.occL_map {f : Int → T} {m : Int} : ∀ l : List T, T.occL m (T.mapL f l) ↔ ∃ n, T.occL n l ∧ T.occ m (f n)
  | [] => by
    rw [T.mapL, T.occL]
    constructor
    · intro h; exact h.elim
    · rintro ⟨j, hj, _⟩
      rw [T.occL] at hj
      exact hj
  | x :: xs => by
    rw [T.mapL, T.occL, T.occ_map x, T.occL_map xs]
    constructor
    · rintro (⟨j, hj, h⟩ | ⟨j, hj, h⟩)
      · exact ⟨j, by rw [T.occL]; exact .inl hj, h⟩
      · exact ⟨j, by rw [T.occL]; exact .inr hj, h⟩
    · rintro ⟨j, hj, h⟩
      rw [T.occL] at hj
      rcases hj with hj | hj
      · exact .inl ⟨j, hj, h⟩
      · exact .inr ⟨j, hj, h⟩
end
theorem T.occ_var {n m : Int} : T.occ m (varT n) ↔ n = m := by rw [varT, T.occ, if_pos rfl]
mutual
theorem T.occ_range {n : Int} : ∀ t : T, t.formed = true → T.occ n t → 0 ≤ n ∧ n ≤ 1099511627776
  | .mk k m s l, h, ho => by
    rw [T.occ] at ho
    by_cases h1 : k = 1
    · subst h1
      rw [if_pos rfl] at ho
      subst ho
      exact (formed_var h).1
    · rw [if_neg h1] at ho
      rcases formed_args h with ⟨h4, hl⟩ | ⟨h4, _⟩
      · rw [if_pos h4] at ho
        exact T.occL_range l hl ho
      · rw [if_neg h4] at ho; exact ho.elim
theorem T.occL_range {n : Int} : ∀ l : List T, T.formedL l = true → T.occL n l → 0 ≤ n ∧ n ≤ 1099511627776
  | [], _, ho => by rw [T.occL] at ho; exact ho.elim
  | x :: xs, h, ho => by
    rw [T.formedL, Bool.and_eq_true] at h
    rw [T.occL] at ho
    rcases ho with ho | ho
    · exact T.occ_range x h.1 ho
    · exact T.occL_range xs h.2 ho
end
mutual
/-- How many parts. -/
def T.sz : T → Nat
  | .mk _ _ _ l => T.szL l + 1
def T.szL : List T → Nat
  | [] => 0
  | x :: xs => T.sz x + T.szL xs
end
mutual
theorem T.sz_occ {f : Int → T} {n : Int} : ∀ t : T, T.occ n t → T.sz (f n) ≤ T.sz (T.map f t) ∧ (t.k ≠ 1 → T.sz (f n) < T.sz (T.map f t))
  | .mk k m s l, h => by
    rw [T.occ] at h
    rw [T.map]
    by_cases h1 : k = 1
    · rw [if_pos h1] at h ⊢
      subst h
      exact ⟨Nat.le_refl _, fun hk => absurd h1 hk⟩
    · rw [if_neg h1] at h ⊢
      by_cases h4 : k = 4
      · rw [if_pos h4] at h ⊢
        have := T.szL_occ (f := f) l h
        rw [T.sz]
        exact ⟨by omega, fun _ => by omega⟩
      · rw [if_neg h4] at h; exact h.elim
theorem T.szL_occ {f : Int → T} {n : Int} : ∀ l : List T, T.occL n l → T.sz (f n) ≤ T.szL (T.mapL f l)
  | [], h => by rw [T.occL] at h; exact h.elim
  | x :: xs, h => by
    rw [T.occL] at h
    rw [T.mapL, T.szL]
    rcases h with h | h
    · have := (T.sz_occ (f := f) x h).1; omega
    · have := T.szL_occ (f := f) xs h; omega
end
theorem T.mapL_eq (f : Int → T) : ∀ l : List T, T.mapL f l = l.map (T.map f)
  | [] => by rw [T.mapL]; rfl
  | x :: xs => by rw [T.mapL, T.mapL_eq f xs]; rfl
theorem T.map_var (f : Int → T) (n : Int) : T.map f (varT n) = f n := by rw [varT, T.map, if_pos rfl]
/-- What is formed and becomes a variable is one. -/
theorem T.map_is_var {f : Int → T} {t : T} {m : Int} (h : T.map f t = varT m) (hf : t.formed = true) : ∃ n, t = varT n ∧ f n = varT m := by
  obtain ⟨k, n, s, l⟩ := t
  rw [T.map] at h
  by_cases h1 : k = 1
  · subst h1
    rw [if_pos rfl] at h
    obtain ⟨_, rfl, rfl⟩ := formed_var hf
    exact ⟨n, rfl, h⟩
  · rw [if_neg h1] at h
    by_cases h4 : k = 4
    · rw [if_pos h4, varT] at h
      injection h with h2; exact absurd h2 h1
    · rw [if_neg h4, varT] at h
      injection h with h2; exact absurd h2 h1
theorem var_of_k {t : T} (hf : t.formed = true) (hk : t.k = 1) : t = varT t.n := by
  obtain ⟨k, n, s, l⟩ := t
  obtain rfl : k = 1 := hk
  obtain ⟨_, rfl, rfl⟩ := formed_var hf
  rfl

/-- The substitution says no more than what θ says. -/
def Through (θ σ : Int → T) : Prop := ∀ n, T.map θ (σ n) = θ n
theorem Through.map {θ σ : Int → T} (h : Through θ σ) (t : T) : T.map θ (T.map σ t) = T.map θ t := by
  rw [T.map_map]
  exact T.map_congr t fun n _ => h n
theorem through_var (θ : Int → T) : Through θ varT := fun n => T.map_var θ n

/-- One variable is replaced. -/
def oneF (x : Int) (y : T) : Int → T := fun n => if n = x then y else varT n
def stepF (σ : Int → T) (x : Int) (y : T) : Int → T := fun n => T.map (oneF x y) (σ n)
theorem stepF_map (σ : Int → T) (x : Int) (y t : T) : T.map (stepF σ x y) t = T.map (oneF x y) (T.map σ t) := (T.map_map σ (oneF x y) t).symm

/-- A solved form: formed terms of variables that are free, and of two variables the smaller one stays. -/
structure Canon (σ : Int → T) : Prop where
  form : ∀ n, σ n = varT n ∨ ((σ n).formed = true ∧ 0 ≤ n ∧ n ≤ 1099511627776)
  idem : ∀ n m, T.occ m (σ n) → σ m = varT m
  low : ∀ n m, σ n = varT m → m ≤ n

theorem canon_var : Canon varT where
  form n := .inl rfl
  idem n m h := by rfl
  low n m h := by
    rw [varT, varT] at h
    injection h with _ h1
    omega

theorem Canon.fixed {s t : Int → T} (hs : Canon s) (ht : Canon t) (h2 : Through s t) {y : Int} (hy : s y = varT y) : t y = varT y := by
  rcases ht.form y with h | ⟨hf, _⟩
  · exact h
  · obtain ⟨z, hz, hsz⟩ := T.map_is_var ((h2 y).trans hy) hf
    have h3 := ht.low y z hz
    have h4 := hs.low z y hsz
    obtain rfl : z = y := by omega
    exact hz
theorem T.map_fixed {t : Int → T} {u : T} (hf : u.formed = true) (h : ∀ m, T.occ m u → t m = varT m) : T.map t u = u := by
  rw [T.map_congr (g := varT) u h, T.map_varT hf]
/-- Two solved forms that go through one another are the same. -/
theorem Canon.uniq {s t : Int → T} (hs : Canon s) (ht : Canon t) (h1 : Through t s) (h2 : Through s t) : s = t := by
  funext x
  rcases hs.form x with h | ⟨hf, _⟩
  · rw [h, hs.fixed ht h2 h]
  · rw [← h1 x, T.map_fixed hf fun m hm => hs.fixed ht h2 (hs.idem x m hm)]
theorem Canon.map {σ : Int → T} (h : Canon σ) {t : T} (ht : t.formed = true) : (T.map σ t).formed = true :=
  formed_mapped σ (fun n h1 h2 => by
    rcases h.form n with h3 | ⟨h3, _⟩
    · rw [h3]; exact varT_formed ⟨h1, h2⟩
    · exact h3) t ht
theorem Canon.occ_free {σ : Int → T} (h : Canon σ) {t : T} {m : Int} (hm : T.occ m (T.map σ t)) : σ m = varT m := by
  obtain ⟨n, _, hn⟩ := (T.occ_map t).1 hm
  exact h.idem n m hn

theorem oneF_not {x : Int} {y t : T} (ht : t.formed = true) (h : ¬ T.occ x t) : T.map (oneF x y) t = t :=
  T.map_fixed ht fun m hm => by
    rw [oneF, if_neg]
    rintro rfl
    exact h hm
theorem oneF_form {x : Int} {y : T} (hy : y.formed = true) (n : Int) (h0 : 0 ≤ n) (h1 : n ≤ 1099511627776) : (oneF x y n).formed = true := by
  rw [oneF]
  split
  · exact hy
  · exact varT_formed ⟨h0, h1⟩
/-- One step: a free variable is bound. -/
theorem Canon.step {σ : Int → T} (h : Canon σ) {x : Int} {y : T} (hx : σ x = varT x) (hr : 0 ≤ x ∧ x ≤ 1099511627776) (hy : y.formed = true) (hyf : ∀ m, T.occ m y → σ m = varT m) (hoc : ¬ T.occ x y) (hlow : ∀ m, y = varT m → m < x) : Canon (stepF σ x y) where
  form n := by
    rcases h.form n with h1 | ⟨h1, h2⟩
    · rw [stepF, h1, T.map_var, oneF]
      split
      · rename_i e; subst e; exact .inr ⟨hy, hr⟩
      · exact .inl rfl
    · exact .inr ⟨formed_mapped _ (oneF_form hy) _ h1, h2⟩
  idem n m hm := by
    have key : ∀ j, σ j = varT j → j ≠ x → stepF σ x y j = varT j := fun j h1 h2 => by rw [stepF, h1, T.map_var, oneF, if_neg h2]
    obtain ⟨j, hj, hm2⟩ := (T.occ_map (σ n)).1 hm
    rw [oneF] at hm2
    split at hm2
    · exact key m (hyf m hm2) (fun e => hoc (by rw [← e]; exact hm2))
    · rename_i hjx
      rw [T.occ_var] at hm2
      rw [← hm2]
      exact key j (h.idem n j hj) hjx
  low n m hm := by
    have hv : ∀ j, oneF x y j = varT m → m ≤ j := fun j hj => by
      rw [oneF] at hj
      split at hj
      · rename_i e; subst e
        have := hlow m hj; omega
      · rw [varT, varT] at hj
        injection hj with _ h1
        omega
    rw [stepF] at hm
    rcases h.form n with h1 | ⟨h1, h2⟩
    · rw [h1, T.map_var] at hm
      exact hv n hm
    · obtain ⟨j, hj, hjm⟩ := T.map_is_var hm h1
      have h3 := h.low n j hj
      have h4 := hv j hjm
      omega
theorem Through.step {θ σ : Int → T} (h : Through θ σ) {x : Int} {y : T} (hxy : T.map θ y = θ x) : Through θ (stepF σ x y) := fun n => by
  rw [stepF, T.map_map]
  refine Eq.trans (T.map_congr _ fun m _ => ?_) (h n)
  rw [oneF]
  split
  · rename_i e; rw [hxy, e]
  · exact T.map_var θ m
theorem Canon.self {σ : Int → T} (h : Canon σ) : Through σ σ := fun n => by
  rcases h.form n with h1 | ⟨h1, _⟩
  · rw [h1, T.map_var]; exact h1
  · exact T.map_fixed h1 fun m hm => h.idem n m hm
theorem Through.back {σ : Int → T} {x : Int} {y : T} (h : Canon σ) : Through (stepF σ x y) σ := fun n => by
  rw [stepF_map, h.self n]
  rfl
theorem Through.trans {θ ρ σ : Int → T} (h1 : Through θ ρ) (h2 : Through ρ σ) : Through θ σ := fun n => by
  rw [← h1.map (σ n), h2 n, h1 n]

/-- The variable occurs deeper: no unifier. -/
theorem no_occ {θ : Int → T} {x : Int} {y : T} (hf : y.formed = true) (ho : T.occ x y) (hne : y ≠ varT x) : T.map θ y ≠ θ x := fun h => by
  have hk : y.k ≠ 1 := fun hk => by
    have h1 := var_of_k hf hk
    rw [h1, T.occ_var] at ho
    rw [ho] at h1
    exact hne h1
  have := (T.sz_occ (f := θ) y ho).2 hk
  rw [h] at this
  omega
end Go.Proofs.Ythncdmijledpnaa

namespace Go.Proofs.Ythncdmijledpnaa

mutual
theorem sz_size : ∀ t : T, T.sz t = t.size
  | .mk k n s l => by rw [T.sz, T.size, szL_size l]
theorem szL_size : ∀ l : List T, T.szL l = T.sizeL l
  | [] => by rw [T.szL, T.sizeL]
  | x :: xs => by rw [T.szL, T.sizeL, sz_size x, szL_size xs]
end
end Go.Proofs.Ythncdmijledpnaa

namespace Go.Proofs.Ythncdmijledpnaa
open Go.RowKit

theorem formed_cases2 {t : T} (h : t.formed = true) : (∃ n, t = .mk 1 n [] [] ∧ 0 ≤ n ∧ n ≤ 1099511627776) ∨ (∃ n, t = .mk 2 n [] []) ∨ (∃ s, t = .mk 3 0 s [] ∧ s.length ≤ 100) ∨
    (∃ s l, t = .mk 4 0 s l ∧ s.length ≤ 100 ∧ 1 ≤ l.length ∧ l.length ≤ 50 ∧ T.formedL l = true) := by
  obtain ⟨k, n, s, l⟩ := t
  rw [T.formed] at h
  by_cases h1 : k = 1
  · subst h1
    simp at h
    exact .inl ⟨n, by rw [h.1.2, h.2], h.1.1.1, h.1.1.2⟩
  by_cases h2 : k = 2
  · subst h2
    simp at h
    exact .inr (.inl ⟨n, by rw [h.1, h.2]⟩)
  by_cases h3 : k = 3
  · subst h3
    simp at h
    exact .inr (.inr (.inl ⟨s, by rw [h.1.1, h.2], h.1.2⟩))
  by_cases h4 : k = 4
  · subst h4
    simp at h
    exact .inr (.inr (.inr ⟨s, l, by rw [h.1.1.1.1], h.1.1.1.2, h.1.1.2, h.1.2, h.2⟩))
  · simp [h1, h2, h3, h4] at h


/-- What a substitution makes of a variable. -/
def lookupT : List Bd → Int → T
  | [], n => varT n
  | x :: xs, n => if x.v = n then x.t.erase else lookupT xs n

end Go.Proofs.Ythncdmijledpnaa
