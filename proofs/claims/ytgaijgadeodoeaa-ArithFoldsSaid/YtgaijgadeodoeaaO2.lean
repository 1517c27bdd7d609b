/-
  Arguments that are slices of structs: opened to lists. Here: slices of binds.
-/
import Derived.Test.YtgaijgadeodoeaaO
import Derived.Test.YtgaijgadeodoeaaA0
import Derived.Deep.Slices
namespace Go.Proofs.Ytgaijgadeodoeaa
open Go.ChangeShapes Go.WideShapes Go.ChangeAt Go.RowKit Go.Deep

theorem list_of_any {X : Type} {n : Nat} {p : Nat → X → Prop} (h : ∀ i, i < n → ∃ x, p i x) : ∃ l : List X, l.length = n ∧ ∀ i x, l[i]? = some x → p i x := by
  induction n with
  | zero => exact ⟨[], rfl, fun i x hx => by simp at hx⟩
  | succ n ih =>
    obtain ⟨l, hl, hp⟩ := ih fun i hi => h i (by omega)
    obtain ⟨y, hy⟩ := h n (by omega)
    refine ⟨l ++ [y], by simp [hl], fun i x hx => ?_⟩
    by_cases hi : i < l.length
    · rw [List.getElem?_append_left hi] at hx
      exact hp i x hx
    · rw [List.getElem?_append_right (by omega)] at hx
      have h0 : i = l.length := by
        have := (List.getElem?_eq_some_iff.1 hx).1
        simp at this
        omega
      subst h0
      simp only [Nat.sub_self, List.getElem?_cons_zero, Option.some.injEq] at hx
      subst hx
      rw [hl]
      exact hy

section
variable {H : Type} {enc : TypeId × Value → H} {W : World}

/-- A slice whose elements can be opened. -/
theorem open_slice_el {X : Type} {E T : TypeId} {sz bytes : Nat} (cellsX : X → List Value) (InX : X → Prop) (ht : Try.prog.underlying T = some (.slice E)) (hc : Try.prog.cellsOf E = sz) (hb : Try.prog.bytesOf E = bytes)
    (hel : ∀ (fuel : Nat) (cs : List Value) (x : DataW H × List MemPlace), DataW.trod enc Try.prog W 0 (fun _ => true) true fuel E cs = some x → (∀ n ∈ x.1.weights Try.prog E, n ≤ reachBytes) → ∃ y : X, cs = cellsX y ∧ InX y)
    {fuel : Nat} {cs : List Value} {x : DataW H × List MemPlace} (h : DataW.trod enc Try.prog W 0 (fun _ => true) true fuel T cs = some x) (hw : ∀ n ∈ x.1.weights Try.prog T, n ≤ reachBytes) :
    cs = [.slice none 0 0] ∨ ∃ (a : Addr) (cap : Nat) (l : List X), cs = [.slice (some a) l.length cap] ∧ l.length ≤ cap ∧ cap ≤ 9223372036854775807 ∧ cap * bytes ≤ 140737488351232 ∧
      ∀ i y, l[i]? = some y → W.cells? 0 (a.add (i * sz)) sz = some (cellsX y) ∧ InX y := by
  rcases DataW.trod_slice ht h with ⟨hcs, _⟩ | ⟨a, len, cap, elems, rest, n', hm, hcs, hx, _, hlc, hcm, hle, hel', hre, _⟩
  · exact .inl hcs
  · right
    subst hx
    subst hm
    have hrl := (hre rfl).1
    simp only [DataW.weights, ht, List.length_map, List.mem_cons, List.mem_append, hb] at hw
    have hcap : cap * bytes ≤ 140737488351232 := by
      have h9 := hw ((elems.length + rest.length) * bytes) (.inl rfl)
      rw [reach_eq, hle, hrl] at h9
      have : len + (cap - len) = cap := by omega
      rwa [this] at h9
    have hall : ∀ i, i < len → ∃ y : X, W.cells? 0 (a.add (i * sz)) sz = some (cellsX y) ∧ InX y := by
      intro i hi
      have h9 := hel' i hi
      have hi' : i < elems.length := by omega
      rw [hc, List.getElem?_eq_getElem hi', Option.bind_eq_some_iff] at h9
      obtain ⟨cs', h10, h11⟩ := h9
      obtain ⟨y, hy, hin⟩ := hel n' cs' _ h11 fun q hq => hw q (.inr (.inl (weightsAll_mem (List.mem_map.2 ⟨_, List.getElem_mem hi', rfl⟩) hq)))
      exact ⟨y, by rw [h10, hy], hin⟩
    obtain ⟨l, hll, hlp⟩ := list_of_any hall
    simp only [maxLen] at hcm
    exact ⟨a, cap, l, by rw [hcs, hll], by omega, by omega, hcap, hlp⟩

/-- A bind with its addresses. -/
structure Bd where
  v : Int
  t : Tm

def Bd.cells (x : Bd) : List Value := .int .i64 x.v :: x.t.cells

def Bd.row (w : World) (b o : Nat) (l : List Bd) : Prop :=
  ∀ (i : Nat) (x : Bd), l[i]? = some x →
    w.cell? ⟨b, o + i * 5, none⟩ = some (.int .i64 x.v) ∧ w.cell? ⟨b, o + i * 5 + 1, none⟩ = some (.int .i64 x.t.k) ∧ w.cell? ⟨b, o + i * 5 + 1 + 1, none⟩ = some (.int .i64 x.t.n) ∧
    w.cell? ⟨b, o + i * 5 + 1 + 2, none⟩ = some (.string x.t.s) ∧ w.cell? ⟨b, o + i * 5 + 1 + 3, none⟩ = some (.slice x.t.p x.t.l.length x.t.c)

/-- A slice of binds. -/
structure Bds where
  p : Option Addr
  c : Nat
  l : List Bd

def Bds.val (x : Bds) : Value := .slice x.p x.l.length x.c
def Bds.In (w : World) (x : Bds) : Prop :=
  x.l.length ≤ x.c ∧ (x.l.length * 64 ≤ 140737488351232 ∧ x.c ≤ 9223372036854775807) ∧ (x.l = [] ∨ ∃ b o, x.p = some ⟨b, o, none⟩ ∧ Bd.row w b o x.l) ∧ ∀ y ∈ x.l, y.t.In w ∧ In64 y.v

theorem Bd.row_lt {w : World} {b o : Nat} {l : List Bd} (h : Bd.row w b o l) (hl : l ≠ []) : b < w.heap.size := by
  cases l with
  | nil => exact absurd rfl hl
  | cons x xs => exact World.block_lt_of_cell? _ _ (h 0 x rfl).1

theorem Bds.In.mono {w w' : World} {x : Bds} (h : x.In w) (hg : Gr w w') : x.In w' := by
  obtain ⟨h1, h2, h3, h4⟩ := h
  refine ⟨h1, h2, ?_, fun y hy => ⟨Tm.In_below hg (h4 y hy).1, (h4 y hy).2⟩⟩
  rcases h3 with h3 | ⟨b, o, hp, hr⟩
  · exact .inl h3
  · by_cases hl : x.l = []
    · exact .inl hl
    · refine .inr ⟨b, o, hp, fun i y hy => ?_⟩
      have hlt := Bd.row_lt hr hl
      have hs : ∀ o', w'.cell? ⟨b, o', none⟩ = w.cell? ⟨b, o', none⟩ := fun o' => hg.cell (p := ⟨b, o', none⟩) hlt
      have := hr i y hy
      simpa only [hs] using this

theorem Bds.In.elem {w : World} {b o : Nat} {c : Nat} {l : List Bd} (h : (Bds.mk (some ⟨b, o, none⟩) c l).In w) (i : Nat) (hi : i < l.length) :
    (w.cell? ⟨b, o + i * 5, none⟩ = some (.int .i64 l[i].v) ∧ w.cell? ⟨b, o + i * 5 + 1, none⟩ = some (.int .i64 l[i].t.k) ∧ w.cell? ⟨b, o + i * 5 + 1 + 1, none⟩ = some (.int .i64 l[i].t.n) ∧
    w.cell? ⟨b, o + i * 5 + 1 + 2, none⟩ = some (.string l[i].t.s) ∧ w.cell? ⟨b, o + i * 5 + 1 + 3, none⟩ = some (.slice l[i].t.p l[i].t.l.length l[i].t.c)) ∧ l[i].t.In w ∧ In64 l[i].v ∧ b < w.heap.size := by
  obtain ⟨_, _, h3, h4⟩ := h
  rcases h3 with rfl | ⟨b', o', hp, hr⟩
  · simp at hi
  · cases hp
    exact ⟨hr i l[i] (List.getElem?_eq_getElem hi), (h4 _ (List.getElem_mem hi)).1, (h4 _ (List.getElem_mem hi)).2, Bd.row_lt hr (by rintro rfl; simp at hi)⟩

theorem Bds.In.ptr {w : World} {p : Option Addr} {c : Nat} {l : List Bd} (h : (Bds.mk p c l).In w) (hl : 0 < l.length) : ∃ b o, p = some ⟨b, o, none⟩ := by
  obtain ⟨_, _, h3, _⟩ := h
  rcases h3 with rfl | ⟨b', o', hp, _⟩
  · simp at hl
  · exact ⟨b', o', hp⟩

theorem cellsBind : Try.prog.cellsOf 71 = 5 := by kernel_rfl
theorem bytesBind : Try.prog.bytesOf 71 = 64 := by kernel_rfl

theorem list5 {α : Type} {l : List α} (h : l.length = 5) : ∃ a b c d e, l = [a, b, c, d, e] := by
  match l, h with
  | [a, b, c, d, e], _ => exact ⟨a, b, c, d, e, rfl⟩
theorem list2 {α : Type} {l : List α} (h : l.length = 2) : ∃ a b, l = [a, b] := by
  match l, h with
  | [a, b], _ => exact ⟨a, b, rfl⟩

set_option maxRecDepth 100000 in
theorem open_bd (fuel : Nat) (cs : List Value) (x : DataW H × List MemPlace) (h : DataW.trod enc Try.prog W 0 (fun _ => true) true fuel 71 cs = some x)
    (hw : ∀ n ∈ x.1.weights Try.prog 71, n ≤ reachBytes) : ∃ y : Bd, cs = y.cells ∧ y.t.In W ∧ In64 y.v := by
  obtain ⟨xs, m, rfl, rfl, hl, hlen, hf⟩ := DataW.trod_struct Try.underlying71 h
  rw [cellsBind] at hl
  obtain ⟨y0, y1, rfl⟩ := list2 hlen
  obtain ⟨v0, v1, v2, v3, v4, rfl⟩ := list5 hl
  have g0 := hf 0 _ rfl
  have g1 := hf 1 _ rfl
  simp [cellsI64, cellsTerm] at g0 g1
  obtain ⟨k, hk, rfl, wk⟩ := DataW.trod_int Try.underlying2 g0
  simp only [List.cons.injEq, and_true] at hk
  subst hk
  simp only [List.map_cons, List.map_nil, DataW.weights, Try.underlying71, DataW.weightsEach, List.append_nil, List.nil_append, List.mem_append, List.mem_cons, List.mem_nil_iff, or_false] at hw
  obtain ⟨t, ht, hin⟩ := open_term m _ _ g1 fun n hn => hw n hn
  exact ⟨⟨k, t⟩, by rw [Bd.cells, ← ht], hin, bounds64 wk⟩

set_option maxRecDepth 100000 in
/-- An argument of type []api.Bind. -/
theorem open_binds_arg {r : Reach} {b0 : Nat} {v : Value} {d : DataW H} {p : List MemPlace} (hv : Value.okWide Try.prog W r b0 41 v)
    (h : DataW.Trod enc Try.prog W 0 (fun _ => true) true 41 v d p) (hw : ∀ n ∈ d.weights Try.prog 41, n ≤ reachBytes) : ∃ x : Bds, v = x.val ∧ x.In W := by
  obtain ⟨a0, len0, cap0, rfl⟩ := okWide_slice Try.underlying41 hv
  obtain ⟨fuel, hf⟩ := h
  rcases open_slice_el Bd.cells (fun y => y.t.In W ∧ In64 y.v) Try.underlying41 cellsBind bytesBind open_bd hf hw with hcs | ⟨a, cap, l, hcs, h1, h2, h3, h4⟩
  · simp [Value.cells] at hcs
    obtain ⟨rfl, rfl, rfl⟩ := hcs
    exact ⟨⟨none, 0, []⟩, rfl, Nat.le_refl _, ⟨by simp, by simp⟩, .inl rfl, fun y hy => by simp at hy⟩
  · simp [Value.cells] at hcs
    obtain ⟨rfl, rfl, rfl⟩ := hcs
    refine ⟨⟨some a, cap0, l⟩, rfl, h1, ⟨by simp only; omega, h2⟩, ?_, fun y hy => ?_⟩
    · by_cases hl0 : l = []
      · exact .inl hl0
      · right
        have h0 : 0 < l.length := List.length_pos_iff.2 hl0
        obtain ⟨h10, _⟩ := h4 0 l[0] (List.getElem?_eq_getElem h0)
        obtain ⟨_, _, hc⟩ := World.cells?_some h10
        have hc0 := hc 0 (by omega)
        obtain ⟨b, o, spot⟩ := a
        have hspot : spot = none := by
          have h13 : W.cell? ⟨b, o, spot⟩ = some (.int .i64 l[0].v) := by simpa [Addr.add, Bd.cells] using hc0
          exact World.cell?_spot h13
        subst hspot
        refine ⟨b, o, rfl, fun i x hx => ?_⟩
        obtain ⟨h10, _⟩ := h4 i x hx
        obtain ⟨_, _, hc⟩ := World.cells?_some h10
        have e0 := hc 0 (by omega)
        have e1 := hc 1 (by omega)
        have e2 := hc 2 (by omega)
        have e3 := hc 3 (by omega)
        have e4 := hc 4 (by omega)
        rw [add_plain, add_plain] at e0 e1 e2 e3 e4
        exact ⟨e0, e1, e2, e3, e4⟩
    · obtain ⟨i, hi, rfl⟩ := List.getElem_of_mem hy
      exact (h4 i l[i] (List.getElem?_eq_getElem hi)).2
end
end Go.Proofs.Ytgaijgadeodoeaa
