/-
  Slices of operators.
-/
import Derived.Test.YtgaijgadeodoeaaDoorO2
import Derived.Test.YtgaijgadeodoeaaDoorA0
namespace Go.Proofs.YtgaijgadeodoeaaDoor
open Go.ChangeShapes Go.WideShapes Go.ChangeAt Go.RowKit Go.Deep

section
variable {H : Type} {enc : TypeId × Value → H} {W : World}

/-- An operator. -/
structure Opv where
  s : ByteArray
  p : Int
  t : Int

def Opv.cells (x : Opv) : List Value := [.string x.s, .int .i64 x.p, .int .i64 x.t]

def Opv.row (w : World) (b o : Nat) (l : List Opv) : Prop :=
  ∀ (i : Nat) (x : Opv), l[i]? = some x → w.cell? ⟨b, o + i * 3, none⟩ = some (.string x.s) ∧ w.cell? ⟨b, o + i * 3 + 1, none⟩ = some (.int .i64 x.p) ∧ w.cell? ⟨b, o + i * 3 + 2, none⟩ = some (.int .i64 x.t)

/-- A slice of operators. -/
structure Opvs where
  p : Option Addr
  c : Nat
  l : List Opv

def Opvs.val (x : Opvs) : Value := .slice x.p x.l.length x.c
def Opvs.In (w : World) (x : Opvs) : Prop :=
  x.l.length ≤ x.c ∧ (x.l.length * 32 ≤ 140737488351232 ∧ x.c ≤ 9223372036854775807) ∧ (x.l = [] ∨ ∃ b o, x.p = some ⟨b, o, none⟩ ∧ Opv.row w b o x.l) ∧ ∀ y ∈ x.l, y.s.size ≤ 140737488351232 ∧ In64 y.p ∧ In64 y.t

theorem Opv.row_lt {w : World} {b o : Nat} {l : List Opv} (h : Opv.row w b o l) (hl : l ≠ []) : b < w.heap.size := by
  cases l with
  | nil => exact absurd rfl hl
  | cons x xs => exact World.block_lt_of_cell? _ _ (h 0 x rfl).1

theorem Opvs.In.mono {w w' : World} {x : Opvs} (h : x.In w) (hg : Gr w w') : x.In w' := by
  obtain ⟨h1, h2, h3, h4⟩ := h
  refine ⟨h1, h2, ?_, h4⟩
  rcases h3 with h3 | ⟨b, o, hp, hr⟩
  · exact .inl h3
  · by_cases hl : x.l = []
    · exact .inl hl
    · refine .inr ⟨b, o, hp, fun i y hy => ?_⟩
      have hlt := Opv.row_lt hr hl
      have hs : ∀ o', w'.cell? ⟨b, o', none⟩ = w.cell? ⟨b, o', none⟩ := fun o' => hg.cell (p := ⟨b, o', none⟩) hlt
      have := hr i y hy
      simpa only [hs] using this

theorem Opvs.In.elem {w : World} {b o : Nat} {c : Nat} {l : List Opv} (h : (Opvs.mk (some ⟨b, o, none⟩) c l).In w) (i : Nat) (hi : i < l.length) :
    (w.cell? ⟨b, o + i * 3, none⟩ = some (.string l[i].s) ∧ w.cell? ⟨b, o + i * 3 + 1, none⟩ = some (.int .i64 l[i].p) ∧ w.cell? ⟨b, o + i * 3 + 2, none⟩ = some (.int .i64 l[i].t)) ∧
    l[i].s.size ≤ 140737488351232 ∧ In64 l[i].p ∧ In64 l[i].t ∧ b < w.heap.size := by
  obtain ⟨_, _, h3, h4⟩ := h
  rcases h3 with rfl | ⟨b', o', hp, hr⟩
  · simp at hi
  · cases hp
    have h5 := h4 _ (List.getElem_mem hi)
    exact ⟨hr i l[i] (List.getElem?_eq_getElem hi), h5.1, h5.2.1, h5.2.2, Opv.row_lt hr (by rintro rfl; simp at hi)⟩

theorem Opvs.In.ptr {w : World} {p : Option Addr} {c : Nat} {l : List Opv} (h : (Opvs.mk p c l).In w) (hl : 0 < l.length) : ∃ b o, p = some ⟨b, o, none⟩ := by
  obtain ⟨_, _, h3, _⟩ := h
  rcases h3 with rfl | ⟨b', o', hp, _⟩
  · simp at hl
  · exact ⟨b', o', hp⟩

theorem cellsOp : Tryd.prog.cellsOf 27 = 3 := by kernel_rfl
theorem bytesOp : Tryd.prog.bytesOf 27 = 32 := by kernel_rfl

set_option maxRecDepth 100000 in
theorem open_opv (fuel : Nat) (cs : List Value) (x : DataW H × List MemPlace) (h : DataW.trod enc Tryd.prog W 0 (fun _ => true) true fuel 27 cs = some x)
    (hw : ∀ n ∈ x.1.weights Tryd.prog 27, n ≤ reachBytes) : ∃ y : Opv, cs = y.cells ∧ y.s.size ≤ 140737488351232 ∧ In64 y.p ∧ In64 y.t := by
  obtain ⟨xs, m, rfl, rfl, hl, hlen, hf⟩ := DataW.trod_struct Tryd.underlying27 h
  rw [cellsOp] at hl
  obtain ⟨y0, y1, y2, rfl⟩ := list3 hlen
  obtain ⟨v0, v1, v2, rfl⟩ := list3 hl
  have g0 := hf 0 _ rfl
  have g1 := hf 1 _ rfl
  have g2 := hf 2 _ rfl
  simp [cellsI, cellsS] at g0 g1 g2
  obtain ⟨s, hs, rfl, ws⟩ := DataW.trod_string Tryd.underlying9 g0
  obtain ⟨p, hp, rfl, wp⟩ := DataW.trod_int Tryd.underlying3 g1
  obtain ⟨t, ht, rfl, wt⟩ := DataW.trod_int Tryd.underlying3 g2
  simp only [List.cons.injEq, and_true] at hs hp ht
  subst hs hp ht
  simp only [List.map_cons, List.map_nil, DataW.weights, Tryd.underlying27, DataW.weightsEach, List.append_nil, List.mem_append, List.mem_cons, List.mem_nil_iff, or_false] at hw
  have hs' : s.size ≤ 140737488351232 := by
    have h9 := hw s.data.toList.length rfl
    rw [reach_eq] at h9
    exact h9
  exact ⟨⟨s, p, t⟩, rfl, hs', bounds64 wp, bounds64 wt⟩

set_option maxRecDepth 100000 in
/-- An argument of type []api.Op. -/
theorem open_ops_arg {r : Reach} {b0 : Nat} {v : Value} {d : DataW H} {p : List MemPlace} (hv : Value.okWide Tryd.prog W r b0 22 v)
    (h : DataW.Trod enc Tryd.prog W 0 (fun _ => true) true 22 v d p) (hw : ∀ n ∈ d.weights Tryd.prog 22, n ≤ reachBytes) : ∃ x : Opvs, v = x.val ∧ x.In W := by
  obtain ⟨a0, len0, cap0, rfl⟩ := okWide_slice Tryd.underlying22 hv
  obtain ⟨fuel, hf⟩ := h
  rcases open_slice_el Opv.cells (fun y => y.s.size ≤ 140737488351232 ∧ In64 y.p ∧ In64 y.t) Tryd.underlying22 cellsOp bytesOp open_opv hf hw with hcs | ⟨a, cap, l, hcs, h1, h2, h3, h4⟩
  · simp [Value.cells] at hcs
    obtain ⟨rfl, rfl, rfl⟩ := hcs
    exact ⟨⟨none, 0, []⟩, rfl, Nat.le_refl _, ⟨by simp, by simp⟩, .inl rfl, fun y hy => by simp at hy⟩
  · simp [Value.cells] at hcs
    obtain ⟨rfl, rfl, rfl⟩ := hcs
    refine ⟨⟨some a, cap0, l⟩, rfl, h1, ⟨by simp only; omega, h2⟩, ?_, fun y hy => ?_⟩
    · by_cases hl0 : l = []
      · exact .inl hl0
      · right
        have h0 : 0 < l.length := List.length_pos_iff.2 hl0
        obtain ⟨h10, _⟩ := h4 0 l[0] (List.getElem?_eq_getElem h0)
        obtain ⟨_, _, hc⟩ := World.cells?_some h10
        have hc0 := hc 0 (by omega)
        obtain ⟨b, o, spot⟩ := a
        have hspot : spot = none := by
          have h13 : W.cell? ⟨b, o, spot⟩ = some (.string l[0].s) := by simpa [Addr.add, Opv.cells] using hc0
          exact World.cell?_spot h13
        subst hspot
        refine ⟨b, o, rfl, fun i x hx => ?_⟩
        obtain ⟨h10, _⟩ := h4 i x hx
        obtain ⟨_, _, hc⟩ := World.cells?_some h10
        have e0 := hc 0 (by omega)
        have e1 := hc 1 (by omega)
        have e2 := hc 2 (by omega)
        rw [add_plain, add_plain] at e0 e1 e2
        exact ⟨e0, e1, e2⟩
    · obtain ⟨i, hi, rfl⟩ := List.getElem_of_mem hy
      exact (h4 i l[i] (List.getElem?_eq_getElem hi)).2
end
end Go.Proofs.YtgaijgadeodoeaaDoor
