/-
  Slices of any struct: what one that came in is, carried and read.
-/
import Derived.Test.YtgaijgadeodoeaaDoorO2
import Derived.Test.YtgaijgadeodoeaaDoorA0
namespace Go.Proofs.YtgaijgadeodoeaaDoor
open Go.ChangeShapes Go.WideShapes Go.ChangeAt Go.RowKit Go.Deep

/-- A row of structs. -/
def RowOf {X : Type} (cellsX : X → List Value) (sz : Nat) (w : World) (b o : Nat) (l : List X) : Prop :=
  ∀ (i : Nat) (x : X), l[i]? = some x → ∀ (j : Nat) (v : Value), (cellsX x)[j]? = some v → w.cell? ⟨b, o + i * sz + j, none⟩ = some v

/-- A slice of structs, of each of which something is known. -/
def SlOf {X : Type} (cellsX : X → List Value) (InX : X → Prop) (sz bytes : Nat) (w : World) (p : Option Addr) (c : Nat) (l : List X) : Prop :=
  l.length ≤ c ∧ (l.length * bytes ≤ 140737488351232 ∧ c ≤ 9223372036854775807) ∧ (l = [] ∨ ∃ b o, p = some ⟨b, o, none⟩ ∧ b < w.heap.size ∧ RowOf cellsX sz w b o l) ∧ ∀ y ∈ l, InX y

section
variable {X : Type} {cellsX : X → List Value} {InX : X → Prop} {sz bytes : Nat} {w w' : World} {p : Option Addr} {c : Nat} {l : List X}

theorem SlOf.mono (h : SlOf cellsX InX sz bytes w p c l) (hg : Gr w w') : SlOf cellsX InX sz bytes w' p c l := by
  obtain ⟨h1, h2, h3, h4⟩ := h
  refine ⟨h1, h2, h3.imp id ?_, h4⟩
  rintro ⟨b, o, hp, hb, hr⟩
  exact ⟨b, o, hp, Nat.lt_of_lt_of_le hb hg.size, fun i y hy j v hv => hg.at (hr i y hy j v hv)⟩

theorem SlOf.ptr (h : SlOf cellsX InX sz bytes w p c l) (hl : 0 < l.length) : ∃ b o, p = some ⟨b, o, none⟩ ∧ b < w.heap.size ∧ RowOf cellsX sz w b o l := by
  obtain ⟨_, _, h3, _⟩ := h
  rcases h3 with rfl | h3
  · simp at hl
  · exact h3

theorem SlOf.nil : SlOf cellsX InX sz bytes w none 0 [] := ⟨Nat.le_refl _, ⟨by simp, by omega⟩, .inl rfl, fun y hy => by simp at hy⟩
end

section
variable {H : Type} {enc : TypeId × Value → H} {W : World}

/-- A slice that came in. -/
theorem open_sl {X : Type} {E T : TypeId} {sz bytes : Nat} (cellsX : X → List Value) (InX : X → Prop) (ht : Tryd.prog.underlying T = some (.slice E)) (hc : Tryd.prog.cellsOf E = sz) (hb : Tryd.prog.bytesOf E = bytes) (hpos : 0 < sz)
    (hel : ∀ (fuel : Nat) (cs : List Value) (x : DataW H × List MemPlace), DataW.trod enc Tryd.prog W 0 (fun _ => true) true fuel E cs = some x → (∀ n ∈ x.1.weights Tryd.prog E, n ≤ reachBytes) → ∃ y : X, cs = cellsX y ∧ InX y)
    {fuel : Nat} {cs : List Value} {x : DataW H × List MemPlace} (h : DataW.trod enc Tryd.prog W 0 (fun _ => true) true fuel T cs = some x) (hw : ∀ n ∈ x.1.weights Tryd.prog T, n ≤ reachBytes) :
    ∃ p c l, cs = [.slice p l.length c] ∧ SlOf cellsX InX sz bytes W p c l := by
  rcases open_slice_el cellsX InX ht hc hb hel h hw with hcs | ⟨a, cap, l, hcs, h1, h2, h3, h4⟩
  · exact ⟨none, 0, [], hcs, SlOf.nil⟩
  · have hll : l.length * bytes ≤ 140737488351232 := Nat.le_trans (Nat.mul_le_mul_right _ h1) h3
    refine ⟨some a, cap, l, hcs, h1, ⟨hll, h2⟩, ?_, fun y hy => ?_⟩
    · by_cases hl0 : l = []
      · exact .inl hl0
      · right
        have h0 : 0 < l.length := List.length_pos_iff.2 hl0
        obtain ⟨h10, _⟩ := h4 0 l[0] (List.getElem?_eq_getElem h0)
        obtain ⟨_, hn2, hn3⟩ := World.cells?_some h10
        obtain ⟨b, o, spot⟩ := a
        have hne : W.cell? ⟨b, o, spot⟩ = some ((cellsX l[0])[0]'(by omega)) := by
          have h9 := hn3 0 (by omega)
          rw [List.getElem?_eq_getElem (by omega)] at h9
          rw [← h9]
          simp [Addr.add]
        have hspot : spot = none := World.cell?_spot hne
        subst hspot
        refine ⟨b, o, rfl, World.block_lt_of_cell? _ _ hne, fun i x hx j v hv => ?_⟩
        obtain ⟨h10, _⟩ := h4 i x hx
        obtain ⟨_, hm2, hm3⟩ := World.cells?_some h10
        have hj : j < sz := by rw [← hm2]; exact (List.getElem?_eq_some_iff.1 hv).1
        have h9 := hm3 j hj
        rw [Go.WideShapes.add_plain, Go.WideShapes.add_plain, hv] at h9
        exact h9
    · obtain ⟨i, hi, rfl⟩ := List.getElem_of_mem hy
      exact (h4 i l[i] (List.getElem?_eq_getElem hi)).2
end
end Go.Proofs.YtgaijgadeodoeaaDoor
