/-
  A clause that comes in.
-/
import Derived.Test.YtgaijgadeodoeaaDoorO
import Derived.Test.YtgaijgadeodoeaaDoorO2
import Derived.Test.YtgaijgadeodoeaaDoorVE
namespace Go.Proofs.YtgaijgadeodoeaaDoor
open Go.ChangeShapes Go.WideShapes Go.ChangeAt Go.RowKit Go.Deep

/-- A clause. -/
structure Clv where
  h : Tm
  b : Tm
def Clv.val (x : Clv) : Value := clVal x.h x.b
def Clv.In (w : World) (x : Clv) : Prop := x.h.In w ∧ x.b.In w

theorem list8 {α : Type} {l : List α} (h : l.length = 8) : ∃ a b c d e f g i, l = [a, b, c, d, e, f, g, i] := by
  match l, h with
  | [a, b, c, d, e, f, g, i], _ => exact ⟨a, b, c, d, e, f, g, i, rfl⟩

section
variable {H : Type} {enc : TypeId × Value → H} {W : World}
theorem cellsClause : Tryd.prog.cellsOf 40 = 8 := by kernel_rfl
theorem cellsTermC : Tryd.prog.cellsOf 38 = 4 := by kernel_rfl

set_option maxRecDepth 100000 in
/-- An argument of type api.Clause. -/
theorem open_clause_arg {r : Reach} {b0 : Nat} {v : Value} {d : DataW H} {p : List MemPlace} (hv : Value.okWide Tryd.prog W r b0 40 v)
    (h : DataW.Trod enc Tryd.prog W 0 (fun _ => true) true 40 v d p) (hw : ∀ n ∈ d.weights Tryd.prog 40, n ≤ reachBytes) : ∃ x : Clv, v = x.val ∧ x.In W := by
  obtain ⟨cs, rfl, hsz⟩ := okWide_struct Tryd.underlying40 hv
  obtain ⟨fuel, hf0⟩ := h
  obtain ⟨xs, m, rfl, hds, hl, hlen, hf⟩ := DataW.trod_struct Tryd.underlying40 hf0
  rw [cellsClause] at hl
  obtain ⟨y0, y1, rfl⟩ := list2 hlen
  change cs.toList.length = 8 at hl
  obtain ⟨v0, v1, v2, v3, v4, v5, v6, v7, hcs⟩ := list8 hl
  have g0 := hf 0 _ rfl
  have g1 := hf 1 _ rfl
  change _ = some _ at g0 g1
  simp only [Value.cells, hcs] at g0 g1
  simp [cellsTermC] at g0 g1
  simp only [Prod.mk.injEq] at hds
  obtain ⟨rfl, rfl⟩ := hds
  simp only [List.map_cons, List.map_nil, DataW.weights, Tryd.underlying40, DataW.weightsEach, List.append_nil, List.nil_append, List.mem_append, List.mem_cons, List.mem_nil_iff, or_false] at hw
  obtain ⟨t0, e0, i0⟩ := open_term m _ _ g0 fun n hn => hw n (.inl hn)
  obtain ⟨t1, e1, i1⟩ := open_term m _ _ g1 fun n hn => hw n (.inr hn)
  simp only [Tm.cells, List.cons.injEq, and_true] at e0 e1
  obtain ⟨rfl, rfl, rfl, rfl⟩ := e0
  obtain ⟨rfl, rfl, rfl, rfl⟩ := e1
  refine ⟨⟨t0, t1⟩, ?_, i0, i1⟩
  unfold Clv.val clVal
  congr 1
  rw [← Array.toArray_toList (xs := cs), hcs]
end
end Go.Proofs.YtgaijgadeodoeaaDoor
