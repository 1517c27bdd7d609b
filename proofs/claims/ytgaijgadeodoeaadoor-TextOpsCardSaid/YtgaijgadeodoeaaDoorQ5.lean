/-
  Slices of operators that a call makes by append; the operators that are there from the start.
-/
import Derived.Test.YtgaijgadeodoeaaDoorQ2
import Derived.Test.YtgaijgadeodoeaaDoorS0
namespace Go.Proofs.YtgaijgadeodoeaaDoor
open Go.RowKit

theorem infoOp : (Tryd.prog.info? 27).map (fun i => (i.zero, i.size, i.bytes)) = some (some (.agg #[.string ⟨#[]⟩, .int .i64 0, .int .i64 0]), 3, 32) := by kernel_rfl

/-- The slice v of the call's own (blocks from B on) holds the operators l. -/
def BuiltOps (w : World) (B : Nat) (v : Value) (l : List Opv) : Prop := w.ownsRow B 27 3 v l.length (l.flatMap Opv.cells)

theorem opcells_len : ∀ l : List Opv, (l.flatMap Opv.cells).length = l.length * 3
  | [] => rfl
  | x :: xs => by rw [List.flatMap_cons, List.length_append, opcells_len xs, List.length_cons, Opv.cells]; simp; omega

theorem opcells_at : ∀ {l : List Opv} {i : Nat} {x : Opv}, l[i]? = some x → ∀ j, j < 3 → (l.flatMap Opv.cells)[i * 3 + j]? = x.cells[j]?
  | y :: ys, 0, x, h, j, hj => by
    simp only [List.getElem?_cons_zero, Option.some.injEq] at h
    subst h
    rw [List.flatMap_cons, Nat.zero_mul, Nat.zero_add, List.getElem?_append_left (by simp [Opv.cells]; omega)]
  | y :: ys, i + 1, x, h, j, hj => by
    simp only [List.getElem?_cons_succ] at h
    rw [List.flatMap_cons, List.getElem?_append_right (by simp [Opv.cells]; omega), ← opcells_at h j hj]
    congr 1
    simp [Opv.cells]
    omega

theorem BuiltOps.nil (w : World) (B : Nat) : BuiltOps w B (.slice none 0 0) [] := World.ownsRow_nil w B _ 3
theorem BuiltOps.gr {w w' : World} {B : Nat} {v : Value} {l : List Opv} (h : BuiltOps w B v l) (hg : Gr w w') : BuiltOps w' B v l := ownsRow_gr h hg
theorem BuiltOps.block {w : World} {B : Nat} {v : Value} {l : List Opv} (h : BuiltOps w B v l) : ∀ k, v.ownBlock = some k → B ≤ k := fun k hk => (h.lt k hk).1
theorem BuiltOps.blt {w : World} {B : Nat} {v : Value} {l : List Opv} (h : BuiltOps w B v l) : ∀ k, v.ownBlock = some k → k < w.heap.size := fun k hk => (h.lt k hk).2

theorem BuiltOps.form {w : World} {B : Nat} {v : Value} {l : List Opv} (h : BuiltOps w B v l) : ∃ p c, v = .slice p l.length c := by
  rcases h.2 with ⟨rfl, h0⟩ | ⟨g, cap, cur, rfl, _⟩
  · exact ⟨none, 0, by rw [h0]⟩
  · exact ⟨_, _, rfl⟩

/-- What has been made is a slice of operators. -/
theorem BuiltOps.ops {w : World} {B : Nat} {v : Value} {l : List Opv} (h : BuiltOps w B v l) (hl : l.length * 32 ≤ 140737488351232) (hs : ∀ y ∈ l, y.s.size ≤ 140737488351232 ∧ In64 y.p ∧ In64 y.t) :
    ∃ p c, v = (Opvs.mk p c l).val ∧ (Opvs.mk p c l).In w := by
  rcases h.2 with ⟨rfl, h1⟩ | ⟨g, cap, cur, h0, hbg, hg, hnc, hcm, hcs, htake⟩
  · have hn : l = [] := List.eq_nil_of_length_eq_zero h1
    subst hn
    exact ⟨none, 0, rfl, Nat.le_refl _, ⟨by simp, by simp⟩, .inl rfl, fun y hy => by simp at hy⟩
  · simp only [maxLen] at hcm
    refine ⟨some ⟨g, 0, none⟩, cap, h0, hnc, ⟨hl, by simp only; omega⟩, .inr ⟨g, 0, rfl, ?_⟩, hs⟩
    intro i x hx
    have hi : i < l.length := (List.getElem?_eq_some_iff.1 hx).1
    subst h0
    have hat : ∀ j, j < 3 → w.cell? ⟨g, 0 + i * 3 + j, none⟩ = x.cells[j]? := by
      intro j hj
      rw [Nat.zero_add, World.ownsRow.cellAt h _ (by omega)]
      exact opcells_at hx j hj
    exact ⟨hat 0 (by omega), hat 1 (by omega), hat 2 (by omega)⟩

/-- append of one operator. -/
theorem wpList_append_op {P : Program} {w : World} {ops : Array Oper} {rest : List Oper} {o : Oper} {a : Act} {Q : Exit → Act → World → Prop} (hgd : o.guard = none) (s y : Operand)
    (ho : o.op = .call { callee := .builtin .append, args := #[s, y], argTypes := #[22, 22] }) (hP : P = Tryd.prog)
    (B : Nat) (v : Value) (l : List Opv) (x : Opv) (b c : Nat) (hs : a.eval s = v) (hy : a.eval y = .slice (some ⟨b, 0, none⟩) 1 c) (h : BuiltOps w B v l) (hB : B ≤ w.heap.size) (hl : (l.length + 1) * 32 ≤ 140737488351232)
    (c0 : w.cell? ⟨b, 0, none⟩ = some (.string x.s)) (c1 : w.cell? ⟨b, 1, none⟩ = some (.int .i64 x.p)) (c2 : w.cell? ⟨b, 2, none⟩ = some (.int .i64 x.t))
    (hK : ∀ v' w', BuiltOps w' B v' (l ++ [x]) → w.grownBy w' v.ownBlock → (v'.ownBlock = v.ownBlock ∨ v'.ownBlock = some w.heap.size) → wpList P ops Q rest (a.put o.dst v') w') : wpList P ops Q (o :: rest) a w := by
  subst hP
  refine wpList_append_one hgd s y 22 27 ho Tryd.underlying22 infoOp rfl (by decide) B v l.length (l.flatMap Opv.cells) b c x.cells hs hy h hB rfl ?_ ?_ (by simp only [maxLen]; omega) (by omega) ?_
  · intro j u hu
    match j, hu with
    | 0, hu => cases hu; exact c0
    | 1, hu => cases hu; exact c1
    | 2, hu => cases hu; exact c2
    | j + 3, hu => simp [Opv.cells] at hu
  · intro u hu
    simp only [Opv.cells, List.mem_cons, List.mem_nil_iff, or_false] at hu
    rcases hu with rfl | rfl | rfl <;> rfl
  · intro v' w' h2 h3 h4
    exact hK v' w' (by simpa [BuiltOps] using h2) h3 h4

end Go.Proofs.YtgaijgadeodoeaaDoor
