/-
  Maps from strings to numbers that a call makes for itself.
-/
import Derived.Test.YtgaijgadeodoeaaDoorM
import Derived.Maps.OwnOps
import Derived.Maps.Views
namespace Go.Proofs.YtgaijgadeodoeaaDoor
open Go.RowKit Go.Maps

/-- Block b is a map of at most n names: to each the number f gives (0 where there is none). -/
def CountMap (w : World) (b n : Nat) (f : List UInt8 → Int) : Prop :=
  ∃ D : DataW Unit, w.ownsMap Tryd.prog 9 (plainElem Tryd.prog 3) b n D ∧ IsMap D ∧ ∀ s, D.atKey (.string s) (.lit (.int .i64 0)) = .lit (.int .i64 (f s))

theorem CountMap.lt {w : World} {b n : Nat} {f : List UInt8 → Int} (h : CountMap w b n f) : b < w.heap.size := by
  obtain ⟨D, h1, _⟩ := h
  exact h1.lt

theorem CountMap.gr {w w' : World} {b n : Nat} {f : List UInt8 → Int} (h : CountMap w b n f) (hg : Gr w w') : CountMap w' b n f := by
  have hlt := h.lt
  obtain ⟨D, ⟨es, clock, hb, h2⟩, h3⟩ := h
  exact ⟨D, ⟨es, clock, (hg.block b hlt).trans hb, h2⟩, h3⟩

theorem CountMap.kept {w w' : World} {b n r : Nat} {f : List UInt8 → Int} (h : CountMap w b n f) (hg : w.grownBy w' (some r)) (hne : b ≠ r) : CountMap w' b n f := by
  obtain ⟨D, h1, h2⟩ := h
  exact ⟨D, h1.kept hg (by simpa using hne), h2⟩

theorem CountMap.mono {w : World} {b n n' : Nat} {f : List UInt8 → Int} (h : CountMap w b n f) (hn : n ≤ n') : CountMap w b n' f := by
  obtain ⟨D, h1, h2⟩ := h
  exact ⟨D, h1.mono hn, h2⟩

theorem CountMap.made (w : World) : CountMap (w.alloc (.map #[] 0)) w.heap.size 0 fun _ => 0 :=
  ⟨.map [], World.ownsMap_made w _ _ _, isMap_empty, fun _ => rfl⟩

theorem zero_int (w : World) : (zeroValue 3).run Tryd.prog w = .ok (.int .i64 0) w := by kernel_rfl

theorem wpList_lookup_count {w : World} {P : Program} {ops : Array Oper} {rest : List Oper} {o : Oper} {a : Act} {Q : Exit → Act → World → Prop} (hg : o.guard = none) (m x : Operand)
    (hop : o.op = Op.lookup 58 m x false) (hP : P = Tryd.prog) (b n : Nat) (f : List UInt8 → Int) (s : ByteArray)
    (hm : a.eval m = .map (some b)) (hx : a.eval x = .string s) (hs : s.size ≤ maxLen) (h : CountMap w b n f) (hK : wpList P ops Q rest (a.put o.dst (.int .i64 (f s.toList))) w) : wpList P ops Q (o :: rest) a w := by
  subst hP
  obtain ⟨D, h1, h2, h3⟩ := h
  refine wpList_lookup_own_int w hg m x 58 hop 9 3 .i64 (string_keyed Tryd.underlying9) Tryd.underlying58 Tryd.underlying3 (zero_int w) b n D hm h1 _ (.string s.data.toList) hx
    (WideMaps.keyOf_string_mk Tryd.underlying9 hs) ?_
  intro c hc _
  rw [h3] at hc
  rw [← ByteArray.toList_eq] at hc
  injection hc with hc
  injection hc with _ hc
  rw [← hc]
  exact hK

set_option maxRecDepth 100000 in
theorem CountMap.run {w : World} {b n : Nat} {f : List UInt8 → Int} (h : CountMap w b n f) (s : ByteArray) (hs : s.size ≤ maxLen) : (Instr.lookup 58 (.map (some b)) (.string s) false).run Tryd.prog w = .ok (.int .i64 (f s.toList)) w := by
  obtain ⟨D, h1, h2, h3⟩ := h
  obtain ⟨c, hr, hc, _⟩ := h1.lookup_int (t := 58) (string_keyed Tryd.underlying9) Tryd.underlying58 Tryd.underlying3 (zero_int w) (WideMaps.keyOf_string_mk Tryd.underlying9 hs)
  rw [h3, ← ByteArray.toList_eq] at hc
  injection hc with hc
  injection hc with _ hc
  subst hc
  exact hr

theorem wpList_update_count {w : World} {P : Program} {ops : Array Oper} {rest : List Oper} {o : Oper} {a : Act} {Q : Exit → Act → World → Prop} (hg : o.guard = none) (m x v : Operand)
    (hop : o.op = Op.mapUpdate 58 m x v) (hP : P = Tryd.prog) (b n : Nat) (f : List UInt8 → Int) (s : ByteArray) (c : Int)
    (hm : a.eval m = .map (some b)) (hx : a.eval x = .string s) (hv : a.eval v = .int .i64 c) (h : CountMap w b n f) (hs : s.size ≤ maxLen) (hn : n < maxLen) (hc : (Lit.int .i64 c).wf = true)
    (hK : ∀ w', CountMap w' b (n + 1) (fun t => if t = s.toList then c else f t) → w.grownBy w' (some b) → wpList P ops Q rest (a.put o.dst undef) w') : wpList P ops Q (o :: rest) a w := by
  subst hP
  obtain ⟨D, h1, h2, h3⟩ := h
  refine wpList_mapUpdate_own w hg m x v 58 hop 9 3 (string_keyed Tryd.underlying9) Tryd.underlying58 (plainElem Tryd.prog 3) b n D hm h1 hn _ _ (.string s.data.toList) hx hv
    (WideMaps.keyOf_string_mk Tryd.underlying9 hs) (.lit (.int .i64 c)) [] (plainElem_int Tryd.underlying3 hc) ?_
  intro w' h4 h5
  refine hK w' ⟨_, h4, h2.put _ _, fun t => ?_⟩ h5
  rw [ByteArray.toList_eq]
  by_cases ht : t = s.data.toList
  · subst ht
    rw [atKey_put_same h2 (by simp [WideAt.IsKeyLit])]
    simp
  · rw [atKey_put_other (by simpa using ht), h3]
    simp [ht]

end Go.Proofs.YtgaijgadeodoeaaDoor
