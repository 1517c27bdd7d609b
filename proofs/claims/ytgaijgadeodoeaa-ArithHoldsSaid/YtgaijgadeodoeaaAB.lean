/-
  arith.Eval's deferred closure: what it does to a frame that panics, and to one that returns.
-/
import Derived.Test.YtgaijgadeodoeaaA9
import Derived.Defers
import Derived.Recover
namespace Go.Proofs.Ytgaijgadeodoeaa
open Go.RowKit

theorem neq_any_nil (w : World) : (binOp .neq 20 .nilIface .nilIface).run Try.prog w = .ok (.bool false) w := by kernel_rfl
theorem neq_any_wr (v : Value) (w : World) : (binOp .neq 20 (.iface wr v) .nilIface).run Try.prog w = .ok (.bool true) w := by kernel_rfl

theorem assert_wr (v : Value) (w : World) : (Instr.typeAssert (.iface wr v) 20 wr true).run Try.prog w = .ok (.tuple #[v, .bool true]) w := by kernel_rfl

set_option maxHeartbeats 400000 in
theorem catch_idle (p q r : Addr) (w : World) :
    CallsD Try.prog 53 #[.pointer (some p), .pointer (some q), .pointer (some r)] .returning w fun e u' w' => e = .returned (.tuple #[]) ∧ u' = .returning ∧ w' = w := by
  have q1 := neq_any_nil
  refine callsD_of_wpS Try.func53 rfl fun c₀ cs hu => ?_
  apply wpS_seq
  apply wpS_region
  simp [wpOpsS, go_sem, recoverD, hu, Try.ntmps53, Exit.thenS]
  refine wpS_of_wp ?_
  have hfin : ∀ a : Act, a.defers = [] → bodyPostS Try.prog Try.f53 c₀ cs (fun e u' w' => e = Ending.returned (Value.tuple #[]) ∧ u' = FrameMode.returning ∧ w' = w) .normal a (c₀ :: cs) w := by
    intro a ha
    cases c₀
    simp_all [bodyPostS, results, Try.results53]
  generalize bodyPostS Try.prog Try.f53 c₀ cs (fun e u' w' => e = Ending.returned (Value.tuple #[]) ∧ u' = FrameMode.returning ∧ w' = w) = Q at hfin ⊢
  have hfin2 := Lib.hid hfin
  clear hfin hu
  rw [show (#[Value.pointer (some p), Value.pointer (some q), Value.pointer (some r)] ++ ((Array.replicate 16 undef).setIfInBounds 3 Value.nilIface).setIfInBounds 0 Value.nilIface) = #[Value.pointer (some p), Value.pointer (some q), Value.pointer (some r), .nilIface, undef, undef, .nilIface, undef, undef, undef, undef, undef, undef, undef, undef, undef, undef, undef, undef] from rfl]
  go_wp2_with fail
  exact hfin2.out _ rfl


/-- What the closure leaves. -/
def Caught (A B C : Nat) (t : Tm) (w w' : World) : Prop :=
  w'.cell? ⟨A, 0, none⟩ = some (.int .i64 0) ∧ Boxed w' B t ∧ w'.cell? ⟨C, 0, none⟩ = some (.int .i64 14) ∧ Below A w w' ∧
  ∀ b, b < w.heap.size → b ≠ A → b ≠ B → b ≠ C → ∀ o, w'.cell? ⟨b, o, none⟩ = w.cell? ⟨b, o, none⟩

set_option maxHeartbeats 1000000 in
set_option maxRecDepth 100000 in
theorem catch_panicking (A B C : Nat) (t : Tm) (w : World) (a0 c0 b0 b1 b2 b3 : Value) (hAB : A < B) (hBC : B < C)
    (ha : w.cell? ⟨A, 0, none⟩ = some a0) (hb0 : w.cell? ⟨B, 0, none⟩ = some b0) (hb1 : w.cell? ⟨B, 1, none⟩ = some b1) (hb2 : w.cell? ⟨B, 2, none⟩ = some b2) (hb3 : w.cell? ⟨B, 3, none⟩ = some b3) (hc : w.cell? ⟨C, 0, none⟩ = some c0)
    (fa : w.frozen? ⟨A, 0, none⟩ = false) (fb0 : w.frozen? ⟨B, 0, none⟩ = false) (fb1 : w.frozen? ⟨B, 1, none⟩ = false) (fb2 : w.frozen? ⟨B, 2, none⟩ = false) (fb3 : w.frozen? ⟨B, 3, none⟩ = false) (fc : w.frozen? ⟨C, 0, none⟩ = false) :
    CallsD Try.prog 53 #[.pointer (some ⟨A, 0, none⟩), .pointer (some ⟨B, 0, none⟩), .pointer (some ⟨C, 0, none⟩)] (.panicking ({ v := .iface wr t.val, recovered := false } :: [])) w fun e u' w' =>
      e = .returned (.tuple #[]) ∧ u' = .panicking ({ v := .iface wr t.val, recovered := true } :: []) ∧ Caught A B C t w w' := by
  have q1 := neq_any_wr
  have q2 : ∀ (v : Value) (w : World), (Instr.typeAssert (.iface wr v) 20 73 true).run Try.prog w = .ok (.tuple #[v, .bool true]) w := assert_wr
  refine callsD_of_wpS Try.func53 rfl fun c₀ cs hu => ?_
  apply wpS_seq
  apply wpS_region
  simp [wpOpsS, go_sem, recoverD, hu, Try.ntmps53, Exit.thenS]
  refine wpS_of_wp ?_
  have hfin : ∀ (a : Act) (w' : World), a.defers = [] → Caught A B C t w w' → bodyPostS Try.prog Try.f53 c₀ cs (fun e u' w' => e = Ending.returned (Value.tuple #[]) ∧ u' = FrameMode.panicking [{ v := Value.iface wr t.val, recovered := true }] ∧ Caught A B C t w w') .normal a ({ fn := c₀.fn, tmps := c₀.tmps, todo := c₀.todo, defers := c₀.defers, mode := FrameMode.panicking [{ v := Value.iface wr t.val, recovered := true }], kind := c₀.kind, roundOf := c₀.roundOf } :: cs) w' := by
    intro a w' ha hw
    cases c₀
    simp_all [bodyPostS, results, Try.results53]
  generalize bodyPostS Try.prog Try.f53 c₀ cs (fun e u' w' => e = Ending.returned (Value.tuple #[]) ∧ u' = FrameMode.panicking [{ v := Value.iface wr t.val, recovered := true }] ∧ Caught A B C t w w') = Q at hfin ⊢
  generalize ({ fn := c₀.fn, tmps := c₀.tmps, todo := c₀.todo, defers := c₀.defers, mode := FrameMode.panicking [{ v := Value.iface wr t.val, recovered := true }], kind := c₀.kind, roundOf := c₀.roundOf } :: cs) = fr at hfin ⊢
  have hfin2 := Lib.hid hfin
  have la := World.block_lt_of_cell? _ _ ha
  have lb := World.block_lt_of_cell? _ _ hb0
  have lc := World.block_lt_of_cell? _ _ hc
  clear hfin hu
  obtain ⟨k, n, s, p, c, l⟩ := t
  simp only [Tm.val, Tm.k, Tm.n, Tm.s, Tm.p, Tm.c, Tm.l]
  rw [show (#[Value.pointer (some ⟨A, 0, none⟩), Value.pointer (some ⟨B, 0, none⟩), Value.pointer (some ⟨C, 0, none⟩)] ++ ((Array.replicate 16 undef).setIfInBounds 3 (Value.iface wr (.agg #[.int .i64 k, .int .i64 n, .string s, .slice p l.length c]))).setIfInBounds 0 (Value.iface wr (.agg #[.int .i64 k, .int .i64 n, .string s, .slice p l.length c]))) = #[Value.pointer (some ⟨A, 0, none⟩), Value.pointer (some ⟨B, 0, none⟩), Value.pointer (some ⟨C, 0, none⟩), (Value.iface wr (.agg #[.int .i64 k, .int .i64 n, .string s, .slice p l.length c])), undef, undef, (Value.iface wr (.agg #[.int .i64 k, .int .i64 n, .string s, .slice p l.length c])), undef, undef, undef, undef, undef, undef, undef, undef, undef, undef, undef, undef] from rfl]
  go_wp2_with fail
  go_region
  have hC : C ≠ w.heap.size := by omega
  have hBC' : B ≠ C := by omega
  have hAB' : A ≠ B := by omega
  have x0 : (w.setCell ⟨A, 0, none⟩ (.int .i64 0)).cell? ⟨B, 0, none⟩ = some b0 := by rw [cell_set_ne (Ne.symm hAB')]; exact hb0
  have x1 : (w.setCell ⟨A, 0, none⟩ (.int .i64 0)).cell? ⟨B, 1, none⟩ = some b1 := by rw [cell_set_ne (Ne.symm hAB')]; exact hb1
  have x2 : (w.setCell ⟨A, 0, none⟩ (.int .i64 0)).cell? ⟨B, 2, none⟩ = some b2 := by rw [cell_set_ne (Ne.symm hAB')]; exact hb2
  have x3 : (w.setCell ⟨A, 0, none⟩ (.int .i64 0)).cell? ⟨B, 3, none⟩ = some b3 := by rw [cell_set_ne (Ne.symm hAB')]; exact hb3
  refine hfin2.out _ _ rfl ⟨by go_cell, ?_, by go_cell, by go_grown, ?_⟩
  · generalize w.setCell ⟨A, 0, none⟩ (.int .i64 0) = v at x0 x1 x2 x3
    refine ⟨?_, ?_, ?_, ?_⟩ <;> rw [World.cell?_drew, World.cell?_alloc_past _ _ _ (by simpa using World.block_lt_of_cell? _ _ x0), cell_set_ne hBC']
    all_goals simp [World.cell?_setCell_other, World.cell?_setCell_same', x0, x1, x2, x3, Tm.k, Tm.n, Tm.s, Tm.p, Tm.c, Tm.l]
  intro b hb h1 h2 h3 o
  rw [World.cell?_drew, World.cell?_alloc_past _ _ _ (by simpa using hb), cell_set_ne h3, cell_set_ne h2, cell_set_ne h2, cell_set_ne h2, cell_set_ne h2, cell_set_ne h1]
end Go.Proofs.Ytgaijgadeodoeaa
