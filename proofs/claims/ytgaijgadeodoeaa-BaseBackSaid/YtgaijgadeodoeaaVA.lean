/-
  base.body
-/
import Derived.Test.YtgaijgadeodoeaaV2
import Derived.Test.YtgaijgadeodoeaaT6
import Derived.Test.YtgaijgadeodoeaaV4
namespace Go.Proofs.Ytgaijgadeodoeaa
open Go.RowKit

/-- A body is handed back, and whether there is one. -/
def RetBody (S : Nat → Prop) (r : Option T) (w : World) (e : Ending) (w' : World) : Prop :=
  ∃ (bm : Tm) (ok : Bool), e = .returned (.tuple #[bm.val, .bool ok]) ∧ bm.In w' ∧ ok = r.isSome ∧ (∀ u, r = some u → bm.erase = u) ∧ Gr w w' ∧ bm.On fun b => S b ∨ w.heap.size ≤ b

theorem bl44 : (ByteArray.mk #[44]).toList = [44] := by rw [ByteArray.toList_mk]
theorem bl59 : (ByteArray.mk #[59]).toList = [59] := by rw [ByteArray.toList_mk]
theorem bl4562 : (ByteArray.mk #[45, 62]).toList = [45, 62] := by rw [ByteArray.toList_mk]
theorem blCall : (ByteArray.mk #[99, 97, 108, 108]).toList = sCallT := by rw [ByteArray.toList_mk]; rfl
theorem blTrue : (ByteArray.mk #[116, 114, 117, 101]).toList = sTrue := by rw [ByteArray.toList_mk]; rfl
theorem blNeck : (ByteArray.mk #[58, 45]).toList = sNeck := by rw [ByteArray.toList_mk]; rfl

/-- A new slice of one term. -/
theorem one_new {t : Tm} {w w' : World} (ht : t.In w) (hg : Gr (w.alloc (.cells #[.int .i64 t.k, .int .i64 t.n, .string t.s, .slice t.p t.l.length t.c] 28)) w') : Tm.Sl w' (some ⟨w.heap.size, 0, none⟩) 1 [t] := by
  obtain ⟨⟨y0, y1, y2, y3⟩, _, _⟩ := ((Blk4.new w (.int .i64 t.k) (.int .i64 t.n) (.string t.s) (.slice t.p t.l.length t.c)).gr hg).parts
  exact one_row (Tm.In_below (below_step hg (by go_grown)) ht) y0 y1 y2 y3

def bodyOf (t : Tm) : Prop := ∀ (S : Nat → Prop) (w : World), t.In w → t.erase.formed = true → t.On S → (∀ b, S b → b < w.heap.size) → Calls Try.prog 82 #[t.val] w (RetBody S (T.body t.erase) w)

theorem tm_val (k n : Int) (s : ByteArray) (p : Option Addr) (c : Nat) (l : List Tm) : (Tm.mk k n s p c l).val = .agg #[.int .i64 k, .int .i64 n, .string s, .slice p l.length c] := rfl

set_option maxHeartbeats 2000000 in
set_option maxRecDepth 100000 in
theorem body_walk_var (n : Int) (s : ByteArray) (p : Option Addr) (c : Nat) (l : List Tm) (S : Nat → Prop) (w : World) (hin : (Tm.mk 1 n s p c l).In w) (hon : (Tm.mk 1 n s p c l).On S) (hS : ∀ b, S b → b < w.heap.size) :
    Calls Try.prog 82 #[(Tm.mk 1 n s p c l).val] w (RetBody S (some (compT sCallT [(Tm.mk 1 n s p c l).erase])) w) := by
  generalize hQ : RetBody S (some (compT sCallT [(Tm.mk 1 n s p c l).erase])) w = Q
  have HQ := Lib.hid hQ
  have Hin := Lib.hid hin
  have Hon := Lib.hid hon
  have HS := Lib.hid hS
  clear hQ hin hon hS
  simp only [tm_val]
  go_enter Try.func82, Try.ntmps82
  try simp only [List.append_eq, List.cons_append, List.nil_append]
  go_upto_region 1 with fail
  obtain ⟨HB, HR, gA⟩ := two_blocks w (.int .i64 1) (.int .i64 n) (.string s) (.slice p l.length c) (.int .i64 0) (.int .i64 0) (.string ⟨#[]⟩) (.slice none 0 0)
  generalize (w.alloc (.cells #[.int .i64 1, .int .i64 n, .string s, .slice p l.length c] 28)).alloc (.cells #[.int .i64 0, .int .i64 0, .string ⟨#[]⟩, .slice none 0 0] 28) = wA at *
  obtain ⟨⟨b0, b1, b2, b3⟩, _, _⟩ := HB.out.parts
  go_wp2_with (first
    | (go_at_call 73; refine (comp_calls _ _ _ _ _).mono ?_; rintro e w' ⟨rfl, hb⟩; have HB2 := Lib.hid (one_new (t := .mk 1 n s p c l) (Tm.In_below gA Hin.out) hb); have g2 : Gr wA w' := below_step hb (by go_grown); obtain ⟨⟨y0, y1, y2, y3⟩, ⟨f0, f1, f2, f3⟩, hlt⟩ := (HR.out.gr g2).parts; clear hb b0 b1 b2 b3)
    | fail)
  refine bodyPost_ret (v := .tuple #[(compTm ⟨#[99, 97, 108, 108]⟩ (some ⟨wA.heap.size, 0, none⟩) 1 [.mk 1 n s p c l]).val, .bool true]) (by simp (maxDischargeDepth := 9) [results, Try.results82, go_sem, compTm, Tm.val, Tm.k, Tm.n, Tm.s, Tm.p, Tm.c, Tm.l, y0, y1, y2, y3]) rfl ?_
  rw [← HQ.out]
  have hg : Gr w w' := gA.trans g2
  have hs := gA.size
  refine ⟨compTm ⟨#[99, 97, 108, 108]⟩ (some ⟨wA.heap.size, 0, none⟩) 1 [.mk 1 n s p c l], true, rfl, ?_, rfl, fun u hu => ?_, by go_grown, ?_⟩
  · refine in_after' (S := fun b => b ≠ w.heap.size + 1) (compTm_in (by decide) HB2.out) ?_ fun b h1 h2 o => by rw [cell_set_ne h1, cell_set_ne h1, cell_set_ne h1, cell_set_ne h1]
    rw [compTm, Tm.On, Tm.OnL, Tm.OnL]
    have := HR.out.parts.2.2
    exact ⟨.inr ⟨_, _, rfl, by omega⟩, Hon.out.mono fun b hb => by have := HS.out b hb; omega, trivial⟩
  · cases hu
    rw [compTm, Tm.erase, Tm.eraseL, Tm.eraseL, blCall]
    rfl
  · rw [compTm, Tm.On, Tm.OnL, Tm.OnL]
    exact ⟨.inr ⟨_, _, rfl, .inr hs⟩, Hon.out.mono fun b hb => .inl hb, trivial⟩

end Go.Proofs.Ytgaijgadeodoeaa
