/-
  hornref.Eval
-/
import Derived.Test.YtgaijgadeodoeaaB8
import Derived.Test.YtgaijgadeodoeaaB9
namespace Go.Proofs.Ytgaijgadeodoeaa
open Go.RowKit

/-- The reference's answer: a number, or a ball. -/
def RetE (r : Ev) (w : World) (e : Ending) (w' : World) : Prop :=
  match r with
  | .ok n => e = .returned (.tuple #[.int .i64 n, zeroTm.val, .bool true]) ∧ Gr w w' ∧ In64 n
  | .bad b => ∃ tb : Tm, tb.In w' ∧ tb.erase = b ∧ tb.On (w.heap.size ≤ ·) ∧ e = .returned (.tuple #[.int .i64 0, tb.val, .bool false]) ∧ Gr w w'

theorem rete_bad {r : Ev} {b : T} {w w' : World} {e : Ending} (h : r = .bad b) (tb : Tm) (hin : tb.In w') (he : tb.erase = b) (hon : tb.On (w.heap.size ≤ ·)) (hr : e = .returned (.tuple #[.int .i64 0, tb.val, .bool false])) (hg : Gr w w') : RetE r w e w' := by
  subst h; exact ⟨tb, hin, he, hon, hr, hg⟩
theorem rete_ok {r : Ev} {n : Int} {w w' : World} {e : Ending} (h : r = .ok n) (hr : e = .returned (.tuple #[.int .i64 n, zeroTm.val, .bool true])) (hg : Gr w w') (hi : In64 n) : RetE r w e w' := by
  subst h; exact ⟨hr, hg, hi⟩

/-- A block that is just the four cells of a term. -/
def Blk4 (w : World) (b : Nat) (v0 v1 v2 v3 : Value) : Prop := w.heap[b]? = some (.cells #[v0, v1, v2, v3] 28)
theorem Blk4.gr {w w' : World} {b : Nat} {v0 v1 v2 v3 : Value} (h : Blk4 w b v0 v1 v2 v3) (hg : Gr w w') : Blk4 w' b v0 v1 v2 v3 :=
  (hg.block b (Array.getElem?_eq_some_iff.1 h).1).trans h
theorem Blk4.below {w w' : World} {B b : Nat} {v0 v1 v2 v3 : Value} (h : Blk4 w b v0 v1 v2 v3) (hg : Below B w w') (hb : b < B) : Blk4 w' b v0 v1 v2 v3 := (hg.block b hb).trans h
theorem Blk4.parts {w : World} {b : Nat} {v0 v1 v2 v3 : Value} (h : Blk4 w b v0 v1 v2 v3) :
    (w.cell? ⟨b, 0, none⟩ = some v0 ∧ w.cell? ⟨b, 1, none⟩ = some v1 ∧ w.cell? ⟨b, 2, none⟩ = some v2 ∧ w.cell? ⟨b, 3, none⟩ = some v3) ∧
    (w.frozen? ⟨b, 0, none⟩ = false ∧ w.frozen? ⟨b, 1, none⟩ = false ∧ w.frozen? ⟨b, 2, none⟩ = false ∧ w.frozen? ⟨b, 3, none⟩ = false) ∧ b < w.heap.size :=
  ⟨⟨cell_of_row w b 0 _ _ _ h, cell_of_row w b 1 _ _ _ h, cell_of_row w b 2 _ _ _ h, cell_of_row w b 3 _ _ _ h⟩,
   ⟨frozen_of_row w b 0 _ _ h, frozen_of_row w b 1 _ _ h, frozen_of_row w b 2 _ _ h, frozen_of_row w b 3 _ _ h⟩, (Array.getElem?_eq_some_iff.1 h).1⟩
theorem Blk4.new (w : World) (v0 v1 v2 v3 : Value) : Blk4 (w.alloc (.cells #[v0, v1, v2, v3] 28)) w.heap.size v0 v1 v2 v3 := heap_alloc_new w _
theorem Blk4.old {w : World} {b : Nat} {v0 v1 v2 v3 : Value} (h : Blk4 w b v0 v1 v2 v3) (o : Obj) : Blk4 (w.alloc o) b v0 v1 v2 v3 :=
  (heap_alloc_old w o (Array.getElem?_eq_some_iff.1 h).1).trans h

theorem rA_calls' (s : ByteArray) (w : World) : Calls Try.prog 56 #[.string s] w (Ret (.agg #[.int .i64 3, .int .i64 0, .string s, .slice none 0 0]) w) := rA_calls s w

def T.k : T → Int | .mk k _ _ _ => k
def T.n : T → Int | .mk _ n _ _ => n
def T.s : T → Str | .mk _ _ s _ => s
def T.l : T → List T | .mk _ _ _ l => l

set_option maxHeartbeats 2000000 in
set_option maxRecDepth 100000 in
theorem reval_leaf (t : Tm) (w : World) (h : t.In w) (hl : t.k = 1 ∨ t.k = 2) : Calls Try.prog 26 #[t.val] w (RetE (evalT t.erase) w) := by
  obtain ⟨k, n, s, p, c, l⟩ := t
  rw [Tm.In] at h
  obtain ⟨hk, hn, hs, hlc, hc, hp, hIn⟩ := h
  have Hn := Lib.hid hn
  clear hp hIn hn hs
  simp only [Tm.k] at hl
  simp only [Tm.val, Tm.k, Tm.n, Tm.s, Tm.p, Tm.c, Tm.l, Tm.erase]
  generalize hr : evalT (.mk k n s.toList (Tm.eraseL l)) = r
  have Hr := Lib.hid hr
  clear hr
  rcases hl with rfl | rfl
  · go_enter Try.func26, Try.ntmps26
    go_wp2_with fail
    refine (rA_calls' _ _).mono ?_
    rintro e w1 ⟨rfl, hb1⟩
    obtain ⟨⟨y0, y1, y2, y3⟩, ⟨f0, f1, f2, f3⟩, _⟩ := (Blk4.gr (Blk4.new _ _ _ _ _) hb1).parts
    simp only [World.size_alloc] at y0 y1 y2 y3 f0 f1 f2 f3
    have g1 : Gr w w1 := below_step hb1 (by go_grown)
    clear hb1
    go_wp2_with fail
    refine bodyPost_ret (v := .tuple #[.int .i64 0, (atomTm ⟨#[117, 110, 98, 111, 117, 110, 100]⟩).val, .bool false]) (by simp [results, Try.results26, go_sem, Tm.val, atomTm, Tm.k, Tm.n, Tm.s, Tm.p, Tm.c, Tm.l, y0, y1, y2, y3]) rfl ?_
    exact rete_bad (b := atomT sUnbound) (by rw [← Hr.out, evalT_var]) _ (atomTm_in (by decide) _) (by rw [atomTm_erase, unboundL]) (atomTm_on _) rfl (by go_grown)
  · go_enter Try.func26, Try.ntmps26
    go_wp2_with fail
    refine bodyPost_ret (v := .tuple #[.int .i64 n, zeroTm.val, .bool true]) (by simp [results, Try.results26, go_sem, Tm.val, zeroTm, Tm.k, Tm.n, Tm.s, Tm.p, Tm.c, Tm.l]) rfl ?_
    exact rete_ok (n := n) (by rw [← Hr.out, evalT_int]) rfl (by go_grown) Hn.out

theorem evaluable_iff1 {s : Str} {n : Nat} (h : n = 1) : evaluable s n = (prim1 s).isSome := by rw [evaluable, if_pos h]
theorem evaluable_iff2 {s : Str} {n : Nat} (h : n = 2) : evaluable s n = (prim2 s).isSome := by rw [evaluable, if_neg (by omega), if_pos h]
theorem evaluable_iff0 {s : Str} {n : Nat} (h : n ≠ 1) (h' : n ≠ 2) : evaluable s n = false := by rw [evaluable, if_neg h, if_neg h']

/-- Where there is no such operation. -/
theorem evalT_missing {t : T} (hk1 : t.k ≠ 1) (hk2 : t.k ≠ 2) (h : evaluable t.s t.l.length = false) : evalT t = .bad (missingT t.s t.l.length) := by
  obtain ⟨k, n, s, l⟩ := t
  simp only [T.k, T.s, T.l] at *
  by_cases h1 : l.length = 1
  · obtain ⟨x, rfl⟩ := List.length_eq_one_iff.1 h1
    rw [evaluable_iff1 (n := [x].length) rfl] at h
    rw [evalT_one hk1 hk2]
    cases hp : prim1 s with
    | none => rfl
    | some f => rw [hp] at h; cases h
  by_cases h2 : l.length = 2
  · obtain ⟨x, y, rfl⟩ := len_two h2
    rw [evaluable_iff2 (n := [x, y].length) rfl] at h
    rw [evalT_two hk1 hk2]
    cases hp : prim2 s with
    | none => rfl
    | some f => rw [hp] at h; cases h
  exact evalT_more hk1 hk2 h1 h2

set_option maxHeartbeats 2000000 in
set_option maxRecDepth 100000 in
theorem reval_missing (t : Tm) (w : World) (h : t.In w) (hk1 : t.k ≠ 1) (hk2 : t.k ≠ 2) (hv : evaluable t.s.toList t.l.length = false) :
    Calls Try.prog 26 #[t.val] w (RetE (.bad (missingT t.s.toList t.l.length)) w) := by
  have HT := Lib.hid h
  obtain ⟨k, n, s, p, c, l⟩ := t
  rw [Tm.In] at h
  obtain ⟨hk, hn, hs, hlc, hc, hp, hIn⟩ := h
  clear hp hIn
  simp only [Tm.val, Tm.k, Tm.n, Tm.s, Tm.p, Tm.c, Tm.l] at *
  have hk1' : (k == 1) = false := beq_eq_false_iff_ne.2 hk1
  have hk2' : (k == 2) = false := beq_eq_false_iff_ne.2 hk2
  have Hv := Lib.hid hv
  clear hk1 hk2 hv
  go_enter Try.func26, Try.ntmps26
  go_wp2_with fail
  refine (evaluable_calls s l.length _).mono ?_
  rw [Hv.out]
  rintro e w1 ⟨rfl, hb1⟩
  have R1 : Blk4 w1 (w.heap.size + 1) _ _ _ _ := Blk4.gr (by have := Blk4.new (w.alloc (.cells #[.int .i64 k, .int .i64 n, .string s, .slice p l.length c] 28)) (.int .i64 0) (.int .i64 0) (.string ⟨#[]⟩) (.slice none 0 0); simpa only [World.size_alloc] using this) hb1
  have B1 : Blk4 w1 w.heap.size _ _ _ _ := Blk4.gr (Blk4.old (Blk4.new w (.int .i64 k) (.int .i64 n) (.string s) (.slice p l.length c)) _) hb1
  have g1 : Gr w w1 := below_step hb1 (by go_grown)
  obtain ⟨⟨b0, b1, b2, b3⟩, _, _⟩ := B1.parts
  have HR := Lib.hid R1
  clear hb1 B1 R1
  go_wp2_with fail
  refine (rmissing_calls (t := .mk k n s p c l) ⟨#[110, 111, 116, 95, 101, 118, 97, 108, 117, 97, 98, 108, 101]⟩ (Tm.In_below (by go_grown) HT.out) (by decide) (by rw [ByteArray.toList_mk]; rfl)).mono ?_
  rintro e w2 ⟨bm, hin, he, rfl, hb2, hon⟩
  have HR2 := Blk4.gr HR.out hb2
  have g2 : Gr w w2 := g1.trans hb2
  obtain ⟨⟨y0, y1, y2, y3⟩, ⟨f0, f1, f2, f3⟩, hlt⟩ := HR2.parts
  have hs1 : w.heap.size + 1 < w1.heap.size := HR.out.parts.2.2
  have hs2 := hb2.size
  have Hin := Lib.hid hin
  have Hon := Lib.hid hon
  have He := Lib.hid he
  clear hin hon hb2 HR2 he b0 b1 b2 b3
  obtain ⟨k', n', s', p', c', l'⟩ := bm
  simp only [Tm.val, Tm.k, Tm.n, Tm.s, Tm.p, Tm.c, Tm.l]
  go_wp2_with fail
  refine bodyPost_ret (v := .tuple #[.int .i64 0, (Tm.mk k' n' s' p' c' l').val, .bool false]) (by simp [results, Try.results26, go_sem, Tm.val, Tm.k, Tm.n, Tm.s, Tm.p, Tm.c, Tm.l, y0, y1, y2, y3]) rfl ?_
  refine rete_bad rfl _ ?_ He.out (Hon.out.mono fun b hb => by omega) rfl (by go_grown)
  exact Tm.In.same (fun b hb o => by rw [cell_set_ne (by omega), cell_set_ne (by omega), cell_set_ne (by omega), cell_set_ne (by omega)]) Hin.out Hon.out

end Go.Proofs.Ytgaijgadeodoeaa
