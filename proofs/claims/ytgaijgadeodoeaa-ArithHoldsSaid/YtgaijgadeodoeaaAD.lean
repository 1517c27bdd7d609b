/-
  hornref.I, hornref.C; hornkeep.op
-/
import Derived.Test.YtgaijgadeodoeaaAC
namespace Go.Proofs.Ytgaijgadeodoeaa
open Go.RowKit

set_option maxHeartbeats 400000 in
theorem rI_calls (n : Int) (w : World) : Calls Try.prog 45 #[.int .i64 n] w (Ret (intTm n).val w) := by
  go_enter Try.func45, Try.ntmps45
  go_wp2_with fail
  exact bodyPost_ret (v := .agg #[.int .i64 2, .int .i64 n, .string ⟨#[]⟩, .slice none 0 0]) (by simp [results, Try.results45, go_sem]) rfl ⟨rfl, by go_grown⟩

set_option maxHeartbeats 400000 in
theorem rC_calls (s : ByteArray) (p : Option Addr) (n c : Nat) (w : World) : Calls Try.prog 44 #[.string s, .slice p n c] w (Ret (.agg #[.int .i64 4, .int .i64 0, .string s, .slice p n c]) w) := by
  go_enter Try.func44, Try.ntmps44
  go_wp2_with fail
  exact bodyPost_ret (v := .agg #[.int .i64 4, .int .i64 0, .string s, .slice p n c]) (by simp [results, Try.results44, go_sem]) rfl ⟨rfl, by go_grown⟩

def opR : Num → Int × Bool
  | .ok n => (n, true)
  | .bad _ => (0, false)

/-- A number, and whether there is one. -/
def RetOp (r : Int × Bool) (w : World) (e : Ending) (w' : World) : Prop :=
  e = .returned (.tuple #[.int .i64 r.1, .bool r.2]) ∧ Gr w w' ∧ In64 r.1

theorem evalR_op {s : Str} {f : Int → Int → Num} (a b : Int) (hs : prim2 s = some f) (hl : s.length ≤ 100) :
    evalR (compT s [intT a, intT b]) = match f a b with
      | .ok n => (n, zeroT, 0)
      | .bad e => (0, atomT e, 14) := by
  have hf : (compT s [intT a, intT b]).formed = true := by simp [compT, intT, T.formed, T.formedL, hl]
  have he : evalT (compT s [intT a, intT b]) = (f a b).ev := by
    rw [compT, evalT_two (by decide) (by decide), hs]
    simp [intT, evalT_int]
  rw [evalR, hf, he]
  cases f a b <;> rfl

set_option maxHeartbeats 1000000 in
theorem op_calls {s : ByteArray} {f : Int → Int → Num} {a b : Int} {r : Int × Bool} (hs : prim2 s.toList = some f) (hl : s.size ≤ 100) (ha : In64 a) (hb : In64 b) (hr : opR (f a b) = r) (w : World) :
    Calls Try.prog 16 #[.string s, .int .i64 a, .int .i64 b] w (RetOp r w) := by
  have He := Lib.hid (evalR_op a b hs (by rw [toList_length]; exact hl))
  have Ha := Lib.hid ha
  have Hb := Lib.hid hb
  have Hl := Lib.hid hl
  have HR := Lib.hid hr
  clear ha hb hl hs hr
  go_enter Try.func16, Try.ntmps16
  go_wp2_with fail
  refine (rI_calls _ _).mono ?_
  rintro e w1 ⟨rfl, hb1⟩
  have g1 : Gr w w1 := below_step hb1 (by go_grown)
  clear hb1
  simp only [intTm, Tm.val, Tm.k, Tm.n, Tm.s, Tm.p, Tm.c, Tm.l, List.length_nil]
  go_wp2_with fail
  refine (rI_calls _ _).mono ?_
  rintro e w2 ⟨rfl, hb2⟩
  have g2 : Gr w w2 := below_step hb2 g1
  clear hb2 g1
  simp only [intTm, Tm.val, Tm.k, Tm.n, Tm.s, Tm.p, Tm.c, Tm.l, List.length_nil]
  go_wp2_with fail
  refine (rC_calls _ _ _ _ _).mono ?_
  rintro e w3 ⟨rfl, hb3⟩
  have hin : (compTm s (some ⟨w2.heap.size, 0, none⟩) 2 [intTm a, intTm b]).In w3 :=
    compTm_in (Nat.le_trans Hl.out (by decide)) ((two_row (t := intTm a) (u := intTm b) (intTm_in Ha.out _) (intTm_in Hb.out _) (by go_cell) (by go_cell) (by go_cell) (by go_cell) (by go_cell) (by go_cell) (by go_cell) (by go_cell)).mono hb3)
  have Hin := Lib.hid hin
  have hz := g2.size
  have g3 : Gr w w3 := below_step hb3 (by go_grown)
  clear hb3 hin g2
  go_wp2_with fail
  refine (Eval_calls (t := compTm s (some ⟨w2.heap.size, 0, none⟩) 2 [intTm a, intTm b]) Hin.out).mono ?_
  rintro e w4 ⟨tb, h1, h2, h3, rfl, hb4⟩
  have g4 : Gr w w4 := below_step hb4 g3
  have er : (compTm s (some ⟨w2.heap.size, 0, none⟩) 2 [intTm a, intTm b]).erase = compT s.toList [intT a, intT b] := by
    simp [compTm, compT, Tm.erase, Tm.eraseL, intTm_erase]
  rw [er, He.out] at h3 ⊢
  have hz4 := g4.size
  clear hb4 g3 h1 h2 er He hz
  cases hf : f a b with
  | ok n =>
    have HR2 : Hid (r = (n, true)) := by show r = _; rw [← HR.out, hf]; rfl
    rw [hf] at h3
    have H3 := Lib.hid h3
    clear hf HR h3
    simp only [Tm.val]
    go_wp2_with fail
    go_ret2
    rw [HR2.out]
    exact ⟨rfl, by go_grown, H3.out⟩
  | bad s =>
    have HR2 : Hid (r = (0, false)) := by show r = _; rw [← HR.out, hf]; rfl
    clear hf HR h3
    simp only [Tm.val]
    go_wp2_with fail
    go_ret2
    rw [HR2.out]
    exact ⟨rfl, by go_grown, by decide, by decide⟩
end Go.Proofs.Ytgaijgadeodoeaa
