/-
  arith.Eval
-/
import Derived.Test.YtgaijgadeodoeaaAB
namespace Go.Proofs.Ytgaijgadeodoeaa
open Go.RowKit

mutual
/-- No part is of kind 0. -/
def T.real : T → Bool
  | .mk k _ _ l => decide (k ≠ 0) && T.realL l
def T.realL : List T → Bool
  | [] => true
  | x :: xs => T.real x && T.realL xs
end

theorem T.real_atom (s : Str) : (atomT s).real = true := by simp [atomT, T.real, T.realL]
theorem T.real_missing (s : Str) (n : Nat) : (missingT s n).real = true := by simp [missingT, compT, atomT, intT, T.real, T.realL]

theorem Num.ev_real {r : Num} {b : T} (h : r.ev = .bad b) : b.real = true := by
  cases r with
  | ok n => cases h
  | bad s => cases h; exact T.real_atom s

/-- What is thrown has no part of kind 0. -/
theorem evalT_real (N : Nat) : ∀ (t : T) (b : T), SizeOf.sizeOf t ≤ N → evalT t = .bad b → b.real = true := by
  induction N with
  | zero => intro t b h _; cases t; simp at h
  | succ N ih =>
    intro t b hN h
    obtain ⟨k, n, s, l⟩ := t
    by_cases hk1 : k = 1
    · subst hk1
      rw [evalT_var] at h
      cases h
      exact T.real_atom _
    by_cases hk2 : k = 2
    · subst hk2
      rw [evalT_int] at h
      cases h
    by_cases h1 : l.length = 1
    · obtain ⟨x, rfl⟩ := List.length_eq_one_iff.1 h1
      rw [evalT_one hk1 hk2] at h
      cases hp : prim1 s with
      | none => rw [hp] at h; cases h; exact T.real_missing _ _
      | some f =>
        rw [hp] at h
        cases hx : evalT x with
        | bad c =>
          rw [hx] at h
          cases h
          exact ih x _ (by simp at hN; omega) hx
        | ok a => rw [hx] at h; exact Num.ev_real h
    by_cases h2 : l.length = 2
    · obtain ⟨x, y, rfl⟩ := len_two h2
      rw [evalT_two hk1 hk2] at h
      cases hp : prim2 s with
      | none => rw [hp] at h; cases h; exact T.real_missing _ _
      | some f =>
        rw [hp] at h
        cases hx : evalT x with
        | bad c =>
          rw [hx] at h
          cases h
          exact ih x _ (by simp at hN; omega) hx
        | ok a =>
          rw [hx] at h
          cases hy : evalT y with
          | bad c =>
            rw [hy] at h
            cases h
            exact ih y _ (by simp at hN; omega) hy
          | ok a => rw [hy] at h; exact Num.ev_real h
    · rw [evalT_more hk1 hk2 h1 h2] at h
      cases h
      exact T.real_missing _ _

mutual
/-- Such a term does not lie on a block where nothing of another kind can lie. -/
theorem Tm.On_real {S : Nat → Prop} {w : World} (hS : ∀ b o k s, w.cell? ⟨b, o, none⟩ = some (.int .i64 k) → w.cell? ⟨b, o + 2, none⟩ = some (.string s) → k ≠ 0 → S b) :
    ∀ {t : Tm}, t.In w → t.erase.real = true → t.On S
  | .mk k n s p c l, h, hr => by
    rw [Tm.In] at h
    rw [Tm.erase, T.real, Bool.and_eq_true] at hr
    rw [Tm.On]
    refine ⟨?_, Tm.OnL_real hS h.2.2.2.2.2.2 hr.2⟩
    rcases h.2.2.2.2.2.1 with h1 | ⟨b, o, h1, h2⟩
    · exact .inl h1
    · cases l with
      | nil => exact .inl rfl
      | cons x xs =>
        have h3 := h2 0 x rfl
        rw [Nat.zero_mul, Nat.add_zero] at h3
        refine .inr ⟨b, o, h1, hS b o _ _ h3.1 h3.2.2.1 ?_⟩
        have h4 := hr.2
        rw [Tm.eraseL, T.realL, Bool.and_eq_true] at h4
        obtain ⟨k', n', s', p', c', l'⟩ := x
        have h5 := h4.1
        rw [Tm.erase, T.real, Bool.and_eq_true] at h5
        exact of_decide_eq_true h5.1
theorem Tm.OnL_real {S : Nat → Prop} {w : World} (hS : ∀ b o k s, w.cell? ⟨b, o, none⟩ = some (.int .i64 k) → w.cell? ⟨b, o + 2, none⟩ = some (.string s) → k ≠ 0 → S b) :
    ∀ {l : List Tm}, Tm.InL w l → T.realL (Tm.eraseL l) = true → Tm.OnL S l
  | [], _, _ => by rw [Tm.OnL]; trivial
  | x :: xs, h, hr => by
    rw [Tm.InL] at h
    rw [Tm.eraseL, T.realL, Bool.and_eq_true] at hr
    rw [Tm.OnL]
    exact ⟨Tm.On_real hS h.1 hr.1, Tm.OnL_real hS h.2 hr.2⟩
end

def zeroT : T := .mk 0 0 [] []
def zeroTm : Tm := .mk 0 0 ⟨#[]⟩ none 0 []
theorem zeroTm_in (w : World) : zeroTm.In w := by
  rw [zeroTm, Tm.In, Tm.InL]
  exact ⟨⟨by omega, by omega⟩, ⟨by omega, by omega⟩, by decide, Nat.le_refl _, ⟨by simp, by omega⟩, .inl rfl, trivial⟩
theorem zeroTm_erase : zeroTm.erase = zeroT := by
  rw [zeroTm, Tm.erase, Tm.eraseL, ByteArray.toList_mk]; rfl

/-- P13's answer, as the program's own. -/
def evalR (t : T) : Int × T × Int :=
  if t.formed then match evalT t with
    | .ok n => (n, zeroT, 0)
    | .bad b => (0, b, 14)
  else (0, zeroT, 2)

/-- Three results: a number, a ball, an error. -/
def Ret3 (r : Int × T × Int) (w : World) (e : Ending) (w' : World) : Prop :=
  ∃ b : Tm, b.In w' ∧ b.erase = r.2.1 ∧ In64 r.1 ∧ e = .returned (.tuple #[.int .i64 r.1, b.val, .int .i64 r.2.2]) ∧ Gr w w'

theorem own_one_row {t : Tm} {w : World} {b : Nat} (ht : t.In w)
    (c0 : w.cell? ⟨b, 0, none⟩ = some (.int .i64 t.k)) (c1 : w.cell? ⟨b, 1, none⟩ = some (.int .i64 t.n)) (c2 : w.cell? ⟨b, 2, none⟩ = some (.string t.s)) (c3 : w.cell? ⟨b, 3, none⟩ = some (.slice t.p t.l.length t.c)) :
    Tm.Sl w (some ⟨b, 0, none⟩) 1 [t] := one_row ht c0 c1 c2 c3

set_option maxHeartbeats 1000000 in
set_option maxRecDepth 100000 in
theorem Eval_calls {t : Tm} {w : World} (h : t.In w) : Calls Try.prog 22 #[t.val] w (Ret3 (evalR t.erase) w) := by
  have hmf : ∀ (fn : Fn) (first cap : Array Value) (w : World), (Instr.makeFunc fn first cap).run Try.prog w = .ok (.func fn first cap) w := fun _ _ _ _ => rfl
  have H := Lib.hid h
  clear h
  generalize hr : evalR t.erase = r
  have Hr := Lib.hid hr
  clear hr
  generalize hf : t.erase.formed = f
  have Hf := Lib.hid hf
  clear hf
  simp only [Tm.val]
  go_enter_defers Try.func22, Try.ntmps22
  go_wp2_with fail
  refine (all_calls (l := [t]) (one_row (t := t) (Tm.In_below (by go_grown) H.out) (by go_cell) (by go_cell) (by go_cell) (by go_cell))).mono ?_
  rintro e w1 ⟨rfl, hb1⟩
  rw [show T.formedL (Tm.eraseL [t]) = f by rw [Tm.eraseL, Tm.eraseL, T.formedL, T.formedL, Bool.and_true, Hf.out]]
  have x0 : w1.cell? ⟨w.heap.size + 1, 0, none⟩ = some (.int .i64 0) := Gr.at hb1 (by go_cell)
  have fx0 : w1.frozen? ⟨w.heap.size + 1, 0, none⟩ = false := Gr.fz (v := .int .i64 0) hb1 (by go_cell) (by simp [go_sem])
  have y0 : w1.cell? ⟨w.heap.size + 1 + 1, 0, none⟩ = some (.int .i64 0) := Gr.at hb1 (by go_cell)
  have fy0 : w1.frozen? ⟨w.heap.size + 1 + 1, 0, none⟩ = false := Gr.fz (v := .int .i64 0) hb1 (by go_cell) (by simp [go_sem])
  have y1 : w1.cell? ⟨w.heap.size + 1 + 1, 1, none⟩ = some (.int .i64 0) := Gr.at hb1 (by go_cell)
  have fy1 : w1.frozen? ⟨w.heap.size + 1 + 1, 1, none⟩ = false := Gr.fz (v := .int .i64 0) hb1 (by go_cell) (by simp [go_sem])
  have y2 : w1.cell? ⟨w.heap.size + 1 + 1, 2, none⟩ = some (.string ⟨#[]⟩) := Gr.at hb1 (by go_cell)
  have fy2 : w1.frozen? ⟨w.heap.size + 1 + 1, 2, none⟩ = false := Gr.fz (v := .string ⟨#[]⟩) hb1 (by go_cell) (by simp [go_sem])
  have y3 : w1.cell? ⟨w.heap.size + 1 + 1, 3, none⟩ = some (.slice none 0 0) := Gr.at hb1 (by go_cell)
  have fy3 : w1.frozen? ⟨w.heap.size + 1 + 1, 3, none⟩ = false := Gr.fz (v := .slice none 0 0) hb1 (by go_cell) (by simp [go_sem])
  have z0 : w1.cell? ⟨w.heap.size + 1 + 1 + 1, 0, none⟩ = some (.int .i64 0) := Gr.at hb1 (by go_cell)
  have fz0 : w1.frozen? ⟨w.heap.size + 1 + 1 + 1, 0, none⟩ = false := Gr.fz (v := .int .i64 0) hb1 (by go_cell) (by simp [go_sem])
  obtain ⟨t0, t1, t2, t3⟩ : Boxed w1 w.heap.size t := Boxed.gr hb1 ⟨by go_cell, by go_cell, by go_cell, by go_cell⟩
  have ZA : Hid (∀ o, w1.cell? ⟨w.heap.size + 1, o, none⟩ = (#[Value.int .i64 0] : Array Value)[o]?) := fun o => (hb1.cell (p := ⟨w.heap.size + 1, o, none⟩) (by simp)).trans (by simp [go_sem])
  have ZB : Hid (∀ o, w1.cell? ⟨w.heap.size + 1 + 1, o, none⟩ = (#[Value.int .i64 0, .int .i64 0, .string ⟨#[]⟩, .slice none 0 0] : Array Value)[o]?) := fun o => (hb1.cell (p := ⟨w.heap.size + 1 + 1, o, none⟩) (by simp)).trans (by simp [go_sem])
  have ZC : Hid (∀ o, w1.cell? ⟨w.heap.size + 1 + 1 + 1, o, none⟩ = (#[Value.int .i64 0] : Array Value)[o]?) := fun o => (hb1.cell (p := ⟨w.heap.size + 1 + 1 + 1, o, none⟩) (by simp)).trans (by simp [go_sem])
  have g1 : Gr w w1 := below_step hb1 (by go_grown)
  have hs1 := hb1.size
  simp only [World.size_alloc] at hs1
  clear hb1
  cases f
  · go_wp2_with fail
    show ∃ v, _ ∧ _
    refine ⟨.tuple #[.int .i64 0, .agg #[.int .i64 0, .int .i64 0, .string ⟨#[]⟩, .slice none 0 0], .int .i64 2], by simp [results, Try.results22, go_sem, World.cell?_setCell_other, World.cell?_setCell_same', x0, y0, y1, y2, y3, z0], zeroTm, zeroTm_in _, ?_, ?_, ?_, by go_grown⟩
    all_goals rw [← Hr.out, evalR, Hf.out]
    · exact zeroTm_erase
    · exact (⟨by decide, by decide⟩ : In64 0)
    · rfl
  · go_wp2_with fail
    refine (eval_calls (t := t) (Tm.In_below (by go_grown) H.out)).mono ?_
    cases hev : evalT t.erase with
    | ok n =>
      have Hev := Lib.hid hev
      clear hev
      rintro e w2 ⟨rfl, hb2, hi⟩
      replace fx0 := Gr.fz hb2 x0 fx0; replace x0 := Gr.at hb2 x0
      replace fy0 := Gr.fz hb2 y0 fy0; replace y0 := Gr.at hb2 y0
      replace fy1 := Gr.fz hb2 y1 fy1; replace y1 := Gr.at hb2 y1
      replace fy2 := Gr.fz hb2 y2 fy2; replace y2 := Gr.at hb2 y2
      replace fy3 := Gr.fz hb2 y3 fy3; replace y3 := Gr.at hb2 y3
      replace fz0 := Gr.fz hb2 z0 fz0; replace z0 := Gr.at hb2 z0
      have Hi := Lib.hid hi
      have g2 : Gr w w2 := g1.trans hb2
      clear hb2 hi
      go_wp2_with fail
      refine leaves_cons (f := 53) (args := #[.pointer (some ⟨w.heap.size + 1, 0, none⟩), .pointer (some ⟨w.heap.size + 1 + 1, 0, none⟩), .pointer (some ⟨w.heap.size + 1 + 1 + 1, 0, none⟩)]) (by simp) (by simp [go_sem]) ?_
      refine (catch_idle _ _ _ _).mono ?_
      rintro e u' w'' ⟨rfl, rfl, rfl⟩
      show ∃ v, _ ∧ _
      refine ⟨.tuple #[.int .i64 n, .agg #[.int .i64 0, .int .i64 0, .string ⟨#[]⟩, .slice none 0 0], .int .i64 0], by simp [results, Try.results22, go_sem, World.cell?_setCell_other, World.cell?_setCell_same', x0, y0, y1, y2, y3, z0], zeroTm, zeroTm_in _, ?_, ?_, ?_, by go_grown⟩
      all_goals rw [← Hr.out, evalR, Hf.out, Hev.out]
      · exact zeroTm_erase
      · exact Hi.out
      · rfl
    | bad b =>
      have Hev := Lib.hid hev
      clear hev
      rintro e w2 ⟨tb, hin, he, rfl, hb2⟩
      replace fx0 := Gr.fz hb2 x0 fx0; replace x0 := Gr.at hb2 x0
      replace fy0 := Gr.fz hb2 y0 fy0; replace y0 := Gr.at hb2 y0
      replace fy1 := Gr.fz hb2 y1 fy1; replace y1 := Gr.at hb2 y1
      replace fy2 := Gr.fz hb2 y2 fy2; replace y2 := Gr.at hb2 y2
      replace fy3 := Gr.fz hb2 y3 fy3; replace y3 := Gr.at hb2 y3
      replace fz0 := Gr.fz hb2 z0 fz0; replace z0 := Gr.at hb2 z0
      have Hin := Lib.hid hin
      have g2 : Gr w w2 := g1.trans hb2
      go_wp2_with fail
      refine leaves_cons (f := 53) (args := #[.pointer (some ⟨w.heap.size + 1, 0, none⟩), .pointer (some ⟨w.heap.size + 1 + 1, 0, none⟩), .pointer (some ⟨w.heap.size + 1 + 1 + 1, 0, none⟩)]) (by simp) (by simp [go_sem]) ?_
      refine (catch_panicking _ _ _ tb _ _ _ _ _ _ _ (by omega) (by omega) x0 y0 y1 y2 y3 z0 fx0 fy0 fy1 fy2 fy3 fz0).mono ?_
      rintro e u' w'' ⟨rfl, rfl, ca, ⟨cb0, cb1, cb2, cb3⟩, cc, hbel, hsame⟩
      show ∃ v, _ ∧ _
      have hs2 := hb2.size
      have za : ∀ o, w2.cell? ⟨w.heap.size + 1, o, none⟩ = (#[Value.int .i64 0] : Array Value)[o]? := fun o => (hb2.cell (p := ⟨w.heap.size + 1, o, none⟩) (by simp only; omega)).trans (ZA.out o)
      have zb : ∀ o, w2.cell? ⟨w.heap.size + 1 + 1, o, none⟩ = (#[Value.int .i64 0, .int .i64 0, .string ⟨#[]⟩, .slice none 0 0] : Array Value)[o]? := fun o => (hb2.cell (p := ⟨w.heap.size + 1 + 1, o, none⟩) (by simp only; omega)).trans (ZB.out o)
      have zc : ∀ o, w2.cell? ⟨w.heap.size + 1 + 1 + 1, o, none⟩ = (#[Value.int .i64 0] : Array Value)[o]? := fun o => (hb2.cell (p := ⟨w.heap.size + 1 + 1 + 1, o, none⟩) (by simp only; omega)).trans (ZC.out o)
      have hon : tb.On fun b => b < w2.heap.size ∧ b ≠ w.heap.size + 1 ∧ b ≠ w.heap.size + 1 + 1 ∧ b ≠ w.heap.size + 1 + 1 + 1 := by
        refine Tm.On_real (w := w2) (fun b o k s h1 h2 hk => ⟨World.block_lt_of_cell? _ _ h1, ?_, ?_, ?_⟩) Hin.out (by rw [he]; exact evalT_real _ _ _ (Nat.le_refl _) Hev.out)
        · rintro rfl
          rw [za] at h2
          simp at h2
        · rintro rfl
          rw [zb] at h1 h2
          match o, h1, h2 with
          | 0, h1, _ => simp at h1; exact hk h1.symm
          | 1, _, h2 => simp at h2
          | o + 2, _, h2 => simp at h2
        · rintro rfl
          rw [zc] at h2
          simp at h2
      have hin' : tb.In w'' := Tm.In.same (fun b hb o => hsame b hb.1 hb.2.1 hb.2.2.1 hb.2.2.2 o) Hin.out hon
      have Hin' := Lib.hid hin'
      have Hhe := Lib.hid he
      clear hin' hon he za zb zc
      refine ⟨.tuple #[.int .i64 0, tb.val, .int .i64 14], by simp [results, Try.results22, go_sem, ca, cb0, cb1, cb2, cb3, cc, Tm.val], tb, Hin'.out, ?_, ?_, ?_, Below.trans g2 (hbel.mono (by omega))⟩
      all_goals rw [← Hr.out, evalR, Hf.out, Hev.out]
      · exact Hhe.out
      · exact (⟨by decide, by decide⟩ : In64 0)
      · rfl
end Go.Proofs.Ytgaijgadeodoeaa
