/-
  term.Check, term.Compare
-/
import Derived.Test.YtgaijgadeodoeaaT5
namespace Go.Proofs.Ytgaijgadeodoeaa
open Go.RowKit

def T.check (t : T) : Int := if t.formed then 0 else 2

set_option maxHeartbeats 400000 in
theorem check_calls {t : Tm} {w : World} (h : t.In w) : Calls Try.prog 12 #[t.val] w (Ret (.int .i64 (T.check t.erase)) w) := by
  have H := Lib.hid h
  clear h
  generalize hb : t.erase.formed = b
  have hr : T.check t.erase = if b then 0 else 2 := by rw [T.check, hb]
  rw [hr]
  have Hb := Lib.hid hb
  clear hb hr
  simp only [Tm.val]
  cases b
  all_goals
    go_enter Try.func12, Try.ntmps12
    go_wp2_with fail
    refine (formed_calls (t := t) (Tm.In_below (by go_grown) H.out)).mono ?_
    rintro e w1 ⟨rfl, hb1⟩
    rw [Hb.out]
    go_wp2_with fail
    go_ret
    exact ret_int' rfl (below_step hb1 (by go_grown))

/-- A block that holds a term. -/
def Boxed (w : World) (b : Nat) (t : Tm) : Prop :=
  w.cell? ⟨b, 0, none⟩ = some (.int .i64 t.k) ∧ w.cell? ⟨b, 1, none⟩ = some (.int .i64 t.n) ∧ w.cell? ⟨b, 2, none⟩ = some (.string t.s) ∧ w.cell? ⟨b, 3, none⟩ = some (.slice t.p t.l.length t.c)
theorem Boxed.gr {w w' : World} {b : Nat} {t : Tm} (hg : Gr w w') (h : Boxed w b t) : Boxed w' b t :=
  ⟨Gr.at hg h.1, Gr.at hg h.2.1, Gr.at hg h.2.2.1, Gr.at hg h.2.2.2⟩

/-- Two results. -/
def Ret2 (u v : Value) (w : World) (e : Ending) (w' : World) : Prop := e = .returned (.tuple #[u, v]) ∧ Gr w w'

theorem two_row {t u : Tm} {w : World} {b : Nat} (ht : t.In w) (hu : u.In w)
    (c0 : w.cell? ⟨b, 0, none⟩ = some (.int .i64 t.k)) (c1 : w.cell? ⟨b, 1, none⟩ = some (.int .i64 t.n)) (c2 : w.cell? ⟨b, 2, none⟩ = some (.string t.s)) (c3 : w.cell? ⟨b, 3, none⟩ = some (.slice t.p t.l.length t.c))
    (d0 : w.cell? ⟨b, 4, none⟩ = some (.int .i64 u.k)) (d1 : w.cell? ⟨b, 5, none⟩ = some (.int .i64 u.n)) (d2 : w.cell? ⟨b, 6, none⟩ = some (.string u.s)) (d3 : w.cell? ⟨b, 7, none⟩ = some (.slice u.p u.l.length u.c)) :
    Tm.Sl w (some ⟨b, 0, none⟩) 2 [t, u] := by
  refine ⟨Nat.le_refl _, ⟨by simp, by simp⟩, .inr ⟨b, 0, rfl, ?_⟩, Tm.InL_of fun x hx => ?_⟩
  · intro i x hx
    match i, hx with
    | 0, hx => cases hx; exact ⟨c0, c1, c2, c3⟩
    | 1, hx => cases hx; exact ⟨d0, d1, d2, d3⟩
  · simp only [List.mem_cons, List.mem_nil_iff, or_false] at hx
    rcases hx with rfl | rfl
    · exact ht
    · exact hu

set_option maxHeartbeats 400000 in
theorem compare_yes {t u : Tm} {w : World} (h : t.In w) (hu : u.In w) (ft : t.erase.formed = true) (fu : u.erase.formed = true) :
    Calls Try.prog 14 #[t.val, u.val] w (Ret2 (.int .i64 (T.order t.erase u.erase)) (.int .i64 0) w) := by
  have H := Lib.hid h
  have Hu := Lib.hid hu
  have Hb : Hid (T.formedL (Tm.eraseL [t, u]) = true) := by show T.formedL (Tm.eraseL [t, u]) = true; simp [Tm.eraseL, T.formedL, ft, fu]
  clear h hu ft fu
  generalize hr : T.order t.erase u.erase = r
  have Hr := Lib.hid hr
  clear hr
  simp only [Tm.val]
  go_enter Try.func14, Try.ntmps14
  go_wp2_with fail
  refine (all_calls (two_row (t := t) (u := u) (Tm.In_below (by go_grown) H.out) (Tm.In_below (by go_grown) Hu.out) (by go_cell) (by go_cell) (by go_cell) (by go_cell) (by go_cell) (by go_cell) (by go_cell) (by go_cell))).mono ?_
  rintro e w1 ⟨rfl, hb1⟩
  rw [Hb.out]
  have hb0 : Gr w w1 := below_step hb1 (by go_grown)
  have z0 : w1.cell? ⟨w.heap.size, 0, none⟩ = some (.int .i64 t.k) := Gr.at hb1 (by go_cell)
  have z1 : w1.cell? ⟨w.heap.size, 1, none⟩ = some (.int .i64 t.n) := Gr.at hb1 (by go_cell)
  have z2 : w1.cell? ⟨w.heap.size, 2, none⟩ = some (.string t.s) := Gr.at hb1 (by go_cell)
  have z3 : w1.cell? ⟨w.heap.size, 3, none⟩ = some (.slice t.p t.l.length t.c) := Gr.at hb1 (by go_cell)
  have y0 : w1.cell? ⟨w.heap.size + 1, 0, none⟩ = some (.int .i64 u.k) := Gr.at hb1 (by go_cell)
  have y1 : w1.cell? ⟨w.heap.size + 1, 1, none⟩ = some (.int .i64 u.n) := Gr.at hb1 (by go_cell)
  have y2 : w1.cell? ⟨w.heap.size + 1, 2, none⟩ = some (.string u.s) := Gr.at hb1 (by go_cell)
  have y3 : w1.cell? ⟨w.heap.size + 1, 3, none⟩ = some (.slice u.p u.l.length u.c) := Gr.at hb1 (by go_cell)
  clear hb1
  go_wp2_with fail
  refine (order_calls (t := t) (u := u) (Tm.In_below hb0 H.out) (Tm.In_below hb0 Hu.out)).mono ?_
  rintro e w2 ⟨rfl, hb2⟩
  rw [Hr.out]
  go_wp2_with fail
  go_ret2
  exact ⟨rfl, hb0.trans hb2⟩
end Go.Proofs.Ytgaijgadeodoeaa
