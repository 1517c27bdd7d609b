/-
  term.Check, term.Compare
-/
import Derived.Test.YtgaijgadeodoeaaDoorT5
namespace Go.Proofs.YtgaijgadeodoeaaDoor
open Go.RowKit

def T.check (t : T) : Int := if t.formed then 0 else 2


/-- A block that holds a term. -/
def Boxed (w : World) (b : Nat) (t : Tm) : Prop :=
  w.cell? ⟨b, 0, none⟩ = some (.int .i64 t.k) ∧ w.cell? ⟨b, 1, none⟩ = some (.int .i64 t.n) ∧ w.cell? ⟨b, 2, none⟩ = some (.string t.s) ∧ w.cell? ⟨b, 3, none⟩ = some (.slice t.p t.l.length t.c)
theorem Boxed.gr {w w' : World} {b : Nat} {t : Tm} (hg : Gr w w') (h : Boxed w b t) : Boxed w' b t :=
  ⟨Gr.at hg h.1, Gr.at hg h.2.1, Gr.at hg h.2.2.1, Gr.at hg h.2.2.2⟩

/-- Two results. -/
def Ret2 (u v : Value) (w : World) (e : Ending) (w' : World) : Prop := e = .returned (.tuple #[u, v]) ∧ Gr w w'

theorem two_row {t u : Tm} {w : World} {b : Nat} (ht : t.In w) (hu : u.In w)
    (c0 : w.cell? ⟨b, 0, none⟩ = some (.int .i64 t.k)) (c1 : w.cell? ⟨b, 1, none⟩ = some (.int .i64 t.n)) (c2 : w.cell? ⟨b, 2, none⟩ = some (.string t.s)) (c3 : w.cell? ⟨b, 3, none⟩ = some (.slice t.p t.l.length t.c))
    (d0 : w.cell? ⟨b, 4, none⟩ = some (.int .i64 u.k)) (d1 : w.cell? ⟨b, 5, none⟩ = some (.int .i64 u.n)) (d2 : w.cell? ⟨b, 6, none⟩ = some (.string u.s)) (d3 : w.cell? ⟨b, 7, none⟩ = some (.slice u.p u.l.length u.c)) :
    Tm.Sl w (some ⟨b, 0, none⟩) 2 [t, u] := by
  refine ⟨Nat.le_refl _, ⟨by simp, by simp⟩, .inr ⟨b, 0, rfl, ?_⟩, Tm.InL_of fun x hx => ?_⟩
  · intro i x hx
    match i, hx with
    | 0, hx => cases hx; exact ⟨c0, c1, c2, c3⟩
    | 1, hx => cases hx; exact ⟨d0, d1, d2, d3⟩
  · simp only [List.mem_cons, List.mem_nil_iff, or_false] at hx
    rcases hx with rfl | rfl
    · exact ht
    · exact hu

end Go.Proofs.YtgaijgadeodoeaaDoor
