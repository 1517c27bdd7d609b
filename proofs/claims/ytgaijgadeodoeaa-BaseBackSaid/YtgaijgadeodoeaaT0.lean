/-
  Terms in memory: the tree of a term with its addresses, how it lies in a world, and that it stays so when the world grows.
-/
import Derived.Test.YtgaijgadeodoeaaR
namespace Go.Proofs.Ytgaijgadeodoeaa
open Go.RowKit

/-- The call returned the value; what was there before stands as it stood. -/
def Ret (v : Value) (w : World) (e : Ending) (w' : World) : Prop := e = .returned v ∧ Below w.heap.size w w'

theorem below_step {w w' w'' : World} (h1 : Below w'.heap.size w' w'') (h : Below w.heap.size w w') : Below w.heap.size w w'' :=
  h.trans (h1.mono h.size)

/-- A term with its addresses: kind, number, name, where the arguments lie, how much room they have, the arguments. -/
inductive Tm where
  | mk (k n : Int) (s : ByteArray) (p : Option Addr) (c : Nat) (l : List Tm)

namespace Tm
def k : Tm → Int | mk k _ _ _ _ _ => k
def n : Tm → Int | mk _ n _ _ _ _ => n
def s : Tm → ByteArray | mk _ _ s _ _ _ => s
def p : Tm → Option Addr | mk _ _ _ p _ _ => p
def c : Tm → Nat | mk _ _ _ _ c _ => c
def l : Tm → List Tm | mk _ _ _ _ _ l => l
/-- The value of type api.Term. -/
def cells (t : Tm) : List Value := [.int .i64 t.k, .int .i64 t.n, .string t.s, .slice t.p t.l.length t.c]
def val (t : Tm) : Value := .agg #[.int .i64 t.k, .int .i64 t.n, .string t.s, .slice t.p t.l.length t.c]

/-- The cells of the terms of a list lie one behind the other from an address on. -/
def row (w : World) (b o : Nat) (l : List Tm) : Prop :=
  ∀ (i : Nat) (x : Tm), l[i]? = some x →
    w.cell? ⟨b, o + i * 4, none⟩ = some (.int .i64 x.k) ∧ w.cell? ⟨b, o + i * 4 + 1, none⟩ = some (.int .i64 x.n) ∧
    w.cell? ⟨b, o + i * 4 + 2, none⟩ = some (.string x.s) ∧ w.cell? ⟨b, o + i * 4 + 3, none⟩ = some (.slice x.p x.l.length x.c)

mutual
/-- The term lies in the world. -/
def In (w : World) : Tm → Prop
  | mk k n s p c l => (-9223372036854775808 ≤ k ∧ k ≤ 9223372036854775807) ∧ (-9223372036854775808 ≤ n ∧ n ≤ 9223372036854775807) ∧ s.size ≤ 140737488351232 ∧ l.length ≤ c ∧ (l.length * 56 ≤ 140737488351232 ∧ c ≤ 9223372036854775807) ∧ (l = [] ∨ ∃ b o, p = some ⟨b, o, none⟩ ∧ row w b o l) ∧ InL w l
def InL (w : World) : List Tm → Prop
  | [] => True
  | x :: xs => In w x ∧ InL w xs
end

theorem InL_mem {w : World} : ∀ {l : List Tm}, InL w l → ∀ x ∈ l, In w x
  | _ :: _, h, x, hx => by
    rw [InL] at h
    rcases List.mem_cons.1 hx with rfl | hx
    · exact h.1
    · exact InL_mem h.2 x hx

theorem InL_of {w : World} : ∀ {l : List Tm}, (∀ x ∈ l, In w x) → InL w l
  | [], _ => by rw [InL]; trivial
  | x :: xs, h => by
    rw [InL]
    exact ⟨h x (List.mem_cons_self ..), InL_of fun y hy => h y (List.mem_cons_of_mem _ hy)⟩

theorem sizeOf_mem {l : List Tm} {x : Tm} (h : x ∈ l) (k n : Int) (s : ByteArray) (p : Option Addr) (c : Nat) : SizeOf.sizeOf x < SizeOf.sizeOf (Tm.mk k n s p c l) := by
  have := List.sizeOf_lt_of_mem h
  simp only [Tm.mk.sizeOf_spec]
  omega

theorem row_mono {w w' : World} {b o : Nat} {l : List Tm} (h : row w b o l) (hs : ∀ o', w'.cell? ⟨b, o', none⟩ = w.cell? ⟨b, o', none⟩) : row w' b o l := by
  intro i x hx
  have := h i x hx
  simpa only [hs] using this

theorem row_lt {w : World} {b o : Nat} {l : List Tm} (h : row w b o l) (hl : l ≠ []) : b < w.heap.size := by
  cases l with
  | nil => exact absurd rfl hl
  | cons x xs => exact World.block_lt_of_cell? _ _ (h 0 x rfl).1

mutual
theorem In_below {w w' : World} (hb : Below w.heap.size w w') : ∀ {t : Tm}, In w t → In w' t
  | .mk k n s p c l, h => by
    rw [In] at h ⊢
    obtain ⟨h1, h2, h3, h4, h5, h6, h7⟩ := h
    refine ⟨h1, h2, h3, h4, h5, ?_, InL_below hb h7⟩
    rcases h6 with h6 | ⟨b, o, hp, hr⟩
    · exact .inl h6
    · by_cases hl : l = []
      · exact .inl hl
      · exact .inr ⟨b, o, hp, row_mono hr fun o' => hb.cell (p := ⟨b, o', none⟩) (row_lt hr hl)⟩
theorem InL_below {w w' : World} (hb : Below w.heap.size w w') : ∀ {l : List Tm}, InL w l → InL w' l
  | [], _ => by rw [InL]; trivial
  | x :: xs, h => by
    rw [InL] at h ⊢
    exact ⟨In_below hb h.1, InL_below hb h.2⟩
end
end Tm

/-- A term without its addresses. -/
inductive T where
  | mk (k n : Int) (s : List UInt8) (l : List T)

mutual
def Tm.erase : Tm → T
  | .mk k n s _ _ l => .mk k n s.toList (Tm.eraseL l)
def Tm.eraseL : List Tm → List T
  | [] => []
  | x :: xs => Tm.erase x :: Tm.eraseL xs
end

theorem len_beq_zero {α : Type} (l : List α) : ((l.length : Int) == 0) = decide (l = []) := by
  cases l with
  | nil => rfl
  | cons x xs =>
    rw [List.length_cons, beq_eq_false_iff_ne.2 (by omega), decide_eq_false (by simp)]

theorem toList_length (s : ByteArray) : s.toList.length = s.size := by
  rw [ByteArray.toList_eq]; rfl

theorem Tm.eraseL_length : ∀ l : List Tm, (Tm.eraseL l).length = l.length
  | [] => by rw [Tm.eraseL]; rfl
  | x :: xs => by rw [Tm.eraseL, List.length_cons, Tm.eraseL_length xs, List.length_cons]

mutual
def T.formed : T → Bool
  | .mk k n s l =>
    if k = 1 then decide (0 ≤ n) && decide (n ≤ 1099511627776) && decide (s = []) && decide (l.length = 0)
    else if k = 2 then decide (s = []) && decide (l.length = 0)
    else if k = 3 then decide (n = 0) && decide (s.length ≤ 100) && decide (l.length = 0)
    else if k = 4 then decide (n = 0) && decide (s.length ≤ 100) && decide (1 ≤ l.length) && decide (l.length ≤ 50) && T.formedL l
    else false
def T.formedL : List T → Bool
  | [] => true
  | x :: xs => T.formed x && T.formedL xs
end
end Go.Proofs.Ytgaijgadeodoeaa
