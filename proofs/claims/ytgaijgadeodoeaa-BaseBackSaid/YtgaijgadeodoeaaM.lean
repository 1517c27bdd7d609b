/-
  On which blocks a term lies.
-/
import Derived.Test.YtgaijgadeodoeaaT4
import Derived.Test.YtgaijgadeodoeaaR2
namespace Go.Proofs.Ytgaijgadeodoeaa
open Go.RowKit

namespace Tm
mutual
/-- The blocks that the term's arguments lie on are all such. -/
def On (S : Nat → Prop) : Tm → Prop
  | .mk _ _ _ p _ l => (l = [] ∨ ∃ b o, p = some ⟨b, o, none⟩ ∧ S b) ∧ OnL S l
def OnL (S : Nat → Prop) : List Tm → Prop
  | [] => True
  | x :: xs => On S x ∧ OnL S xs
end

theorem OnL_mem {S : Nat → Prop} : ∀ {l : List Tm}, OnL S l → ∀ x ∈ l, On S x
  | _ :: _, h, x, hx => by
    rw [OnL] at h
    rcases List.mem_cons.1 hx with rfl | hx
    · exact h.1
    · exact OnL_mem h.2 x hx

theorem OnL_of {S : Nat → Prop} : ∀ {l : List Tm}, (∀ x ∈ l, On S x) → OnL S l
  | [], _ => by rw [OnL]; trivial
  | x :: xs, h => by
    rw [OnL]
    exact ⟨h x (List.mem_cons_self ..), OnL_of fun y hy => h y (List.mem_cons_of_mem _ hy)⟩

mutual
theorem On.mono {S S' : Nat → Prop} (hS : ∀ b, S b → S' b) : ∀ {t : Tm}, On S t → On S' t
  | .mk _ _ _ _ _ l, h => by
    rw [On] at h ⊢
    exact ⟨h.1.imp id fun ⟨b, o, h1, h2⟩ => ⟨b, o, h1, hS b h2⟩, OnL.mono hS h.2⟩
theorem OnL.mono {S S' : Nat → Prop} (hS : ∀ b, S b → S' b) : ∀ {l : List Tm}, OnL S l → OnL S' l
  | [], _ => by rw [OnL]; trivial
  | _ :: _, h => by
    rw [OnL] at h ⊢
    exact ⟨On.mono hS h.1, OnL.mono hS h.2⟩
end

mutual
theorem In.on {w : World} : ∀ {t : Tm}, In w t → On (· < w.heap.size) t
  | .mk _ _ _ _ _ l, h => by
    rw [In] at h
    rw [On]
    refine ⟨?_, InL.on h.2.2.2.2.2.2⟩
    rcases h.2.2.2.2.2.1 with h1 | ⟨b, o, h1, h2⟩
    · exact .inl h1
    · by_cases hl : l = []
      · exact .inl hl
      · exact .inr ⟨b, o, h1, row_lt h2 hl⟩
theorem InL.on {w : World} : ∀ {l : List Tm}, InL w l → OnL (· < w.heap.size) l
  | [], _ => by rw [OnL]; trivial
  | _ :: _, h => by
    rw [InL] at h
    rw [OnL]
    exact ⟨In.on h.1, InL.on h.2⟩
end

mutual
/-- A term lies in every world that is the same on its blocks. -/
theorem In.same {S : Nat → Prop} {w w' : World} (hs : ∀ b, S b → ∀ o, w'.cell? ⟨b, o, none⟩ = w.cell? ⟨b, o, none⟩) : ∀ {t : Tm}, In w t → On S t → In w' t
  | .mk k n s p c l, h, hO => by
    rw [In] at h ⊢
    rw [On] at hO
    obtain ⟨h1, h2, h3, h4, h5, h6, h7⟩ := h
    refine ⟨h1, h2, h3, h4, h5, ?_, InL.same hs h7 hO.2⟩
    rcases h6 with h6 | ⟨b, o, hp, hr⟩
    · exact .inl h6
    · rcases hO.1 with h8 | ⟨b', o', hp', hS⟩
      · exact .inl h8
      · rw [hp] at hp'
        cases hp'
        exact .inr ⟨b, o, hp, row_mono hr (hs b hS)⟩
theorem InL.same {S : Nat → Prop} {w w' : World} (hs : ∀ b, S b → ∀ o, w'.cell? ⟨b, o, none⟩ = w.cell? ⟨b, o, none⟩) : ∀ {l : List Tm}, InL w l → OnL S l → InL w' l
  | [], _, _ => by rw [InL]; trivial
  | _ :: _, h, hO => by
    rw [InL] at h ⊢
    rw [OnL] at hO
    exact ⟨In.same hs h.1 hO.1, InL.same hs h.2 hO.2⟩
end

/-- A slice of terms on such blocks. -/
def SlOn (S : Nat → Prop) (p : Option Addr) (l : List Tm) : Prop := (l = [] ∨ ∃ b o, p = some ⟨b, o, none⟩ ∧ S b) ∧ OnL S l

theorem SlOn.mono {S S' : Nat → Prop} {p : Option Addr} {l : List Tm} (hS : ∀ b, S b → S' b) (h : SlOn S p l) : SlOn S' p l :=
  ⟨h.1.imp id fun ⟨b, o, h1, h2⟩ => ⟨b, o, h1, hS b h2⟩, OnL.mono hS h.2⟩

theorem Sl.on {w : World} {p : Option Addr} {c : Nat} {l : List Tm} (h : Sl w p c l) : SlOn (· < w.heap.size) p l := by
  refine ⟨?_, InL.on h.2.2.2⟩
  rcases h.2.2.1 with h1 | ⟨b, o, h1, h2⟩
  · exact .inl h1
  · by_cases hl : l = []
    · exact .inl hl
    · exact .inr ⟨b, o, h1, row_lt h2 hl⟩

theorem Sl.same {S : Nat → Prop} {w w' : World} {p : Option Addr} {c : Nat} {l : List Tm} (hs : ∀ b, S b → ∀ o, w'.cell? ⟨b, o, none⟩ = w.cell? ⟨b, o, none⟩) (h : Sl w p c l) (hO : SlOn S p l) : Sl w' p c l := by
  refine ⟨h.1, h.2.1, ?_, InL.same hs h.2.2.2 hO.2⟩
  rcases h.2.2.1 with h6 | ⟨b, o, hp, hr⟩
  · exact .inl h6
  · rcases hO.1 with h8 | ⟨b', o', hp', hS⟩
    · exact .inl h8
    · rw [hp] at hp'
      cases hp'
      exact .inr ⟨b, o, hp, row_mono hr (hs b hS)⟩
end Tm

theorem cell_set_ne {w : World} {b B o o' : Nat} {v : Value} (h : b ≠ B) : (w.setCell ⟨B, o', none⟩ v).cell? ⟨b, o, none⟩ = w.cell? ⟨b, o, none⟩ :=
  World.cell?_of_block (w := w) (Below.heap_setCell w ⟨B, o', none⟩ v b h)

/-- A term in memory is handed back: it lies on blocks that the call has made, or on such as what came in. -/
def RetTm (S : Nat → Prop) (t : T) (w : World) (e : Ending) (w' : World) : Prop := ∃ b : Tm, b.In w' ∧ b.erase = t ∧ e = .returned b.val ∧ Gr w w' ∧ b.On S

/-- The value is a slice of just these terms; of terms that are these; a term that is this. -/
def slAt (S : Nat → Prop) (l : List Tm) : VP := fun v w => ∃ (p : Option Addr) (c : Nat), v = .slice p l.length c ∧ Tm.Sl w p c l ∧ Tm.SlOn S p l
theorem slAt_stable {S : Nat → Prop} {l : List Tm} : ∀ v w w', slAt S l v w → Gr w w' → slAt S l v w' := fun _ _ _ ⟨p, c, h1, h2, h3⟩ hg => ⟨p, c, h1, h2.mono hg, h3⟩
def slIs (S : Nat → Prop) (l : List T) : VP := fun v w => ∃ (p : Option Addr) (c : Nat) (k : List Tm), v = .slice p k.length c ∧ Tm.Sl w p c k ∧ Tm.eraseL k = l ∧ Tm.SlOn S p k
theorem slIs_stable {S : Nat → Prop} {l : List T} : ∀ v w w', slIs S l v w → Gr w w' → slIs S l v w' := fun _ _ _ ⟨p, c, k, h1, h2, h3, h4⟩ hg => ⟨p, c, k, h1, h2.mono hg, h3, h4⟩
def tmIs (S : Nat → Prop) (t : T) : VP := fun v w => ∃ b : Tm, v = b.val ∧ b.In w ∧ b.erase = t ∧ b.On S
theorem tmIs_stable {S : Nat → Prop} {t : T} : ∀ v w w', tmIs S t v w → Gr w w' → tmIs S t v w' := fun _ _ _ ⟨b, h1, h2, h3, h4⟩ hg => ⟨b, h1, Tm.In_below hg h2, h3, h4⟩
end Go.Proofs.Ytgaijgadeodoeaa
