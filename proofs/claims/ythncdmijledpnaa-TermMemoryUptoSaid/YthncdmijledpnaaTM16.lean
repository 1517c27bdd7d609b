/-
  The second half of a drawn region some of whose operations turn more than new memory; what is known by which operations are over speaks of the frame too.
  A drawn region with a call that turns more than new memory, whose answer is put into a slice of one: what is known while its operations go by.
  A drawn region: what ties the values that its operations hand back to one another.
  hornref.Compose, plain: a bind is put where it belongs; two lists of binds of one map say the same.
  Robinson's road, plain: what it answers, and that this is the general unifier.
  hornref.parts, hornref.Slim: how many parts a term has.
-/
import Derived.Test.YthncdmijledpnaaTM15
import Derived.Test.YthncdmijledpnaaTM04
import Derived.Test.YthncdmijledpnaaTM12
import Derived.Test.YthncdmijledpnaaTM11
import Derived.Test.YthncdmijledpnaaTM06
import Derived.Test.YthncdmijledpnaaTM10
import Derived.Test.YthncdmijledpnaaTM05
namespace Go.Proofs.Ythncdmijledpnaa
open Go.RowKit

section
variable {P : Program} {ops : List Oper} {Vs : List VP} {a₀ : Act} {w₀ : World} {Q : Exit → Act → World → Prop} {R : World → World → Prop} {J : Array Bool → Act → World → Prop} {m : Nat}
end

/-- Operation i makes a value at slot d of which X is known till operation j uses it up and makes one at slot d' of which Y is known. -/
structure UseJ (n i j d d' : Nat) (X Y : VP) (listed : Array Bool) (a : Act) (w : World) : Prop where
  sz : a.tmps.size = n
  one : listed.getD i false = true → listed.getD j false = false → X (a.tmps[d]?.getD undef) w
  two : listed.getD j false = true → Y (a.tmps[d']?.getD undef) w
theorem put_at {a : Act} {d : Nat} {v : Value} (h : d < a.tmps.size) : (a.put (some d) v).tmps[d]?.getD undef = v := by simp [Act.put, h]
theorem UseJ.start {n i j d d' m : Nat} {X Y : VP} {a : Act} {w : World} (hn : a.tmps.size = n) (hi : m ≤ i) (hj : m ≤ j) (listed : Array Bool) (h : ∀ k, m ≤ k → listed.getD k false = false) : UseJ n i j d d' X Y listed a w :=
  ⟨hn, (fun h1 => by rw [h i hi] at h1; cases h1), (fun h1 => by rw [h j hj] at h1; cases h1)⟩
theorem UseJ.other {n i j d d' k : Nat} {X Y : VP} (hX : ∀ v w w', X v w → Gr w w' → X v w') (hY : ∀ v w w', Y v w → Gr w w' → Y v w') {o : Option Tmp} (hi : k ≠ i) (hj : k ≠ j) (hd : o ≠ some d) (hd' : o ≠ some d') (listed : Array Bool) (a : Act) (w w' : World) (v : Value) (h : UseJ n i j d d' X Y listed a w) (hg : Gr w w') :
    UseJ n i j d d' X Y (listed.setIfInBounds k true) (a.put o v) w' where
  sz := by rw [put_size]; exact h.sz
  one := fun h1 h2 => by
    rw [getD_set_ne false hi] at h1
    rw [getD_set_ne false hj] at h2
    rw [put_ne hd]
    exact hX _ _ _ (h.one h1 h2) hg
  two := fun h1 => by
    rw [getD_set_ne false hj] at h1
    rw [put_ne hd']
    exact hY _ _ _ (h.two h1) hg
theorem UseJ.first {n i j d d' : Nat} {X Y : VP} (hY : ∀ v w w', Y v w → Gr w w' → Y v w') {listed : Array Bool} {a : Act} {w w' : World} {v : Value} (h : UseJ n i j d d' X Y listed a w) (hij : i ≠ j) (hdd : d ≠ d') (hd : d < n) (hg : Gr w w') (hv : X v w') : UseJ n i j d d' X Y (listed.setIfInBounds i true) (a.put (some d) v) w' where
  sz := by rw [put_size]; exact h.sz
  one := fun _ _ => by rw [put_at (by rw [h.sz]; exact hd)]; exact hv
  two := fun h1 => by
    rw [getD_set_ne false hij] at h1
    rw [put_ne (fun e => hdd (Option.some.inj e))]
    exact hY _ _ _ (h.two h1) hg
theorem UseJ.second {n i j d d' : Nat} {X Y : VP} {listed : Array Bool} {a : Act} {w w' : World} {v : Value} (h : UseJ n i j d d' X Y listed a w) (hl : listed.getD j true = false) (hd : d' < n) (hv : Y v w') : UseJ n i j d d' X Y (listed.setIfInBounds j true) (a.put (some d') v) w' where
  sz := by rw [put_size]; exact h.sz
  one := fun _ h2 => by
    have hi : j < listed.size := by
      rcases Nat.lt_or_ge j listed.size with h' | h'
      · exact h'
      · simp [Array.getElem?_eq_none h'] at hl
    simp [hi] at h2
  two := fun _ => by rw [put_at (by rw [h.sz]; exact hd)]; exact hv
end Go.Proofs.Ythncdmijledpnaa

namespace Go.Proofs.Ythncdmijledpnaa
open Go.RowKit

/-- A new slice of one term: the value v. -/
def oneV (B0 : Nat) (v u : Value) (w : World) : Prop := ∃ B v0 v1 v2 v3, v = .agg #[v0, v1, v2, v3] ∧ u = .slice (some ⟨B, 0, none⟩) 1 1 ∧ B0 ≤ B ∧ Blk4 w B v0 v1 v2 v3
/-- Operation i calls and hands back a value at slot d of which X is known; operation j makes a slice of it at slot e; ahead of i nothing turns. -/
structure CallJ (w0 : World) (n i j d e : Nat) (X : VP) (listed : Array Bool) (a : Act) (w : World) : Prop where
  sz : a.tmps.size = n
  no : listed.getD i false = false → Gr w0 w ∧ listed.getD j false = false
  grown : w0.heap.size ≤ w.heap.size
  yes : listed.getD i false = true → X (a.tmps[d]?.getD undef) w
  one : listed.getD j false = true → oneV w0.heap.size (a.tmps[d]?.getD undef) (a.tmps[e]?.getD undef) w
theorem CallJ.start {w0 : World} {n i j d e : Nat} {X : VP} {a : Act} {w : World} (m : Nat) (g : Gr w0 w) (hn : a.tmps.size = n) : CallJ w0 n i j d e X (Array.replicate m false) a w where
  sz := hn
  no := fun _ => ⟨g, by rw [Array.getD_eq_getD_getElem?, Array.getElem?_replicate]; split <;> rfl⟩
  grown := g.size
  yes := fun h => by rw [Array.getD_eq_getD_getElem?, Array.getElem?_replicate] at h; split at h <;> cases h
  one := fun h => by rw [Array.getD_eq_getD_getElem?, Array.getElem?_replicate] at h; split at h <;> cases h
theorem CallJ.other {w0 : World} {n i j d e k : Nat} {X : VP} (hX : ∀ v w w', X v w → Gr w w' → X v w') {o : Option Tmp} (hk : (k != i && k != j && (o != some d && o != some e)) = true) (listed : Array Bool) (a : Act) (w w' : World) (v : Value) (h : CallJ w0 n i j d e X listed a w) (hg : Gr w w') :
    CallJ w0 n i j d e X (listed.setIfInBounds k true) (a.put o v) w' := by
  simp only [Bool.and_eq_true, bne_iff_ne, ne_eq] at hk
  obtain ⟨⟨hi, hj⟩, hd, he⟩ := hk
  refine ⟨by rw [put_size]; exact h.sz, fun h1 => ?_, Nat.le_trans h.grown hg.size, fun h1 => ?_, fun h1 => ?_⟩
  · rw [getD_set_ne false hi] at h1
    rw [getD_set_ne false hj]
    exact ⟨(h.no h1).1.trans hg, (h.no h1).2⟩
  · rw [getD_set_ne false hi] at h1
    rw [put_ne hd]
    exact hX _ _ _ (h.yes h1) hg
  · rw [getD_set_ne false hj] at h1
    rw [put_ne hd, put_ne he]
    obtain ⟨B, v0, v1, v2, v3, e1, e2, e3, e4⟩ := h.one h1
    exact ⟨B, v0, v1, v2, v3, e1, e2, e3, e4.gr hg⟩
theorem getD_set_eq {l : Array Bool} {i : Nat} (h : l.getD i true = false) : (l.setIfInBounds i true).getD i false = true := by
  have hi : i < l.size := by
    rcases Nat.lt_or_ge i l.size with h' | h'
    · exact h'
    · simp [Array.getElem?_eq_none h'] at h
  simp [hi]
/-- The call is over. -/
theorem CallJ.call {w0 : World} {n i j d e : Nat} {X : VP} {listed : Array Bool} {a : Act} {w w' : World} {v : Value} (h : CallJ w0 n i j d e X listed a w) (hl : listed.getD i true = false) (hij : i ≠ j) (hd : d < n) (hs : w.heap.size ≤ w'.heap.size) (hv : X v w') :
    CallJ w0 n i j d e X (listed.setIfInBounds i true) (a.put (some d) v) w' where
  sz := by rw [put_size]; exact h.sz
  no := fun h1 => by rw [getD_set_eq hl] at h1; cases h1
  grown := Nat.le_trans h.grown hs
  yes := fun _ => by rw [put_at (by rw [h.sz]; exact hd)]; exact hv
  one := fun h1 => by
    rw [getD_set_ne false hij] at h1
    rw [(h.no (getD_tf hl)).2] at h1
    cases h1
/-- The slice is made. -/
theorem CallJ.made {w0 : World} {n i j d e : Nat} {X : VP} (hX : ∀ v w w', X v w → Gr w w' → X v w') {listed : Array Bool} {a : Act} {w w' : World} {u : Value} (h : CallJ w0 n i j d e X listed a w) (hi : listed.getD i false = true) (_ : listed.getD j true = false) (hij : i ≠ j) (hde : d ≠ e) (he : e < n) (hg : Gr w w')
    (hu : oneV w0.heap.size (a.tmps[d]?.getD undef) u w') : CallJ w0 n i j d e X (listed.setIfInBounds j true) (a.put (some e) u) w' where
  sz := by rw [put_size]; exact h.sz
  no := fun h1 => by
    rw [getD_set_ne false (Ne.symm hij)] at h1
    rw [hi] at h1
    cases h1
  grown := Nat.le_trans h.grown hg.size
  yes := fun _ => by
    rw [put_ne (fun e => hde (Option.some.inj e).symm)]
    exact hX _ _ _ (h.yes hi) hg
  one := fun _ => by
    rw [put_ne (fun e => hde (Option.some.inj e).symm), put_at (by rw [h.sz]; exact he)]
    exact hu
theorem CallJ.end_ {w0 : World} {n i j d e m : Nat} {X : VP} {a : Act} {w : World} (h : CallJ w0 n i j d e X (Array.replicate m true) a w) (hi : i < m) (hj : j < m) : X (a.tmps[d]?.getD undef) w ∧ oneV w0.heap.size (a.tmps[d]?.getD undef) (a.tmps[e]?.getD undef) w :=
  ⟨h.yes (by simp [hi]), h.one (by simp [hj])⟩
/-- Operation i turns something and hands back a value at slot d of which X is known, operation k turns something behind it; operation q goes ahead of i; ahead of i nothing turns. -/
structure PushJ (w0 : World) (n q i k d : Nat) (X : VP) (Y : World → Prop) (listed : Array Bool) (a : Act) (w : World) : Prop where
  sz : a.tmps.size = n
  ord : listed.getD i false = true → listed.getD q false = true
  no : listed.getD i false = false → Gr w0 w ∧ listed.getD k false = false
  grown : w0.heap.size ≤ w.heap.size
  one : listed.getD i false = true → listed.getD k false = false → X (a.tmps[d]?.getD undef) w
  two : listed.getD k false = true → Y w
theorem PushJ.start {w0 : World} {n q i k d : Nat} {X : VP} {Y : World → Prop} {a : Act} {w : World} (m : Nat) (g : Gr w0 w) (hn : a.tmps.size = n) : PushJ w0 n q i k d X Y (Array.replicate m false) a w where
  sz := hn
  ord := fun h => by rw [Array.getD_eq_getD_getElem?, Array.getElem?_replicate] at h; split at h <;> cases h
  no := fun _ => ⟨g, by rw [Array.getD_eq_getD_getElem?, Array.getElem?_replicate]; split <;> rfl⟩
  grown := g.size
  one := fun h => by rw [Array.getD_eq_getD_getElem?, Array.getElem?_replicate] at h; split at h <;> cases h
  two := fun h => by rw [Array.getD_eq_getD_getElem?, Array.getElem?_replicate] at h; split at h <;> cases h
theorem getD_mono {l : Array Bool} {i j : Nat} (h : l.getD i false = true) : (l.setIfInBounds j true).getD i false = true := by
  by_cases e : j = i
  · subst e
    have hi : j < l.size := by
      rcases Nat.lt_or_ge j l.size with h' | h'
      · exact h'
      · simp [Array.getElem?_eq_none h'] at h
    simp [hi]
  · rw [getD_set_ne false e]; exact h
theorem PushJ.other {w0 : World} {n q i k d j : Nat} {X : VP} {Y : World → Prop} (hX : ∀ v w w', X v w → Gr w w' → X v w') (hY : ∀ w w', Y w → Gr w w' → Y w') {o : Option Tmp} (hk : (j != i && j != k && o != some d) = true) (listed : Array Bool) (a : Act) (w w' : World) (v : Value) (h : PushJ w0 n q i k d X Y listed a w) (hg : Gr w w') :
    PushJ w0 n q i k d X Y (listed.setIfInBounds j true) (a.put o v) w' := by
  simp only [Bool.and_eq_true, bne_iff_ne, ne_eq] at hk
  obtain ⟨⟨hi, hkk⟩, hd⟩ := hk
  refine ⟨by rw [put_size]; exact h.sz, fun h1 => ?_, fun h1 => ?_, Nat.le_trans h.grown hg.size, fun h1 h2 => ?_, fun h1 => ?_⟩
  · rw [getD_set_ne false hi] at h1
    exact getD_mono (h.ord h1)
  · rw [getD_set_ne false hi] at h1
    rw [getD_set_ne false hkk]
    exact ⟨(h.no h1).1.trans hg, (h.no h1).2⟩
  · rw [getD_set_ne false hi] at h1
    rw [getD_set_ne false hkk] at h2
    rw [put_ne hd]
    exact hX _ _ _ (h.one h1 h2) hg
  · rw [getD_set_ne false hkk] at h1
    exact hY _ _ (h.two h1) hg
theorem PushJ.first {w0 : World} {n q i k d : Nat} {X : VP} {Y : World → Prop} {listed : Array Bool} {a : Act} {w w' : World} {v : Value} (h : PushJ w0 n q i k d X Y listed a w) (hl : listed.getD i true = false) (hq : listed.getD q false = true) (hik : i ≠ k) (hd : d < n) (hs : w.heap.size ≤ w'.heap.size) (hv : X v w') :
    PushJ w0 n q i k d X Y (listed.setIfInBounds i true) (a.put (some d) v) w' where
  sz := by rw [put_size]; exact h.sz
  ord := fun _ => getD_mono hq
  no := fun h1 => by rw [getD_set_eq hl] at h1; cases h1
  grown := Nat.le_trans h.grown hs
  one := fun _ _ => by rw [put_at (by rw [h.sz]; exact hd)]; exact hv
  two := fun h1 => by
    rw [getD_set_ne false hik, (h.no (getD_tf hl)).2] at h1
    cases h1
theorem PushJ.second {w0 : World} {n q i k d : Nat} {X : VP} {Y : World → Prop} {listed : Array Bool} {a : Act} {w w' : World} {v : Value} {o : Option Tmp} (h : PushJ w0 n q i k d X Y listed a w) (hi : listed.getD i false = true) (hl : listed.getD k true = false) (hik : i ≠ k) (hs : w.heap.size ≤ w'.heap.size) (hv : Y w') :
    PushJ w0 n q i k d X Y (listed.setIfInBounds k true) (a.put o v) w' where
  sz := by rw [put_size]; exact h.sz
  ord := fun _ => getD_mono (h.ord hi)
  no := fun h1 => by rw [getD_set_ne false (Ne.symm hik), hi] at h1; cases h1
  grown := Nat.le_trans h.grown hs
  one := fun _ h2 => by rw [getD_set_eq hl] at h2; cases h2
  two := fun _ => hv
theorem PushJ.end_ {w0 : World} {n q i k d m : Nat} {X : VP} {Y : World → Prop} {a : Act} {w : World} (h : PushJ w0 n q i k d X Y (Array.replicate m true) a w) (hk : k < m) : Y w := h.two (by simp [hk])
theorem getD_ft {l : Array Bool} {i : Nat} (h : ¬ l.getD i false = true) : l.getD i false = false := by
  cases hh : l.getD i false
  · rfl
  · exact absurd hh h
end Go.Proofs.Ythncdmijledpnaa

namespace Go.Proofs.Ythncdmijledpnaa
open Go.RowKit

/-- Operation i hands back at slot d; operation j, which waits for it, at slot e; rel ties the two. -/
structure Lk where
  i : Nat
  d : Nat
  j : Nat
  e : Nat
abbrev LkRel := Value → Value → World → Prop
structure LinkJ (n : Nat) (Ls : List (Lk × LkRel)) (listed : Array Bool) (a : Act) (w : World) : Prop where
  sz : a.tmps.size = n
  lk : ∀ L ∈ Ls, listed.getD L.1.j false = true → listed.getD L.1.i false = true ∧ L.2 (a.tmps[L.1.d]?.getD undef) (a.tmps[L.1.e]?.getD undef) w
theorem LinkJ.start {n : Nat} {Ls : List (Lk × LkRel)} (m : Nat) (a : Act) (w : World) (hn : a.tmps.size = n) : LinkJ n Ls (Array.replicate m false) a w where
  sz := hn
  lk := fun L _ h => by rw [Array.getD_eq_getD_getElem?, Array.getElem?_replicate] at h; split at h <;> cases h
theorem LinkJ.step {R : World → World → Prop} {n k : Nat} {Ls : List (Lk × LkRel)} {o : Option Tmp} (hst : ∀ L ∈ Ls, ∀ u v w w', L.2 u v w → R w w' → L.2 u v w') {listed : Array Bool} {a : Act} {w w' : World} {v : Value} (h : LinkJ n Ls listed a w) (hl : listed.getD k true = false) (hg : R w w')
    (hc : ∀ L ∈ Ls, (L.1.j ≠ k ∧ (L.1.i = k ∨ o ≠ some L.1.d) ∧ o ≠ some L.1.e) ∨ (L.1.j = k ∧ L.1.i ≠ k ∧ o = some L.1.e ∧ L.1.d ≠ L.1.e ∧ L.1.e < n ∧ listed.getD L.1.i false = true ∧ L.2 (a.tmps[L.1.d]?.getD undef) v w')) :
    LinkJ n Ls (listed.setIfInBounds k true) (a.put o v) w' where
  sz := by rw [put_size]; exact h.sz
  lk := fun L hL h1 => by
    rcases hc L hL with ⟨h2, h3, h4⟩ | ⟨h2, h3, h4, h5, h6, h7, h8⟩
    · rw [getD_set_ne false (Ne.symm h2)] at h1
      obtain ⟨h5, h6⟩ := h.lk L hL h1
      have hik : k ≠ L.1.i := fun e => by rw [← e, getD_tf hl] at h5; cases h5
      rw [getD_set_ne false hik, put_ne (h3.resolve_left (Ne.symm hik)), put_ne h4]
      exact ⟨h5, hst L hL _ _ _ _ h6 hg⟩
    · rw [getD_set_ne false (Ne.symm h3), h4, put_ne (fun e => h5 (Option.some.inj e).symm), put_at (by rw [h.sz]; exact h6)]
      exact ⟨h7, h8⟩
/-- An operation at which no link ends. -/
def lkOther (k : Nat) (o : Option Tmp) (Ls : List (Lk × LkRel)) : Bool := (Ls.map Prod.fst).all fun L => L.j != k && (L.i == k || o != some L.d) && o != some L.e
theorem LinkJ.other {R : World → World → Prop} {n k : Nat} {Ls : List (Lk × LkRel)} {o : Option Tmp} (hst : ∀ L ∈ Ls, ∀ u v w w', L.2 u v w → R w w' → L.2 u v w') (hk : lkOther k o Ls = true) (listed : Array Bool) (a : Act) (w w' : World) (v : Value) (h : LinkJ n Ls listed a w) (hl : listed.getD k true = false) (hg : R w w') :
    LinkJ n Ls (listed.setIfInBounds k true) (a.put o v) w' :=
  h.step hst hl hg fun L hL => .inl (by
    have h1 := List.all_eq_true.1 hk L.1 (List.mem_map_of_mem hL)
    simp only [Bool.and_eq_true, Bool.or_eq_true, bne_iff_ne, ne_eq, beq_iff_eq] at h1
    exact ⟨h1.1.1, h1.1.2, h1.2⟩)
theorem LinkJ.end_ {n m : Nat} {Ls : List (Lk × LkRel)} {a : Act} {w : World} (h : LinkJ n Ls (Array.replicate m true) a w) {L : Lk × LkRel} (hL : L ∈ Ls) (hj : L.1.j < m) : L.2 (a.tmps[L.1.d]?.getD undef) (a.tmps[L.1.e]?.getD undef) w :=
  (h.lk L hL (by simp [hj])).2
section
variable {P : Program} {ops : List Oper} {Vs : List VP} {a₀ : Act} {w₀ : World} {Q : Exit → Act → World → Prop} {R : World → World → Prop} {J : Array Bool → Act → World → Prop}
/-- An operation that turns nothing but new memory, and of which J knows that it is not over yet. -/
theorem stepA_plainL {i : Nat} {o : Oper} {V : VP} (hG : ∀ w w', Gr w w' → R w w') (hJ : ∀ listed a w w' v, J listed a w → listed.getD i true = false → Gr w w' → J (listed.setIfInBounds i true) (a.put o.dst v) w')
    (h : ∀ a w, R w₀ w → (∀ t, (dsts ops).contains t = false → a.tmps[t]?.getD undef = a₀.tmps[t]?.getD undef) → predsImp ops Vs a w (∀ K : Act → World → Prop, (∀ v w', V v w' → Gr w w' → K (a.put o.dst v) w') → o.wp P a w K Q) o.after.toList) :
    StepA R J P ops Vs a₀ w₀ Q i o V := by
  intro listed a w hj hl _ hr _ hf
  have h1 := h a w hr hf
  have : ∀ es : List Edge, predsImp ops Vs a w (∀ K : Act → World → Prop, (∀ v w', V v w' → Gr w w' → K (a.put o.dst v) w') → o.wp P a w K Q) es → predsImp ops Vs a w (∀ K : Act → World → Prop, (∀ v w', V v w' → R w w' → J (listed.setIfInBounds i true) (a.put o.dst v) w' → K (a.put o.dst v) w') → o.wp P a w K Q) es := by
    intro es
    induction es with
    | nil => exact fun h2 K hK => h2 K fun v w' hv hg => hK v w' hv (hG _ _ hg) (hJ _ _ _ _ _ hj hl hg)
    | cons e es ih =>
      intro h2
      simp only [predsImp] at h2 ⊢
      split at h2
      · rename_i hb
        rw [if_pos hb]
        cases hd : dstAt ops e.on with
        | none => simp only [hd] at h2 ⊢; exact ih h2
        | some d => simp only [hd] at h2 ⊢; exact fun v h3 h4 => ih (h2 v h3 h4)
      · rename_i hb
        rw [if_neg hb]
        exact ih h2
  exact this _ h1
end
end Go.Proofs.Ythncdmijledpnaa

namespace Go.Proofs.Ythncdmijledpnaa
open Go.RowKit Go.Maps Go.Lib

/-- A bind put behind those of smaller variables. -/
def placeL : List Bd → Bd → List Bd
  | [], x => [x]
  | y :: ys, x => if y.v < x.v then y :: placeL ys x else x :: y :: ys
theorem placeL_mem (x : Bd) : ∀ (l : List Bd) (y : Bd), y ∈ placeL l x ↔ y = x ∨ y ∈ l
  | [], y => by simp [placeL]
  | z :: zs, y => by
    rw [placeL]
    split
    · rw [List.mem_cons, placeL_mem x zs y, List.mem_cons]
      constructor
      · rintro (h | h | h)
        · exact .inr (.inl h)
        · exact .inl h
        · exact .inr (.inr h)
      · rintro (h | h | h)
        · exact .inr (.inl h)
        · exact .inl h
        · exact .inr (.inr h)
    · rw [List.mem_cons]
theorem asc_place (x : Bd) (hx : x.v ≤ 1099511627776) : ∀ (l : List Bd) (last : Int), ascB last l = true → last < x.v → (∀ y ∈ l, y.v ≠ x.v) → ascB last (placeL l x) = true
  | [], last, _, h1, _ => by
    rw [placeL, ascB, ascB, decide_eq_true h1, decide_eq_true hx]; rfl
  | y :: ys, last, h, h1, h2 => by
    rw [ascB, Bool.and_eq_true, Bool.and_eq_true, decide_eq_true_eq, decide_eq_true_eq] at h
    have hne := h2 y (by simp)
    rw [placeL]
    split
    · rename_i hlt
      rw [ascB, decide_eq_true h.1, decide_eq_true h.2.1, asc_place x hx ys y.v h.2.2 hlt fun z hz => h2 z (by simp [hz])]
      rfl
    · rename_i hlt
      rw [ascB, ascB, decide_eq_true h1, decide_eq_true hx, decide_eq_true (show x.v < y.v by omega), decide_eq_true h.2.1, h.2.2]
      rfl

/-- A new variable in the map. -/
def putF (f : Int → Option T) (n : Int) (t : T) : Int → Option T := fun m => if m = n then some t else f m

theorem IsBinds.place {f : Int → Option T} {l : List Bd} (h : IsBinds f l) {x : Bd} (hf : x.t.erase.formed = true) (hv : 0 ≤ x.v ∧ x.v ≤ 1099511627776) (hn : f x.v = none) (hne : x.t.erase ≠ varT x.v) : IsBinds (putF f x.v x.t.erase) (placeL l x) := by
  have hfree : ∀ y ∈ l, y.v ≠ x.v := fun y hy e => by
    have := ((h.2.1 y.v y.t.erase).1 ⟨y, hy, rfl, rfl⟩).1
    rw [e, hn] at this
    cases this
  refine ⟨asc_place x hv.2 l (-1) h.1 (by omega) hfree, fun m t => ?_, fun y hy => ?_⟩
  · rw [putF]
    by_cases hm : m = x.v
    · rw [if_pos hm]
      constructor
      · rintro ⟨y, hy, h1, h2⟩
        rcases (placeL_mem x l y).1 hy with rfl | hy
        · exact ⟨by rw [h2], by rw [← h2, hm]; exact hne⟩
        · exact absurd (h1.trans hm) (hfree y hy)
      · rintro ⟨h1, _⟩
        exact ⟨x, (placeL_mem x l x).2 (.inl rfl), hm.symm, Option.some.inj h1⟩
    · rw [if_neg hm, ← h.2.1 m t]
      constructor
      · rintro ⟨y, hy, h1, h2⟩
        rcases (placeL_mem x l y).1 hy with rfl | hy
        · exact absurd h1.symm hm
        · exact ⟨y, hy, h1, h2⟩
      · rintro ⟨y, hy, h1, h2⟩
        exact ⟨y, (placeL_mem x l y).2 (.inr hy), h1, h2⟩
  · rcases (placeL_mem x l y).1 hy with rfl | hy
    · exact ⟨hf, hv⟩
    · exact h.2.2 y hy
theorem IsBinds.len {f : Int → Option T} {l : List Bd} (h : IsBinds f l) : l.length ≤ 1099511627777 := by
  have hnd : (l.map Bd.v).Nodup := by
    have hs := (asc_spec l (-1) h.1).2
    rw [List.Nodup, List.pairwise_map, List.pairwise_iff_getElem]
    intro i j hi hj hij
    have := hs i j hi hj hij
    omega
  have := nodup_le 1099511627777 (l.map Bd.v) hnd fun x hx => by
    obtain ⟨y, hy, rfl⟩ := List.mem_map.1 hx
    have := (h.2.2 y hy).2
    omega
  rwa [List.length_map] at this

/-- The variables and terms, without addresses. -/
def seeBds (l : List Bd) : List (Int × T) := l.map fun y => (y.v, y.t.erase)
theorem pairs_uniq : ∀ l l' : List (Int × T), l.Pairwise (fun a b => a.1 < b.1) → l'.Pairwise (fun a b => a.1 < b.1) → (∀ a, a ∈ l ↔ a ∈ l') → l = l'
  | [], [], _, _, _ => rfl
  | [], b :: ys, _, _, h => nomatch (h b).2 (by simp)
  | a :: xs, [], _, _, h => nomatch (h a).1 (by simp)
  | a :: xs, b :: ys, h1, h2, h => by
    rw [List.pairwise_cons] at h1 h2
    have hab : a = b := by
      rcases List.mem_cons.1 ((h a).1 (by simp)) with e | h3
      · exact e
      · rcases List.mem_cons.1 ((h b).2 (by simp)) with e | h4
        · exact e.symm
        · have h5 := h2.1 a h3
          have h6 := h1.1 b h4
          omega
    subst hab
    rw [pairs_uniq xs ys h1.2 h2.2 fun c => ?_]
    constructor
    · intro hc
      rcases List.mem_cons.1 ((h c).1 (by simp [hc])) with rfl | h3
      · have := h1.1 _ hc; omega
      · exact h3
    · intro hc
      rcases List.mem_cons.1 ((h c).2 (by simp [hc])) with rfl | h3
      · have := h2.1 _ hc; omega
      · exact h3
theorem seeBds_pairwise {l : List Bd} (h : ascB (-1) l = true) : (seeBds l).Pairwise (fun a b => a.1 < b.1) := by
  have hs := (asc_spec l (-1) h).2
  rw [seeBds, List.pairwise_map, List.pairwise_iff_getElem]
  intro i j hi hj hij
  exact hs i j hi hj hij
theorem IsBinds.uniq {f : Int → Option T} {l l' : List Bd} (h : IsBinds f l) (h' : IsBinds f l') : seeBds l = seeBds l' := by
  refine pairs_uniq _ _ (seeBds_pairwise h.1) (seeBds_pairwise h'.1) fun a => ?_
  have hm : ∀ l : List Bd, a ∈ seeBds l ↔ ∃ y ∈ l, y.v = a.1 ∧ y.t.erase = a.2 := fun l => by
    rw [seeBds, List.mem_map]
    constructor
    · rintro ⟨y, hy, rfl⟩; exact ⟨y, hy, rfl, rfl⟩
    · rintro ⟨y, hy, h1, h2⟩; exact ⟨y, hy, by rw [h1, h2]⟩
  rw [hm, hm, h.2.1, h'.2.1]
theorem seeBds_at {l l' : List Bd} (h : seeBds l = seeBds l') : l.length = l'.length ∧ ∀ (k : Nat) (hk : k < l.length) (hk' : k < l'.length), l[k].v = l'[k].v ∧ l[k].t.erase = l'[k].t.erase := by
  have hl : l.length = l'.length := by
    have := congrArg List.length h
    simpa [seeBds] using this
  refine ⟨hl, fun k hk hk' => ?_⟩
  have h1 : (seeBds l)[k]? = (seeBds l')[k]? := by rw [h]
  simp only [seeBds, List.getElem?_map, List.getElem?_eq_getElem hk, List.getElem?_eq_getElem hk', Option.map_some, Option.some.injEq, Prod.mk.injEq] at h1
  exact h1

/-! ### The map of a composition, as the document builds it -/
theorem putAll_none (g : Bd → T) (n : Int) : ∀ (l : List Bd) (f : Int → Option T), (∀ y ∈ l, y.v ≠ n) → putAll g l f n = f n
  | [], _, _ => rfl
  | y :: ys, f, h => by
    have := putAll_none g n ys (fun x => if x = y.v then some (g y) else f x) fun z hz => h z (by simp [hz])
    rw [show putAll g (y :: ys) f n = putAll g ys (fun x => if x = y.v then some (g y) else f x) n from rfl, this, if_neg fun e => h y (by simp) e.symm]
end Go.Proofs.Ythncdmijledpnaa

namespace Go.Proofs.Ythncdmijledpnaa

mutual
/-- The first place at which two terms differ. -/
def T.diff : T → T → Option (T × T)
  | .mk k n s l, .mk k' n' s' l' => if k = 4 ∧ k' = 4 ∧ s = s' ∧ l.length = l'.length then T.diffL l l' else if T.same (.mk k n s l) (.mk k' n' s' l') = true then none else some (.mk k n s l, .mk k' n' s' l')
def T.diffL : List T → List T → Option (T × T)
  | x :: xs, y :: ys => match T.diff x y with
    | some p => some p
    | none => T.diffL xs ys
  | _, _ => none
end

theorem formed_comp {n : Int} {s : List UInt8} {l : List T} (h : (T.mk 4 n s l).formed = true) : n = 0 ∧ s.length ≤ 100 ∧ 1 ≤ l.length ∧ l.length ≤ 50 ∧ T.formedL l = true := by
  rw [T.formed] at h
  simp at h
  exact ⟨h.1.1.1.1, h.1.1.1.2, h.1.1.2, h.1.2, h.2⟩

mutual
theorem T.diff_none : ∀ a b : T, a.formed = true → b.formed = true → T.diff a b = none → a = b
  | .mk k n s l, .mk k' n' s' l', ha, hb, h => by
    rw [T.diff] at h
    by_cases hc : k = 4 ∧ k' = 4 ∧ s = s' ∧ l.length = l'.length
    · rw [if_pos hc] at h
      obtain ⟨rfl, rfl, rfl, hl⟩ := hc
      obtain ⟨rfl, _, _, _, h1⟩ := formed_comp ha
      obtain ⟨rfl, _, _, _, h2⟩ := formed_comp hb
      rw [T.diffL_none l l' h1 h2 hl h]
    · rw [if_neg hc] at h
      by_cases hs : T.same (.mk k n s l) (.mk k' n' s' l') = true
      · exact (same_iff _ _).1 hs
      · rw [if_neg hs] at h; cases h
theorem T.diffL_none : ∀ a b : List T, T.formedL a = true → T.formedL b = true → a.length = b.length → T.diffL a b = none → a = b
  | [], [], _, _, _, _ => rfl
  | x :: xs, y :: ys, ha, hb, hl, h => by
    rw [T.formedL, Bool.and_eq_true] at ha hb
    rw [T.diffL] at h
    cases hd : T.diff x y with
    | some p => rw [hd] at h; cases h
    | none =>
      rw [hd] at h
      rw [T.diff_none x y ha.1 hb.1 hd, T.diffL_none xs ys ha.2 hb.2 (by simpa using hl) h]
end
/-- What is found where two terms differ. -/
structure Differ (a b : T → Prop) (u : (Int → T) → Prop) (p : T × T) : Prop where
  fx : p.1.formed = true
  fy : p.2.formed = true
  ox : a p.1
  oy : b p.2
  go : ∀ θ, u θ → T.map θ p.1 = T.map θ p.2
  ne : p.1 ≠ p.2
  head : ¬ (p.1.k = 4 ∧ p.2.k = 4 ∧ p.1.s = p.2.s ∧ p.1.l.length = p.2.l.length)
mutual
theorem T.diff_some : ∀ (a b : T) (p : T × T), a.formed = true → b.formed = true → T.diff a b = some p → Differ (fun x => ∀ m, T.occ m x → T.occ m a) (fun y => ∀ m, T.occ m y → T.occ m b) (fun θ => T.map θ a = T.map θ b) p
  | .mk k n s l, .mk k' n' s' l', p, ha, hb, h => by
    rw [T.diff] at h
    by_cases hc : k = 4 ∧ k' = 4 ∧ s = s' ∧ l.length = l'.length
    · rw [if_pos hc] at h
      obtain ⟨rfl, rfl, rfl, hl⟩ := hc
      obtain ⟨rfl, _, _, _, h1⟩ := formed_comp ha
      obtain ⟨rfl, _, _, _, h2⟩ := formed_comp hb
      have := T.diffL_some l l' p h1 h2 hl h
      refine ⟨this.fx, this.fy, fun m hm => ?_, fun m hm => ?_, fun θ hθ => this.go θ ?_, this.ne, this.head⟩
      · rw [T.occ, if_neg (by decide), if_pos rfl]; exact this.ox m hm
      · rw [T.occ, if_neg (by decide), if_pos rfl]; exact this.oy m hm
      · rw [T.map, T.map, if_neg (by decide), if_pos rfl, if_neg (by decide), if_pos rfl] at hθ
        injection hθ
    · rw [if_neg hc] at h
      by_cases hs : T.same (.mk k n s l) (.mk k' n' s' l') = true
      · rw [if_pos hs] at h; cases h
      · rw [if_neg hs] at h
        cases h
        exact ⟨ha, hb, fun _ hm => hm, fun _ hm => hm, fun _ hθ => hθ, fun e => hs ((same_iff _ _).2 e), hc⟩
theorem T.diffL_some : ∀ (a b : List T) (p : T × T), T.formedL a = true → T.formedL b = true → a.length = b.length → T.diffL a b = some p → Differ (fun x => ∀ m, T.occ m x → T.occL m a) (fun y => ∀ m, T.occ m y → T.occL m b) (fun θ => T.mapL θ a = T.mapL θ b) p
  | [], [], _, _, _, _, h => by rw [T.diffL] at h; cases h; all_goals simp
  | x :: xs, y :: ys, p, ha, hb, hl, h => by
    rw [T.formedL, Bool.and_eq_true] at ha hb
    rw [T.diffL] at h
    cases hd : T.diff x y with
    | some q =>
      rw [hd] at h
      cases h
      have := T.diff_some x y p ha.1 hb.1 hd
      refine ⟨this.fx, this.fy, fun m hm => ?_, fun m hm => ?_, fun θ hθ => this.go θ ?_, this.ne, this.head⟩
      · rw [T.occL]; exact .inl (this.ox m hm)
      · rw [T.occL]; exact .inl (this.oy m hm)
      · rw [T.mapL, T.mapL] at hθ
        injection hθ
    | none =>
      rw [hd] at h
      have := T.diffL_some xs ys p ha.2 hb.2 (by simpa using hl) h
      refine ⟨this.fx, this.fy, fun m hm => ?_, fun m hm => ?_, fun θ hθ => this.go θ ?_, this.ne, this.head⟩
      · rw [T.occL]; exact .inr (this.ox m hm)
      · rw [T.occL]; exact .inr (this.oy m hm)
      · rw [T.mapL, T.mapL] at hθ
        injection hθ
end

/-- Heads that differ do not come together. -/
theorem head_clash {θ : Int → T} {x y : T} (hx : x.formed = true) (hy : y.formed = true) (h1 : x.k ≠ 1) (h2 : y.k ≠ 1) (hne : x ≠ y) (hh : ¬ (x.k = 4 ∧ y.k = 4 ∧ x.s = y.s ∧ x.l.length = y.l.length)) : T.map θ x ≠ T.map θ y := by
  obtain ⟨k, n, s, l⟩ := x
  obtain ⟨k', n', s', l'⟩ := y
  simp only [T.k, T.s, T.l] at h1 h2 hh
  intro h
  rw [T.map, T.map, if_neg h1, if_neg h2] at h
  by_cases h4 : k = 4
  · rw [if_pos h4] at h
    by_cases h5 : k' = 4
    · rw [if_pos h5] at h
      injection h with e1 e2 e3 e4
      refine hh ⟨h4, h5, e3, ?_⟩
      have := congrArg List.length e4
      rwa [T.mapL_length, T.mapL_length] at this
    · rw [if_neg h5] at h
      injection h with e1
      exact h5 (e1.symm.trans h4)
  · rw [if_neg h4] at h
    by_cases h5 : k' = 4
    · rw [if_pos h5] at h
      injection h with e1
      exact h4 (e1.trans h5)
    · rw [if_neg h5] at h
      injection h with e1 e2 e3
      rcases formed_args hx with ⟨h6, _⟩ | ⟨_, rfl⟩
      · exact h4 h6
      rcases formed_args hy with ⟨h6, _⟩ | ⟨_, rfl⟩
      · exact h5 h6
      exact hne (by rw [e1, e2, e3])

/-- Which side is bound. -/
def orient (x y : T) : T × T := if y.k = 1 ∧ (x.k ≠ 1 ∨ x.n < y.n) then (y, x) else (x, y)
theorem orient_or (x y : T) : orient x y = (x, y) ∨ orient x y = (y, x) := by
  rw [orient]; split
  · exact .inr rfl
  · exact .inl rfl
theorem orient_nonvar {x y : T} (h : (orient x y).1.k ≠ 1) : x.k ≠ 1 ∧ y.k ≠ 1 := by
  rw [orient] at h
  split at h
  · rename_i h1; exact absurd h1.1 h
  · rename_i h1
    refine ⟨h, fun hy => h1 ⟨hy, .inl h⟩⟩
theorem orient_low {x y : T} (hx : x.formed = true) (_ : y.formed = true) (hne : x ≠ y) (h : (orient x y).1.k = 1) : ∀ m, (orient x y).2 = varT m → m < (orient x y).1.n := by
  intro m hm
  rw [orient] at h hm ⊢
  split at h
  · rename_i h1
    rw [if_pos h1] at hm ⊢
    simp only at hm ⊢
    rcases h1.2 with h2 | h2
    · rw [hm] at h2; exact absurd rfl h2
    · rw [hm] at h2; exact h2
  · rename_i h1
    rw [if_neg h1] at hm ⊢
    simp only at hm ⊢ h
    by_cases h2 : m < x.n
    · exact h2
    · refine absurd ⟨by rw [hm]; rfl, .inr ?_⟩ h1
      have h4 : y.n = m := by rw [hm]; rfl
      rw [h4]
      by_cases h3 : x.n < m
      · exact h3
      · refine absurd ?_ hne
        rw [hm, var_of_k hx h, show x.n = m by omega]

def Fat (t : T) : Prop := 100000 < T.sz t
inductive RobOut where
  | grown
  | clash
  | done (σ : Int → T)
/-- Robinson's road over some pairs. -/
inductive Rob : (Int → T) → List (T × T) → RobOut → Prop
  | nil (σ) : Rob σ [] (.done σ)
  | fat {σ a b E} (h : Fat (T.map σ a) ∨ Fat (T.map σ b)) : Rob σ ((a, b) :: E) .grown
  | same {σ a b E o} (h : ¬ (Fat (T.map σ a) ∨ Fat (T.map σ b))) (hd : T.diff (T.map σ a) (T.map σ b) = none) (hr : Rob σ E o) : Rob σ ((a, b) :: E) o
  | clash {σ a b E x y} (h : ¬ (Fat (T.map σ a) ∨ Fat (T.map σ b))) (hd : T.diff (T.map σ a) (T.map σ b) = some (x, y)) (hc : (orient x y).1.k ≠ 1 ∨ T.occ (orient x y).1.n (orient x y).2) : Rob σ ((a, b) :: E) .clash
  | grow {σ a b E x y} (h : ¬ (Fat (T.map σ a) ∨ Fat (T.map σ b))) (hd : T.diff (T.map σ a) (T.map σ b) = some (x, y)) (hc : ¬ ((orient x y).1.k ≠ 1 ∨ T.occ (orient x y).1.n (orient x y).2)) (hf : ∃ n, Fat (stepF σ (orient x y).1.n (orient x y).2 n)) : Rob σ ((a, b) :: E) .grown
  | step {σ a b E x y o} (h : ¬ (Fat (T.map σ a) ∨ Fat (T.map σ b))) (hd : T.diff (T.map σ a) (T.map σ b) = some (x, y)) (hc : ¬ ((orient x y).1.k ≠ 1 ∨ T.occ (orient x y).1.n (orient x y).2)) (hf : ¬ ∃ n, Fat (stepF σ (orient x y).1.n (orient x y).2 n)) (hr : Rob (stepF σ (orient x y).1.n (orient x y).2) ((a, b) :: E) o) : Rob σ ((a, b) :: E) o

def FormedP (E : List (T × T)) : Prop := ∀ p ∈ E, p.1.formed = true ∧ p.2.formed = true
def Unif (θ : Int → T) (E : List (T × T)) : Prop := ∀ p ∈ E, T.map θ p.1 = T.map θ p.2

/-- What one difference gives. -/
theorem differ_step {σ : Int → T} (hσ : Canon σ) {a b x y : T} (ha : a.formed = true) (hb : b.formed = true) (hd : T.diff (T.map σ a) (T.map σ b) = some (x, y)) :
    (∀ θ, Through θ σ → T.map θ a = T.map θ b → T.map θ (orient x y).1 = T.map θ (orient x y).2) ∧ (orient x y).1.formed = true ∧ (orient x y).2.formed = true ∧
    (∀ m, T.occ m (orient x y).1 → σ m = varT m) ∧ (∀ m, T.occ m (orient x y).2 → σ m = varT m) ∧ (orient x y).1 ≠ (orient x y).2 ∧
    ((orient x y).1.k ≠ 1 → ∀ θ, T.map θ (orient x y).1 ≠ T.map θ (orient x y).2) ∧ ((orient x y).1.k = 1 → ∀ m, (orient x y).2 = varT m → m < (orient x y).1.n) := by
  have h := T.diff_some _ _ _ (hσ.map ha) (hσ.map hb) hd
  have h1 : ∀ θ, Through θ σ → T.map θ a = T.map θ b → T.map θ x = T.map θ y := fun θ ht he => h.go θ (by rw [ht.map, ht.map, he])
  have hx : ∀ m, T.occ m x → σ m = varT m := fun m hm => hσ.occ_free (h.ox m hm)
  have hy : ∀ m, T.occ m y → σ m = varT m := fun m hm => hσ.occ_free (h.oy m hm)
  have hcl : (orient x y).1.k ≠ 1 → ∀ θ, T.map θ x ≠ T.map θ y := fun hk θ => by
    obtain ⟨k1, k2⟩ := orient_nonvar hk
    exact head_clash h.fx h.fy k1 k2 h.ne h.head
  have hlow := orient_low h.fx h.fy h.ne
  rcases orient_or x y with ho | ho
  · rw [ho] at hcl hlow ⊢
    exact ⟨h1, h.fx, h.fy, hx, hy, h.ne, hcl, hlow⟩
  · rw [ho] at hcl hlow ⊢
    exact ⟨fun θ ht he => (h1 θ ht he).symm, h.fy, h.fx, hy, hx, fun e => h.ne e.symm, fun hk θ e => hcl hk θ e.symm, hlow⟩
theorem differ_canon {σ : Int → T} (hσ : Canon σ) {a b x y : T} (ha : a.formed = true) (hb : b.formed = true) (hd : T.diff (T.map σ a) (T.map σ b) = some (x, y)) (hc : ¬ ((orient x y).1.k ≠ 1 ∨ T.occ (orient x y).1.n (orient x y).2)) :
    Canon (stepF σ (orient x y).1.n (orient x y).2) ∧ (∀ θ, Through θ σ → T.map θ a = T.map θ b → Through θ (stepF σ (orient x y).1.n (orient x y).2)) ∧ (orient x y).1 = varT (orient x y).1.n ∧ σ (orient x y).1.n = varT (orient x y).1.n ∧ stepF σ (orient x y).1.n (orient x y).2 (orient x y).1.n = (orient x y).2 ∧ (0 ≤ (orient x y).1.n ∧ (orient x y).1.n ≤ 1099511627776) := by
  obtain ⟨h1, h2, h3, h4, h5, h6, h7, h8⟩ := differ_step hσ ha hb hd
  generalize (orient x y).1 = u at *
  generalize (orient x y).2 = v at *
  have hk : u.k = 1 := Classical.byContradiction fun h => hc (.inl h)
  have hu := var_of_k h2 hk
  have hun : σ u.n = varT u.n := h4 u.n (by rw [hu]; exact T.occ_var.2 rfl)
  have hr : 0 ≤ u.n ∧ u.n ≤ 1099511627776 := by
    rw [hu, varT] at h2
    exact (formed_var h2).1
  refine ⟨hσ.step hun hr h3 h5 (fun ho => hc (.inr ho)) (h8 hk), fun θ ht he => ht.step ?_, hu, hun, ?_, hr⟩
  · rw [← h1 θ ht he]
    conv => lhs; rw [hu]
    exact T.map_var θ u.n
  · rw [stepF, hun, T.map_var, oneF, if_pos rfl]

/-- What is answered is the general unifier. -/
theorem Rob.sound {σ : Int → T} {E : List (T × T)} {o : RobOut} (h : Rob σ E o) : Canon σ → FormedP E →
    (∀ ρ, o = .done ρ → Canon ρ ∧ Through ρ σ ∧ Unif ρ E ∧ ∀ θ, Through θ σ → Unif θ E → Through θ ρ) ∧ (o = .clash → ∀ θ, Through θ σ → ¬ Unif θ E) := by
  induction h with
  | nil σ =>
    intro hc _
    refine ⟨fun ρ e => ?_, (fun e => nomatch e)⟩
    cases e
    exact ⟨hc, hc.self, (fun p hp => nomatch hp), fun θ ht _ => ht⟩
  | fat => intro _ _; exact ⟨(fun ρ e => nomatch e), (fun e => nomatch e)⟩
  | grow => intro _ _; exact ⟨(fun ρ e => nomatch e), (fun e => nomatch e)⟩
  | @same σ a b E o h hd hr ih =>
    intro hc hf
    have hab := hf (a, b) (by simp)
    obtain ⟨ih1, ih2⟩ := ih hc fun p hp => hf p (by simp [hp])
    have he := T.diff_none _ _ (hc.map hab.1) (hc.map hab.2) hd
    refine ⟨fun ρ e => ?_, fun e θ ht hu => ih2 e θ ht fun p hp => hu p (by simp [hp])⟩
    obtain ⟨g1, g2, g3, g4⟩ := ih1 ρ e
    refine ⟨g1, g2, fun p hp => ?_, fun θ ht hu => g4 θ ht fun p hp => hu p (by simp [hp])⟩
    rcases List.mem_cons.1 hp with rfl | hp
    · simp only
      rw [← g2.map a, ← g2.map b, he]
    · exact g3 p hp
  | @clash σ a b E x y h hd hc' =>
    intro hc hf
    have hab := hf (a, b) (by simp)
    obtain ⟨h1, h2, h3, h4, h5, h6, h7, h8⟩ := differ_step hc hab.1 hab.2 hd
    refine ⟨(fun ρ e => nomatch e), fun _ θ ht hu => ?_⟩
    have he := h1 θ ht (hu (a, b) (by simp))
    by_cases hk : (orient x y).1.k = 1
    · rcases hc' with h9 | h9
      · exact h9 hk
      · have hv := var_of_k h2 hk
        rw [hv, T.map_var] at he
        exact no_occ h3 h9 (fun e => h6 (hv.trans e.symm)) he.symm
    · exact h7 hk θ he
  | @step σ a b E x y o h hd hc' hf' hr ih =>
    intro hc hf
    have hab := hf (a, b) (by simp)
    obtain ⟨h1, h2, _⟩ := differ_canon hc hab.1 hab.2 hd hc'
    obtain ⟨ih1, ih2⟩ := ih h1 hf
    refine ⟨fun ρ e => ?_, fun e θ ht hu => ih2 e θ (h2 θ ht (hu (a, b) (by simp))) hu⟩
    obtain ⟨g1, g2, g3, g4⟩ := ih1 ρ e
    exact ⟨g1, g2.trans (Through.back hc), g3, fun θ ht hu => g4 θ (h2 θ ht (hu (a, b) (by simp))) hu⟩
end Go.Proofs.Ythncdmijledpnaa

namespace Go.Proofs.Ythncdmijledpnaa
open Go.RowKit Go.Lib

theorem kp_in {t : Tm} {S C : Nat → Prop} {w w' : World} (hin : t.In w) (hon : t.On S) (hS : ∀ b, S b → ¬ C b) (hk : Kp C w w') : t.In w' :=
  in_after' hin hon fun b h1 h2 _ => World.cell?_of_block (hk.block b h2 (hS b h1))

end Go.Proofs.Ythncdmijledpnaa
