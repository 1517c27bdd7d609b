/-
  The rely rule where a region makes blocks for terms and stores into them late.
  A drawn region in two halves: the second waits for all of the first.
  The second half of a drawn region some of whose operations turn more than new memory; what is known by which operations are over speaks of the frame too.
  A drawn region with a call that turns more than new memory, whose answer is put into a slice of one: what is known while its operations go by.
  A drawn region: what ties the values that its operations hand back to one another.
  A drawn region in which one operation uses up what two others have made and may turn it (an append): what stands while its operations go by.
-/
import Derived.Test.YtjdoflfdlhpbmaaDoorBP14
import Derived.Test.YtjdoflfdlhpbmaaDoorBP06
import Derived.Test.YtjdoflfdlhpbmaaDoorBP05
namespace Go.Proofs.YtjdoflfdlhpbmaaDoor
open Go.RowKit Go.Lib

/-- A block for a term that the region makes: the operation that makes it, its slot, the operation that stores, what it stores. -/
structure LE where
  i : Nat
  d : Nat
  s : Nat
  v : Tm
def BlkTm (w : World) (B : Nat) (t : Tm) : Prop := Blk4 w B (.int .i64 t.k) (.int .i64 t.n) (.string t.s) (.slice t.p t.l.length t.c)
def BlkZ (w : World) (B : Nat) : Prop := Blk4 w B (.int .i64 0) (.int .i64 0) (.string ⟨#[]⟩) (.slice none 0 0)
/-- What is known in the middle. -/
structure LateJ (B0 : Nat) (D : List LE) (n m : Nat) (listed : Array Bool) (a : Act) (w : World) : Prop where
  nl : listed.size = n
  nt : a.tmps.size = m
  blk : ∀ x ∈ D, listed.getD x.i false = true → ∃ B, a.tmps[x.d]?.getD undef = .pointer (some ⟨B, 0, none⟩) ∧ B0 ≤ B ∧ B < w.heap.size ∧ (listed.getD x.s false = false → BlkZ w B) ∧ (listed.getD x.s false = true → BlkTm w B x.v)
  apart : ∀ x ∈ D, ∀ y ∈ D, x.i ≠ y.i → listed.getD x.i false = true → listed.getD y.i false = true → ∀ B, a.tmps[x.d]?.getD undef = .pointer (some ⟨B, 0, none⟩) → a.tmps[y.d]?.getD undef ≠ .pointer (some ⟨B, 0, none⟩)
  late : ∀ x ∈ D, listed.getD x.s false = true → listed.getD x.i false = true

theorem put_size (a : Act) (d : Option Tmp) (v : Value) : (a.put d v).tmps.size = a.tmps.size := by
  unfold Act.put; split <;> simp
theorem LateJ.start (B0 : Nat) (D : List LE) (n m : Nat) (a : Act) (w : World) (ha : a.tmps.size = m) : LateJ B0 D n m (Array.replicate n false) a w := by
  have : ∀ i, (Array.replicate n false).getD i false = false := by
    intro i
    rw [Array.getD_eq_getD_getElem?, Array.getElem?_replicate]
    split <;> rfl
  exact ⟨by simp, ha, fun x _ h => absurd h (by rw [this]; decide), fun x _ y _ _ h => absurd h (by rw [this]; decide), fun x _ h => absurd h (by rw [this]; decide)⟩
theorem LateJ.other {B0 : Nat} {D : List LE} {n m : Nat} {i : Nat} {d : Option Tmp} (hi : (D.all fun x => x.i != i && x.s != i && d != some x.d) = true) (listed : Array Bool) (a : Act) (w w' : World) (v : Value) (h : LateJ B0 D n m listed a w) (hg : Gr w w') : LateJ B0 D n m (listed.setIfInBounds i true) (a.put d v) w' := by
  have h1 : ∀ x ∈ D, i ≠ x.i ∧ i ≠ x.s ∧ d ≠ some x.d := fun x hx => by
    have := List.all_eq_true.1 hi x hx
    simp only [Bool.and_eq_true, bne_iff_ne] at this
    exact ⟨fun e => this.1.1 e.symm, fun e => this.1.2 e.symm, this.2⟩
  refine ⟨by simpa using h.nl, by rw [put_size]; exact h.nt, fun x hx hl => ?_, fun x hx y hy hxy hl hl' B hB => ?_, fun x hx hl => ?_⟩
  · rw [getD_set_ne false (h1 x hx).1] at hl
    rw [getD_set_ne false (h1 x hx).2.1, put_ne (h1 x hx).2.2]
    obtain ⟨B, g1, g2, g3, g4, g5⟩ := h.blk x hx hl
    exact ⟨B, g1, g2, Nat.lt_of_lt_of_le g3 hg.size, fun e => Blk4.gr (g4 e) hg, fun e => Blk4.gr (g5 e) hg⟩
  · rw [getD_set_ne false (h1 x hx).1] at hl
    rw [getD_set_ne false (h1 y hy).1] at hl'
    rw [put_ne (h1 x hx).2.2] at hB
    rw [put_ne (h1 y hy).2.2]
    exact h.apart x hx y hy hxy hl hl' B hB
  · rw [getD_set_ne false (h1 x hx).2.1] at hl
    rw [getD_set_ne false (h1 x hx).1]
    exact h.late x hx hl
/-- The operation that makes a block. -/
theorem LateJ.alloc {B0 : Nat} {D : List LE} {n m : Nat} {i d : Nat} (hi : (D.all fun x => (x.i == i && x.d == d && x.s != i) || (x.i != i && x.s != i && x.d != d)) = true) {listed : Array Bool} {a : Act} {w w' : World} {B : Nat} (h : LateJ B0 D n m listed a w) (hn : listed.getD i false = false) (hg : Gr w w') (h0 : B0 ≤ B) (h1 : w.heap.size ≤ B) (h2 : B < w'.heap.size) (hz : BlkZ w' B) (hdm : d < m) (hin : i < n) :
    LateJ B0 D n m (listed.setIfInBounds i true) (a.put (some d) (.pointer (some ⟨B, 0, none⟩))) w' := by
  have hd : d < a.tmps.size := by rw [h.nt]; exact hdm
  have hil : i < listed.size := by rw [h.nl]; exact hin
  have hc : ∀ x ∈ D, (x.i = i ∧ x.d = d ∧ i ≠ x.s) ∨ (i ≠ x.i ∧ i ≠ x.s ∧ (some d : Option Tmp) ≠ some x.d) := fun x hx => by
    have := List.all_eq_true.1 hi x hx
    simp only [Bool.or_eq_true, Bool.and_eq_true, bne_iff_ne, beq_iff_eq] at this
    rcases this with ⟨⟨e1, e2⟩, e3⟩ | ⟨⟨e1, e2⟩, e3⟩
    · exact .inl ⟨e1, e2, fun e => e3 e.symm⟩
    · exact .inr ⟨fun e => e1 e.symm, fun e => e2 e.symm, fun e => e3 (Option.some.inj e).symm⟩
  have hp : (a.put (some d) (.pointer (some ⟨B, 0, none⟩))).tmps[d]?.getD undef = .pointer (some ⟨B, 0, none⟩) := by simp [Act.put, hd]
  have hu : ∀ B, (Value.pointer (some ⟨B, 0, none⟩)) ≠ undef := fun B e => by cases e
  have hold : ∀ x ∈ D, listed.getD x.i false = true → ∀ B', a.tmps[x.d]?.getD undef = .pointer (some ⟨B', 0, none⟩) → B' < w.heap.size := fun x hx hl B' hB' => by
    obtain ⟨B2, g1, _, g3, _⟩ := h.blk x hx hl
    rw [hB'] at g1
    cases g1
    exact g3
  refine ⟨by simpa using h.nl, by rw [put_size]; exact h.nt, fun x hx hl => ?_, fun x hx y hy hxy hl hl' B' hB hB' => ?_, fun x hx hl => ?_⟩
  · rcases hc x hx with ⟨rfl, rfl, e3⟩ | ⟨e1, e2, e3⟩
    · refine ⟨B, hp, h0, h2, fun _ => hz, fun e => ?_⟩
      rw [getD_set_ne false e3] at e
      have := h.late x hx e
      rw [hn] at this
      cases this
    · rw [getD_set_ne false e1] at hl
      rw [getD_set_ne false e2, put_ne e3]
      obtain ⟨B', g1, g2, g3, g4, g5⟩ := h.blk x hx hl
      exact ⟨B', g1, g2, Nat.lt_of_lt_of_le g3 hg.size, fun e => Blk4.gr (g4 e) hg, fun e => Blk4.gr (g5 e) hg⟩
  · rcases hc x hx with ⟨rfl, rfl, e3⟩ | ⟨e1, e2, e3⟩
    · rcases hc y hy with ⟨e4, _, _⟩ | ⟨e4, e5, e6⟩
      · exact hxy e4.symm
      · have := put_eq hB (hu _)
        cases this
        rw [getD_set_ne false e4] at hl'
        rw [put_ne e6] at hB'
        have := hold y hy hl' B hB'
        omega
    · rw [getD_set_ne false e1] at hl
      rw [put_ne e3] at hB
      rcases hc y hy with ⟨rfl, rfl, e4⟩ | ⟨e4, e5, e6⟩
      · have := put_eq hB' (hu _)
        cases this
        have := hold x hx hl B hB
        omega
      · rw [getD_set_ne false e4] at hl'
        rw [put_ne e6] at hB'
        exact h.apart x hx y hy hxy hl hl' B' hB hB'
  · rcases hc x hx with ⟨rfl, rfl, e3⟩ | ⟨e1, e2, e3⟩
    · simp [hil]
    · rw [getD_set_ne false e2] at hl
      rw [getD_set_ne false e1]
      exact h.late x hx hl
/-- The operation that stores. -/
theorem LateJ.store {B0 : Nat} {D : List LE} {n m : Nat} {i : Nat} {x0 : LE} (hx0 : x0 ∈ D) (hs0 : x0.s = i) (hi : (D.all fun x => x.i != i && (x.s != i || x.i == x0.i)) = true) (hv : ∀ x ∈ D, x.i = x0.i → x = x0) {listed : Array Bool} {a : Act} {w w' : World} {B : Nat} (h : LateJ B0 D n m listed a w) (hl0 : listed.getD x0.i false = true)
    (hB : a.tmps[x0.d]?.getD undef = .pointer (some ⟨B, 0, none⟩)) (hk : Kp (· = B) w w') (hz : BlkTm w' B x0.v) (v : Value) (hin : i < n) :
    LateJ B0 D n m (listed.setIfInBounds i true) (a.put none v) w' := by
  have hc : ∀ x ∈ D, i ≠ x.i ∧ (i ≠ x.s ∨ x = x0) := fun x hx => by
    have := List.all_eq_true.1 hi x hx
    simp only [Bool.and_eq_true, Bool.or_eq_true, bne_iff_ne, beq_iff_eq] at this
    exact ⟨fun e => this.1 e.symm, this.2.imp (fun h e => h e.symm) fun e => hv x hx e⟩
  have hil : i < listed.size := by rw [h.nl]; exact hin
  have hput : (a.put none v) = a := rfl
  rw [hput]
  refine ⟨by simpa using h.nl, h.nt, fun x hx hl => ?_, fun x hx y hy hxy hl hl' B' hB hB' => ?_, fun x hx hl => ?_⟩
  · rw [getD_set_ne false (hc x hx).1] at hl
    obtain ⟨B', g1, g2, g3, g4, g5⟩ := h.blk x hx hl
    by_cases hxx : x = x0
    · subst hxx
      rw [hB] at g1
      cases g1
      refine ⟨B, hB, g2, Nat.lt_of_lt_of_le g3 hk.size, fun e => ?_, fun _ => hz⟩
      rw [hs0] at e
      simp [hil] at e
    · have hne : B' ≠ B := fun e => by
        subst e
        exact h.apart x hx x0 hx0 (fun e => hxx (hv x hx e)) hl hl0 B' g1 hB
      rcases (hc x hx).2 with e2 | e2
      · rw [getD_set_ne false e2]
        exact ⟨B', g1, g2, Nat.lt_of_lt_of_le g3 hk.size, fun e => Blk4.kp (g4 e) hk hne, fun e => Blk4.kp (g5 e) hk hne⟩
      · exact absurd e2 hxx
  · rw [getD_set_ne false (hc x hx).1] at hl
    rw [getD_set_ne false (hc y hy).1] at hl'
    exact h.apart x hx y hy hxy hl hl' B' hB hB'
  · rw [getD_set_ne false (hc x hx).1]
    by_cases hxx : x = x0
    · subst hxx; exact hl0
    · rcases (hc x hx).2 with e2 | e2
      · rw [getD_set_ne false e2] at hl
        exact h.late x hx hl
      · exact absurd e2 hxx
theorem LateJ.here {B0 : Nat} {D : List LE} {n m : Nat} {listed : Array Bool} {a : Act} {w : World} (h : LateJ B0 D n m listed a w) {x : LE} (hx : x ∈ D) (hl : listed.getD x.i false = true) (hn : listed.getD x.s false = false) {B : Nat} (hB : a.tmps[x.d]?.getD undef = .pointer (some ⟨B, 0, none⟩)) : BlkZ w B ∧ B0 ≤ B := by
  obtain ⟨B', g1, g2, _, g4, _⟩ := h.blk x hx hl
  rw [hB] at g1
  cases g1
  exact ⟨g4 hn, g2⟩
/-- What stands at the end. -/
theorem LateJ.done {B0 : Nat} {D : List LE} {n m : Nat} {a : Act} {w : World} (h : LateJ B0 D n m (Array.replicate n true) a w) {x : LE} (hx : x ∈ D) (hn : x.i < n) (hs : x.s < n) {B : Nat} (hB : a.tmps[x.d]?.getD undef = .pointer (some ⟨B, 0, none⟩)) : BlkTm w B x.v ∧ B0 ≤ B := by
  have hl : ∀ i, i < n → (Array.replicate n true).getD i false = true := fun i hi => by
    rw [Array.getD_eq_getD_getElem?, Array.getElem?_replicate, if_pos hi]; rfl
  obtain ⟨B', g1, g2, _, _, g5⟩ := h.blk x hx (hl _ hn)
  rw [hB] at g1
  cases g1
  exact ⟨g5 (hl _ hs), g2⟩
theorem LateJ.two {B0 : Nat} {D : List LE} {n m : Nat} {a : Act} {w : World} (h : LateJ B0 D n m (Array.replicate n true) a w) {x y : LE} (hx : x ∈ D) (hy : y ∈ D) (hxy : x.i ≠ y.i) (hn : x.i < n) (hn' : y.i < n) {B B' : Nat} (h1 : a.tmps[x.d]?.getD undef = .pointer (some ⟨B, 0, none⟩)) (h2 : a.tmps[y.d]?.getD undef = .pointer (some ⟨B', 0, none⟩)) : B ≠ B' := by
  have hl : ∀ i, i < n → (Array.replicate n true).getD i false = true := fun i hi => by
    rw [Array.getD_eq_getD_getElem?, Array.getElem?_replicate, if_pos hi]; rfl
  rintro rfl
  exact h.apart x hx y hy hxy (hl _ hn) (hl _ hn') B h1 h2
/-! ### Operations that a guard leaves out -/
theorem predsImp_true {ops : List Oper} {Vs : List VP} {a : Act} {w : World} {G : Prop} (h : G) : ∀ es : List Edge, predsImp ops Vs a w G es
  | [] => h
  | e :: es => by
    rw [predsImp]
    split
    · cases dstAt ops e.on with
      | none => exact predsImp_true h es
      | some d => exact fun v _ _ => predsImp_true h es
    · exact predsImp_true h es
theorem predsImp_of {ops : List Oper} {Vs : List VP} {a : Act} {w : World} {G : Prop} {j : Nat} {d : Tmp} (hd : dstAt ops j = some d) (hG : (Vs.getD j (fun _ _ => True)) (a.tmps[d]?.getD undef) w → G) :
    ∀ es : List Edge, (∃ e ∈ es, e.on = j ∧ Region.binds .any e = true) → predsImp ops Vs a w G es
  | [], h => nomatch h
  | e :: es, h => by
    rw [predsImp]
    by_cases hb : Region.binds .any e = true
    · rw [if_pos hb]
      by_cases he : e.on = j
      · rw [he, hd]
        intro v hv hV
        subst hv
        exact predsImp_true (hG hV) es
      · have h2 : ∃ e ∈ es, e.on = j ∧ Region.binds .any e = true := by
          obtain ⟨e', h1, h2, h3⟩ := h
          rcases List.mem_cons.1 h1 with rfl | h1
          · exact absurd h2 he
          · exact ⟨e', h1, h2, h3⟩
        cases dstAt ops e.on with
        | none => exact predsImp_of hd hG es h2
        | some d' => exact fun v _ _ => predsImp_of hd hG es h2
    · rw [if_neg hb]
      refine predsImp_of hd hG es ?_
      obtain ⟨e', h1, h2, h3⟩ := h
      rcases List.mem_cons.1 h1 with rfl | h1
      · exact absurd h3 hb
      · exact ⟨e', h1, h2, h3⟩
/-- An operation whose guard says no. -/
theorem stepOK_skip {P : Program} {ops : List Oper} {Vs : List VP} {a₀ : Act} {w₀ : World} {Q : Exit → Act → World → Prop} {o : Oper} (j : Nat) (want : Bool) (d : Tmp) (hgd : o.guard = some (j, want)) (hd : dstAt ops j = some d)
    (hV : Vs.getD j (fun _ _ => True) = fx (.bool (!want))) (he : ∃ e ∈ o.after.toList, e.on = j ∧ Region.binds .any e = true) : StepOK P ops Vs a₀ w₀ Q o (fx undef) := by
  intro a w _ _
  refine predsImp_of hd (fun h => ?_) _ he
  rw [hV] at h
  have h1 : a.tmps[d]?.getD undef = .bool (!want) := h
  rw [hgd]
  have h2 : a.eval (.tmp d) = .bool (!want) := by simpa [Act.eval] using h1
  have hw : wantedE ops o a = false := by
    unfold wantedE
    rw [hgd]
    simp only [hd, h2]
    cases want <;> rfl
  simp only [hw]
  exact rfl

/-! ### Stores into blocks that are there already -/
/-- A block of the frame's own: the operation that stores into it, the block, what is stored. -/
structure FE where
  s : Nat
  B : Nat
  v : Tm
structure FixJ (D : List FE) (n : Nat) (listed : Array Bool) (a : Act) (w : World) : Prop where
  nl : listed.size = n
  blk : ∀ x ∈ D, (∃ u0 u1 u2 u3, Blk4 w x.B u0 u1 u2 u3) ∧ (listed.getD x.s false = true → BlkTm w x.B x.v)
theorem FixJ.start {D : List FE} {n : Nat} {a : Act} {w : World} (h : ∀ x ∈ D, ∃ u0 u1 u2 u3, Blk4 w x.B u0 u1 u2 u3) : FixJ D n (Array.replicate n false) a w := by
  have : ∀ i, (Array.replicate n false).getD i false = false := by
    intro i
    rw [Array.getD_eq_getD_getElem?, Array.getElem?_replicate]
    split <;> rfl
  exact ⟨by simp, fun x hx => ⟨h x hx, fun h => absurd h (by rw [this]; decide)⟩⟩
theorem FixJ.other {D : List FE} {n i : Nat} {d : Option Tmp} (hi : (D.all fun x => x.s != i) = true) (listed : Array Bool) (a : Act) (w w' : World) (v : Value) (h : FixJ D n listed a w) (hg : Gr w w') : FixJ D n (listed.setIfInBounds i true) (a.put d v) w' := by
  refine ⟨by simpa using h.nl, fun x hx => ?_⟩
  have h1 : i ≠ x.s := by
    have := List.all_eq_true.1 hi x hx
    simp only [bne_iff_ne] at this
    exact fun e => this e.symm
  rw [getD_set_ne false h1]
  obtain ⟨⟨u0, u1, u2, u3, g1⟩, g2⟩ := h.blk x hx
  exact ⟨⟨u0, u1, u2, u3, Blk4.gr g1 hg⟩, fun e => Blk4.gr (g2 e) hg⟩
theorem FixJ.store {D : List FE} {n i : Nat} {x0 : FE} (hx0 : x0 ∈ D) (hs0 : x0.s = i) (hv : ∀ x ∈ D, x = x0 ∨ (x.s ≠ x0.s ∧ x.B ≠ x0.B)) {listed : Array Bool} {a : Act} {w w' : World} (h : FixJ D n listed a w) (hk : Kp (· = x0.B) w w') (hz : BlkTm w' x0.B x0.v) (v : Value) : FixJ D n (listed.setIfInBounds i true) (a.put none v) w' := by
  refine ⟨by simpa using h.nl, fun x hx => ?_⟩
  rcases hv x hx with rfl | ⟨h1, h2⟩
  · exact ⟨⟨_, _, _, _, hz⟩, fun _ => hz⟩
  · rw [getD_set_ne false (by rw [← hs0]; exact fun e => h1 e.symm)]
    obtain ⟨⟨u0, u1, u2, u3, g1⟩, g2⟩ := h.blk x hx
    exact ⟨⟨u0, u1, u2, u3, Blk4.kp g1 hk h2⟩, fun e => Blk4.kp (g2 e) hk h2⟩
theorem FixJ.done {D : List FE} {n : Nat} {a : Act} {w : World} (h : FixJ D n (Array.replicate n true) a w) {x : FE} (hx : x ∈ D) (hs : x.s < n) : BlkTm w x.B x.v :=
  (h.blk x hx).2 (by rw [Array.getD_eq_getD_getElem?, Array.getElem?_replicate, if_pos hs]; rfl)

theorem getD_tf {l : Array Bool} {i : Nat} (h : l.getD i true = false) : l.getD i false = false := by
  rw [Array.getD_eq_getD_getElem?] at h ⊢
  cases hx : l[i]? with
  | none => rfl
  | some b => rw [hx] at h; exact h
/-- A pointer to a new block. -/
def ptrV : VP := fun v _ => ∃ B, v = .pointer (some ⟨B, 0, none⟩)
theorem ptrV_stable {R : World → World → Prop} : ∀ v w w', ptrV v w → R w w' → ptrV v w' := fun _ _ _ h _ => h
/-- Stores of a term into a block. -/
theorem Blk4.sets {w : World} {b : Nat} {u0 u1 u2 u3 : Value} (h : Blk4 w b u0 u1 u2 u3) (v0 v1 v2 v3 : Value) : Blk4 ((((w.setCell ⟨b, 0, none⟩ v0).setCell ⟨b, 1, none⟩ v1).setCell ⟨b, 2, none⟩ v2).setCell ⟨b, 3, none⟩ v3) b v0 v1 v2 v3 := by
  have h1 : BlkT w b 34 #[u0, u1, u2, u3] := h
  exact (((h1.set 0 v0).set 1 v1).set 2 v2).set 3 v3
theorem Kp.sets {C : Nat → Prop} {w : World} {b : Nat} (hb : C b) (v0 v1 v2 v3 : Value) : Kp C w ((((w.setCell ⟨b, 0, none⟩ v0).setCell ⟨b, 1, none⟩ v1).setCell ⟨b, 2, none⟩ v2).setCell ⟨b, 3, none⟩ v3) :=
  (((Kp.set hb).trans (Kp.set hb)).trans (Kp.set hb)).trans (Kp.set hb)
end Go.Proofs.YtjdoflfdlhpbmaaDoor

namespace Go.Proofs.YtjdoflfdlhpbmaaDoor
open Go.RowKit

/-- What is asked of the text: m operations first, then those that wait for all of these. -/
def splitB (ops : List Oper) (m n : Nat) : Bool :=
  relyB (ops.take m) n &&
  (ops.zipIdx.all fun (o, i) => o.after.all fun e => !Region.binds .any e || decide (e.on < i)) &&
  (ops.zipIdx.all fun (o, i) => match o.guard with | none => true | some (j, _) => decide (j < i)) &&
  (List.range ops.length).all fun j => decide (j < m) || (List.range m).all fun i => (anc ops (j + 1) j).contains i
section
variable {P : Program} {ops : List Oper} {Vs : List VP} {a₀ : Act} {w₀ : World} {Q : Exit → Act → World → Prop} {m : Nat}
end
end Go.Proofs.YtjdoflfdlhpbmaaDoor

namespace Go.Proofs.YtjdoflfdlhpbmaaDoor
open Go.RowKit

section
variable {P : Program} {ops : List Oper} {Vs : List VP} {a₀ : Act} {w₀ : World} {Q : Exit → Act → World → Prop} {R : World → World → Prop} {J : Array Bool → Act → World → Prop} {m : Nat}
end

/-- Operation i makes a value at slot d of which X is known till operation j uses it up and makes one at slot d' of which Y is known. -/
structure UseJ (n i j d d' : Nat) (X Y : VP) (listed : Array Bool) (a : Act) (w : World) : Prop where
  sz : a.tmps.size = n
  one : listed.getD i false = true → listed.getD j false = false → X (a.tmps[d]?.getD undef) w
  two : listed.getD j false = true → Y (a.tmps[d']?.getD undef) w
theorem put_at {a : Act} {d : Nat} {v : Value} (h : d < a.tmps.size) : (a.put (some d) v).tmps[d]?.getD undef = v := by simp [Act.put, h]
theorem UseJ.start {n i j d d' m : Nat} {X Y : VP} {a : Act} {w : World} (hn : a.tmps.size = n) (hi : m ≤ i) (hj : m ≤ j) (listed : Array Bool) (h : ∀ k, m ≤ k → listed.getD k false = false) : UseJ n i j d d' X Y listed a w :=
  ⟨hn, (fun h1 => by rw [h i hi] at h1; cases h1), (fun h1 => by rw [h j hj] at h1; cases h1)⟩
theorem UseJ.other {n i j d d' k : Nat} {X Y : VP} (hX : ∀ v w w', X v w → Gr w w' → X v w') (hY : ∀ v w w', Y v w → Gr w w' → Y v w') {o : Option Tmp} (hi : k ≠ i) (hj : k ≠ j) (hd : o ≠ some d) (hd' : o ≠ some d') (listed : Array Bool) (a : Act) (w w' : World) (v : Value) (h : UseJ n i j d d' X Y listed a w) (hg : Gr w w') :
    UseJ n i j d d' X Y (listed.setIfInBounds k true) (a.put o v) w' where
  sz := by rw [put_size]; exact h.sz
  one := fun h1 h2 => by
    rw [getD_set_ne false hi] at h1
    rw [getD_set_ne false hj] at h2
    rw [put_ne hd]
    exact hX _ _ _ (h.one h1 h2) hg
  two := fun h1 => by
    rw [getD_set_ne false hj] at h1
    rw [put_ne hd']
    exact hY _ _ _ (h.two h1) hg
theorem UseJ.first {n i j d d' : Nat} {X Y : VP} (hY : ∀ v w w', Y v w → Gr w w' → Y v w') {listed : Array Bool} {a : Act} {w w' : World} {v : Value} (h : UseJ n i j d d' X Y listed a w) (hij : i ≠ j) (hdd : d ≠ d') (hd : d < n) (hg : Gr w w') (hv : X v w') : UseJ n i j d d' X Y (listed.setIfInBounds i true) (a.put (some d) v) w' where
  sz := by rw [put_size]; exact h.sz
  one := fun _ _ => by rw [put_at (by rw [h.sz]; exact hd)]; exact hv
  two := fun h1 => by
    rw [getD_set_ne false hij] at h1
    rw [put_ne (fun e => hdd (Option.some.inj e))]
    exact hY _ _ _ (h.two h1) hg
theorem UseJ.second {n i j d d' : Nat} {X Y : VP} {listed : Array Bool} {a : Act} {w w' : World} {v : Value} (h : UseJ n i j d d' X Y listed a w) (hl : listed.getD j true = false) (hd : d' < n) (hv : Y v w') : UseJ n i j d d' X Y (listed.setIfInBounds j true) (a.put (some d') v) w' where
  sz := by rw [put_size]; exact h.sz
  one := fun _ h2 => by
    have hi : j < listed.size := by
      rcases Nat.lt_or_ge j listed.size with h' | h'
      · exact h'
      · simp [Array.getElem?_eq_none h'] at hl
    simp [hi] at h2
  two := fun _ => by rw [put_at (by rw [h.sz]; exact hd)]; exact hv
end Go.Proofs.YtjdoflfdlhpbmaaDoor

namespace Go.Proofs.YtjdoflfdlhpbmaaDoor
open Go.RowKit

/-- A new slice of one term: the value v. -/
def oneV (B0 : Nat) (v u : Value) (w : World) : Prop := ∃ B v0 v1 v2 v3, v = .agg #[v0, v1, v2, v3] ∧ u = .slice (some ⟨B, 0, none⟩) 1 1 ∧ B0 ≤ B ∧ Blk4 w B v0 v1 v2 v3
/-- Operation i calls and hands back a value at slot d of which X is known; operation j makes a slice of it at slot e; ahead of i nothing turns. -/
structure CallJ (w0 : World) (n i j d e : Nat) (X : VP) (listed : Array Bool) (a : Act) (w : World) : Prop where
  sz : a.tmps.size = n
  no : listed.getD i false = false → Gr w0 w ∧ listed.getD j false = false
  grown : w0.heap.size ≤ w.heap.size
  yes : listed.getD i false = true → X (a.tmps[d]?.getD undef) w
  one : listed.getD j false = true → oneV w0.heap.size (a.tmps[d]?.getD undef) (a.tmps[e]?.getD undef) w
theorem CallJ.start {w0 : World} {n i j d e : Nat} {X : VP} {a : Act} {w : World} (m : Nat) (g : Gr w0 w) (hn : a.tmps.size = n) : CallJ w0 n i j d e X (Array.replicate m false) a w where
  sz := hn
  no := fun _ => ⟨g, by rw [Array.getD_eq_getD_getElem?, Array.getElem?_replicate]; split <;> rfl⟩
  grown := g.size
  yes := fun h => by rw [Array.getD_eq_getD_getElem?, Array.getElem?_replicate] at h; split at h <;> cases h
  one := fun h => by rw [Array.getD_eq_getD_getElem?, Array.getElem?_replicate] at h; split at h <;> cases h
theorem CallJ.other {w0 : World} {n i j d e k : Nat} {X : VP} (hX : ∀ v w w', X v w → Gr w w' → X v w') {o : Option Tmp} (hk : (k != i && k != j && (o != some d && o != some e)) = true) (listed : Array Bool) (a : Act) (w w' : World) (v : Value) (h : CallJ w0 n i j d e X listed a w) (hg : Gr w w') :
    CallJ w0 n i j d e X (listed.setIfInBounds k true) (a.put o v) w' := by
  simp only [Bool.and_eq_true, bne_iff_ne, ne_eq] at hk
  obtain ⟨⟨hi, hj⟩, hd, he⟩ := hk
  refine ⟨by rw [put_size]; exact h.sz, fun h1 => ?_, Nat.le_trans h.grown hg.size, fun h1 => ?_, fun h1 => ?_⟩
  · rw [getD_set_ne false hi] at h1
    rw [getD_set_ne false hj]
    exact ⟨(h.no h1).1.trans hg, (h.no h1).2⟩
  · rw [getD_set_ne false hi] at h1
    rw [put_ne hd]
    exact hX _ _ _ (h.yes h1) hg
  · rw [getD_set_ne false hj] at h1
    rw [put_ne hd, put_ne he]
    obtain ⟨B, v0, v1, v2, v3, e1, e2, e3, e4⟩ := h.one h1
    exact ⟨B, v0, v1, v2, v3, e1, e2, e3, e4.gr hg⟩
theorem getD_set_eq {l : Array Bool} {i : Nat} (h : l.getD i true = false) : (l.setIfInBounds i true).getD i false = true := by
  have hi : i < l.size := by
    rcases Nat.lt_or_ge i l.size with h' | h'
    · exact h'
    · simp [Array.getElem?_eq_none h'] at h
  simp [hi]
/-- The call is over. -/
theorem CallJ.call {w0 : World} {n i j d e : Nat} {X : VP} {listed : Array Bool} {a : Act} {w w' : World} {v : Value} (h : CallJ w0 n i j d e X listed a w) (hl : listed.getD i true = false) (hij : i ≠ j) (hd : d < n) (hs : w.heap.size ≤ w'.heap.size) (hv : X v w') :
    CallJ w0 n i j d e X (listed.setIfInBounds i true) (a.put (some d) v) w' where
  sz := by rw [put_size]; exact h.sz
  no := fun h1 => by rw [getD_set_eq hl] at h1; cases h1
  grown := Nat.le_trans h.grown hs
  yes := fun _ => by rw [put_at (by rw [h.sz]; exact hd)]; exact hv
  one := fun h1 => by
    rw [getD_set_ne false hij] at h1
    rw [(h.no (getD_tf hl)).2] at h1
    cases h1
/-- The slice is made. -/
theorem CallJ.made {w0 : World} {n i j d e : Nat} {X : VP} (hX : ∀ v w w', X v w → Gr w w' → X v w') {listed : Array Bool} {a : Act} {w w' : World} {u : Value} (h : CallJ w0 n i j d e X listed a w) (hi : listed.getD i false = true) (_ : listed.getD j true = false) (hij : i ≠ j) (hde : d ≠ e) (he : e < n) (hg : Gr w w')
    (hu : oneV w0.heap.size (a.tmps[d]?.getD undef) u w') : CallJ w0 n i j d e X (listed.setIfInBounds j true) (a.put (some e) u) w' where
  sz := by rw [put_size]; exact h.sz
  no := fun h1 => by
    rw [getD_set_ne false (Ne.symm hij)] at h1
    rw [hi] at h1
    cases h1
  grown := Nat.le_trans h.grown hg.size
  yes := fun _ => by
    rw [put_ne (fun e => hde (Option.some.inj e).symm)]
    exact hX _ _ _ (h.yes hi) hg
  one := fun _ => by
    rw [put_ne (fun e => hde (Option.some.inj e).symm), put_at (by rw [h.sz]; exact he)]
    exact hu
theorem CallJ.end_ {w0 : World} {n i j d e m : Nat} {X : VP} {a : Act} {w : World} (h : CallJ w0 n i j d e X (Array.replicate m true) a w) (hi : i < m) (hj : j < m) : X (a.tmps[d]?.getD undef) w ∧ oneV w0.heap.size (a.tmps[d]?.getD undef) (a.tmps[e]?.getD undef) w :=
  ⟨h.yes (by simp [hi]), h.one (by simp [hj])⟩
/-- Operation i turns something and hands back a value at slot d of which X is known, operation k turns something behind it; operation q goes ahead of i; ahead of i nothing turns. -/
structure PushJ (w0 : World) (n q i k d : Nat) (X : VP) (Y : World → Prop) (listed : Array Bool) (a : Act) (w : World) : Prop where
  sz : a.tmps.size = n
  ord : listed.getD i false = true → listed.getD q false = true
  no : listed.getD i false = false → Gr w0 w ∧ listed.getD k false = false
  grown : w0.heap.size ≤ w.heap.size
  one : listed.getD i false = true → listed.getD k false = false → X (a.tmps[d]?.getD undef) w
  two : listed.getD k false = true → Y w
theorem PushJ.start {w0 : World} {n q i k d : Nat} {X : VP} {Y : World → Prop} {a : Act} {w : World} (m : Nat) (g : Gr w0 w) (hn : a.tmps.size = n) : PushJ w0 n q i k d X Y (Array.replicate m false) a w where
  sz := hn
  ord := fun h => by rw [Array.getD_eq_getD_getElem?, Array.getElem?_replicate] at h; split at h <;> cases h
  no := fun _ => ⟨g, by rw [Array.getD_eq_getD_getElem?, Array.getElem?_replicate]; split <;> rfl⟩
  grown := g.size
  one := fun h => by rw [Array.getD_eq_getD_getElem?, Array.getElem?_replicate] at h; split at h <;> cases h
  two := fun h => by rw [Array.getD_eq_getD_getElem?, Array.getElem?_replicate] at h; split at h <;> cases h
theorem getD_mono {l : Array Bool} {i j : Nat} (h : l.getD i false = true) : (l.setIfInBounds j true).getD i false = true := by
  by_cases e : j = i
  · subst e
    have hi : j < l.size := by
      rcases Nat.lt_or_ge j l.size with h' | h'
      · exact h'
      · simp [Array.getElem?_eq_none h'] at h
    simp [hi]
  · rw [getD_set_ne false e]; exact h
theorem PushJ.other {w0 : World} {n q i k d j : Nat} {X : VP} {Y : World → Prop} (hX : ∀ v w w', X v w → Gr w w' → X v w') (hY : ∀ w w', Y w → Gr w w' → Y w') {o : Option Tmp} (hk : (j != i && j != k && o != some d) = true) (listed : Array Bool) (a : Act) (w w' : World) (v : Value) (h : PushJ w0 n q i k d X Y listed a w) (hg : Gr w w') :
    PushJ w0 n q i k d X Y (listed.setIfInBounds j true) (a.put o v) w' := by
  simp only [Bool.and_eq_true, bne_iff_ne, ne_eq] at hk
  obtain ⟨⟨hi, hkk⟩, hd⟩ := hk
  refine ⟨by rw [put_size]; exact h.sz, fun h1 => ?_, fun h1 => ?_, Nat.le_trans h.grown hg.size, fun h1 h2 => ?_, fun h1 => ?_⟩
  · rw [getD_set_ne false hi] at h1
    exact getD_mono (h.ord h1)
  · rw [getD_set_ne false hi] at h1
    rw [getD_set_ne false hkk]
    exact ⟨(h.no h1).1.trans hg, (h.no h1).2⟩
  · rw [getD_set_ne false hi] at h1
    rw [getD_set_ne false hkk] at h2
    rw [put_ne hd]
    exact hX _ _ _ (h.one h1 h2) hg
  · rw [getD_set_ne false hkk] at h1
    exact hY _ _ (h.two h1) hg
theorem PushJ.first {w0 : World} {n q i k d : Nat} {X : VP} {Y : World → Prop} {listed : Array Bool} {a : Act} {w w' : World} {v : Value} (h : PushJ w0 n q i k d X Y listed a w) (hl : listed.getD i true = false) (hq : listed.getD q false = true) (hik : i ≠ k) (hd : d < n) (hs : w.heap.size ≤ w'.heap.size) (hv : X v w') :
    PushJ w0 n q i k d X Y (listed.setIfInBounds i true) (a.put (some d) v) w' where
  sz := by rw [put_size]; exact h.sz
  ord := fun _ => getD_mono hq
  no := fun h1 => by rw [getD_set_eq hl] at h1; cases h1
  grown := Nat.le_trans h.grown hs
  one := fun _ _ => by rw [put_at (by rw [h.sz]; exact hd)]; exact hv
  two := fun h1 => by
    rw [getD_set_ne false hik, (h.no (getD_tf hl)).2] at h1
    cases h1
theorem PushJ.second {w0 : World} {n q i k d : Nat} {X : VP} {Y : World → Prop} {listed : Array Bool} {a : Act} {w w' : World} {v : Value} {o : Option Tmp} (h : PushJ w0 n q i k d X Y listed a w) (hi : listed.getD i false = true) (hl : listed.getD k true = false) (hik : i ≠ k) (hs : w.heap.size ≤ w'.heap.size) (hv : Y w') :
    PushJ w0 n q i k d X Y (listed.setIfInBounds k true) (a.put o v) w' where
  sz := by rw [put_size]; exact h.sz
  ord := fun _ => getD_mono (h.ord hi)
  no := fun h1 => by rw [getD_set_ne false (Ne.symm hik), hi] at h1; cases h1
  grown := Nat.le_trans h.grown hs
  one := fun _ h2 => by rw [getD_set_eq hl] at h2; cases h2
  two := fun _ => hv
theorem PushJ.end_ {w0 : World} {n q i k d m : Nat} {X : VP} {Y : World → Prop} {a : Act} {w : World} (h : PushJ w0 n q i k d X Y (Array.replicate m true) a w) (hk : k < m) : Y w := h.two (by simp [hk])
end Go.Proofs.YtjdoflfdlhpbmaaDoor

namespace Go.Proofs.YtjdoflfdlhpbmaaDoor
open Go.RowKit

/-- Operation i hands back at slot d; operation j, which waits for it, at slot e; rel ties the two. -/
structure Lk where
  i : Nat
  d : Nat
  j : Nat
  e : Nat
abbrev LkRel := Value → Value → World → Prop
structure LinkJ (n : Nat) (Ls : List (Lk × LkRel)) (listed : Array Bool) (a : Act) (w : World) : Prop where
  sz : a.tmps.size = n
  lk : ∀ L ∈ Ls, listed.getD L.1.j false = true → listed.getD L.1.i false = true ∧ L.2 (a.tmps[L.1.d]?.getD undef) (a.tmps[L.1.e]?.getD undef) w
theorem LinkJ.start {n : Nat} {Ls : List (Lk × LkRel)} (m : Nat) (a : Act) (w : World) (hn : a.tmps.size = n) : LinkJ n Ls (Array.replicate m false) a w where
  sz := hn
  lk := fun L _ h => by rw [Array.getD_eq_getD_getElem?, Array.getElem?_replicate] at h; split at h <;> cases h
theorem LinkJ.step {R : World → World → Prop} {n k : Nat} {Ls : List (Lk × LkRel)} {o : Option Tmp} (hst : ∀ L ∈ Ls, ∀ u v w w', L.2 u v w → R w w' → L.2 u v w') {listed : Array Bool} {a : Act} {w w' : World} {v : Value} (h : LinkJ n Ls listed a w) (hl : listed.getD k true = false) (hg : R w w')
    (hc : ∀ L ∈ Ls, (L.1.j ≠ k ∧ (L.1.i = k ∨ o ≠ some L.1.d) ∧ o ≠ some L.1.e) ∨ (L.1.j = k ∧ L.1.i ≠ k ∧ o = some L.1.e ∧ L.1.d ≠ L.1.e ∧ L.1.e < n ∧ listed.getD L.1.i false = true ∧ L.2 (a.tmps[L.1.d]?.getD undef) v w')) :
    LinkJ n Ls (listed.setIfInBounds k true) (a.put o v) w' where
  sz := by rw [put_size]; exact h.sz
  lk := fun L hL h1 => by
    rcases hc L hL with ⟨h2, h3, h4⟩ | ⟨h2, h3, h4, h5, h6, h7, h8⟩
    · rw [getD_set_ne false (Ne.symm h2)] at h1
      obtain ⟨h5, h6⟩ := h.lk L hL h1
      have hik : k ≠ L.1.i := fun e => by rw [← e, getD_tf hl] at h5; cases h5
      rw [getD_set_ne false hik, put_ne (h3.resolve_left (Ne.symm hik)), put_ne h4]
      exact ⟨h5, hst L hL _ _ _ _ h6 hg⟩
    · rw [getD_set_ne false (Ne.symm h3), h4, put_ne (fun e => h5 (Option.some.inj e).symm), put_at (by rw [h.sz]; exact h6)]
      exact ⟨h7, h8⟩
/-- An operation at which no link ends. -/
def lkOther (k : Nat) (o : Option Tmp) (Ls : List (Lk × LkRel)) : Bool := (Ls.map Prod.fst).all fun L => L.j != k && (L.i == k || o != some L.d) && o != some L.e
theorem LinkJ.other {R : World → World → Prop} {n k : Nat} {Ls : List (Lk × LkRel)} {o : Option Tmp} (hst : ∀ L ∈ Ls, ∀ u v w w', L.2 u v w → R w w' → L.2 u v w') (hk : lkOther k o Ls = true) (listed : Array Bool) (a : Act) (w w' : World) (v : Value) (h : LinkJ n Ls listed a w) (hl : listed.getD k true = false) (hg : R w w') :
    LinkJ n Ls (listed.setIfInBounds k true) (a.put o v) w' :=
  h.step hst hl hg fun L hL => .inl (by
    have h1 := List.all_eq_true.1 hk L.1 (List.mem_map_of_mem hL)
    simp only [Bool.and_eq_true, Bool.or_eq_true, bne_iff_ne, ne_eq, beq_iff_eq] at h1
    exact ⟨h1.1.1, h1.1.2, h1.2⟩)
theorem LinkJ.end_ {n m : Nat} {Ls : List (Lk × LkRel)} {a : Act} {w : World} (h : LinkJ n Ls (Array.replicate m true) a w) {L : Lk × LkRel} (hL : L ∈ Ls) (hj : L.1.j < m) : L.2 (a.tmps[L.1.d]?.getD undef) (a.tmps[L.1.e]?.getD undef) w :=
  (h.lk L hL (by simp [hj])).2
section
variable {P : Program} {ops : List Oper} {Vs : List VP} {a₀ : Act} {w₀ : World} {Q : Exit → Act → World → Prop} {R : World → World → Prop} {J : Array Bool → Act → World → Prop}
end
end Go.Proofs.YtjdoflfdlhpbmaaDoor

namespace Go.Proofs.YtjdoflfdlhpbmaaDoor
open Go.RowKit

/-- Operations i1 and i2 hand back at slots d1 and d2 what X1 and X2 say; operation k waits for both, hands back at slot e what Y says, and may turn what the two made. -/
structure ChainJ (m i1 d1 i2 d2 k e : Nat) (X1 X2 Y : VP) (listed : Array Bool) (a : Act) (w : World) : Prop where
  sz : a.tmps.size = m
  ord : listed.getD k false = true → listed.getD i1 false = true ∧ listed.getD i2 false = true
  x1 : listed.getD i1 false = true → listed.getD k false = false → X1 (a.tmps[d1]?.getD undef) w
  x2 : listed.getD i2 false = true → listed.getD k false = false → X2 (a.tmps[d2]?.getD undef) w
  y : listed.getD k false = true → Y (a.tmps[e]?.getD undef) w
section
variable {m i1 d1 i2 d2 k e : Nat} {X1 X2 Y : VP} {listed : Array Bool} {a : Act} {w w' : World} {v : Value}
theorem ChainJ.start (n : Nat) (a : Act) (w : World) (h : a.tmps.size = m) : ChainJ m i1 d1 i2 d2 k e X1 X2 Y (Array.replicate n false) a w := by
  have : ∀ i, (Array.replicate n false).getD i false = false := by
    intro i
    rw [Array.getD_eq_getD_getElem?, Array.getElem?_replicate]
    split <;> rfl
  refine ⟨h, fun h => ?_, fun h => ?_, fun h => ?_, fun h => ?_⟩ <;> (rw [this] at h; cases h)
theorem ChainJ.other (h1 : ∀ v w w', X1 v w → Gr w w' → X1 v w') (h2 : ∀ v w w', X2 v w → Gr w w' → X2 v w') (h3 : ∀ v w w', Y v w → Gr w w' → Y v w') {j : Nat} {t : Option Tmp} (hi : (j != i1 && j != i2 && j != k && t != some d1 && t != some d2 && t != some e) = true)
    (listed : Array Bool) (a : Act) (w w' : World) (v : Value) (h : ChainJ m i1 d1 i2 d2 k e X1 X2 Y listed a w) (hg : Gr w w') : ChainJ m i1 d1 i2 d2 k e X1 X2 Y (listed.setIfInBounds j true) (a.put t v) w' := by
  simp only [Bool.and_eq_true, bne_iff_ne] at hi
  obtain ⟨⟨⟨⟨⟨hj1, hj2⟩, hjk⟩, t1⟩, t2⟩, te⟩ := hi
  refine ⟨by rw [put_size]; exact h.sz, ?_, ?_, ?_, ?_⟩
  all_goals simp only [getD_set_ne false hj1, getD_set_ne false hj2, getD_set_ne false hjk, put_ne t1, put_ne t2, put_ne te]
  · exact h.ord
  · exact fun k1 k2 => h1 _ _ _ (h.x1 k1 k2) hg
  · exact fun k1 k2 => h2 _ _ _ (h.x2 k1 k2) hg
  · exact fun k1 => h3 _ _ _ (h.y k1) hg
theorem ChainJ.first (h2 : ∀ v w w', X2 v w → Gr w w' → X2 v w') (h : ChainJ m i1 d1 i2 d2 k e X1 X2 Y listed a w) (hl : listed.getD i1 true = false) (h12 : i1 ≠ i2) (h1k : i1 ≠ k) (hd : d1 ≠ d2) (_ : d1 ≠ e) (hm : d1 < m) (hg : Gr w w') (hv : X1 v w') :
    ChainJ m i1 d1 i2 d2 k e X1 X2 Y (listed.setIfInBounds i1 true) (a.put (some d1) v) w' := by
  have hk : listed.getD k false = false := by
    cases hh : listed.getD k false with
    | false => rfl
    | true => have := (h.ord hh).1; rw [getD_tf hl] at this; cases this
  refine ⟨by rw [put_size]; exact h.sz, ?_, fun _ _ => by rw [put_at (by rw [h.sz]; exact hm)]; exact hv, ?_, ?_⟩
  · rw [getD_set_ne false h1k, hk]; intro hh; cases hh
  · rw [getD_set_ne false h12, getD_set_ne false h1k, put_ne (fun e => hd (Option.some.inj e))]
    exact fun k1 k2 => h2 _ _ _ (h.x2 k1 k2) hg
  · rw [getD_set_ne false h1k, hk]; intro hh; cases hh
theorem ChainJ.second (h1 : ∀ v w w', X1 v w → Gr w w' → X1 v w') (h : ChainJ m i1 d1 i2 d2 k e X1 X2 Y listed a w) (hl : listed.getD i2 true = false) (h12 : i1 ≠ i2) (h2k : i2 ≠ k) (hd : d1 ≠ d2) (_ : d2 ≠ e) (hm : d2 < m) (hg : Gr w w') (hv : X2 v w') :
    ChainJ m i1 d1 i2 d2 k e X1 X2 Y (listed.setIfInBounds i2 true) (a.put (some d2) v) w' := by
  have hk : listed.getD k false = false := by
    cases hh : listed.getD k false with
    | false => rfl
    | true => have := (h.ord hh).2; rw [getD_tf hl] at this; cases this
  refine ⟨by rw [put_size]; exact h.sz, ?_, ?_, fun _ _ => by rw [put_at (by rw [h.sz]; exact hm)]; exact hv, ?_⟩
  · rw [getD_set_ne false h2k, hk]; intro hh; cases hh
  · rw [getD_set_ne false (Ne.symm h12), getD_set_ne false h2k, put_ne (fun e => hd (Option.some.inj e).symm)]
    exact fun k1 k2 => h1 _ _ _ (h.x1 k1 k2) hg
  · rw [getD_set_ne false h2k, hk]; intro hh; cases hh
theorem ChainJ.last (h : ChainJ m i1 d1 i2 d2 k e X1 X2 Y listed a w) (hl : listed.getD k true = false) (h1 : listed.getD i1 false = true) (h2 : listed.getD i2 false = true) (h1k : i1 ≠ k) (h2k : i2 ≠ k) (hm : e < m) (hv : Y v w') :
    ChainJ m i1 d1 i2 d2 k e X1 X2 Y (listed.setIfInBounds k true) (a.put (some e) v) w' := by
  refine ⟨by rw [put_size]; exact h.sz, fun _ => ?_, fun _ hh => ?_, fun _ hh => ?_, fun _ => by rw [put_at (by rw [h.sz]; exact hm)]; exact hv⟩
  · rw [getD_set_ne false (Ne.symm h1k), getD_set_ne false (Ne.symm h2k)]; exact ⟨h1, h2⟩
  · rw [getD_set_eq hl] at hh; cases hh
  · rw [getD_set_eq hl] at hh; cases hh
theorem ChainJ.end_ {n : Nat} (h : ChainJ m i1 d1 i2 d2 k e X1 X2 Y (Array.replicate n true) a w) (hk : k < n) : Y (a.tmps[e]?.getD undef) w := h.y (by simp [hk])
end
end Go.Proofs.YtjdoflfdlhpbmaaDoor
