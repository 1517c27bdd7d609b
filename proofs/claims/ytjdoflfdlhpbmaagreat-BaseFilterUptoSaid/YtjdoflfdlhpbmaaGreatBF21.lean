/-
  The rely rule where a region makes blocks for terms and stores into them late.
-/
import Derived.Test.YtjdoflfdlhpbmaaGreatBF15
import Derived.Test.YtjdoflfdlhpbmaaGreatBF06
namespace Go.Proofs.YtjdoflfdlhpbmaaGreat
open Go.RowKit Go.Lib

/-- A block for a term that the region makes: the operation that makes it, its slot, the operation that stores, what it stores. -/
structure LE where
  i : Nat
  d : Nat
  s : Nat
  v : Tm
def BlkTm (w : World) (B : Nat) (t : Tm) : Prop := Blk4 w B (.int .i64 t.k) (.int .i64 t.n) (.string t.s) (.slice t.p t.l.length t.c)
def BlkZ (w : World) (B : Nat) : Prop := Blk4 w B (.int .i64 0) (.int .i64 0) (.string ⟨#[]⟩) (.slice none 0 0)
/-- What is known in the middle. -/
structure LateJ (B0 : Nat) (D : List LE) (n m : Nat) (listed : Array Bool) (a : Act) (w : World) : Prop where
  nl : listed.size = n
  nt : a.tmps.size = m
  blk : ∀ x ∈ D, listed.getD x.i false = true → ∃ B, a.tmps[x.d]?.getD undef = .pointer (some ⟨B, 0, none⟩) ∧ B0 ≤ B ∧ B < w.heap.size ∧ (listed.getD x.s false = false → BlkZ w B) ∧ (listed.getD x.s false = true → BlkTm w B x.v)
  apart : ∀ x ∈ D, ∀ y ∈ D, x.i ≠ y.i → listed.getD x.i false = true → listed.getD y.i false = true → ∀ B, a.tmps[x.d]?.getD undef = .pointer (some ⟨B, 0, none⟩) → a.tmps[y.d]?.getD undef ≠ .pointer (some ⟨B, 0, none⟩)
  late : ∀ x ∈ D, listed.getD x.s false = true → listed.getD x.i false = true

theorem put_size (a : Act) (d : Option Tmp) (v : Value) : (a.put d v).tmps.size = a.tmps.size := by
  unfold Act.put; split <;> simp
theorem LateJ.start (B0 : Nat) (D : List LE) (n m : Nat) (a : Act) (w : World) (ha : a.tmps.size = m) : LateJ B0 D n m (Array.replicate n false) a w := by
  have : ∀ i, (Array.replicate n false).getD i false = false := by
    intro i
    rw [Array.getD_eq_getD_getElem?, Array.getElem?_replicate]
    split <;> rfl
  exact ⟨by simp, ha, fun x _ h => absurd h (by rw [this]; decide), fun x _ y _ _ h => absurd h (by rw [this]; decide), fun x _ h => absurd h (by rw [this]; decide)⟩
theorem LateJ.other {B0 : Nat} {D : List LE} {n m : Nat} {i : Nat} {d : Option Tmp} (hi : (D.all fun x => x.i != i && x.s != i && d != some x.d) = true) (listed : Array Bool) (a : Act) (w w' : World) (v : Value) (h : LateJ B0 D n m listed a w) (hg : Gr w w') : LateJ B0 D n m (listed.setIfInBounds i true) (a.put d v) w' := by
  have h1 : ∀ x ∈ D, i ≠ x.i ∧ i ≠ x.s ∧ d ≠ some x.d := fun x hx => by
    have := List.all_eq_true.1 hi x hx
    simp only [Bool.and_eq_true, bne_iff_ne] at this
    exact ⟨fun e => this.1.1 e.symm, fun e => this.1.2 e.symm, this.2⟩
  refine ⟨by simpa using h.nl, by rw [put_size]; exact h.nt, fun x hx hl => ?_, fun x hx y hy hxy hl hl' B hB => ?_, fun x hx hl => ?_⟩
  · rw [getD_set_ne false (h1 x hx).1] at hl
    rw [getD_set_ne false (h1 x hx).2.1, put_ne (h1 x hx).2.2]
    obtain ⟨B, g1, g2, g3, g4, g5⟩ := h.blk x hx hl
    exact ⟨B, g1, g2, Nat.lt_of_lt_of_le g3 hg.size, fun e => Blk4.gr (g4 e) hg, fun e => Blk4.gr (g5 e) hg⟩
  · rw [getD_set_ne false (h1 x hx).1] at hl
    rw [getD_set_ne false (h1 y hy).1] at hl'
    rw [put_ne (h1 x hx).2.2] at hB
    rw [put_ne (h1 y hy).2.2]
    exact h.apart x hx y hy hxy hl hl' B hB
  · rw [getD_set_ne false (h1 x hx).2.1] at hl
    rw [getD_set_ne false (h1 x hx).1]
    exact h.late x hx hl
/-- The operation that makes a block. -/
theorem LateJ.alloc {B0 : Nat} {D : List LE} {n m : Nat} {i d : Nat} (hi : (D.all fun x => (x.i == i && x.d == d && x.s != i) || (x.i != i && x.s != i && x.d != d)) = true) {listed : Array Bool} {a : Act} {w w' : World} {B : Nat} (h : LateJ B0 D n m listed a w) (hn : listed.getD i false = false) (hg : Gr w w') (h0 : B0 ≤ B) (h1 : w.heap.size ≤ B) (h2 : B < w'.heap.size) (hz : BlkZ w' B) (hdm : d < m) (hin : i < n) :
    LateJ B0 D n m (listed.setIfInBounds i true) (a.put (some d) (.pointer (some ⟨B, 0, none⟩))) w' := by
  have hd : d < a.tmps.size := by rw [h.nt]; exact hdm
  have hil : i < listed.size := by rw [h.nl]; exact hin
  have hc : ∀ x ∈ D, (x.i = i ∧ x.d = d ∧ i ≠ x.s) ∨ (i ≠ x.i ∧ i ≠ x.s ∧ (some d : Option Tmp) ≠ some x.d) := fun x hx => by
    have := List.all_eq_true.1 hi x hx
    simp only [Bool.or_eq_true, Bool.and_eq_true, bne_iff_ne, beq_iff_eq] at this
    rcases this with ⟨⟨e1, e2⟩, e3⟩ | ⟨⟨e1, e2⟩, e3⟩
    · exact .inl ⟨e1, e2, fun e => e3 e.symm⟩
    · exact .inr ⟨fun e => e1 e.symm, fun e => e2 e.symm, fun e => e3 (Option.some.inj e).symm⟩
  have hp : (a.put (some d) (.pointer (some ⟨B, 0, none⟩))).tmps[d]?.getD undef = .pointer (some ⟨B, 0, none⟩) := by simp [Act.put, hd]
  have hu : ∀ B, (Value.pointer (some ⟨B, 0, none⟩)) ≠ undef := fun B e => by cases e
  have hold : ∀ x ∈ D, listed.getD x.i false = true → ∀ B', a.tmps[x.d]?.getD undef = .pointer (some ⟨B', 0, none⟩) → B' < w.heap.size := fun x hx hl B' hB' => by
    obtain ⟨B2, g1, _, g3, _⟩ := h.blk x hx hl
    rw [hB'] at g1
    cases g1
    exact g3
  refine ⟨by simpa using h.nl, by rw [put_size]; exact h.nt, fun x hx hl => ?_, fun x hx y hy hxy hl hl' B' hB hB' => ?_, fun x hx hl => ?_⟩
  · rcases hc x hx with ⟨rfl, rfl, e3⟩ | ⟨e1, e2, e3⟩
    · refine ⟨B, hp, h0, h2, fun _ => hz, fun e => ?_⟩
      rw [getD_set_ne false e3] at e
      have := h.late x hx e
      rw [hn] at this
      cases this
    · rw [getD_set_ne false e1] at hl
      rw [getD_set_ne false e2, put_ne e3]
      obtain ⟨B', g1, g2, g3, g4, g5⟩ := h.blk x hx hl
      exact ⟨B', g1, g2, Nat.lt_of_lt_of_le g3 hg.size, fun e => Blk4.gr (g4 e) hg, fun e => Blk4.gr (g5 e) hg⟩
  · rcases hc x hx with ⟨rfl, rfl, e3⟩ | ⟨e1, e2, e3⟩
    · rcases hc y hy with ⟨e4, _, _⟩ | ⟨e4, e5, e6⟩
      · exact hxy e4.symm
      · have := put_eq hB (hu _)
        cases this
        rw [getD_set_ne false e4] at hl'
        rw [put_ne e6] at hB'
        have := hold y hy hl' B hB'
        omega
    · rw [getD_set_ne false e1] at hl
      rw [put_ne e3] at hB
      rcases hc y hy with ⟨rfl, rfl, e4⟩ | ⟨e4, e5, e6⟩
      · have := put_eq hB' (hu _)
        cases this
        have := hold x hx hl B hB
        omega
      · rw [getD_set_ne false e4] at hl'
        rw [put_ne e6] at hB'
        exact h.apart x hx y hy hxy hl hl' B' hB hB'
  · rcases hc x hx with ⟨rfl, rfl, e3⟩ | ⟨e1, e2, e3⟩
    · simp [hil]
    · rw [getD_set_ne false e2] at hl
      rw [getD_set_ne false e1]
      exact h.late x hx hl
/-- The operation that stores. -/
theorem LateJ.store {B0 : Nat} {D : List LE} {n m : Nat} {i : Nat} {x0 : LE} (hx0 : x0 ∈ D) (hs0 : x0.s = i) (hi : (D.all fun x => x.i != i && (x.s != i || x.i == x0.i)) = true) (hv : ∀ x ∈ D, x.i = x0.i → x = x0) {listed : Array Bool} {a : Act} {w w' : World} {B : Nat} (h : LateJ B0 D n m listed a w) (hl0 : listed.getD x0.i false = true)
    (hB : a.tmps[x0.d]?.getD undef = .pointer (some ⟨B, 0, none⟩)) (hk : Kp (· = B) w w') (hz : BlkTm w' B x0.v) (v : Value) (hin : i < n) :
    LateJ B0 D n m (listed.setIfInBounds i true) (a.put none v) w' := by
  have hc : ∀ x ∈ D, i ≠ x.i ∧ (i ≠ x.s ∨ x = x0) := fun x hx => by
    have := List.all_eq_true.1 hi x hx
    simp only [Bool.and_eq_true, Bool.or_eq_true, bne_iff_ne, beq_iff_eq] at this
    exact ⟨fun e => this.1 e.symm, this.2.imp (fun h e => h e.symm) fun e => hv x hx e⟩
  have hil : i < listed.size := by rw [h.nl]; exact hin
  have hput : (a.put none v) = a := rfl
  rw [hput]
  refine ⟨by simpa using h.nl, h.nt, fun x hx hl => ?_, fun x hx y hy hxy hl hl' B' hB hB' => ?_, fun x hx hl => ?_⟩
  · rw [getD_set_ne false (hc x hx).1] at hl
    obtain ⟨B', g1, g2, g3, g4, g5⟩ := h.blk x hx hl
    by_cases hxx : x = x0
    · subst hxx
      rw [hB] at g1
      cases g1
      refine ⟨B, hB, g2, Nat.lt_of_lt_of_le g3 hk.size, fun e => ?_, fun _ => hz⟩
      rw [hs0] at e
      simp [hil] at e
    · have hne : B' ≠ B := fun e => by
        subst e
        exact h.apart x hx x0 hx0 (fun e => hxx (hv x hx e)) hl hl0 B' g1 hB
      rcases (hc x hx).2 with e2 | e2
      · rw [getD_set_ne false e2]
        exact ⟨B', g1, g2, Nat.lt_of_lt_of_le g3 hk.size, fun e => Blk4.kp (g4 e) hk hne, fun e => Blk4.kp (g5 e) hk hne⟩
      · exact absurd e2 hxx
  · rw [getD_set_ne false (hc x hx).1] at hl
    rw [getD_set_ne false (hc y hy).1] at hl'
    exact h.apart x hx y hy hxy hl hl' B' hB hB'
  · rw [getD_set_ne false (hc x hx).1]
    by_cases hxx : x = x0
    · subst hxx; exact hl0
    · rcases (hc x hx).2 with e2 | e2
      · rw [getD_set_ne false e2] at hl
        exact h.late x hx hl
      · exact absurd e2 hxx
theorem LateJ.here {B0 : Nat} {D : List LE} {n m : Nat} {listed : Array Bool} {a : Act} {w : World} (h : LateJ B0 D n m listed a w) {x : LE} (hx : x ∈ D) (hl : listed.getD x.i false = true) (hn : listed.getD x.s false = false) {B : Nat} (hB : a.tmps[x.d]?.getD undef = .pointer (some ⟨B, 0, none⟩)) : BlkZ w B ∧ B0 ≤ B := by
  obtain ⟨B', g1, g2, _, g4, _⟩ := h.blk x hx hl
  rw [hB] at g1
  cases g1
  exact ⟨g4 hn, g2⟩
/-- What stands at the end. -/
theorem LateJ.done {B0 : Nat} {D : List LE} {n m : Nat} {a : Act} {w : World} (h : LateJ B0 D n m (Array.replicate n true) a w) {x : LE} (hx : x ∈ D) (hn : x.i < n) (hs : x.s < n) {B : Nat} (hB : a.tmps[x.d]?.getD undef = .pointer (some ⟨B, 0, none⟩)) : BlkTm w B x.v ∧ B0 ≤ B := by
  have hl : ∀ i, i < n → (Array.replicate n true).getD i false = true := fun i hi => by
    rw [Array.getD_eq_getD_getElem?, Array.getElem?_replicate, if_pos hi]; rfl
  obtain ⟨B', g1, g2, _, _, g5⟩ := h.blk x hx (hl _ hn)
  rw [hB] at g1
  cases g1
  exact ⟨g5 (hl _ hs), g2⟩
theorem LateJ.two {B0 : Nat} {D : List LE} {n m : Nat} {a : Act} {w : World} (h : LateJ B0 D n m (Array.replicate n true) a w) {x y : LE} (hx : x ∈ D) (hy : y ∈ D) (hxy : x.i ≠ y.i) (hn : x.i < n) (hn' : y.i < n) {B B' : Nat} (h1 : a.tmps[x.d]?.getD undef = .pointer (some ⟨B, 0, none⟩)) (h2 : a.tmps[y.d]?.getD undef = .pointer (some ⟨B', 0, none⟩)) : B ≠ B' := by
  have hl : ∀ i, i < n → (Array.replicate n true).getD i false = true := fun i hi => by
    rw [Array.getD_eq_getD_getElem?, Array.getElem?_replicate, if_pos hi]; rfl
  rintro rfl
  exact h.apart x hx y hy hxy (hl _ hn) (hl _ hn') B h1 h2
/-! ### Operations that a guard leaves out -/
theorem predsImp_true {ops : List Oper} {Vs : List VP} {a : Act} {w : World} {G : Prop} (h : G) : ∀ es : List Edge, predsImp ops Vs a w G es
  | [] => h
  | e :: es => by
    rw [predsImp]
    split
    · cases dstAt ops e.on with
      | none => exact predsImp_true h es
      | some d => exact fun v _ _ => predsImp_true h es
    · exact predsImp_true h es
theorem predsImp_of {ops : List Oper} {Vs : List VP} {a : Act} {w : World} {G : Prop} {j : Nat} {d : Tmp} (hd : dstAt ops j = some d) (hG : (Vs.getD j (fun _ _ => True)) (a.tmps[d]?.getD undef) w → G) :
    ∀ es : List Edge, (∃ e ∈ es, e.on = j ∧ Region.binds .any e = true) → predsImp ops Vs a w G es
  | [], h => nomatch h
  | e :: es, h => by
    rw [predsImp]
    by_cases hb : Region.binds .any e = true
    · rw [if_pos hb]
      by_cases he : e.on = j
      · rw [he, hd]
        intro v hv hV
        subst hv
        exact predsImp_true (hG hV) es
      · have h2 : ∃ e ∈ es, e.on = j ∧ Region.binds .any e = true := by
          obtain ⟨e', h1, h2, h3⟩ := h
          rcases List.mem_cons.1 h1 with rfl | h1
          · exact absurd h2 he
          · exact ⟨e', h1, h2, h3⟩
        cases dstAt ops e.on with
        | none => exact predsImp_of hd hG es h2
        | some d' => exact fun v _ _ => predsImp_of hd hG es h2
    · rw [if_neg hb]
      refine predsImp_of hd hG es ?_
      obtain ⟨e', h1, h2, h3⟩ := h
      rcases List.mem_cons.1 h1 with rfl | h1
      · exact absurd h3 hb
      · exact ⟨e', h1, h2, h3⟩
/-- An operation whose guard says no. -/
theorem stepOK_skip {P : Program} {ops : List Oper} {Vs : List VP} {a₀ : Act} {w₀ : World} {Q : Exit → Act → World → Prop} {o : Oper} (j : Nat) (want : Bool) (d : Tmp) (hgd : o.guard = some (j, want)) (hd : dstAt ops j = some d)
    (hV : Vs.getD j (fun _ _ => True) = fx (.bool (!want))) (he : ∃ e ∈ o.after.toList, e.on = j ∧ Region.binds .any e = true) : StepOK P ops Vs a₀ w₀ Q o (fx undef) := by
  intro a w _ _
  refine predsImp_of hd (fun h => ?_) _ he
  rw [hV] at h
  have h1 : a.tmps[d]?.getD undef = .bool (!want) := h
  rw [hgd]
  have h2 : a.eval (.tmp d) = .bool (!want) := by simpa [Act.eval] using h1
  have hw : wantedE ops o a = false := by
    unfold wantedE
    rw [hgd]
    simp only [hd, h2]
    cases want <;> rfl
  simp only [hw]
  exact rfl

/-! ### Stores into blocks that are there already -/
/-- A block of the frame's own: the operation that stores into it, the block, what is stored. -/
structure FE where
  s : Nat
  B : Nat
  v : Tm
structure FixJ (D : List FE) (n : Nat) (listed : Array Bool) (a : Act) (w : World) : Prop where
  nl : listed.size = n
  blk : ∀ x ∈ D, (∃ u0 u1 u2 u3, Blk4 w x.B u0 u1 u2 u3) ∧ (listed.getD x.s false = true → BlkTm w x.B x.v)
theorem FixJ.start {D : List FE} {n : Nat} {a : Act} {w : World} (h : ∀ x ∈ D, ∃ u0 u1 u2 u3, Blk4 w x.B u0 u1 u2 u3) : FixJ D n (Array.replicate n false) a w := by
  have : ∀ i, (Array.replicate n false).getD i false = false := by
    intro i
    rw [Array.getD_eq_getD_getElem?, Array.getElem?_replicate]
    split <;> rfl
  exact ⟨by simp, fun x hx => ⟨h x hx, fun h => absurd h (by rw [this]; decide)⟩⟩
theorem FixJ.other {D : List FE} {n i : Nat} {d : Option Tmp} (hi : (D.all fun x => x.s != i) = true) (listed : Array Bool) (a : Act) (w w' : World) (v : Value) (h : FixJ D n listed a w) (hg : Gr w w') : FixJ D n (listed.setIfInBounds i true) (a.put d v) w' := by
  refine ⟨by simpa using h.nl, fun x hx => ?_⟩
  have h1 : i ≠ x.s := by
    have := List.all_eq_true.1 hi x hx
    simp only [bne_iff_ne] at this
    exact fun e => this e.symm
  rw [getD_set_ne false h1]
  obtain ⟨⟨u0, u1, u2, u3, g1⟩, g2⟩ := h.blk x hx
  exact ⟨⟨u0, u1, u2, u3, Blk4.gr g1 hg⟩, fun e => Blk4.gr (g2 e) hg⟩
theorem FixJ.store {D : List FE} {n i : Nat} {x0 : FE} (hx0 : x0 ∈ D) (hs0 : x0.s = i) (hv : ∀ x ∈ D, x = x0 ∨ (x.s ≠ x0.s ∧ x.B ≠ x0.B)) {listed : Array Bool} {a : Act} {w w' : World} (h : FixJ D n listed a w) (hk : Kp (· = x0.B) w w') (hz : BlkTm w' x0.B x0.v) (v : Value) : FixJ D n (listed.setIfInBounds i true) (a.put none v) w' := by
  refine ⟨by simpa using h.nl, fun x hx => ?_⟩
  rcases hv x hx with rfl | ⟨h1, h2⟩
  · exact ⟨⟨_, _, _, _, hz⟩, fun _ => hz⟩
  · rw [getD_set_ne false (by rw [← hs0]; exact fun e => h1 e.symm)]
    obtain ⟨⟨u0, u1, u2, u3, g1⟩, g2⟩ := h.blk x hx
    exact ⟨⟨u0, u1, u2, u3, Blk4.kp g1 hk h2⟩, fun e => Blk4.kp (g2 e) hk h2⟩
theorem FixJ.done {D : List FE} {n : Nat} {a : Act} {w : World} (h : FixJ D n (Array.replicate n true) a w) {x : FE} (hx : x ∈ D) (hs : x.s < n) : BlkTm w x.B x.v :=
  (h.blk x hx).2 (by rw [Array.getD_eq_getD_getElem?, Array.getElem?_replicate, if_pos hs]; rfl)

theorem getD_tf {l : Array Bool} {i : Nat} (h : l.getD i true = false) : l.getD i false = false := by
  rw [Array.getD_eq_getD_getElem?] at h ⊢
  cases hx : l[i]? with
  | none => rfl
  | some b => rw [hx] at h; exact h
/-- A pointer to a new block. -/
def ptrV : VP := fun v _ => ∃ B, v = .pointer (some ⟨B, 0, none⟩)
theorem ptrV_stable {R : World → World → Prop} : ∀ v w w', ptrV v w → R w w' → ptrV v w' := fun _ _ _ h _ => h
/-- Stores of a term into a block. -/
theorem Blk4.sets {w : World} {b : Nat} {u0 u1 u2 u3 : Value} (h : Blk4 w b u0 u1 u2 u3) (v0 v1 v2 v3 : Value) : Blk4 ((((w.setCell ⟨b, 0, none⟩ v0).setCell ⟨b, 1, none⟩ v1).setCell ⟨b, 2, none⟩ v2).setCell ⟨b, 3, none⟩ v3) b v0 v1 v2 v3 := by
  have h1 : BlkT w b 24 #[u0, u1, u2, u3] := h
  exact (((h1.set 0 v0).set 1 v1).set 2 v2).set 3 v3
theorem Kp.sets {C : Nat → Prop} {w : World} {b : Nat} (hb : C b) (v0 v1 v2 v3 : Value) : Kp C w ((((w.setCell ⟨b, 0, none⟩ v0).setCell ⟨b, 1, none⟩ v1).setCell ⟨b, 2, none⟩ v2).setCell ⟨b, 3, none⟩ v3) :=
  (((Kp.set hb).trans (Kp.set hb)).trans (Kp.set hb)).trans (Kp.set hb)
end Go.Proofs.YtjdoflfdlhpbmaaGreat
