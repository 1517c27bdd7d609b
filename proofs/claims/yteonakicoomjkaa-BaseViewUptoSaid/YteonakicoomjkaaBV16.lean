/-
  A base in general: what it holds, and that it stays so.
  The rely rule with a tail, for a region some of whose operations turn more than new memory: R is what any operation keeps; J what is known by which operations are over.
-/
import Derived.Test.YteonakicoomjkaaBV15
import Derived.Test.YteonakicoomjkaaBV02
namespace Go.Proofs.Yteonakicoomjkaa
open Go.RowKit Go.Maps Go.Lib

theorem hcells_nine (x : Hd) : x.cells.length = 9 := rfl
theorem hcells_len : ∀ l : List Hd, (l.flatMap Hd.cells).length = l.length * 9
  | [] => rfl
  | x :: xs => by rw [List.flatMap_cons, List.length_append, hcells_len xs, List.length_cons, hcells_nine]; omega
theorem hcells_at : ∀ {l : List Hd} {i : Nat} {x : Hd}, l[i]? = some x → ∀ j, j < 9 → (l.flatMap Hd.cells)[i * 9 + j]? = x.cells[j]?
  | y :: ys, 0, x, h, j, hj => by
    simp only [List.getElem?_cons_zero, Option.some.injEq] at h
    subst h
    rw [List.flatMap_cons, Nat.zero_mul, Nat.zero_add, List.getElem?_append_left (by rw [hcells_nine]; exact hj)]
  | y :: ys, i + 1, x, h, j, hj => by
    simp only [List.getElem?_cons_succ] at h
    rw [List.flatMap_cons, List.getElem?_append_right (by rw [hcells_nine]; omega), hcells_nine, show (i + 1) * 9 + j - 9 = i * 9 + j by omega]
    exact hcells_at h j hj
theorem hcells_one (l : List Hd) : ∀ u ∈ l.flatMap Hd.cells, u.oneCell' = true := by
  intro u hu
  obtain ⟨x, _, hx⟩ := List.mem_flatMap.1 hu
  exact heldCells_one _ _ _ u hx

/-- A list of clauses as a slice and its cells. -/
theorem HSl.rw {S : Nat → Prop} {w : World} {p : Option Addr} {c : Nat} {L : List Hd} (h : HSl S w p c L) : Rw.In 9 w ⟨p, L.length, c, L.flatMap Hd.cells⟩ := by
  refine ⟨hcells_len L, hcells_one L, ?_⟩
  rcases h.row with rfl | ⟨b, o, hp, _, _, hr⟩
  · exact .inl rfl
  · refine .inr ⟨b, o, hp, fun j u hu => ?_⟩
    have hj : j < L.length * 9 := by rw [← hcells_len L]; exact (List.getElem?_eq_some_iff.1 hu).1
    have hx : L[j / 9]? = some L[j / 9] := List.getElem?_eq_getElem (by omega)
    have h9 := hcells_at hx (j % 9) (Nat.mod_lt _ (by decide))
    rw [show j / 9 * 9 + j % 9 = j by omega] at h9
    have := hr (j / 9) _ hx (j % 9) u (h9.symm.trans hu)
    rwa [show o + j / 9 * 9 + j % 9 = o + j by omega] at this

/-- A row of one's own as a list of clauses. -/
theorem HSl.of_own {S : Nat → Prop} {w : World} {base : Nat} {v : Value} {L : List Hd} (h : w.ownsRow base 143 9 v L.length (L.flatMap Hd.cells)) (hS : ∀ g, base ≤ g → g < w.heap.size → S g) (hbd : L.length * 120 ≤ 140737488351232)
    (hels : ∀ x ∈ L, x.h.In w ∧ x.b.In w ∧ x.h.erase.formed = true ∧ x.b.erase.formed = true ∧ x.h.On S ∧ x.b.On S) : ∃ p c, v = .slice p L.length c ∧ HSl S w p c L := by
  rcases h.2 with ⟨rfl, h0⟩ | ⟨g, cap, cur, rfl, hg, hb, hn, hc, _⟩
  · rw [h0]
    exact ⟨none, 0, rfl, ⟨by omega, hbd, by omega, .inl (List.eq_nil_of_length_eq_zero h0), hels⟩⟩
  · refine ⟨_, _, rfl, ⟨hn, hbd, by simp only [maxLen] at hc; omega, .inr ⟨g, 0, rfl, hS g hg (Array.getElem?_eq_some_iff.1 hb).1, (Array.getElem?_eq_some_iff.1 hb).1, fun i x hx j u hu => ?_⟩, hels⟩⟩
    have hj : j < 9 := by rw [← hcells_nine x]; exact (List.getElem?_eq_some_iff.1 hu).1
    have := World.ownsRow.cells (g := g) h rfl (i * 9 + j) u ((hcells_at hx j hj).trans hu)
    rwa [Go.WideShapes.add_plain, ← Nat.add_assoc] at this
theorem HSl.mono {S S' : Nat → Prop} {w : World} {p : Option Addr} {c : Nat} {L : List Hd} (h : HSl S w p c L) (hS : ∀ b, S b → b < w.heap.size → S' b) : HSl S' w p c L := by
  refine ⟨h.len, h.bd, h.cap, h.row.imp id fun ⟨b, o, h1, h2, h3, h4⟩ => ⟨b, o, h1, hS b h2 h3, h3, h4⟩, fun x hx => ?_⟩
  obtain ⟨h1, h2, h3, h4, h5, h6⟩ := h.els x hx
  exact ⟨h1, h2, h3, h4, (Tm.On.and h5 h1.on).mono fun b hb => hS b hb.1 hb.2, (Tm.On.and h6 h2.on).mono fun b hb => hS b hb.1 hb.2⟩

/-- What a base knows: the last id, all ids in their order, the clauses of each predicate, the predicate of each id. -/
structure BSt where
  last : Int
  all : List Int
  pr : ByteArray × Int → Option (List HdT)
  wh : Int → Option (ByteArray × Int)

/-- The blocks that a base writes to. -/
def Mut (B M1 M2 : Nat) (va : Value) : Nat → Prop := fun b => b = B ∨ b = M1 ∨ b = M2 ∨ va.ownBlock = some b

def rowIs (S : Nat → Prop) (w : World) (v : Option Value) : Option (List HdT) → Prop
  | none => v = none
  | some L => ∃ (p : Option Addr) (c : Nat) (M : List Hd), v = some (.slice p M.length c) ∧ HSl S w p c M ∧ M.map Hd.er = L
theorem rowIs.kp {C S : Nat → Prop} {w w' : World} {v : Option Value} {r : Option (List HdT)} (h : rowIs S w v r) (hK : Kp C w w') (hC : ∀ b, S b → ¬ C b) : rowIs S w' v r := by
  cases r with
  | none => exact h
  | some L => obtain ⟨p, c, M, h1, h2, h3⟩ := h; exact ⟨p, c, M, h1, h2.kp hK hC, h3⟩
theorem rowIs.mono {S S' : Nat → Prop} {w : World} {v : Option Value} {r : Option (List HdT)} (h : rowIs S w v r) (hS : ∀ b, S b → b < w.heap.size → S' b) : rowIs S' w v r := by
  cases r with
  | none => exact h
  | some L => obtain ⟨p, c, M, h1, h2, h3⟩ := h; exact ⟨p, c, M, h1, h2.mono hS, h3⟩

/-- A base: all that it holds lies on S, apart from what it writes to. -/
structure BaseG (S : Nat → Prop) (w : World) (B M1 M2 : Nat) (va : Value) (st : BSt) : Prop where
  blk : BlkT w B 136 #[.int .i64 st.last, va, .map (some M1), .map (some M2)]
  all : w.ownsRow 0 3 1 va st.all.length (st.all.map (.int .i64))
  m1 : ∃ g, GMap 138 kPred w M1 g ∧ ∀ k, rowIs S w (g k) (st.pr k)
  m2 : GMap 3 kInt w M2 fun n => (st.wh n).map kPred
  whk : ∀ n k, st.wh n = some k → k.1.size ≤ 1000 ∧ 0 ≤ k.2 ∧ k.2 ≤ 1000
  wha : ∀ n k, st.wh n = some k → n ∈ st.all
  hds : ∀ k L, st.pr k = some L → ∀ x ∈ L, (x.h.l.length : Int) = k.2
  bdp : ∀ k L, st.pr k = some L → (L.length : Int) ≤ st.last
  bda : (st.all.length : Int) ≤ st.last
  n1 : M1 ≠ B
  n2 : M2 ≠ B
  n3 : M1 ≠ M2
  na : va.ownBlock ≠ some B ∧ va.ownBlock ≠ some M1 ∧ va.ownBlock ≠ some M2
  sep : ∀ b, S b → ¬ Mut B M1 M2 va b

theorem ownsRow_kpv {C : Nat → Prop} {w w' : World} {base : Nat} {e : TypeId} {size : Nat} {v : Value} {n : Nat} {xs : List Value} (h : w.ownsRow base e size v n xs) (hK : Kp C w w') (hC : ∀ b, v.ownBlock = some b → ¬ C b) : w'.ownsRow base e size v n xs := by
  refine ⟨h.1, h.2.imp id ?_⟩
  rintro ⟨g, cap, cur, rfl, h2, h3, h4⟩
  exact ⟨g, cap, cur, rfl, h2, by rw [hK.block g (Array.getElem?_eq_some_iff.1 h3).1 (hC g rfl)]; exact h3, h4⟩
theorem ownsRow_lt {w : World} {base : Nat} {e : TypeId} {size : Nat} {v : Value} {n : Nat} {xs : List Value} (h : w.ownsRow base e size v n xs) {b : Nat} (hb : v.ownBlock = some b) : b < w.heap.size := by
  rcases h.2 with ⟨rfl, _⟩ | ⟨g, cap, cur, rfl, _, h3, _⟩
  · cases hb
  · cases hb; exact (Array.getElem?_eq_some_iff.1 h3).1

theorem BaseG.kp {C S : Nat → Prop} {w w' : World} {B M1 M2 : Nat} {va : Value} {st : BSt} (h : BaseG S w B M1 M2 va st) (hK : Kp C w w') (hC : ∀ b, Mut B M1 M2 va b → ¬ C b) (hS : ∀ b, S b → ¬ C b) : BaseG S w' B M1 M2 va st := by
  obtain ⟨g, hg, hr⟩ := h.m1
  exact ⟨h.blk.kp hK (hC B (.inl rfl)), ownsRow_kpv h.all hK fun b hb => hC b (.inr (.inr (.inr hb))), ⟨g, hg.kp hK (hC M1 (.inr (.inl rfl))), fun k => (hr k).kp hK hS⟩, h.m2.kp hK (hC M2 (.inr (.inr (.inl rfl)))), h.whk, h.wha, h.hds, h.bdp, h.bda, h.n1, h.n2, h.n3, h.na, h.sep⟩
theorem BaseG.gr {S : Nat → Prop} {w w' : World} {B M1 M2 : Nat} {va : Value} {st : BSt} (h : BaseG S w B M1 M2 va st) (hg : Gr w w') : BaseG S w' B M1 M2 va st := h.kp (C := fun _ => False) (Kp.of_gr hg) (fun _ _ h => h) fun _ _ h => h
theorem BaseG.mono {S S' : Nat → Prop} {w : World} {B M1 M2 : Nat} {va : Value} {st : BSt} (h : BaseG S w B M1 M2 va st) (hS : ∀ b, S b → b < w.heap.size → S' b) (hm : ∀ b, S' b → ¬ Mut B M1 M2 va b) : BaseG S' w B M1 M2 va st := by
  obtain ⟨g, hg, hr⟩ := h.m1
  exact ⟨h.blk, h.all, ⟨g, hg, fun k => (hr k).mono hS⟩, h.m2, h.whk, h.wha, h.hds, h.bdp, h.bda, h.n1, h.n2, h.n3, h.na, hm⟩
theorem BaseG.lt {S : Nat → Prop} {w : World} {B M1 M2 : Nat} {va : Value} {st : BSt} (h : BaseG S w B M1 M2 va st) : ∀ b, Mut B M1 M2 va b → b < w.heap.size := by
  obtain ⟨g, hg, _⟩ := h.m1
  rintro b (rfl | rfl | rfl | hb)
  · exact h.blk.lt
  · exact hg.lt
  · exact h.m2.lt
  · exact ownsRow_lt h.all hb

/-- What Add makes of what a base knows. -/
structure Added (st : BSt) (k : ByteArray × Int) (first : Bool) (h b : T) (st' : BSt) : Prop where
  last : st'.last = st.last + 1
  all : st'.all = if first then (st.last + 1) :: st.all else st.all ++ [st.last + 1]
  here : st'.pr k = some (if first then ⟨st.last + 1, h, b⟩ :: (st.pr k).getD [] else (st.pr k).getD [] ++ [⟨st.last + 1, h, b⟩])
  pr : ∀ y, y ≠ k → st'.pr y = st.pr y
  its : st'.wh (st.last + 1) = some k
  wh : ∀ n, n ≠ st.last + 1 → st'.wh n = st.wh n
theorem Added.exists (st : BSt) (k : ByteArray × Int) (first : Bool) (h b : T) : ∃ st', Added st k first h b st' := by
  classical
  exact ⟨⟨st.last + 1, _, fun y => if y = k then some (if first then ⟨st.last + 1, h, b⟩ :: (st.pr k).getD [] else (st.pr k).getD [] ++ [⟨st.last + 1, h, b⟩]) else st.pr y, fun n => if n = st.last + 1 then some k else st.wh n⟩,
    ⟨rfl, rfl, if_pos rfl, fun y hy => if_neg hy, if_pos rfl, fun n hn => if_neg hn⟩⟩

/-- What Add leaves. -/
def RetAddG (S : Nat → Prop) (B M1 M2 : Nat) (va : Value) (st : BSt) (k : ByteArray × Int) (first : Bool) (h b : T) (w : World) (e : Ending) (w' : World) : Prop :=
  ∃ (va' : Value) (st' : BSt), Added st k first h b st' ∧ e = .returned (.tuple #[.int .i64 (st.last + 1), .int .i64 0]) ∧ BaseG (fun x => S x ∨ (w.heap.size ≤ x ∧ va'.ownBlock ≠ some x)) w' B M1 M2 va' st' ∧ Kp (Mut B M1 M2 va) w w' ∧
    (va'.ownBlock = va.ownBlock ∨ ∃ g, va'.ownBlock = some g ∧ w.heap.size ≤ g)
end Go.Proofs.Yteonakicoomjkaa

namespace Go.Proofs.Yteonakicoomjkaa
open Go.RowKit

def StableR (R : World → World → Prop) (Vs : List VP) : Prop := ∀ V ∈ Vs, ∀ v w w', V v w → R w w' → V v w'
section
variable {R : World → World → Prop}
theorem StableR.nil : StableR R [] := fun _ h => by cases h
theorem StableR.fix {c : Value} {Vs : List VP} (h : StableR R Vs) : StableR R (fx c :: Vs) := fun V hV => by
  rcases List.mem_cons.1 hV with rfl | hV
  · exact fun _ _ _ h _ => h
  · exact h V hV
theorem StableR.cons {W : VP} {Vs : List VP} (hW : ∀ v w w', W v w → R w w' → W v w') (h : StableR R Vs) : StableR R (W :: Vs) := fun V hV => by
  rcases List.mem_cons.1 hV with rfl | hV
  · exact hW
  · exact h V hV
end

def StepJ (R : World → World → Prop) (J : Array Bool → World → Prop) (P : Program) (ops : List Oper) (Vs : List VP) (a₀ : Act) (w₀ : World) (Q : Exit → Act → World → Prop) (i : Nat) (o : Oper) (V : VP) : Prop :=
  ∀ listed a w, J listed w → listed.getD i true = false → (∀ e ∈ o.after, Region.binds .any e = true → listed.getD e.on false = true) → R w₀ w → a.defers = a₀.defers → (∀ t, (dsts ops).contains t = false → a.tmps[t]?.getD undef = a₀.tmps[t]?.getD undef) →
    predsImp ops Vs a w (∀ K : Act → World → Prop, (∀ v w', V v w' → R w w' → J (listed.setIfInBounds i true) w' → K (a.put o.dst v) w') → o.wp P a w K Q) o.after.toList

def stepsJ (R : World → World → Prop) (J : Array Bool → World → Prop) (P : Program) (ops : List Oper) (Vs : List VP) (a₀ : Act) (w₀ : World) (Q : Exit → Act → World → Prop) : List Oper → List VP → Nat → Prop
  | [], _, _ => True
  | o :: os, V :: Vs', i => StepJ R J P ops Vs a₀ w₀ Q i o V ∧ stepsJ R J P ops Vs a₀ w₀ Q os Vs' (i + 1)
  | _ :: _, [], _ => False

section
variable {P : Program} {ops : List Oper} {Vs : List VP} {a₀ : Act} {w₀ : World} {Q : Exit → Act → World → Prop} {R : World → World → Prop} {J : Array Bool → World → Prop} {m : Nat}

theorem stepsJ_at : ∀ {os : List Oper} {Vs' : List VP} {k i : Nat} {o : Oper}, stepsJ R J P ops Vs a₀ w₀ Q os Vs' k → os[i]? = some o → StepJ R J P ops Vs a₀ w₀ Q (k + i) o (Vs'.getD i (fun _ _ => True))
  | [], _, _, i, o, _, hi => by simp at hi
  | o' :: os, [], _, _, _, h, _ => h.elim
  | o' :: os, V :: Vs', k, 0, o, h, hi => by
    simp only [List.getElem?_cons_zero, Option.some.injEq] at hi
    subst hi
    exact h.1
  | o' :: os, V :: Vs', k, i + 1, o, h, hi => by
    simp only [List.getElem?_cons_succ] at hi
    have := stepsJ_at h.2 hi
    rw [show k + 1 + i = k + (i + 1) by omega] at this
    simpa using this

/-- An operation that turns nothing but new memory, and of which J does not speak. -/
theorem stepJ_plain {i : Nat} {o : Oper} {V : VP} (hG : ∀ w w', Gr w w' → R w w') (hJ : ∀ listed w w', J listed w → Gr w w' → J (listed.setIfInBounds i true) w')
    (h : ∀ a w, R w₀ w → (∀ t, (dsts ops).contains t = false → a.tmps[t]?.getD undef = a₀.tmps[t]?.getD undef) → predsImp ops Vs a w (∀ K : Act → World → Prop, (∀ v w', V v w' → Gr w w' → K (a.put o.dst v) w') → o.wp P a w K Q) o.after.toList) :
    StepJ R J P ops Vs a₀ w₀ Q i o V := by
  intro listed a w hj _ _ hr _ hf
  have h1 := h a w hr hf
  have : ∀ es : List Edge, predsImp ops Vs a w (∀ K : Act → World → Prop, (∀ v w', V v w' → Gr w w' → K (a.put o.dst v) w') → o.wp P a w K Q) es → predsImp ops Vs a w (∀ K : Act → World → Prop, (∀ v w', V v w' → R w w' → J (listed.setIfInBounds i true) w' → K (a.put o.dst v) w') → o.wp P a w K Q) es := by
    intro es
    induction es with
    | nil => exact fun h2 K hK => h2 K fun v w' hv hg => hK v w' hv (hG _ _ hg) (hJ _ _ _ hj hg)
    | cons e es ih =>
      intro h2
      simp only [predsImp] at h2 ⊢
      split at h2
      · rename_i hb
        rw [if_pos hb]
        cases hd : dstAt ops e.on with
        | none => simp only [hd] at h2 ⊢; exact ih h2
        | some d => simp only [hd] at h2 ⊢; exact fun v h3 h4 => ih (h2 v h3 h4)
      · rename_i hb
        rw [if_neg hb]
        exact ih h2
  exact this _ h1

/-- The state in the middle of the region. -/
structure MidJ (R : World → World → Prop) (J : Array Bool → World → Prop) (ops : List Oper) (Vs : List VP) (a₀ : Act) (w₀ : World) (listed : Array Bool) (a : Act) (w : World) : Prop where
  sz : listed.size = ops.length
  grown : R w₀ w
  st : J listed w
  defers : a.defers = a₀.defers
  size : a.tmps.size = a₀.tmps.size
  old : ∀ t, (∀ i o, ops[i]? = some o → o.dst = some t → listed.getD i false = false) → a.tmps[t]? = a₀.tmps[t]?
  val : ∀ i o d, ops[i]? = some o → o.dst = some d → listed.getD i false = true → (Vs.getD i (fun _ _ => True)) (a.tmps.getD d undef) w
  bare : ∀ i o, ops[i]? = some o → o.dst = none → listed.getD i false = true → ∃ v, (Vs.getD i (fun _ _ => True)) v w

theorem mid_stepJ (hB : relyB ops a₀.tmps.size = true) (hRt : ∀ a b c, R a b → R b c → R a c) (hst : StableR R Vs) {listed : Array Bool} {a a' : Act} {w w' : World} {i : Nat} {o : Oper} {v : Value}
    (hm : MidJ R J ops Vs a₀ w₀ listed a w) (hi : ops[i]? = some o) (ha : a' = a.put o.dst v) (hv : (Vs.getD i (fun _ _ => True)) v w') (hg : R w w') (hj : J (listed.setIfInBounds i true) w') :
    MidJ R J ops Vs a₀ w₀ (listed.setIfInBounds i true) a' w' := by
  obtain ⟨hn, hlt, _, _⟩ := relyB_spec hB
  have hil : i < listed.size := by rw [hm.sz]; exact (List.getElem?_eq_some_iff.1 hi).1
  have hstab : ∀ j v, (Vs.getD j (fun _ _ => True)) v w → (Vs.getD j (fun _ _ => True)) v w' := by
    intro j v h
    by_cases hj : j < Vs.length
    · have e : Vs.getD j (fun _ _ => True) = Vs[j] := by simp [List.getD, hj]
      rw [e] at h ⊢
      exact hst _ (List.getElem_mem hj) _ _ _ h hg
    · have e : Vs.getD j (fun _ _ => True) = (fun _ _ => True) := by simp [List.getD, List.getElem?_eq_none (Nat.le_of_not_lt hj)]
      rw [e]
      trivial
  subst ha
  refine ⟨by simpa using hm.sz, hRt _ _ _ hm.grown hg, hj, ?_, ?_, fun t ht => ?_, fun j oj d hj hd hl => ?_, fun j oj hj hd hl => ?_⟩
  · rw [← hm.defers]; unfold Act.put; split <;> rfl
  · rw [← hm.size]; unfold Act.put; split <;> simp
  · have h1 : o.dst ≠ some t := fun e => by
      have := ht i o hi e
      simp [hil] at this
    have h2 := hm.old t (fun j oj hj hd => by
      have := ht j oj hj hd
      by_cases hji : i = j
      · subst hji
        rw [hi] at hj
        cases hj
        exact absurd hd h1
      · rwa [getD_set_ne false hji] at this)
    rw [← h2]
    unfold Act.put
    split
    · rename_i d hd
      have hne : d ≠ t := fun e => h1 (by rw [hd, e])
      simp [Array.getElem?_setIfInBounds_ne hne]
    · rfl
  · by_cases hji : i = j
    · subst hji
      rw [hi] at hj
      cases hj
      have hdl : d < a.tmps.size := by rw [hm.size]; exact hlt d (mem_dsts hi hd)
      have e : (a.put o.dst v).tmps.getD d undef = v := by simp [Act.put, hd, hdl]
      rw [e]
      exact hv
    · rw [getD_set_ne false hji] at hl
      have h2 := hstab _ _ (hm.val j oj d hj hd hl)
      have e : (a.put o.dst v).tmps.getD d undef = a.tmps.getD d undef := by
        unfold Act.put
        split
        · rename_i d' hd'
          have hne : d' ≠ d := fun e => hji (dst_inj hn hi hj hd' (by rw [hd, e]))
          simp [Array.getElem?_setIfInBounds_ne hne]
        · rfl
      rw [e]
      exact h2
  · by_cases hji : i = j
    · subst hji
      exact ⟨v, hv⟩
    · rw [getD_set_ne false hji] at hl
      obtain ⟨u, hu⟩ := hm.bare j oj hj hd hl
      exact ⟨u, hstab _ _ hu⟩

theorem mid_finJ (hB : relyB ops a₀.tmps.size = true) {K : Act → World → Prop} {listed : Array Bool} {a : Act} {w : World} (hmid : MidJ R J ops Vs a₀ w₀ listed a w) (hall : ∀ i, i < ops.length → listed.getD i false = true)
    (hfin : finAll K w ops Vs a₀) : K a w := by
  obtain ⟨hn, hlt, _, _⟩ := relyB_spec hB
  have hf := finAll_elim (os := ops) (Vs' := Vs) (b := a₀) (f := fun i => match dstAt ops i with | some d => a.tmps.getD d undef | none => Classical.epsilon fun v => (Vs.getD i (fun _ _ => True)) v w) (k := 0) (K := K) (w := w) ?_ hfin
  · have e : (ops.zipIdx 0 |>.foldl (fun a' x => a'.put x.1.dst (match dstAt ops x.2 with | some d => a.tmps.getD d undef | none => Classical.epsilon fun v => (Vs.getD x.2 (fun _ _ => True)) v w)) a₀) = a := by
      have hT : (ops.zipIdx 0 |>.foldl (fun a' x => a'.put x.1.dst (match dstAt ops x.2 with | some d => a.tmps.getD d undef | none => Classical.epsilon fun v => (Vs.getD x.2 (fun _ _ => True)) v w)) a₀).tmps = a.tmps := by
        apply Array.ext_getElem?
        intro t
        obtain ⟨h1, h2⟩ := fold_tmps (f := fun i => match dstAt ops i with | some d => a.tmps.getD d undef | none => Classical.epsilon fun v => (Vs.getD i (fun _ _ => True)) v w) (os := ops) (b := a₀) (k := 0) t hn hlt
        by_cases hex : ∃ (i : Nat) (o : Oper), ops[i]? = some o ∧ o.dst = some t
        · obtain ⟨i, o, hi, hd⟩ := hex
          rw [h1 i o hi hd]
          have hts : t < a.tmps.size := by rw [hmid.size]; exact hlt t (mem_dsts hi hd)
          simp [dstAt, hi, hd, hts]
        · rw [h2 (fun i o hi hd => hex ⟨i, o, hi, hd⟩)]
          exact (hmid.old t (fun i o hi hd => (hex ⟨i, o, hi, hd⟩).elim)).symm
      have hD := fold_defers (f := fun i => match dstAt ops i with | some d => a.tmps.getD d undef | none => Classical.epsilon fun v => (Vs.getD i (fun _ _ => True)) v w) (os := ops) (b := a₀) (k := 0)
      generalize (ops.zipIdx 0 |>.foldl (fun a' x => a'.put x.1.dst (match dstAt ops x.2 with | some d => a.tmps.getD d undef | none => Classical.epsilon fun v => (Vs.getD x.2 (fun _ _ => True)) v w)) a₀) = c at hT hD
      obtain ⟨ct, cd⟩ := c
      obtain ⟨at', ad⟩ := a
      have hd := hmid.defers
      simp only at hT hD hd
      rw [hT, hD, hd]
    rw [e] at hf
    exact hf
  · intro i o hi V hV
    have hlen : i < ops.length := (List.getElem?_eq_some_iff.1 hi).1
    have eV : Vs.getD i (fun _ _ => True) = V := by simp [List.getD, hV]
    simp only [Nat.zero_add, dstAt, hi, Option.bind_some]
    cases hd : o.dst with
    | some d =>
      have := hmid.val i o d hi hd (hall i hlen)
      rwa [eV] at this
    | none =>
      have := hmid.bare i o hi hd (hall i hlen)
      rw [eV] at this ⊢
      exact Classical.epsilon_spec this

theorem mid_startJ (hG : ∀ w, Gr w₀ w → R w₀ w) (hJ0 : ∀ w, Gr w₀ w → J (Array.replicate ops.length false) w) (Vs : List VP) (a₀ : Act) : MidJ R J ops Vs a₀ w₀ (Array.replicate ops.length false) a₀ { w₀ with drawn := w₀.drawn + 1 } := by
  refine ⟨by simp, hG _ ⟨rfl, rfl, rfl, Nat.le_refl _, fun _ _ => rfl⟩, hJ0 _ ⟨rfl, rfl, rfl, Nat.le_refl _, fun _ _ => rfl⟩, rfl, rfl, fun _ _ => rfl, fun i o d hi hd hl => ?_, fun i o hi hd hl => ?_⟩
  all_goals
    have : i < ops.length := (List.getElem?_eq_some_iff.1 hi).1
    simp [this] at hl

theorem wpAny_mid_tailJ (hnog : ∀ o ∈ ops.take m, o.guard = none) (hB : tailB ops m a₀.tmps.size = true) (hm : m ≤ ops.length) (hRt : ∀ a b c, R a b → R b c → R a c) (hst : StableR R Vs) (hsteps : stepsJ R J P (ops.take m) Vs a₀ w₀ Q (ops.take m) Vs 0)
    (hfin : ∀ listed a w, MidJ R J (ops.take m) Vs a₀ w₀ listed a w → (∀ i, i < (ops.take m).length → listed.getD i false = true) → wpList P ops.toArray Q (ops.drop m) a w) :
    ∀ (fuel : Nat) (listed : Array Bool) (a : Act) (w : World), listed.size = ops.length → listed.count false ≤ fuel → Shut ops listed → (∀ i, m ≤ i → i < ops.length → listed.getD i true = false) →
      MidJ R J (ops.take m) Vs a₀ w₀ (listed.extract 0 m) a w → wpAny P .any ops.toArray Q fuel listed a w := by
  obtain ⟨hR, hlt, hanc, hgrd⟩ := tailB_spec hB
  have hlen : (ops.take m).length = m := by rw [List.length_take]; omega
  have hext : ∀ (listed : Array Bool) (i : Nat), i < m → ∀ d, (listed.extract 0 m).getD i d = listed.getD i d := by
    intro listed i hi d
    simp only [Array.getD_eq_getD_getElem?, Array.getElem?_extract]
    by_cases h : i < listed.size
    · rw [if_pos (by omega)]; simp
    · rw [if_neg (by omega)]; simp [Array.getElem?_eq_none (Nat.le_of_not_lt h)]
  have hexts : ∀ (listed : Array Bool) (i : Nat), i < m → (listed.setIfInBounds i true).extract 0 m = (listed.extract 0 m).setIfInBounds i true := by
    intro listed i hi
    apply Array.ext_getElem?
    intro j
    simp only [Array.getElem?_extract, Array.getElem?_setIfInBounds, Array.size_setIfInBounds, Array.size_extract, Nat.sub_zero, Nat.zero_add]
    by_cases hj : j < m ∧ j < listed.size
    · by_cases e : i = j
      · subst e
        simp [hj]
      · have : j < min m listed.size := by omega
        simp [this, e]
    · have : ¬ j < min m listed.size := by omega
      by_cases e : i = j
      · subst e
        simp [this]
      · simp [this, e]
  intro fuel
  induction fuel with
  | zero =>
    intro listed a w hs hc hshut hno hmid
    by_cases hall : ∀ i, i < m → listed.getD i false = true
    · exact wpAny_tail hB (ops.drop m) m 0 listed a w (Nat.le_refl _) (fun j => by rw [List.getElem?_drop]) (by
        have hz : (ops.drop m).length = 0 := by
          rw [List.length_drop]
          rcases Nat.lt_or_ge m ops.length with h | h
          · have h5 := hno m (Nat.le_refl _) h
            have := count_set h5
            omega
          · omega
        omega) hs hshut (fun i hi _ => hall i hi) hno (hfin _ a w hmid (fun i hi => by rw [hext listed i (by omega)]; exact hall i (by omega)))
    · exfalso
      apply hall
      intro i hi
      have hi' : i < listed.size := by omega
      by_cases h : listed.getD i false = true
      · exact h
      · have h5 : listed.getD i true = false := by simpa [hi'] using h
        have := count_set h5
        omega
  | succ fuel ih =>
    intro listed a w hs hc hshut hno hmid
    by_cases hall : ∀ i, i < m → listed.getD i false = true
    · have hcount : (ops.drop m).length ≤ fuel + 1 := by
        have h5 : ops.length - m ≤ listed.count false := by
          have h6 : (listed.extract m listed.size).count false ≤ listed.count false := by
            rw [← Array.count_toList, ← Array.count_toList, Array.toList_extract]
            exact List.Sublist.count_le _ (List.Sublist.trans (List.take_sublist _ _) (List.drop_sublist _ _))
          have h7 : (listed.extract m listed.size).count false = (listed.extract m listed.size).size := by
            rw [Array.count_eq_size]
            intro b hb
            obtain ⟨j, hj, rfl⟩ := Array.getElem_of_mem hb
            simp only [Array.size_extract] at hj
            have h8 := hno (m + j) (by omega) (by omega)
            have h9 : m + j < listed.size := by omega
            simp only [Array.getElem_extract]
            simpa [h9] using h8.symm
          rw [h7, Array.size_extract] at h6
          omega
        rw [List.length_drop]
        omega
      exact wpAny_tail hB (ops.drop m) m (fuel + 1) listed a w (Nat.le_refl _) (fun j => by rw [List.getElem?_drop]) hcount hs hshut (fun i hi _ => hall i hi) hno
        (hfin _ a w hmid (fun i hi => by rw [hext listed i (by omega)]; exact hall i (by omega)))
    · have hpre : ∀ i ∈ Region.ready .any ops.toArray listed, i < m := by
        intro i hi
        rcases Nat.lt_or_ge i m with h | h
        · exact h
        · exfalso
          obtain ⟨h0, o, ho, hal⟩ := mem_ready.1 hi
          have ho' : ops[i]? = some o := by simpa using ho
          have hil := (List.getElem?_eq_some_iff.1 ho').1
          exact hall fun j hj => anc_listed hshut (i + 1) i o ho' hal j (hanc i hil h j (by omega))
      refine ⟨fun hr => ?_, fun i hi => ?_⟩
      · exfalso
        apply hall
        intro i
        induction i using Nat.strongRecOn with
        | _ i ihi =>
          intro hi
          by_cases h : listed.getD i false = true
          · exact h
          · have hi' : i < listed.size := by omega
            have hmem : i ∈ Region.ready .any ops.toArray listed := by
              rw [mem_ready]
              refine ⟨by simpa [hi'] using h, ops[i], by simp [show i < ops.length by omega], fun e he hb => ?_⟩
              have := hlt i ops[i] (by simp) e he hb
              exact ihi e.on this (by omega)
            rw [hr] at hmem
            cases hmem
      · have him := hpre i hi
        obtain ⟨h0, o, ho, hal⟩ := mem_ready.1 hi
        have ho' : ops[i]? = some o := by simpa using ho
        have hot : (ops.take m)[i]? = some o := by rw [List.getElem?_take, if_pos him]; exact ho'
        have hstep := stepsJ_at hsteps hot (listed.extract 0 m) a w hmid.st (by rw [Nat.zero_add, hext listed i him]; exact h0) (fun e he hb => by rw [hext listed e.on (Nat.lt_trans (hlt i o ho' e he hb) him)]; exact hal e he hb) hmid.grown hmid.defers (fun t ht => by
          have h1 := hmid.old t (fun j oj hj hd => by
            have := mem_dsts hj hd
            rw [List.contains_eq_mem, decide_eq_false_iff_not] at ht
            exact absurd this ht)
          simp only [h1])
        have hres := predsImp_elim (fun e he hb d hd => by
          unfold dstAt at hd
          cases hoe : (ops.take m)[e.on]? with
          | none => simp [hoe] at hd
          | some oe =>
            simp only [hoe, Option.bind_some] at hd
            have hem : e.on < m := by
              have := (List.getElem?_eq_some_iff.1 hoe).1
              omega
            have := hmid.val e.on oe d hoe hd (by rw [hext listed e.on hem]; exact hal e (by simpa using he) hb)
            rwa [Array.getD_eq_getD_getElem?] at this) hstep
        have hc' := count_set h0
        rw [Nat.zero_add] at hres
        have hnext : ∀ v w', (Vs.getD i (fun _ _ => True)) v w' → R w w' → J ((listed.extract 0 m).setIfInBounds i true) w' → wpAny P .any ops.toArray Q fuel (listed.setIfInBounds i true) (a.put o.dst v) w' := fun v w' hv hg hj =>
          ih _ _ _ (by simpa using hs) (by omega) (shut_set hshut ho' hal) (fun j hj hj' => by rw [getD_set_ne true (by omega : i ≠ j)]; exact hno j hj hj')
            (by rw [hexts listed i him]; exact mid_stepJ hR hRt hst hmid hot rfl hv hg hj)
        unfold wpOp
        simp only [ho]
        rw [wantedE_eq]
        have hw : wantedE ops o a = true := by simp [wantedE, hnog o (List.mem_of_getElem? hot)]
        rw [if_pos hw]
        exact .inl (hres _ hnext)

/-- THE RULE. -/
theorem wp_region_relyJ {id : Nat} (m : Nat) (Vs : List VP) (R : World → World → Prop) (J : Array Bool → World → Prop) (hm : P.follows .mixedOrders = true) (hB : tailB ops m a₀.tmps.size = true) (hml : m ≤ ops.length) (hng : ((ops.take m).all fun o => o.guard.isNone) = true)
    (hG : ∀ w w', Gr w w' → R w w') (hRt : ∀ a b c, R a b → R b c → R a c) (hJ0 : ∀ w, Gr w₀ w → J (Array.replicate (ops.take m).length false) w) (hst : StableR R Vs)
    (hsteps : stepsJ R J P (ops.take m) Vs a₀ w₀ Q (ops.take m) Vs 0) (hfin : ∀ w, R w₀ w → J (Array.replicate (ops.take m).length true) w → finAll (fun a w => wpList P ops.toArray Q (ops.drop m) a w) w (ops.take m) Vs a₀) : (Code.region id ops.toArray true).wp P Q a₀ w₀ := by
  have hnog : ∀ o ∈ ops.take m, o.guard = none := fun o ho => by
    have := List.all_eq_true.1 hng o ho
    cases hg : o.guard with
    | none => rfl
    | some x => rw [hg] at this; cases this
  refine wp_region_any hm ?_
  have hlen : (ops.take m).length = m := by rw [List.length_take]; omega
  have he : (Array.replicate ops.length false).extract 0 m = Array.replicate (ops.take m).length false := by
    apply Array.ext_getElem?
    intro i
    simp only [Array.getElem?_extract, Array.size_replicate, Array.getElem?_replicate, Nat.zero_add, Nat.sub_zero, hlen]
    by_cases h : i < m
    · simp [h, show i < min m ops.length by omega, show i < ops.length by omega]
    · simp [h, show ¬ i < min m ops.length by omega]
  have := wpAny_mid_tailJ (Q := Q) hnog hB hml hRt hst hsteps (fun listed a w hmid hall => mid_finJ (tailB_spec hB).1 hmid hall (hfin w hmid.grown (by
    have e : listed = Array.replicate (ops.take m).length true := by
      apply Array.ext
      · rw [Array.size_replicate]; exact hmid.sz
      · intro i h1 h2
        have h3 := hall i (by rw [Array.size_replicate] at h2; exact h2)
        rw [Array.getElem_replicate]
        simpa [h1] using h3
    rw [← e]
    exact hmid.st))) ops.length (Array.replicate ops.length false) a₀ { w₀ with drawn := w₀.drawn + 1 } (by simp) (by simp)
    (fun i o hi hl => by
      have : i < ops.length := (List.getElem?_eq_some_iff.1 hi).1
      simp [this] at hl)
    (fun i _ hi => by simp [hi]) (by rw [he]; exact mid_startJ (fun w h => hG _ _ h) hJ0 _ _)
  simpa using this
end
end Go.Proofs.Yteonakicoomjkaa
