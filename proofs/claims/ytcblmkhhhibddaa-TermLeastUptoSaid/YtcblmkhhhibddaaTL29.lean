/-
  The second half of a drawn region some of whose operations turn more than new memory; what is known by which operations are over speaks of the frame too.
  A drawn region with a call that turns more than new memory, whose answer is put into a slice of one: what is known while its operations go by.
-/
import Derived.Test.YtcblmkhhhibddaaTL28
import Derived.Test.YtcblmkhhhibddaaTL05
namespace Go.Proofs.Ytcblmkhhhibddaa
open Go.RowKit

def StepB (R : World → World → Prop) (J : Array Bool → Act → World → Prop) (P : Program) (ops : List Oper) (Vs : List VP) (a₀ : Act) (w₀ : World) (Q : Exit → Act → World → Prop) (i : Nat) (o : Oper) (V : VP) : Prop :=
  ∀ listed a w, J listed a w → listed.getD i true = false → (∀ e ∈ o.after, Region.binds .any e = true → listed.getD e.on false = true) → R w₀ w → a.defers = a₀.defers → (∀ t, (dsts ops).contains t = false → a.tmps[t]?.getD undef = a₀.tmps[t]?.getD undef) →
    predsImp ops Vs a w (match o.guard with
      | none => (∀ K : Act → World → Prop, (∀ v w', V v w' → R w w' → J (listed.setIfInBounds i true) (a.put o.dst v) w' → K (a.put o.dst v) w') → o.wp P a w K Q)
      | some _ => if wantedE ops o a then (∀ K : Act → World → Prop, (∀ v w', V v w' → R w w' → J (listed.setIfInBounds i true) (a.put o.dst v) w' → K (a.put o.dst v) w') → o.wp P a w K Q) else V undef w ∧ J (listed.setIfInBounds i true) (a.put o.dst undef) w) o.after.toList
def stepsB (R : World → World → Prop) (J : Array Bool → Act → World → Prop) (P : Program) (ops : List Oper) (Vs : List VP) (a₀ : Act) (w₀ : World) (Q : Exit → Act → World → Prop) : List Oper → List VP → Nat → Prop
  | [], _, _ => True
  | o :: os, V :: Vs', i => StepB R J P ops Vs a₀ w₀ Q i o V ∧ stepsB R J P ops Vs a₀ w₀ Q os Vs' (i + 1)
  | _ :: _, [], _ => False

section
variable {P : Program} {ops : List Oper} {Vs : List VP} {a₀ : Act} {w₀ : World} {Q : Exit → Act → World → Prop} {R : World → World → Prop} {J : Array Bool → Act → World → Prop} {m : Nat}
theorem stepsB_at : ∀ {os : List Oper} {Vs' : List VP} {k i : Nat} {o : Oper}, stepsB R J P ops Vs a₀ w₀ Q os Vs' k → os[i]? = some o → StepB R J P ops Vs a₀ w₀ Q (k + i) o (Vs'.getD i (fun _ _ => True))
  | [], _, _, i, o, _, hi => by simp at hi
  | o' :: os, [], _, _, _, h, _ => h.elim
  | o' :: os, V :: Vs', k, 0, o, h, hi => by
    simp only [List.getElem?_cons_zero, Option.some.injEq] at hi
    subst hi
    exact h.1
  | o' :: os, V :: Vs', k, i + 1, o, h, hi => by
    simp only [List.getElem?_cons_succ] at hi
    have := stepsB_at h.2 hi
    rw [show k + 1 + i = k + (i + 1) by omega] at this
    simpa using this
/-- An operation that turns nothing but new memory, and of which J does not speak. -/
theorem stepB_plain {i : Nat} {o : Oper} {V : VP} (hG : ∀ w w', Gr w w' → R w w') (hJ : ∀ listed a w w' v, J listed a w → Gr w w' → J (listed.setIfInBounds i true) (a.put o.dst v) w')
    (h : ∀ a w, R w₀ w → (∀ t, (dsts ops).contains t = false → a.tmps[t]?.getD undef = a₀.tmps[t]?.getD undef) →
      predsImp ops Vs a w (match o.guard with | none => (∀ K : Act → World → Prop, (∀ v w', V v w' → Gr w w' → K (a.put o.dst v) w') → o.wp P a w K Q) | some _ => if wantedE ops o a then (∀ K : Act → World → Prop, (∀ v w', V v w' → Gr w w' → K (a.put o.dst v) w') → o.wp P a w K Q) else V undef w) o.after.toList) :
    StepB R J P ops Vs a₀ w₀ Q i o V := by
  intro listed a w hj _ _ hr _ hf
  have himp : ∀ {G G' : Prop}, (G → G') → ∀ es : List Edge, predsImp ops Vs a w G es → predsImp ops Vs a w G' es := by
    intro G G' hG es
    induction es with
    | nil => exact hG
    | cons e es ih =>
      intro h
      simp only [predsImp] at h ⊢
      split at h
      · rename_i hb
        rw [if_pos hb]
        cases hd : dstAt ops e.on with
        | none => simp only [hd] at h ⊢; exact ih h
        | some d => simp only [hd] at h ⊢; exact fun v h3 h4 => ih (h v h3 h4)
      · rename_i hb
        rw [if_neg hb]
        exact ih h
  refine himp ?_ _ (h a w hr hf)
  cases o.guard with
  | none => exact fun h2 K hK => h2 K fun v w' hv hg => hK v w' hv (hG _ _ hg) (hJ _ _ _ _ _ hj hg)
  | some g =>
    simp only
    split
    · exact fun h2 K hK => h2 K fun v w' hv hg => hK v w' hv (hG _ _ hg) (hJ _ _ _ _ _ hj hg)
    · exact fun h2 => ⟨h2, hJ _ _ _ _ _ hj (Gr.rfl' _)⟩

theorem wpAny_midB (hB : relyB ops a₀.tmps.size = true) (hR0 : ∀ w, R w w) (hRt : ∀ a b c, R a b → R b c → R a c) (hst : StableR R Vs) (hsteps : ∀ (i : Nat) (o : Oper), m ≤ i → ops[i]? = some o → StepB R J P ops Vs a₀ w₀ Q i o (Vs.getD i (fun _ _ => True)))
    (hfin : ∀ listed a w, MidA R J ops Vs a₀ w₀ listed a w → (∀ i, i < ops.length → listed.getD i false = true) → Q .normal a w) :
    ∀ (fuel : Nat) (listed : Array Bool) (a : Act) (w : World), listed.count false ≤ fuel → (∀ i, i < m → i < ops.length → listed.getD i false = true) → MidA R J ops Vs a₀ w₀ listed a w → wpAny P .any ops.toArray Q fuel listed a w := by
  intro fuel
  induction fuel with
  | zero =>
    intro listed a w hc _ hm
    have hr : Region.ready .any ops.toArray listed = [] := by
      rw [List.eq_nil_iff_forall_not_mem]
      intro i hi
      obtain ⟨h0, _⟩ := mem_ready.1 hi
      have := count_set h0
      omega
    exact ⟨hr, hfin _ _ _ hm (all_listed hB hm.sz hr)⟩
  | succ fuel ih =>
    intro listed a w hc hfirst hm
    refine ⟨fun hr => hfin _ _ _ hm (all_listed hB hm.sz hr), fun i hi => ?_⟩
    obtain ⟨h0, o, ho, hall⟩ := mem_ready.1 hi
    have ho' : ops[i]? = some o := by simpa using ho
    have him : m ≤ i := by
      rcases Nat.lt_or_ge i m with h | h
      · have h1 := hfirst i h (List.getElem?_eq_some_iff.1 ho').1
        have hil : i < listed.size := by rw [hm.sz]; exact (List.getElem?_eq_some_iff.1 ho').1
        simp [hil] at h0 h1
        rw [h0] at h1; cases h1
      · exact h
    have hnx : ∀ k, k < m → k < ops.length → (listed.setIfInBounds i true).getD k false = true := fun k hk hk2 => by rw [getD_set_ne false (by omega : i ≠ k)]; exact hfirst k hk hk2
    have hstep := hsteps i o him ho' listed a w hm.st h0 (fun e he hb => hall e (by simpa using he) hb) hm.grown hm.defers (fun t ht => by
      have h1 := hm.old t (fun j oj hj hd => by
        have := mem_dsts hj hd
        rw [List.contains_eq_mem, decide_eq_false_iff_not] at ht
        exact absurd this ht)
      simp only [h1])
    have hres := predsImp_elim (fun e he hb d hd => by
      unfold dstAt at hd
      cases hoe : ops[e.on]? with
      | none => simp [hoe] at hd
      | some oe =>
        simp only [hoe, Option.bind_some] at hd
        have := hm.val e.on oe d hoe hd (hall e (by simpa using he) hb)
        rwa [Array.getD_eq_getD_getElem?] at this) hstep
    have hc' := count_set h0
    have hres : if wantedE ops o a then (∀ K : Act → World → Prop, (∀ v w', (Vs.getD i (fun _ _ => True)) v w' → R w w' → J (listed.setIfInBounds i true) (a.put o.dst v) w' → K (a.put o.dst v) w') → o.wp P a w K Q) else (Vs.getD i (fun _ _ => True)) undef w ∧ J (listed.setIfInBounds i true) (a.put o.dst undef) w := by
      cases hgd : o.guard with
      | none =>
        have : wantedE ops o a = true := by simp [wantedE, hgd]
        rw [if_pos this]
        simpa only [hgd] using hres
      | some gw => simpa only [hgd] using hres
    unfold wpOp
    simp only [ho]
    rw [wantedE_eq]
    by_cases hw : wantedE ops o a = true
    · rw [if_pos hw]
      rw [if_pos hw] at hres
      refine .inl (hres _ fun v w' hv hg hj => ?_)
      exact ih _ _ _ (by omega) hnx (mid_stepA hB hRt hst hm ho' rfl hv hg hj)
    · rw [if_neg hw]
      rw [if_neg hw] at hres
      exact ih _ _ _ (by omega) hnx (mid_stepA hB hRt hst hm ho' rfl hres.1 (hR0 _) hres.2)

/-- THE RULE. -/
theorem rest_relyB (m : Nat) (Vs : List VP) (R : World → World → Prop) (J : Array Bool → Act → World → Prop) (hB : relyB ops a₀.tmps.size = true) (hG : ∀ w w', Gr w w' → R w w') (hRt : ∀ a b c, R a b → R b c → R a c) (hst : StableR R Vs)
    (hJ0 : ∀ listed : Array Bool, (∀ i, m ≤ i → listed.getD i false = false) → J listed a₀ w₀) (hpre : preAll (ops.take m) Vs a₀ w₀) (hsteps : stepsB R J P ops Vs a₀ w₀ Q (ops.drop m) (Vs.drop m) m) (hfin : ∀ w, R w₀ w → finAll (Q .normal) w ops Vs a₀) : RestAny P ops Q m a₀ w₀ := by
  intro fuel listed hs hc h1 h2
  have hlt : ∀ i o, ops[i]? = some o → i < m → (ops.take m)[i]? = some o := fun i o hi h => by rw [List.getElem?_take, if_pos h]; exact hi
  have hno : ∀ i, m ≤ i → listed.getD i false = false := fun i hi => by
    rcases Nat.lt_or_ge i ops.length with h | h
    · have := h2 i hi h
      have hil : i < listed.size := by rw [hs]; exact h
      simp [hil] at this ⊢
      exact this
    · simp [Array.getElem?_eq_none (show listed.size ≤ i by rw [hs]; exact h)]
  refine wpAny_midB (m := m) hB (fun w => hG _ _ (Gr.rfl' w)) hRt hst (fun i o hi ho => ?_) (fun listed a w hmid hall => mid_finA hB hmid hall (hfin w hmid.grown)) fuel listed a₀ w₀ hc h1 ⟨hs, hG _ _ (Gr.rfl' _), hJ0 listed hno, rfl, rfl, fun _ _ => rfl, fun i o d hi hd hl => ?_, fun i o hi hd hl => ?_⟩
  · have h3 := stepsB_at (i := i - m) (o := o) hsteps (by rw [List.getElem?_drop, show m + (i - m) = i by omega]; exact ho)
    rw [show m + (i - m) = i by omega, show (Vs.drop m).getD (i - m) (fun _ _ => True) = Vs.getD i (fun _ _ => True) by simp only [List.getD_eq_getElem?_getD, List.getElem?_drop]; rw [show m + (i - m) = i by omega]] at h3
    exact h3
  · rcases Nat.lt_or_ge i m with h | h
    · obtain ⟨d', hd', hV⟩ := preAll_at hpre (hlt i o hi h)
      rw [hd] at hd'
      cases hd'
      rw [Array.getD_eq_getD_getElem?]
      exact hV
    · rw [hno i h] at hl; cases hl
  · rcases Nat.lt_or_ge i m with h | h
    · obtain ⟨d', hd', hV⟩ := preAll_at hpre (hlt i o hi h)
      rw [hd] at hd'
      cases hd'
    · rw [hno i h] at hl; cases hl
end

/-- Operation i makes a value at slot d of which X is known till operation j uses it up and makes one at slot d' of which Y is known. -/
structure UseJ (n i j d d' : Nat) (X Y : VP) (listed : Array Bool) (a : Act) (w : World) : Prop where
  sz : a.tmps.size = n
  one : listed.getD i false = true → listed.getD j false = false → X (a.tmps[d]?.getD undef) w
  two : listed.getD j false = true → Y (a.tmps[d']?.getD undef) w
theorem put_at {a : Act} {d : Nat} {v : Value} (h : d < a.tmps.size) : (a.put (some d) v).tmps[d]?.getD undef = v := by simp [Act.put, h]
theorem UseJ.start {n i j d d' m : Nat} {X Y : VP} {a : Act} {w : World} (hn : a.tmps.size = n) (hi : m ≤ i) (hj : m ≤ j) (listed : Array Bool) (h : ∀ k, m ≤ k → listed.getD k false = false) : UseJ n i j d d' X Y listed a w :=
  ⟨hn, (fun h1 => by rw [h i hi] at h1; cases h1), (fun h1 => by rw [h j hj] at h1; cases h1)⟩
theorem UseJ.other {n i j d d' k : Nat} {X Y : VP} (hX : ∀ v w w', X v w → Gr w w' → X v w') (hY : ∀ v w w', Y v w → Gr w w' → Y v w') {o : Option Tmp} (hi : k ≠ i) (hj : k ≠ j) (hd : o ≠ some d) (hd' : o ≠ some d') (listed : Array Bool) (a : Act) (w w' : World) (v : Value) (h : UseJ n i j d d' X Y listed a w) (hg : Gr w w') :
    UseJ n i j d d' X Y (listed.setIfInBounds k true) (a.put o v) w' where
  sz := by rw [put_size]; exact h.sz
  one := fun h1 h2 => by
    rw [getD_set_ne false hi] at h1
    rw [getD_set_ne false hj] at h2
    rw [put_ne hd]
    exact hX _ _ _ (h.one h1 h2) hg
  two := fun h1 => by
    rw [getD_set_ne false hj] at h1
    rw [put_ne hd']
    exact hY _ _ _ (h.two h1) hg
theorem UseJ.first {n i j d d' : Nat} {X Y : VP} (hY : ∀ v w w', Y v w → Gr w w' → Y v w') {listed : Array Bool} {a : Act} {w w' : World} {v : Value} (h : UseJ n i j d d' X Y listed a w) (hij : i ≠ j) (hdd : d ≠ d') (hd : d < n) (hg : Gr w w') (hv : X v w') : UseJ n i j d d' X Y (listed.setIfInBounds i true) (a.put (some d) v) w' where
  sz := by rw [put_size]; exact h.sz
  one := fun _ _ => by rw [put_at (by rw [h.sz]; exact hd)]; exact hv
  two := fun h1 => by
    rw [getD_set_ne false hij] at h1
    rw [put_ne (fun e => hdd (Option.some.inj e))]
    exact hY _ _ _ (h.two h1) hg
theorem UseJ.second {n i j d d' : Nat} {X Y : VP} {listed : Array Bool} {a : Act} {w w' : World} {v : Value} (h : UseJ n i j d d' X Y listed a w) (hl : listed.getD j true = false) (hd : d' < n) (hv : Y v w') : UseJ n i j d d' X Y (listed.setIfInBounds j true) (a.put (some d') v) w' where
  sz := by rw [put_size]; exact h.sz
  one := fun _ h2 => by
    have hi : j < listed.size := by
      rcases Nat.lt_or_ge j listed.size with h' | h'
      · exact h'
      · simp [Array.getElem?_eq_none h'] at hl
    simp [hi] at h2
  two := fun _ => by rw [put_at (by rw [h.sz]; exact hd)]; exact hv
end Go.Proofs.Ytcblmkhhhibddaa

namespace Go.Proofs.Ytcblmkhhhibddaa
open Go.RowKit

/-- A new slice of one term: the value v. -/
def oneV (B0 : Nat) (v u : Value) (w : World) : Prop := ∃ B v0 v1 v2 v3, v = .agg #[v0, v1, v2, v3] ∧ u = .slice (some ⟨B, 0, none⟩) 1 1 ∧ B0 ≤ B ∧ Blk4 w B v0 v1 v2 v3
/-- Operation i calls and hands back a value at slot d of which X is known; operation j makes a slice of it at slot e; ahead of i nothing turns. -/
structure CallJ (w0 : World) (n i j d e : Nat) (X : VP) (listed : Array Bool) (a : Act) (w : World) : Prop where
  sz : a.tmps.size = n
  no : listed.getD i false = false → Gr w0 w ∧ listed.getD j false = false
  grown : w0.heap.size ≤ w.heap.size
  yes : listed.getD i false = true → X (a.tmps[d]?.getD undef) w
  one : listed.getD j false = true → oneV w0.heap.size (a.tmps[d]?.getD undef) (a.tmps[e]?.getD undef) w
theorem CallJ.start {w0 : World} {n i j d e : Nat} {X : VP} {a : Act} {w : World} (m : Nat) (g : Gr w0 w) (hn : a.tmps.size = n) : CallJ w0 n i j d e X (Array.replicate m false) a w where
  sz := hn
  no := fun _ => ⟨g, by rw [Array.getD_eq_getD_getElem?, Array.getElem?_replicate]; split <;> rfl⟩
  grown := g.size
  yes := fun h => by rw [Array.getD_eq_getD_getElem?, Array.getElem?_replicate] at h; split at h <;> cases h
  one := fun h => by rw [Array.getD_eq_getD_getElem?, Array.getElem?_replicate] at h; split at h <;> cases h
theorem CallJ.other {w0 : World} {n i j d e k : Nat} {X : VP} (hX : ∀ v w w', X v w → Gr w w' → X v w') {o : Option Tmp} (hk : (k != i && k != j && (o != some d && o != some e)) = true) (listed : Array Bool) (a : Act) (w w' : World) (v : Value) (h : CallJ w0 n i j d e X listed a w) (hg : Gr w w') :
    CallJ w0 n i j d e X (listed.setIfInBounds k true) (a.put o v) w' := by
  simp only [Bool.and_eq_true, bne_iff_ne, ne_eq] at hk
  obtain ⟨⟨hi, hj⟩, hd, he⟩ := hk
  refine ⟨by rw [put_size]; exact h.sz, fun h1 => ?_, Nat.le_trans h.grown hg.size, fun h1 => ?_, fun h1 => ?_⟩
  · rw [getD_set_ne false hi] at h1
    rw [getD_set_ne false hj]
    exact ⟨(h.no h1).1.trans hg, (h.no h1).2⟩
  · rw [getD_set_ne false hi] at h1
    rw [put_ne hd]
    exact hX _ _ _ (h.yes h1) hg
  · rw [getD_set_ne false hj] at h1
    rw [put_ne hd, put_ne he]
    obtain ⟨B, v0, v1, v2, v3, e1, e2, e3, e4⟩ := h.one h1
    exact ⟨B, v0, v1, v2, v3, e1, e2, e3, e4.gr hg⟩
theorem getD_set_eq {l : Array Bool} {i : Nat} (h : l.getD i true = false) : (l.setIfInBounds i true).getD i false = true := by
  have hi : i < l.size := by
    rcases Nat.lt_or_ge i l.size with h' | h'
    · exact h'
    · simp [Array.getElem?_eq_none h'] at h
  simp [hi]
/-- The call is over. -/
theorem CallJ.call {w0 : World} {n i j d e : Nat} {X : VP} {listed : Array Bool} {a : Act} {w w' : World} {v : Value} (h : CallJ w0 n i j d e X listed a w) (hl : listed.getD i true = false) (hij : i ≠ j) (hd : d < n) (hs : w.heap.size ≤ w'.heap.size) (hv : X v w') :
    CallJ w0 n i j d e X (listed.setIfInBounds i true) (a.put (some d) v) w' where
  sz := by rw [put_size]; exact h.sz
  no := fun h1 => by rw [getD_set_eq hl] at h1; cases h1
  grown := Nat.le_trans h.grown hs
  yes := fun _ => by rw [put_at (by rw [h.sz]; exact hd)]; exact hv
  one := fun h1 => by
    rw [getD_set_ne false hij] at h1
    rw [(h.no (getD_tf hl)).2] at h1
    cases h1
/-- The slice is made. -/
theorem CallJ.made {w0 : World} {n i j d e : Nat} {X : VP} (hX : ∀ v w w', X v w → Gr w w' → X v w') {listed : Array Bool} {a : Act} {w w' : World} {u : Value} (h : CallJ w0 n i j d e X listed a w) (hi : listed.getD i false = true) (_ : listed.getD j true = false) (hij : i ≠ j) (hde : d ≠ e) (he : e < n) (hg : Gr w w')
    (hu : oneV w0.heap.size (a.tmps[d]?.getD undef) u w') : CallJ w0 n i j d e X (listed.setIfInBounds j true) (a.put (some e) u) w' where
  sz := by rw [put_size]; exact h.sz
  no := fun h1 => by
    rw [getD_set_ne false (Ne.symm hij)] at h1
    rw [hi] at h1
    cases h1
  grown := Nat.le_trans h.grown hg.size
  yes := fun _ => by
    rw [put_ne (fun e => hde (Option.some.inj e).symm)]
    exact hX _ _ _ (h.yes hi) hg
  one := fun _ => by
    rw [put_ne (fun e => hde (Option.some.inj e).symm), put_at (by rw [h.sz]; exact he)]
    exact hu
theorem CallJ.end_ {w0 : World} {n i j d e m : Nat} {X : VP} {a : Act} {w : World} (h : CallJ w0 n i j d e X (Array.replicate m true) a w) (hi : i < m) (hj : j < m) : X (a.tmps[d]?.getD undef) w ∧ oneV w0.heap.size (a.tmps[d]?.getD undef) (a.tmps[e]?.getD undef) w :=
  ⟨h.yes (by simp [hi]), h.one (by simp [hj])⟩
/-- Operation i turns something and hands back a value at slot d of which X is known, operation k turns something behind it; operation q goes ahead of i; ahead of i nothing turns. -/
structure PushJ (w0 : World) (n q i k d : Nat) (X : VP) (Y : World → Prop) (listed : Array Bool) (a : Act) (w : World) : Prop where
  sz : a.tmps.size = n
  ord : listed.getD i false = true → listed.getD q false = true
  no : listed.getD i false = false → Gr w0 w ∧ listed.getD k false = false
  grown : w0.heap.size ≤ w.heap.size
  one : listed.getD i false = true → listed.getD k false = false → X (a.tmps[d]?.getD undef) w
  two : listed.getD k false = true → Y w
theorem PushJ.start {w0 : World} {n q i k d : Nat} {X : VP} {Y : World → Prop} {a : Act} {w : World} (m : Nat) (g : Gr w0 w) (hn : a.tmps.size = n) : PushJ w0 n q i k d X Y (Array.replicate m false) a w where
  sz := hn
  ord := fun h => by rw [Array.getD_eq_getD_getElem?, Array.getElem?_replicate] at h; split at h <;> cases h
  no := fun _ => ⟨g, by rw [Array.getD_eq_getD_getElem?, Array.getElem?_replicate]; split <;> rfl⟩
  grown := g.size
  one := fun h => by rw [Array.getD_eq_getD_getElem?, Array.getElem?_replicate] at h; split at h <;> cases h
  two := fun h => by rw [Array.getD_eq_getD_getElem?, Array.getElem?_replicate] at h; split at h <;> cases h
theorem getD_mono {l : Array Bool} {i j : Nat} (h : l.getD i false = true) : (l.setIfInBounds j true).getD i false = true := by
  by_cases e : j = i
  · subst e
    have hi : j < l.size := by
      rcases Nat.lt_or_ge j l.size with h' | h'
      · exact h'
      · simp [Array.getElem?_eq_none h'] at h
    simp [hi]
  · rw [getD_set_ne false e]; exact h
theorem PushJ.other {w0 : World} {n q i k d j : Nat} {X : VP} {Y : World → Prop} (hX : ∀ v w w', X v w → Gr w w' → X v w') (hY : ∀ w w', Y w → Gr w w' → Y w') {o : Option Tmp} (hk : (j != i && j != k && o != some d) = true) (listed : Array Bool) (a : Act) (w w' : World) (v : Value) (h : PushJ w0 n q i k d X Y listed a w) (hg : Gr w w') :
    PushJ w0 n q i k d X Y (listed.setIfInBounds j true) (a.put o v) w' := by
  simp only [Bool.and_eq_true, bne_iff_ne, ne_eq] at hk
  obtain ⟨⟨hi, hkk⟩, hd⟩ := hk
  refine ⟨by rw [put_size]; exact h.sz, fun h1 => ?_, fun h1 => ?_, Nat.le_trans h.grown hg.size, fun h1 h2 => ?_, fun h1 => ?_⟩
  · rw [getD_set_ne false hi] at h1
    exact getD_mono (h.ord h1)
  · rw [getD_set_ne false hi] at h1
    rw [getD_set_ne false hkk]
    exact ⟨(h.no h1).1.trans hg, (h.no h1).2⟩
  · rw [getD_set_ne false hi] at h1
    rw [getD_set_ne false hkk] at h2
    rw [put_ne hd]
    exact hX _ _ _ (h.one h1 h2) hg
  · rw [getD_set_ne false hkk] at h1
    exact hY _ _ (h.two h1) hg
theorem PushJ.first {w0 : World} {n q i k d : Nat} {X : VP} {Y : World → Prop} {listed : Array Bool} {a : Act} {w w' : World} {v : Value} (h : PushJ w0 n q i k d X Y listed a w) (hl : listed.getD i true = false) (hq : listed.getD q false = true) (hik : i ≠ k) (hd : d < n) (hs : w.heap.size ≤ w'.heap.size) (hv : X v w') :
    PushJ w0 n q i k d X Y (listed.setIfInBounds i true) (a.put (some d) v) w' where
  sz := by rw [put_size]; exact h.sz
  ord := fun _ => getD_mono hq
  no := fun h1 => by rw [getD_set_eq hl] at h1; cases h1
  grown := Nat.le_trans h.grown hs
  one := fun _ _ => by rw [put_at (by rw [h.sz]; exact hd)]; exact hv
  two := fun h1 => by
    rw [getD_set_ne false hik, (h.no (getD_tf hl)).2] at h1
    cases h1
theorem PushJ.second {w0 : World} {n q i k d : Nat} {X : VP} {Y : World → Prop} {listed : Array Bool} {a : Act} {w w' : World} {v : Value} {o : Option Tmp} (h : PushJ w0 n q i k d X Y listed a w) (hi : listed.getD i false = true) (hl : listed.getD k true = false) (hik : i ≠ k) (hs : w.heap.size ≤ w'.heap.size) (hv : Y w') :
    PushJ w0 n q i k d X Y (listed.setIfInBounds k true) (a.put o v) w' where
  sz := by rw [put_size]; exact h.sz
  ord := fun _ => getD_mono (h.ord hi)
  no := fun h1 => by rw [getD_set_ne false (Ne.symm hik), hi] at h1; cases h1
  grown := Nat.le_trans h.grown hs
  one := fun _ h2 => by rw [getD_set_eq hl] at h2; cases h2
  two := fun _ => hv
theorem PushJ.end_ {w0 : World} {n q i k d m : Nat} {X : VP} {Y : World → Prop} {a : Act} {w : World} (h : PushJ w0 n q i k d X Y (Array.replicate m true) a w) (hk : k < m) : Y w := h.two (by simp [hk])
theorem getD_ft {l : Array Bool} {i : Nat} (h : ¬ l.getD i false = true) : l.getD i false = false := by
  cases hh : l.getD i false
  · rfl
  · exact absurd hh h
end Go.Proofs.Ytcblmkhhhibddaa
