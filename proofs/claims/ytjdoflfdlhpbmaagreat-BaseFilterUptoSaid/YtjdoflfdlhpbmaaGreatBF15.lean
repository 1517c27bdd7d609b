/-
  The rely rule with a tail, where what is known by which operations are over speaks of the frame too; blocks that the region makes are apart.
  (*base.Base).Add in general.
-/
import Derived.Test.YtjdoflfdlhpbmaaGreatBF14
namespace Go.Proofs.YtjdoflfdlhpbmaaGreat
open Go.RowKit

def StepA (R : World → World → Prop) (J : Array Bool → Act → World → Prop) (P : Program) (ops : List Oper) (Vs : List VP) (a₀ : Act) (w₀ : World) (Q : Exit → Act → World → Prop) (i : Nat) (o : Oper) (V : VP) : Prop :=
  ∀ listed a w, J listed a w → listed.getD i true = false → (∀ e ∈ o.after, Region.binds .any e = true → listed.getD e.on false = true) → R w₀ w → a.defers = a₀.defers → (∀ t, (dsts ops).contains t = false → a.tmps[t]?.getD undef = a₀.tmps[t]?.getD undef) →
    predsImp ops Vs a w (∀ K : Act → World → Prop, (∀ v w', V v w' → R w w' → J (listed.setIfInBounds i true) (a.put o.dst v) w' → K (a.put o.dst v) w') → o.wp P a w K Q) o.after.toList

def stepsA (R : World → World → Prop) (J : Array Bool → Act → World → Prop) (P : Program) (ops : List Oper) (Vs : List VP) (a₀ : Act) (w₀ : World) (Q : Exit → Act → World → Prop) : List Oper → List VP → Nat → Prop
  | [], _, _ => True
  | o :: os, V :: Vs', i => StepA R J P ops Vs a₀ w₀ Q i o V ∧ stepsA R J P ops Vs a₀ w₀ Q os Vs' (i + 1)
  | _ :: _, [], _ => False

section
variable {P : Program} {ops : List Oper} {Vs : List VP} {a₀ : Act} {w₀ : World} {Q : Exit → Act → World → Prop} {R : World → World → Prop} {J : Array Bool → Act → World → Prop} {m : Nat}

theorem stepsA_at : ∀ {os : List Oper} {Vs' : List VP} {k i : Nat} {o : Oper}, stepsA R J P ops Vs a₀ w₀ Q os Vs' k → os[i]? = some o → StepA R J P ops Vs a₀ w₀ Q (k + i) o (Vs'.getD i (fun _ _ => True))
  | [], _, _, i, o, _, hi => by simp at hi
  | o' :: os, [], _, _, _, h, _ => h.elim
  | o' :: os, V :: Vs', k, 0, o, h, hi => by
    simp only [List.getElem?_cons_zero, Option.some.injEq] at hi
    subst hi
    exact h.1
  | o' :: os, V :: Vs', k, i + 1, o, h, hi => by
    simp only [List.getElem?_cons_succ] at hi
    have := stepsA_at h.2 hi
    rw [show k + 1 + i = k + (i + 1) by omega] at this
    simpa using this

/-- An operation that turns nothing but new memory, and of which J does not speak. -/
theorem stepA_plain {i : Nat} {o : Oper} {V : VP} (hG : ∀ w w', Gr w w' → R w w') (hJ : ∀ listed a w w' v, J listed a w → Gr w w' → J (listed.setIfInBounds i true) (a.put o.dst v) w')
    (h : ∀ a w, R w₀ w → (∀ t, (dsts ops).contains t = false → a.tmps[t]?.getD undef = a₀.tmps[t]?.getD undef) → predsImp ops Vs a w (∀ K : Act → World → Prop, (∀ v w', V v w' → Gr w w' → K (a.put o.dst v) w') → o.wp P a w K Q) o.after.toList) :
    StepA R J P ops Vs a₀ w₀ Q i o V := by
  intro listed a w hj _ _ hr _ hf
  have h1 := h a w hr hf
  have : ∀ es : List Edge, predsImp ops Vs a w (∀ K : Act → World → Prop, (∀ v w', V v w' → Gr w w' → K (a.put o.dst v) w') → o.wp P a w K Q) es → predsImp ops Vs a w (∀ K : Act → World → Prop, (∀ v w', V v w' → R w w' → J (listed.setIfInBounds i true) (a.put o.dst v) w' → K (a.put o.dst v) w') → o.wp P a w K Q) es := by
    intro es
    induction es with
    | nil => exact fun h2 K hK => h2 K fun v w' hv hg => hK v w' hv (hG _ _ hg) (hJ _ _ _ _ _ hj hg)
    | cons e es ih =>
      intro h2
      simp only [predsImp] at h2 ⊢
      split at h2
      · rename_i hb
        rw [if_pos hb]
        cases hd : dstAt ops e.on with
        | none => simp only [hd] at h2 ⊢; exact ih h2
        | some d => simp only [hd] at h2 ⊢; exact fun v h3 h4 => ih (h2 v h3 h4)
      · rename_i hb
        rw [if_neg hb]
        exact ih h2
  exact this _ h1

/-- The state in the middle of the region. -/
structure MidA (R : World → World → Prop) (J : Array Bool → Act → World → Prop) (ops : List Oper) (Vs : List VP) (a₀ : Act) (w₀ : World) (listed : Array Bool) (a : Act) (w : World) : Prop where
  sz : listed.size = ops.length
  grown : R w₀ w
  st : J listed a w
  defers : a.defers = a₀.defers
  size : a.tmps.size = a₀.tmps.size
  old : ∀ t, (∀ i o, ops[i]? = some o → o.dst = some t → listed.getD i false = false) → a.tmps[t]? = a₀.tmps[t]?
  val : ∀ i o d, ops[i]? = some o → o.dst = some d → listed.getD i false = true → (Vs.getD i (fun _ _ => True)) (a.tmps.getD d undef) w
  bare : ∀ i o, ops[i]? = some o → o.dst = none → listed.getD i false = true → ∃ v, (Vs.getD i (fun _ _ => True)) v w

theorem mid_stepA (hB : relyB ops a₀.tmps.size = true) (hRt : ∀ a b c, R a b → R b c → R a c) (hst : StableR R Vs) {listed : Array Bool} {a a' : Act} {w w' : World} {i : Nat} {o : Oper} {v : Value}
    (hm : MidA R J ops Vs a₀ w₀ listed a w) (hi : ops[i]? = some o) (ha : a' = a.put o.dst v) (hv : (Vs.getD i (fun _ _ => True)) v w') (hg : R w w') (hj : J (listed.setIfInBounds i true) a' w') :
    MidA R J ops Vs a₀ w₀ (listed.setIfInBounds i true) a' w' := by
  obtain ⟨hn, hlt, _, _⟩ := relyB_spec hB
  have hil : i < listed.size := by rw [hm.sz]; exact (List.getElem?_eq_some_iff.1 hi).1
  have hstab : ∀ j v, (Vs.getD j (fun _ _ => True)) v w → (Vs.getD j (fun _ _ => True)) v w' := by
    intro j v h
    by_cases hj : j < Vs.length
    · have e : Vs.getD j (fun _ _ => True) = Vs[j] := by simp [List.getD, hj]
      rw [e] at h ⊢
      exact hst _ (List.getElem_mem hj) _ _ _ h hg
    · have e : Vs.getD j (fun _ _ => True) = (fun _ _ => True) := by simp [List.getD, List.getElem?_eq_none (Nat.le_of_not_lt hj)]
      rw [e]
      trivial
  subst ha
  refine ⟨by simpa using hm.sz, hRt _ _ _ hm.grown hg, hj, ?_, ?_, fun t ht => ?_, fun j oj d hj hd hl => ?_, fun j oj hj hd hl => ?_⟩
  · rw [← hm.defers]; unfold Act.put; split <;> rfl
  · rw [← hm.size]; unfold Act.put; split <;> simp
  · have h1 : o.dst ≠ some t := fun e => by
      have := ht i o hi e
      simp [hil] at this
    have h2 := hm.old t (fun j oj hj hd => by
      have := ht j oj hj hd
      by_cases hji : i = j
      · subst hji
        rw [hi] at hj
        cases hj
        exact absurd hd h1
      · rwa [getD_set_ne false hji] at this)
    rw [← h2]
    unfold Act.put
    split
    · rename_i d hd
      have hne : d ≠ t := fun e => h1 (by rw [hd, e])
      simp [Array.getElem?_setIfInBounds_ne hne]
    · rfl
  · by_cases hji : i = j
    · subst hji
      rw [hi] at hj
      cases hj
      have hdl : d < a.tmps.size := by rw [hm.size]; exact hlt d (mem_dsts hi hd)
      have e : (a.put o.dst v).tmps.getD d undef = v := by simp [Act.put, hd, hdl]
      rw [e]
      exact hv
    · rw [getD_set_ne false hji] at hl
      have h2 := hstab _ _ (hm.val j oj d hj hd hl)
      have e : (a.put o.dst v).tmps.getD d undef = a.tmps.getD d undef := by
        unfold Act.put
        split
        · rename_i d' hd'
          have hne : d' ≠ d := fun e => hji (dst_inj hn hi hj hd' (by rw [hd, e]))
          simp [Array.getElem?_setIfInBounds_ne hne]
        · rfl
      rw [e]
      exact h2
  · by_cases hji : i = j
    · subst hji
      exact ⟨v, hv⟩
    · rw [getD_set_ne false hji] at hl
      obtain ⟨u, hu⟩ := hm.bare j oj hj hd hl
      exact ⟨u, hstab _ _ hu⟩

theorem mid_finA (hB : relyB ops a₀.tmps.size = true) {K : Act → World → Prop} {listed : Array Bool} {a : Act} {w : World} (hmid : MidA R J ops Vs a₀ w₀ listed a w) (hall : ∀ i, i < ops.length → listed.getD i false = true)
    (hfin : finAll K w ops Vs a₀) : K a w := by
  obtain ⟨hn, hlt, _, _⟩ := relyB_spec hB
  have hf := finAll_elim (os := ops) (Vs' := Vs) (b := a₀) (f := fun i => match dstAt ops i with | some d => a.tmps.getD d undef | none => Classical.epsilon fun v => (Vs.getD i (fun _ _ => True)) v w) (k := 0) (K := K) (w := w) ?_ hfin
  · have e : (ops.zipIdx 0 |>.foldl (fun a' x => a'.put x.1.dst (match dstAt ops x.2 with | some d => a.tmps.getD d undef | none => Classical.epsilon fun v => (Vs.getD x.2 (fun _ _ => True)) v w)) a₀) = a := by
      have hT : (ops.zipIdx 0 |>.foldl (fun a' x => a'.put x.1.dst (match dstAt ops x.2 with | some d => a.tmps.getD d undef | none => Classical.epsilon fun v => (Vs.getD x.2 (fun _ _ => True)) v w)) a₀).tmps = a.tmps := by
        apply Array.ext_getElem?
        intro t
        obtain ⟨h1, h2⟩ := fold_tmps (f := fun i => match dstAt ops i with | some d => a.tmps.getD d undef | none => Classical.epsilon fun v => (Vs.getD i (fun _ _ => True)) v w) (os := ops) (b := a₀) (k := 0) t hn hlt
        by_cases hex : ∃ (i : Nat) (o : Oper), ops[i]? = some o ∧ o.dst = some t
        · obtain ⟨i, o, hi, hd⟩ := hex
          rw [h1 i o hi hd]
          have hts : t < a.tmps.size := by rw [hmid.size]; exact hlt t (mem_dsts hi hd)
          simp [dstAt, hi, hd, hts]
        · rw [h2 (fun i o hi hd => hex ⟨i, o, hi, hd⟩)]
          exact (hmid.old t (fun i o hi hd => (hex ⟨i, o, hi, hd⟩).elim)).symm
      have hD := fold_defers (f := fun i => match dstAt ops i with | some d => a.tmps.getD d undef | none => Classical.epsilon fun v => (Vs.getD i (fun _ _ => True)) v w) (os := ops) (b := a₀) (k := 0)
      generalize (ops.zipIdx 0 |>.foldl (fun a' x => a'.put x.1.dst (match dstAt ops x.2 with | some d => a.tmps.getD d undef | none => Classical.epsilon fun v => (Vs.getD x.2 (fun _ _ => True)) v w)) a₀) = c at hT hD
      obtain ⟨ct, cd⟩ := c
      obtain ⟨at', ad⟩ := a
      have hd := hmid.defers
      simp only at hT hD hd
      rw [hT, hD, hd]
    rw [e] at hf
    exact hf
  · intro i o hi V hV
    have hlen : i < ops.length := (List.getElem?_eq_some_iff.1 hi).1
    have eV : Vs.getD i (fun _ _ => True) = V := by simp [List.getD, hV]
    simp only [Nat.zero_add, dstAt, hi, Option.bind_some]
    cases hd : o.dst with
    | some d =>
      have := hmid.val i o d hi hd (hall i hlen)
      rwa [eV] at this
    | none =>
      have := hmid.bare i o hi hd (hall i hlen)
      rw [eV] at this ⊢
      exact Classical.epsilon_spec this

theorem mid_startA (hG : ∀ w, Gr w₀ w → R w₀ w) (Vs : List VP) (a₀ : Act) (hJ0 : ∀ w, Gr w₀ w → J (Array.replicate ops.length false) a₀ w) : MidA R J ops Vs a₀ w₀ (Array.replicate ops.length false) a₀ { w₀ with drawn := w₀.drawn + 1 } := by
  refine ⟨by simp, hG _ ⟨rfl, rfl, rfl, Nat.le_refl _, fun _ _ => rfl⟩, hJ0 _ ⟨rfl, rfl, rfl, Nat.le_refl _, fun _ _ => rfl⟩, rfl, rfl, fun _ _ => rfl, fun i o d hi hd hl => ?_, fun i o hi hd hl => ?_⟩
  all_goals
    have : i < ops.length := (List.getElem?_eq_some_iff.1 hi).1
    simp [this] at hl

theorem wpAny_mid_tailA (hnog : ∀ o ∈ ops.take m, o.guard = none) (hB : tailB ops m a₀.tmps.size = true) (hm : m ≤ ops.length) (hRt : ∀ a b c, R a b → R b c → R a c) (hst : StableR R Vs) (hsteps : stepsA R J P (ops.take m) Vs a₀ w₀ Q (ops.take m) Vs 0)
    (hfin : ∀ listed a w, MidA R J (ops.take m) Vs a₀ w₀ listed a w → (∀ i, i < (ops.take m).length → listed.getD i false = true) → wpList P ops.toArray Q (ops.drop m) a w) :
    ∀ (fuel : Nat) (listed : Array Bool) (a : Act) (w : World), listed.size = ops.length → listed.count false ≤ fuel → Shut ops listed → (∀ i, m ≤ i → i < ops.length → listed.getD i true = false) →
      MidA R J (ops.take m) Vs a₀ w₀ (listed.extract 0 m) a w → wpAny P .any ops.toArray Q fuel listed a w := by
  obtain ⟨hR, hlt, hanc, hgrd⟩ := tailB_spec hB
  have hlen : (ops.take m).length = m := by rw [List.length_take]; omega
  have hext : ∀ (listed : Array Bool) (i : Nat), i < m → ∀ d, (listed.extract 0 m).getD i d = listed.getD i d := by
    intro listed i hi d
    simp only [Array.getD_eq_getD_getElem?, Array.getElem?_extract]
    by_cases h : i < listed.size
    · rw [if_pos (by omega)]; simp
    · rw [if_neg (by omega)]; simp [Array.getElem?_eq_none (Nat.le_of_not_lt h)]
  have hexts : ∀ (listed : Array Bool) (i : Nat), i < m → (listed.setIfInBounds i true).extract 0 m = (listed.extract 0 m).setIfInBounds i true := by
    intro listed i hi
    apply Array.ext_getElem?
    intro j
    simp only [Array.getElem?_extract, Array.getElem?_setIfInBounds, Array.size_setIfInBounds, Array.size_extract, Nat.sub_zero, Nat.zero_add]
    by_cases hj : j < m ∧ j < listed.size
    · by_cases e : i = j
      · subst e
        simp [hj]
      · have : j < min m listed.size := by omega
        simp [this, e]
    · have : ¬ j < min m listed.size := by omega
      by_cases e : i = j
      · subst e
        simp [this]
      · simp [this, e]
  intro fuel
  induction fuel with
  | zero =>
    intro listed a w hs hc hshut hno hmid
    by_cases hall : ∀ i, i < m → listed.getD i false = true
    · exact wpAny_tail hB (ops.drop m) m 0 listed a w (Nat.le_refl _) (fun j => by rw [List.getElem?_drop]) (by
        have hz : (ops.drop m).length = 0 := by
          rw [List.length_drop]
          rcases Nat.lt_or_ge m ops.length with h | h
          · have h5 := hno m (Nat.le_refl _) h
            have := count_set h5
            omega
          · omega
        omega) hs hshut (fun i hi _ => hall i hi) hno (hfin _ a w hmid (fun i hi => by rw [hext listed i (by omega)]; exact hall i (by omega)))
    · exfalso
      apply hall
      intro i hi
      have hi' : i < listed.size := by omega
      by_cases h : listed.getD i false = true
      · exact h
      · have h5 : listed.getD i true = false := by simpa [hi'] using h
        have := count_set h5
        omega
  | succ fuel ih =>
    intro listed a w hs hc hshut hno hmid
    by_cases hall : ∀ i, i < m → listed.getD i false = true
    · have hcount : (ops.drop m).length ≤ fuel + 1 := by
        have h5 : ops.length - m ≤ listed.count false := by
          have h6 : (listed.extract m listed.size).count false ≤ listed.count false := by
            rw [← Array.count_toList, ← Array.count_toList, Array.toList_extract]
            exact List.Sublist.count_le _ (List.Sublist.trans (List.take_sublist _ _) (List.drop_sublist _ _))
          have h7 : (listed.extract m listed.size).count false = (listed.extract m listed.size).size := by
            rw [Array.count_eq_size]
            intro b hb
            obtain ⟨j, hj, rfl⟩ := Array.getElem_of_mem hb
            simp only [Array.size_extract] at hj
            have h8 := hno (m + j) (by omega) (by omega)
            have h9 : m + j < listed.size := by omega
            simp only [Array.getElem_extract]
            simpa [h9] using h8.symm
          rw [h7, Array.size_extract] at h6
          omega
        rw [List.length_drop]
        omega
      exact wpAny_tail hB (ops.drop m) m (fuel + 1) listed a w (Nat.le_refl _) (fun j => by rw [List.getElem?_drop]) hcount hs hshut (fun i hi _ => hall i hi) hno
        (hfin _ a w hmid (fun i hi => by rw [hext listed i (by omega)]; exact hall i (by omega)))
    · have hpre : ∀ i ∈ Region.ready .any ops.toArray listed, i < m := by
        intro i hi
        rcases Nat.lt_or_ge i m with h | h
        · exact h
        · exfalso
          obtain ⟨h0, o, ho, hal⟩ := mem_ready.1 hi
          have ho' : ops[i]? = some o := by simpa using ho
          have hil := (List.getElem?_eq_some_iff.1 ho').1
          exact hall fun j hj => anc_listed hshut (i + 1) i o ho' hal j (hanc i hil h j (by omega))
      refine ⟨fun hr => ?_, fun i hi => ?_⟩
      · exfalso
        apply hall
        intro i
        induction i using Nat.strongRecOn with
        | _ i ihi =>
          intro hi
          by_cases h : listed.getD i false = true
          · exact h
          · have hi' : i < listed.size := by omega
            have hmem : i ∈ Region.ready .any ops.toArray listed := by
              rw [mem_ready]
              refine ⟨by simpa [hi'] using h, ops[i], by simp [show i < ops.length by omega], fun e he hb => ?_⟩
              have := hlt i ops[i] (by simp) e he hb
              exact ihi e.on this (by omega)
            rw [hr] at hmem
            cases hmem
      · have him := hpre i hi
        obtain ⟨h0, o, ho, hal⟩ := mem_ready.1 hi
        have ho' : ops[i]? = some o := by simpa using ho
        have hot : (ops.take m)[i]? = some o := by rw [List.getElem?_take, if_pos him]; exact ho'
        have hstep := stepsA_at hsteps hot (listed.extract 0 m) a w hmid.st (by rw [Nat.zero_add, hext listed i him]; exact h0) (fun e he hb => by rw [hext listed e.on (Nat.lt_trans (hlt i o ho' e he hb) him)]; exact hal e he hb) hmid.grown hmid.defers (fun t ht => by
          have h1 := hmid.old t (fun j oj hj hd => by
            have := mem_dsts hj hd
            rw [List.contains_eq_mem, decide_eq_false_iff_not] at ht
            exact absurd this ht)
          simp only [h1])
        have hres := predsImp_elim (fun e he hb d hd => by
          unfold dstAt at hd
          cases hoe : (ops.take m)[e.on]? with
          | none => simp [hoe] at hd
          | some oe =>
            simp only [hoe, Option.bind_some] at hd
            have hem : e.on < m := by
              have := (List.getElem?_eq_some_iff.1 hoe).1
              omega
            have := hmid.val e.on oe d hoe hd (by rw [hext listed e.on hem]; exact hal e (by simpa using he) hb)
            rwa [Array.getD_eq_getD_getElem?] at this) hstep
        have hc' := count_set h0
        rw [Nat.zero_add] at hres
        have hnext : ∀ v w', (Vs.getD i (fun _ _ => True)) v w' → R w w' → J ((listed.extract 0 m).setIfInBounds i true) (a.put o.dst v) w' → wpAny P .any ops.toArray Q fuel (listed.setIfInBounds i true) (a.put o.dst v) w' := fun v w' hv hg hj =>
          ih _ _ _ (by simpa using hs) (by omega) (shut_set hshut ho' hal) (fun j hj hj' => by rw [getD_set_ne true (by omega : i ≠ j)]; exact hno j hj hj')
            (by rw [hexts listed i him]; exact mid_stepA hR hRt hst hmid hot rfl hv hg hj)
        unfold wpOp
        simp only [ho]
        rw [wantedE_eq]
        have hw : wantedE ops o a = true := by simp [wantedE, hnog o (List.mem_of_getElem? hot)]
        rw [if_pos hw]
        exact .inl (hres _ hnext)

/-- THE RULE. -/
theorem wp_region_relyA {id : Nat} (m : Nat) (Vs : List VP) (R : World → World → Prop) (J : Array Bool → Act → World → Prop) (hm : P.follows .mixedOrders = true) (hB : tailB ops m a₀.tmps.size = true) (hml : m ≤ ops.length) (hng : ((ops.take m).all fun o => o.guard.isNone) = true)
    (hG : ∀ w w', Gr w w' → R w w') (hRt : ∀ a b c, R a b → R b c → R a c) (hJ0 : ∀ w, Gr w₀ w → J (Array.replicate (ops.take m).length false) a₀ w) (hst : StableR R Vs)
    (hsteps : stepsA R J P (ops.take m) Vs a₀ w₀ Q (ops.take m) Vs 0) (hfin : ∀ w, R w₀ w → finAll (fun a w => J (Array.replicate (ops.take m).length true) a w → wpList P ops.toArray Q (ops.drop m) a w) w (ops.take m) Vs a₀) : (Code.region id ops.toArray true).wp P Q a₀ w₀ := by
  have hnog : ∀ o ∈ ops.take m, o.guard = none := fun o ho => by
    have := List.all_eq_true.1 hng o ho
    cases hg : o.guard with
    | none => rfl
    | some x => rw [hg] at this; cases this
  refine wp_region_any hm ?_
  have hlen : (ops.take m).length = m := by rw [List.length_take]; omega
  have he : (Array.replicate ops.length false).extract 0 m = Array.replicate (ops.take m).length false := by
    apply Array.ext_getElem?
    intro i
    simp only [Array.getElem?_extract, Array.size_replicate, Array.getElem?_replicate, Nat.zero_add, Nat.sub_zero, hlen]
    by_cases h : i < m
    · simp [h, show i < min m ops.length by omega, show i < ops.length by omega]
    · simp [h, show ¬ i < min m ops.length by omega]
  have := wpAny_mid_tailA (Q := Q) hnog hB hml hRt hst hsteps (fun listed a w hmid hall => mid_finA (K := fun a w => J (Array.replicate (ops.take m).length true) a w → wpList P ops.toArray Q (ops.drop m) a w) (tailB_spec hB).1 hmid hall (hfin w hmid.grown) (by
    have e : listed = Array.replicate (ops.take m).length true := by
      apply Array.ext
      · rw [Array.size_replicate]; exact hmid.sz
      · intro i h1 h2
        have h3 := hall i (by rw [Array.size_replicate] at h2; exact h2)
        rw [Array.getElem_replicate]
        simpa [h1] using h3
    rw [← e]
    exact hmid.st)) ops.length (Array.replicate ops.length false) a₀ { w₀ with drawn := w₀.drawn + 1 } (by simp) (by simp)
    (fun i o hi hl => by
      have : i < ops.length := (List.getElem?_eq_some_iff.1 hi).1
      simp [this] at hl)
    (fun i _ hi => by simp [hi]) (by rw [he]; exact mid_startA (fun w h => hG _ _ h) _ _ hJ0)
  simpa using this
end

/-- The values of these operations (number, slot) are apart, and lie in the world. -/
def Apart (D : List (Nat × Nat)) (listed : Array Bool) (a : Act) (w : World) : Prop :=
  (∀ x ∈ D, listed.getD x.1 false = true → ∀ B, a.tmps[x.2]?.getD undef = .pointer (some ⟨B, 0, none⟩) → B < w.heap.size) ∧
  ∀ x ∈ D, ∀ y ∈ D, x ≠ y → listed.getD x.1 false = true → listed.getD y.1 false = true → ∀ B, a.tmps[x.2]?.getD undef = .pointer (some ⟨B, 0, none⟩) → a.tmps[y.2]?.getD undef ≠ .pointer (some ⟨B, 0, none⟩)
theorem Apart.start (D : List (Nat × Nat)) (n : Nat) (a : Act) (w : World) : Apart D (Array.replicate n false) a w := by
  have : ∀ i, (Array.replicate n false).getD i false = false := by
    intro i
    rw [Array.getD_eq_getD_getElem?, Array.getElem?_replicate]
    split <;> rfl
  exact ⟨fun x _ h => absurd h (by rw [this]; decide), fun x _ y _ _ h => absurd h (by rw [this]; decide)⟩
theorem put_ne {a : Act} {d : Option Tmp} {v : Value} {t : Nat} (h : d ≠ some t) : (a.put d v).tmps[t]? = a.tmps[t]? := by
  unfold Act.put
  split
  · rename_i d' 
    have : d' ≠ t := fun e => h (by rw [e])
    simp [Array.getElem?_setIfInBounds_ne this]
  · rfl
theorem put_eq {a : Act} {t : Nat} {v x : Value} (h : (a.put (some t) v).tmps[t]?.getD undef = x) (hx : x ≠ undef) : v = x := by
  unfold Act.put at h
  simp only [Array.getElem?_setIfInBounds_self] at h
  split at h
  · exact h
  · exact absurd h.symm hx
theorem Apart.other {D : List (Nat × Nat)} {i : Nat} {d : Option Tmp} (hi : (D.all fun x => x.1 != i && d != some x.2) = true) (listed : Array Bool) (a : Act) (w w' : World) (v : Value) (h : Apart D listed a w) (hg : Gr w w') : Apart D (listed.setIfInBounds i true) (a.put d v) w' := by
  have h1 : ∀ x ∈ D, i ≠ x.1 ∧ d ≠ some x.2 := fun x hx => by
    have := List.all_eq_true.1 hi x hx
    simp only [Bool.and_eq_true, bne_iff_ne] at this
    exact ⟨fun e => this.1 e.symm, this.2⟩
  refine ⟨fun x hx hl B hB => ?_, fun x hx y hy hxy hl hl' B hB => ?_⟩
  · rw [getD_set_ne false (h1 x hx).1] at hl
    rw [put_ne (h1 x hx).2] at hB
    exact Nat.lt_of_lt_of_le (h.1 x hx hl B hB) hg.size
  · rw [getD_set_ne false (h1 x hx).1] at hl
    rw [getD_set_ne false (h1 y hy).1] at hl'
    rw [put_ne (h1 x hx).2] at hB
    rw [put_ne (h1 y hy).2]
    exact h.2 x hx y hy hxy hl hl' B hB
theorem Apart.new {D : List (Nat × Nat)} {i d : Nat} (hi : (D.all fun x => decide (x = (i, d)) || (x.1 != i && x.2 != d)) = true) {listed : Array Bool} {a : Act} {w w' : World} {B : Nat} (h : Apart D listed a w) (hg : Gr w w') (h1 : w.heap.size ≤ B) (h2 : B < w'.heap.size) :
    Apart D (listed.setIfInBounds i true) (a.put (some d) (.pointer (some ⟨B, 0, none⟩))) w' := by
  have hd : ∀ x ∈ D, x = (i, d) ∨ (i ≠ x.1 ∧ (some d : Option Tmp) ≠ some x.2) := fun x hx => by
    have := List.all_eq_true.1 hi x hx
    simp only [Bool.or_eq_true, decide_eq_true_eq, Bool.and_eq_true, bne_iff_ne] at this
    exact this.imp id fun h => ⟨fun e => h.1 e.symm, fun e => h.2 (Option.some.inj e).symm⟩
  have hu : ∀ B, (Value.pointer (some ⟨B, 0, none⟩)) ≠ undef := fun B e => by cases e
  refine ⟨fun x hx hl B' hB => ?_, fun x hx y hy hxy hl hl' B' hB hB' => ?_⟩
  · rcases hd x hx with rfl | hn
    · have := put_eq hB (hu _)
      cases this
      exact h2
    · rw [getD_set_ne false hn.1] at hl
      rw [put_ne hn.2] at hB
      exact Nat.lt_of_lt_of_le (h.1 x hx hl B' hB) hg.size
  · rcases hd x hx with rfl | hn
    · rcases hd y hy with rfl | hn'
      · exact hxy rfl
      · have := put_eq hB (hu _)
        cases this
        rw [getD_set_ne false hn'.1] at hl'
        rw [put_ne hn'.2] at hB'
        have := h.1 y hy hl' B hB'
        omega
    · rw [getD_set_ne false hn.1] at hl
      rw [put_ne hn.2] at hB
      rcases hd y hy with rfl | hn'
      · have := put_eq hB' (hu _)
        cases this
        have := h.1 x hx hl B hB
        omega
      · rw [getD_set_ne false hn'.1] at hl'
        rw [put_ne hn'.2] at hB'
        exact h.2 x hx y hy hxy hl hl' B' hB hB'
theorem Apart.apart {D : List (Nat × Nat)} {n : Nat} {a : Act} {w : World} (h : Apart D (Array.replicate n true) a w) {x y : Nat × Nat} (hx : x ∈ D) (hy : y ∈ D) (hxy : x ≠ y) (hn : x.1 < n) (hn' : y.1 < n) {B B' : Nat} (h1 : a.tmps[x.2]?.getD undef = .pointer (some ⟨B, 0, none⟩)) (h2 : a.tmps[y.2]?.getD undef = .pointer (some ⟨B', 0, none⟩)) : B ≠ B' := by
  have hl : ∀ i, i < n → (Array.replicate n true).getD i false = true := fun i hi => by
    rw [Array.getD_eq_getD_getElem?, Array.getElem?_replicate, if_pos hi]; rfl
  rintro rfl
  exact h.2 x hx y hy hxy (hl _ hn) (hl _ hn') B h1 h2
end Go.Proofs.YtjdoflfdlhpbmaaGreat

namespace Go.Proofs.YtjdoflfdlhpbmaaGreat
open Go.RowKit Go.Maps Go.Lib

theorem rowIs.get {S : Nat → Prop} {w : World} {v : Option Value} {r : Option (List HdT)} (h : rowIs S w v r) : ∃ (p : Option Addr) (c : Nat) (M : List Hd), v.getD (.slice none 0 0) = .slice p M.length c ∧ HSl S w p c M ∧ M.map Hd.er = r.getD [] := by
  cases r with
  | none => exact ⟨none, 0, [], by rw [show v = none from h]; rfl, ⟨Nat.le_refl _, by simp, by omega, .inl rfl, fun x hx => by cases hx⟩, rfl⟩
  | some L => obtain ⟨p, c, M, h1, h2, h3⟩ := h; exact ⟨p, c, M, by rw [h1]; rfl, h2, h3⟩
theorem put_over {K : Type} (x : K) (v : Value) (g : K → Option Value) : ∃ f : K → Option Value, f x = some v ∧ ∀ y, y ≠ x → f y = g y := by
  classical
  exact ⟨fun y => if y = x then some v else g y, if_pos rfl, fun y hy => if_neg hy⟩

/-- A clause that lies well. -/
def hdOk (S : Nat → Prop) (w : World) (x : Hd) (e : HdT) : Prop := x.er = e ∧ x.h.In w ∧ x.b.In w ∧ x.h.On S ∧ x.b.On S
theorem hdOk.gr {S : Nat → Prop} {w w' : World} {x : Hd} {e : HdT} (h : hdOk S w x e) (hg : Gr w w') : hdOk S w' x e := ⟨h.1, Tm.In_below hg h.2.1, Tm.In_below hg h.2.2.1, h.2.2.2⟩
def emptyP (v : Value) : Prop := ∃ (q : Option Addr) (c : Nat), v = .slice q 0 c
def emptyV : VP := fun v _ => emptyP v
theorem emptyV_stable : ∀ v w w', emptyV v w → Gr w w' → emptyV v w' := fun _ _ _ h _ => h
def hdV (S : Nat → Prop) (e : HdT) : VP := fun v w => ∃ x : Hd, v = .agg x.cells.toArray ∧ hdOk S w x e
theorem hdV_stable {S : Nat → Prop} {e : HdT} : ∀ v w w', hdV S e v w → Gr w w' → hdV S e v w' := fun _ _ _ ⟨x, h1, h2⟩ hg => ⟨x, h1, h2.gr hg⟩
def hdRowV (S : Nat → Prop) (e : HdT) : VP := fun v w => ∃ (x : Hd) (g : Nat), v = .slice (some ⟨g, 0, none⟩) 1 1 ∧ (∀ j u, x.cells[j]? = some u → w.cell? ⟨g, j, none⟩ = some u) ∧ hdOk S w x e
theorem hdRowV_stable {S : Nat → Prop} {e : HdT} : ∀ v w w', hdRowV S e v w → Gr w w' → hdRowV S e v w' := fun _ _ _ ⟨x, g, h1, h2, h3⟩ hg => ⟨x, g, h1, fun j u hu => Gr.at hg (h2 j u hu), h3.gr hg⟩
def hdThreeV (R1 R2 : Value → Prop) (S : Nat → Prop) (e : HdT) : VP := fun v w => ∃ (x : Hd) (g a : Nat) (u1 u2 : Value), v = .slice (some ⟨a, 0, none⟩) 3 3 ∧ R1 u1 ∧ R2 u2 ∧ w.cell? ⟨a, 0, none⟩ = some u1 ∧ w.cell? ⟨a, 1, none⟩ = some (.slice (some ⟨g, 0, none⟩) 1 1) ∧ w.cell? ⟨a, 2, none⟩ = some u2 ∧
  (∀ j u, x.cells[j]? = some u → w.cell? ⟨g, j, none⟩ = some u) ∧ hdOk S w x e
theorem hdThreeV_stable {R1 R2 : Value → Prop} {S : Nat → Prop} {e : HdT} : ∀ v w w', hdThreeV R1 R2 S e v w → Gr w w' → hdThreeV R1 R2 S e v w' :=
  fun _ _ _ ⟨x, g, a, u1, u2, h1, r1, r2, d0, d1, d2, h2, h3⟩ hg => ⟨x, g, a, u1, u2, h1, r1, r2, Gr.at hg d0, Gr.at hg d1, Gr.at hg d2, fun j u hu => Gr.at hg (h2 j u hu), h3.gr hg⟩
def hdOwnV (B0 : Nat) (f : Hd → List Hd) (S : Nat → Prop) (e : HdT) : VP := fun v w => ∃ x : Hd, w.ownsRow B0 73 9 v (f x).length ((f x).flatMap Hd.cells) ∧ hdOk S w x e
theorem hdOwnV_stable {B0 : Nat} {f : Hd → List Hd} {S : Nat → Prop} {e : HdT} : ∀ v w w', hdOwnV B0 f S e v w → Gr w w' → hdOwnV B0 f S e v w' := fun _ _ _ ⟨x, h1, h2⟩ hg => ⟨x, ownsRow_gr h1 hg, h2.gr hg⟩

/-- A new row of one number, that is not this one. -/
def oneNewV (va : Value) (x : Int) : VP := fun v w => ∃ g : Nat, v = .slice (some ⟨g, 0, none⟩) 1 1 ∧ w.heap[g]? = some (.cells #[.int .i64 x] 3 (0, 0)) ∧ va.ownBlock ≠ some g
theorem oneNewV_kp {va : Value} {x : Int} : ∀ v w w', oneNewV va x v w → Kp (fun b => va.ownBlock = some b) w w' → oneNewV va x v w' := fun _ _ _ ⟨g, h1, h2, h3⟩ hk => ⟨g, h1, (hk.block g (Array.getElem?_eq_some_iff.1 h2).1 h3).trans h2, h3⟩
def sliceV3 : VP := fun v _ => ∃ (q : Option Addr) (n c : Nat), v = .slice q n c
theorem sliceV3_kp {va : Value} : ∀ v w w', sliceV3 v w → Kp (fun b => va.ownBlock = some b) w w' → sliceV3 v w' := fun _ _ _ h _ => h
/-- The row before an operation (number, slot), and behind it. -/
def RowJ (i s : Nat) (va : Value) (cs cs' : List Value) (B0 : Nat) (listed : Array Bool) (a : Act) (w : World) : Prop :=
  (listed.getD i false = false → w.ownsRow 0 3 1 va cs.length cs) ∧
  (listed.getD i false = true → ∃ v', w.ownsRow 0 3 1 v' cs'.length cs' ∧ (v'.ownBlock = va.ownBlock ∨ ∃ g, v'.ownBlock = some g ∧ B0 ≤ g) ∧ (a.tmps[s]?.getD undef = v' ∨ a.tmps[s]?.getD undef = undef))
theorem RowJ.start {i s : Nat} {va : Value} {cs cs' : List Value} {B0 n : Nat} {a : Act} {w : World} (h : w.ownsRow 0 3 1 va cs.length cs) : RowJ i s va cs cs' B0 (Array.replicate n false) a w := by
  have : (Array.replicate n false).getD i false = false := by
    rw [Array.getD_eq_getD_getElem?, Array.getElem?_replicate]
    split <;> rfl
  exact ⟨fun _ => h, fun h' => absurd h' (by rw [this]; decide)⟩
theorem RowJ.other {i s j : Nat} {d : Option Tmp} {va : Value} {cs cs' : List Value} {B0 : Nat} (hj : (j != i && d != some s) = true) (listed : Array Bool) (a : Act) (w w' : World) (v : Value) (h : RowJ i s va cs cs' B0 listed a w) (hg : Gr w w') :
    RowJ i s va cs cs' B0 (listed.setIfInBounds j true) (a.put d v) w' := by
  simp only [Bool.and_eq_true, bne_iff_ne] at hj
  rw [RowJ, getD_set_ne false hj.1, put_ne hj.2]
  refine ⟨fun hl => ownsRow_gr (h.1 hl) hg, fun hl => ?_⟩
  obtain ⟨v', h1, h2⟩ := h.2 hl
  exact ⟨v', ownsRow_gr h1 hg, h2⟩
theorem RowJ.before {i s : Nat} {va : Value} {cs cs' : List Value} {B0 : Nat} {listed : Array Bool} {a : Act} {w : World} (h : RowJ i s va cs cs' B0 listed a w) (hl : listed.getD i true = false) : w.ownsRow 0 3 1 va cs.length cs := by
  refine h.1 ?_
  rw [Array.getD_eq_getD_getElem?] at hl ⊢
  cases he : listed[i]? with
  | none => rfl
  | some x => rw [he] at hl; exact hl
theorem RowJ.after {i s : Nat} {va v' : Value} {cs cs' : List Value} {B0 : Nat} {listed : Array Bool} {a : Act} {w : World} (hl : listed.getD i true = false) (h1 : w.ownsRow 0 3 1 v' cs'.length cs') (h2 : v'.ownBlock = va.ownBlock ∨ ∃ g, v'.ownBlock = some g ∧ B0 ≤ g) :
    RowJ i s va cs cs' B0 (listed.setIfInBounds i true) (a.put (some s) v') w := by
  have hi : i < listed.size := by
    rcases Nat.lt_or_ge i listed.size with h | h
    · exact h
    · rw [Array.getD_eq_getD_getElem?, Array.getElem?_eq_none h] at hl; cases hl
  refine ⟨fun h => ?_, fun _ => ⟨v', h1, h2, ?_⟩⟩
  · rw [Array.getD_eq_getD_getElem?, Array.getElem?_setIfInBounds_self_of_lt hi] at h; cases h
  · show (a.tmps.setIfInBounds s v')[s]?.getD undef = v' ∨ _
    rcases Nat.lt_or_ge s a.tmps.size with h | h
    · exact .inl (by rw [Array.getElem?_setIfInBounds_self_of_lt h]; rfl)
    · exact .inr (by show (a.tmps.setIfInBounds s v')[s]?.getD undef = undef; rw [Array.getElem?_eq_none (by simpa using h)]; rfl)
theorem RowJ.end_ {i s n : Nat} {va v : Value} {cs cs' : List Value} {B0 : Nat} {a : Act} {w : World} (h : RowJ i s va cs cs' B0 (Array.replicate n true) a w) (hi : i < n) (hv : a.tmps[s]?.getD undef = v) (hu : v ≠ undef) : w.ownsRow 0 3 1 v cs'.length cs' ∧ (v.ownBlock = va.ownBlock ∨ ∃ g, v.ownBlock = some g ∧ B0 ≤ g) := by
  obtain ⟨v', h1, h2, h3⟩ := h.2 (by rw [Array.getD_eq_getD_getElem?, Array.getElem?_replicate, if_pos hi]; rfl)
  rw [hv] at h3
  rcases h3 with rfl | h3
  · exact ⟨h1, h2⟩
  · exact absurd h3 hu
end Go.Proofs.YtjdoflfdlhpbmaaGreat
