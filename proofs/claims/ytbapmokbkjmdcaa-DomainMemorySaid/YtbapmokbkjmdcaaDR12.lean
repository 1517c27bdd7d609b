/-
  The rely rule with a tail, where what is known by which operations are over speaks of the frame too; blocks that the region makes are apart.
  Within reduce: the state between two steps.
-/
import Derived.Test.YtbapmokbkjmdcaaDR11
namespace Go.Proofs.Ytbapmokbkjmdcaa
open Go.RowKit

def StepA (R : World → World → Prop) (J : Array Bool → Act → World → Prop) (P : Program) (ops : List Oper) (Vs : List VP) (a₀ : Act) (w₀ : World) (Q : Exit → Act → World → Prop) (i : Nat) (o : Oper) (V : VP) : Prop :=
  ∀ listed a w, J listed a w → listed.getD i true = false → (∀ e ∈ o.after, Region.binds .any e = true → listed.getD e.on false = true) → R w₀ w → a.defers = a₀.defers → (∀ t, (dsts ops).contains t = false → a.tmps[t]?.getD undef = a₀.tmps[t]?.getD undef) →
    predsImp ops Vs a w (∀ K : Act → World → Prop, (∀ v w', V v w' → R w w' → J (listed.setIfInBounds i true) (a.put o.dst v) w' → K (a.put o.dst v) w') → o.wp P a w K Q) o.after.toList

def stepsA (R : World → World → Prop) (J : Array Bool → Act → World → Prop) (P : Program) (ops : List Oper) (Vs : List VP) (a₀ : Act) (w₀ : World) (Q : Exit → Act → World → Prop) : List Oper → List VP → Nat → Prop
  | [], _, _ => True
  | o :: os, V :: Vs', i => StepA R J P ops Vs a₀ w₀ Q i o V ∧ stepsA R J P ops Vs a₀ w₀ Q os Vs' (i + 1)
  | _ :: _, [], _ => False

section
variable {P : Program} {ops : List Oper} {Vs : List VP} {a₀ : Act} {w₀ : World} {Q : Exit → Act → World → Prop} {R : World → World → Prop} {J : Array Bool → Act → World → Prop} {m : Nat}

theorem stepsA_at : ∀ {os : List Oper} {Vs' : List VP} {k i : Nat} {o : Oper}, stepsA R J P ops Vs a₀ w₀ Q os Vs' k → os[i]? = some o → StepA R J P ops Vs a₀ w₀ Q (k + i) o (Vs'.getD i (fun _ _ => True))
  | [], _, _, i, o, _, hi => by simp at hi
  | o' :: os, [], _, _, _, h, _ => h.elim
  | o' :: os, V :: Vs', k, 0, o, h, hi => by
    simp only [List.getElem?_cons_zero, Option.some.injEq] at hi
    subst hi
    exact h.1
  | o' :: os, V :: Vs', k, i + 1, o, h, hi => by
    simp only [List.getElem?_cons_succ] at hi
    have := stepsA_at h.2 hi
    rw [show k + 1 + i = k + (i + 1) by omega] at this
    simpa using this

/-- An operation that turns nothing but new memory, and of which J does not speak. -/
theorem stepA_plain {i : Nat} {o : Oper} {V : VP} (hG : ∀ w w', Gr w w' → R w w') (hJ : ∀ listed a w w' v, J listed a w → Gr w w' → J (listed.setIfInBounds i true) (a.put o.dst v) w')
    (h : ∀ a w, R w₀ w → (∀ t, (dsts ops).contains t = false → a.tmps[t]?.getD undef = a₀.tmps[t]?.getD undef) → predsImp ops Vs a w (∀ K : Act → World → Prop, (∀ v w', V v w' → Gr w w' → K (a.put o.dst v) w') → o.wp P a w K Q) o.after.toList) :
    StepA R J P ops Vs a₀ w₀ Q i o V := by
  intro listed a w hj _ _ hr _ hf
  have h1 := h a w hr hf
  have : ∀ es : List Edge, predsImp ops Vs a w (∀ K : Act → World → Prop, (∀ v w', V v w' → Gr w w' → K (a.put o.dst v) w') → o.wp P a w K Q) es → predsImp ops Vs a w (∀ K : Act → World → Prop, (∀ v w', V v w' → R w w' → J (listed.setIfInBounds i true) (a.put o.dst v) w' → K (a.put o.dst v) w') → o.wp P a w K Q) es := by
    intro es
    induction es with
    | nil => exact fun h2 K hK => h2 K fun v w' hv hg => hK v w' hv (hG _ _ hg) (hJ _ _ _ _ _ hj hg)
    | cons e es ih =>
      intro h2
      simp only [predsImp] at h2 ⊢
      split at h2
      · rename_i hb
        rw [if_pos hb]
        cases hd : dstAt ops e.on with
        | none => simp only [hd] at h2 ⊢; exact ih h2
        | some d => simp only [hd] at h2 ⊢; exact fun v h3 h4 => ih (h2 v h3 h4)
      · rename_i hb
        rw [if_neg hb]
        exact ih h2
  exact this _ h1

/-- The state in the middle of the region. -/
structure MidA (R : World → World → Prop) (J : Array Bool → Act → World → Prop) (ops : List Oper) (Vs : List VP) (a₀ : Act) (w₀ : World) (listed : Array Bool) (a : Act) (w : World) : Prop where
  sz : listed.size = ops.length
  grown : R w₀ w
  st : J listed a w
  defers : a.defers = a₀.defers
  size : a.tmps.size = a₀.tmps.size
  old : ∀ t, (∀ i o, ops[i]? = some o → o.dst = some t → listed.getD i false = false) → a.tmps[t]? = a₀.tmps[t]?
  val : ∀ i o d, ops[i]? = some o → o.dst = some d → listed.getD i false = true → (Vs.getD i (fun _ _ => True)) (a.tmps.getD d undef) w
  bare : ∀ i o, ops[i]? = some o → o.dst = none → listed.getD i false = true → ∃ v, (Vs.getD i (fun _ _ => True)) v w

theorem mid_stepA (hB : relyB ops a₀.tmps.size = true) (hRt : ∀ a b c, R a b → R b c → R a c) (hst : StableR R Vs) {listed : Array Bool} {a a' : Act} {w w' : World} {i : Nat} {o : Oper} {v : Value}
    (hm : MidA R J ops Vs a₀ w₀ listed a w) (hi : ops[i]? = some o) (ha : a' = a.put o.dst v) (hv : (Vs.getD i (fun _ _ => True)) v w') (hg : R w w') (hj : J (listed.setIfInBounds i true) a' w') :
    MidA R J ops Vs a₀ w₀ (listed.setIfInBounds i true) a' w' := by
  obtain ⟨hn, hlt, _, _⟩ := relyB_spec hB
  have hil : i < listed.size := by rw [hm.sz]; exact (List.getElem?_eq_some_iff.1 hi).1
  have hstab : ∀ j v, (Vs.getD j (fun _ _ => True)) v w → (Vs.getD j (fun _ _ => True)) v w' := by
    intro j v h
    by_cases hj : j < Vs.length
    · have e : Vs.getD j (fun _ _ => True) = Vs[j] := by simp [List.getD, hj]
      rw [e] at h ⊢
      exact hst _ (List.getElem_mem hj) _ _ _ h hg
    · have e : Vs.getD j (fun _ _ => True) = (fun _ _ => True) := by simp [List.getD, List.getElem?_eq_none (Nat.le_of_not_lt hj)]
      rw [e]
      trivial
  subst ha
  refine ⟨by simpa using hm.sz, hRt _ _ _ hm.grown hg, hj, ?_, ?_, fun t ht => ?_, fun j oj d hj hd hl => ?_, fun j oj hj hd hl => ?_⟩
  · rw [← hm.defers]; unfold Act.put; split <;> rfl
  · rw [← hm.size]; unfold Act.put; split <;> simp
  · have h1 : o.dst ≠ some t := fun e => by
      have := ht i o hi e
      simp [hil] at this
    have h2 := hm.old t (fun j oj hj hd => by
      have := ht j oj hj hd
      by_cases hji : i = j
      · subst hji
        rw [hi] at hj
        cases hj
        exact absurd hd h1
      · rwa [getD_set_ne false hji] at this)
    rw [← h2]
    unfold Act.put
    split
    · rename_i d hd
      have hne : d ≠ t := fun e => h1 (by rw [hd, e])
      simp [Array.getElem?_setIfInBounds_ne hne]
    · rfl
  · by_cases hji : i = j
    · subst hji
      rw [hi] at hj
      cases hj
      have hdl : d < a.tmps.size := by rw [hm.size]; exact hlt d (mem_dsts hi hd)
      have e : (a.put o.dst v).tmps.getD d undef = v := by simp [Act.put, hd, hdl]
      rw [e]
      exact hv
    · rw [getD_set_ne false hji] at hl
      have h2 := hstab _ _ (hm.val j oj d hj hd hl)
      have e : (a.put o.dst v).tmps.getD d undef = a.tmps.getD d undef := by
        unfold Act.put
        split
        · rename_i d' hd'
          have hne : d' ≠ d := fun e => hji (dst_inj hn hi hj hd' (by rw [hd, e]))
          simp [Array.getElem?_setIfInBounds_ne hne]
        · rfl
      rw [e]
      exact h2
  · by_cases hji : i = j
    · subst hji
      exact ⟨v, hv⟩
    · rw [getD_set_ne false hji] at hl
      obtain ⟨u, hu⟩ := hm.bare j oj hj hd hl
      exact ⟨u, hstab _ _ hu⟩

theorem mid_finA (hB : relyB ops a₀.tmps.size = true) {K : Act → World → Prop} {listed : Array Bool} {a : Act} {w : World} (hmid : MidA R J ops Vs a₀ w₀ listed a w) (hall : ∀ i, i < ops.length → listed.getD i false = true)
    (hfin : finAll K w ops Vs a₀) : K a w := by
  obtain ⟨hn, hlt, _, _⟩ := relyB_spec hB
  have hf := finAll_elim (os := ops) (Vs' := Vs) (b := a₀) (f := fun i => match dstAt ops i with | some d => a.tmps.getD d undef | none => Classical.epsilon fun v => (Vs.getD i (fun _ _ => True)) v w) (k := 0) (K := K) (w := w) ?_ hfin
  · have e : (ops.zipIdx 0 |>.foldl (fun a' x => a'.put x.1.dst (match dstAt ops x.2 with | some d => a.tmps.getD d undef | none => Classical.epsilon fun v => (Vs.getD x.2 (fun _ _ => True)) v w)) a₀) = a := by
      have hT : (ops.zipIdx 0 |>.foldl (fun a' x => a'.put x.1.dst (match dstAt ops x.2 with | some d => a.tmps.getD d undef | none => Classical.epsilon fun v => (Vs.getD x.2 (fun _ _ => True)) v w)) a₀).tmps = a.tmps := by
        apply Array.ext_getElem?
        intro t
        obtain ⟨h1, h2⟩ := fold_tmps (f := fun i => match dstAt ops i with | some d => a.tmps.getD d undef | none => Classical.epsilon fun v => (Vs.getD i (fun _ _ => True)) v w) (os := ops) (b := a₀) (k := 0) t hn hlt
        by_cases hex : ∃ (i : Nat) (o : Oper), ops[i]? = some o ∧ o.dst = some t
        · obtain ⟨i, o, hi, hd⟩ := hex
          rw [h1 i o hi hd]
          have hts : t < a.tmps.size := by rw [hmid.size]; exact hlt t (mem_dsts hi hd)
          simp [dstAt, hi, hd, hts]
        · rw [h2 (fun i o hi hd => hex ⟨i, o, hi, hd⟩)]
          exact (hmid.old t (fun i o hi hd => (hex ⟨i, o, hi, hd⟩).elim)).symm
      have hD := fold_defers (f := fun i => match dstAt ops i with | some d => a.tmps.getD d undef | none => Classical.epsilon fun v => (Vs.getD i (fun _ _ => True)) v w) (os := ops) (b := a₀) (k := 0)
      generalize (ops.zipIdx 0 |>.foldl (fun a' x => a'.put x.1.dst (match dstAt ops x.2 with | some d => a.tmps.getD d undef | none => Classical.epsilon fun v => (Vs.getD x.2 (fun _ _ => True)) v w)) a₀) = c at hT hD
      obtain ⟨ct, cd⟩ := c
      obtain ⟨at', ad⟩ := a
      have hd := hmid.defers
      simp only at hT hD hd
      rw [hT, hD, hd]
    rw [e] at hf
    exact hf
  · intro i o hi V hV
    have hlen : i < ops.length := (List.getElem?_eq_some_iff.1 hi).1
    have eV : Vs.getD i (fun _ _ => True) = V := by simp [List.getD, hV]
    simp only [Nat.zero_add, dstAt, hi, Option.bind_some]
    cases hd : o.dst with
    | some d =>
      have := hmid.val i o d hi hd (hall i hlen)
      rwa [eV] at this
    | none =>
      have := hmid.bare i o hi hd (hall i hlen)
      rw [eV] at this ⊢
      exact Classical.epsilon_spec this

theorem mid_startA (hG : ∀ w, Gr w₀ w → R w₀ w) (Vs : List VP) (a₀ : Act) (hJ0 : ∀ w, Gr w₀ w → J (Array.replicate ops.length false) a₀ w) : MidA R J ops Vs a₀ w₀ (Array.replicate ops.length false) a₀ { w₀ with drawn := w₀.drawn + 1 } := by
  refine ⟨by simp, hG _ ⟨rfl, rfl, rfl, Nat.le_refl _, fun _ _ => rfl⟩, hJ0 _ ⟨rfl, rfl, rfl, Nat.le_refl _, fun _ _ => rfl⟩, rfl, rfl, fun _ _ => rfl, fun i o d hi hd hl => ?_, fun i o hi hd hl => ?_⟩
  all_goals
    have : i < ops.length := (List.getElem?_eq_some_iff.1 hi).1
    simp [this] at hl

theorem wpAny_mid_tailA (hnog : ∀ o ∈ ops.take m, o.guard = none) (hB : tailB ops m a₀.tmps.size = true) (hm : m ≤ ops.length) (hRt : ∀ a b c, R a b → R b c → R a c) (hst : StableR R Vs) (hsteps : stepsA R J P (ops.take m) Vs a₀ w₀ Q (ops.take m) Vs 0)
    (hfin : ∀ listed a w, MidA R J (ops.take m) Vs a₀ w₀ listed a w → (∀ i, i < (ops.take m).length → listed.getD i false = true) → wpList P ops.toArray Q (ops.drop m) a w) :
    ∀ (fuel : Nat) (listed : Array Bool) (a : Act) (w : World), listed.size = ops.length → listed.count false ≤ fuel → Shut ops listed → (∀ i, m ≤ i → i < ops.length → listed.getD i true = false) →
      MidA R J (ops.take m) Vs a₀ w₀ (listed.extract 0 m) a w → wpAny P .any ops.toArray Q fuel listed a w := by
  obtain ⟨hR, hlt, hanc, hgrd⟩ := tailB_spec hB
  have hlen : (ops.take m).length = m := by rw [List.length_take]; omega
  have hext : ∀ (listed : Array Bool) (i : Nat), i < m → ∀ d, (listed.extract 0 m).getD i d = listed.getD i d := by
    intro listed i hi d
    simp only [Array.getD_eq_getD_getElem?, Array.getElem?_extract]
    by_cases h : i < listed.size
    · rw [if_pos (by omega)]; simp
    · rw [if_neg (by omega)]; simp [Array.getElem?_eq_none (Nat.le_of_not_lt h)]
  have hexts : ∀ (listed : Array Bool) (i : Nat), i < m → (listed.setIfInBounds i true).extract 0 m = (listed.extract 0 m).setIfInBounds i true := by
    intro listed i hi
    apply Array.ext_getElem?
    intro j
    simp only [Array.getElem?_extract, Array.getElem?_setIfInBounds, Array.size_setIfInBounds, Array.size_extract, Nat.sub_zero, Nat.zero_add]
    by_cases hj : j < m ∧ j < listed.size
    · by_cases e : i = j
      · subst e
        simp [hj]
      · have : j < min m listed.size := by omega
        simp [this, e]
    · have : ¬ j < min m listed.size := by omega
      by_cases e : i = j
      · subst e
        simp [this]
      · simp [this, e]
  intro fuel
  induction fuel with
  | zero =>
    intro listed a w hs hc hshut hno hmid
    by_cases hall : ∀ i, i < m → listed.getD i false = true
    · exact wpAny_tail hB (ops.drop m) m 0 listed a w (Nat.le_refl _) (fun j => by rw [List.getElem?_drop]) (by
        have hz : (ops.drop m).length = 0 := by
          rw [List.length_drop]
          rcases Nat.lt_or_ge m ops.length with h | h
          · have h5 := hno m (Nat.le_refl _) h
            have := count_set h5
            omega
          · omega
        omega) hs hshut (fun i hi _ => hall i hi) hno (hfin _ a w hmid (fun i hi => by rw [hext listed i (by omega)]; exact hall i (by omega)))
    · exfalso
      apply hall
      intro i hi
      have hi' : i < listed.size := by omega
      by_cases h : listed.getD i false = true
      · exact h
      · have h5 : listed.getD i true = false := by simpa [hi'] using h
        have := count_set h5
        omega
  | succ fuel ih =>
    intro listed a w hs hc hshut hno hmid
    by_cases hall : ∀ i, i < m → listed.getD i false = true
    · have hcount : (ops.drop m).length ≤ fuel + 1 := by
        have h5 : ops.length - m ≤ listed.count false := by
          have h6 : (listed.extract m listed.size).count false ≤ listed.count false := by
            rw [← Array.count_toList, ← Array.count_toList, Array.toList_extract]
            exact List.Sublist.count_le _ (List.Sublist.trans (List.take_sublist _ _) (List.drop_sublist _ _))
          have h7 : (listed.extract m listed.size).count false = (listed.extract m listed.size).size := by
            rw [Array.count_eq_size]
            intro b hb
            obtain ⟨j, hj, rfl⟩ := Array.getElem_of_mem hb
            simp only [Array.size_extract] at hj
            have h8 := hno (m + j) (by omega) (by omega)
            have h9 : m + j < listed.size := by omega
            simp only [Array.getElem_extract]
            simpa [h9] using h8.symm
          rw [h7, Array.size_extract] at h6
          omega
        rw [List.length_drop]
        omega
      exact wpAny_tail hB (ops.drop m) m (fuel + 1) listed a w (Nat.le_refl _) (fun j => by rw [List.getElem?_drop]) hcount hs hshut (fun i hi _ => hall i hi) hno
        (hfin _ a w hmid (fun i hi => by rw [hext listed i (by omega)]; exact hall i (by omega)))
    · have hpre : ∀ i ∈ Region.ready .any ops.toArray listed, i < m := by
        intro i hi
        rcases Nat.lt_or_ge i m with h | h
        · exact h
        · exfalso
          obtain ⟨h0, o, ho, hal⟩ := mem_ready.1 hi
          have ho' : ops[i]? = some o := by simpa using ho
          have hil := (List.getElem?_eq_some_iff.1 ho').1
          exact hall fun j hj => anc_listed hshut (i + 1) i o ho' hal j (hanc i hil h j (by omega))
      refine ⟨fun hr => ?_, fun i hi => ?_⟩
      · exfalso
        apply hall
        intro i
        induction i using Nat.strongRecOn with
        | _ i ihi =>
          intro hi
          by_cases h : listed.getD i false = true
          · exact h
          · have hi' : i < listed.size := by omega
            have hmem : i ∈ Region.ready .any ops.toArray listed := by
              rw [mem_ready]
              refine ⟨by simpa [hi'] using h, ops[i], by simp [show i < ops.length by omega], fun e he hb => ?_⟩
              have := hlt i ops[i] (by simp) e he hb
              exact ihi e.on this (by omega)
            rw [hr] at hmem
            cases hmem
      · have him := hpre i hi
        obtain ⟨h0, o, ho, hal⟩ := mem_ready.1 hi
        have ho' : ops[i]? = some o := by simpa using ho
        have hot : (ops.take m)[i]? = some o := by rw [List.getElem?_take, if_pos him]; exact ho'
        have hstep := stepsA_at hsteps hot (listed.extract 0 m) a w hmid.st (by rw [Nat.zero_add, hext listed i him]; exact h0) (fun e he hb => by rw [hext listed e.on (Nat.lt_trans (hlt i o ho' e he hb) him)]; exact hal e he hb) hmid.grown hmid.defers (fun t ht => by
          have h1 := hmid.old t (fun j oj hj hd => by
            have := mem_dsts hj hd
            rw [List.contains_eq_mem, decide_eq_false_iff_not] at ht
            exact absurd this ht)
          simp only [h1])
        have hres := predsImp_elim (fun e he hb d hd => by
          unfold dstAt at hd
          cases hoe : (ops.take m)[e.on]? with
          | none => simp [hoe] at hd
          | some oe =>
            simp only [hoe, Option.bind_some] at hd
            have hem : e.on < m := by
              have := (List.getElem?_eq_some_iff.1 hoe).1
              omega
            have := hmid.val e.on oe d hoe hd (by rw [hext listed e.on hem]; exact hal e (by simpa using he) hb)
            rwa [Array.getD_eq_getD_getElem?] at this) hstep
        have hc' := count_set h0
        rw [Nat.zero_add] at hres
        have hnext : ∀ v w', (Vs.getD i (fun _ _ => True)) v w' → R w w' → J ((listed.extract 0 m).setIfInBounds i true) (a.put o.dst v) w' → wpAny P .any ops.toArray Q fuel (listed.setIfInBounds i true) (a.put o.dst v) w' := fun v w' hv hg hj =>
          ih _ _ _ (by simpa using hs) (by omega) (shut_set hshut ho' hal) (fun j hj hj' => by rw [getD_set_ne true (by omega : i ≠ j)]; exact hno j hj hj')
            (by rw [hexts listed i him]; exact mid_stepA hR hRt hst hmid hot rfl hv hg hj)
        unfold wpOp
        simp only [ho]
        rw [wantedE_eq]
        have hw : wantedE ops o a = true := by simp [wantedE, hnog o (List.mem_of_getElem? hot)]
        rw [if_pos hw]
        exact .inl (hres _ hnext)

/-- THE RULE. -/
theorem wp_region_relyA {id : Nat} (m : Nat) (Vs : List VP) (R : World → World → Prop) (J : Array Bool → Act → World → Prop) (hm : P.follows .mixedOrders = true) (hB : tailB ops m a₀.tmps.size = true) (hml : m ≤ ops.length) (hng : ((ops.take m).all fun o => o.guard.isNone) = true)
    (hG : ∀ w w', Gr w w' → R w w') (hRt : ∀ a b c, R a b → R b c → R a c) (hJ0 : ∀ w, Gr w₀ w → J (Array.replicate (ops.take m).length false) a₀ w) (hst : StableR R Vs)
    (hsteps : stepsA R J P (ops.take m) Vs a₀ w₀ Q (ops.take m) Vs 0) (hfin : ∀ w, R w₀ w → finAll (fun a w => J (Array.replicate (ops.take m).length true) a w → wpList P ops.toArray Q (ops.drop m) a w) w (ops.take m) Vs a₀) : (Code.region id ops.toArray true).wp P Q a₀ w₀ := by
  have hnog : ∀ o ∈ ops.take m, o.guard = none := fun o ho => by
    have := List.all_eq_true.1 hng o ho
    cases hg : o.guard with
    | none => rfl
    | some x => rw [hg] at this; cases this
  refine wp_region_any hm ?_
  have hlen : (ops.take m).length = m := by rw [List.length_take]; omega
  have he : (Array.replicate ops.length false).extract 0 m = Array.replicate (ops.take m).length false := by
    apply Array.ext_getElem?
    intro i
    simp only [Array.getElem?_extract, Array.size_replicate, Array.getElem?_replicate, Nat.zero_add, Nat.sub_zero, hlen]
    by_cases h : i < m
    · simp [h, show i < min m ops.length by omega, show i < ops.length by omega]
    · simp [h, show ¬ i < min m ops.length by omega]
  have := wpAny_mid_tailA (Q := Q) hnog hB hml hRt hst hsteps (fun listed a w hmid hall => mid_finA (K := fun a w => J (Array.replicate (ops.take m).length true) a w → wpList P ops.toArray Q (ops.drop m) a w) (tailB_spec hB).1 hmid hall (hfin w hmid.grown) (by
    have e : listed = Array.replicate (ops.take m).length true := by
      apply Array.ext
      · rw [Array.size_replicate]; exact hmid.sz
      · intro i h1 h2
        have h3 := hall i (by rw [Array.size_replicate] at h2; exact h2)
        rw [Array.getElem_replicate]
        simpa [h1] using h3
    rw [← e]
    exact hmid.st)) ops.length (Array.replicate ops.length false) a₀ { w₀ with drawn := w₀.drawn + 1 } (by simp) (by simp)
    (fun i o hi hl => by
      have : i < ops.length := (List.getElem?_eq_some_iff.1 hi).1
      simp [this] at hl)
    (fun i _ hi => by simp [hi]) (by rw [he]; exact mid_startA (fun w h => hG _ _ h) _ _ hJ0)
  simpa using this
end

/-- The values of these operations (number, slot) are apart, and lie in the world. -/
def Apart (D : List (Nat × Nat)) (listed : Array Bool) (a : Act) (w : World) : Prop :=
  (∀ x ∈ D, listed.getD x.1 false = true → ∀ B, a.tmps[x.2]?.getD undef = .pointer (some ⟨B, 0, none⟩) → B < w.heap.size) ∧
  ∀ x ∈ D, ∀ y ∈ D, x ≠ y → listed.getD x.1 false = true → listed.getD y.1 false = true → ∀ B, a.tmps[x.2]?.getD undef = .pointer (some ⟨B, 0, none⟩) → a.tmps[y.2]?.getD undef ≠ .pointer (some ⟨B, 0, none⟩)
theorem Apart.start (D : List (Nat × Nat)) (n : Nat) (a : Act) (w : World) : Apart D (Array.replicate n false) a w := by
  have : ∀ i, (Array.replicate n false).getD i false = false := by
    intro i
    rw [Array.getD_eq_getD_getElem?, Array.getElem?_replicate]
    split <;> rfl
  exact ⟨fun x _ h => absurd h (by rw [this]; decide), fun x _ y _ _ h => absurd h (by rw [this]; decide)⟩
theorem put_ne {a : Act} {d : Option Tmp} {v : Value} {t : Nat} (h : d ≠ some t) : (a.put d v).tmps[t]? = a.tmps[t]? := by
  unfold Act.put
  split
  · rename_i d' 
    have : d' ≠ t := fun e => h (by rw [e])
    simp [Array.getElem?_setIfInBounds_ne this]
  · rfl
theorem put_eq {a : Act} {t : Nat} {v x : Value} (h : (a.put (some t) v).tmps[t]?.getD undef = x) (hx : x ≠ undef) : v = x := by
  unfold Act.put at h
  simp only [Array.getElem?_setIfInBounds_self] at h
  split at h
  · exact h
  · exact absurd h.symm hx
theorem Apart.other {D : List (Nat × Nat)} {i : Nat} {d : Option Tmp} (hi : (D.all fun x => x.1 != i && d != some x.2) = true) (listed : Array Bool) (a : Act) (w w' : World) (v : Value) (h : Apart D listed a w) (hg : Gr w w') : Apart D (listed.setIfInBounds i true) (a.put d v) w' := by
  have h1 : ∀ x ∈ D, i ≠ x.1 ∧ d ≠ some x.2 := fun x hx => by
    have := List.all_eq_true.1 hi x hx
    simp only [Bool.and_eq_true, bne_iff_ne] at this
    exact ⟨fun e => this.1 e.symm, this.2⟩
  refine ⟨fun x hx hl B hB => ?_, fun x hx y hy hxy hl hl' B hB => ?_⟩
  · rw [getD_set_ne false (h1 x hx).1] at hl
    rw [put_ne (h1 x hx).2] at hB
    exact Nat.lt_of_lt_of_le (h.1 x hx hl B hB) hg.size
  · rw [getD_set_ne false (h1 x hx).1] at hl
    rw [getD_set_ne false (h1 y hy).1] at hl'
    rw [put_ne (h1 x hx).2] at hB
    rw [put_ne (h1 y hy).2]
    exact h.2 x hx y hy hxy hl hl' B hB
theorem Apart.new {D : List (Nat × Nat)} {i d : Nat} (hi : (D.all fun x => decide (x = (i, d)) || (x.1 != i && x.2 != d)) = true) {listed : Array Bool} {a : Act} {w w' : World} {B : Nat} (h : Apart D listed a w) (hg : Gr w w') (h1 : w.heap.size ≤ B) (h2 : B < w'.heap.size) :
    Apart D (listed.setIfInBounds i true) (a.put (some d) (.pointer (some ⟨B, 0, none⟩))) w' := by
  have hd : ∀ x ∈ D, x = (i, d) ∨ (i ≠ x.1 ∧ (some d : Option Tmp) ≠ some x.2) := fun x hx => by
    have := List.all_eq_true.1 hi x hx
    simp only [Bool.or_eq_true, decide_eq_true_eq, Bool.and_eq_true, bne_iff_ne] at this
    exact this.imp id fun h => ⟨fun e => h.1 e.symm, fun e => h.2 (Option.some.inj e).symm⟩
  have hu : ∀ B, (Value.pointer (some ⟨B, 0, none⟩)) ≠ undef := fun B e => by cases e
  refine ⟨fun x hx hl B' hB => ?_, fun x hx y hy hxy hl hl' B' hB hB' => ?_⟩
  · rcases hd x hx with rfl | hn
    · have := put_eq hB (hu _)
      cases this
      exact h2
    · rw [getD_set_ne false hn.1] at hl
      rw [put_ne hn.2] at hB
      exact Nat.lt_of_lt_of_le (h.1 x hx hl B' hB) hg.size
  · rcases hd x hx with rfl | hn
    · rcases hd y hy with rfl | hn'
      · exact hxy rfl
      · have := put_eq hB (hu _)
        cases this
        rw [getD_set_ne false hn'.1] at hl'
        rw [put_ne hn'.2] at hB'
        have := h.1 y hy hl' B hB'
        omega
    · rw [getD_set_ne false hn.1] at hl
      rw [put_ne hn.2] at hB
      rcases hd y hy with rfl | hn'
      · have := put_eq hB' (hu _)
        cases this
        have := h.1 x hx hl B hB
        omega
      · rw [getD_set_ne false hn'.1] at hl'
        rw [put_ne hn'.2] at hB'
        exact h.2 x hx y hy hxy hl hl' B' hB hB'
theorem Apart.apart {D : List (Nat × Nat)} {n : Nat} {a : Act} {w : World} (h : Apart D (Array.replicate n true) a w) {x y : Nat × Nat} (hx : x ∈ D) (hy : y ∈ D) (hxy : x ≠ y) (hn : x.1 < n) (hn' : y.1 < n) {B B' : Nat} (h1 : a.tmps[x.2]?.getD undef = .pointer (some ⟨B, 0, none⟩)) (h2 : a.tmps[y.2]?.getD undef = .pointer (some ⟨B', 0, none⟩)) : B ≠ B' := by
  have hl : ∀ i, i < n → (Array.replicate n true).getD i false = true := fun i hi => by
    rw [Array.getD_eq_getD_getElem?, Array.getElem?_replicate, if_pos hi]; rfl
  rintro rfl
  exact h.2 x hx y hy hxy (hl _ hn) (hl _ hn') B h1 h2
end Go.Proofs.Ytbapmokbkjmdcaa

namespace Go.Proofs.Ytbapmokbkjmdcaa
open Go.RowKit Go.Maps Go.Lib

theorem redNo_empty {C : List Con} {D : List (List Int)} (h : D.any (fun d => decide (d.length = 0)) = true) : RedNo C D := by
  intro F _ hFD
  obtain ⟨d, hd, h0⟩ := List.any_eq_true.1 h
  have hd0 : d = [] := List.eq_nil_of_length_eq_zero (of_decide_eq_true h0)
  obtain ⟨i, hi, he⟩ := List.getElem_of_mem hd
  have hiF : i < F.length := by rw [hFD.1]; exact hi
  refine ⟨F[i], List.getElem_mem hiF, List.eq_nil_iff_forall_not_mem.2 fun x hx => ?_⟩
  have := hFD.2 i x (by rw [getD_lt [] hiF]; exact hx)
  rw [getD_lt [] hi, he, hd0] at this
  exact List.not_mem_nil this
theorem all_nonempty {D : List (List Int)} (h : D.any (fun d => decide (d.length = 0)) = false) : ∀ d ∈ D, d ≠ [] := fun d hd e => by
  rw [List.any_eq_false] at h
  exact h d hd (by rw [e]; rfl)
theorem RedIn.part {C : List Con} {D0 D : List (List Int)} {todo : List Int} {i : Int} {c : Con} {P P' : List Int} (h : RedIn C D0 D todo i c P) (hP : ∀ u ∈ P', u ∈ P) : RedIn C D0 D todo i c P' :=
  ⟨h.sub, h.most, h.ne, h.cst, h.mine.imp id fun k u hu => k u (hP u hu)⟩

/-- What may turn. -/
def MutR (F : Fam) (dB : Nat) (p : Option Addr) (x : Nat) : Prop := x = dB ∨ F.UB x ∨ ∃ a, p = some a ∧ a.block = x
/-- The state: domains D, the list T. -/
structure RS (F : Fam) (w0 : World) (e dB : Nat) (p : Option Addr) (eb : Nat) (wA : World) (D : List (List Int)) (T : List Int) (p' : Option Addr) (c' : Nat) (wr : World) : Prop where
  eng : EngW F w0 e dB D wr
  fam : FamW F w0 wr
  todo : TodoM F w0 wr p' c' T
  nd : T.Nodup
  val : ∀ k ∈ T, 0 ≤ k ∧ k < (F.C.length : Int)
  kp : Kp (MutR F dB p) wA wr
  blk : ∀ a', p' = some a' → (∃ a, p = some a ∧ a.block = a'.block) ∨ wA.heap.size ≤ a'.block
  box : BlkT wr eb 57 #[.pointer (some ⟨e, 0, none⟩)]
section
variable {F : Fam} {w0 wA wr w' : World} {e dB eb : Nat} {p p' : Option Addr} {c' : Nat} {D : List (List Int)} {T : List Int}
theorem RS.gr (h : RS F w0 e dB p eb wA D T p' c' wr) (hg : Gr wr w') : RS F w0 e dB p eb wA D T p' c' w' :=
  ⟨h.eng.gr hg, h.fam.gr' hg, h.todo.gr hg, h.nd, h.val, h.kp.trans (Kp.of_gr hg), h.blk, h.box.gr hg⟩
theorem RS.len (h : RS F w0 e dB p eb wA D T p' c' wr) : T.length ≤ F.C.length := nodup_bound h.nd h.val
theorem RS.tail {k : Int} (h : RS F w0 e dB p eb wA D (k :: T) p' c' wr) : ∃ g o, p' = some ⟨g, o, none⟩ ∧ wr.cell? ⟨g, o, none⟩ = some (.int .i64 k) ∧ ∀ pq, pq = (if c' = 1 then some ⟨g, o, none⟩ else some ⟨g, o + 1, none⟩) → RS F w0 e dB p eb wA D T pq (c' - 1) wr := by
  obtain ⟨g, o, hp, hc, ht⟩ := h.todo.tail
  refine ⟨g, o, hp, hc, fun pq hpq => ⟨h.eng, h.fam, ht pq hpq, (List.nodup_cons.1 h.nd).2, fun x hx => h.val x (List.mem_cons_of_mem _ hx), h.kp, fun a' ha => ?_, h.box⟩⟩
  have hb : a'.block = g := by
    rw [hpq] at ha
    split at ha <;> (cases ha; rfl)
  have := h.blk _ hp
  rw [hb]
  exact this
theorem kp_int {C : Nat → Prop} (h : RS F w0 e dB p eb wA D T p' c' wr) (hk : Kp C wr w') (hC : ∀ x, C x → OfT wr x 3 ∧ w0.heap.size ≤ x ∧ ∃ a, p' = some a ∧ a.block = x) : EngW F w0 e dB D w' ∧ Kp (MutR F dB p) wA w' ∧ BlkT w' eb 57 #[.pointer (some ⟨e, 0, none⟩)] := by
  refine ⟨h.eng.kpT hk (fun b hb => (hC b hb).1) (by decide) (by decide) (by decide), h.kp.more hk fun b hb hc => ?_, h.box.kp hk fun hc => OfT.ne (hC _ hc).1 (.of h.box) (by decide) rfl⟩
  obtain ⟨_, _, a, ha, rfl⟩ := hC b hc
  rcases h.blk a ha with ⟨a0, h1, h2⟩ | h1
  · exact .inr (.inr ⟨a0, h1, h2⟩)
  · omega
/-- One more to be looked at. -/
theorem RS.push (hF : FamOk F w0) (h : RS F w0 e dB p eb wA D T p' c' wr) {k : Int} (hk : 0 ≤ k ∧ k < (F.C.length : Int)) (hn : k ∉ T) (ty : TypeId) (b cb : Nat) (hb : wr.cell? ⟨b, 0, none⟩ = some (.int .i64 k)) :
    ∃ p'' c'' w', (Builtin.append_ #[40, 40] ty #[.slice p' T.length c', .slice (some ⟨b, 0, none⟩) 1 cb]).run Try.prog wr = .ok (.slice p'' (T.length + 1) c'') w' ∧ RS F w0 e dB p eb wA D (T ++ [k]) p'' c'' w' ∧
      Kp (fun x => OfT wr x 3 ∧ w0.heap.size ≤ x ∧ ∃ a, p' = some a ∧ a.block = x) wr w' ∧ ∀ a', p'' = some a' → (∃ a, p' = some a ∧ a.block = a'.block) ∨ wr.heap.size ≤ a'.block := by
  have hfew := hF.few
  obtain ⟨p'', c'', w', hr, ht, hf, hkp, hbl⟩ := h.todo.push hF h.fam (k := k) ⟨by omega, by omega⟩ (by have := h.len; omega) ty b cb hb
  obtain ⟨h1, h2, h3⟩ := kp_int h hkp fun _ => id
  refine ⟨p'', c'', w', hr, ⟨h1, hf, ht, ?_, fun x hx => (List.mem_append.1 hx).elim (h.val x) fun hx => by rw [List.mem_singleton.1 hx]; exact hk, h2, fun a' ha => ?_, h3⟩, hkp, hbl⟩
  · rw [List.nodup_append]
    exact ⟨h.nd, by simp, fun x hx y hy => by rw [List.mem_singleton.1 hy]; exact fun e => hn (e ▸ hx)⟩
  · rcases hbl a' ha with ⟨a, h4, h5⟩ | h4
    · rw [← h5]; exact h.blk a h4
    · exact .inr (Nat.le_trans h.kp.size h4)
/-- A domain is replaced. -/
theorem RS.store (hF : FamOk F w0) (h : RS F w0 e dB p eb wA D T p' c' wr) {i : Nat} (hi : i < D.length) {v : Value} {d : List Int} (hv : IntsOwn wr w0.heap.size v d) (hn : ∀ y ∈ d, Near y) (hs : d.length ≤ 100) : RS F w0 e dB p eb wA (D.set i d) T p' c' (wr.setCell ⟨dB, i, none⟩ v) := by
  obtain ⟨vs, k1, _⟩ := h.eng.row (by omega)
  have hkp : Kp (· = dB) wr (wr.setCell ⟨dB, i, none⟩ v) := Kp.set rfl
  have ht : ∀ b, b = dB → OfT wr b 38 := fun b hb => by rw [hb]; exact .of k1
  exact ⟨h.eng.store hi hv hn hs, h.fam.kpT hkp (fun b hb => ⟨ht b hb, by rw [hb]; exact h.eng.ge.2⟩) (by decide) (by decide) hF.lenU, h.todo.kpT hkp ht (by decide), h.nd, h.val, h.kp.trans (hkp.mono fun b hb => .inl hb), h.blk, h.box.kp hkp fun hb => OfT.ne (ht _ hb) (.of h.box) (by decide) rfl⟩
end

/-- The boxes of a constraint and of its variables. -/
structure RIB (dB : Nat) (x : Cn) (l : List Int) (bC bL : Nat) (lp : Option Addr) (lc : Nat) (p' : Option Addr) (wr : World) : Prop where
  bc : CnBlk wr bC x
  bl : BlkT wr bL 40 #[.slice lp l.length lc]
  ls : IntSl wr lp lc l
  sep : ∀ a, lp = some a → l ≠ [] → a.block ≠ dB ∧ a.block < wr.heap.size ∧ ∀ a', p' = some a' → a'.block ≠ a.block
section
variable {wr w' : World} {dB bC bL : Nat} {x : Cn} {l : List Int} {lp p' p'' : Option Addr} {lc : Nat}
theorem IntSl.kpA {C : Nat → Prop} {p : Option Addr} {c : Nat} {L : List Int} (h : IntSl wr p c L) (hk : Kp C wr w') (hC : ∀ a, p = some a → L ≠ [] → ¬ C a.block) : IntSl w' p c L := by
  refine ⟨h.1, h.2.1, h.2.2.1, ?_⟩
  by_cases h0 : L = []
  · exact .inl h0
  · obtain ⟨b, o, rfl, hb, hr⟩ := h.2.2.2.resolve_left h0
    exact .inr ⟨b, o, rfl, Nat.lt_of_lt_of_le hb hk.size, fun i n hi => (World.cell?_of_block (hk.block b hb (hC _ rfl h0))).trans (hr i n hi)⟩
theorem RIB.gr (h : RIB dB x l bC bL lp lc p' wr) (hg : Gr wr w') : RIB dB x l bC bL lp lc p' w' :=
  ⟨h.bc.gr hg, h.bl.gr hg, h.ls.mono hg, fun a ha h0 => ⟨(h.sep a ha h0).1, Nat.lt_of_lt_of_le (h.sep a ha h0).2.1 hg.size, (h.sep a ha h0).2.2⟩⟩
theorem RIB.push {C : Nat → Prop} (h : RIB dB x l bC bL lp lc p' wr) (hk : Kp C wr w') (hC : ∀ y, C y → OfT wr y 3 ∧ ∃ a, p' = some a ∧ a.block = y) (hb : ∀ a', p'' = some a' → (∃ a, p' = some a ∧ a.block = a'.block) ∨ wr.heap.size ≤ a'.block) : RIB dB x l bC bL lp lc p'' w' := by
  refine ⟨BlkT.kp h.bc hk fun hc => OfT.ne (hC _ hc).1 (.of h.bc) (by decide) rfl, h.bl.kp hk fun hc => OfT.ne (hC _ hc).1 (.of h.bl) (by decide) rfl, h.ls.kpA hk fun a ha h0 hc => ?_, fun a ha h0 => ⟨(h.sep a ha h0).1, Nat.lt_of_lt_of_le (h.sep a ha h0).2.1 hk.size, fun a' ha' he => ?_⟩⟩
  · obtain ⟨_, a', ha', he⟩ := hC _ hc
    exact (h.sep a ha h0).2.2 a' ha' he
  · rcases hb a' ha' with ⟨a1, h1, h2⟩ | h1
    · exact (h.sep a ha h0).2.2 a1 h1 (h2.trans he)
    · have := (h.sep a ha h0).2.1; omega
theorem RIB.store (h : RIB dB x l bC bL lp lc p' wr) {i : Nat} {v : Value} (hd : OfT wr dB 38) : RIB dB x l bC bL lp lc p' (wr.setCell ⟨dB, i, none⟩ v) := by
  have hkp : Kp (· = dB) wr (wr.setCell ⟨dB, i, none⟩ v) := Kp.set rfl
  refine ⟨BlkT.kp h.bc hkp fun hc => OfT.ne hd (.of h.bc) (by decide) hc.symm, h.bl.kp hkp fun hc => OfT.ne hd (.of h.bl) (by decide) hc.symm, h.ls.kpA hkp fun a ha h0 hc => (h.sep a ha h0).1 hc, fun a ha h0 => ⟨(h.sep a ha h0).1, Nat.lt_of_lt_of_le (h.sep a ha h0).2.1 hkp.size, (h.sep a ha h0).2.2⟩⟩
end
theorem FamW.useSl {F : Fam} {w0 w : World} (hw : FamW F w0 w) {i : Nat} {u : List Int} {p : Option Addr} {c : Nat} (hv : F.vv[i]? = some (.slice p u.length c)) (hu : F.U[i]? = some u) (hin : ∀ k ∈ u, In64 k) : IntSl w p c u := by
  have ho := hw.own i _ u hv hu
  rcases ho.2 with ⟨h0, h1⟩ | ⟨g, cap, cur, h0, h1, h2, h3, h4, h5, h6⟩
  · injection h0 with _ _ h00
    have : u = [] := List.eq_nil_of_length_eq_zero h1
    subst this
    exact ⟨Nat.zero_le _, by omega, hin, .inl rfl⟩
  · cases h0
    rw [Nat.mul_one] at h5 h6
    refine ⟨h3, h4, hin, .inr ⟨g, 0, rfl, (Array.getElem?_eq_some_iff.1 h2).1, fun j n hj => ?_⟩⟩
    have hjl := (List.getElem?_eq_some_iff.1 hj).1
    have : (cur.toList.take u.length)[j]? = (u.map (Value.int .i64))[j]? := by rw [h6]
    rw [List.getElem?_take_of_lt hjl, List.getElem?_map, hj, Array.getElem?_toList] at this
    rw [Nat.zero_add, cell_of_row w g j _ _ _ h2, this]; rfl
theorem ok_vars {c : Con} {n : Nat} (h : c.ok n = true) : c.vars.length ≤ 8 := by
  rcases ok_kind h with hk | hk | hk | hk
  · have := (ok_sum h hk).2.1; omega
  · simp only [Con.ok, Bool.and_eq_true] at h
    rw [if_neg (by omega), Bool.and_eq_true, Bool.and_eq_true, if_pos hk, Bool.and_eq_true, Bool.and_eq_true] at h
    exact of_decide_eq_true h.2.2.1.1
  · have := ok_times h hk; omega
  · have := ok_pick h hk; omega
/-- What reduce leaves. -/
def RetRed (F : Fam) (w0 : World) (e dB : Nat) (p : Option Addr) (D : List (List Int)) (w : World) (en : Ending) (w' : World) : Prop :=
  ∃ b, en = .returned (.bool b) ∧ FamW F w0 w' ∧ Kp (MutR F dB p) w w' ∧ (b = true → ∃ E, EngW F w0 e dB E w' ∧ RedOk F.cons D E) ∧ (b = false → RedNo F.cons D)
theorem CnBlk.set5 {w : World} {b : Nat} {vs : Array Value} (h : BlkT w b 42 vs) (hs : vs.size = 5) (x : Cn) : CnBlk (((((w.setCell ⟨b, 0, none⟩ (.int .i64 x.k)).setCell ⟨b, 1, none⟩ (.slice x.vp x.vs.length x.vc)).setCell ⟨b, 2, none⟩ (.slice x.cp x.cs.length x.cc)).setCell ⟨b, 3, none⟩ (.int .i64 x.op)).setCell ⟨b, 4, none⟩ (.int .i64 x.c)) b x := by
  obtain ⟨l⟩ := vs
  match l, hs with
  | [a0, a1, a2, a3, a4], _ => exact ((((h.set 0 _).set 1 _).set 2 _).set 3 _).set 4 _
theorem Kp.sets5 {w : World} {b : Nat} {C : Nat → Prop} (hC : C b) (v0 v1 v2 v3 v4 : Value) : Kp C w (((((w.setCell ⟨b, 0, none⟩ v0).setCell ⟨b, 1, none⟩ v1).setCell ⟨b, 2, none⟩ v2).setCell ⟨b, 3, none⟩ v3).setCell ⟨b, 4, none⟩ v4) :=
  ((((Kp.set hC).trans (Kp.set hC)).trans (Kp.set hC)).trans (Kp.set hC)).trans (Kp.set hC)
end Go.Proofs.Ytbapmokbkjmdcaa
