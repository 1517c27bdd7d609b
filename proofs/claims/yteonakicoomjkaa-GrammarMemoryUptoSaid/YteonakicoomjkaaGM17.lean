/-
  The rely rule with a tail, for a region some of whose operations turn more than new memory: R is what any operation keeps; J what is known by which operations are over.
  slices.Concat of two slices of terms; grammar.call.
-/
import Derived.Test.YteonakicoomjkaaGM02
import Derived.Test.YteonakicoomjkaaGM14
import Derived.Test.YteonakicoomjkaaGM16
namespace Go.Proofs.Yteonakicoomjkaa
open Go.RowKit

def StableR (R : World → World → Prop) (Vs : List VP) : Prop := ∀ V ∈ Vs, ∀ v w w', V v w → R w w' → V v w'
section
variable {R : World → World → Prop}
theorem StableR.nil : StableR R [] := fun _ h => by cases h
theorem StableR.fix {c : Value} {Vs : List VP} (h : StableR R Vs) : StableR R (fx c :: Vs) := fun V hV => by
  rcases List.mem_cons.1 hV with rfl | hV
  · exact fun _ _ _ h _ => h
  · exact h V hV
theorem StableR.cons {W : VP} {Vs : List VP} (hW : ∀ v w w', W v w → R w w' → W v w') (h : StableR R Vs) : StableR R (W :: Vs) := fun V hV => by
  rcases List.mem_cons.1 hV with rfl | hV
  · exact hW
  · exact h V hV
end

def StepJ (R : World → World → Prop) (J : Array Bool → World → Prop) (P : Program) (ops : List Oper) (Vs : List VP) (a₀ : Act) (w₀ : World) (Q : Exit → Act → World → Prop) (i : Nat) (o : Oper) (V : VP) : Prop :=
  ∀ listed a w, J listed w → listed.getD i true = false → (∀ e ∈ o.after, Region.binds .any e = true → listed.getD e.on false = true) → R w₀ w → a.defers = a₀.defers → (∀ t, (dsts ops).contains t = false → a.tmps[t]?.getD undef = a₀.tmps[t]?.getD undef) →
    predsImp ops Vs a w (∀ K : Act → World → Prop, (∀ v w', V v w' → R w w' → J (listed.setIfInBounds i true) w' → K (a.put o.dst v) w') → o.wp P a w K Q) o.after.toList

def stepsJ (R : World → World → Prop) (J : Array Bool → World → Prop) (P : Program) (ops : List Oper) (Vs : List VP) (a₀ : Act) (w₀ : World) (Q : Exit → Act → World → Prop) : List Oper → List VP → Nat → Prop
  | [], _, _ => True
  | o :: os, V :: Vs', i => StepJ R J P ops Vs a₀ w₀ Q i o V ∧ stepsJ R J P ops Vs a₀ w₀ Q os Vs' (i + 1)
  | _ :: _, [], _ => False

section
variable {P : Program} {ops : List Oper} {Vs : List VP} {a₀ : Act} {w₀ : World} {Q : Exit → Act → World → Prop} {R : World → World → Prop} {J : Array Bool → World → Prop} {m : Nat}

theorem stepsJ_at : ∀ {os : List Oper} {Vs' : List VP} {k i : Nat} {o : Oper}, stepsJ R J P ops Vs a₀ w₀ Q os Vs' k → os[i]? = some o → StepJ R J P ops Vs a₀ w₀ Q (k + i) o (Vs'.getD i (fun _ _ => True))
  | [], _, _, i, o, _, hi => by simp at hi
  | o' :: os, [], _, _, _, h, _ => h.elim
  | o' :: os, V :: Vs', k, 0, o, h, hi => by
    simp only [List.getElem?_cons_zero, Option.some.injEq] at hi
    subst hi
    exact h.1
  | o' :: os, V :: Vs', k, i + 1, o, h, hi => by
    simp only [List.getElem?_cons_succ] at hi
    have := stepsJ_at h.2 hi
    rw [show k + 1 + i = k + (i + 1) by omega] at this
    simpa using this

/-- An operation that turns nothing but new memory, and of which J does not speak. -/
theorem stepJ_plain {i : Nat} {o : Oper} {V : VP} (hG : ∀ w w', Gr w w' → R w w') (hJ : ∀ listed w w', J listed w → Gr w w' → J (listed.setIfInBounds i true) w')
    (h : ∀ a w, R w₀ w → (∀ t, (dsts ops).contains t = false → a.tmps[t]?.getD undef = a₀.tmps[t]?.getD undef) → predsImp ops Vs a w (∀ K : Act → World → Prop, (∀ v w', V v w' → Gr w w' → K (a.put o.dst v) w') → o.wp P a w K Q) o.after.toList) :
    StepJ R J P ops Vs a₀ w₀ Q i o V := by
  intro listed a w hj _ _ hr _ hf
  have h1 := h a w hr hf
  have : ∀ es : List Edge, predsImp ops Vs a w (∀ K : Act → World → Prop, (∀ v w', V v w' → Gr w w' → K (a.put o.dst v) w') → o.wp P a w K Q) es → predsImp ops Vs a w (∀ K : Act → World → Prop, (∀ v w', V v w' → R w w' → J (listed.setIfInBounds i true) w' → K (a.put o.dst v) w') → o.wp P a w K Q) es := by
    intro es
    induction es with
    | nil => exact fun h2 K hK => h2 K fun v w' hv hg => hK v w' hv (hG _ _ hg) (hJ _ _ _ hj hg)
    | cons e es ih =>
      intro h2
      simp only [predsImp] at h2 ⊢
      split at h2
      · rename_i hb
        rw [if_pos hb]
        cases hd : dstAt ops e.on with
        | none => simp only [hd] at h2 ⊢; exact ih h2
        | some d => simp only [hd] at h2 ⊢; exact fun v h3 h4 => ih (h2 v h3 h4)
      · rename_i hb
        rw [if_neg hb]
        exact ih h2
  exact this _ h1

/-- The state in the middle of the region. -/
structure MidJ (R : World → World → Prop) (J : Array Bool → World → Prop) (ops : List Oper) (Vs : List VP) (a₀ : Act) (w₀ : World) (listed : Array Bool) (a : Act) (w : World) : Prop where
  sz : listed.size = ops.length
  grown : R w₀ w
  st : J listed w
  defers : a.defers = a₀.defers
  size : a.tmps.size = a₀.tmps.size
  old : ∀ t, (∀ i o, ops[i]? = some o → o.dst = some t → listed.getD i false = false) → a.tmps[t]? = a₀.tmps[t]?
  val : ∀ i o d, ops[i]? = some o → o.dst = some d → listed.getD i false = true → (Vs.getD i (fun _ _ => True)) (a.tmps.getD d undef) w
  bare : ∀ i o, ops[i]? = some o → o.dst = none → listed.getD i false = true → ∃ v, (Vs.getD i (fun _ _ => True)) v w

theorem mid_stepJ (hB : relyB ops a₀.tmps.size = true) (hRt : ∀ a b c, R a b → R b c → R a c) (hst : StableR R Vs) {listed : Array Bool} {a a' : Act} {w w' : World} {i : Nat} {o : Oper} {v : Value}
    (hm : MidJ R J ops Vs a₀ w₀ listed a w) (hi : ops[i]? = some o) (ha : a' = a.put o.dst v) (hv : (Vs.getD i (fun _ _ => True)) v w') (hg : R w w') (hj : J (listed.setIfInBounds i true) w') :
    MidJ R J ops Vs a₀ w₀ (listed.setIfInBounds i true) a' w' := by
  obtain ⟨hn, hlt, _, _⟩ := relyB_spec hB
  have hil : i < listed.size := by rw [hm.sz]; exact (List.getElem?_eq_some_iff.1 hi).1
  have hstab : ∀ j v, (Vs.getD j (fun _ _ => True)) v w → (Vs.getD j (fun _ _ => True)) v w' := by
    intro j v h
    by_cases hj : j < Vs.length
    · have e : Vs.getD j (fun _ _ => True) = Vs[j] := by simp [List.getD, hj]
      rw [e] at h ⊢
      exact hst _ (List.getElem_mem hj) _ _ _ h hg
    · have e : Vs.getD j (fun _ _ => True) = (fun _ _ => True) := by simp [List.getD, List.getElem?_eq_none (Nat.le_of_not_lt hj)]
      rw [e]
      trivial
  subst ha
  refine ⟨by simpa using hm.sz, hRt _ _ _ hm.grown hg, hj, ?_, ?_, fun t ht => ?_, fun j oj d hj hd hl => ?_, fun j oj hj hd hl => ?_⟩
  · rw [← hm.defers]; unfold Act.put; split <;> rfl
  · rw [← hm.size]; unfold Act.put; split <;> simp
  · have h1 : o.dst ≠ some t := fun e => by
      have := ht i o hi e
      simp [hil] at this
    have h2 := hm.old t (fun j oj hj hd => by
      have := ht j oj hj hd
      by_cases hji : i = j
      · subst hji
        rw [hi] at hj
        cases hj
        exact absurd hd h1
      · rwa [getD_set_ne false hji] at this)
    rw [← h2]
    unfold Act.put
    split
    · rename_i d hd
      have hne : d ≠ t := fun e => h1 (by rw [hd, e])
      simp [Array.getElem?_setIfInBounds_ne hne]
    · rfl
  · by_cases hji : i = j
    · subst hji
      rw [hi] at hj
      cases hj
      have hdl : d < a.tmps.size := by rw [hm.size]; exact hlt d (mem_dsts hi hd)
      have e : (a.put o.dst v).tmps.getD d undef = v := by simp [Act.put, hd, hdl]
      rw [e]
      exact hv
    · rw [getD_set_ne false hji] at hl
      have h2 := hstab _ _ (hm.val j oj d hj hd hl)
      have e : (a.put o.dst v).tmps.getD d undef = a.tmps.getD d undef := by
        unfold Act.put
        split
        · rename_i d' hd'
          have hne : d' ≠ d := fun e => hji (dst_inj hn hi hj hd' (by rw [hd, e]))
          simp [Array.getElem?_setIfInBounds_ne hne]
        · rfl
      rw [e]
      exact h2
  · by_cases hji : i = j
    · subst hji
      exact ⟨v, hv⟩
    · rw [getD_set_ne false hji] at hl
      obtain ⟨u, hu⟩ := hm.bare j oj hj hd hl
      exact ⟨u, hstab _ _ hu⟩

theorem mid_finJ (hB : relyB ops a₀.tmps.size = true) {K : Act → World → Prop} {listed : Array Bool} {a : Act} {w : World} (hmid : MidJ R J ops Vs a₀ w₀ listed a w) (hall : ∀ i, i < ops.length → listed.getD i false = true)
    (hfin : finAll K w ops Vs a₀) : K a w := by
  obtain ⟨hn, hlt, _, _⟩ := relyB_spec hB
  have hf := finAll_elim (os := ops) (Vs' := Vs) (b := a₀) (f := fun i => match dstAt ops i with | some d => a.tmps.getD d undef | none => Classical.epsilon fun v => (Vs.getD i (fun _ _ => True)) v w) (k := 0) (K := K) (w := w) ?_ hfin
  · have e : (ops.zipIdx 0 |>.foldl (fun a' x => a'.put x.1.dst (match dstAt ops x.2 with | some d => a.tmps.getD d undef | none => Classical.epsilon fun v => (Vs.getD x.2 (fun _ _ => True)) v w)) a₀) = a := by
      have hT : (ops.zipIdx 0 |>.foldl (fun a' x => a'.put x.1.dst (match dstAt ops x.2 with | some d => a.tmps.getD d undef | none => Classical.epsilon fun v => (Vs.getD x.2 (fun _ _ => True)) v w)) a₀).tmps = a.tmps := by
        apply Array.ext_getElem?
        intro t
        obtain ⟨h1, h2⟩ := fold_tmps (f := fun i => match dstAt ops i with | some d => a.tmps.getD d undef | none => Classical.epsilon fun v => (Vs.getD i (fun _ _ => True)) v w) (os := ops) (b := a₀) (k := 0) t hn hlt
        by_cases hex : ∃ (i : Nat) (o : Oper), ops[i]? = some o ∧ o.dst = some t
        · obtain ⟨i, o, hi, hd⟩ := hex
          rw [h1 i o hi hd]
          have hts : t < a.tmps.size := by rw [hmid.size]; exact hlt t (mem_dsts hi hd)
          simp [dstAt, hi, hd, hts]
        · rw [h2 (fun i o hi hd => hex ⟨i, o, hi, hd⟩)]
          exact (hmid.old t (fun i o hi hd => (hex ⟨i, o, hi, hd⟩).elim)).symm
      have hD := fold_defers (f := fun i => match dstAt ops i with | some d => a.tmps.getD d undef | none => Classical.epsilon fun v => (Vs.getD i (fun _ _ => True)) v w) (os := ops) (b := a₀) (k := 0)
      generalize (ops.zipIdx 0 |>.foldl (fun a' x => a'.put x.1.dst (match dstAt ops x.2 with | some d => a.tmps.getD d undef | none => Classical.epsilon fun v => (Vs.getD x.2 (fun _ _ => True)) v w)) a₀) = c at hT hD
      obtain ⟨ct, cd⟩ := c
      obtain ⟨at', ad⟩ := a
      have hd := hmid.defers
      simp only at hT hD hd
      rw [hT, hD, hd]
    rw [e] at hf
    exact hf
  · intro i o hi V hV
    have hlen : i < ops.length := (List.getElem?_eq_some_iff.1 hi).1
    have eV : Vs.getD i (fun _ _ => True) = V := by simp [List.getD, hV]
    simp only [Nat.zero_add, dstAt, hi, Option.bind_some]
    cases hd : o.dst with
    | some d =>
      have := hmid.val i o d hi hd (hall i hlen)
      rwa [eV] at this
    | none =>
      have := hmid.bare i o hi hd (hall i hlen)
      rw [eV] at this ⊢
      exact Classical.epsilon_spec this

theorem mid_startJ (hG : ∀ w, Gr w₀ w → R w₀ w) (hJ0 : ∀ w, Gr w₀ w → J (Array.replicate ops.length false) w) (Vs : List VP) (a₀ : Act) : MidJ R J ops Vs a₀ w₀ (Array.replicate ops.length false) a₀ { w₀ with drawn := w₀.drawn + 1 } := by
  refine ⟨by simp, hG _ ⟨rfl, rfl, rfl, Nat.le_refl _, fun _ _ => rfl⟩, hJ0 _ ⟨rfl, rfl, rfl, Nat.le_refl _, fun _ _ => rfl⟩, rfl, rfl, fun _ _ => rfl, fun i o d hi hd hl => ?_, fun i o hi hd hl => ?_⟩
  all_goals
    have : i < ops.length := (List.getElem?_eq_some_iff.1 hi).1
    simp [this] at hl

theorem wpAny_mid_tailJ (hnog : ∀ o ∈ ops.take m, o.guard = none) (hB : tailB ops m a₀.tmps.size = true) (hm : m ≤ ops.length) (hRt : ∀ a b c, R a b → R b c → R a c) (hst : StableR R Vs) (hsteps : stepsJ R J P (ops.take m) Vs a₀ w₀ Q (ops.take m) Vs 0)
    (hfin : ∀ listed a w, MidJ R J (ops.take m) Vs a₀ w₀ listed a w → (∀ i, i < (ops.take m).length → listed.getD i false = true) → wpList P ops.toArray Q (ops.drop m) a w) :
    ∀ (fuel : Nat) (listed : Array Bool) (a : Act) (w : World), listed.size = ops.length → listed.count false ≤ fuel → Shut ops listed → (∀ i, m ≤ i → i < ops.length → listed.getD i true = false) →
      MidJ R J (ops.take m) Vs a₀ w₀ (listed.extract 0 m) a w → wpAny P .any ops.toArray Q fuel listed a w := by
  obtain ⟨hR, hlt, hanc, hgrd⟩ := tailB_spec hB
  have hlen : (ops.take m).length = m := by rw [List.length_take]; omega
  have hext : ∀ (listed : Array Bool) (i : Nat), i < m → ∀ d, (listed.extract 0 m).getD i d = listed.getD i d := by
    intro listed i hi d
    simp only [Array.getD_eq_getD_getElem?, Array.getElem?_extract]
    by_cases h : i < listed.size
    · rw [if_pos (by omega)]; simp
    · rw [if_neg (by omega)]; simp [Array.getElem?_eq_none (Nat.le_of_not_lt h)]
  have hexts : ∀ (listed : Array Bool) (i : Nat), i < m → (listed.setIfInBounds i true).extract 0 m = (listed.extract 0 m).setIfInBounds i true := by
    intro listed i hi
    apply Array.ext_getElem?
    intro j
    simp only [Array.getElem?_extract, Array.getElem?_setIfInBounds, Array.size_setIfInBounds, Array.size_extract, Nat.sub_zero, Nat.zero_add]
    by_cases hj : j < m ∧ j < listed.size
    · by_cases e : i = j
      · subst e
        simp [hj]
      · have : j < min m listed.size := by omega
        simp [this, e]
    · have : ¬ j < min m listed.size := by omega
      by_cases e : i = j
      · subst e
        simp [this]
      · simp [this, e]
  intro fuel
  induction fuel with
  | zero =>
    intro listed a w hs hc hshut hno hmid
    by_cases hall : ∀ i, i < m → listed.getD i false = true
    · exact wpAny_tail hB (ops.drop m) m 0 listed a w (Nat.le_refl _) (fun j => by rw [List.getElem?_drop]) (by
        have hz : (ops.drop m).length = 0 := by
          rw [List.length_drop]
          rcases Nat.lt_or_ge m ops.length with h | h
          · have h5 := hno m (Nat.le_refl _) h
            have := count_set h5
            omega
          · omega
        omega) hs hshut (fun i hi _ => hall i hi) hno (hfin _ a w hmid (fun i hi => by rw [hext listed i (by omega)]; exact hall i (by omega)))
    · exfalso
      apply hall
      intro i hi
      have hi' : i < listed.size := by omega
      by_cases h : listed.getD i false = true
      · exact h
      · have h5 : listed.getD i true = false := by simpa [hi'] using h
        have := count_set h5
        omega
  | succ fuel ih =>
    intro listed a w hs hc hshut hno hmid
    by_cases hall : ∀ i, i < m → listed.getD i false = true
    · have hcount : (ops.drop m).length ≤ fuel + 1 := by
        have h5 : ops.length - m ≤ listed.count false := by
          have h6 : (listed.extract m listed.size).count false ≤ listed.count false := by
            rw [← Array.count_toList, ← Array.count_toList, Array.toList_extract]
            exact List.Sublist.count_le _ (List.Sublist.trans (List.take_sublist _ _) (List.drop_sublist _ _))
          have h7 : (listed.extract m listed.size).count false = (listed.extract m listed.size).size := by
            rw [Array.count_eq_size]
            intro b hb
            obtain ⟨j, hj, rfl⟩ := Array.getElem_of_mem hb
            simp only [Array.size_extract] at hj
            have h8 := hno (m + j) (by omega) (by omega)
            have h9 : m + j < listed.size := by omega
            simp only [Array.getElem_extract]
            simpa [h9] using h8.symm
          rw [h7, Array.size_extract] at h6
          omega
        rw [List.length_drop]
        omega
      exact wpAny_tail hB (ops.drop m) m (fuel + 1) listed a w (Nat.le_refl _) (fun j => by rw [List.getElem?_drop]) hcount hs hshut (fun i hi _ => hall i hi) hno
        (hfin _ a w hmid (fun i hi => by rw [hext listed i (by omega)]; exact hall i (by omega)))
    · have hpre : ∀ i ∈ Region.ready .any ops.toArray listed, i < m := by
        intro i hi
        rcases Nat.lt_or_ge i m with h | h
        · exact h
        · exfalso
          obtain ⟨h0, o, ho, hal⟩ := mem_ready.1 hi
          have ho' : ops[i]? = some o := by simpa using ho
          have hil := (List.getElem?_eq_some_iff.1 ho').1
          exact hall fun j hj => anc_listed hshut (i + 1) i o ho' hal j (hanc i hil h j (by omega))
      refine ⟨fun hr => ?_, fun i hi => ?_⟩
      · exfalso
        apply hall
        intro i
        induction i using Nat.strongRecOn with
        | _ i ihi =>
          intro hi
          by_cases h : listed.getD i false = true
          · exact h
          · have hi' : i < listed.size := by omega
            have hmem : i ∈ Region.ready .any ops.toArray listed := by
              rw [mem_ready]
              refine ⟨by simpa [hi'] using h, ops[i], by simp [show i < ops.length by omega], fun e he hb => ?_⟩
              have := hlt i ops[i] (by simp) e he hb
              exact ihi e.on this (by omega)
            rw [hr] at hmem
            cases hmem
      · have him := hpre i hi
        obtain ⟨h0, o, ho, hal⟩ := mem_ready.1 hi
        have ho' : ops[i]? = some o := by simpa using ho
        have hot : (ops.take m)[i]? = some o := by rw [List.getElem?_take, if_pos him]; exact ho'
        have hstep := stepsJ_at hsteps hot (listed.extract 0 m) a w hmid.st (by rw [Nat.zero_add, hext listed i him]; exact h0) (fun e he hb => by rw [hext listed e.on (Nat.lt_trans (hlt i o ho' e he hb) him)]; exact hal e he hb) hmid.grown hmid.defers (fun t ht => by
          have h1 := hmid.old t (fun j oj hj hd => by
            have := mem_dsts hj hd
            rw [List.contains_eq_mem, decide_eq_false_iff_not] at ht
            exact absurd this ht)
          simp only [h1])
        have hres := predsImp_elim (fun e he hb d hd => by
          unfold dstAt at hd
          cases hoe : (ops.take m)[e.on]? with
          | none => simp [hoe] at hd
          | some oe =>
            simp only [hoe, Option.bind_some] at hd
            have hem : e.on < m := by
              have := (List.getElem?_eq_some_iff.1 hoe).1
              omega
            have := hmid.val e.on oe d hoe hd (by rw [hext listed e.on hem]; exact hal e (by simpa using he) hb)
            rwa [Array.getD_eq_getD_getElem?] at this) hstep
        have hc' := count_set h0
        rw [Nat.zero_add] at hres
        have hnext : ∀ v w', (Vs.getD i (fun _ _ => True)) v w' → R w w' → J ((listed.extract 0 m).setIfInBounds i true) w' → wpAny P .any ops.toArray Q fuel (listed.setIfInBounds i true) (a.put o.dst v) w' := fun v w' hv hg hj =>
          ih _ _ _ (by simpa using hs) (by omega) (shut_set hshut ho' hal) (fun j hj hj' => by rw [getD_set_ne true (by omega : i ≠ j)]; exact hno j hj hj')
            (by rw [hexts listed i him]; exact mid_stepJ hR hRt hst hmid hot rfl hv hg hj)
        unfold wpOp
        simp only [ho]
        rw [wantedE_eq]
        have hw : wantedE ops o a = true := by simp [wantedE, hnog o (List.mem_of_getElem? hot)]
        rw [if_pos hw]
        exact .inl (hres _ hnext)

/-- THE RULE. -/
theorem wp_region_relyJ {id : Nat} (m : Nat) (Vs : List VP) (R : World → World → Prop) (J : Array Bool → World → Prop) (hm : P.follows .mixedOrders = true) (hB : tailB ops m a₀.tmps.size = true) (hml : m ≤ ops.length) (hng : ((ops.take m).all fun o => o.guard.isNone) = true)
    (hG : ∀ w w', Gr w w' → R w w') (hRt : ∀ a b c, R a b → R b c → R a c) (hJ0 : ∀ w, Gr w₀ w → J (Array.replicate (ops.take m).length false) w) (hst : StableR R Vs)
    (hsteps : stepsJ R J P (ops.take m) Vs a₀ w₀ Q (ops.take m) Vs 0) (hfin : ∀ w, R w₀ w → J (Array.replicate (ops.take m).length true) w → finAll (fun a w => wpList P ops.toArray Q (ops.drop m) a w) w (ops.take m) Vs a₀) : (Code.region id ops.toArray true).wp P Q a₀ w₀ := by
  have hnog : ∀ o ∈ ops.take m, o.guard = none := fun o ho => by
    have := List.all_eq_true.1 hng o ho
    cases hg : o.guard with
    | none => rfl
    | some x => rw [hg] at this; cases this
  refine wp_region_any hm ?_
  have hlen : (ops.take m).length = m := by rw [List.length_take]; omega
  have he : (Array.replicate ops.length false).extract 0 m = Array.replicate (ops.take m).length false := by
    apply Array.ext_getElem?
    intro i
    simp only [Array.getElem?_extract, Array.size_replicate, Array.getElem?_replicate, Nat.zero_add, Nat.sub_zero, hlen]
    by_cases h : i < m
    · simp [h, show i < min m ops.length by omega, show i < ops.length by omega]
    · simp [h, show ¬ i < min m ops.length by omega]
  have := wpAny_mid_tailJ (Q := Q) hnog hB hml hRt hst hsteps (fun listed a w hmid hall => mid_finJ (tailB_spec hB).1 hmid hall (hfin w hmid.grown (by
    have e : listed = Array.replicate (ops.take m).length true := by
      apply Array.ext
      · rw [Array.size_replicate]; exact hmid.sz
      · intro i h1 h2
        have h3 := hall i (by rw [Array.size_replicate] at h2; exact h2)
        rw [Array.getElem_replicate]
        simpa [h1] using h3
    rw [← e]
    exact hmid.st))) ops.length (Array.replicate ops.length false) a₀ { w₀ with drawn := w₀.drawn + 1 } (by simp) (by simp)
    (fun i o hi hl => by
      have : i < ops.length := (List.getElem?_eq_some_iff.1 hi).1
      simp [this] at hl)
    (fun i _ hi => by simp [hi]) (by rw [he]; exact mid_startJ (fun w h => hG _ _ h) hJ0 _ _)
  simpa using this
end
end Go.Proofs.Yteonakicoomjkaa

namespace Go.Proofs.Yteonakicoomjkaa
open Go.RowKit Go.Lib

theorem flat_len : ∀ l : List Tm, (l.flatMap Tm.cells).length = l.length * 4
  | [] => rfl
  | x :: xs => by rw [List.flatMap_cons, List.length_append, flat_len xs, List.length_cons]; simp [Tm.cells]; omega
theorem Tm.Sl.rw {w : World} {p : Option Addr} {c : Nat} {l : List Tm} (h : Tm.Sl w p c l) : Rw.In 4 w ⟨p, l.length, c, l.flatMap Tm.cells⟩ := by
  refine ⟨flat_len l, flat_one l, ?_⟩
  rcases h.2.2.1 with h1 | ⟨b, o, hp, hr⟩
  · exact .inl (by rw [h1]; rfl)
  · refine .inr ⟨b, o, hp, fun j u hu => ?_⟩
    have hj : j < (l.flatMap Tm.cells).length := (List.getElem?_eq_some_iff.1 hu).1
    rw [flat_len] at hj
    have hi : j / 4 < l.length := by omega
    have hx := List.getElem?_eq_getElem hi
    have hc := cells_at hx (j % 4) (by omega)
    rw [show j / 4 * 4 + j % 4 = j by omega, hu] at hc
    obtain ⟨c0, c1, c2, c3⟩ := hr _ _ hx
    have h4 : j % 4 = 0 ∨ j % 4 = 1 ∨ j % 4 = 2 ∨ j % 4 = 3 := by omega
    rcases h4 with h4 | h4 | h4 | h4 <;> rw [h4] at hc <;> simp only [Tm.cells] at hc <;> cases hc
    · rw [show o + j = o + j / 4 * 4 by omega]; exact c0
    · rw [show o + j = o + j / 4 * 4 + 1 by omega]; exact c1
    · rw [show o + j = o + j / 4 * 4 + 2 by omega]; exact c2
    · rw [show o + j = o + j / 4 * 4 + 3 by omega]; exact c3

/-- A slice of two slices of terms. -/
def twoSls (l1 l2 : List Tm) : VP := fun v w => ∃ (blk c1 c2 : Nat) (p1 p2 : Option Addr), v = .slice (some ⟨blk, 0, none⟩) 2 2 ∧ w.cell? ⟨blk, 0, none⟩ = some (.slice p1 l1.length c1) ∧ w.cell? ⟨blk, 1, none⟩ = some (.slice p2 l2.length c2) ∧ Tm.Sl w p1 c1 l1 ∧ Tm.Sl w p2 c2 l2
theorem twoSls_stable {l1 l2 : List Tm} : ∀ v w w', twoSls l1 l2 v w → Gr w w' → twoSls l1 l2 v w' := fun _ _ _ ⟨blk, c1, c2, p1, p2, h1, h2, h3, h4, h5⟩ hg => ⟨blk, c1, c2, p1, p2, h1, hg.at h2, hg.at h3, h4.mono hg, h5.mono hg⟩

theorem concat_two {l1 l2 : List Tm} {S : Nat → Prop} {v : Value} {w : World} (h : twoSls l1 l2 v w) (h1 : Tm.OnL S l1) (h2 : Tm.OnL S l2) (hS : ∀ b, w.heap.size ≤ b → S b) (hlen : (l1.length + l2.length) * 56 ≤ 140737488351232) :
    Calls Try.prog 144 #[v] w fun e w' => ∃ v', e = .returned v' ∧ slAt S (l1 ++ l2) v' w' ∧ Gr w w' := by
  obtain ⟨blk, c1, c2, p1, p2, rfl, e1, e2, s1, s2⟩ := h
  refine (concatT_calls blk [⟨p1, l1.length, c1, l1.flatMap Tm.cells⟩, ⟨p2, l2.length, c2, l2.flatMap Tm.cells⟩] w ?_ ?_ ?_ (by simp)).mono ?_
  · intro r hr
    simp only [List.mem_cons, List.mem_nil_iff, or_false] at hr
    rcases hr with rfl | rfl
    · exact s1.rw
    · exact s2.rw
  · intro i r hr
    match i, hr with
    | 0, hr => cases hr; exact e1
    | 1, hr => cases hr; exact e2
    | i + 2, hr => simp at hr
  · simp only [sumN, List.map_cons, List.map_nil, List.sum_cons, List.sum_nil]; omega
  · rintro e w' ⟨v', rfl, hown, hg⟩
    have hb : Built w' w.heap.size S v' (l1 ++ l2) := by
      refine ⟨?_, ?_, ?_⟩
      · rw [List.length_append, List.flatMap_append]
        simp only [sumN, List.map_cons, List.map_nil, List.sum_cons, List.sum_nil, List.flatMap_cons, List.flatMap_nil, List.append_nil, Nat.add_zero] at hown
        exact hown
      · exact Tm.InL_of fun x hx => (List.mem_append.1 hx).elim (fun hx => Tm.In_below hg (Tm.InL_mem s1.2.2.2 x hx)) (fun hx => Tm.In_below hg (Tm.InL_mem s2.2.2.2 x hx))
      · refine Tm.OnL_of fun x hx => ?_
        have hxi : x.In w ∧ x.On S := (List.mem_append.1 hx).elim (fun hx => ⟨Tm.InL_mem s1.2.2.2 x hx, Tm.OnL_mem h1 x hx⟩) (fun hx => ⟨Tm.InL_mem s2.2.2.2 x hx, Tm.OnL_mem h2 x hx⟩)
        refine (Tm.On.and hxi.2 hxi.1.on).mono fun b hb => ⟨.inl hb.1, Nat.lt_of_lt_of_le hb.2 hg.size, fun e => ?_⟩
        have := (hown.lt b e).1
        have := hb.2
        omega
    obtain ⟨p', c', rfl, _⟩ := hb.form
    obtain ⟨_, hsl, hon⟩ := hb.sl (by rw [List.length_append]; exact hlen)
    exact ⟨_, rfl, ⟨p', c', rfl, hsl, hon.mono fun b hb => hb.elim id fun h => hS b h⟩, hg⟩

/-- A term is handed back through a block of the call's own. -/
theorem ret_tm {S S2 : Nat → Prop} {bm : Tm} {u : T} {w w' : World} {R : Nat} (hin : bm.In w') (he : bm.erase = u) (hon : bm.On S2) (h1 : ∀ b, S2 b → S b) (h2 : ∀ b, S2 b → b ≠ R) (hg : Gr w w') (hR : w.heap.size ≤ R) (v0 v1 v2 v3 : Value) :
    RetTm S u w (.returned bm.val) ((((w'.setCell ⟨R, 0, none⟩ v0).setCell ⟨R, 1, none⟩ v1).setCell ⟨R, 2, none⟩ v2).setCell ⟨R, 3, none⟩ v3) :=
  ⟨bm, in_after' hin hon fun b h3 _ o => by have := h2 b h3; rw [cell_set_ne this, cell_set_ne this, cell_set_ne this, cell_set_ne this], he, rfl,
    Below.trans hg ((Kp.set4 (C := fun b => b = R) rfl).below (fun b hb => by omega) hg.size), hon.mono h1⟩
/-- The same set without one block. -/
theorem on_but {S : Nat → Prop} {t : Tm} {w : World} {R : Nat} (hin : t.In w) (hon : t.On S) (hR : w.heap.size ≤ R) : t.On fun b => S b ∧ b ≠ R :=
  Tm.On.and hon (in_ne hin hR)
theorem Tm.In.slw {t : Tm} {w : World} (h : t.In w) : Tm.Sl w t.p t.c t.l := by obtain ⟨k, n, s, p, c, l⟩ := t; exact h.sl
theorem Tm.In.slen {t : Tm} {w : World} (h : t.In w) : t.s.size ≤ 140737488351232 := by obtain ⟨k, n, s, p, c, l⟩ := t; rw [Tm.In] at h; exact h.2.2.1
theorem Tm.On.lw {t : Tm} {S : Nat → Prop} (h : t.On S) : Tm.OnL S t.l := by obtain ⟨k, n, s, p, c, l⟩ := t; rw [Tm.On] at h; exact h.2

/-- A term is handed back, or what can't be is thrown. -/
def RetP (S : Nat → Prop) (r : Option T) (w : World) (e : Ending) (w' : World) : Prop := (∃ u, r = some u ∧ RetTm S u w e w') ∨ (r = none ∧ WrongE e ∧ Gr w w')

set_option maxHeartbeats 4000000 in
set_option maxRecDepth 100000 in
theorem call_calls (t x y : Tm) (S : Nat → Prop) (w : World) (ht : t.In w) (ha : x.In w) (hb : y.In w) (hto : t.On S) (hao : x.On S) (hbo : y.On S) (hS : ∀ c, w.heap.size ≤ c → S c) (hf : t.erase.formed = true) :
    Calls Try.prog 82 #[t.val, x.val, y.val] w (RetP S (T.gcall reserved t.erase x.erase y.erase) w) := by
  generalize hQ : RetP S (T.gcall reserved t.erase x.erase y.erase) w = Q
  have HQ := Lib.hid hQ
  have Ht := Lib.hid ht
  have Hx := Lib.hid ha
  have Hy := Lib.hid hb
  have Hto := Lib.hid hto
  have Hxo := Lib.hid hao
  have Hyo := Lib.hid hbo
  have HS := Lib.hid hS
  obtain ⟨hts, htl⟩ := tm_small hf
  have hg0 : T.gcall reserved t.erase x.erase y.erase = if t.erase.callable then (if 50 < t.l.length + 2 then none else if reserved t.s.toList ((t.l.length : Int) + 2) then none else some (compT t.s.toList (Tm.eraseL (t.l ++ [x, y])))) else none := by
    obtain ⟨k, n, s, p, c, l⟩ := t
    rw [T.gcall, Tm.erase]
    simp only [T.l, T.s, Tm.eraseL_length, Tm.l, Tm.s, eraseL_append, Tm.eraseL]
    rfl
  have HG := Lib.hid hg0
  clear hQ ht ha hb hto hao hbo hS hg0
  have Htv := Lib.hid (show t.val = .agg #[.int .i64 t.k, .int .i64 t.n, .string t.s, .slice t.p t.l.length t.c] from rfl)
  simp only [Tm.val]
  go_enter Try.func82, Try.ntmps82
  try simp only [List.append_eq, List.cons_append, List.nil_append]
  go_upto_region 1 with fail
  obtain ⟨HT, HA, HB, g1, hs1⟩ := three_blocks w (.int .i64 t.k) (.int .i64 t.n) (.string t.s) (.slice t.p t.l.length t.c) (.int .i64 x.k) (.int .i64 x.n) (.string x.s) (.slice x.p x.l.length x.c) (.int .i64 y.k) (.int .i64 y.n) (.string y.s) (.slice y.p y.l.length y.c)
  have hR0 := Blk4.new (((w.alloc (.cells #[.int .i64 t.k, .int .i64 t.n, .string t.s, .slice t.p t.l.length t.c] 24)).alloc (.cells #[.int .i64 x.k, .int .i64 x.n, .string x.s, .slice x.p x.l.length x.c] 24)).alloc (.cells #[.int .i64 y.k, .int .i64 y.n, .string y.s, .slice y.p y.l.length y.c] 24)) (.int .i64 0) (.int .i64 0) (.string ⟨#[]⟩) (.slice none 0 0)
  have g2 : Gr (((w.alloc (.cells #[.int .i64 t.k, .int .i64 t.n, .string t.s, .slice t.p t.l.length t.c] 24)).alloc (.cells #[.int .i64 x.k, .int .i64 x.n, .string x.s, .slice x.p x.l.length x.c] 24)).alloc (.cells #[.int .i64 y.k, .int .i64 y.n, .string y.s, .slice y.p y.l.length y.c] 24)) ((((w.alloc (.cells #[.int .i64 t.k, .int .i64 t.n, .string t.s, .slice t.p t.l.length t.c] 24)).alloc (.cells #[.int .i64 x.k, .int .i64 x.n, .string x.s, .slice x.p x.l.length x.c] 24)).alloc (.cells #[.int .i64 y.k, .int .i64 y.n, .string y.s, .slice y.p y.l.length y.c] 24)).alloc (.cells #[.int .i64 0, .int .i64 0, .string ⟨#[]⟩, .slice none 0 0] 24)) := by go_grown
  rw [hs1] at hR0
  replace HT := Lib.hid (HT.out.gr g2)
  replace HA := Lib.hid (HA.out.gr g2)
  replace HB := Lib.hid (HB.out.gr g2)
  have HR := Lib.hid hR0
  have gA := g1.trans g2
  generalize (((w.alloc (.cells #[.int .i64 t.k, .int .i64 t.n, .string t.s, .slice t.p t.l.length t.c] 24)).alloc (.cells #[.int .i64 x.k, .int .i64 x.n, .string x.s, .slice x.p x.l.length x.c] 24)).alloc (.cells #[.int .i64 y.k, .int .i64 y.n, .string y.s, .slice y.p y.l.length y.c] 24)).alloc (.cells #[.int .i64 0, .int .i64 0, .string ⟨#[]⟩, .slice none 0 0] 24) = wA at *
  clear g1 g2 hs1 hR0
  have hsA : w.heap.size + 3 < wA.heap.size := HR.out.parts.2.2
  have HsA := Lib.hid hsA
  clear hsA
  obtain ⟨⟨t0, t1, t2, t3⟩, _, _⟩ := HT.out.parts
  cases hc : t.erase.callable with
  | false =>
    have hn := Lib.hid (HG.out.trans (by rw [hc]))
    go_wp2_with (first
      | (go_at_call 94; rewrite [← Htv.out]; refine (callable_calls t _).mono ?_; rintro e w' ⟨rfl, hb⟩; rewrite [hc]; have gB := gA.trans hb; clear hb)
      | (go_at_call 87; refine (fail_calls _ _).mono ?_; rintro e w2 ⟨rfl, hb2⟩)
      | fail)
    refine ⟨rfl, ?_⟩
    rw [← HQ.out]
    exact .inr ⟨hn.out, ⟨_, rfl⟩, gB.trans hb2⟩
  | true =>
    by_cases h50 : 50 < t.l.length + 2
    · have hn := Lib.hid (HG.out.trans (by rw [hc, if_pos rfl, if_pos h50]))
      go_wp2_with (first
        | (go_at_call 94; rewrite [← Htv.out]; refine (callable_calls t _).mono ?_; rintro e w' ⟨rfl, hb⟩; rewrite [hc]; have gB := gA.trans hb; clear hb)
        | (go_at_call 87; refine (fail_calls _ _).mono ?_; rintro e w2 ⟨rfl, hb2⟩)
        | fail)
      refine ⟨rfl, ?_⟩
      rw [← HQ.out]
      exact .inr ⟨hn.out, ⟨_, rfl⟩, gB.trans hb2⟩
    · have h50d : decide ((50 : Int) < (t.l.length : Int) + 2) = false := decide_eq_false (by omega)
      cases hr : reserved t.s.toList ((t.l.length : Int) + 2) with
      | true =>
        have hn := Lib.hid (HG.out.trans (by rw [hc, if_pos rfl, if_neg h50, if_pos hr]))
        go_wp2_with (first
          | (go_at_call 94; rewrite [← Htv.out]; refine (callable_calls t _).mono ?_; rintro e w' ⟨rfl, hb⟩; rewrite [hc]; have gB := gA.trans hb; have z2 := Gr.at hb t2; clear hb)
          | (go_at_call 95; refine (reserved_calls _ _ _).mono ?_; rintro e w1 ⟨rfl, hb⟩; rewrite [hr]; have gC := gB.trans hb; clear hb)
          | (go_at_call 87; refine (fail_calls _ _).mono ?_; rintro e w2 ⟨rfl, hb2⟩)
          | fail)
        refine ⟨rfl, ?_⟩
        rw [← HQ.out]
        exact .inr ⟨hn.out, ⟨_, rfl⟩, gC.trans hb2⟩
      | false =>
        have hn := Lib.hid (HG.out.trans (by rw [hc, if_pos rfl, if_neg h50, if_neg (by rw [hr]; decide)]))
        go_upto_region 8 with (first
          | (go_at_call 94; rewrite [← Htv.out]; refine (callable_calls t _).mono ?_; rintro e w' ⟨rfl, hb⟩; rewrite [hc]; have gB := gA.trans hb; have gAB := hb; have z2 := Gr.at hb t2; clear hb)
          | (go_at_call 95; refine (reserved_calls _ _ _).mono ?_; rintro e w1 ⟨rfl, hb⟩; rewrite [hr]; have gAC := Gr.trans gAB hb; clear hb)
          | fail)
        have gC : Gr w w1 := gA.trans gAC
        replace HT := Lib.hid (HT.out.gr gAC)
        replace HA := Lib.hid (HA.out.gr gAC)
        replace HB := Lib.hid (HB.out.gr gAC)
        replace HR := Lib.hid (HR.out.gr gAC)
        clear t0 t1 t2 t3 z2 gA gB gAB
        have Hto2 := Lib.hid (on_but (R := w.heap.size + 3) Ht.out Hto.out (by omega))
        have Hxo2 := Lib.hid (on_but (R := w.heap.size + 3) Hx.out Hxo.out (by omega))
        have Hyo2 := Lib.hid (on_but (R := w.heap.size + 3) Hy.out Hyo.out (by omega))
        have HS2 : Hid (∀ c, w1.heap.size ≤ c → S c ∧ c ≠ w.heap.size + 3) := fun c hc => ⟨HS.out c (Nat.le_trans gC.size hc), by have := HsA.out; have := gAC.size; omega⟩
        have hS3 : (∀ b, (fun b => S b ∧ b ≠ w.heap.size + 3) b → S b) ∧ (∀ b, (fun b => S b ∧ b ≠ w.heap.size + 3) b → b ≠ w.heap.size + 3) := ⟨fun _ h => h.1, fun _ h => h.2⟩
        have hS2 : ∀ c, w1.heap.size ≤ c → (fun b => S b ∧ b ≠ w.heap.size + 3) c := HS2.out
        generalize (fun b => S b ∧ b ≠ w.heap.size + 3) = S2 at Hto2 Hxo2 Hyo2 hS3 hS2
        replace HS2 := Lib.hid hS2
        have HS3 := Lib.hid hS3
        clear hS2 hS3
        obtain ⟨⟨t0, t1, t2, t3⟩, _, _⟩ := HT.out.parts
        obtain ⟨⟨a0, a1, a2, a3⟩, _, _⟩ := HA.out.parts
        obtain ⟨⟨b0, b1, b2, b3⟩, _, _⟩ := HB.out.parts
        refine wp_region_rely_tail 10 [fx (.pointer (some ⟨w.heap.size, 2, none⟩)), fx (.string t.s), fx (.pointer (some ⟨w.heap.size, 3, none⟩)), fx (.slice t.p t.l.length t.c), fx (.agg #[.int .i64 x.k, .int .i64 x.n, .string x.s, .slice x.p x.l.length x.c]), fx (.agg #[.int .i64 y.k, .int .i64 y.n, .string y.s, .slice y.p y.l.length y.c]), slAt S2 [x, y], twoSls t.l [x, y], slAt S2 (t.l ++ [x, y]), tmIs S2 (compT t.s.toList (Tm.eraseL (t.l ++ [x, y])))]
          (by kernel_rfl) (by kernel_rfl) (by decide) (by repeat (first | exact Stable.nil | refine Stable.fix ?_ | refine Stable.cons slAt_stable ?_ | refine Stable.cons twoSls_stable ?_ | refine Stable.cons tmIs_stable ?_)) ?_ ?_
        · refine ⟨?_, ?_, ?_, ?_, ?_, ?_, ?a6, ?a7, ?a8, ?a9, trivial⟩
          case a7 =>
            intro fr wr hg hold
            have h3 : fr.tmps[3]?.getD undef = .pointer (some ⟨w.heap.size, 0, none⟩) := hold 3 rfl
            have h4 : fr.tmps[4]?.getD undef = .pointer (some ⟨w.heap.size + 1, 0, none⟩) := hold 4 rfl
            have h5 : fr.tmps[5]?.getD undef = .pointer (some ⟨w.heap.size + 1 + 1, 0, none⟩) := hold 5 rfl
            clear hold
            have t0' := Gr.at hg t0
            have t1' := Gr.at hg t1
            have t2' := Gr.at hg t2
            have t3' := Gr.at hg t3
            have a0' := Gr.at hg a0
            have a1' := Gr.at hg a1
            have a2' := Gr.at hg a2
            have a3' := Gr.at hg a3
            have b0' := Gr.at hg b0
            have b1' := Gr.at hg b1
            have b2' := Gr.at hg b2
            have b3' := Gr.at hg b3
            have gr := gC.trans hg
            clear t0 t1 t2 t3 a0 a1 a2 a3 b0 b1 b2 b3
            simp [predsImp, Region.binds, dstAt, fx]
            rintro h30 ⟨p2, c2, e33, hsl, hon⟩ K hK
            go_simp
            exact hK _ _ ⟨_, _, _, _, _, rfl, by go_cell, by go_cell, Ht.out.slw.mono (Gr.trans gr (by go_grown)), hsl.mono (by go_grown)⟩ (by go_grown)
          case a8 =>
            intro fr wr hg hold
            have h3 : fr.tmps[3]?.getD undef = .pointer (some ⟨w.heap.size, 0, none⟩) := hold 3 rfl
            have h4 : fr.tmps[4]?.getD undef = .pointer (some ⟨w.heap.size + 1, 0, none⟩) := hold 4 rfl
            have h5 : fr.tmps[5]?.getD undef = .pointer (some ⟨w.heap.size + 1 + 1, 0, none⟩) := hold 5 rfl
            clear hold
            have t0' := Gr.at hg t0
            have t1' := Gr.at hg t1
            have t2' := Gr.at hg t2
            have t3' := Gr.at hg t3
            have a0' := Gr.at hg a0
            have a1' := Gr.at hg a1
            have a2' := Gr.at hg a2
            have a3' := Gr.at hg a3
            have b0' := Gr.at hg b0
            have b1' := Gr.at hg b1
            have b2' := Gr.at hg b2
            have b3' := Gr.at hg b3
            have gr := gC.trans hg
            clear t0 t1 t2 t3 a0 a1 a2 a3 b0 b1 b2 b3
            simp [predsImp, Region.binds, dstAt]
            intro h34 K hK
            generalize hv34 : fr.tmps[34]?.getD undef = v34 at *
            go_simp
            refine (concat_two h34 Hto2.out.lw (by rw [Tm.OnL, Tm.OnL, Tm.OnL]; exact ⟨Hxo2.out, Hyo2.out, trivial⟩) (fun c hc => HS2.out c (Nat.le_trans hg.size hc)) (by simp; omega)).mono ?_
            rintro e w10 ⟨v', rfl, hs, hg2⟩
            exact hK _ _ hs hg2
          case a9 =>
            intro fr wr hg hold
            have h3 : fr.tmps[3]?.getD undef = .pointer (some ⟨w.heap.size, 0, none⟩) := hold 3 rfl
            have h4 : fr.tmps[4]?.getD undef = .pointer (some ⟨w.heap.size + 1, 0, none⟩) := hold 4 rfl
            have h5 : fr.tmps[5]?.getD undef = .pointer (some ⟨w.heap.size + 1 + 1, 0, none⟩) := hold 5 rfl
            clear hold
            have t0' := Gr.at hg t0
            have t1' := Gr.at hg t1
            have t2' := Gr.at hg t2
            have t3' := Gr.at hg t3
            have a0' := Gr.at hg a0
            have a1' := Gr.at hg a1
            have a2' := Gr.at hg a2
            have a3' := Gr.at hg a3
            have b0' := Gr.at hg b0
            have b1' := Gr.at hg b1
            have b2' := Gr.at hg b2
            have b3' := Gr.at hg b3
            have gr := gC.trans hg
            clear t0 t1 t2 t3 a0 a1 a2 a3 b0 b1 b2 b3
            simp [predsImp, Region.binds, dstAt, fx]
            rintro h28 ⟨p', c', e35, hsl, hon⟩ K hK
            go_simp
            refine (comp_calls _ _ _ _ _).mono ?_
            rintro e w10 ⟨rfl, hg2⟩
            exact hK _ _ ⟨compTm t.s p' c' (t.l ++ [x, y]), by simp [compTm, Tm.val, Tm.k, Tm.n, Tm.s, Tm.p, Tm.c, Tm.l], compTm_in Ht.out.slen (hsl.mono hg2), rfl, by rw [compTm, Tm.On]; exact hon⟩ hg2
          all_goals
            intro fr wr hg hold
            have h3 : fr.tmps[3]?.getD undef = .pointer (some ⟨w.heap.size, 0, none⟩) := hold 3 rfl
            have h4 : fr.tmps[4]?.getD undef = .pointer (some ⟨w.heap.size + 1, 0, none⟩) := hold 4 rfl
            have h5 : fr.tmps[5]?.getD undef = .pointer (some ⟨w.heap.size + 1 + 1, 0, none⟩) := hold 5 rfl
            clear hold
            have t0' := Gr.at hg t0
            have t1' := Gr.at hg t1
            have t2' := Gr.at hg t2
            have t3' := Gr.at hg t3
            have a0' := Gr.at hg a0
            have a1' := Gr.at hg a1
            have a2' := Gr.at hg a2
            have a3' := Gr.at hg a3
            have b0' := Gr.at hg b0
            have b1' := Gr.at hg b1
            have b2' := Gr.at hg b2
            have b3' := Gr.at hg b3
            have gr := gC.trans hg
            clear t0 t1 t2 t3 a0 a1 a2 a3 b0 b1 b2 b3
            simp [predsImp, Region.binds, dstAt, fx]
            intros
            first
              | (rw [if_pos (by simp [*])]
                 intro K hK)
              | (rename_i K hK)
            go_simp
          case a6 =>
            exact hK _ _ ⟨_, _, rfl, two_new (t := x) (u := y) (Tm.In_below gr Hx.out) (Tm.In_below gr Hy.out) (Gr.rfl' _), .inr ⟨_, _, rfl, HS2.out _ hg.size⟩, by rw [Tm.OnL, Tm.OnL, Tm.OnL]; exact ⟨Hxo2.out, Hyo2.out, trivial⟩⟩ (by go_grown)
          all_goals exact hK _ _ rfl (Gr.rfl' _)
        · intro w9 hg
          rintro _ rfl _ rfl _ rfl _ rfl _ rfl _ rfl v6 _ v7 _ v8 _ v9 ⟨bm, rfl, hin, he, hon⟩
          have Hin := Lib.hid hin
          have He := Lib.hid he
          have Hon := Lib.hid hon
          have g9 : Gr w w9 := gC.trans hg
          obtain ⟨⟨y0, y1, y2, y3⟩, ⟨f0, f1, f2, f3⟩, hlt⟩ := (HR.out.gr hg).parts
          have Hbv := Lib.hid (show bm.val = .agg #[.int .i64 bm.k, .int .i64 bm.n, .string bm.s, .slice bm.p bm.l.length bm.c] from rfl)
          clear hin he hon hg t0 t1 t2 t3 a0 a1 a2 a3 b0 b1 b2 b3
          rw [Hbv.out]
          simp only [finAll, Act.put, List.setIfInBounds_toArray, List.set_cons_succ, List.set_cons_zero, List.drop_succ_cons, List.drop_zero, List.take_zero]
          go_wp2_with fail
          refine bodyPost_ret (v := bm.val) (by simp (maxDischargeDepth := 9) [results, Try.results82, go_sem, Tm.val, y0, y1, y2, y3]) rfl ?_
          rw [← HQ.out]
          exact .inl ⟨_, hn.out, ret_tm Hin.out He.out Hon.out HS3.out.1 HS3.out.2 g9 (by omega) _ _ _ _⟩
end Go.Proofs.Yteonakicoomjkaa
