/-
  A drawn region in two halves: the second waits for all of the first.
  The second half of a drawn region some of whose operations turn more than new memory; what is known by which operations are over speaks of the frame too.
-/
import Derived.Test.YtmecghjnghhhkaaUO17
namespace Go.Proofs.Ytmecghjnghhhkaa
open Go.RowKit

/-- What is asked of the text: m operations first, then those that wait for all of these. -/
def splitB (ops : List Oper) (m n : Nat) : Bool :=
  relyB (ops.take m) n &&
  (ops.zipIdx.all fun (o, i) => o.after.all fun e => !Region.binds .any e || decide (e.on < i)) &&
  (ops.zipIdx.all fun (o, i) => match o.guard with | none => true | some (j, _) => decide (j < i)) &&
  (List.range ops.length).all fun j => decide (j < m) || (List.range m).all fun i => (anc ops (j + 1) j).contains i
/-- The second half. -/
def RestAny (P : Program) (ops : List Oper) (Q : Exit → Act → World → Prop) (m : Nat) (a : Act) (w : World) : Prop :=
  ∀ (fuel : Nat) (listed : Array Bool), listed.size = ops.length → listed.count false ≤ fuel → (∀ i, i < m → i < ops.length → listed.getD i false = true) → (∀ i, m ≤ i → i < ops.length → listed.getD i true = false) → wpAny P .any ops.toArray Q fuel listed a w

section
variable {P : Program} {ops : List Oper} {Vs : List VP} {a₀ : Act} {w₀ : World} {Q : Exit → Act → World → Prop} {m : Nat}
theorem splitB_spec {n : Nat} (h : splitB ops m n = true) : relyB (ops.take m) n = true ∧ (∀ i o, ops[i]? = some o → ∀ e ∈ o.after, Region.binds .any e = true → e.on < i) ∧
    (∀ j, j < ops.length → m ≤ j → ∀ i, i < m → i ∈ anc ops (j + 1) j) ∧ (∀ (i : Nat) (o : Oper) (j : Nat) (want : Bool), ops[i]? = some o → o.guard = some (j, want) → j < i) := by
  simp only [splitB, Bool.and_eq_true, List.all_eq_true, List.mem_range, Bool.or_eq_true, decide_eq_true_eq] at h
  obtain ⟨⟨⟨h1, h2⟩, h4⟩, h3⟩ := h
  refine ⟨h1, fun i o hi e he hb => ?_, fun j hj hm i hi => ?_, fun i o j want hi hg => ?_⟩
  · have h5 := h2 (o, i) (by rw [List.mem_zipIdx_iff_getElem?]; exact hi)
    have h6 := Array.all_eq_true_iff_forall_mem.1 h5 e he
    simpa [hb] using h6
  · rcases h3 j hj with h5 | h5
    · omega
    · simpa using h5 i hi
  · have h5 := h4 (o, i) (by rw [List.mem_zipIdx_iff_getElem?]; exact hi)
    simpa [hg] using h5

theorem wpAny_mid_split (hB : splitB ops m a₀.tmps.size = true) (hm : m ≤ ops.length) (hst : Stable Vs) (hsteps : stepsFrom P (ops.take m) Vs a₀ w₀ Q (ops.take m) Vs)
    (hfin : ∀ listed a w, Mid (ops.take m) Vs a₀ w₀ listed a w → (∀ i, i < (ops.take m).length → listed.getD i false = true) → RestAny P ops Q m a w) :
    ∀ (fuel : Nat) (listed : Array Bool) (a : Act) (w : World), listed.size = ops.length → listed.count false ≤ fuel → Shut ops listed → (∀ i, m ≤ i → i < ops.length → listed.getD i true = false) →
      Mid (ops.take m) Vs a₀ w₀ (listed.extract 0 m) a w → wpAny P .any ops.toArray Q fuel listed a w := by
  obtain ⟨hR, hlt, hanc, hgrd⟩ := splitB_spec hB
  have hlen : (ops.take m).length = m := by rw [List.length_take]; omega
  have hext : ∀ (listed : Array Bool) (i : Nat), i < m → ∀ d, (listed.extract 0 m).getD i d = listed.getD i d := by
    intro listed i hi d
    simp only [Array.getD_eq_getD_getElem?, Array.getElem?_extract]
    by_cases h : i < listed.size
    · rw [if_pos (by omega)]; simp
    · rw [if_neg (by omega)]; simp [Array.getElem?_eq_none (Nat.le_of_not_lt h)]
  have hexts : ∀ (listed : Array Bool) (i : Nat), i < m → (listed.setIfInBounds i true).extract 0 m = (listed.extract 0 m).setIfInBounds i true := by
    intro listed i hi
    apply Array.ext_getElem?
    intro j
    simp only [Array.getElem?_extract, Array.getElem?_setIfInBounds, Array.size_setIfInBounds, Array.size_extract, Nat.sub_zero, Nat.zero_add]
    by_cases hj : j < m ∧ j < listed.size
    · by_cases e : i = j
      · subst e
        simp [hj]
      · have : j < min m listed.size := by omega
        simp [this, e]
    · have : ¬ j < min m listed.size := by omega
      by_cases e : i = j
      · subst e
        simp [this]
      · simp [this, e]
  intro fuel
  induction fuel with
  | zero =>
    intro listed a w hs hc hshut hno hmid
    by_cases hall : ∀ i, i < m → listed.getD i false = true
    · exact hfin _ a w hmid (fun i hi => by rw [hext listed i (by omega)]; exact hall i (by omega)) 0 listed hs hc (fun i hi _ => hall i hi) hno
    · exfalso
      apply hall
      intro i hi
      have hi' : i < listed.size := by omega
      by_cases h : listed.getD i false = true
      · exact h
      · have h5 : listed.getD i true = false := by simpa [hi'] using h
        have := count_set h5
        omega
  | succ fuel ih =>
    intro listed a w hs hc hshut hno hmid
    by_cases hall : ∀ i, i < m → listed.getD i false = true
    · exact hfin _ a w hmid (fun i hi => by rw [hext listed i (by omega)]; exact hall i (by omega)) (fuel + 1) listed hs hc (fun i hi _ => hall i hi) hno
    · have hpre : ∀ i ∈ Region.ready .any ops.toArray listed, i < m := by
        intro i hi
        rcases Nat.lt_or_ge i m with h | h
        · exact h
        · exfalso
          obtain ⟨h0, o, ho, hal⟩ := mem_ready.1 hi
          have ho' : ops[i]? = some o := by simpa using ho
          have hil := (List.getElem?_eq_some_iff.1 ho').1
          exact hall fun j hj => anc_listed hshut (i + 1) i o ho' hal j (hanc i hil h j hj)
      refine ⟨fun hr => ?_, fun i hi => ?_⟩
      · exfalso
        apply hall
        intro i
        induction i using Nat.strongRecOn with
        | _ i ihi =>
          intro hi
          by_cases h : listed.getD i false = true
          · exact h
          · have hi' : i < listed.size := by omega
            have hmem : i ∈ Region.ready .any ops.toArray listed := by
              rw [mem_ready]
              refine ⟨by simpa [hi'] using h, ops[i], by simp [show i < ops.length by omega], fun e he hb => ?_⟩
              have := hlt i ops[i] (by simp) e he hb
              exact ihi e.on this (by omega)
            rw [hr] at hmem
            cases hmem
      · have him := hpre i hi
        obtain ⟨h0, o, ho, hal⟩ := mem_ready.1 hi
        have ho' : ops[i]? = some o := by simpa using ho
        have hot : (ops.take m)[i]? = some o := by rw [List.getElem?_take, if_pos him]; exact ho'
        have hstep := stepsFrom_at hsteps hot a w hmid.grown (fun t ht => by
          have h1 := hmid.old t (fun j oj hj hd => by
            have := mem_dsts hj hd
            rw [List.contains_eq_mem, decide_eq_false_iff_not] at ht
            exact absurd this ht)
          simp only [h1])
        have hres := predsImp_elim (fun e he hb d hd => by
          unfold dstAt at hd
          cases hoe : (ops.take m)[e.on]? with
          | none => simp [hoe] at hd
          | some oe =>
            simp only [hoe, Option.bind_some] at hd
            have hem : e.on < m := by
              have := (List.getElem?_eq_some_iff.1 hoe).1
              omega
            have := hmid.val e.on oe d hoe hd (by rw [hext listed e.on hem]; exact hal e (by simpa using he) hb)
            rwa [Array.getD_eq_getD_getElem?] at this) hstep
        have hc' := count_set h0
        have hwant : wantedE (ops.take m) o a = wantedE ops o a := by
          unfold wantedE
          cases hg : o.guard with
          | none => rfl
          | some gw =>
            obtain ⟨j, want⟩ := gw
            have hj := hgrd i o j want ho' hg
            have : dstAt (ops.take m) j = dstAt ops j := by unfold dstAt; rw [List.getElem?_take, if_pos (by omega)]
            simp only [this]
        have hres : if wantedE ops o a then (∀ K : Act → World → Prop, (∀ v w', (Vs.getD i (fun _ _ => True)) v w' → Gr w w' → K (a.put o.dst v) w') → o.wp P a w K Q) else (Vs.getD i (fun _ _ => True)) undef w := by
          rw [← hwant]
          cases hgd : o.guard with
          | none =>
            have : wantedE (ops.take m) o a = true := by simp [wantedE, hgd]
            rw [if_pos this]
            simpa only [hgd] using hres
          | some gw => simpa only [hgd] using hres
        have hnext : ∀ v w', (Vs.getD i (fun _ _ => True)) v w' → Gr w w' → wpAny P .any ops.toArray Q fuel (listed.setIfInBounds i true) (a.put o.dst v) w' := fun v w' hv hg =>
          ih _ _ _ (by simpa using hs) (by omega) (shut_set hshut ho' hal) (fun j hj hj' => by rw [getD_set_ne true (by omega : i ≠ j)]; exact hno j hj hj')
            (by rw [hexts listed i him]; exact mid_step hR hst hmid hot rfl hv hg)
        unfold wpOp
        simp only [ho]
        rw [wantedE_eq]
        by_cases hw : wantedE ops o a = true
        · rw [if_pos hw]
          rw [if_pos hw] at hres
          exact .inl (hres _ fun v w' hv hg => hnext v w' hv hg)
        · rw [if_neg hw]
          rw [if_neg hw] at hres
          exact hnext _ _ hres (Gr.rfl' _)

/-- THE RULE, FIRST HALF: the first m operations in whatever order; those behind them wait for all of these. -/
theorem wp_region_split {id : Nat} (m : Nat) (Vs : List VP) (hm : P.follows .mixedOrders = true) (hB : splitB ops m a₀.tmps.size = true) (hml : m ≤ ops.length) (hst : Stable Vs)
    (hsteps : stepsFrom P (ops.take m) Vs a₀ w₀ Q (ops.take m) Vs) (hfin : ∀ w, Gr w₀ w → finAll (fun a w => RestAny P ops Q m a w) w (ops.take m) Vs a₀) : (Code.region id ops.toArray true).wp P Q a₀ w₀ := by
  refine wp_region_any hm ?_
  have hlen : (ops.take m).length = m := by rw [List.length_take]; omega
  have he : (Array.replicate ops.length false).extract 0 m = Array.replicate (ops.take m).length false := by
    apply Array.ext_getElem?
    intro i
    simp only [Array.getElem?_extract, Array.size_replicate, Array.getElem?_replicate, Nat.zero_add, Nat.sub_zero, hlen]
    by_cases h : i < m
    · simp [h, show i < min m ops.length by omega, show i < ops.length by omega]
    · simp [h, show ¬ i < min m ops.length by omega]
  have := wpAny_mid_split (Q := Q) hB hml hst hsteps (fun listed a w hmid hall => mid_fin (splitB_spec hB).1 hmid hall (hfin w hmid.grown)) ops.length (Array.replicate ops.length false) a₀ { w₀ with drawn := w₀.drawn + 1 } (by simp) (by simp)
    (fun i o hi hl => by
      have : i < ops.length := (List.getElem?_eq_some_iff.1 hi).1
      simp [this] at hl)
    (fun i _ hi => by simp [hi]) (by rw [he]; exact mid_start _ _ _ _)
  simpa using this

theorem wpAny_midFrom (hB : relyB ops a₀.tmps.size = true) (hst : Stable Vs) (hsteps : ∀ (i : Nat) (o : Oper), m ≤ i → ops[i]? = some o → StepOK P ops Vs a₀ w₀ Q o (Vs.getD i (fun _ _ => True)))
    (hfin : ∀ listed a w, Mid ops Vs a₀ w₀ listed a w → (∀ i, i < ops.length → listed.getD i false = true) → Q .normal a w) :
    ∀ (fuel : Nat) (listed : Array Bool) (a : Act) (w : World), listed.count false ≤ fuel → (∀ i, i < m → i < ops.length → listed.getD i false = true) → Mid ops Vs a₀ w₀ listed a w → wpAny P .any ops.toArray Q fuel listed a w := by
  intro fuel
  induction fuel with
  | zero =>
    intro listed a w hc hfirst hm
    have hr : Region.ready .any ops.toArray listed = [] := by
      rw [List.eq_nil_iff_forall_not_mem]
      intro i hi
      obtain ⟨h0, _⟩ := mem_ready.1 hi
      have := count_set h0
      omega
    exact ⟨hr, hfin _ _ _ hm (all_listed hB hm.sz hr)⟩
  | succ fuel ih =>
    intro listed a w hc hfirst hm
    refine ⟨fun hr => hfin _ _ _ hm (all_listed hB hm.sz hr), fun i hi => ?_⟩
    obtain ⟨h0, o, ho, hall⟩ := mem_ready.1 hi
    have ho' : ops[i]? = some o := by simpa using ho
    have him : m ≤ i := by
      rcases Nat.lt_or_ge i m with h | h
      · have h1 := hfirst i h (List.getElem?_eq_some_iff.1 ho').1
        have hil : i < listed.size := by rw [hm.sz]; exact (List.getElem?_eq_some_iff.1 ho').1
        simp [hil] at h0 h1
        rw [h0] at h1; cases h1
      · exact h
    have hnx : ∀ k, k < m → k < ops.length → (listed.setIfInBounds i true).getD k false = true := fun k hk hk2 => by rw [getD_set_ne false (by omega : i ≠ k)]; exact hfirst k hk hk2
    have hstep := hsteps i o him ho' a w hm.grown (fun t ht => by
      have h1 := hm.old t (fun j oj hj hd => by
        have := mem_dsts hj hd
        rw [List.contains_eq_mem, decide_eq_false_iff_not] at ht
        exact absurd this ht)
      simp only [h1])
    have hres := predsImp_elim (fun e he hb d hd => by
      unfold dstAt at hd
      cases hoe : ops[e.on]? with
      | none => simp [hoe] at hd
      | some oe =>
        simp only [hoe, Option.bind_some] at hd
        have := hm.val e.on oe d hoe hd (hall e (by simpa using he) hb)
        rwa [Array.getD_eq_getD_getElem?] at this) hstep
    have hc' := count_set h0
    have hres : if wantedE ops o a then (∀ K : Act → World → Prop, (∀ v w', (Vs.getD i (fun _ _ => True)) v w' → Gr w w' → K (a.put o.dst v) w') → o.wp P a w K Q) else (Vs.getD i (fun _ _ => True)) undef w := by
      cases hgd : o.guard with
      | none =>
        have : wantedE ops o a = true := by simp [wantedE, hgd]
        rw [if_pos this]
        simpa only [hgd] using hres
      | some gw => simpa only [hgd] using hres
    unfold wpOp
    simp only [ho]
    rw [wantedE_eq]
    by_cases hw : wantedE ops o a = true
    · rw [if_pos hw]
      rw [if_pos hw] at hres
      refine .inl (hres _ fun v w' hv hg => ?_)
      exact ih _ _ _ (by omega) hnx (mid_step hB hst hm ho' rfl hv hg)
    · rw [if_neg hw]
      rw [if_neg hw] at hres
      exact ih _ _ _ (by omega) hnx (mid_step hB hst hm ho' rfl hres (Gr.rfl' _))


/-- What the first half has left, as it is to be known in the second. -/
def preAll : List Oper → List VP → Act → World → Prop
  | [], _, _, _ => True
  | o :: os, V :: Vs, a, w => (match o.dst with | some d => V (a.tmps[d]?.getD undef) w | none => False) ∧ preAll os Vs a w
  | _ :: _, [], _, _ => False
theorem preAll_at : ∀ {os : List Oper} {Vs' : List VP} {i : Nat} {o : Oper} {a : Act} {w : World}, preAll os Vs' a w → os[i]? = some o → ∃ d, o.dst = some d ∧ (Vs'.getD i (fun _ _ => True)) (a.tmps[d]?.getD undef) w
  | [], _, i, o, _, _, _, hi => by simp at hi
  | o' :: os, [], _, _, _, _, h, _ => h.elim
  | o' :: os, V :: Vs', 0, o, a, w, h, hi => by
    simp only [List.getElem?_cons_zero, Option.some.injEq] at hi
    subst hi
    have h1 := h.1
    cases hd : o'.dst with
    | none => rw [hd] at h1; exact h1.elim
    | some d => rw [hd] at h1; exact ⟨d, rfl, h1⟩
  | o' :: os, V :: Vs', i + 1, o, a, w, h, hi => by
    simp only [List.getElem?_cons_succ] at hi
    simpa using preAll_at h.2 hi
/-- THE RULE, SECOND HALF. -/
theorem rest_rely (m : Nat) (Vs : List VP) (hB : relyB ops a₀.tmps.size = true) (hst : Stable Vs) (hpre : preAll (ops.take m) Vs a₀ w₀) (hsteps : stepsFrom P ops Vs a₀ w₀ Q (ops.drop m) (Vs.drop m)) (hfin : ∀ w, Gr w₀ w → finAll (Q .normal) w ops Vs a₀) : RestAny P ops Q m a₀ w₀ := by
  intro fuel listed hs hc h1 h2
  have hlt : ∀ i o, ops[i]? = some o → i < m → (ops.take m)[i]? = some o := fun i o hi h => by rw [List.getElem?_take, if_pos h]; exact hi
  refine wpAny_midFrom (m := m) hB hst (fun i o hi ho => ?_) (fun listed a w hmid hall => mid_fin hB hmid hall (hfin w hmid.grown)) fuel listed a₀ w₀ hc h1 ⟨hs, Gr.rfl' _, rfl, rfl, fun _ _ => rfl, fun i o d hi hd hl => ?_, fun i o hi hd hl => ?_⟩
  · have h3 := stepsFrom_at (i := i - m) (o := o) hsteps (by rw [List.getElem?_drop, show m + (i - m) = i by omega]; exact ho)
    rw [show (Vs.drop m).getD (i - m) (fun _ _ => True) = Vs.getD i (fun _ _ => True) by simp only [List.getD_eq_getElem?_getD, List.getElem?_drop]; rw [show m + (i - m) = i by omega]] at h3
    exact h3
  · rcases Nat.lt_or_ge i m with h | h
    · obtain ⟨d', hd', hV⟩ := preAll_at hpre (hlt i o hi h)
      rw [hd] at hd'
      cases hd'
      rw [Array.getD_eq_getD_getElem?]
      exact hV
    · have := h2 i h (List.getElem?_eq_some_iff.1 hi).1
      have hil : i < listed.size := by rw [hs]; exact (List.getElem?_eq_some_iff.1 hi).1
      simp [hil] at this hl
      rw [this] at hl; cases hl
  · rcases Nat.lt_or_ge i m with h | h
    · obtain ⟨d', hd', hV⟩ := preAll_at hpre (hlt i o hi h)
      rw [hd] at hd'
      cases hd'
    · have := h2 i h (List.getElem?_eq_some_iff.1 hi).1
      have hil : i < listed.size := by rw [hs]; exact (List.getElem?_eq_some_iff.1 hi).1
      simp [hil] at this hl
      rw [this] at hl; cases hl
end
end Go.Proofs.Ytmecghjnghhhkaa

namespace Go.Proofs.Ytmecghjnghhhkaa
open Go.RowKit

def StepB (R : World → World → Prop) (J : Array Bool → Act → World → Prop) (P : Program) (ops : List Oper) (Vs : List VP) (a₀ : Act) (w₀ : World) (Q : Exit → Act → World → Prop) (i : Nat) (o : Oper) (V : VP) : Prop :=
  ∀ listed a w, J listed a w → listed.getD i true = false → (∀ e ∈ o.after, Region.binds .any e = true → listed.getD e.on false = true) → R w₀ w → a.defers = a₀.defers → (∀ t, (dsts ops).contains t = false → a.tmps[t]?.getD undef = a₀.tmps[t]?.getD undef) →
    predsImp ops Vs a w (match o.guard with
      | none => (∀ K : Act → World → Prop, (∀ v w', V v w' → R w w' → J (listed.setIfInBounds i true) (a.put o.dst v) w' → K (a.put o.dst v) w') → o.wp P a w K Q)
      | some _ => if wantedE ops o a then (∀ K : Act → World → Prop, (∀ v w', V v w' → R w w' → J (listed.setIfInBounds i true) (a.put o.dst v) w' → K (a.put o.dst v) w') → o.wp P a w K Q) else V undef w ∧ J (listed.setIfInBounds i true) (a.put o.dst undef) w) o.after.toList
def stepsB (R : World → World → Prop) (J : Array Bool → Act → World → Prop) (P : Program) (ops : List Oper) (Vs : List VP) (a₀ : Act) (w₀ : World) (Q : Exit → Act → World → Prop) : List Oper → List VP → Nat → Prop
  | [], _, _ => True
  | o :: os, V :: Vs', i => StepB R J P ops Vs a₀ w₀ Q i o V ∧ stepsB R J P ops Vs a₀ w₀ Q os Vs' (i + 1)
  | _ :: _, [], _ => False

section
variable {P : Program} {ops : List Oper} {Vs : List VP} {a₀ : Act} {w₀ : World} {Q : Exit → Act → World → Prop} {R : World → World → Prop} {J : Array Bool → Act → World → Prop} {m : Nat}
theorem stepsB_at : ∀ {os : List Oper} {Vs' : List VP} {k i : Nat} {o : Oper}, stepsB R J P ops Vs a₀ w₀ Q os Vs' k → os[i]? = some o → StepB R J P ops Vs a₀ w₀ Q (k + i) o (Vs'.getD i (fun _ _ => True))
  | [], _, _, i, o, _, hi => by simp at hi
  | o' :: os, [], _, _, _, h, _ => h.elim
  | o' :: os, V :: Vs', k, 0, o, h, hi => by
    simp only [List.getElem?_cons_zero, Option.some.injEq] at hi
    subst hi
    exact h.1
  | o' :: os, V :: Vs', k, i + 1, o, h, hi => by
    simp only [List.getElem?_cons_succ] at hi
    have := stepsB_at h.2 hi
    rw [show k + 1 + i = k + (i + 1) by omega] at this
    simpa using this
/-- An operation that turns nothing but new memory, and of which J does not speak. -/
theorem stepB_plain {i : Nat} {o : Oper} {V : VP} (hG : ∀ w w', Gr w w' → R w w') (hJ : ∀ listed a w w' v, J listed a w → Gr w w' → J (listed.setIfInBounds i true) (a.put o.dst v) w')
    (h : ∀ a w, R w₀ w → (∀ t, (dsts ops).contains t = false → a.tmps[t]?.getD undef = a₀.tmps[t]?.getD undef) →
      predsImp ops Vs a w (match o.guard with | none => (∀ K : Act → World → Prop, (∀ v w', V v w' → Gr w w' → K (a.put o.dst v) w') → o.wp P a w K Q) | some _ => if wantedE ops o a then (∀ K : Act → World → Prop, (∀ v w', V v w' → Gr w w' → K (a.put o.dst v) w') → o.wp P a w K Q) else V undef w) o.after.toList) :
    StepB R J P ops Vs a₀ w₀ Q i o V := by
  intro listed a w hj _ _ hr _ hf
  have himp : ∀ {G G' : Prop}, (G → G') → ∀ es : List Edge, predsImp ops Vs a w G es → predsImp ops Vs a w G' es := by
    intro G G' hG es
    induction es with
    | nil => exact hG
    | cons e es ih =>
      intro h
      simp only [predsImp] at h ⊢
      split at h
      · rename_i hb
        rw [if_pos hb]
        cases hd : dstAt ops e.on with
        | none => simp only [hd] at h ⊢; exact ih h
        | some d => simp only [hd] at h ⊢; exact fun v h3 h4 => ih (h v h3 h4)
      · rename_i hb
        rw [if_neg hb]
        exact ih h
  refine himp ?_ _ (h a w hr hf)
  cases o.guard with
  | none => exact fun h2 K hK => h2 K fun v w' hv hg => hK v w' hv (hG _ _ hg) (hJ _ _ _ _ _ hj hg)
  | some g =>
    simp only
    split
    · exact fun h2 K hK => h2 K fun v w' hv hg => hK v w' hv (hG _ _ hg) (hJ _ _ _ _ _ hj hg)
    · exact fun h2 => ⟨h2, hJ _ _ _ _ _ hj (Gr.rfl' _)⟩

theorem wpAny_midB (hB : relyB ops a₀.tmps.size = true) (hR0 : ∀ w, R w w) (hRt : ∀ a b c, R a b → R b c → R a c) (hst : StableR R Vs) (hsteps : ∀ (i : Nat) (o : Oper), m ≤ i → ops[i]? = some o → StepB R J P ops Vs a₀ w₀ Q i o (Vs.getD i (fun _ _ => True)))
    (hfin : ∀ listed a w, MidA R J ops Vs a₀ w₀ listed a w → (∀ i, i < ops.length → listed.getD i false = true) → Q .normal a w) :
    ∀ (fuel : Nat) (listed : Array Bool) (a : Act) (w : World), listed.count false ≤ fuel → (∀ i, i < m → i < ops.length → listed.getD i false = true) → MidA R J ops Vs a₀ w₀ listed a w → wpAny P .any ops.toArray Q fuel listed a w := by
  intro fuel
  induction fuel with
  | zero =>
    intro listed a w hc _ hm
    have hr : Region.ready .any ops.toArray listed = [] := by
      rw [List.eq_nil_iff_forall_not_mem]
      intro i hi
      obtain ⟨h0, _⟩ := mem_ready.1 hi
      have := count_set h0
      omega
    exact ⟨hr, hfin _ _ _ hm (all_listed hB hm.sz hr)⟩
  | succ fuel ih =>
    intro listed a w hc hfirst hm
    refine ⟨fun hr => hfin _ _ _ hm (all_listed hB hm.sz hr), fun i hi => ?_⟩
    obtain ⟨h0, o, ho, hall⟩ := mem_ready.1 hi
    have ho' : ops[i]? = some o := by simpa using ho
    have him : m ≤ i := by
      rcases Nat.lt_or_ge i m with h | h
      · have h1 := hfirst i h (List.getElem?_eq_some_iff.1 ho').1
        have hil : i < listed.size := by rw [hm.sz]; exact (List.getElem?_eq_some_iff.1 ho').1
        simp [hil] at h0 h1
        rw [h0] at h1; cases h1
      · exact h
    have hnx : ∀ k, k < m → k < ops.length → (listed.setIfInBounds i true).getD k false = true := fun k hk hk2 => by rw [getD_set_ne false (by omega : i ≠ k)]; exact hfirst k hk hk2
    have hstep := hsteps i o him ho' listed a w hm.st h0 (fun e he hb => hall e (by simpa using he) hb) hm.grown hm.defers (fun t ht => by
      have h1 := hm.old t (fun j oj hj hd => by
        have := mem_dsts hj hd
        rw [List.contains_eq_mem, decide_eq_false_iff_not] at ht
        exact absurd this ht)
      simp only [h1])
    have hres := predsImp_elim (fun e he hb d hd => by
      unfold dstAt at hd
      cases hoe : ops[e.on]? with
      | none => simp [hoe] at hd
      | some oe =>
        simp only [hoe, Option.bind_some] at hd
        have := hm.val e.on oe d hoe hd (hall e (by simpa using he) hb)
        rwa [Array.getD_eq_getD_getElem?] at this) hstep
    have hc' := count_set h0
    have hres : if wantedE ops o a then (∀ K : Act → World → Prop, (∀ v w', (Vs.getD i (fun _ _ => True)) v w' → R w w' → J (listed.setIfInBounds i true) (a.put o.dst v) w' → K (a.put o.dst v) w') → o.wp P a w K Q) else (Vs.getD i (fun _ _ => True)) undef w ∧ J (listed.setIfInBounds i true) (a.put o.dst undef) w := by
      cases hgd : o.guard with
      | none =>
        have : wantedE ops o a = true := by simp [wantedE, hgd]
        rw [if_pos this]
        simpa only [hgd] using hres
      | some gw => simpa only [hgd] using hres
    unfold wpOp
    simp only [ho]
    rw [wantedE_eq]
    by_cases hw : wantedE ops o a = true
    · rw [if_pos hw]
      rw [if_pos hw] at hres
      refine .inl (hres _ fun v w' hv hg hj => ?_)
      exact ih _ _ _ (by omega) hnx (mid_stepA hB hRt hst hm ho' rfl hv hg hj)
    · rw [if_neg hw]
      rw [if_neg hw] at hres
      exact ih _ _ _ (by omega) hnx (mid_stepA hB hRt hst hm ho' rfl hres.1 (hR0 _) hres.2)

/-- THE RULE. -/
theorem rest_relyB (m : Nat) (Vs : List VP) (R : World → World → Prop) (J : Array Bool → Act → World → Prop) (hB : relyB ops a₀.tmps.size = true) (hG : ∀ w w', Gr w w' → R w w') (hRt : ∀ a b c, R a b → R b c → R a c) (hst : StableR R Vs)
    (hJ0 : ∀ listed : Array Bool, (∀ i, m ≤ i → listed.getD i false = false) → J listed a₀ w₀) (hpre : preAll (ops.take m) Vs a₀ w₀) (hsteps : stepsB R J P ops Vs a₀ w₀ Q (ops.drop m) (Vs.drop m) m) (hfin : ∀ w, R w₀ w → finAll (Q .normal) w ops Vs a₀) : RestAny P ops Q m a₀ w₀ := by
  intro fuel listed hs hc h1 h2
  have hlt : ∀ i o, ops[i]? = some o → i < m → (ops.take m)[i]? = some o := fun i o hi h => by rw [List.getElem?_take, if_pos h]; exact hi
  have hno : ∀ i, m ≤ i → listed.getD i false = false := fun i hi => by
    rcases Nat.lt_or_ge i ops.length with h | h
    · have := h2 i hi h
      have hil : i < listed.size := by rw [hs]; exact h
      simp [hil] at this ⊢
      exact this
    · simp [Array.getElem?_eq_none (show listed.size ≤ i by rw [hs]; exact h)]
  refine wpAny_midB (m := m) hB (fun w => hG _ _ (Gr.rfl' w)) hRt hst (fun i o hi ho => ?_) (fun listed a w hmid hall => mid_finA hB hmid hall (hfin w hmid.grown)) fuel listed a₀ w₀ hc h1 ⟨hs, hG _ _ (Gr.rfl' _), hJ0 listed hno, rfl, rfl, fun _ _ => rfl, fun i o d hi hd hl => ?_, fun i o hi hd hl => ?_⟩
  · have h3 := stepsB_at (i := i - m) (o := o) hsteps (by rw [List.getElem?_drop, show m + (i - m) = i by omega]; exact ho)
    rw [show m + (i - m) = i by omega, show (Vs.drop m).getD (i - m) (fun _ _ => True) = Vs.getD i (fun _ _ => True) by simp only [List.getD_eq_getElem?_getD, List.getElem?_drop]; rw [show m + (i - m) = i by omega]] at h3
    exact h3
  · rcases Nat.lt_or_ge i m with h | h
    · obtain ⟨d', hd', hV⟩ := preAll_at hpre (hlt i o hi h)
      rw [hd] at hd'
      cases hd'
      rw [Array.getD_eq_getD_getElem?]
      exact hV
    · rw [hno i h] at hl; cases hl
  · rcases Nat.lt_or_ge i m with h | h
    · obtain ⟨d', hd', hV⟩ := preAll_at hpre (hlt i o hi h)
      rw [hd] at hd'
      cases hd'
    · rw [hno i h] at hl; cases hl
end

/-- Operation i makes a value at slot d of which X is known till operation j uses it up and makes one at slot d' of which Y is known. -/
structure UseJ (n i j d d' : Nat) (X Y : VP) (listed : Array Bool) (a : Act) (w : World) : Prop where
  sz : a.tmps.size = n
  one : listed.getD i false = true → listed.getD j false = false → X (a.tmps[d]?.getD undef) w
  two : listed.getD j false = true → Y (a.tmps[d']?.getD undef) w
theorem put_at {a : Act} {d : Nat} {v : Value} (h : d < a.tmps.size) : (a.put (some d) v).tmps[d]?.getD undef = v := by simp [Act.put, h]
theorem UseJ.start {n i j d d' m : Nat} {X Y : VP} {a : Act} {w : World} (hn : a.tmps.size = n) (hi : m ≤ i) (hj : m ≤ j) (listed : Array Bool) (h : ∀ k, m ≤ k → listed.getD k false = false) : UseJ n i j d d' X Y listed a w :=
  ⟨hn, (fun h1 => by rw [h i hi] at h1; cases h1), (fun h1 => by rw [h j hj] at h1; cases h1)⟩
theorem UseJ.other {n i j d d' k : Nat} {X Y : VP} (hX : ∀ v w w', X v w → Gr w w' → X v w') (hY : ∀ v w w', Y v w → Gr w w' → Y v w') {o : Option Tmp} (hi : k ≠ i) (hj : k ≠ j) (hd : o ≠ some d) (hd' : o ≠ some d') (listed : Array Bool) (a : Act) (w w' : World) (v : Value) (h : UseJ n i j d d' X Y listed a w) (hg : Gr w w') :
    UseJ n i j d d' X Y (listed.setIfInBounds k true) (a.put o v) w' where
  sz := by rw [put_size]; exact h.sz
  one := fun h1 h2 => by
    rw [getD_set_ne false hi] at h1
    rw [getD_set_ne false hj] at h2
    rw [put_ne hd]
    exact hX _ _ _ (h.one h1 h2) hg
  two := fun h1 => by
    rw [getD_set_ne false hj] at h1
    rw [put_ne hd']
    exact hY _ _ _ (h.two h1) hg
theorem UseJ.first {n i j d d' : Nat} {X Y : VP} (hY : ∀ v w w', Y v w → Gr w w' → Y v w') {listed : Array Bool} {a : Act} {w w' : World} {v : Value} (h : UseJ n i j d d' X Y listed a w) (hij : i ≠ j) (hdd : d ≠ d') (hd : d < n) (hg : Gr w w') (hv : X v w') : UseJ n i j d d' X Y (listed.setIfInBounds i true) (a.put (some d) v) w' where
  sz := by rw [put_size]; exact h.sz
  one := fun _ _ => by rw [put_at (by rw [h.sz]; exact hd)]; exact hv
  two := fun h1 => by
    rw [getD_set_ne false hij] at h1
    rw [put_ne (fun e => hdd (Option.some.inj e))]
    exact hY _ _ _ (h.two h1) hg
theorem UseJ.second {n i j d d' : Nat} {X Y : VP} {listed : Array Bool} {a : Act} {w w' : World} {v : Value} (h : UseJ n i j d d' X Y listed a w) (hl : listed.getD j true = false) (hd : d' < n) (hv : Y v w') : UseJ n i j d d' X Y (listed.setIfInBounds j true) (a.put (some d') v) w' where
  sz := by rw [put_size]; exact h.sz
  one := fun _ h2 => by
    have hi : j < listed.size := by
      rcases Nat.lt_or_ge j listed.size with h' | h'
      · exact h'
      · simp [Array.getElem?_eq_none h'] at hl
    simp [hi] at h2
  two := fun _ => by rw [put_at (by rw [h.sz]; exact hd)]; exact hv
end Go.Proofs.Ytmecghjnghhhkaa
