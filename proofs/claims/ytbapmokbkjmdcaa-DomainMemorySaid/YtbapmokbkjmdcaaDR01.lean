/-
  A region that draws its order, whose operations may make memory: each operation hands back a value of which something is known that lasts while the world grows: then the order makes no difference.
-/
import Derived.Test.YtbapmokbkjmdcaaRows
import Derived.WalkKit
import Derived.WalkSpells
import Derived.WalkLawsBesides
import Derived.Lib.Hide
import Derived.Handy
namespace Go.Proofs.Ytbapmokbkjmdcaa
open Go.RowKit

/-- Nothing that was there has turned. -/
abbrev Gr (w w' : World) : Prop := Below w.heap.size w w'
theorem Gr.rfl' (w : World) : Gr w w := Below.refl _ _
theorem Gr.trans {a b c : World} (h : Gr a b) (k : Gr b c) : Gr a c := Below.trans h (Below.mono k h.size)

theorem Gr.at {w w' : World} (h : Gr w w') {p : Addr} {v : Value} (hc : w.cell? p = some v) : w'.cell? p = some v := by
  rw [Below.cell h (World.block_lt_of_cell? _ _ hc)]; exact hc

theorem Gr.drewN {w w' : World} (h : Gr w w') (n : Nat) : Gr w (w'.drewN n) := h.trans ⟨rfl, rfl, rfl, Nat.le_refl _, fun _ _ => rfl⟩

abbrev VP := Value → World → Prop

def dstAt (ops : List Oper) (i : Nat) : Option Tmp := (ops[i]?).bind (·.dst)
def dsts (ops : List Oper) : List Tmp := ops.filterMap (·.dst)

/-- Is the operation wanted, by the values of the frame? -/
def wantedE (ops : List Oper) (o : Oper) (a : Act) : Bool :=
  match o.guard with
  | none => true
  | some (j, want) =>
    match dstAt ops j with
    | none => false
    | some d => match a.eval (.tmp d) with
      | .bool b => b == want
      | _ => false

/-- What is known of those that the operation waits for. -/
def predsImp (ops : List Oper) (Vs : List VP) (a : Act) (w : World) (G : Prop) : List Edge → Prop
  | [] => G
  | e :: es =>
    if Region.binds .any e then
      match dstAt ops e.on with
      | none => predsImp ops Vs a w G es
      | some d => ∀ v, a.tmps[d]?.getD undef = v → (Vs.getD e.on (fun _ _ => True)) v w → predsImp ops Vs a w G es
    else predsImp ops Vs a w G es

def StepOK (P : Program) (ops : List Oper) (Vs : List VP) (a₀ : Act) (w₀ : World) (Q : Exit → Act → World → Prop) (o : Oper) (V : VP) : Prop :=
  ∀ a w, Gr w₀ w → (∀ t, (dsts ops).contains t = false → a.tmps[t]?.getD undef = a₀.tmps[t]?.getD undef) →
    predsImp ops Vs a w (match o.guard with | none => (∀ K : Act → World → Prop, (∀ v w', V v w' → Gr w w' → K (a.put o.dst v) w') → o.wp P a w K Q) | some _ => if wantedE ops o a then (∀ K : Act → World → Prop, (∀ v w', V v w' → Gr w w' → K (a.put o.dst v) w') → o.wp P a w K Q) else V undef w) o.after.toList

def stepsFrom (P : Program) (ops : List Oper) (Vs : List VP) (a₀ : Act) (w₀ : World) (Q : Exit → Act → World → Prop) : List Oper → List VP → Prop
  | [], _ => True
  | o :: os, V :: Vs' => StepOK P ops Vs a₀ w₀ Q o V ∧ stepsFrom P ops Vs a₀ w₀ Q os Vs'
  | _ :: _, [] => False

def finAll (K : Act → World → Prop) (w : World) : List Oper → List VP → Act → Prop
  | o :: os, V :: Vs, a => ∀ v, V v w → finAll K w os Vs (a.put o.dst v)
  | [], _, a => K a w
  | _ :: _, [], _ => False

/-- What is asked of the region's text. -/
def relyB (ops : List Oper) (n : Nat) : Bool :=
  decide (dsts ops).Nodup && (dsts ops).all (· < n) &&
  (ops.zipIdx.all fun (o, i) => o.after.all fun e => !Region.binds .any e || decide (e.on < i)) &&
  (ops.all fun o => match o.op with | .defer .. => false | .select .. => false | _ => true)

/-- The value is this one. -/
def fx (c : Value) : VP := fun v _ => v = c
def Stable (Vs : List VP) : Prop := ∀ V ∈ Vs, ∀ v w w', V v w → Gr w w' → V v w'
theorem Stable.nil : Stable [] := fun _ h => by cases h
theorem Stable.fix {c : Value} {Vs : List VP} (h : Stable Vs) : Stable (fx c :: Vs) := fun V hV => by
  rcases List.mem_cons.1 hV with rfl | hV
  · exact fun _ _ _ h _ => h
  · exact h V hV
theorem Stable.cons {W : VP} {Vs : List VP} (hW : ∀ v w w', W v w → Gr w w' → W v w') (h : Stable Vs) : Stable (W :: Vs) := fun V hV => by
  rcases List.mem_cons.1 hV with rfl | hV
  · exact hW
  · exact h V hV

section
variable {P : Program} {ops : List Oper} {Vs : List VP} {a₀ : Act} {w₀ : World} {Q : Exit → Act → World → Prop}

theorem mem_dsts {o : Oper} {d : Tmp} {i : Nat} (hi : ops[i]? = some o) (hd : o.dst = some d) : d ∈ dsts ops :=
  List.mem_filterMap.2 ⟨o, List.mem_of_getElem? hi, hd⟩

theorem dst_inj : ∀ {ops : List Oper}, (dsts ops).Nodup → ∀ {i j : Nat} {oi oj : Oper} {d : Tmp}, ops[i]? = some oi → ops[j]? = some oj → oi.dst = some d → oj.dst = some d → i = j := by
  intro ops
  induction ops with
  | nil => intro _ i j oi oj d hi; simp at hi
  | cons o os ih =>
    intro hn i j oi oj d hi hj hdi hdj
    have hn' : (dsts os).Nodup := by
      unfold dsts at hn ⊢
      rw [List.filterMap_cons] at hn
      cases ho : o.dst with
      | none => simpa [ho] using hn
      | some e => simp only [ho] at hn; exact (List.nodup_cons.1 hn).2
    have hhead : ∀ {e : Tmp} {k : Nat} {ok : Oper}, o.dst = some e → os[k]? = some ok → ok.dst = some e → False := by
      intro e k ok ho hk hd
      unfold dsts at hn
      rw [List.filterMap_cons] at hn
      simp only [ho] at hn
      exact (List.nodup_cons.1 hn).1 (mem_dsts hk hd)
    cases i with
    | zero =>
      cases j with
      | zero => rfl
      | succ j =>
        simp only [List.getElem?_cons_zero, Option.some.injEq] at hi
        simp only [List.getElem?_cons_succ] at hj
        subst hi
        exact (hhead hdi hj hdj).elim
    | succ i =>
      cases j with
      | zero =>
        simp only [List.getElem?_cons_zero, Option.some.injEq] at hj
        simp only [List.getElem?_cons_succ] at hi
        subst hj
        exact (hhead hdj hi hdi).elim
      | succ j =>
        simp only [List.getElem?_cons_succ] at hi hj
        rw [ih hn' hi hj hdi hdj]

/-- The state in the middle of the region. -/
structure Mid (ops : List Oper) (Vs : List VP) (a₀ : Act) (w₀ : World) (listed : Array Bool) (a : Act) (w : World) : Prop where
  sz : listed.size = ops.length
  grown : Gr w₀ w
  defers : a.defers = a₀.defers
  size : a.tmps.size = a₀.tmps.size
  old : ∀ t, (∀ i o, ops[i]? = some o → o.dst = some t → listed.getD i false = false) → a.tmps[t]? = a₀.tmps[t]?
  val : ∀ i o d, ops[i]? = some o → o.dst = some d → listed.getD i false = true → (Vs.getD i (fun _ _ => True)) (a.tmps.getD d undef) w
  bare : ∀ i o, ops[i]? = some o → o.dst = none → listed.getD i false = true → ∃ v, (Vs.getD i (fun _ _ => True)) v w

theorem predsImp_elim {a : Act} {w : World} {G : Prop} : ∀ {es : List Edge},
    (∀ e ∈ es, Region.binds .any e = true → ∀ d, dstAt ops e.on = some d → (Vs.getD e.on (fun _ _ => True)) (a.tmps[d]?.getD undef) w) → predsImp ops Vs a w G es → G
  | [], _, h => h
  | e :: es, hp, h => by
    have ih := predsImp_elim (es := es) (G := G) (fun e' he' => hp e' (List.mem_cons_of_mem _ he'))
    simp only [predsImp] at h
    split at h
    · rename_i hb
      cases hd : dstAt ops e.on with
      | none => simp only [hd] at h; exact ih h
      | some d => simp only [hd] at h; exact ih (h _ rfl (hp e (List.mem_cons_self ..) hb d hd))
    · exact ih h

theorem wantedE_eq (o : Oper) (a : Act) : Region.wanted o (yielded ops.toArray a.tmps) = wantedE ops o a := by
  unfold Region.wanted wantedE
  cases o.guard with
  | none => rfl
  | some gw =>
    obtain ⟨j, want⟩ := gw
    simp only [yielded, dstAt, List.getElem?_toArray]
    cases (ops[j]?).bind (·.dst) with
    | none => rfl
    | some d =>
      simp only [Option.bind_some, Act.eval, Array.getD_eq_getD_getElem?]
      cases a.tmps[d]? with
      | none => simp [undef]
      | some v => cases v <;> simp

theorem relyB_spec {n : Nat} (h : relyB ops n = true) : (dsts ops).Nodup ∧ (∀ d ∈ dsts ops, d < n) ∧
    (∀ i o, ops[i]? = some o → ∀ e ∈ o.after, Region.binds .any e = true → e.on < i) ∧ (∀ o ∈ ops, ∀ c, o.op ≠ .defer c) := by
  simp only [relyB, Bool.and_eq_true, decide_eq_true_eq, List.all_eq_true] at h
  obtain ⟨⟨⟨h1, h2⟩, h3⟩, h4⟩ := h
  refine ⟨h1, h2, fun i o hi e he hb => ?_, fun o ho c hc => ?_⟩
  · have h5 := h3 (o, i) (by rw [List.mem_zipIdx_iff_getElem?]; exact hi)
    have h6 := Array.all_eq_true_iff_forall_mem.1 h5 e he
    simpa [hb] using h6
  · have := h4 o ho
    simp [hc] at this

theorem stepsFrom_at : ∀ {os : List Oper} {Vs' : List VP} {i : Nat} {o : Oper}, stepsFrom P ops Vs a₀ w₀ Q os Vs' → os[i]? = some o → StepOK P ops Vs a₀ w₀ Q o (Vs'.getD i (fun _ _ => True))
  | [], _, i, o, _, hi => by simp at hi
  | o' :: os, [], _, _, h, _ => h.elim
  | o' :: os, V :: Vs', 0, o, h, hi => by
    simp only [List.getElem?_cons_zero, Option.some.injEq] at hi
    subst hi
    exact h.1
  | o' :: os, V :: Vs', i + 1, o, h, hi => by
    simp only [List.getElem?_cons_succ] at hi
    simpa using stepsFrom_at h.2 hi

theorem mid_step (hB : relyB ops a₀.tmps.size = true) (hst : Stable Vs) {listed : Array Bool} {a a' : Act} {w w' : World} {i : Nat} {o : Oper} {v : Value}
    (hm : Mid ops Vs a₀ w₀ listed a w) (hi : ops[i]? = some o) (ha : a' = a.put o.dst v) (hv : (Vs.getD i (fun _ _ => True)) v w') (hg : Gr w w') :
    Mid ops Vs a₀ w₀ (listed.setIfInBounds i true) a' w' := by
  obtain ⟨hn, hlt, _, _⟩ := relyB_spec hB
  have hil : i < listed.size := by rw [hm.sz]; exact (List.getElem?_eq_some_iff.1 hi).1
  have hstab : ∀ j v, (Vs.getD j (fun _ _ => True)) v w → (Vs.getD j (fun _ _ => True)) v w' := by
    intro j v h
    by_cases hj : j < Vs.length
    · have e : Vs.getD j (fun _ _ => True) = Vs[j] := by simp [List.getD, hj]
      rw [e] at h ⊢
      exact hst _ (List.getElem_mem hj) _ _ _ h hg
    · have e : Vs.getD j (fun _ _ => True) = (fun _ _ => True) := by simp [List.getD, List.getElem?_eq_none (Nat.le_of_not_lt hj)]
      rw [e]
      trivial
  subst ha
  refine ⟨by simpa using hm.sz, hm.grown.trans hg, ?_, ?_, fun t ht => ?_, fun j oj d hj hd hl => ?_, fun j oj hj hd hl => ?_⟩
  · rw [← hm.defers]; unfold Act.put; split <;> rfl
  · rw [← hm.size]; unfold Act.put; split <;> simp
  · have h1 : o.dst ≠ some t := fun e => by
      have := ht i o hi e
      simp [hil] at this
    have h2 := hm.old t (fun j oj hj hd => by
      have := ht j oj hj hd
      by_cases hji : i = j
      · subst hji
        rw [hi] at hj
        cases hj
        exact absurd hd h1
      · rwa [getD_set_ne false hji] at this)
    rw [← h2]
    unfold Act.put
    split
    · rename_i d hd
      have hne : d ≠ t := fun e => h1 (by rw [hd, e])
      simp [Array.getElem?_setIfInBounds_ne hne]
    · rfl
  · by_cases hji : i = j
    · subst hji
      rw [hi] at hj
      cases hj
      have hdl : d < a.tmps.size := by rw [hm.size]; exact hlt d (mem_dsts hi hd)
      have e : (a.put o.dst v).tmps.getD d undef = v := by simp [Act.put, hd, hdl]
      rw [e]
      exact hv
    · rw [getD_set_ne false hji] at hl
      have h2 := hstab _ _ (hm.val j oj d hj hd hl)
      have e : (a.put o.dst v).tmps.getD d undef = a.tmps.getD d undef := by
        unfold Act.put
        split
        · rename_i d' hd'
          have hne : d' ≠ d := fun e => hji (dst_inj hn hi hj hd' (by rw [hd, e]))
          simp [Array.getElem?_setIfInBounds_ne hne]
        · rfl
      rw [e]
      exact h2
  · by_cases hji : i = j
    · subst hji
      exact ⟨v, hv⟩
    · rw [getD_set_ne false hji] at hl
      obtain ⟨u, hu⟩ := hm.bare j oj hj hd hl
      exact ⟨u, hstab _ _ hu⟩

theorem count_set {l : Array Bool} {i : Nat} (h : l.getD i true = false) : ((l.setIfInBounds i true).count false) + 1 = l.count false := by
  have hi : i < l.size := by
    rcases Nat.lt_or_ge i l.size with h' | h'
    · exact h'
    · simp [Array.getElem?_eq_none h'] at h
  have hv : l[i] = false := by simpa [hi] using h
  rw [Array.setIfInBounds, dif_pos hi, Array.count_set, hv]
  have : 0 < l.count false := Array.count_pos_iff.2 (hv ▸ Array.getElem_mem hi)
  simp
  omega

theorem all_listed (hB : relyB ops a₀.tmps.size = true) {listed : Array Bool} (hs : listed.size = ops.length) (hr : Region.ready .any ops.toArray listed = []) : ∀ i, i < ops.length → listed.getD i false = true := by
  obtain ⟨_, _, haft, _⟩ := relyB_spec hB
  intro i
  induction i using Nat.strongRecOn with
  | _ i ih =>
    intro hi
    by_cases h : listed.getD i false = true
    · exact h
    · have hi' : i < listed.size := by omega
      have hmem : i ∈ Region.ready .any ops.toArray listed := by
        rw [mem_ready]
        refine ⟨by simpa [hi'] using h, ops[i], by simp [hi], fun e he hb => ?_⟩
        have hlt := haft i ops[i] (by simp [hi]) e he hb
        exact ih e.on hlt (by omega)
      rw [hr] at hmem
      cases hmem

theorem wpAny_mid (hB : relyB ops a₀.tmps.size = true) (hst : Stable Vs) (hsteps : stepsFrom P ops Vs a₀ w₀ Q ops Vs)
    (hfin : ∀ listed a w, Mid ops Vs a₀ w₀ listed a w → (∀ i, i < ops.length → listed.getD i false = true) → Q .normal a w) :
    ∀ (fuel : Nat) (listed : Array Bool) (a : Act) (w : World), listed.count false ≤ fuel → Mid ops Vs a₀ w₀ listed a w → wpAny P .any ops.toArray Q fuel listed a w := by
  intro fuel
  induction fuel with
  | zero =>
    intro listed a w hc hm
    have hr : Region.ready .any ops.toArray listed = [] := by
      rw [List.eq_nil_iff_forall_not_mem]
      intro i hi
      obtain ⟨h0, _⟩ := mem_ready.1 hi
      have := count_set h0
      omega
    exact ⟨hr, hfin _ _ _ hm (all_listed hB hm.sz hr)⟩
  | succ fuel ih =>
    intro listed a w hc hm
    refine ⟨fun hr => hfin _ _ _ hm (all_listed hB hm.sz hr), fun i hi => ?_⟩
    obtain ⟨h0, o, ho, hall⟩ := mem_ready.1 hi
    have ho' : ops[i]? = some o := by simpa using ho
    have hstep := stepsFrom_at hsteps ho' a w hm.grown (fun t ht => by
      have h1 := hm.old t (fun j oj hj hd => by
        have := mem_dsts hj hd
        rw [List.contains_eq_mem, decide_eq_false_iff_not] at ht
        exact absurd this ht)
      simp only [h1])
    have hres := predsImp_elim (fun e he hb d hd => by
      unfold dstAt at hd
      cases hoe : ops[e.on]? with
      | none => simp [hoe] at hd
      | some oe =>
        simp only [hoe, Option.bind_some] at hd
        have := hm.val e.on oe d hoe hd (hall e (by simpa using he) hb)
        rwa [Array.getD_eq_getD_getElem?] at this) hstep
    have hc' := count_set h0
    have hres : if wantedE ops o a then (∀ K : Act → World → Prop, (∀ v w', (Vs.getD i (fun _ _ => True)) v w' → Gr w w' → K (a.put o.dst v) w') → o.wp P a w K Q) else (Vs.getD i (fun _ _ => True)) undef w := by
      cases hgd : o.guard with
      | none =>
        have : wantedE ops o a = true := by simp [wantedE, hgd]
        rw [if_pos this]
        simpa only [hgd] using hres
      | some gw => simpa only [hgd] using hres
    unfold wpOp
    simp only [ho]
    rw [wantedE_eq]
    by_cases hw : wantedE ops o a = true
    · rw [if_pos hw]
      rw [if_pos hw] at hres
      refine .inl (hres _ fun v w' hv hg => ?_)
      exact ih _ _ _ (by omega) (mid_step hB hst hm ho' rfl hv hg)
    · rw [if_neg hw]
      rw [if_neg hw] at hres
      exact ih _ _ _ (by omega) (mid_step hB hst hm ho' rfl hres (Gr.rfl' _))

theorem finAll_elim {K : Act → World → Prop} {w : World} : ∀ {os : List Oper} {Vs' : List VP} {b : Act} {f : Nat → Value} {k : Nat},
    (∀ (i : Nat) (o : Oper), os[i]? = some o → ∀ V : VP, Vs'[i]? = some V → V (f (k + i)) w) → finAll K w os Vs' b → K (os.zipIdx k |>.foldl (fun a x => a.put x.1.dst (f x.2)) b) w
  | [], _, _, _, _, _, h => h
  | o :: os, [], _, _, _, _, h => h.elim
  | o :: os, V :: Vs', b, f, k, hf, h => by
    have h1 := h (f k) (by simpa using hf 0 o rfl V rfl)
    have := finAll_elim (os := os) (Vs' := Vs') (f := f) (k := k + 1) (fun i o' hi V' hV' => by
      have := hf (i + 1) o' (by simpa using hi) V' (by simpa using hV')
      rwa [show k + 1 + i = k + (i + 1) by omega]) h1
    simpa [List.zipIdx_cons] using this

theorem fold_tmps {f : Nat → Value} : ∀ {os : List Oper} {b : Act} {k : Nat} (t : Tmp), (dsts os).Nodup → (∀ d ∈ dsts os, d < b.tmps.size) →
    (∀ (i : Nat) (o : Oper), os[i]? = some o → o.dst = some t → (os.zipIdx k |>.foldl (fun a x => a.put x.1.dst (f x.2)) b).tmps[t]? = some (f (k + i))) ∧
    ((∀ (i : Nat) (o : Oper), os[i]? = some o → o.dst ≠ some t) → (os.zipIdx k |>.foldl (fun a x => a.put x.1.dst (f x.2)) b).tmps[t]? = b.tmps[t]?)
  | [], b, k, t, _, _ => ⟨fun i o hi => by simp at hi, fun _ => rfl⟩
  | o :: os, b, k, t, hn, hlt => by
    have hn' : (dsts os).Nodup := by
      unfold dsts at hn ⊢
      rw [List.filterMap_cons] at hn
      cases ho : o.dst with
      | none => simpa [ho] using hn
      | some e => simp only [ho] at hn; exact (List.nodup_cons.1 hn).2
    have hsz : (b.put o.dst (f k)).tmps.size = b.tmps.size := by unfold Act.put; split <;> simp
    have hsub : ∀ d ∈ dsts os, d ∈ dsts (o :: os) := by
      intro d hd
      unfold dsts at hd ⊢
      rw [List.filterMap_cons]
      cases o.dst with
      | none => exact hd
      | some e => exact List.mem_cons_of_mem _ hd
    obtain ⟨h1, h2⟩ := fold_tmps (f := f) (os := os) (b := b.put o.dst (f k)) (k := k + 1) t hn' (fun d hd => by rw [hsz]; exact hlt d (hsub d hd))
    simp only [List.zipIdx_cons, List.foldl_cons]
    refine ⟨fun i oi hi hd => ?_, fun hno => ?_⟩
    · cases i with
      | zero =>
        simp only [List.getElem?_cons_zero, Option.some.injEq] at hi
        subst hi
        rw [h2 (fun j oj hj hdj => by
          have := dst_inj hn (i := 0) (j := j + 1) (oi := o) (oj := oj) rfl (by simpa using hj) hd hdj
          omega)]
        have : t < b.tmps.size := hlt t (mem_dsts (ops := o :: os) (i := 0) rfl hd)
        simp [Act.put, hd, this]
      | succ i =>
        have := h1 i oi (by simpa using hi) hd
        rwa [show k + 1 + i = k + (i + 1) by omega] at this
    · rw [h2 (fun j oj hj => hno (j + 1) oj (by simpa using hj))]
      have h0 := hno 0 o rfl
      unfold Act.put
      split
      · rename_i d hd
        have hne : d ≠ t := fun e => h0 (by rw [hd, e])
        simp [Array.getElem?_setIfInBounds_ne hne]
      · rfl

theorem fold_defers {f : Nat → Value} : ∀ {os : List Oper} {b : Act} {k : Nat}, (os.zipIdx k |>.foldl (fun a x => a.put x.1.dst (f x.2)) b).defers = b.defers
  | [], _, _ => rfl
  | o :: os, b, k => by
    simp only [List.zipIdx_cons, List.foldl_cons]
    rw [fold_defers]
    unfold Act.put
    split <;> rfl

/-- THE RULE. -/
theorem wp_region_rely {id : Nat} (Vs : List VP) (hm : P.follows .mixedOrders = true) (hB : relyB ops a₀.tmps.size = true) (hst : Stable Vs)
    (hsteps : stepsFrom P ops Vs a₀ w₀ Q ops Vs) (hfin : ∀ w, Gr w₀ w → finAll (Q .normal) w ops Vs a₀) : (Code.region id ops.toArray true).wp P Q a₀ w₀ := by
  obtain ⟨hn, hlt, _, _⟩ := relyB_spec hB
  refine wp_region_any hm ?_
  have hm0 : Mid ops Vs a₀ w₀ (Array.replicate ops.length false) a₀ { w₀ with drawn := w₀.drawn + 1 } := by
    refine ⟨by simp, ⟨rfl, rfl, rfl, Nat.le_refl _, fun _ _ => rfl⟩, rfl, rfl, fun _ _ => rfl, fun i o d hi hd hl => ?_, fun i o hi hd hl => ?_⟩
    all_goals
      have : i < ops.length := (List.getElem?_eq_some_iff.1 hi).1
      simp [this] at hl
  have := wpAny_mid (Q := Q) hB hst hsteps (fun listed a w hmid hall => by
    have hf := finAll_elim (os := ops) (Vs' := Vs) (b := a₀) (f := fun i => match dstAt ops i with | some d => a.tmps.getD d undef | none => Classical.epsilon fun v => (Vs.getD i (fun _ _ => True)) v w) (k := 0) (K := Q .normal) (w := w) ?_ (hfin w hmid.grown)
    · have e : (ops.zipIdx 0 |>.foldl (fun a' x => a'.put x.1.dst (match dstAt ops x.2 with | some d => a.tmps.getD d undef | none => Classical.epsilon fun v => (Vs.getD x.2 (fun _ _ => True)) v w)) a₀) = a := by
        have hT : (ops.zipIdx 0 |>.foldl (fun a' x => a'.put x.1.dst (match dstAt ops x.2 with | some d => a.tmps.getD d undef | none => Classical.epsilon fun v => (Vs.getD x.2 (fun _ _ => True)) v w)) a₀).tmps = a.tmps := by
          apply Array.ext_getElem?
          intro t
          obtain ⟨h1, h2⟩ := fold_tmps (f := fun i => match dstAt ops i with | some d => a.tmps.getD d undef | none => Classical.epsilon fun v => (Vs.getD i (fun _ _ => True)) v w) (os := ops) (b := a₀) (k := 0) t hn hlt
          by_cases hex : ∃ (i : Nat) (o : Oper), ops[i]? = some o ∧ o.dst = some t
          · obtain ⟨i, o, hi, hd⟩ := hex
            rw [h1 i o hi hd]
            have hts : t < a.tmps.size := by rw [hmid.size]; exact hlt t (mem_dsts hi hd)
            simp [dstAt, hi, hd, hts]
          · rw [h2 (fun i o hi hd => hex ⟨i, o, hi, hd⟩)]
            exact (hmid.old t (fun i o hi hd => (hex ⟨i, o, hi, hd⟩).elim)).symm
        have hD := fold_defers (f := fun i => match dstAt ops i with | some d => a.tmps.getD d undef | none => Classical.epsilon fun v => (Vs.getD i (fun _ _ => True)) v w) (os := ops) (b := a₀) (k := 0)
        generalize (ops.zipIdx 0 |>.foldl (fun a' x => a'.put x.1.dst (match dstAt ops x.2 with | some d => a.tmps.getD d undef | none => Classical.epsilon fun v => (Vs.getD x.2 (fun _ _ => True)) v w)) a₀) = c at hT hD
        obtain ⟨ct, cd⟩ := c
        obtain ⟨at', ad⟩ := a
        have hd := hmid.defers
        simp only at hT hD hd
        rw [hT, hD, hd]
      rw [e] at hf
      exact hf
    · intro i o hi V hV
      have hlen : i < ops.length := (List.getElem?_eq_some_iff.1 hi).1
      have eV : Vs.getD i (fun _ _ => True) = V := by simp [List.getD, hV]
      simp only [Nat.zero_add, dstAt, hi, Option.bind_some]
      cases hd : o.dst with
      | some d =>
        have := hmid.val i o d hi hd (hall i hlen)
        rwa [eV] at this
      | none =>
        have := hmid.bare i o hi hd (hall i hlen)
        rw [eV] at this ⊢
        exact Classical.epsilon_spec this)
    ops.length (Array.replicate ops.length false) a₀ _ (by simp) hm0
  simpa using this
end
end Go.Proofs.Ytbapmokbkjmdcaa
