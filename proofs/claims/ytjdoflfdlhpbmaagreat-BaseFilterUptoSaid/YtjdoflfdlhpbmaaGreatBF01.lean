/-
  A region that draws its order, whose operations may make memory: each operation hands back a value of which something is known that lasts while the world grows: then the order makes no difference.
  Terms in memory: the tree of a term with its addresses, how it lies in a world, and that it stays so when the world grows.
  term.formed
  Slices of terms; term.All
-/
import Derived.Test.YtjdoflfdlhpbmaaGreatRows
import Derived.WalkKit
import Derived.WalkSpells
import Derived.WalkLawsBesides
import Derived.Lib.Hide
import Derived.Handy
namespace Go.Proofs.YtjdoflfdlhpbmaaGreat
open Go.RowKit

/-- Nothing that was there has turned. -/
abbrev Gr (w w' : World) : Prop := Below w.heap.size w w'
theorem Gr.rfl' (w : World) : Gr w w := Below.refl _ _
theorem Gr.trans {a b c : World} (h : Gr a b) (k : Gr b c) : Gr a c := Below.trans h (Below.mono k h.size)

theorem Gr.at {w w' : World} (h : Gr w w') {p : Addr} {v : Value} (hc : w.cell? p = some v) : w'.cell? p = some v := by
  rw [Below.cell h (World.block_lt_of_cell? _ _ hc)]; exact hc

theorem Gr.drewN {w w' : World} (h : Gr w w') (n : Nat) : Gr w (w'.drewN n) := h.trans ⟨rfl, rfl, rfl, Nat.le_refl _, fun _ _ => rfl⟩

abbrev VP := Value → World → Prop

def dstAt (ops : List Oper) (i : Nat) : Option Tmp := (ops[i]?).bind (·.dst)
def dsts (ops : List Oper) : List Tmp := ops.filterMap (·.dst)

/-- Is the operation wanted, by the values of the frame? -/
def wantedE (ops : List Oper) (o : Oper) (a : Act) : Bool :=
  match o.guard with
  | none => true
  | some (j, want) =>
    match dstAt ops j with
    | none => false
    | some d => match a.eval (.tmp d) with
      | .bool b => b == want
      | _ => false

/-- What is known of those that the operation waits for. -/
def predsImp (ops : List Oper) (Vs : List VP) (a : Act) (w : World) (G : Prop) : List Edge → Prop
  | [] => G
  | e :: es =>
    if Region.binds .any e then
      match dstAt ops e.on with
      | none => predsImp ops Vs a w G es
      | some d => ∀ v, a.tmps[d]?.getD undef = v → (Vs.getD e.on (fun _ _ => True)) v w → predsImp ops Vs a w G es
    else predsImp ops Vs a w G es

def StepOK (P : Program) (ops : List Oper) (Vs : List VP) (a₀ : Act) (w₀ : World) (Q : Exit → Act → World → Prop) (o : Oper) (V : VP) : Prop :=
  ∀ a w, Gr w₀ w → (∀ t, (dsts ops).contains t = false → a.tmps[t]?.getD undef = a₀.tmps[t]?.getD undef) →
    predsImp ops Vs a w (match o.guard with | none => (∀ K : Act → World → Prop, (∀ v w', V v w' → Gr w w' → K (a.put o.dst v) w') → o.wp P a w K Q) | some _ => if wantedE ops o a then (∀ K : Act → World → Prop, (∀ v w', V v w' → Gr w w' → K (a.put o.dst v) w') → o.wp P a w K Q) else V undef w) o.after.toList

def stepsFrom (P : Program) (ops : List Oper) (Vs : List VP) (a₀ : Act) (w₀ : World) (Q : Exit → Act → World → Prop) : List Oper → List VP → Prop
  | [], _ => True
  | o :: os, V :: Vs' => StepOK P ops Vs a₀ w₀ Q o V ∧ stepsFrom P ops Vs a₀ w₀ Q os Vs'
  | _ :: _, [] => False

def finAll (K : Act → World → Prop) (w : World) : List Oper → List VP → Act → Prop
  | o :: os, V :: Vs, a => ∀ v, V v w → finAll K w os Vs (a.put o.dst v)
  | [], _, a => K a w
  | _ :: _, [], _ => False

/-- What is asked of the region's text. -/
def relyB (ops : List Oper) (n : Nat) : Bool :=
  decide (dsts ops).Nodup && (dsts ops).all (· < n) &&
  (ops.zipIdx.all fun (o, i) => o.after.all fun e => !Region.binds .any e || decide (e.on < i)) &&
  (ops.all fun o => match o.op with | .defer .. => false | .select .. => false | _ => true)

/-- The value is this one. -/
def fx (c : Value) : VP := fun v _ => v = c
def Stable (Vs : List VP) : Prop := ∀ V ∈ Vs, ∀ v w w', V v w → Gr w w' → V v w'
theorem Stable.nil : Stable [] := fun _ h => by cases h
theorem Stable.fix {c : Value} {Vs : List VP} (h : Stable Vs) : Stable (fx c :: Vs) := fun V hV => by
  rcases List.mem_cons.1 hV with rfl | hV
  · exact fun _ _ _ h _ => h
  · exact h V hV
theorem Stable.cons {W : VP} {Vs : List VP} (hW : ∀ v w w', W v w → Gr w w' → W v w') (h : Stable Vs) : Stable (W :: Vs) := fun V hV => by
  rcases List.mem_cons.1 hV with rfl | hV
  · exact hW
  · exact h V hV

section
variable {P : Program} {ops : List Oper} {Vs : List VP} {a₀ : Act} {w₀ : World} {Q : Exit → Act → World → Prop}

theorem mem_dsts {o : Oper} {d : Tmp} {i : Nat} (hi : ops[i]? = some o) (hd : o.dst = some d) : d ∈ dsts ops :=
  List.mem_filterMap.2 ⟨o, List.mem_of_getElem? hi, hd⟩

theorem dst_inj : ∀ {ops : List Oper}, (dsts ops).Nodup → ∀ {i j : Nat} {oi oj : Oper} {d : Tmp}, ops[i]? = some oi → ops[j]? = some oj → oi.dst = some d → oj.dst = some d → i = j := by
  intro ops
  induction ops with
  | nil => intro _ i j oi oj d hi; simp at hi
  | cons o os ih =>
    intro hn i j oi oj d hi hj hdi hdj
    have hn' : (dsts os).Nodup := by
      unfold dsts at hn ⊢
      rw [List.filterMap_cons] at hn
      cases ho : o.dst with
      | none => simpa [ho] using hn
      | some e => simp only [ho] at hn; exact (List.nodup_cons.1 hn).2
    have hhead : ∀ {e : Tmp} {k : Nat} {ok : Oper}, o.dst = some e → os[k]? = some ok → ok.dst = some e → False := by
      intro e k ok ho hk hd
      unfold dsts at hn
      rw [List.filterMap_cons] at hn
      simp only [ho] at hn
      exact (List.nodup_cons.1 hn).1 (mem_dsts hk hd)
    cases i with
    | zero =>
      cases j with
      | zero => rfl
      | succ j =>
        simp only [List.getElem?_cons_zero, Option.some.injEq] at hi
        simp only [List.getElem?_cons_succ] at hj
        subst hi
        exact (hhead hdi hj hdj).elim
    | succ i =>
      cases j with
      | zero =>
        simp only [List.getElem?_cons_zero, Option.some.injEq] at hj
        simp only [List.getElem?_cons_succ] at hi
        subst hj
        exact (hhead hdj hi hdi).elim
      | succ j =>
        simp only [List.getElem?_cons_succ] at hi hj
        rw [ih hn' hi hj hdi hdj]

/-- The state in the middle of the region. -/
structure Mid (ops : List Oper) (Vs : List VP) (a₀ : Act) (w₀ : World) (listed : Array Bool) (a : Act) (w : World) : Prop where
  sz : listed.size = ops.length
  grown : Gr w₀ w
  defers : a.defers = a₀.defers
  size : a.tmps.size = a₀.tmps.size
  old : ∀ t, (∀ i o, ops[i]? = some o → o.dst = some t → listed.getD i false = false) → a.tmps[t]? = a₀.tmps[t]?
  val : ∀ i o d, ops[i]? = some o → o.dst = some d → listed.getD i false = true → (Vs.getD i (fun _ _ => True)) (a.tmps.getD d undef) w
  bare : ∀ i o, ops[i]? = some o → o.dst = none → listed.getD i false = true → ∃ v, (Vs.getD i (fun _ _ => True)) v w

theorem predsImp_elim {a : Act} {w : World} {G : Prop} : ∀ {es : List Edge},
    (∀ e ∈ es, Region.binds .any e = true → ∀ d, dstAt ops e.on = some d → (Vs.getD e.on (fun _ _ => True)) (a.tmps[d]?.getD undef) w) → predsImp ops Vs a w G es → G
  | [], _, h => h
  | e :: es, hp, h => by
    have ih := predsImp_elim (es := es) (G := G) (fun e' he' => hp e' (List.mem_cons_of_mem _ he'))
    simp only [predsImp] at h
    split at h
    · rename_i hb
      cases hd : dstAt ops e.on with
      | none => simp only [hd] at h; exact ih h
      | some d => simp only [hd] at h; exact ih (h _ rfl (hp e (List.mem_cons_self ..) hb d hd))
    · exact ih h

theorem wantedE_eq (o : Oper) (a : Act) : Region.wanted o (yielded ops.toArray a.tmps) = wantedE ops o a := by
  unfold Region.wanted wantedE
  cases o.guard with
  | none => rfl
  | some gw =>
    obtain ⟨j, want⟩ := gw
    simp only [yielded, dstAt, List.getElem?_toArray]
    cases (ops[j]?).bind (·.dst) with
    | none => rfl
    | some d =>
      simp only [Option.bind_some, Act.eval, Array.getD_eq_getD_getElem?]
      cases a.tmps[d]? with
      | none => simp [undef]
      | some v => cases v <;> simp

theorem relyB_spec {n : Nat} (h : relyB ops n = true) : (dsts ops).Nodup ∧ (∀ d ∈ dsts ops, d < n) ∧
    (∀ i o, ops[i]? = some o → ∀ e ∈ o.after, Region.binds .any e = true → e.on < i) ∧ (∀ o ∈ ops, ∀ c, o.op ≠ .defer c) := by
  simp only [relyB, Bool.and_eq_true, decide_eq_true_eq, List.all_eq_true] at h
  obtain ⟨⟨⟨h1, h2⟩, h3⟩, h4⟩ := h
  refine ⟨h1, h2, fun i o hi e he hb => ?_, fun o ho c hc => ?_⟩
  · have h5 := h3 (o, i) (by rw [List.mem_zipIdx_iff_getElem?]; exact hi)
    have h6 := Array.all_eq_true_iff_forall_mem.1 h5 e he
    simpa [hb] using h6
  · have := h4 o ho
    simp [hc] at this

theorem stepsFrom_at : ∀ {os : List Oper} {Vs' : List VP} {i : Nat} {o : Oper}, stepsFrom P ops Vs a₀ w₀ Q os Vs' → os[i]? = some o → StepOK P ops Vs a₀ w₀ Q o (Vs'.getD i (fun _ _ => True))
  | [], _, i, o, _, hi => by simp at hi
  | o' :: os, [], _, _, h, _ => h.elim
  | o' :: os, V :: Vs', 0, o, h, hi => by
    simp only [List.getElem?_cons_zero, Option.some.injEq] at hi
    subst hi
    exact h.1
  | o' :: os, V :: Vs', i + 1, o, h, hi => by
    simp only [List.getElem?_cons_succ] at hi
    simpa using stepsFrom_at h.2 hi

theorem mid_step (hB : relyB ops a₀.tmps.size = true) (hst : Stable Vs) {listed : Array Bool} {a a' : Act} {w w' : World} {i : Nat} {o : Oper} {v : Value}
    (hm : Mid ops Vs a₀ w₀ listed a w) (hi : ops[i]? = some o) (ha : a' = a.put o.dst v) (hv : (Vs.getD i (fun _ _ => True)) v w') (hg : Gr w w') :
    Mid ops Vs a₀ w₀ (listed.setIfInBounds i true) a' w' := by
  obtain ⟨hn, hlt, _, _⟩ := relyB_spec hB
  have hil : i < listed.size := by rw [hm.sz]; exact (List.getElem?_eq_some_iff.1 hi).1
  have hstab : ∀ j v, (Vs.getD j (fun _ _ => True)) v w → (Vs.getD j (fun _ _ => True)) v w' := by
    intro j v h
    by_cases hj : j < Vs.length
    · have e : Vs.getD j (fun _ _ => True) = Vs[j] := by simp [List.getD, hj]
      rw [e] at h ⊢
      exact hst _ (List.getElem_mem hj) _ _ _ h hg
    · have e : Vs.getD j (fun _ _ => True) = (fun _ _ => True) := by simp [List.getD, List.getElem?_eq_none (Nat.le_of_not_lt hj)]
      rw [e]
      trivial
  subst ha
  refine ⟨by simpa using hm.sz, hm.grown.trans hg, ?_, ?_, fun t ht => ?_, fun j oj d hj hd hl => ?_, fun j oj hj hd hl => ?_⟩
  · rw [← hm.defers]; unfold Act.put; split <;> rfl
  · rw [← hm.size]; unfold Act.put; split <;> simp
  · have h1 : o.dst ≠ some t := fun e => by
      have := ht i o hi e
      simp [hil] at this
    have h2 := hm.old t (fun j oj hj hd => by
      have := ht j oj hj hd
      by_cases hji : i = j
      · subst hji
        rw [hi] at hj
        cases hj
        exact absurd hd h1
      · rwa [getD_set_ne false hji] at this)
    rw [← h2]
    unfold Act.put
    split
    · rename_i d hd
      have hne : d ≠ t := fun e => h1 (by rw [hd, e])
      simp [Array.getElem?_setIfInBounds_ne hne]
    · rfl
  · by_cases hji : i = j
    · subst hji
      rw [hi] at hj
      cases hj
      have hdl : d < a.tmps.size := by rw [hm.size]; exact hlt d (mem_dsts hi hd)
      have e : (a.put o.dst v).tmps.getD d undef = v := by simp [Act.put, hd, hdl]
      rw [e]
      exact hv
    · rw [getD_set_ne false hji] at hl
      have h2 := hstab _ _ (hm.val j oj d hj hd hl)
      have e : (a.put o.dst v).tmps.getD d undef = a.tmps.getD d undef := by
        unfold Act.put
        split
        · rename_i d' hd'
          have hne : d' ≠ d := fun e => hji (dst_inj hn hi hj hd' (by rw [hd, e]))
          simp [Array.getElem?_setIfInBounds_ne hne]
        · rfl
      rw [e]
      exact h2
  · by_cases hji : i = j
    · subst hji
      exact ⟨v, hv⟩
    · rw [getD_set_ne false hji] at hl
      obtain ⟨u, hu⟩ := hm.bare j oj hj hd hl
      exact ⟨u, hstab _ _ hu⟩

theorem count_set {l : Array Bool} {i : Nat} (h : l.getD i true = false) : ((l.setIfInBounds i true).count false) + 1 = l.count false := by
  have hi : i < l.size := by
    rcases Nat.lt_or_ge i l.size with h' | h'
    · exact h'
    · simp [Array.getElem?_eq_none h'] at h
  have hv : l[i] = false := by simpa [hi] using h
  rw [Array.setIfInBounds, dif_pos hi, Array.count_set, hv]
  have : 0 < l.count false := Array.count_pos_iff.2 (hv ▸ Array.getElem_mem hi)
  simp
  omega

theorem all_listed (hB : relyB ops a₀.tmps.size = true) {listed : Array Bool} (hs : listed.size = ops.length) (hr : Region.ready .any ops.toArray listed = []) : ∀ i, i < ops.length → listed.getD i false = true := by
  obtain ⟨_, _, haft, _⟩ := relyB_spec hB
  intro i
  induction i using Nat.strongRecOn with
  | _ i ih =>
    intro hi
    by_cases h : listed.getD i false = true
    · exact h
    · have hi' : i < listed.size := by omega
      have hmem : i ∈ Region.ready .any ops.toArray listed := by
        rw [mem_ready]
        refine ⟨by simpa [hi'] using h, ops[i], by simp [hi], fun e he hb => ?_⟩
        have hlt := haft i ops[i] (by simp [hi]) e he hb
        exact ih e.on hlt (by omega)
      rw [hr] at hmem
      cases hmem

theorem wpAny_mid (hB : relyB ops a₀.tmps.size = true) (hst : Stable Vs) (hsteps : stepsFrom P ops Vs a₀ w₀ Q ops Vs)
    (hfin : ∀ listed a w, Mid ops Vs a₀ w₀ listed a w → (∀ i, i < ops.length → listed.getD i false = true) → Q .normal a w) :
    ∀ (fuel : Nat) (listed : Array Bool) (a : Act) (w : World), listed.count false ≤ fuel → Mid ops Vs a₀ w₀ listed a w → wpAny P .any ops.toArray Q fuel listed a w := by
  intro fuel
  induction fuel with
  | zero =>
    intro listed a w hc hm
    have hr : Region.ready .any ops.toArray listed = [] := by
      rw [List.eq_nil_iff_forall_not_mem]
      intro i hi
      obtain ⟨h0, _⟩ := mem_ready.1 hi
      have := count_set h0
      omega
    exact ⟨hr, hfin _ _ _ hm (all_listed hB hm.sz hr)⟩
  | succ fuel ih =>
    intro listed a w hc hm
    refine ⟨fun hr => hfin _ _ _ hm (all_listed hB hm.sz hr), fun i hi => ?_⟩
    obtain ⟨h0, o, ho, hall⟩ := mem_ready.1 hi
    have ho' : ops[i]? = some o := by simpa using ho
    have hstep := stepsFrom_at hsteps ho' a w hm.grown (fun t ht => by
      have h1 := hm.old t (fun j oj hj hd => by
        have := mem_dsts hj hd
        rw [List.contains_eq_mem, decide_eq_false_iff_not] at ht
        exact absurd this ht)
      simp only [h1])
    have hres := predsImp_elim (fun e he hb d hd => by
      unfold dstAt at hd
      cases hoe : ops[e.on]? with
      | none => simp [hoe] at hd
      | some oe =>
        simp only [hoe, Option.bind_some] at hd
        have := hm.val e.on oe d hoe hd (hall e (by simpa using he) hb)
        rwa [Array.getD_eq_getD_getElem?] at this) hstep
    have hc' := count_set h0
    have hres : if wantedE ops o a then (∀ K : Act → World → Prop, (∀ v w', (Vs.getD i (fun _ _ => True)) v w' → Gr w w' → K (a.put o.dst v) w') → o.wp P a w K Q) else (Vs.getD i (fun _ _ => True)) undef w := by
      cases hgd : o.guard with
      | none =>
        have : wantedE ops o a = true := by simp [wantedE, hgd]
        rw [if_pos this]
        simpa only [hgd] using hres
      | some gw => simpa only [hgd] using hres
    unfold wpOp
    simp only [ho]
    rw [wantedE_eq]
    by_cases hw : wantedE ops o a = true
    · rw [if_pos hw]
      rw [if_pos hw] at hres
      refine .inl (hres _ fun v w' hv hg => ?_)
      exact ih _ _ _ (by omega) (mid_step hB hst hm ho' rfl hv hg)
    · rw [if_neg hw]
      rw [if_neg hw] at hres
      exact ih _ _ _ (by omega) (mid_step hB hst hm ho' rfl hres (Gr.rfl' _))

theorem finAll_elim {K : Act → World → Prop} {w : World} : ∀ {os : List Oper} {Vs' : List VP} {b : Act} {f : Nat → Value} {k : Nat},
    (∀ (i : Nat) (o : Oper), os[i]? = some o → ∀ V : VP, Vs'[i]? = some V → V (f (k + i)) w) → finAll K w os Vs' b → K (os.zipIdx k |>.foldl (fun a x => a.put x.1.dst (f x.2)) b) w
  | [], _, _, _, _, _, h => h
  | o :: os, [], _, _, _, _, h => h.elim
  | o :: os, V :: Vs', b, f, k, hf, h => by
    have h1 := h (f k) (by simpa using hf 0 o rfl V rfl)
    have := finAll_elim (os := os) (Vs' := Vs') (f := f) (k := k + 1) (fun i o' hi V' hV' => by
      have := hf (i + 1) o' (by simpa using hi) V' (by simpa using hV')
      rwa [show k + 1 + i = k + (i + 1) by omega]) h1
    simpa [List.zipIdx_cons] using this

theorem fold_tmps {f : Nat → Value} : ∀ {os : List Oper} {b : Act} {k : Nat} (t : Tmp), (dsts os).Nodup → (∀ d ∈ dsts os, d < b.tmps.size) →
    (∀ (i : Nat) (o : Oper), os[i]? = some o → o.dst = some t → (os.zipIdx k |>.foldl (fun a x => a.put x.1.dst (f x.2)) b).tmps[t]? = some (f (k + i))) ∧
    ((∀ (i : Nat) (o : Oper), os[i]? = some o → o.dst ≠ some t) → (os.zipIdx k |>.foldl (fun a x => a.put x.1.dst (f x.2)) b).tmps[t]? = b.tmps[t]?)
  | [], b, k, t, _, _ => ⟨fun i o hi => by simp at hi, fun _ => rfl⟩
  | o :: os, b, k, t, hn, hlt => by
    have hn' : (dsts os).Nodup := by
      unfold dsts at hn ⊢
      rw [List.filterMap_cons] at hn
      cases ho : o.dst with
      | none => simpa [ho] using hn
      | some e => simp only [ho] at hn; exact (List.nodup_cons.1 hn).2
    have hsz : (b.put o.dst (f k)).tmps.size = b.tmps.size := by unfold Act.put; split <;> simp
    have hsub : ∀ d ∈ dsts os, d ∈ dsts (o :: os) := by
      intro d hd
      unfold dsts at hd ⊢
      rw [List.filterMap_cons]
      cases o.dst with
      | none => exact hd
      | some e => exact List.mem_cons_of_mem _ hd
    obtain ⟨h1, h2⟩ := fold_tmps (f := f) (os := os) (b := b.put o.dst (f k)) (k := k + 1) t hn' (fun d hd => by rw [hsz]; exact hlt d (hsub d hd))
    simp only [List.zipIdx_cons, List.foldl_cons]
    refine ⟨fun i oi hi hd => ?_, fun hno => ?_⟩
    · cases i with
      | zero =>
        simp only [List.getElem?_cons_zero, Option.some.injEq] at hi
        subst hi
        rw [h2 (fun j oj hj hdj => by
          have := dst_inj hn (i := 0) (j := j + 1) (oi := o) (oj := oj) rfl (by simpa using hj) hd hdj
          omega)]
        have : t < b.tmps.size := hlt t (mem_dsts (ops := o :: os) (i := 0) rfl hd)
        simp [Act.put, hd, this]
      | succ i =>
        have := h1 i oi (by simpa using hi) hd
        rwa [show k + 1 + i = k + (i + 1) by omega] at this
    · rw [h2 (fun j oj hj => hno (j + 1) oj (by simpa using hj))]
      have h0 := hno 0 o rfl
      unfold Act.put
      split
      · rename_i d hd
        have hne : d ≠ t := fun e => h0 (by rw [hd, e])
        simp [Array.getElem?_setIfInBounds_ne hne]
      · rfl

theorem fold_defers {f : Nat → Value} : ∀ {os : List Oper} {b : Act} {k : Nat}, (os.zipIdx k |>.foldl (fun a x => a.put x.1.dst (f x.2)) b).defers = b.defers
  | [], _, _ => rfl
  | o :: os, b, k => by
    simp only [List.zipIdx_cons, List.foldl_cons]
    rw [fold_defers]
    unfold Act.put
    split <;> rfl

/-- THE RULE. -/
theorem wp_region_rely {id : Nat} (Vs : List VP) (hm : P.follows .mixedOrders = true) (hB : relyB ops a₀.tmps.size = true) (hst : Stable Vs)
    (hsteps : stepsFrom P ops Vs a₀ w₀ Q ops Vs) (hfin : ∀ w, Gr w₀ w → finAll (Q .normal) w ops Vs a₀) : (Code.region id ops.toArray true).wp P Q a₀ w₀ := by
  obtain ⟨hn, hlt, _, _⟩ := relyB_spec hB
  refine wp_region_any hm ?_
  have hm0 : Mid ops Vs a₀ w₀ (Array.replicate ops.length false) a₀ { w₀ with drawn := w₀.drawn + 1 } := by
    refine ⟨by simp, ⟨rfl, rfl, rfl, Nat.le_refl _, fun _ _ => rfl⟩, rfl, rfl, fun _ _ => rfl, fun i o d hi hd hl => ?_, fun i o hi hd hl => ?_⟩
    all_goals
      have : i < ops.length := (List.getElem?_eq_some_iff.1 hi).1
      simp [this] at hl
  have := wpAny_mid (Q := Q) hB hst hsteps (fun listed a w hmid hall => by
    have hf := finAll_elim (os := ops) (Vs' := Vs) (b := a₀) (f := fun i => match dstAt ops i with | some d => a.tmps.getD d undef | none => Classical.epsilon fun v => (Vs.getD i (fun _ _ => True)) v w) (k := 0) (K := Q .normal) (w := w) ?_ (hfin w hmid.grown)
    · have e : (ops.zipIdx 0 |>.foldl (fun a' x => a'.put x.1.dst (match dstAt ops x.2 with | some d => a.tmps.getD d undef | none => Classical.epsilon fun v => (Vs.getD x.2 (fun _ _ => True)) v w)) a₀) = a := by
        have hT : (ops.zipIdx 0 |>.foldl (fun a' x => a'.put x.1.dst (match dstAt ops x.2 with | some d => a.tmps.getD d undef | none => Classical.epsilon fun v => (Vs.getD x.2 (fun _ _ => True)) v w)) a₀).tmps = a.tmps := by
          apply Array.ext_getElem?
          intro t
          obtain ⟨h1, h2⟩ := fold_tmps (f := fun i => match dstAt ops i with | some d => a.tmps.getD d undef | none => Classical.epsilon fun v => (Vs.getD i (fun _ _ => True)) v w) (os := ops) (b := a₀) (k := 0) t hn hlt
          by_cases hex : ∃ (i : Nat) (o : Oper), ops[i]? = some o ∧ o.dst = some t
          · obtain ⟨i, o, hi, hd⟩ := hex
            rw [h1 i o hi hd]
            have hts : t < a.tmps.size := by rw [hmid.size]; exact hlt t (mem_dsts hi hd)
            simp [dstAt, hi, hd, hts]
          · rw [h2 (fun i o hi hd => hex ⟨i, o, hi, hd⟩)]
            exact (hmid.old t (fun i o hi hd => (hex ⟨i, o, hi, hd⟩).elim)).symm
        have hD := fold_defers (f := fun i => match dstAt ops i with | some d => a.tmps.getD d undef | none => Classical.epsilon fun v => (Vs.getD i (fun _ _ => True)) v w) (os := ops) (b := a₀) (k := 0)
        generalize (ops.zipIdx 0 |>.foldl (fun a' x => a'.put x.1.dst (match dstAt ops x.2 with | some d => a.tmps.getD d undef | none => Classical.epsilon fun v => (Vs.getD x.2 (fun _ _ => True)) v w)) a₀) = c at hT hD
        obtain ⟨ct, cd⟩ := c
        obtain ⟨at', ad⟩ := a
        have hd := hmid.defers
        simp only at hT hD hd
        rw [hT, hD, hd]
      rw [e] at hf
      exact hf
    · intro i o hi V hV
      have hlen : i < ops.length := (List.getElem?_eq_some_iff.1 hi).1
      have eV : Vs.getD i (fun _ _ => True) = V := by simp [List.getD, hV]
      simp only [Nat.zero_add, dstAt, hi, Option.bind_some]
      cases hd : o.dst with
      | some d =>
        have := hmid.val i o d hi hd (hall i hlen)
        rwa [eV] at this
      | none =>
        have := hmid.bare i o hi hd (hall i hlen)
        rw [eV] at this ⊢
        exact Classical.epsilon_spec this)
    ops.length (Array.replicate ops.length false) a₀ _ (by simp) hm0
  simpa using this
end
end Go.Proofs.YtjdoflfdlhpbmaaGreat

namespace Go.Proofs.YtjdoflfdlhpbmaaGreat
open Go.RowKit

/-- The call returned the value; what was there before stands as it stood. -/
def Ret (v : Value) (w : World) (e : Ending) (w' : World) : Prop := e = .returned v ∧ Below w.heap.size w w'

theorem below_step {w w' w'' : World} (h1 : Below w'.heap.size w' w'') (h : Below w.heap.size w w') : Below w.heap.size w w'' :=
  h.trans (h1.mono h.size)

/-- A term with its addresses: kind, number, name, where the arguments lie, how much room they have, the arguments. -/
inductive Tm where
  | mk (k n : Int) (s : ByteArray) (p : Option Addr) (c : Nat) (l : List Tm)

namespace Tm
def k : Tm → Int | mk k _ _ _ _ _ => k
def n : Tm → Int | mk _ n _ _ _ _ => n
def s : Tm → ByteArray | mk _ _ s _ _ _ => s
def p : Tm → Option Addr | mk _ _ _ p _ _ => p
def c : Tm → Nat | mk _ _ _ _ c _ => c
def l : Tm → List Tm | mk _ _ _ _ _ l => l
/-- The value of type api.Term. -/
def cells (t : Tm) : List Value := [.int .i64 t.k, .int .i64 t.n, .string t.s, .slice t.p t.l.length t.c]
def val (t : Tm) : Value := .agg #[.int .i64 t.k, .int .i64 t.n, .string t.s, .slice t.p t.l.length t.c]

/-- The cells of the terms of a list lie one behind the other from an address on. -/
def row (w : World) (b o : Nat) (l : List Tm) : Prop :=
  ∀ (i : Nat) (x : Tm), l[i]? = some x →
    w.cell? ⟨b, o + i * 4, none⟩ = some (.int .i64 x.k) ∧ w.cell? ⟨b, o + i * 4 + 1, none⟩ = some (.int .i64 x.n) ∧
    w.cell? ⟨b, o + i * 4 + 2, none⟩ = some (.string x.s) ∧ w.cell? ⟨b, o + i * 4 + 3, none⟩ = some (.slice x.p x.l.length x.c)

mutual
/-- The term lies in the world. -/
def In (w : World) : Tm → Prop
  | mk k n s p c l => (-9223372036854775808 ≤ k ∧ k ≤ 9223372036854775807) ∧ (-9223372036854775808 ≤ n ∧ n ≤ 9223372036854775807) ∧ s.size ≤ 140737488351232 ∧ l.length ≤ c ∧ (l.length * 56 ≤ 140737488351232 ∧ c ≤ 9223372036854775807) ∧ (l = [] ∨ ∃ b o, p = some ⟨b, o, none⟩ ∧ row w b o l) ∧ InL w l
def InL (w : World) : List Tm → Prop
  | [] => True
  | x :: xs => In w x ∧ InL w xs
end

theorem InL_mem {w : World} : ∀ {l : List Tm}, InL w l → ∀ x ∈ l, In w x
  | _ :: _, h, x, hx => by
    rw [InL] at h
    rcases List.mem_cons.1 hx with rfl | hx
    · exact h.1
    · exact InL_mem h.2 x hx

theorem InL_of {w : World} : ∀ {l : List Tm}, (∀ x ∈ l, In w x) → InL w l
  | [], _ => by rw [InL]; trivial
  | x :: xs, h => by
    rw [InL]
    exact ⟨h x (List.mem_cons_self ..), InL_of fun y hy => h y (List.mem_cons_of_mem _ hy)⟩

theorem sizeOf_mem {l : List Tm} {x : Tm} (h : x ∈ l) (k n : Int) (s : ByteArray) (p : Option Addr) (c : Nat) : SizeOf.sizeOf x < SizeOf.sizeOf (Tm.mk k n s p c l) := by
  have := List.sizeOf_lt_of_mem h
  simp only [Tm.mk.sizeOf_spec]
  omega

theorem row_mono {w w' : World} {b o : Nat} {l : List Tm} (h : row w b o l) (hs : ∀ o', w'.cell? ⟨b, o', none⟩ = w.cell? ⟨b, o', none⟩) : row w' b o l := by
  intro i x hx
  have := h i x hx
  simpa only [hs] using this

theorem row_lt {w : World} {b o : Nat} {l : List Tm} (h : row w b o l) (hl : l ≠ []) : b < w.heap.size := by
  cases l with
  | nil => exact absurd rfl hl
  | cons x xs => exact World.block_lt_of_cell? _ _ (h 0 x rfl).1

mutual
theorem In_below {w w' : World} (hb : Below w.heap.size w w') : ∀ {t : Tm}, In w t → In w' t
  | .mk k n s p c l, h => by
    rw [In] at h ⊢
    obtain ⟨h1, h2, h3, h4, h5, h6, h7⟩ := h
    refine ⟨h1, h2, h3, h4, h5, ?_, InL_below hb h7⟩
    rcases h6 with h6 | ⟨b, o, hp, hr⟩
    · exact .inl h6
    · by_cases hl : l = []
      · exact .inl hl
      · exact .inr ⟨b, o, hp, row_mono hr fun o' => hb.cell (p := ⟨b, o', none⟩) (row_lt hr hl)⟩
theorem InL_below {w w' : World} (hb : Below w.heap.size w w') : ∀ {l : List Tm}, InL w l → InL w' l
  | [], _ => by rw [InL]; trivial
  | x :: xs, h => by
    rw [InL] at h ⊢
    exact ⟨In_below hb h.1, InL_below hb h.2⟩
end
end Tm

/-- A term without its addresses. -/
inductive T where
  | mk (k n : Int) (s : List UInt8) (l : List T)

mutual
def Tm.erase : Tm → T
  | .mk k n s _ _ l => .mk k n s.toList (Tm.eraseL l)
def Tm.eraseL : List Tm → List T
  | [] => []
  | x :: xs => Tm.erase x :: Tm.eraseL xs
end

theorem len_beq_zero {α : Type} (l : List α) : ((l.length : Int) == 0) = decide (l = []) := by
  cases l with
  | nil => rfl
  | cons x xs =>
    rw [List.length_cons, beq_eq_false_iff_ne.2 (by omega), decide_eq_false (by simp)]

theorem toList_length (s : ByteArray) : s.toList.length = s.size := by
  rw [ByteArray.toList_eq]; rfl

theorem Tm.eraseL_length : ∀ l : List Tm, (Tm.eraseL l).length = l.length
  | [] => by rw [Tm.eraseL]; rfl
  | x :: xs => by rw [Tm.eraseL, List.length_cons, Tm.eraseL_length xs, List.length_cons]

mutual
def T.formed : T → Bool
  | .mk k n s l =>
    if k = 1 then decide (0 ≤ n) && decide (n ≤ 1099511627776) && decide (s = []) && decide (l.length = 0)
    else if k = 2 then decide (s = []) && decide (l.length = 0)
    else if k = 3 then decide (n = 0) && decide (s.length ≤ 100) && decide (l.length = 0)
    else if k = 4 then decide (n = 0) && decide (s.length ≤ 100) && decide (1 ≤ l.length) && decide (l.length ≤ 50) && T.formedL l
    else false
def T.formedL : List T → Bool
  | [] => true
  | x :: xs => T.formed x && T.formedL xs
end
end Go.Proofs.YtjdoflfdlhpbmaaGreat

namespace Go.Proofs.YtjdoflfdlhpbmaaGreat
open Go.RowKit

theorem formedL_take (l : List Tm) (k : Nat) (hk : k < l.length) : T.formedL (Tm.eraseL (l.take (k + 1))) = (T.formedL (Tm.eraseL (l.take k)) && l[k].erase.formed) := by
  induction l generalizing k with
  | nil => exact absurd hk (by simp)
  | cons x xs ih =>
    cases k with
    | zero => simp [Tm.eraseL, T.formedL]
    | succ k =>
      simp only [List.length_cons] at hk
      simp only [List.take_succ_cons, Tm.eraseL, T.formedL, List.getElem_cons_succ]
      rw [ih k (by omega), Bool.and_assoc]

theorem formedL_false {l : List Tm} {x : Tm} (h : x ∈ l) (hx : x.erase.formed = false) : T.formedL (Tm.eraseL l) = false := by
  induction l with
  | nil => simp at h
  | cons y ys ih =>
    rw [Tm.eraseL, T.formedL]
    rcases List.mem_cons.1 h with rfl | h
    · rw [hx]; rfl
    · rw [ih h, Bool.and_false]

theorem ret_bool {a b : Bool} {w w' : World} (h : a = b) (hb : Below w.heap.size w w') : Ret (.bool b) w (.returned (.bool a)) w' := ⟨by rw [h], hb⟩


set_option maxHeartbeats 400000 in
set_option maxRecDepth 100000 in
theorem formed_leaf (k n : Int) (s : ByteArray) (p : Option Addr) (c : Nat) (l : List Tm) (w : World) (h : (Tm.mk k n s p c l).In w) (hk4 : k ≠ 4) :
    Calls Tryz.prog 46 #[(Tm.mk k n s p c l).val] w (Ret (.bool (T.formed (Tm.mk k n s p c l).erase)) w) := by
  rw [Tm.In] at h
  obtain ⟨⟨hk5, hk6⟩, ⟨hn1, hn2⟩, hs, hl, hc, _, _⟩ := h
  simp only [Tm.val, Tm.k, Tm.n, Tm.s, Tm.p, Tm.c, Tm.l, Tm.erase, T.formed, Tm.eraseL_length, toList_length]
  generalize hr : (if k = 1 then _ else _ : Bool) = r
  have Hr := Lib.hid hr
  clear hr
  by_cases hk1 : k = 1
  · subst hk1
    go_enter Tryz.func46, Tryz.ntmps46
    go_wp2_with fail
    all_goals
      go_ret
      refine ret_bool ?_ (by go_grown)
      refine Eq.trans ?_ Hr.out
      clear Hr
      first | (simp [*, len_beq_zero]; done) | (simp_all; done) | (simp_all; omega)
  by_cases hk2 : k = 2
  · subst hk2
    go_enter Tryz.func46, Tryz.ntmps46
    go_wp2_with fail
    all_goals
      go_ret
      refine ret_bool ?_ (by go_grown)
      refine Eq.trans ?_ Hr.out
      clear Hr
      first | (simp [*, len_beq_zero]; done) | (simp_all [len_beq_zero]; done) | (simp_all [len_beq_zero]; omega)
  by_cases hk3 : k = 3
  · subst hk3
    go_enter Tryz.func46, Tryz.ntmps46
    go_wp2_with fail
    all_goals
      go_ret
      refine ret_bool ?_ (by go_grown)
      refine Eq.trans ?_ Hr.out
      clear Hr
      first | (simp [*, len_beq_zero]; done) | (simp_all [len_beq_zero]; done) | (simp_all [len_beq_zero]; omega)
  · go_enter Tryz.func46, Tryz.ntmps46
    go_wp2_with fail
    go_ret
    refine ret_bool ?_ (by go_grown)
    refine Eq.trans ?_ Hr.out
    simp [hk1, hk2, hk3, hk4]

set_option maxHeartbeats 400000 in
set_option maxRecDepth 100000 in
theorem formed_any (N : Nat) : ∀ (t : Tm) (w : World), SizeOf.sizeOf t ≤ N → t.In w →
    Calls Tryz.prog 46 #[t.val] w (Ret (.bool (T.formed t.erase)) w) := by
  induction N with
  | zero => intro t w h _; cases t; simp at h
  | succ N ih =>
    intro t w hN h
    obtain ⟨k, n, s, p, c, l⟩ := t
    by_cases hk4 : k = 4
    · subst hk4
      have hsz := fun x (hx : x ∈ l) => Tm.sizeOf_mem hx 4 n s p c
      rw [Tm.In] at h
      obtain ⟨_, _, hs, hl, hc, hp, hIn⟩ := h
      have Hp := Lib.hid hp
      have HIn := Lib.hid hIn
      have Hsz := Lib.hid hsz
      have Hih := Lib.hid ih
      clear hp hIn hsz ih
      simp only [Tm.val, Tm.k, Tm.n, Tm.s, Tm.p, Tm.c, Tm.l, Tm.erase, T.formed, Tm.eraseL_length, toList_length]
      generalize hr : (if (4 : Int) = 1 then _ else _ : Bool) = r
      have Hr := Lib.hid hr
      clear hr
      by_cases hg : n = 0 ∧ s.size ≤ 100 ∧ 1 ≤ l.length ∧ l.length ≤ 50
      · obtain ⟨rfl, h2, h3, h4⟩ := hg
        rcases Hp.out with rfl | ⟨b, o, rfl, hrow⟩
        · simp at h3
        have Hrow := Lib.hid hrow
        have Hfin : Hid (r = T.formedL (Tm.eraseL l)) := by refine Hr.out.symm.trans ?_; simp [h2, h3, h4]
        have hbl : b < w.heap.size := Tm.row_lt hrow (by rintro rfl; simp at h3)
        clear hrow Hp Hr
        go_enter Tryz.func46, Tryz.ntmps46
        go_wp2_with fail
        go_loopw [82] (fun i wr => ∃ k : Nat, k ≤ l.length ∧ i = .int .i64 k ∧ Hid (T.formedL (Tm.eraseL (l.take k)) = true) ∧ Below w.heap.size w wr)
          (fun i _ => l.length - (intOf i).toNat)
        case atStart => exact ⟨0, Nat.zero_le _, rfl, rfl, by go_grown⟩
        case round =>
          obtain ⟨k, hk, rfl, hpre, hb⟩ := hrel
          have hbs := hb.size
          by_cases hlt : k < l.length
          · obtain ⟨c0, c1, c2, c3⟩ := Tm.row_mono Hrow.out (fun o' => hb.cell (p := ⟨b, o', none⟩) hbl) k l[k] (List.getElem?_eq_getElem hlt)
            have hmem : l[k] ∈ l := List.getElem_mem hlt
            have hx : Hid (l[k].In wr) := Tm.In_below (hb.mono (by omega)) (Tm.InL_mem HIn.out _ hmem)
            have Hz := Hsz.out _ hmem
            generalize hxe : l[k] = x at *
            go_wp2_with fail
            refine (Hih.out x _ (by omega) (Tm.In_below (by go_grown) hx.out)).mono ?_
            rintro e w1 ⟨rfl, hb1⟩
            generalize hxf : x.erase.formed = bx
            have Hxf := Lib.hid hxf
            clear hxf
            have Htk : Hid (T.formedL (Tm.eraseL (l.take (k + 1))) = bx) := by
              have h9 := formedL_take l k hlt
              rw [hpre.out, hxe, Hxf.out] at h9
              exact h9
            cases bx
            · go_wp2_with fail
              go_ret
              refine ret_bool ?_ (below_step hb1 (by go_grown))
              rw [Hfin.out, formedL_false (l := l) (x := x) hmem Hxf.out]
            · go_wp2_with fail
              go_roundw
              case rel => exact ⟨k + 1, by omega, by go_num, Htk.out, below_step hb1 (by go_grown)⟩
              case measure => simp [intOf]; omega
          · go_wp2_with fail
            go_ret
            refine ret_bool ?_ (by go_grown)
            rw [Hfin.out, ← hpre.out, List.take_of_length_le (by omega)]
      · have Hfin : Hid (r = false) := by
          refine Hr.out.symm.trans ?_
          simp only [show ¬ (4 : Int) = 1 by decide, show ¬ (4 : Int) = 2 by decide, show ¬ (4 : Int) = 3 by decide, if_false, if_true]
          by_cases e1 : n = 0 <;> by_cases e2 : s.size ≤ 100 <;> by_cases e3 : 1 ≤ l.length <;> by_cases e4 : l.length ≤ 50 <;> simp [e1, e2, e3, e4]
          exact absurd ⟨e1, e2, e3, e4⟩ hg
        clear Hr
        have Hg := Lib.hid hg
        clear hg
        go_enter Tryz.func46, Tryz.ntmps46
        go_wp2_with fail
        all_goals first
          | (go_ret; exact ret_bool Hfin.out.symm (by go_grown))
          | (exfalso; exact Hg.out ⟨by omega, by omega, by omega, by omega⟩)
    · exact formed_leaf k n s p c l w h hk4

/-- term.formed, of whatever term. -/
theorem formed_calls {t : Tm} {w : World} (h : t.In w) : Calls Tryz.prog 46 #[t.val] w (Ret (.bool (T.formed t.erase)) w) :=
  formed_any _ t w (Nat.le_refl _) h
end Go.Proofs.YtjdoflfdlhpbmaaGreat

namespace Go.Proofs.YtjdoflfdlhpbmaaGreat
open Go.RowKit

/-- A slice of terms. -/
def Tm.Sl (w : World) (p : Option Addr) (c : Nat) (l : List Tm) : Prop :=
  l.length ≤ c ∧ (l.length * 56 ≤ 140737488351232 ∧ c ≤ 9223372036854775807) ∧ (l = [] ∨ ∃ b o, p = some ⟨b, o, none⟩ ∧ Tm.row w b o l) ∧ Tm.InL w l

theorem Tm.In.sl {w : World} {k n : Int} {s : ByteArray} {p : Option Addr} {c : Nat} {l : List Tm} (h : (Tm.mk k n s p c l).In w) : Tm.Sl w p c l := by
  rw [Tm.In] at h
  exact ⟨h.2.2.2.1, h.2.2.2.2.1, h.2.2.2.2.2.1, h.2.2.2.2.2.2⟩

theorem Tm.Sl.mono {w w' : World} {p : Option Addr} {c : Nat} {l : List Tm} (h : Tm.Sl w p c l) (hg : Gr w w') : Tm.Sl w' p c l := by
  obtain ⟨h1, h2, h3, h4⟩ := h
  refine ⟨h1, h2, ?_, Tm.InL_below hg h4⟩
  rcases h3 with h3 | ⟨b, o, hp, hr⟩
  · exact .inl h3
  · by_cases hl : l = []
    · exact .inl hl
    · exact .inr ⟨b, o, hp, Tm.row_mono hr fun o' => hg.cell (p := ⟨b, o', none⟩) (Tm.row_lt hr hl)⟩

/-- An element of a slice of terms. -/
theorem Tm.Sl.elem {w : World} {b o : Nat} {c : Nat} {l : List Tm} (h : Tm.Sl w (some ⟨b, o, none⟩) c l) (i : Nat) (hi : i < l.length) :
    (w.cell? ⟨b, o + i * 4, none⟩ = some (.int .i64 l[i].k) ∧ w.cell? ⟨b, o + i * 4 + 1, none⟩ = some (.int .i64 l[i].n) ∧
    w.cell? ⟨b, o + i * 4 + 2, none⟩ = some (.string l[i].s) ∧ w.cell? ⟨b, o + i * 4 + 3, none⟩ = some (.slice l[i].p l[i].l.length l[i].c)) ∧ l[i].In w ∧ b < w.heap.size := by
  obtain ⟨_, _, h3, h4⟩ := h
  rcases h3 with rfl | ⟨b', o', hp, hr⟩
  · simp at hi
  · cases hp
    exact ⟨hr i l[i] (List.getElem?_eq_getElem hi), Tm.InL_mem h4 _ (List.getElem_mem hi), Tm.row_lt hr (by rintro rfl; simp at hi)⟩

theorem Tm.Sl.ptr {w : World} {p : Option Addr} {c : Nat} {l : List Tm} (h : Tm.Sl w p c l) (hl : 0 < l.length) : ∃ b o, p = some ⟨b, o, none⟩ := by
  obtain ⟨_, _, h3, _⟩ := h
  rcases h3 with rfl | ⟨b', o', hp, _⟩
  · simp at hl
  · exact ⟨b', o', hp⟩

set_option maxHeartbeats 400000 in
theorem all_calls {p : Option Addr} {c : Nat} {l : List Tm} {w : World} (h : Tm.Sl w p c l) :
    Calls Tryz.prog 18 #[.slice p l.length c] w (Ret (.bool (T.formedL (Tm.eraseL l))) w) := by
  have H := Lib.hid h
  have hlc := h.1
  have hcb := h.2.1
  clear h
  generalize hr : T.formedL (Tm.eraseL l) = r
  have Hr := Lib.hid hr
  clear hr
  go_enter Tryz.func18, Tryz.ntmps18
  go_wp2_with fail
  go_loopw [7] (fun i wr => ∃ k : Nat, k ≤ l.length ∧ i = .int .i64 k ∧ Hid (T.formedL (Tm.eraseL (l.take k)) = true) ∧ Gr w wr)
    (fun i _ => l.length - (intOf i).toNat)
  case atStart => exact ⟨0, Nat.zero_le _, rfl, rfl, by go_grown⟩
  case round =>
    obtain ⟨k, hk, rfl, hpre, hb⟩ := hrel
    have hbs := hb.size
    by_cases hlt : k < l.length
    · have hS := H.out.mono hb
      obtain ⟨b, o, rfl⟩ := hS.ptr (by omega)
      obtain ⟨⟨c0, c1, c2, c3⟩, hx, _⟩ := hS.elem k hlt
      have Hx := Lib.hid hx
      have hmem : l[k] ∈ l := List.getElem_mem hlt
      clear hS hx
      generalize hxe : l[k] = x at *
      go_wp2_with fail
      refine (formed_calls (t := x) (Tm.In_below (by go_grown) Hx.out)).mono ?_
      rintro e w1 ⟨rfl, hb1⟩
      generalize hxf : x.erase.formed = bx
      have Hxf := Lib.hid hxf
      clear hxf
      have Htk : Hid (T.formedL (Tm.eraseL (l.take (k + 1))) = bx) := by
        have h9 := formedL_take l k hlt
        rw [hpre.out, hxe, Hxf.out] at h9
        exact h9
      cases bx
      · go_wp2_with fail
        go_ret
        refine ret_bool ?_ (below_step hb1 (by go_grown))
        rw [← Hr.out, formedL_false (l := l) (x := x) hmem Hxf.out]
      · go_wp2_with fail
        go_roundw
        case rel => exact ⟨k + 1, by omega, by go_num, Htk.out, below_step hb1 (by go_grown)⟩
        case measure => simp [intOf]; omega
    · go_wp2_with fail
      go_ret
      refine ret_bool ?_ (by go_grown)
      rw [← Hr.out, ← hpre.out, List.take_of_length_le (by omega)]
end Go.Proofs.YtjdoflfdlhpbmaaGreat
