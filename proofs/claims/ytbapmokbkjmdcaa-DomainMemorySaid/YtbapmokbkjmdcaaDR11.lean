/-
  slices.ContainsFunc at rows of numbers, with a function that looks at a row's length.
  The rely rule with a tail, for a region some of whose operations turn more than new memory: R is what any operation keeps; J what is known by which operations are over.
-/
import Derived.Test.YtbapmokbkjmdcaaDR10
import Derived.Test.YtbapmokbkjmdcaaDR02
namespace Go.Proofs.Ytbapmokbkjmdcaa
open Go.RowKit Go.Maps Go.Lib

def RowPred (g : FuncId) (cap : Array Value) (p : Nat → Bool) : Prop :=
  (∀ (v : Value) (w : World), (callFunc g (#[v] ++ cap)).run Try.prog w = .ok (.enter g (#[v] ++ cap)) w) ∧ ∀ (q : Option Addr) (n c : Nat) (W : World), Calls Try.prog g (#[.slice q n c] ++ cap) W (Ret (.bool (p n)) W)

set_option maxHeartbeats 1000000 in
set_option maxRecDepth 100000 in
theorem indexRows (g : FuncId) (cap : Array Value) (pr : Nat → Bool) (hf : RowPred g cap pr) (p : Option Addr) (c : Nat) (D : List (List Int)) (w : World) (h : RowsAt w p D) (hlc : D.length ≤ c) (hc : c ≤ 9223372036854775807) :
    Calls Try.prog 47 #[.slice p D.length c, .func (.func g) #[] cap] w fun e w' => ∃ m : Int, e = .returned (.int .i64 m) ∧ decide (m ≥ 0) = (D.any fun d => pr d.length) ∧ Gr w w' := by
  have hR : Hid (∀ m : Int, decide (m ≥ 0) = (D.any fun d => pr d.length) → ∀ w', Gr w w' → (fun (e : Ending) (w' : World) => ∃ m : Int, e = .returned (.int .i64 m) ∧ decide (m ≥ 0) = (D.any fun d => pr d.length) ∧ Gr w w') (.returned (.int .i64 m)) w') := fun m hm w' hg => ⟨m, rfl, hm, hg⟩
  generalize (fun (e : Ending) (w' : World) => ∃ m : Int, e = .returned (.int .i64 m) ∧ decide (m ≥ 0) = (D.any fun d => pr d.length) ∧ Gr w w') = Q at hR ⊢
  have H := Lib.hid h
  have Hcall := Lib.hid hf.2
  have hq := hf.1
  clear h hf
  go_enter Try.func47, Try.ntmps47
  try simp only [List.append_eq, List.cons_append, List.nil_append]
  go_wp2_with fail
  go_loopg [8] D.length (fun m i wr => ∃ k : Nat, k ≤ D.length ∧ m = D.length - k ∧ i = .int .i64 k ∧ Gr w wr ∧ Hid (∀ i d, i < k → D[i]? = some d → pr d.length = false))
  case atStart => exact ⟨0, Nat.zero_le _, rfl, rfl, Gr.rfl' _, fun i _ hi => by omega⟩
  case round =>
    obtain ⟨k, hk, rfl, rfl, gr, hno⟩ := hrel
    by_cases hlt : k < D.length
    · obtain ⟨b, o, rfl, _, hr⟩ := (H.out.mono gr).resolve_left (fun e => by rw [e] at hlt; simp at hlt)
      obtain ⟨d, hd⟩ : ∃ d, D[k]? = some d := ⟨_, List.getElem?_eq_getElem hlt⟩
      obtain ⟨q, cq, c0, _⟩ := hr k d hd
      clear hr
      have hqy := hq (.slice q d.length cq)
      obtain ⟨bb, hbb⟩ : ∃ bb, pr d.length = bb := ⟨_, rfl⟩
      have HB := Lib.hid hbb
      have HY := Lib.hid hd
      clear hbb hd
      have HG := Lib.hid gr
      have Hc := Lib.hid (fun W => Hcall.out q d.length cq W)
      rw [HB.out] at Hc
      cases bb with
      | true =>
        have hv : Hid (decide ((k : Int) ≥ 0) = (D.any fun d => pr d.length)) := by
          show _ = _
          rw [decide_eq_true (by omega)]
          exact (List.any_eq_true.2 ⟨d, List.mem_of_getElem? HY.out, HB.out⟩).symm
        go_wp2_with (first
          | (refine (Hc.out _).mono ?_; rintro e w1 ⟨rfl, hb⟩; have hb : Gr wr w1 := hb; replace HG := Lib.hid (HG.out.trans hb); clear hb gr c0)
          | fail)
        exact hR.out _ hv.out _ HG.out
      | false =>
        have hno2 : Hid (∀ i z, i < k + 1 → D[i]? = some z → pr z.length = false) := fun i z hi hz => by
          by_cases hik : i = k
          · subst hik
            rw [HY.out] at hz
            cases hz
            exact HB.out
          · exact hno.out i z (by omega) hz
        go_wp2_with (first
          | (refine (Hc.out _).mono ?_; rintro e w1 ⟨rfl, hb⟩; have hb : Gr wr w1 := hb; replace HG := Lib.hid (HG.out.trans hb); clear hb gr c0)
          | fail)
        go_roundg (D.length - (k + 1))
        case measure => omega
        case rel => exact ⟨k + 1, by omega, rfl, by go_num, HG.out, hno2⟩
    · obtain rfl : k = D.length := by omega
      have hv : Hid (decide ((-1 : Int) ≥ 0) = (D.any fun d => pr d.length)) := by
        show _ = _
        rw [decide_eq_false (by omega)]
        symm
        rw [List.any_eq_false]
        intro d hd
        obtain ⟨i, hi⟩ := List.getElem?_of_mem hd
        rw [hno.out i d (List.getElem?_eq_some_iff.1 hi).1 hi]
        decide
      go_wp2_with fail
      exact hR.out _ hv.out _ gr

set_option maxHeartbeats 1000000 in
set_option maxRecDepth 100000 in
theorem containsRows (g : FuncId) (cap : Array Value) (pr : Nat → Bool) (hf : RowPred g cap pr) (p : Option Addr) (c : Nat) (D : List (List Int)) (w : World) (h : RowsAt w p D) (hlc : D.length ≤ c) (hc : c ≤ 9223372036854775807) :
    Calls Try.prog 28 #[.slice p D.length c, .func (.func g) #[] cap] w (Ret (.bool (D.any fun d => pr d.length)) w) := by
  have hR : Hid (∀ m, m = (D.any fun d => pr d.length) → ∀ w', Gr w w' → Ret (.bool (D.any fun d => pr d.length)) w (.returned (.bool m)) w') := fun b hb w' hg => ⟨by rw [hb], hg⟩
  have Hcall := Lib.hid (indexRows g cap pr hf p c D w h hlc hc)
  generalize Ret (.bool (D.any fun d => pr d.length)) w = Q at hR ⊢
  generalize (D.any fun d => pr d.length) = r at *
  clear h hf hlc
  generalize D.length = n at *
  go_enter Try.func28, Try.ntmps28
  try simp only [List.append_eq, List.cons_append, List.nil_append]
  go_wp2_with (first
    | (go_at_call 47; refine Hcall.out.mono ?_; rintro e w1 ⟨m, rfl, hm, hb⟩; have HG := Lib.hid hb; have HM := Lib.hid hm; clear hb hm)
    | fail)
  exact hR.out _ HM.out _ HG.out

set_option maxHeartbeats 1000000 in
set_option maxRecDepth 100000 in
theorem red1_pred : RowPred 50 #[] fun n => decide (n = 0) := by
  refine ⟨fun v W => by kernel_rfl, fun q n c W => ?_⟩
  show Calls Try.prog 50 #[.slice q n c] W _
  have hR : Hid (∀ b, ((n : Int) == 0) = b → ∀ w', Gr W w' → Ret (.bool (decide (n = 0))) W (.returned (.bool b)) w') := fun b hb w' hg => ⟨by
    rw [← hb]
    by_cases h : n = 0
    · subst h; rfl
    · rw [decide_eq_false h, beq_eq_false_iff_ne.2 (by omega)], hg⟩
  generalize Ret (.bool (decide (n = 0))) W = Q at hR ⊢
  obtain ⟨b, hb⟩ : ∃ b, ((n : Int) == 0) = b := ⟨_, rfl⟩
  have HB := Lib.hid hb
  go_enter Try.func50, Try.ntmps50
  try simp only [List.append_eq, List.cons_append, List.nil_append]
  go_wp2_with fail
  exact hR.out _ HB.out _ (Gr.rfl' _)
set_option maxHeartbeats 1000000 in
set_option maxRecDepth 100000 in
theorem check1_pred : RowPred 29 #[] fun n => decide (100 < n) := by
  refine ⟨fun v W => by kernel_rfl, fun q n c W => ?_⟩
  show Calls Try.prog 29 #[.slice q n c] W _
  have hR : Hid (∀ b, decide ((100 : Int) < (n : Int)) = b → ∀ w', Gr W w' → Ret (.bool (decide (100 < n))) W (.returned (.bool b)) w') := fun b hb w' hg => ⟨by
    rw [← hb]
    by_cases h : 100 < n
    · rw [decide_eq_true h, decide_eq_true (by omega)]
    · rw [decide_eq_false h, decide_eq_false (by omega)], hg⟩
  generalize Ret (.bool (decide (100 < n))) W = Q at hR ⊢
  obtain ⟨b, hb⟩ : ∃ b, decide ((100 : Int) < (n : Int)) = b := ⟨_, rfl⟩
  have HB := Lib.hid hb
  go_enter Try.func29, Try.ntmps29
  try simp only [List.append_eq, List.cons_append, List.nil_append]
  go_wp2_with fail
  exact hR.out _ HB.out _ (Gr.rfl' _)
end Go.Proofs.Ytbapmokbkjmdcaa

namespace Go.Proofs.Ytbapmokbkjmdcaa
open Go.RowKit

def StableR (R : World → World → Prop) (Vs : List VP) : Prop := ∀ V ∈ Vs, ∀ v w w', V v w → R w w' → V v w'
section
variable {R : World → World → Prop}
theorem StableR.nil : StableR R [] := fun _ h => by cases h
theorem StableR.fix {c : Value} {Vs : List VP} (h : StableR R Vs) : StableR R (fx c :: Vs) := fun V hV => by
  rcases List.mem_cons.1 hV with rfl | hV
  · exact fun _ _ _ h _ => h
  · exact h V hV
theorem StableR.cons {W : VP} {Vs : List VP} (hW : ∀ v w w', W v w → R w w' → W v w') (h : StableR R Vs) : StableR R (W :: Vs) := fun V hV => by
  rcases List.mem_cons.1 hV with rfl | hV
  · exact hW
  · exact h V hV
end

def StepJ (R : World → World → Prop) (J : Array Bool → World → Prop) (P : Program) (ops : List Oper) (Vs : List VP) (a₀ : Act) (w₀ : World) (Q : Exit → Act → World → Prop) (i : Nat) (o : Oper) (V : VP) : Prop :=
  ∀ listed a w, J listed w → listed.getD i true = false → (∀ e ∈ o.after, Region.binds .any e = true → listed.getD e.on false = true) → R w₀ w → a.defers = a₀.defers → (∀ t, (dsts ops).contains t = false → a.tmps[t]?.getD undef = a₀.tmps[t]?.getD undef) →
    predsImp ops Vs a w (∀ K : Act → World → Prop, (∀ v w', V v w' → R w w' → J (listed.setIfInBounds i true) w' → K (a.put o.dst v) w') → o.wp P a w K Q) o.after.toList

def stepsJ (R : World → World → Prop) (J : Array Bool → World → Prop) (P : Program) (ops : List Oper) (Vs : List VP) (a₀ : Act) (w₀ : World) (Q : Exit → Act → World → Prop) : List Oper → List VP → Nat → Prop
  | [], _, _ => True
  | o :: os, V :: Vs', i => StepJ R J P ops Vs a₀ w₀ Q i o V ∧ stepsJ R J P ops Vs a₀ w₀ Q os Vs' (i + 1)
  | _ :: _, [], _ => False

section
variable {P : Program} {ops : List Oper} {Vs : List VP} {a₀ : Act} {w₀ : World} {Q : Exit → Act → World → Prop} {R : World → World → Prop} {J : Array Bool → World → Prop} {m : Nat}

theorem stepsJ_at : ∀ {os : List Oper} {Vs' : List VP} {k i : Nat} {o : Oper}, stepsJ R J P ops Vs a₀ w₀ Q os Vs' k → os[i]? = some o → StepJ R J P ops Vs a₀ w₀ Q (k + i) o (Vs'.getD i (fun _ _ => True))
  | [], _, _, i, o, _, hi => by simp at hi
  | o' :: os, [], _, _, _, h, _ => h.elim
  | o' :: os, V :: Vs', k, 0, o, h, hi => by
    simp only [List.getElem?_cons_zero, Option.some.injEq] at hi
    subst hi
    exact h.1
  | o' :: os, V :: Vs', k, i + 1, o, h, hi => by
    simp only [List.getElem?_cons_succ] at hi
    have := stepsJ_at h.2 hi
    rw [show k + 1 + i = k + (i + 1) by omega] at this
    simpa using this

/-- An operation that turns nothing but new memory, and of which J does not speak. -/
theorem stepJ_plain {i : Nat} {o : Oper} {V : VP} (hG : ∀ w w', Gr w w' → R w w') (hJ : ∀ listed w w', J listed w → Gr w w' → J (listed.setIfInBounds i true) w')
    (h : ∀ a w, R w₀ w → (∀ t, (dsts ops).contains t = false → a.tmps[t]?.getD undef = a₀.tmps[t]?.getD undef) → predsImp ops Vs a w (∀ K : Act → World → Prop, (∀ v w', V v w' → Gr w w' → K (a.put o.dst v) w') → o.wp P a w K Q) o.after.toList) :
    StepJ R J P ops Vs a₀ w₀ Q i o V := by
  intro listed a w hj _ _ hr _ hf
  have h1 := h a w hr hf
  have : ∀ es : List Edge, predsImp ops Vs a w (∀ K : Act → World → Prop, (∀ v w', V v w' → Gr w w' → K (a.put o.dst v) w') → o.wp P a w K Q) es → predsImp ops Vs a w (∀ K : Act → World → Prop, (∀ v w', V v w' → R w w' → J (listed.setIfInBounds i true) w' → K (a.put o.dst v) w') → o.wp P a w K Q) es := by
    intro es
    induction es with
    | nil => exact fun h2 K hK => h2 K fun v w' hv hg => hK v w' hv (hG _ _ hg) (hJ _ _ _ hj hg)
    | cons e es ih =>
      intro h2
      simp only [predsImp] at h2 ⊢
      split at h2
      · rename_i hb
        rw [if_pos hb]
        cases hd : dstAt ops e.on with
        | none => simp only [hd] at h2 ⊢; exact ih h2
        | some d => simp only [hd] at h2 ⊢; exact fun v h3 h4 => ih (h2 v h3 h4)
      · rename_i hb
        rw [if_neg hb]
        exact ih h2
  exact this _ h1

/-- The state in the middle of the region. -/
structure MidJ (R : World → World → Prop) (J : Array Bool → World → Prop) (ops : List Oper) (Vs : List VP) (a₀ : Act) (w₀ : World) (listed : Array Bool) (a : Act) (w : World) : Prop where
  sz : listed.size = ops.length
  grown : R w₀ w
  st : J listed w
  defers : a.defers = a₀.defers
  size : a.tmps.size = a₀.tmps.size
  old : ∀ t, (∀ i o, ops[i]? = some o → o.dst = some t → listed.getD i false = false) → a.tmps[t]? = a₀.tmps[t]?
  val : ∀ i o d, ops[i]? = some o → o.dst = some d → listed.getD i false = true → (Vs.getD i (fun _ _ => True)) (a.tmps.getD d undef) w
  bare : ∀ i o, ops[i]? = some o → o.dst = none → listed.getD i false = true → ∃ v, (Vs.getD i (fun _ _ => True)) v w

theorem mid_stepJ (hB : relyB ops a₀.tmps.size = true) (hRt : ∀ a b c, R a b → R b c → R a c) (hst : StableR R Vs) {listed : Array Bool} {a a' : Act} {w w' : World} {i : Nat} {o : Oper} {v : Value}
    (hm : MidJ R J ops Vs a₀ w₀ listed a w) (hi : ops[i]? = some o) (ha : a' = a.put o.dst v) (hv : (Vs.getD i (fun _ _ => True)) v w') (hg : R w w') (hj : J (listed.setIfInBounds i true) w') :
    MidJ R J ops Vs a₀ w₀ (listed.setIfInBounds i true) a' w' := by
  obtain ⟨hn, hlt, _, _⟩ := relyB_spec hB
  have hil : i < listed.size := by rw [hm.sz]; exact (List.getElem?_eq_some_iff.1 hi).1
  have hstab : ∀ j v, (Vs.getD j (fun _ _ => True)) v w → (Vs.getD j (fun _ _ => True)) v w' := by
    intro j v h
    by_cases hj : j < Vs.length
    · have e : Vs.getD j (fun _ _ => True) = Vs[j] := by simp [List.getD, hj]
      rw [e] at h ⊢
      exact hst _ (List.getElem_mem hj) _ _ _ h hg
    · have e : Vs.getD j (fun _ _ => True) = (fun _ _ => True) := by simp [List.getD, List.getElem?_eq_none (Nat.le_of_not_lt hj)]
      rw [e]
      trivial
  subst ha
  refine ⟨by simpa using hm.sz, hRt _ _ _ hm.grown hg, hj, ?_, ?_, fun t ht => ?_, fun j oj d hj hd hl => ?_, fun j oj hj hd hl => ?_⟩
  · rw [← hm.defers]; unfold Act.put; split <;> rfl
  · rw [← hm.size]; unfold Act.put; split <;> simp
  · have h1 : o.dst ≠ some t := fun e => by
      have := ht i o hi e
      simp [hil] at this
    have h2 := hm.old t (fun j oj hj hd => by
      have := ht j oj hj hd
      by_cases hji : i = j
      · subst hji
        rw [hi] at hj
        cases hj
        exact absurd hd h1
      · rwa [getD_set_ne false hji] at this)
    rw [← h2]
    unfold Act.put
    split
    · rename_i d hd
      have hne : d ≠ t := fun e => h1 (by rw [hd, e])
      simp [Array.getElem?_setIfInBounds_ne hne]
    · rfl
  · by_cases hji : i = j
    · subst hji
      rw [hi] at hj
      cases hj
      have hdl : d < a.tmps.size := by rw [hm.size]; exact hlt d (mem_dsts hi hd)
      have e : (a.put o.dst v).tmps.getD d undef = v := by simp [Act.put, hd, hdl]
      rw [e]
      exact hv
    · rw [getD_set_ne false hji] at hl
      have h2 := hstab _ _ (hm.val j oj d hj hd hl)
      have e : (a.put o.dst v).tmps.getD d undef = a.tmps.getD d undef := by
        unfold Act.put
        split
        · rename_i d' hd'
          have hne : d' ≠ d := fun e => hji (dst_inj hn hi hj hd' (by rw [hd, e]))
          simp [Array.getElem?_setIfInBounds_ne hne]
        · rfl
      rw [e]
      exact h2
  · by_cases hji : i = j
    · subst hji
      exact ⟨v, hv⟩
    · rw [getD_set_ne false hji] at hl
      obtain ⟨u, hu⟩ := hm.bare j oj hj hd hl
      exact ⟨u, hstab _ _ hu⟩

theorem mid_finJ (hB : relyB ops a₀.tmps.size = true) {K : Act → World → Prop} {listed : Array Bool} {a : Act} {w : World} (hmid : MidJ R J ops Vs a₀ w₀ listed a w) (hall : ∀ i, i < ops.length → listed.getD i false = true)
    (hfin : finAll K w ops Vs a₀) : K a w := by
  obtain ⟨hn, hlt, _, _⟩ := relyB_spec hB
  have hf := finAll_elim (os := ops) (Vs' := Vs) (b := a₀) (f := fun i => match dstAt ops i with | some d => a.tmps.getD d undef | none => Classical.epsilon fun v => (Vs.getD i (fun _ _ => True)) v w) (k := 0) (K := K) (w := w) ?_ hfin
  · have e : (ops.zipIdx 0 |>.foldl (fun a' x => a'.put x.1.dst (match dstAt ops x.2 with | some d => a.tmps.getD d undef | none => Classical.epsilon fun v => (Vs.getD x.2 (fun _ _ => True)) v w)) a₀) = a := by
      have hT : (ops.zipIdx 0 |>.foldl (fun a' x => a'.put x.1.dst (match dstAt ops x.2 with | some d => a.tmps.getD d undef | none => Classical.epsilon fun v => (Vs.getD x.2 (fun _ _ => True)) v w)) a₀).tmps = a.tmps := by
        apply Array.ext_getElem?
        intro t
        obtain ⟨h1, h2⟩ := fold_tmps (f := fun i => match dstAt ops i with | some d => a.tmps.getD d undef | none => Classical.epsilon fun v => (Vs.getD i (fun _ _ => True)) v w) (os := ops) (b := a₀) (k := 0) t hn hlt
        by_cases hex : ∃ (i : Nat) (o : Oper), ops[i]? = some o ∧ o.dst = some t
        · obtain ⟨i, o, hi, hd⟩ := hex
          rw [h1 i o hi hd]
          have hts : t < a.tmps.size := by rw [hmid.size]; exact hlt t (mem_dsts hi hd)
          simp [dstAt, hi, hd, hts]
        · rw [h2 (fun i o hi hd => hex ⟨i, o, hi, hd⟩)]
          exact (hmid.old t (fun i o hi hd => (hex ⟨i, o, hi, hd⟩).elim)).symm
      have hD := fold_defers (f := fun i => match dstAt ops i with | some d => a.tmps.getD d undef | none => Classical.epsilon fun v => (Vs.getD i (fun _ _ => True)) v w) (os := ops) (b := a₀) (k := 0)
      generalize (ops.zipIdx 0 |>.foldl (fun a' x => a'.put x.1.dst (match dstAt ops x.2 with | some d => a.tmps.getD d undef | none => Classical.epsilon fun v => (Vs.getD x.2 (fun _ _ => True)) v w)) a₀) = c at hT hD
      obtain ⟨ct, cd⟩ := c
      obtain ⟨at', ad⟩ := a
      have hd := hmid.defers
      simp only at hT hD hd
      rw [hT, hD, hd]
    rw [e] at hf
    exact hf
  · intro i o hi V hV
    have hlen : i < ops.length := (List.getElem?_eq_some_iff.1 hi).1
    have eV : Vs.getD i (fun _ _ => True) = V := by simp [List.getD, hV]
    simp only [Nat.zero_add, dstAt, hi, Option.bind_some]
    cases hd : o.dst with
    | some d =>
      have := hmid.val i o d hi hd (hall i hlen)
      rwa [eV] at this
    | none =>
      have := hmid.bare i o hi hd (hall i hlen)
      rw [eV] at this ⊢
      exact Classical.epsilon_spec this

theorem mid_startJ (hG : ∀ w, Gr w₀ w → R w₀ w) (hJ0 : ∀ w, Gr w₀ w → J (Array.replicate ops.length false) w) (Vs : List VP) (a₀ : Act) : MidJ R J ops Vs a₀ w₀ (Array.replicate ops.length false) a₀ { w₀ with drawn := w₀.drawn + 1 } := by
  refine ⟨by simp, hG _ ⟨rfl, rfl, rfl, Nat.le_refl _, fun _ _ => rfl⟩, hJ0 _ ⟨rfl, rfl, rfl, Nat.le_refl _, fun _ _ => rfl⟩, rfl, rfl, fun _ _ => rfl, fun i o d hi hd hl => ?_, fun i o hi hd hl => ?_⟩
  all_goals
    have : i < ops.length := (List.getElem?_eq_some_iff.1 hi).1
    simp [this] at hl

theorem wpAny_mid_tailJ (hnog : ∀ o ∈ ops.take m, o.guard = none) (hB : tailB ops m a₀.tmps.size = true) (hm : m ≤ ops.length) (hRt : ∀ a b c, R a b → R b c → R a c) (hst : StableR R Vs) (hsteps : stepsJ R J P (ops.take m) Vs a₀ w₀ Q (ops.take m) Vs 0)
    (hfin : ∀ listed a w, MidJ R J (ops.take m) Vs a₀ w₀ listed a w → (∀ i, i < (ops.take m).length → listed.getD i false = true) → wpList P ops.toArray Q (ops.drop m) a w) :
    ∀ (fuel : Nat) (listed : Array Bool) (a : Act) (w : World), listed.size = ops.length → listed.count false ≤ fuel → Shut ops listed → (∀ i, m ≤ i → i < ops.length → listed.getD i true = false) →
      MidJ R J (ops.take m) Vs a₀ w₀ (listed.extract 0 m) a w → wpAny P .any ops.toArray Q fuel listed a w := by
  obtain ⟨hR, hlt, hanc, hgrd⟩ := tailB_spec hB
  have hlen : (ops.take m).length = m := by rw [List.length_take]; omega
  have hext : ∀ (listed : Array Bool) (i : Nat), i < m → ∀ d, (listed.extract 0 m).getD i d = listed.getD i d := by
    intro listed i hi d
    simp only [Array.getD_eq_getD_getElem?, Array.getElem?_extract]
    by_cases h : i < listed.size
    · rw [if_pos (by omega)]; simp
    · rw [if_neg (by omega)]; simp [Array.getElem?_eq_none (Nat.le_of_not_lt h)]
  have hexts : ∀ (listed : Array Bool) (i : Nat), i < m → (listed.setIfInBounds i true).extract 0 m = (listed.extract 0 m).setIfInBounds i true := by
    intro listed i hi
    apply Array.ext_getElem?
    intro j
    simp only [Array.getElem?_extract, Array.getElem?_setIfInBounds, Array.size_setIfInBounds, Array.size_extract, Nat.sub_zero, Nat.zero_add]
    by_cases hj : j < m ∧ j < listed.size
    · by_cases e : i = j
      · subst e
        simp [hj]
      · have : j < min m listed.size := by omega
        simp [this, e]
    · have : ¬ j < min m listed.size := by omega
      by_cases e : i = j
      · subst e
        simp [this]
      · simp [this, e]
  intro fuel
  induction fuel with
  | zero =>
    intro listed a w hs hc hshut hno hmid
    by_cases hall : ∀ i, i < m → listed.getD i false = true
    · exact wpAny_tail hB (ops.drop m) m 0 listed a w (Nat.le_refl _) (fun j => by rw [List.getElem?_drop]) (by
        have hz : (ops.drop m).length = 0 := by
          rw [List.length_drop]
          rcases Nat.lt_or_ge m ops.length with h | h
          · have h5 := hno m (Nat.le_refl _) h
            have := count_set h5
            omega
          · omega
        omega) hs hshut (fun i hi _ => hall i hi) hno (hfin _ a w hmid (fun i hi => by rw [hext listed i (by omega)]; exact hall i (by omega)))
    · exfalso
      apply hall
      intro i hi
      have hi' : i < listed.size := by omega
      by_cases h : listed.getD i false = true
      · exact h
      · have h5 : listed.getD i true = false := by simpa [hi'] using h
        have := count_set h5
        omega
  | succ fuel ih =>
    intro listed a w hs hc hshut hno hmid
    by_cases hall : ∀ i, i < m → listed.getD i false = true
    · have hcount : (ops.drop m).length ≤ fuel + 1 := by
        have h5 : ops.length - m ≤ listed.count false := by
          have h6 : (listed.extract m listed.size).count false ≤ listed.count false := by
            rw [← Array.count_toList, ← Array.count_toList, Array.toList_extract]
            exact List.Sublist.count_le _ (List.Sublist.trans (List.take_sublist _ _) (List.drop_sublist _ _))
          have h7 : (listed.extract m listed.size).count false = (listed.extract m listed.size).size := by
            rw [Array.count_eq_size]
            intro b hb
            obtain ⟨j, hj, rfl⟩ := Array.getElem_of_mem hb
            simp only [Array.size_extract] at hj
            have h8 := hno (m + j) (by omega) (by omega)
            have h9 : m + j < listed.size := by omega
            simp only [Array.getElem_extract]
            simpa [h9] using h8.symm
          rw [h7, Array.size_extract] at h6
          omega
        rw [List.length_drop]
        omega
      exact wpAny_tail hB (ops.drop m) m (fuel + 1) listed a w (Nat.le_refl _) (fun j => by rw [List.getElem?_drop]) hcount hs hshut (fun i hi _ => hall i hi) hno
        (hfin _ a w hmid (fun i hi => by rw [hext listed i (by omega)]; exact hall i (by omega)))
    · have hpre : ∀ i ∈ Region.ready .any ops.toArray listed, i < m := by
        intro i hi
        rcases Nat.lt_or_ge i m with h | h
        · exact h
        · exfalso
          obtain ⟨h0, o, ho, hal⟩ := mem_ready.1 hi
          have ho' : ops[i]? = some o := by simpa using ho
          have hil := (List.getElem?_eq_some_iff.1 ho').1
          exact hall fun j hj => anc_listed hshut (i + 1) i o ho' hal j (hanc i hil h j (by omega))
      refine ⟨fun hr => ?_, fun i hi => ?_⟩
      · exfalso
        apply hall
        intro i
        induction i using Nat.strongRecOn with
        | _ i ihi =>
          intro hi
          by_cases h : listed.getD i false = true
          · exact h
          · have hi' : i < listed.size := by omega
            have hmem : i ∈ Region.ready .any ops.toArray listed := by
              rw [mem_ready]
              refine ⟨by simpa [hi'] using h, ops[i], by simp [show i < ops.length by omega], fun e he hb => ?_⟩
              have := hlt i ops[i] (by simp) e he hb
              exact ihi e.on this (by omega)
            rw [hr] at hmem
            cases hmem
      · have him := hpre i hi
        obtain ⟨h0, o, ho, hal⟩ := mem_ready.1 hi
        have ho' : ops[i]? = some o := by simpa using ho
        have hot : (ops.take m)[i]? = some o := by rw [List.getElem?_take, if_pos him]; exact ho'
        have hstep := stepsJ_at hsteps hot (listed.extract 0 m) a w hmid.st (by rw [Nat.zero_add, hext listed i him]; exact h0) (fun e he hb => by rw [hext listed e.on (Nat.lt_trans (hlt i o ho' e he hb) him)]; exact hal e he hb) hmid.grown hmid.defers (fun t ht => by
          have h1 := hmid.old t (fun j oj hj hd => by
            have := mem_dsts hj hd
            rw [List.contains_eq_mem, decide_eq_false_iff_not] at ht
            exact absurd this ht)
          simp only [h1])
        have hres := predsImp_elim (fun e he hb d hd => by
          unfold dstAt at hd
          cases hoe : (ops.take m)[e.on]? with
          | none => simp [hoe] at hd
          | some oe =>
            simp only [hoe, Option.bind_some] at hd
            have hem : e.on < m := by
              have := (List.getElem?_eq_some_iff.1 hoe).1
              omega
            have := hmid.val e.on oe d hoe hd (by rw [hext listed e.on hem]; exact hal e (by simpa using he) hb)
            rwa [Array.getD_eq_getD_getElem?] at this) hstep
        have hc' := count_set h0
        rw [Nat.zero_add] at hres
        have hnext : ∀ v w', (Vs.getD i (fun _ _ => True)) v w' → R w w' → J ((listed.extract 0 m).setIfInBounds i true) w' → wpAny P .any ops.toArray Q fuel (listed.setIfInBounds i true) (a.put o.dst v) w' := fun v w' hv hg hj =>
          ih _ _ _ (by simpa using hs) (by omega) (shut_set hshut ho' hal) (fun j hj hj' => by rw [getD_set_ne true (by omega : i ≠ j)]; exact hno j hj hj')
            (by rw [hexts listed i him]; exact mid_stepJ hR hRt hst hmid hot rfl hv hg hj)
        unfold wpOp
        simp only [ho]
        rw [wantedE_eq]
        have hw : wantedE ops o a = true := by simp [wantedE, hnog o (List.mem_of_getElem? hot)]
        rw [if_pos hw]
        exact .inl (hres _ hnext)

/-- THE RULE. -/
theorem wp_region_relyJ {id : Nat} (m : Nat) (Vs : List VP) (R : World → World → Prop) (J : Array Bool → World → Prop) (hm : P.follows .mixedOrders = true) (hB : tailB ops m a₀.tmps.size = true) (hml : m ≤ ops.length) (hng : ((ops.take m).all fun o => o.guard.isNone) = true)
    (hG : ∀ w w', Gr w w' → R w w') (hRt : ∀ a b c, R a b → R b c → R a c) (hJ0 : ∀ w, Gr w₀ w → J (Array.replicate (ops.take m).length false) w) (hst : StableR R Vs)
    (hsteps : stepsJ R J P (ops.take m) Vs a₀ w₀ Q (ops.take m) Vs 0) (hfin : ∀ w, R w₀ w → J (Array.replicate (ops.take m).length true) w → finAll (fun a w => wpList P ops.toArray Q (ops.drop m) a w) w (ops.take m) Vs a₀) : (Code.region id ops.toArray true).wp P Q a₀ w₀ := by
  have hnog : ∀ o ∈ ops.take m, o.guard = none := fun o ho => by
    have := List.all_eq_true.1 hng o ho
    cases hg : o.guard with
    | none => rfl
    | some x => rw [hg] at this; cases this
  refine wp_region_any hm ?_
  have hlen : (ops.take m).length = m := by rw [List.length_take]; omega
  have he : (Array.replicate ops.length false).extract 0 m = Array.replicate (ops.take m).length false := by
    apply Array.ext_getElem?
    intro i
    simp only [Array.getElem?_extract, Array.size_replicate, Array.getElem?_replicate, Nat.zero_add, Nat.sub_zero, hlen]
    by_cases h : i < m
    · simp [h, show i < min m ops.length by omega, show i < ops.length by omega]
    · simp [h, show ¬ i < min m ops.length by omega]
  have := wpAny_mid_tailJ (Q := Q) hnog hB hml hRt hst hsteps (fun listed a w hmid hall => mid_finJ (tailB_spec hB).1 hmid hall (hfin w hmid.grown (by
    have e : listed = Array.replicate (ops.take m).length true := by
      apply Array.ext
      · rw [Array.size_replicate]; exact hmid.sz
      · intro i h1 h2
        have h3 := hall i (by rw [Array.size_replicate] at h2; exact h2)
        rw [Array.getElem_replicate]
        simpa [h1] using h3
    rw [← e]
    exact hmid.st))) ops.length (Array.replicate ops.length false) a₀ { w₀ with drawn := w₀.drawn + 1 } (by simp) (by simp)
    (fun i o hi hl => by
      have : i < ops.length := (List.getElem?_eq_some_iff.1 hi).1
      simp [this] at hl)
    (fun i _ hi => by simp [hi]) (by rw [he]; exact mid_startJ (fun w h => hG _ _ h) hJ0 _ _)
  simpa using this
end
end Go.Proofs.Ytbapmokbkjmdcaa
