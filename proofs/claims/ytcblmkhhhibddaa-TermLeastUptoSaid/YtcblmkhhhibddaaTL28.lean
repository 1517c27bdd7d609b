/-
  term.general: what its loop keeps.
  A drawn region in two halves: the second waits for all of the first.
-/
import Derived.Test.YtcblmkhhhibddaaTL27
import Derived.Test.YtcblmkhhhibddaaTL21
namespace Go.Proofs.Ytcblmkhhhibddaa
open Go.RowKit Go.Maps Go.Lib

mutual
theorem gen_len : ∀ (a b : T) (E : List (T × T)), (T.gen a b E).2.length ≤ E.length + T.sz a
  | .mk k n s l, b, E => by
    rw [T.gen, T.sz]
    split
    · have := genL_len l b.l E
      show (T.genL l b.l E).2.length ≤ _
      omega
    · split
      · show E.length ≤ _
        omega
      · show List.length (if _ then E else E ++ [_]) ≤ _
        split
        · omega
        · rw [List.length_append, List.length_singleton]; omega
theorem genL_len : ∀ (l m : List T) (E : List (T × T)), (T.genL l m E).2.length ≤ E.length + T.szL l
  | [], m, E => by
    rw [T.genL]
    · show E.length ≤ _
      omega
    · intro _ _ _ _ h; cases h
  | x :: xs, [], E => by
    rw [T.genL]
    · show E.length ≤ _
      omega
    · intro _ _ _ _ _ h; cases h
  | x :: xs, y :: ys, E => by
    have h1 := gen_len x y E
    have h2 := genL_len xs ys (T.gen x y E).2
    rw [T.genL, T.szL]
    show (T.genL xs ys (T.gen x y E).2).2.length ≤ _
    omega
end
theorem genL_step (l l' : List Tm) (k : Nat) (h : k < l.length) (h' : k < l'.length) (E : List (T × T)) : T.genL (Tm.eraseL (l.drop k)) (Tm.eraseL (l'.drop k)) E =
    ((T.gen l[k].erase l'[k].erase E).1 :: (T.genL (Tm.eraseL (l.drop (k + 1))) (Tm.eraseL (l'.drop (k + 1))) (T.gen l[k].erase l'[k].erase E).2).1, (T.genL (Tm.eraseL (l.drop (k + 1))) (Tm.eraseL (l'.drop (k + 1))) (T.gen l[k].erase l'[k].erase E).2).2) := by
  rw [List.drop_eq_getElem_cons h, List.drop_eq_getElem_cons h', Tm.eraseL, Tm.eraseL, T.genL]
theorem szL_step (l : List Tm) (k : Nat) (h : k < l.length) : T.szL (Tm.eraseL (l.drop k)) = T.sz l[k].erase + T.szL (Tm.eraseL (l.drop (k + 1))) := by
  rw [List.drop_eq_getElem_cons h, Tm.eraseL, T.szL]
theorem Built.kpG {C : Nat → Prop} {w w' : World} {B : Nat} {S : Nat → Prop} {v : Value} {l : List Tm} (h : Built w B S v l) (k : Kp C w w') (hv : ∀ b, v.ownBlock = some b → ¬ C b) (hl : Tm.OnL (fun b => ¬ C b) l) : Built w' B S v l :=
  ⟨ownsRow_kpG h.1 k hv, Tm.InL_of fun x hx => kp_in (Tm.InL_mem h.2.1 x hx) (Tm.OnL_mem hl x hx) (fun _ h => h) k, h.2.2.mono fun _ hb => ⟨hb.1, Nat.lt_of_lt_of_le hb.2.1 k.size, hb.2.2⟩⟩
theorem wpList_append_termO {P : Program} {w : World} {ops : Array Oper} {rest : List Oper} {o : Oper} {a : Act} {Q : Exit → Act → World → Prop} (hgd : o.guard = none) (s y : Operand)
    (ho : o.op = .call { callee := .builtin .append, args := #[s, y], argTypes := #[23, 23] }) (hP : P = Try.prog)
    (B : Nat) (S : Nat → Prop) (v : Value) (l : List Tm) (x : Tm) (b c : Nat) (hs : a.eval s = v) (hy : a.eval y = .slice (some ⟨b, 0, none⟩) 1 c) (h : Built w B S v l) (hB : B ≤ w.heap.size)
    (hx : x.In w) (hxo : x.On fun b => (S b ∨ B ≤ b) ∧ v.ownBlock ≠ some b) (hl : (l.length + 1) * 56 ≤ 140737488351232)
    (hX : Blk4 w b (.int .i64 x.k) (.int .i64 x.n) (.string x.s) (.slice x.p x.l.length x.c))
    (hK : ∀ v' w', Built w' B S v' (l ++ [x]) → w.grownBy w' v.ownBlock → (v'.ownBlock = v.ownBlock ∨ v'.ownBlock = some w.heap.size) → wpList P ops Q rest (a.put o.dst v') w') : wpList P ops Q (o :: rest) a w := by
  subst hP
  obtain ⟨⟨c0, c1, c2, c3⟩, _, _⟩ := hX.parts
  obtain ⟨i0, hi, hz0, hz1, hz2⟩ := info_parts infoTerm
  obtain ⟨v', w', hr, h2, h3, h4⟩ := run_append_own_fresh (P := Try.prog) w B 23 o.type 25 i0 _ 4 56 Try.underlying23 hi hz0 hz1 hz2 rfl (by decide) v l.length (l.flatMap Tm.cells) h.1
    ⟨b, 0, none⟩ 1 c x.cells rfl (by
      intro j u hu
      match j, hu with
      | 0, hu => cases hu; exact c0
      | 1, hu => cases hu; exact c1
      | 2, hu => cases hu; exact c2
      | 3, hu => cases hu; exact c3
      | j + 4, hu => simp [Tm.cells] at hu) (by
      intro u hu
      simp only [Tm.cells, List.mem_cons, List.mem_nil_iff, or_false] at hu
      rcases hu with rfl | rfl | rfl | rfl <;> rfl) (by simp only [maxLen]; omega) (by omega) hB (by omega)
  refine wpList_plain hgd fun K hK' => ?_
  unfold Oper.wp execOp
  simp only [ho, resolve, invoke, builtin, Sem.run_bind, Sem.run_pure, Result.andThen_ok, List.map_toArray, List.map_cons, List.map_nil, hs, hy, hr]
  exact hK' _ _ (hK v' w' (h.snoc hx hxo h2 h3 h4) h3 h4)

/-- What the loop of term.general keeps: the first k parts are made; the pairs that were met. -/
structure GenJ (S : Nat → Prop) (P : Nat) (v0 : Value) (l0 : List Pr) (B : Nat) (la lb : List Tm) (k : Nat) (v : Value) (cm : List Tm) (vi : Value) (li : List Pr) (wi : World) : Prop where
  row : Built wi B (fun _ => False) v cm
  off : ∀ b, v.ownBlock = some b → vi.ownBlock ≠ some b
  on : Tm.OnL (fun b => vi.ownBlock ≠ some b) cm
  st : PSt S P vi li wi
  own : ∀ b, vi.ownBlock = some b → v0.ownBlock = some b ∨ B ≤ b
  cnt : cm.length = k
  one : Tm.eraseL cm ++ (T.genL (Tm.eraseL (la.drop k)) (Tm.eraseL (lb.drop k)) (seePrs li)).1 = (T.genL (Tm.eraseL la) (Tm.eraseL lb) (seePrs l0)).1
  two : (T.genL (Tm.eraseL (la.drop k)) (Tm.eraseL (lb.drop k)) (seePrs li)).2 = (T.genL (Tm.eraseL la) (Tm.eraseL lb) (seePrs l0)).2
  few : li.length + T.szL (Tm.eraseL (la.drop k)) ≤ 1048576
/-- What may have turned since. -/
def PMutB (P : Nat) (v : Value) (B : Nat) (b : Nat) : Prop := PMut P v b ∨ B ≤ b
section
variable {S : Nat → Prop} {P : Nat} {v0 : Value} {l0 : List Pr} {B : Nat} {la lb : List Tm} {k : Nat} {v : Value} {cm : List Tm} {vi : Value} {li : List Pr} {wi : World}
theorem GenJ.gr {w' : World} (h : GenJ S P v0 l0 B la lb k v cm vi li wi) (g : Gr wi w') : GenJ S P v0 l0 B la lb k v cm vi li w' :=
  ⟨h.row.gr g, h.off, h.on, h.st.gr g, h.own, h.cnt, h.one, h.two, h.few⟩
theorem GenJ.start {w : World} (h : PSt S P v0 l0 w) (hl : l0.length + T.szL (Tm.eraseL la) ≤ 1048576) : GenJ S P v0 l0 B la lb 0 (.slice none 0 0) [] v0 l0 w :=
  ⟨Built.nil w B _, (fun _ h => nomatch h), by rw [Tm.OnL]; trivial, h, fun _ hb => .inl hb, rfl, by rw [Tm.eraseL]; rfl, rfl, hl⟩
/-- The state when the call of one pair of parts is over: the row of parts made so far stands. -/
theorem GenJ.called {x y g : Tm} {v' : Value} {l' : List Pr} {w' : World} (h : GenJ S P v0 l0 B la lb k v cm vi li wi) (hPB : P < B) (hB : B ≤ wi.heap.size) (hk : k < la.length) (hk' : k < lb.length) (hx : la[k] = x) (hy : lb[k] = y)
    (ge : g.erase = (T.gen x.erase y.erase (seePrs li)).1) (le : seePrs l' = (T.gen x.erase y.erase (seePrs li)).2) (_ : PSt S P v' l' w') (kp : Kp (PMut P vi) wi w') (on : g.On (fun b => wi.heap.size ≤ b ∧ v'.ownBlock ≠ some b))
    (ow : ∀ b, v'.ownBlock = some b → vi.ownBlock = some b ∨ wi.heap.size ≤ b) :
    Built w' B (fun _ => False) v cm ∧ (∀ b, v.ownBlock = some b → v'.ownBlock ≠ some b ∧ B ≤ b ∧ b < wi.heap.size) ∧ Tm.OnL (fun b => v'.ownBlock ≠ some b) (cm ++ [g]) ∧ (∀ b, v'.ownBlock = some b → v0.ownBlock = some b ∨ B ≤ b) ∧
      Tm.eraseL (cm ++ [g]) ++ (T.genL (Tm.eraseL (la.drop (k + 1))) (Tm.eraseL (lb.drop (k + 1))) (seePrs l')).1 = (T.genL (Tm.eraseL la) (Tm.eraseL lb) (seePrs l0)).1 ∧
      (T.genL (Tm.eraseL (la.drop (k + 1))) (Tm.eraseL (lb.drop (k + 1))) (seePrs l')).2 = (T.genL (Tm.eraseL la) (Tm.eraseL lb) (seePrs l0)).2 ∧ l'.length + T.szL (Tm.eraseL (la.drop (k + 1))) ≤ 1048576 ∧ Kp (PMutB P v0 B) wi w' := by
  have hstep := genL_step la lb k hk hk' (seePrs li)
  have hone := h.one
  have htwo := h.two
  rw [hx, hy] at hstep
  rw [hstep] at hone htwo
  have hv : ∀ b, v.ownBlock = some b → B ≤ b ∧ b < wi.heap.size := fun b hb => h.row.1.lt b hb
  have hoff : ∀ b, b < wi.heap.size → vi.ownBlock ≠ some b → v'.ownBlock ≠ some b := fun b hb hn e => by
    rcases ow b e with h1 | h1
    · exact hn h1
    · omega
  refine ⟨h.row.kpG kp (fun b hb hc => ?_) ((Tm.OnL.and h.row.2.2 h.on).mono fun b hb hc => ?_), fun b hb => ⟨hoff b (hv b hb).2 (h.off b hb), hv b hb⟩, Tm.OnL_of fun z hz => ?_, fun b hb => ?_, ?_, ?_, ?_, kp.mono fun b hb => ?_⟩
  · have := hv b hb
    rcases hc with hc | hc
    · omega
    · exact h.off b hb hc
  · rcases hc with hc | hc
    · have := hb.1.1
      rcases this with h1 | h1
      · exact h1
      · omega
    · exact hb.2 hc
  · rcases List.mem_append.1 hz with hz | hz
    · exact (Tm.On.and (Tm.OnL_mem h.row.2.2 z hz) (Tm.OnL_mem h.on z hz)).mono fun b hb => hoff b hb.1.2.1 hb.2
    · rw [List.mem_singleton] at hz
      rw [hz]
      exact on.mono fun b hb => hb.2
  · rcases ow b hb with h1 | h1
    · exact h.own b h1
    · exact .inr (by omega)
  · rw [eraseL_append, le, List.append_assoc, Tm.eraseL, Tm.eraseL, ge]
    exact hone
  · rw [le]
    exact htwo
  · have h1 := gen_len x.erase y.erase (seePrs li)
    have h2 := szL_step la k hk
    have h3 := h.few
    rw [hx] at h2
    have h4 : (seePrs l').length = l'.length := List.length_map ..
    have h5 : (seePrs li).length = li.length := List.length_map ..
    rw [le] at h4
    omega
  · rcases hb with hb | hb
    · exact .inl (.inl hb)
    · rcases h.own b hb with h1 | h1
      · exact .inl (.inr h1)
      · exact .inr h1
/-- The state when the part has been put behind the others. -/
theorem GenJ.next {g : Tm} {v' v2 : Value} {l' : List Pr} {w1 w2 : World} (hPB : P < B) (_ : B ≤ w1.heap.size) (st : PSt S P v' l' w1) (hrow : Built w2 B (fun _ => False) v2 (cm ++ [g])) (hg : w1.grownBy w2 v.ownBlock)
    (ho : v2.ownBlock = v.ownBlock ∨ v2.ownBlock = some w1.heap.size) (hlen : cm.length = k) (hv : ∀ b, v.ownBlock = some b → v'.ownBlock ≠ some b ∧ B ≤ b ∧ b < wi.heap.size) (hon : Tm.OnL (fun b => v'.ownBlock ≠ some b) (cm ++ [g])) (how : ∀ b, v'.ownBlock = some b → v0.ownBlock = some b ∨ B ≤ b)
    (h1 : Tm.eraseL (cm ++ [g]) ++ (T.genL (Tm.eraseL (la.drop (k + 1))) (Tm.eraseL (lb.drop (k + 1))) (seePrs l')).1 = (T.genL (Tm.eraseL la) (Tm.eraseL lb) (seePrs l0)).1)
    (h2 : (T.genL (Tm.eraseL (la.drop (k + 1))) (Tm.eraseL (lb.drop (k + 1))) (seePrs l')).2 = (T.genL (Tm.eraseL la) (Tm.eraseL lb) (seePrs l0)).2) (h3 : l'.length + T.szL (Tm.eraseL (la.drop (k + 1))) ≤ 1048576) :
    GenJ S P v0 l0 B la lb (k + 1) v2 (cm ++ [g]) v' l' w2 ∧ Kp (PMutB P v0 B) w1 w2 := by
  have kp : Kp (fun b => v.ownBlock = some b) w1 w2 := ⟨hg.os, hg.tape, hg.output, hg.size, fun i hi hc => hg.block i hi (Ne.symm hc)⟩
  have hS := st.low
  refine ⟨⟨hrow, fun b hb => ?_, hon, st.kp kp (fun hc => ?_) (fun b hb hc => (hv b hc).1 hb) (fun b hb hc => ?_), how, by rw [List.length_append, hlen]; rfl, h1, h2, h3⟩, kp.mono fun b hb => .inr (hv b hb).2.1⟩
  · rcases ho with ho | ho
    · exact (hv b (ho ▸ hb)).1
    · rw [ho] at hb
      cases hb
      intro e
      have := st.row.lt _ e
      omega
  · have := hv P hc
    omega
  · have := hv b hc
    have := hS b hb
    omega
end
end Go.Proofs.Ytcblmkhhhibddaa

namespace Go.Proofs.Ytcblmkhhhibddaa
open Go.RowKit

/-- What is asked of the text: m operations first, then those that wait for all of these. -/
def splitB (ops : List Oper) (m n : Nat) : Bool :=
  relyB (ops.take m) n &&
  (ops.zipIdx.all fun (o, i) => o.after.all fun e => !Region.binds .any e || decide (e.on < i)) &&
  (ops.zipIdx.all fun (o, i) => match o.guard with | none => true | some (j, _) => decide (j < i)) &&
  (List.range ops.length).all fun j => decide (j < m) || (List.range m).all fun i => (anc ops (j + 1) j).contains i
/-- The second half. -/
def RestAny (P : Program) (ops : List Oper) (Q : Exit → Act → World → Prop) (m : Nat) (a : Act) (w : World) : Prop :=
  ∀ (fuel : Nat) (listed : Array Bool), listed.size = ops.length → listed.count false ≤ fuel → (∀ i, i < m → i < ops.length → listed.getD i false = true) → (∀ i, m ≤ i → i < ops.length → listed.getD i true = false) → wpAny P .any ops.toArray Q fuel listed a w

section
variable {P : Program} {ops : List Oper} {Vs : List VP} {a₀ : Act} {w₀ : World} {Q : Exit → Act → World → Prop} {m : Nat}
theorem splitB_spec {n : Nat} (h : splitB ops m n = true) : relyB (ops.take m) n = true ∧ (∀ i o, ops[i]? = some o → ∀ e ∈ o.after, Region.binds .any e = true → e.on < i) ∧
    (∀ j, j < ops.length → m ≤ j → ∀ i, i < m → i ∈ anc ops (j + 1) j) ∧ (∀ (i : Nat) (o : Oper) (j : Nat) (want : Bool), ops[i]? = some o → o.guard = some (j, want) → j < i) := by
  simp only [splitB, Bool.and_eq_true, List.all_eq_true, List.mem_range, Bool.or_eq_true, decide_eq_true_eq] at h
  obtain ⟨⟨⟨h1, h2⟩, h4⟩, h3⟩ := h
  refine ⟨h1, fun i o hi e he hb => ?_, fun j hj hm i hi => ?_, fun i o j want hi hg => ?_⟩
  · have h5 := h2 (o, i) (by rw [List.mem_zipIdx_iff_getElem?]; exact hi)
    have h6 := Array.all_eq_true_iff_forall_mem.1 h5 e he
    simpa [hb] using h6
  · rcases h3 j hj with h5 | h5
    · omega
    · simpa using h5 i hi
  · have h5 := h4 (o, i) (by rw [List.mem_zipIdx_iff_getElem?]; exact hi)
    simpa [hg] using h5

theorem wpAny_mid_split (hB : splitB ops m a₀.tmps.size = true) (hm : m ≤ ops.length) (hst : Stable Vs) (hsteps : stepsFrom P (ops.take m) Vs a₀ w₀ Q (ops.take m) Vs)
    (hfin : ∀ listed a w, Mid (ops.take m) Vs a₀ w₀ listed a w → (∀ i, i < (ops.take m).length → listed.getD i false = true) → RestAny P ops Q m a w) :
    ∀ (fuel : Nat) (listed : Array Bool) (a : Act) (w : World), listed.size = ops.length → listed.count false ≤ fuel → Shut ops listed → (∀ i, m ≤ i → i < ops.length → listed.getD i true = false) →
      Mid (ops.take m) Vs a₀ w₀ (listed.extract 0 m) a w → wpAny P .any ops.toArray Q fuel listed a w := by
  obtain ⟨hR, hlt, hanc, hgrd⟩ := splitB_spec hB
  have hlen : (ops.take m).length = m := by rw [List.length_take]; omega
  have hext : ∀ (listed : Array Bool) (i : Nat), i < m → ∀ d, (listed.extract 0 m).getD i d = listed.getD i d := by
    intro listed i hi d
    simp only [Array.getD_eq_getD_getElem?, Array.getElem?_extract]
    by_cases h : i < listed.size
    · rw [if_pos (by omega)]; simp
    · rw [if_neg (by omega)]; simp [Array.getElem?_eq_none (Nat.le_of_not_lt h)]
  have hexts : ∀ (listed : Array Bool) (i : Nat), i < m → (listed.setIfInBounds i true).extract 0 m = (listed.extract 0 m).setIfInBounds i true := by
    intro listed i hi
    apply Array.ext_getElem?
    intro j
    simp only [Array.getElem?_extract, Array.getElem?_setIfInBounds, Array.size_setIfInBounds, Array.size_extract, Nat.sub_zero, Nat.zero_add]
    by_cases hj : j < m ∧ j < listed.size
    · by_cases e : i = j
      · subst e
        simp [hj]
      · have : j < min m listed.size := by omega
        simp [this, e]
    · have : ¬ j < min m listed.size := by omega
      by_cases e : i = j
      · subst e
        simp [this]
      · simp [this, e]
  intro fuel
  induction fuel with
  | zero =>
    intro listed a w hs hc hshut hno hmid
    by_cases hall : ∀ i, i < m → listed.getD i false = true
    · exact hfin _ a w hmid (fun i hi => by rw [hext listed i (by omega)]; exact hall i (by omega)) 0 listed hs hc (fun i hi _ => hall i hi) hno
    · exfalso
      apply hall
      intro i hi
      have hi' : i < listed.size := by omega
      by_cases h : listed.getD i false = true
      · exact h
      · have h5 : listed.getD i true = false := by simpa [hi'] using h
        have := count_set h5
        omega
  | succ fuel ih =>
    intro listed a w hs hc hshut hno hmid
    by_cases hall : ∀ i, i < m → listed.getD i false = true
    · exact hfin _ a w hmid (fun i hi => by rw [hext listed i (by omega)]; exact hall i (by omega)) (fuel + 1) listed hs hc (fun i hi _ => hall i hi) hno
    · have hpre : ∀ i ∈ Region.ready .any ops.toArray listed, i < m := by
        intro i hi
        rcases Nat.lt_or_ge i m with h | h
        · exact h
        · exfalso
          obtain ⟨h0, o, ho, hal⟩ := mem_ready.1 hi
          have ho' : ops[i]? = some o := by simpa using ho
          have hil := (List.getElem?_eq_some_iff.1 ho').1
          exact hall fun j hj => anc_listed hshut (i + 1) i o ho' hal j (hanc i hil h j hj)
      refine ⟨fun hr => ?_, fun i hi => ?_⟩
      · exfalso
        apply hall
        intro i
        induction i using Nat.strongRecOn with
        | _ i ihi =>
          intro hi
          by_cases h : listed.getD i false = true
          · exact h
          · have hi' : i < listed.size := by omega
            have hmem : i ∈ Region.ready .any ops.toArray listed := by
              rw [mem_ready]
              refine ⟨by simpa [hi'] using h, ops[i], by simp [show i < ops.length by omega], fun e he hb => ?_⟩
              have := hlt i ops[i] (by simp) e he hb
              exact ihi e.on this (by omega)
            rw [hr] at hmem
            cases hmem
      · have him := hpre i hi
        obtain ⟨h0, o, ho, hal⟩ := mem_ready.1 hi
        have ho' : ops[i]? = some o := by simpa using ho
        have hot : (ops.take m)[i]? = some o := by rw [List.getElem?_take, if_pos him]; exact ho'
        have hstep := stepsFrom_at hsteps hot a w hmid.grown (fun t ht => by
          have h1 := hmid.old t (fun j oj hj hd => by
            have := mem_dsts hj hd
            rw [List.contains_eq_mem, decide_eq_false_iff_not] at ht
            exact absurd this ht)
          simp only [h1])
        have hres := predsImp_elim (fun e he hb d hd => by
          unfold dstAt at hd
          cases hoe : (ops.take m)[e.on]? with
          | none => simp [hoe] at hd
          | some oe =>
            simp only [hoe, Option.bind_some] at hd
            have hem : e.on < m := by
              have := (List.getElem?_eq_some_iff.1 hoe).1
              omega
            have := hmid.val e.on oe d hoe hd (by rw [hext listed e.on hem]; exact hal e (by simpa using he) hb)
            rwa [Array.getD_eq_getD_getElem?] at this) hstep
        have hc' := count_set h0
        have hwant : wantedE (ops.take m) o a = wantedE ops o a := by
          unfold wantedE
          cases hg : o.guard with
          | none => rfl
          | some gw =>
            obtain ⟨j, want⟩ := gw
            have hj := hgrd i o j want ho' hg
            have : dstAt (ops.take m) j = dstAt ops j := by unfold dstAt; rw [List.getElem?_take, if_pos (by omega)]
            simp only [this]
        have hres : if wantedE ops o a then (∀ K : Act → World → Prop, (∀ v w', (Vs.getD i (fun _ _ => True)) v w' → Gr w w' → K (a.put o.dst v) w') → o.wp P a w K Q) else (Vs.getD i (fun _ _ => True)) undef w := by
          rw [← hwant]
          cases hgd : o.guard with
          | none =>
            have : wantedE (ops.take m) o a = true := by simp [wantedE, hgd]
            rw [if_pos this]
            simpa only [hgd] using hres
          | some gw => simpa only [hgd] using hres
        have hnext : ∀ v w', (Vs.getD i (fun _ _ => True)) v w' → Gr w w' → wpAny P .any ops.toArray Q fuel (listed.setIfInBounds i true) (a.put o.dst v) w' := fun v w' hv hg =>
          ih _ _ _ (by simpa using hs) (by omega) (shut_set hshut ho' hal) (fun j hj hj' => by rw [getD_set_ne true (by omega : i ≠ j)]; exact hno j hj hj')
            (by rw [hexts listed i him]; exact mid_step hR hst hmid hot rfl hv hg)
        unfold wpOp
        simp only [ho]
        rw [wantedE_eq]
        by_cases hw : wantedE ops o a = true
        · rw [if_pos hw]
          rw [if_pos hw] at hres
          exact .inl (hres _ fun v w' hv hg => hnext v w' hv hg)
        · rw [if_neg hw]
          rw [if_neg hw] at hres
          exact hnext _ _ hres (Gr.rfl' _)

/-- THE RULE, FIRST HALF: the first m operations in whatever order; those behind them wait for all of these. -/
theorem wp_region_split {id : Nat} (m : Nat) (Vs : List VP) (hm : P.follows .mixedOrders = true) (hB : splitB ops m a₀.tmps.size = true) (hml : m ≤ ops.length) (hst : Stable Vs)
    (hsteps : stepsFrom P (ops.take m) Vs a₀ w₀ Q (ops.take m) Vs) (hfin : ∀ w, Gr w₀ w → finAll (fun a w => RestAny P ops Q m a w) w (ops.take m) Vs a₀) : (Code.region id ops.toArray true).wp P Q a₀ w₀ := by
  refine wp_region_any hm ?_
  have hlen : (ops.take m).length = m := by rw [List.length_take]; omega
  have he : (Array.replicate ops.length false).extract 0 m = Array.replicate (ops.take m).length false := by
    apply Array.ext_getElem?
    intro i
    simp only [Array.getElem?_extract, Array.size_replicate, Array.getElem?_replicate, Nat.zero_add, Nat.sub_zero, hlen]
    by_cases h : i < m
    · simp [h, show i < min m ops.length by omega, show i < ops.length by omega]
    · simp [h, show ¬ i < min m ops.length by omega]
  have := wpAny_mid_split (Q := Q) hB hml hst hsteps (fun listed a w hmid hall => mid_fin (splitB_spec hB).1 hmid hall (hfin w hmid.grown)) ops.length (Array.replicate ops.length false) a₀ { w₀ with drawn := w₀.drawn + 1 } (by simp) (by simp)
    (fun i o hi hl => by
      have : i < ops.length := (List.getElem?_eq_some_iff.1 hi).1
      simp [this] at hl)
    (fun i _ hi => by simp [hi]) (by rw [he]; exact mid_start _ _ _ _)
  simpa using this

theorem wpAny_midFrom (hB : relyB ops a₀.tmps.size = true) (hst : Stable Vs) (hsteps : ∀ (i : Nat) (o : Oper), m ≤ i → ops[i]? = some o → StepOK P ops Vs a₀ w₀ Q o (Vs.getD i (fun _ _ => True)))
    (hfin : ∀ listed a w, Mid ops Vs a₀ w₀ listed a w → (∀ i, i < ops.length → listed.getD i false = true) → Q .normal a w) :
    ∀ (fuel : Nat) (listed : Array Bool) (a : Act) (w : World), listed.count false ≤ fuel → (∀ i, i < m → i < ops.length → listed.getD i false = true) → Mid ops Vs a₀ w₀ listed a w → wpAny P .any ops.toArray Q fuel listed a w := by
  intro fuel
  induction fuel with
  | zero =>
    intro listed a w hc hfirst hm
    have hr : Region.ready .any ops.toArray listed = [] := by
      rw [List.eq_nil_iff_forall_not_mem]
      intro i hi
      obtain ⟨h0, _⟩ := mem_ready.1 hi
      have := count_set h0
      omega
    exact ⟨hr, hfin _ _ _ hm (all_listed hB hm.sz hr)⟩
  | succ fuel ih =>
    intro listed a w hc hfirst hm
    refine ⟨fun hr => hfin _ _ _ hm (all_listed hB hm.sz hr), fun i hi => ?_⟩
    obtain ⟨h0, o, ho, hall⟩ := mem_ready.1 hi
    have ho' : ops[i]? = some o := by simpa using ho
    have him : m ≤ i := by
      rcases Nat.lt_or_ge i m with h | h
      · have h1 := hfirst i h (List.getElem?_eq_some_iff.1 ho').1
        have hil : i < listed.size := by rw [hm.sz]; exact (List.getElem?_eq_some_iff.1 ho').1
        simp [hil] at h0 h1
        rw [h0] at h1; cases h1
      · exact h
    have hnx : ∀ k, k < m → k < ops.length → (listed.setIfInBounds i true).getD k false = true := fun k hk hk2 => by rw [getD_set_ne false (by omega : i ≠ k)]; exact hfirst k hk hk2
    have hstep := hsteps i o him ho' a w hm.grown (fun t ht => by
      have h1 := hm.old t (fun j oj hj hd => by
        have := mem_dsts hj hd
        rw [List.contains_eq_mem, decide_eq_false_iff_not] at ht
        exact absurd this ht)
      simp only [h1])
    have hres := predsImp_elim (fun e he hb d hd => by
      unfold dstAt at hd
      cases hoe : ops[e.on]? with
      | none => simp [hoe] at hd
      | some oe =>
        simp only [hoe, Option.bind_some] at hd
        have := hm.val e.on oe d hoe hd (hall e (by simpa using he) hb)
        rwa [Array.getD_eq_getD_getElem?] at this) hstep
    have hc' := count_set h0
    have hres : if wantedE ops o a then (∀ K : Act → World → Prop, (∀ v w', (Vs.getD i (fun _ _ => True)) v w' → Gr w w' → K (a.put o.dst v) w') → o.wp P a w K Q) else (Vs.getD i (fun _ _ => True)) undef w := by
      cases hgd : o.guard with
      | none =>
        have : wantedE ops o a = true := by simp [wantedE, hgd]
        rw [if_pos this]
        simpa only [hgd] using hres
      | some gw => simpa only [hgd] using hres
    unfold wpOp
    simp only [ho]
    rw [wantedE_eq]
    by_cases hw : wantedE ops o a = true
    · rw [if_pos hw]
      rw [if_pos hw] at hres
      refine .inl (hres _ fun v w' hv hg => ?_)
      exact ih _ _ _ (by omega) hnx (mid_step hB hst hm ho' rfl hv hg)
    · rw [if_neg hw]
      rw [if_neg hw] at hres
      exact ih _ _ _ (by omega) hnx (mid_step hB hst hm ho' rfl hres (Gr.rfl' _))


/-- What the first half has left, as it is to be known in the second. -/
def preAll : List Oper → List VP → Act → World → Prop
  | [], _, _, _ => True
  | o :: os, V :: Vs, a, w => (match o.dst with | some d => V (a.tmps[d]?.getD undef) w | none => False) ∧ preAll os Vs a w
  | _ :: _, [], _, _ => False
theorem preAll_at : ∀ {os : List Oper} {Vs' : List VP} {i : Nat} {o : Oper} {a : Act} {w : World}, preAll os Vs' a w → os[i]? = some o → ∃ d, o.dst = some d ∧ (Vs'.getD i (fun _ _ => True)) (a.tmps[d]?.getD undef) w
  | [], _, i, o, _, _, _, hi => by simp at hi
  | o' :: os, [], _, _, _, _, h, _ => h.elim
  | o' :: os, V :: Vs', 0, o, a, w, h, hi => by
    simp only [List.getElem?_cons_zero, Option.some.injEq] at hi
    subst hi
    have h1 := h.1
    cases hd : o'.dst with
    | none => rw [hd] at h1; exact h1.elim
    | some d => rw [hd] at h1; exact ⟨d, rfl, h1⟩
  | o' :: os, V :: Vs', i + 1, o, a, w, h, hi => by
    simp only [List.getElem?_cons_succ] at hi
    simpa using preAll_at h.2 hi
/-- THE RULE, SECOND HALF. -/
theorem rest_rely (m : Nat) (Vs : List VP) (hB : relyB ops a₀.tmps.size = true) (hst : Stable Vs) (hpre : preAll (ops.take m) Vs a₀ w₀) (hsteps : stepsFrom P ops Vs a₀ w₀ Q (ops.drop m) (Vs.drop m)) (hfin : ∀ w, Gr w₀ w → finAll (Q .normal) w ops Vs a₀) : RestAny P ops Q m a₀ w₀ := by
  intro fuel listed hs hc h1 h2
  have hlt : ∀ i o, ops[i]? = some o → i < m → (ops.take m)[i]? = some o := fun i o hi h => by rw [List.getElem?_take, if_pos h]; exact hi
  refine wpAny_midFrom (m := m) hB hst (fun i o hi ho => ?_) (fun listed a w hmid hall => mid_fin hB hmid hall (hfin w hmid.grown)) fuel listed a₀ w₀ hc h1 ⟨hs, Gr.rfl' _, rfl, rfl, fun _ _ => rfl, fun i o d hi hd hl => ?_, fun i o hi hd hl => ?_⟩
  · have h3 := stepsFrom_at (i := i - m) (o := o) hsteps (by rw [List.getElem?_drop, show m + (i - m) = i by omega]; exact ho)
    rw [show (Vs.drop m).getD (i - m) (fun _ _ => True) = Vs.getD i (fun _ _ => True) by simp only [List.getD_eq_getElem?_getD, List.getElem?_drop]; rw [show m + (i - m) = i by omega]] at h3
    exact h3
  · rcases Nat.lt_or_ge i m with h | h
    · obtain ⟨d', hd', hV⟩ := preAll_at hpre (hlt i o hi h)
      rw [hd] at hd'
      cases hd'
      rw [Array.getD_eq_getD_getElem?]
      exact hV
    · have := h2 i h (List.getElem?_eq_some_iff.1 hi).1
      have hil : i < listed.size := by rw [hs]; exact (List.getElem?_eq_some_iff.1 hi).1
      simp [hil] at this hl
      rw [this] at hl; cases hl
  · rcases Nat.lt_or_ge i m with h | h
    · obtain ⟨d', hd', hV⟩ := preAll_at hpre (hlt i o hi h)
      rw [hd] at hd'
      cases hd'
    · have := h2 i h (List.getElem?_eq_some_iff.1 hi).1
      have hil : i < listed.size := by rw [hs]; exact (List.getElem?_eq_some_iff.1 hi).1
      simp [hil] at this hl
      rw [this] at hl; cases hl
end
end Go.Proofs.Ytcblmkhhhibddaa
