/-
  A store, plain: what its variables come to; a bind more; lists of binds of a solved form.
  hornref.parts, hornref.Slim: how many parts a term has.
  The rely rule with a tail, for a region some of whose operations turn more than new memory: R is what any operation keeps; J what is known by which operations are over.
-/
import Derived.Test.YtcblmkhhhibddaaTS16
import Derived.Test.YtcblmkhhhibddaaTS15
import Derived.Test.YtcblmkhhhibddaaTS08
import Derived.Test.YtcblmkhhhibddaaTS03
namespace Go.Proofs.Ytcblmkhhhibddaa

/-- A store: what variables are bound to, and what each one comes to. -/
structure StoreOk (σ : Int → Option T) (ρ : Int → T) : Prop where
  canon : Canon ρ
  bound : ∀ n t, σ n = some t → t.formed = true ∧ (0 ≤ n ∧ n ≤ 1099511627776) ∧ ρ n = T.map ρ t ∧ ∀ m, t = varT m → m < n
  free : ∀ n, σ n = none → ρ n = varT n

theorem StoreOk.empty : StoreOk (fun _ => none) varT where
  canon := canon_var
  bound _ _ h := nomatch h
  free _ _ := rfl
theorem StoreOk.open_ {σ : Int → Option T} {ρ : Int → T} (h : StoreOk σ ρ) {n : Int} (hn : ρ n = varT n) : σ n = none := by
  cases hs : σ n with
  | none => rfl
  | some t =>
    obtain ⟨h1, _, h3, h4⟩ := h.bound n t hs
    obtain ⟨z, hz, hzn⟩ := T.map_is_var (h3.symm.trans hn) h1
    have := h4 z hz
    have := h.canon.low z n hzn
    omega
theorem StoreOk.bind {σ : Int → Option T} {ρ : Int → T} (h : StoreOk σ ρ) {x : Int} {t : T} (hx : σ x = none) (hr : 0 ≤ x ∧ x ≤ 1099511627776) (ht : t.formed = true) (hoc : ¬ T.occ x (T.map ρ t)) (hlow : ∀ m, t = varT m → m < x) :
    StoreOk (putF σ x t) (stepF ρ x (T.map ρ t)) where
  canon := h.canon.step (h.free x hx) hr (h.canon.map ht) (fun m hm => h.canon.occ_free hm) hoc fun m hm => by
    obtain ⟨z, hz, hzm⟩ := T.map_is_var hm ht
    have := hlow z hz
    have := h.canon.low z m hzm
    omega
  bound n u hu := by
    rw [putF] at hu
    by_cases hn : n = x
    · rw [if_pos hn] at hu
      cases hu
      subst hn
      refine ⟨ht, hr, ?_, hlow⟩
      rw [stepF_map, oneF_not (h.canon.map ht) hoc, stepF, h.free _ hx, T.map_var, oneF, if_pos rfl]
    · rw [if_neg hn] at hu
      obtain ⟨h1, h2, h3, h4⟩ := h.bound n u hu
      refine ⟨h1, h2, ?_, h4⟩
      rw [stepF_map, stepF, h3]
  free n hn := by
    rw [putF] at hn
    by_cases hnx : n = x
    · rw [if_pos hnx] at hn; cases hn
    · rw [if_neg hnx] at hn
      rw [stepF, h.free n hn, T.map_var, oneF, if_neg hnx]
/-! ### Lists of binds of a solved form -/
theorem lookup_none : ∀ {l : List Bd} {n : Int}, (∀ y ∈ l, y.v ≠ n) → lookupT l n = varT n
  | [], _, _ => by rw [lookupT]
  | x :: xs, n, h => by
    rw [lookupT, if_neg (h x (by simp)), lookup_none fun y hy => h y (by simp [hy])]
theorem lookup_mem : ∀ {l : List Bd} {y : Bd}, l.Pairwise (fun a b => a.v < b.v) → y ∈ l → lookupT l y.v = y.t.erase
  | x :: xs, y, hp, hy => by
    rw [List.pairwise_cons] at hp
    rw [lookupT]
    rcases List.mem_cons.1 hy with rfl | hy
    · rw [if_pos rfl]
    · have := hp.1 y hy
      rw [if_neg (by omega), lookup_mem hp.2 hy]
theorem asc_pairwise {l : List Bd} (h : ascB (-1) l = true) : l.Pairwise (fun a b => a.v < b.v) := by
  have hs := (asc_spec l (-1) h).2
  rw [List.pairwise_iff_getElem]
  intro i j hi hj hij
  exact hs i j hi hj hij
/-- The list of a solved form. -/
def ListOf (ρ : Int → T) (l : List Bd) : Prop := IsBinds (fun n => some (ρ n)) l
theorem IsBinds.lookup {f : Int → Option T} {l : List Bd} (h : IsBinds f l) (n : Int) : lookupT l n = (f n).getD (varT n) := by
  by_cases hn : ∃ y ∈ l, y.v = n
  · obtain ⟨y, hy, rfl⟩ := hn
    rw [lookup_mem (asc_pairwise h.1) hy, ((h.2.1 y.v y.t.erase).1 ⟨y, hy, rfl, rfl⟩).1]
    rfl
  · rw [lookup_none fun y hy e => hn ⟨y, hy, e⟩]
    cases hf : f n with
    | none => rfl
    | some t =>
      by_cases ht : t = varT n
      · rw [ht]; rfl
      · obtain ⟨y, hy, h1, _⟩ := (h.2.1 n t).2 ⟨hf, ht⟩
        exact absurd ⟨y, hy, h1⟩ hn
theorem IsBinds.total {f : Int → Option T} {l : List Bd} (h : IsBinds f l) : ListOf (fun n => (f n).getD (varT n)) l := by
  refine ⟨h.1, fun n t => (h.2.1 n t).trans ?_, h.2.2⟩
  show _ ↔ (some ((f n).getD (varT n)) = some t ∧ _)
  constructor
  · rintro ⟨h1, h2⟩
    exact ⟨by rw [h1]; rfl, h2⟩
  · rintro ⟨h1, h2⟩
    cases hf : f n with
    | none => rw [hf] at h1; exact absurd (Option.some.inj h1).symm h2
    | some u => rw [hf] at h1; exact ⟨h1, h2⟩
theorem ListOf.lookup {ρ : Int → T} {l : List Bd} (h : ListOf ρ l) : lookupT l = ρ := funext fun n => IsBinds.lookup h n
theorem ListOf.empty : ListOf varT [] :=
  ⟨rfl, fun _ _ => ⟨(fun ⟨_, hy, _⟩ => nomatch hy), fun ⟨h1, h2⟩ => absurd (Option.some.inj h1).symm h2⟩, (fun _ hy => nomatch hy)⟩
theorem putAll_get (g : Bd → T) (l : List Bd) (f : Int → Option T) (hp : l.Pairwise (fun a b => a.v < b.v)) {y : Bd} (hy : y ∈ l) : putAll g l f y.v = some (g y) := by
  induction l generalizing f with
  | nil => exact nomatch hy
  | cons x xs ih =>
    rw [List.pairwise_cons] at hp
    show putAll g xs (fun n => if n = x.v then some (g x) else f n) y.v = _
    rcases List.mem_cons.1 hy with rfl | hy
    · rw [putAll_none _ _ _ _ fun z hz => by have := hp.1 z hz; omega, if_pos rfl]
    · exact ih _ hp.2 hy
theorem compM_get {s u : List Bd} (hs : ascB (-1) s = true) (hu : ascB (-1) u = true) (n : Int) : (compM s u n).getD (varT n) = T.map (lookupT u) (lookupT s n) := by
  rw [compM]
  by_cases h1 : ∃ y ∈ s, y.v = n
  · obtain ⟨y, hy, rfl⟩ := h1
    rw [putAll_get _ _ _ (asc_pairwise hs) hy, lookup_mem (asc_pairwise hs) hy]
    rfl
  · rw [putAll_none _ _ _ _ fun y hy e => h1 ⟨y, hy, e⟩, lookup_none fun y hy e => h1 ⟨y, hy, e⟩, T.map_var]
    by_cases h2 : ∃ y ∈ u, y.v = n
    · obtain ⟨y, hy, rfl⟩ := h2
      rw [putAll_get _ _ _ (asc_pairwise hu) hy, lookup_mem (asc_pairwise hu) hy]
      rfl
    · rw [putAll_none _ _ _ _ fun y hy e => h2 ⟨y, hy, e⟩, lookup_none fun y hy e => h2 ⟨y, hy, e⟩]
      rfl
theorem ListOf.comp {ρ : Int → T} {s u l : List Bd} (hs : ListOf ρ s) (hu : ascB (-1) u = true) (h : IsBinds (compM s u) l) : ListOf (fun n => T.map (lookupT u) (ρ n)) l := by
  have h1 := h.total
  have h2 : (fun n => (compM s u n).getD (varT n)) = fun n => T.map (lookupT u) (ρ n) := funext fun n => by
    rw [compM_get hs.1 hu, hs.lookup]
  rw [h2] at h1
  exact h1
theorem lookup_one (x : Bd) : lookupT [x] = oneF x.v x.t.erase := funext fun n => by
  rw [lookupT, lookupT, oneF]
  by_cases h : x.v = n
  · rw [if_pos h, if_pos h.symm]
  · rw [if_neg h, if_neg fun e => h e.symm]
theorem ListOf.step {ρ : Int → T} {s l : List Bd} {x : Bd} (hs : ListOf ρ s) (hx : 0 ≤ x.v ∧ x.v ≤ 1099511627776) (h : IsBinds (compM s [x]) l) : ListOf (stepF ρ x.v x.t.erase) l := by
  have h1 := hs.comp (u := [x]) (by rw [ascB, ascB, decide_eq_true (show -1 < x.v by omega), decide_eq_true hx.2]; rfl) h
  rw [lookup_one] at h1
  exact h1
theorem ListOf.uniq {ρ : Int → T} {l l' : List Bd} (h : ListOf ρ l) (h' : ListOf ρ l') : seeBds l = seeBds l' := IsBinds.uniq h h'
/-! ### All pairs -/
/-- What is known of a store that holds these pairs. -/
def Holds (E : List (T × T)) (ρ : Int → T) : Prop := Unif ρ E ∧ ∀ θ, Unif θ E → Through θ ρ
theorem Holds.snoc {E : List (T × T)} {ρ ρ' : Int → T} (h : Holds E ρ) {a b : T} (h1 : Through ρ' ρ) (h2 : T.map ρ' a = T.map ρ' b) (h3 : ∀ θ, Through θ ρ → T.map θ a = T.map θ b → Through θ ρ') : Holds (E ++ [(a, b)]) ρ' := by
  refine ⟨fun p hp => ?_, fun θ hθ => ?_⟩
  · rcases List.mem_append.1 hp with hp | hp
    · rw [← h1.map p.1, h.1 p hp, h1.map]
    · rw [List.mem_singleton] at hp
      subst hp
      exact h2
  · exact h3 θ (h.2 θ fun p hp => hθ p (List.mem_append.2 (.inl hp))) (hθ (a, b) (List.mem_append.2 (.inr (by simp))))
theorem Rob.holds {E : List (T × T)} {r : Int → T} (hE : FormedP E) (hr : Rob varT E (.done r)) : Canon r ∧ Holds E r := by
  obtain ⟨h1, _⟩ := hr.sound canon_var hE
  obtain ⟨g1, _, g3, g4⟩ := h1 r rfl
  exact ⟨g1, g3, fun θ hθ => g4 θ (through_var θ) hθ⟩
theorem Rob.none {E : List (T × T)} (hE : FormedP E) (hr : Rob varT E .clash) : ∀ θ, ¬ Unif θ E := fun θ => (hr.sound canon_var hE).2 rfl θ (through_var θ)
end Go.Proofs.Ytcblmkhhhibddaa

namespace Go.Proofs.Ytcblmkhhhibddaa
open Go.RowKit Go.Lib

theorem kp_in {t : Tm} {S C : Nat → Prop} {w w' : World} (hin : t.In w) (hon : t.On S) (hS : ∀ b, S b → ¬ C b) (hk : Kp C w w') : t.In w' :=
  in_after' hin hon fun b h1 h2 _ => World.cell?_of_block (hk.block b h2 (hS b h1))

end Go.Proofs.Ytcblmkhhhibddaa

namespace Go.Proofs.Ytcblmkhhhibddaa
open Go.RowKit

def StableR (R : World → World → Prop) (Vs : List VP) : Prop := ∀ V ∈ Vs, ∀ v w w', V v w → R w w' → V v w'
section
variable {R : World → World → Prop}
theorem StableR.nil : StableR R [] := fun _ h => by cases h
theorem StableR.fix {c : Value} {Vs : List VP} (h : StableR R Vs) : StableR R (fx c :: Vs) := fun V hV => by
  rcases List.mem_cons.1 hV with rfl | hV
  · exact fun _ _ _ h _ => h
  · exact h V hV
theorem StableR.cons {W : VP} {Vs : List VP} (hW : ∀ v w w', W v w → R w w' → W v w') (h : StableR R Vs) : StableR R (W :: Vs) := fun V hV => by
  rcases List.mem_cons.1 hV with rfl | hV
  · exact hW
  · exact h V hV
end

section
variable {P : Program} {ops : List Oper} {Vs : List VP} {a₀ : Act} {w₀ : World} {Q : Exit → Act → World → Prop} {R : World → World → Prop} {J : Array Bool → World → Prop} {m : Nat}

/-- The state in the middle of the region. -/
structure MidJ (R : World → World → Prop) (J : Array Bool → World → Prop) (ops : List Oper) (Vs : List VP) (a₀ : Act) (w₀ : World) (listed : Array Bool) (a : Act) (w : World) : Prop where
  sz : listed.size = ops.length
  grown : R w₀ w
  st : J listed w
  defers : a.defers = a₀.defers
  size : a.tmps.size = a₀.tmps.size
  old : ∀ t, (∀ i o, ops[i]? = some o → o.dst = some t → listed.getD i false = false) → a.tmps[t]? = a₀.tmps[t]?
  val : ∀ i o d, ops[i]? = some o → o.dst = some d → listed.getD i false = true → (Vs.getD i (fun _ _ => True)) (a.tmps.getD d undef) w
  bare : ∀ i o, ops[i]? = some o → o.dst = none → listed.getD i false = true → ∃ v, (Vs.getD i (fun _ _ => True)) v w

theorem mid_stepJ (hB : relyB ops a₀.tmps.size = true) (hRt : ∀ a b c, R a b → R b c → R a c) (hst : StableR R Vs) {listed : Array Bool} {a a' : Act} {w w' : World} {i : Nat} {o : Oper} {v : Value}
    (hm : MidJ R J ops Vs a₀ w₀ listed a w) (hi : ops[i]? = some o) (ha : a' = a.put o.dst v) (hv : (Vs.getD i (fun _ _ => True)) v w') (hg : R w w') (hj : J (listed.setIfInBounds i true) w') :
    MidJ R J ops Vs a₀ w₀ (listed.setIfInBounds i true) a' w' := by
  obtain ⟨hn, hlt, _, _⟩ := relyB_spec hB
  have hil : i < listed.size := by rw [hm.sz]; exact (List.getElem?_eq_some_iff.1 hi).1
  have hstab : ∀ j v, (Vs.getD j (fun _ _ => True)) v w → (Vs.getD j (fun _ _ => True)) v w' := by
    intro j v h
    by_cases hj : j < Vs.length
    · have e : Vs.getD j (fun _ _ => True) = Vs[j] := by simp [List.getD, hj]
      rw [e] at h ⊢
      exact hst _ (List.getElem_mem hj) _ _ _ h hg
    · have e : Vs.getD j (fun _ _ => True) = (fun _ _ => True) := by simp [List.getD, List.getElem?_eq_none (Nat.le_of_not_lt hj)]
      rw [e]
      trivial
  subst ha
  refine ⟨by simpa using hm.sz, hRt _ _ _ hm.grown hg, hj, ?_, ?_, fun t ht => ?_, fun j oj d hj hd hl => ?_, fun j oj hj hd hl => ?_⟩
  · rw [← hm.defers]; unfold Act.put; split <;> rfl
  · rw [← hm.size]; unfold Act.put; split <;> simp
  · have h1 : o.dst ≠ some t := fun e => by
      have := ht i o hi e
      simp [hil] at this
    have h2 := hm.old t (fun j oj hj hd => by
      have := ht j oj hj hd
      by_cases hji : i = j
      · subst hji
        rw [hi] at hj
        cases hj
        exact absurd hd h1
      · rwa [getD_set_ne false hji] at this)
    rw [← h2]
    unfold Act.put
    split
    · rename_i d hd
      have hne : d ≠ t := fun e => h1 (by rw [hd, e])
      simp [Array.getElem?_setIfInBounds_ne hne]
    · rfl
  · by_cases hji : i = j
    · subst hji
      rw [hi] at hj
      cases hj
      have hdl : d < a.tmps.size := by rw [hm.size]; exact hlt d (mem_dsts hi hd)
      have e : (a.put o.dst v).tmps.getD d undef = v := by simp [Act.put, hd, hdl]
      rw [e]
      exact hv
    · rw [getD_set_ne false hji] at hl
      have h2 := hstab _ _ (hm.val j oj d hj hd hl)
      have e : (a.put o.dst v).tmps.getD d undef = a.tmps.getD d undef := by
        unfold Act.put
        split
        · rename_i d' hd'
          have hne : d' ≠ d := fun e => hji (dst_inj hn hi hj hd' (by rw [hd, e]))
          simp [Array.getElem?_setIfInBounds_ne hne]
        · rfl
      rw [e]
      exact h2
  · by_cases hji : i = j
    · subst hji
      exact ⟨v, hv⟩
    · rw [getD_set_ne false hji] at hl
      obtain ⟨u, hu⟩ := hm.bare j oj hj hd hl
      exact ⟨u, hstab _ _ hu⟩

theorem mid_finJ (hB : relyB ops a₀.tmps.size = true) {K : Act → World → Prop} {listed : Array Bool} {a : Act} {w : World} (hmid : MidJ R J ops Vs a₀ w₀ listed a w) (hall : ∀ i, i < ops.length → listed.getD i false = true)
    (hfin : finAll K w ops Vs a₀) : K a w := by
  obtain ⟨hn, hlt, _, _⟩ := relyB_spec hB
  have hf := finAll_elim (os := ops) (Vs' := Vs) (b := a₀) (f := fun i => match dstAt ops i with | some d => a.tmps.getD d undef | none => Classical.epsilon fun v => (Vs.getD i (fun _ _ => True)) v w) (k := 0) (K := K) (w := w) ?_ hfin
  · have e : (ops.zipIdx 0 |>.foldl (fun a' x => a'.put x.1.dst (match dstAt ops x.2 with | some d => a.tmps.getD d undef | none => Classical.epsilon fun v => (Vs.getD x.2 (fun _ _ => True)) v w)) a₀) = a := by
      have hT : (ops.zipIdx 0 |>.foldl (fun a' x => a'.put x.1.dst (match dstAt ops x.2 with | some d => a.tmps.getD d undef | none => Classical.epsilon fun v => (Vs.getD x.2 (fun _ _ => True)) v w)) a₀).tmps = a.tmps := by
        apply Array.ext_getElem?
        intro t
        obtain ⟨h1, h2⟩ := fold_tmps (f := fun i => match dstAt ops i with | some d => a.tmps.getD d undef | none => Classical.epsilon fun v => (Vs.getD i (fun _ _ => True)) v w) (os := ops) (b := a₀) (k := 0) t hn hlt
        by_cases hex : ∃ (i : Nat) (o : Oper), ops[i]? = some o ∧ o.dst = some t
        · obtain ⟨i, o, hi, hd⟩ := hex
          rw [h1 i o hi hd]
          have hts : t < a.tmps.size := by rw [hmid.size]; exact hlt t (mem_dsts hi hd)
          simp [dstAt, hi, hd, hts]
        · rw [h2 (fun i o hi hd => hex ⟨i, o, hi, hd⟩)]
          exact (hmid.old t (fun i o hi hd => (hex ⟨i, o, hi, hd⟩).elim)).symm
      have hD := fold_defers (f := fun i => match dstAt ops i with | some d => a.tmps.getD d undef | none => Classical.epsilon fun v => (Vs.getD i (fun _ _ => True)) v w) (os := ops) (b := a₀) (k := 0)
      generalize (ops.zipIdx 0 |>.foldl (fun a' x => a'.put x.1.dst (match dstAt ops x.2 with | some d => a.tmps.getD d undef | none => Classical.epsilon fun v => (Vs.getD x.2 (fun _ _ => True)) v w)) a₀) = c at hT hD
      obtain ⟨ct, cd⟩ := c
      obtain ⟨at', ad⟩ := a
      have hd := hmid.defers
      simp only at hT hD hd
      rw [hT, hD, hd]
    rw [e] at hf
    exact hf
  · intro i o hi V hV
    have hlen : i < ops.length := (List.getElem?_eq_some_iff.1 hi).1
    have eV : Vs.getD i (fun _ _ => True) = V := by simp [List.getD, hV]
    simp only [Nat.zero_add, dstAt, hi, Option.bind_some]
    cases hd : o.dst with
    | some d =>
      have := hmid.val i o d hi hd (hall i hlen)
      rwa [eV] at this
    | none =>
      have := hmid.bare i o hi hd (hall i hlen)
      rw [eV] at this ⊢
      exact Classical.epsilon_spec this

theorem mid_startJ (hG : ∀ w, Gr w₀ w → R w₀ w) (hJ0 : ∀ w, Gr w₀ w → J (Array.replicate ops.length false) w) (Vs : List VP) (a₀ : Act) : MidJ R J ops Vs a₀ w₀ (Array.replicate ops.length false) a₀ { w₀ with drawn := w₀.drawn + 1 } := by
  refine ⟨by simp, hG _ ⟨rfl, rfl, rfl, Nat.le_refl _, fun _ _ => rfl⟩, hJ0 _ ⟨rfl, rfl, rfl, Nat.le_refl _, fun _ _ => rfl⟩, rfl, rfl, fun _ _ => rfl, fun i o d hi hd hl => ?_, fun i o hi hd hl => ?_⟩
  all_goals
    have : i < ops.length := (List.getElem?_eq_some_iff.1 hi).1
    simp [this] at hl

end
end Go.Proofs.Ytcblmkhhhibddaa
