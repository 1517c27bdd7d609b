/-
  Robinson's road, plain: what it answers, and that this is the general unifier.
  hornref.Find, hornref.Apply
  term.Is, hornref.Is, base.Callable, term.A, hornref.A
  term.Check, term.Compare
-/
import Derived.Test.YtmecghjnghhhkaaUO06
import Derived.Test.YtmecghjnghhhkaaUO04
import Derived.Test.YtmecghjnghhhkaaUO02
import Derived.Test.YtmecghjnghhhkaaUO05
namespace Go.Proofs.Ytmecghjnghhhkaa

mutual
/-- The first place at which two terms differ. -/
def T.diff : T → T → Option (T × T)
  | .mk k n s l, .mk k' n' s' l' => if k = 4 ∧ k' = 4 ∧ s = s' ∧ l.length = l'.length then T.diffL l l' else if T.same (.mk k n s l) (.mk k' n' s' l') = true then none else some (.mk k n s l, .mk k' n' s' l')
def T.diffL : List T → List T → Option (T × T)
  | x :: xs, y :: ys => match T.diff x y with
    | some p => some p
    | none => T.diffL xs ys
  | _, _ => none
end

theorem formed_comp {n : Int} {s : List UInt8} {l : List T} (h : (T.mk 4 n s l).formed = true) : n = 0 ∧ s.length ≤ 100 ∧ 1 ≤ l.length ∧ l.length ≤ 50 ∧ T.formedL l = true := by
  rw [T.formed] at h
  simp at h
  exact ⟨h.1.1.1.1, h.1.1.1.2, h.1.1.2, h.1.2, h.2⟩

mutual
theorem T.diff_none : ∀ a b : T, a.formed = true → b.formed = true → T.diff a b = none → a = b
  | .mk k n s l, .mk k' n' s' l', ha, hb, h => by
    rw [T.diff] at h
    by_cases hc : k = 4 ∧ k' = 4 ∧ s = s' ∧ l.length = l'.length
    · rw [if_pos hc] at h
      obtain ⟨rfl, rfl, rfl, hl⟩ := hc
      obtain ⟨rfl, _, _, _, h1⟩ := formed_comp ha
      obtain ⟨rfl, _, _, _, h2⟩ := formed_comp hb
      rw [T.diffL_none l l' h1 h2 hl h]
    · rw [if_neg hc] at h
      by_cases hs : T.same (.mk k n s l) (.mk k' n' s' l') = true
      · exact (same_iff _ _).1 hs
      · rw [if_neg hs] at h; cases h
theorem T.diffL_none : ∀ a b : List T, T.formedL a = true → T.formedL b = true → a.length = b.length → T.diffL a b = none → a = b
  | [], [], _, _, _, _ => rfl
  | x :: xs, y :: ys, ha, hb, hl, h => by
    rw [T.formedL, Bool.and_eq_true] at ha hb
    rw [T.diffL] at h
    cases hd : T.diff x y with
    | some p => rw [hd] at h; cases h
    | none =>
      rw [hd] at h
      rw [T.diff_none x y ha.1 hb.1 hd, T.diffL_none xs ys ha.2 hb.2 (by simpa using hl) h]
end
/-- What is found where two terms differ. -/
structure Differ (a b : T → Prop) (u : (Int → T) → Prop) (p : T × T) : Prop where
  fx : p.1.formed = true
  fy : p.2.formed = true
  ox : a p.1
  oy : b p.2
  go : ∀ θ, u θ → T.map θ p.1 = T.map θ p.2
  ne : p.1 ≠ p.2
  head : ¬ (p.1.k = 4 ∧ p.2.k = 4 ∧ p.1.s = p.2.s ∧ p.1.l.length = p.2.l.length)
mutual
theorem T.diff_some : ∀ (a b : T) (p : T × T), a.formed = true → b.formed = true → T.diff a b = some p → Differ (fun x => ∀ m, T.occ m x → T.occ m a) (fun y => ∀ m, T.occ m y → T.occ m b) (fun θ => T.map θ a = T.map θ b) p
  | .mk k n s l, .mk k' n' s' l', p, ha, hb, h => by
    rw [T.diff] at h
    by_cases hc : k = 4 ∧ k' = 4 ∧ s = s' ∧ l.length = l'.length
    · rw [if_pos hc] at h
      obtain ⟨rfl, rfl, rfl, hl⟩ := hc
      obtain ⟨rfl, _, _, _, h1⟩ := formed_comp ha
      obtain ⟨rfl, _, _, _, h2⟩ := formed_comp hb
      have := T.diffL_some l l' p h1 h2 hl h
      refine ⟨this.fx, this.fy, fun m hm => ?_, fun m hm => ?_, fun θ hθ => this.go θ ?_, this.ne, this.head⟩
      · rw [T.occ, if_neg (by decide), if_pos rfl]; exact this.ox m hm
      · rw [T.occ, if_neg (by decide), if_pos rfl]; exact this.oy m hm
      · rw [T.map, T.map, if_neg (by decide), if_pos rfl, if_neg (by decide), if_pos rfl] at hθ
        injection hθ
    · rw [if_neg hc] at h
      by_cases hs : T.same (.mk k n s l) (.mk k' n' s' l') = true
      · rw [if_pos hs] at h; cases h
      · rw [if_neg hs] at h
        cases h
        exact ⟨ha, hb, fun _ hm => hm, fun _ hm => hm, fun _ hθ => hθ, fun e => hs ((same_iff _ _).2 e), hc⟩
theorem T.diffL_some : ∀ (a b : List T) (p : T × T), T.formedL a = true → T.formedL b = true → a.length = b.length → T.diffL a b = some p → Differ (fun x => ∀ m, T.occ m x → T.occL m a) (fun y => ∀ m, T.occ m y → T.occL m b) (fun θ => T.mapL θ a = T.mapL θ b) p
  | [], [], _, _, _, _, h => by rw [T.diffL] at h; cases h; all_goals simp
  | x :: xs, y :: ys, p, ha, hb, hl, h => by
    rw [T.formedL, Bool.and_eq_true] at ha hb
    rw [T.diffL] at h
    cases hd : T.diff x y with
    | some q =>
      rw [hd] at h
      cases h
      have := T.diff_some x y p ha.1 hb.1 hd
      refine ⟨this.fx, this.fy, fun m hm => ?_, fun m hm => ?_, fun θ hθ => this.go θ ?_, this.ne, this.head⟩
      · rw [T.occL]; exact .inl (this.ox m hm)
      · rw [T.occL]; exact .inl (this.oy m hm)
      · rw [T.mapL, T.mapL] at hθ
        injection hθ
    | none =>
      rw [hd] at h
      have := T.diffL_some xs ys p ha.2 hb.2 (by simpa using hl) h
      refine ⟨this.fx, this.fy, fun m hm => ?_, fun m hm => ?_, fun θ hθ => this.go θ ?_, this.ne, this.head⟩
      · rw [T.occL]; exact .inr (this.ox m hm)
      · rw [T.occL]; exact .inr (this.oy m hm)
      · rw [T.mapL, T.mapL] at hθ
        injection hθ
end

/-- Heads that differ do not come together. -/
theorem head_clash {θ : Int → T} {x y : T} (hx : x.formed = true) (hy : y.formed = true) (h1 : x.k ≠ 1) (h2 : y.k ≠ 1) (hne : x ≠ y) (hh : ¬ (x.k = 4 ∧ y.k = 4 ∧ x.s = y.s ∧ x.l.length = y.l.length)) : T.map θ x ≠ T.map θ y := by
  obtain ⟨k, n, s, l⟩ := x
  obtain ⟨k', n', s', l'⟩ := y
  simp only [T.k, T.s, T.l] at h1 h2 hh
  intro h
  rw [T.map, T.map, if_neg h1, if_neg h2] at h
  by_cases h4 : k = 4
  · rw [if_pos h4] at h
    by_cases h5 : k' = 4
    · rw [if_pos h5] at h
      injection h with e1 e2 e3 e4
      refine hh ⟨h4, h5, e3, ?_⟩
      have := congrArg List.length e4
      rwa [T.mapL_length, T.mapL_length] at this
    · rw [if_neg h5] at h
      injection h with e1
      exact h5 (e1.symm.trans h4)
  · rw [if_neg h4] at h
    by_cases h5 : k' = 4
    · rw [if_pos h5] at h
      injection h with e1
      exact h4 (e1.trans h5)
    · rw [if_neg h5] at h
      injection h with e1 e2 e3
      rcases formed_args hx with ⟨h6, _⟩ | ⟨_, rfl⟩
      · exact h4 h6
      rcases formed_args hy with ⟨h6, _⟩ | ⟨_, rfl⟩
      · exact h5 h6
      exact hne (by rw [e1, e2, e3])

/-- Which side is bound. -/
def orient (x y : T) : T × T := if y.k = 1 ∧ (x.k ≠ 1 ∨ x.n < y.n) then (y, x) else (x, y)
theorem orient_or (x y : T) : orient x y = (x, y) ∨ orient x y = (y, x) := by
  rw [orient]; split
  · exact .inr rfl
  · exact .inl rfl
theorem orient_nonvar {x y : T} (h : (orient x y).1.k ≠ 1) : x.k ≠ 1 ∧ y.k ≠ 1 := by
  rw [orient] at h
  split at h
  · rename_i h1; exact absurd h1.1 h
  · rename_i h1
    refine ⟨h, fun hy => h1 ⟨hy, .inl h⟩⟩
theorem orient_low {x y : T} (hx : x.formed = true) (_ : y.formed = true) (hne : x ≠ y) (h : (orient x y).1.k = 1) : ∀ m, (orient x y).2 = varT m → m < (orient x y).1.n := by
  intro m hm
  rw [orient] at h hm ⊢
  split at h
  · rename_i h1
    rw [if_pos h1] at hm ⊢
    simp only at hm ⊢
    rcases h1.2 with h2 | h2
    · rw [hm] at h2; exact absurd rfl h2
    · rw [hm] at h2; exact h2
  · rename_i h1
    rw [if_neg h1] at hm ⊢
    simp only at hm ⊢ h
    by_cases h2 : m < x.n
    · exact h2
    · refine absurd ⟨by rw [hm]; rfl, .inr ?_⟩ h1
      have h4 : y.n = m := by rw [hm]; rfl
      rw [h4]
      by_cases h3 : x.n < m
      · exact h3
      · refine absurd ?_ hne
        rw [hm, var_of_k hx h, show x.n = m by omega]

def Fat (t : T) : Prop := 100000 < T.sz t
inductive RobOut where
  | grown
  | clash
  | done (σ : Int → T)
/-- Robinson's road over some pairs. -/
inductive Rob : (Int → T) → List (T × T) → RobOut → Prop
  | nil (σ) : Rob σ [] (.done σ)
  | fat {σ a b E} (h : Fat (T.map σ a) ∨ Fat (T.map σ b)) : Rob σ ((a, b) :: E) .grown
  | same {σ a b E o} (h : ¬ (Fat (T.map σ a) ∨ Fat (T.map σ b))) (hd : T.diff (T.map σ a) (T.map σ b) = none) (hr : Rob σ E o) : Rob σ ((a, b) :: E) o
  | clash {σ a b E x y} (h : ¬ (Fat (T.map σ a) ∨ Fat (T.map σ b))) (hd : T.diff (T.map σ a) (T.map σ b) = some (x, y)) (hc : (orient x y).1.k ≠ 1 ∨ T.occ (orient x y).1.n (orient x y).2) : Rob σ ((a, b) :: E) .clash
  | grow {σ a b E x y} (h : ¬ (Fat (T.map σ a) ∨ Fat (T.map σ b))) (hd : T.diff (T.map σ a) (T.map σ b) = some (x, y)) (hc : ¬ ((orient x y).1.k ≠ 1 ∨ T.occ (orient x y).1.n (orient x y).2)) (hf : ∃ n, Fat (stepF σ (orient x y).1.n (orient x y).2 n)) : Rob σ ((a, b) :: E) .grown
  | step {σ a b E x y o} (h : ¬ (Fat (T.map σ a) ∨ Fat (T.map σ b))) (hd : T.diff (T.map σ a) (T.map σ b) = some (x, y)) (hc : ¬ ((orient x y).1.k ≠ 1 ∨ T.occ (orient x y).1.n (orient x y).2)) (hf : ¬ ∃ n, Fat (stepF σ (orient x y).1.n (orient x y).2 n)) (hr : Rob (stepF σ (orient x y).1.n (orient x y).2) ((a, b) :: E) o) : Rob σ ((a, b) :: E) o

theorem Rob.same_out {σ : Int → T} {E : List (T × T)} {o o' : RobOut} (h : Rob σ E o) : Rob σ E o' → o = o' := by
  induction h with
  | nil => intro h'; cases h'; rfl
  | fat h => intro h'; cases h' with
    | fat => rfl
    | same g => exact absurd h g
    | clash g => exact absurd h g
    | grow g => exact absurd h g
    | step g => exact absurd h g
  | same h hd hr ih => intro h'; cases h' with
    | fat g => exact absurd g h
    | same g gd gr => exact ih gr
    | clash g gd => rw [hd] at gd; cases gd
    | grow g gd => rw [hd] at gd; cases gd
    | step g gd => rw [hd] at gd; cases gd
  | clash h hd hc => intro h'; cases h' with
    | fat g => exact absurd g h
    | same g gd => rw [hd] at gd; cases gd
    | clash g gd => rfl
    | grow g gd gc => rw [hd] at gd; cases gd; exact absurd hc gc
    | step g gd gc => rw [hd] at gd; cases gd; exact absurd hc gc
  | grow h hd hc hf => intro h'; cases h' with
    | fat g => exact absurd g h
    | same g gd => rw [hd] at gd; cases gd
    | clash g gd gc => rw [hd] at gd; cases gd; exact absurd gc hc
    | grow g gd gc => rfl
    | step g gd gc gf => rw [hd] at gd; cases gd; exact absurd hf gf
  | step h hd hc hf hr ih => intro h'; cases h' with
    | fat g => exact absurd g h
    | same g gd => rw [hd] at gd; cases gd
    | clash g gd gc => rw [hd] at gd; cases gd; exact absurd gc hc
    | grow g gd gc gf => rw [hd] at gd; cases gd; exact absurd gf hf
    | step g gd gc gf gr => rw [hd] at gd; cases gd; exact ih gr

def FormedP (E : List (T × T)) : Prop := ∀ p ∈ E, p.1.formed = true ∧ p.2.formed = true
def Unif (θ : Int → T) (E : List (T × T)) : Prop := ∀ p ∈ E, T.map θ p.1 = T.map θ p.2

/-- What one difference gives. -/
theorem differ_step {σ : Int → T} (hσ : Canon σ) {a b x y : T} (ha : a.formed = true) (hb : b.formed = true) (hd : T.diff (T.map σ a) (T.map σ b) = some (x, y)) :
    (∀ θ, Through θ σ → T.map θ a = T.map θ b → T.map θ (orient x y).1 = T.map θ (orient x y).2) ∧ (orient x y).1.formed = true ∧ (orient x y).2.formed = true ∧
    (∀ m, T.occ m (orient x y).1 → σ m = varT m) ∧ (∀ m, T.occ m (orient x y).2 → σ m = varT m) ∧ (orient x y).1 ≠ (orient x y).2 ∧
    ((orient x y).1.k ≠ 1 → ∀ θ, T.map θ (orient x y).1 ≠ T.map θ (orient x y).2) ∧ ((orient x y).1.k = 1 → ∀ m, (orient x y).2 = varT m → m < (orient x y).1.n) := by
  have h := T.diff_some _ _ _ (hσ.map ha) (hσ.map hb) hd
  have h1 : ∀ θ, Through θ σ → T.map θ a = T.map θ b → T.map θ x = T.map θ y := fun θ ht he => h.go θ (by rw [ht.map, ht.map, he])
  have hx : ∀ m, T.occ m x → σ m = varT m := fun m hm => hσ.occ_free (h.ox m hm)
  have hy : ∀ m, T.occ m y → σ m = varT m := fun m hm => hσ.occ_free (h.oy m hm)
  have hcl : (orient x y).1.k ≠ 1 → ∀ θ, T.map θ x ≠ T.map θ y := fun hk θ => by
    obtain ⟨k1, k2⟩ := orient_nonvar hk
    exact head_clash h.fx h.fy k1 k2 h.ne h.head
  have hlow := orient_low h.fx h.fy h.ne
  rcases orient_or x y with ho | ho
  · rw [ho] at hcl hlow ⊢
    exact ⟨h1, h.fx, h.fy, hx, hy, h.ne, hcl, hlow⟩
  · rw [ho] at hcl hlow ⊢
    exact ⟨fun θ ht he => (h1 θ ht he).symm, h.fy, h.fx, hy, hx, fun e => h.ne e.symm, fun hk θ e => hcl hk θ e.symm, hlow⟩
theorem differ_canon {σ : Int → T} (hσ : Canon σ) {a b x y : T} (ha : a.formed = true) (hb : b.formed = true) (hd : T.diff (T.map σ a) (T.map σ b) = some (x, y)) (hc : ¬ ((orient x y).1.k ≠ 1 ∨ T.occ (orient x y).1.n (orient x y).2)) :
    Canon (stepF σ (orient x y).1.n (orient x y).2) ∧ (∀ θ, Through θ σ → T.map θ a = T.map θ b → Through θ (stepF σ (orient x y).1.n (orient x y).2)) ∧ (orient x y).1 = varT (orient x y).1.n ∧ σ (orient x y).1.n = varT (orient x y).1.n ∧ stepF σ (orient x y).1.n (orient x y).2 (orient x y).1.n = (orient x y).2 ∧ (0 ≤ (orient x y).1.n ∧ (orient x y).1.n ≤ 1099511627776) := by
  obtain ⟨h1, h2, h3, h4, h5, h6, h7, h8⟩ := differ_step hσ ha hb hd
  generalize (orient x y).1 = u at *
  generalize (orient x y).2 = v at *
  have hk : u.k = 1 := Classical.byContradiction fun h => hc (.inl h)
  have hu := var_of_k h2 hk
  have hun : σ u.n = varT u.n := h4 u.n (by rw [hu]; exact T.occ_var.2 rfl)
  have hr : 0 ≤ u.n ∧ u.n ≤ 1099511627776 := by
    rw [hu, varT] at h2
    exact (formed_var h2).1
  refine ⟨hσ.step hun hr h3 h5 (fun ho => hc (.inr ho)) (h8 hk), fun θ ht he => ht.step ?_, hu, hun, ?_, hr⟩
  · rw [← h1 θ ht he]
    conv => lhs; rw [hu]
    exact T.map_var θ u.n
  · rw [stepF, hun, T.map_var, oneF, if_pos rfl]

/-- What is answered is the general unifier. -/
theorem Rob.sound {σ : Int → T} {E : List (T × T)} {o : RobOut} (h : Rob σ E o) : Canon σ → FormedP E →
    (∀ ρ, o = .done ρ → Canon ρ ∧ Through ρ σ ∧ Unif ρ E ∧ ∀ θ, Through θ σ → Unif θ E → Through θ ρ) ∧ (o = .clash → ∀ θ, Through θ σ → ¬ Unif θ E) := by
  induction h with
  | nil σ =>
    intro hc _
    refine ⟨fun ρ e => ?_, (fun e => nomatch e)⟩
    cases e
    exact ⟨hc, hc.self, (fun p hp => nomatch hp), fun θ ht _ => ht⟩
  | fat => intro _ _; exact ⟨(fun ρ e => nomatch e), (fun e => nomatch e)⟩
  | grow => intro _ _; exact ⟨(fun ρ e => nomatch e), (fun e => nomatch e)⟩
  | @same σ a b E o h hd hr ih =>
    intro hc hf
    have hab := hf (a, b) (by simp)
    obtain ⟨ih1, ih2⟩ := ih hc fun p hp => hf p (by simp [hp])
    have he := T.diff_none _ _ (hc.map hab.1) (hc.map hab.2) hd
    refine ⟨fun ρ e => ?_, fun e θ ht hu => ih2 e θ ht fun p hp => hu p (by simp [hp])⟩
    obtain ⟨g1, g2, g3, g4⟩ := ih1 ρ e
    refine ⟨g1, g2, fun p hp => ?_, fun θ ht hu => g4 θ ht fun p hp => hu p (by simp [hp])⟩
    rcases List.mem_cons.1 hp with rfl | hp
    · simp only
      rw [← g2.map a, ← g2.map b, he]
    · exact g3 p hp
  | @clash σ a b E x y h hd hc' =>
    intro hc hf
    have hab := hf (a, b) (by simp)
    obtain ⟨h1, h2, h3, h4, h5, h6, h7, h8⟩ := differ_step hc hab.1 hab.2 hd
    refine ⟨(fun ρ e => nomatch e), fun _ θ ht hu => ?_⟩
    have he := h1 θ ht (hu (a, b) (by simp))
    by_cases hk : (orient x y).1.k = 1
    · rcases hc' with h9 | h9
      · exact h9 hk
      · have hv := var_of_k h2 hk
        rw [hv, T.map_var] at he
        exact no_occ h3 h9 (fun e => h6 (hv.trans e.symm)) he.symm
    · exact h7 hk θ he
  | @step σ a b E x y o h hd hc' hf' hr ih =>
    intro hc hf
    have hab := hf (a, b) (by simp)
    obtain ⟨h1, h2, _⟩ := differ_canon hc hab.1 hab.2 hd hc'
    obtain ⟨ih1, ih2⟩ := ih h1 hf
    refine ⟨fun ρ e => ?_, fun e θ ht hu => ih2 e θ (h2 θ ht (hu (a, b) (by simp))) hu⟩
    obtain ⟨g1, g2, g3, g4⟩ := ih1 ρ e
    exact ⟨g1, g2.trans (Through.back hc), g3, fun θ ht hu => g4 θ (h2 θ ht (hu (a, b) (by simp))) hu⟩
end Go.Proofs.Ytmecghjnghhhkaa

namespace Go.Proofs.Ytmecghjnghhhkaa
open Go.RowKit

theorem formed_cases2 {t : T} (h : t.formed = true) : (∃ n, t = .mk 1 n [] [] ∧ 0 ≤ n ∧ n ≤ 1099511627776) ∨ (∃ n, t = .mk 2 n [] []) ∨ (∃ s, t = .mk 3 0 s [] ∧ s.length ≤ 100) ∨
    (∃ s l, t = .mk 4 0 s l ∧ s.length ≤ 100 ∧ 1 ≤ l.length ∧ l.length ≤ 50 ∧ T.formedL l = true) := by
  obtain ⟨k, n, s, l⟩ := t
  rw [T.formed] at h
  by_cases h1 : k = 1
  · subst h1
    simp at h
    exact .inl ⟨n, by rw [h.1.2, h.2], h.1.1.1, h.1.1.2⟩
  by_cases h2 : k = 2
  · subst h2
    simp at h
    exact .inr (.inl ⟨n, by rw [h.1, h.2]⟩)
  by_cases h3 : k = 3
  · subst h3
    simp at h
    exact .inr (.inr (.inl ⟨s, by rw [h.1.1, h.2], h.1.2⟩))
  by_cases h4 : k = 4
  · subst h4
    simp at h
    exact .inr (.inr (.inr ⟨s, l, by rw [h.1.1.1.1], h.1.1.1.2, h.1.1.2, h.1.2, h.2⟩))
  · simp [h1, h2, h3, h4] at h


/-- What a substitution makes of a variable. -/
def lookupT : List Bd → Int → T
  | [], n => varT n
  | x :: xs, n => if x.v = n then x.t.erase else lookupT xs n

theorem lookupT_drop (l : List Bd) (n : Int) (k : Nat) (hk : k < l.length) (h : l[k].v ≠ n) : lookupT (l.drop k) n = lookupT (l.drop (k + 1)) n := by
  rw [List.drop_eq_getElem_cons hk, lookupT, if_neg h]
theorem lookupT_here (l : List Bd) (n : Int) (k : Nat) (hk : k < l.length) (h : l[k].v = n) : lookupT (l.drop k) n = l[k].t.erase := by
  rw [List.drop_eq_getElem_cons hk, lookupT, if_pos h]

def RetFind (S : Nat → Prop) (t : T) (w : World) (e : Ending) (w' : World) : Prop :=
  ∃ (b : Tm) (x : Bool), b.In w' ∧ b.erase = t ∧ e = .returned (.tuple #[b.val, .bool x]) ∧ Gr w w' ∧ b.On S

set_option maxHeartbeats 2000000 in
set_option maxRecDepth 100000 in
theorem rfind_calls (S : Nat → Prop) (p : Option Addr) (c : Nat) (l : List Bd) (n : Int) (w : World) (hx : (Bds.mk p c l).In w) (hn : In64 n) (hS : ∀ b, S b → b < w.heap.size) (hO : ∀ y ∈ l, y.t.On S) :
    Calls Try.prog 175 #[.slice p l.length c, .int .i64 n] w (RetFind (fun b => S b ∨ w.heap.size ≤ b) (lookupT l n) w) := by
  have HX := Lib.hid hx
  have Hn := Lib.hid hn
  have HS := Lib.hid hS
  have HO := Lib.hid hO
  obtain ⟨hlc, ⟨hl64, hc⟩, _, _⟩ := hx
  simp only at hlc hl64 hc
  obtain ⟨hn1, hn2⟩ := hn
  generalize hr : lookupT l n = r
  have Hr := Lib.hid hr
  clear hr hS hO
  go_enter Try.func175, Try.ntmps175
  go_wp2_with fail
  go_loop [6] (fun i => ∃ k : Nat, k ≤ l.length ∧ i = .int .i64 k ∧ Hid (lookupT (l.drop k) n = r)) (fun i => l.length - (intOf i).toNat)
  case atStart => exact ⟨0, Nat.zero_le _, rfl, Hr.out⟩
  case round =>
    obtain ⟨k, hk, rfl, hpre⟩ := hrel
    by_cases hlt : k < l.length
    · obtain ⟨b, o, rfl⟩ := HX.out.ptr (by omega)
      obtain ⟨⟨c0, c1, c2, c3, c4⟩, hti, ⟨hv1, hv2⟩, hbl⟩ := HX.out.elem k hlt
      have Hti := Lib.hid hti
      have HyO := Lib.hid (HO.out _ (List.getElem_mem hlt))
      by_cases hv : l[k].v = n
      · have Hh : Hid (l[k].t.erase = r) := (lookupT_here l n k hlt hv).symm.trans hpre.out
        clear hti
        generalize hye : l[k] = y at *
        obtain ⟨yv, yt⟩ := y
        simp only at *
        have hvb : (yv == n) = true := by simp [hv]
        clear hv
        go_wp2_with fail
        refine bodyPost_ret (v := .tuple #[yt.val, .bool true]) (by simp (maxDischargeDepth := 9) [results, Try.results175, go_sem, Tm.val]) rfl ⟨yt, true, Tm.In_below (by go_grown) Hti.out, Hh.out, rfl, by go_grown, HyO.out.mono fun b hb => .inl hb⟩
      · have Hh : Hid (lookupT (l.drop (k + 1)) n = r) := (lookupT_drop l n k hlt hv).symm.trans hpre.out
        have hvb : (l[k].v == n) = false := beq_eq_false_iff_ne.2 hv
        clear hti hv
        generalize hye : l[k] = y at *
        go_wp2_with fail
        go_round
        case rel => exact ⟨k + 1, by omega, by go_num, Hh.out⟩
        case measure => simp [intOf]; omega
    · obtain rfl : k = l.length := by omega
      have Hh : Hid (varT n = r) := by
        show _ = _
        rw [← hpre.out, List.drop_length, lookupT]
      go_wp2_with fail
      refine (rV_calls n _ Hn.out).mono ?_
      rintro e w1 ⟨rfl, hb1⟩
      obtain ⟨⟨y0, y1, y2, y3⟩, ⟨f0, f1, f2, f3⟩, hlt1⟩ := (Blk4.gr (Blk4.new _ _ _ _ _) hb1).parts
      have g1 : Gr w w1 := below_step hb1 (by go_grown)
      clear hb1
      go_wp2_with fail
      refine bodyPost_ret (v := .tuple #[(varTm n).val, .bool false]) (by simp (maxDischargeDepth := 9) [results, Try.results175, go_sem, varTm, Tm.val, Tm.k, Tm.n, Tm.s, Tm.p, Tm.c, Tm.l, y0, y1, y2, y3]) rfl ⟨varTm n, false, varTm_in Hn.out _, by rw [varTm_erase, Hh.out], rfl, by go_grown, varTm_on n⟩

def applyOf (t : Tm) : Prop := ∀ (S : Nat → Prop) (p : Option Addr) (c : Nat) (l : List Bd) (w : World), t.In w → t.erase.formed = true → (Bds.mk p c l).In w → (∀ b, S b → b < w.heap.size) → (∀ y ∈ l, y.t.On S) →
  Calls Try.prog 136 #[t.val, .slice p l.length c] w (RetTm (fun b => S b ∨ w.heap.size ≤ b) (T.map (lookupT l) t.erase) w)

set_option maxHeartbeats 2000000 in
set_option maxRecDepth 100000 in
theorem apply_var (n : Int) (s : ByteArray) (p' : Option Addr) (c' : Nat) (l' : List Tm) : applyOf (.mk 1 n s p' c' l') := by
  intro S p c l w h hfm hx hS hO
  have HX := Lib.hid hx
  have HS := Lib.hid hS
  have HO := Lib.hid hO
  rw [Tm.In] at h
  obtain ⟨hk0, hn, hs, hlc, hc, hp, hIn⟩ := h
  have Hn := Lib.hid hn
  obtain ⟨hxl, ⟨hl64, hxc⟩, _, _⟩ := hx
  simp only at hxl hl64 hxc
  clear hp hIn hfm hS hO hn
  rw [Tm.erase, T.map, if_pos rfl]
  simp only [Tm.val, Tm.k, Tm.n, Tm.s, Tm.p, Tm.c, Tm.l]
  go_enter Try.func136, Try.ntmps136
  go_wp2_with fail
  refine (rfind_calls S p c l n _ (HX.out.mono (by go_grown)) Hn.out (fun b hb => by have := HS.out b hb; simp; omega) HO.out).mono ?_
  rintro e w1 ⟨bm, x, hin, he, rfl, hb1, hon⟩
  obtain ⟨⟨y0, y1, y2, y3⟩, ⟨f0, f1, f2, f3⟩, hlt⟩ := (Blk4.gr (Blk4.new _ _ _ _ _) hb1).parts
  simp only [World.size_alloc] at y0 y1 y2 y3 f0 f1 f2 f3 hlt hon
  have g1 : Gr w w1 := below_step hb1 (by go_grown)
  have Hin := Lib.hid hin
  have Hon := Lib.hid hon
  have He := Lib.hid he
  clear hin hon he hb1
  simp only [Tm.val]
  go_wp2_with fail
  refine bodyPost_ret (v := bm.val) (by simp (maxDischargeDepth := 9) [results, Try.results136, go_sem, Tm.val, hlt, y0, y1, y2, y3]) rfl ⟨bm, ?_, He.out, rfl, by go_grown, Hon.out.mono fun b hb => hb.imp id fun h => by omega⟩
  exact in_after' Hin.out Hon.out fun b h1 h2 o => by
    have h3 : b ≠ w.heap.size + 1 := by
      rcases h1 with h1 | h1
      · have := HS.out b h1; omega
      · omega
    rw [World.cell?_alloc_past _ _ _ (by simpa using h2), cell_set_ne h3, cell_set_ne h3, cell_set_ne h3, cell_set_ne h3]

set_option maxHeartbeats 4000000 in
set_option maxRecDepth 100000 in
theorem apply_comp (k0 n : Int) (s : ByteArray) (p' : Option Addr) (c' : Nat) (l' : List Tm) (hk1 : k0 ≠ 1) (hl50 : l'.length ≤ 50) (hfl : ∀ x ∈ l', x.erase.formed = true) (ih : ∀ x ∈ l', applyOf x)
    (S : Nat → Prop) (p : Option Addr) (c : Nat) (l : List Bd) (w : World) (h : (Tm.mk k0 n s p' c' l').In w) (hx : (Bds.mk p c l).In w) (hS : ∀ b, S b → b < w.heap.size) (hO : ∀ y ∈ l, y.t.On S) :
    Calls Try.prog 136 #[(Tm.mk k0 n s p' c' l').val, .slice p l.length c] w (RetTm (fun b => S b ∨ w.heap.size ≤ b) (.mk k0 n s.toList (T.mapL (lookupT l) (Tm.eraseL l'))) w) := by
  have HX := Lib.hid hx
  have HSl := Lib.hid h.sl
  have HS := Lib.hid hS
  have HO := Lib.hid hO
  rw [Tm.In] at h
  obtain ⟨hk0, hn, hs, hlc, hc, hp, hIn⟩ := h
  obtain ⟨hxl, ⟨hl64, hxc⟩, _, _⟩ := hx
  simp only at hxl hl64 hxc
  have Hih := Lib.hid ih
  have Hfl := Lib.hid hfl
  have Hs := Lib.hid hs
  have Hn := Lib.hid hn
  have Hk := Lib.hid hk0
  have hk1' : (k0 == 1) = false := beq_eq_false_iff_ne.2 hk1
  clear hp hIn ih hfl hS hO hk1
  simp only [Tm.val, Tm.k, Tm.n, Tm.s, Tm.p, Tm.c, Tm.l]
  go_enter Try.func136, Try.ntmps136
  go_wp2_with fail
  go_loopw [7, 8] (fun v i wr => ∃ k : Nat, k ≤ l'.length ∧ i = .int .i64 k ∧ Hid (∃ lm : List Tm, lm.length = k ∧ Tm.eraseL lm = T.mapL (lookupT l) (Tm.eraseL (l'.take k)) ∧ Built wr (w.heap.size + 1 + 1) S v lm) ∧
      Hid (Blk4 wr w.heap.size (.int .i64 k0) (.int .i64 n) (.string s) (.slice p' l'.length c') ∧ Blk4 wr (w.heap.size + 1) (.int .i64 0) (.int .i64 0) (.string ⟨#[]⟩) (.slice none 0 0)) ∧ Gr w wr ∧ w.heap.size + 1 + 1 ≤ wr.heap.size)
    (fun _ i _ => l'.length - (intOf i).toNat)
  case atStart => exact ⟨0, Nat.zero_le _, rfl, ⟨[], rfl, by simp [T.mapL, Tm.eraseL], Built.nil _ _ _⟩, ⟨Blk4.old (Blk4.new w _ _ _ _) _, by have := Blk4.new (w.alloc (.cells #[.int .i64 k0, .int .i64 n, .string s, .slice p' l'.length c'] 27)) (.int .i64 0) (.int .i64 0) (.string ⟨#[]⟩) (.slice none 0 0); simpa only [World.size_alloc] using this⟩, by go_grown, by simp⟩
  case round =>
    obtain ⟨k, hk, rfl, hlm, HBR, gr, hws⟩ := hrel
    obtain ⟨HB, HR⟩ := HBR.out
    replace HB := Lib.hid HB
    replace HR := Lib.hid HR
    obtain ⟨⟨b0, b1, b2, b3⟩, ⟨ff0, ff1, ff2, ff3⟩, hbs1⟩ := HB.out.parts
    by_cases hlt : k < l'.length
    · obtain ⟨b, o, rfl⟩ := HSl.out.ptr (by omega)
      obtain ⟨⟨c0, c1, c2, c3⟩, hxi, _⟩ := (HSl.out.mono gr).elem k hlt
      have Hx := Lib.hid hxi
      have hmem : l'[k] ∈ l' := List.getElem_mem hlt
      have Hix := Lib.hid (Hih.out _ hmem)
      have Hfx := Lib.hid (Hfl.out _ hmem)
      have Htk : Hid (T.mapL (lookupT l) (Tm.eraseL (l'.take (k + 1))) = T.mapL (lookupT l) (Tm.eraseL (l'.take k)) ++ [T.map (lookupT l) l'[k].erase]) := T.mapL_erase (lookupT l) l' k hlt
      clear hxi hmem
      generalize hxe : l'[k] = x at *
      go_wp2_with fail
      clear b0 b1 b2 b3 ff0 ff1 ff2 ff3
      refine (Hix.out S p c l _ (Tm.In_below (by go_grown) Hx.out) Hfx.out (HX.out.mono (by go_grown)) (fun b hb => Nat.lt_of_lt_of_le (HS.out b hb) gr.size) HO.out).mono ?_
      rintro e w2 ⟨xm, hin, he, rfl, hb2, hon⟩
      obtain ⟨lm, hl0, he0, hF⟩ := hlm.out
      have HF2 := Lib.hid (hF.gr hb2)
      have Hvl := Lib.hid hF.1.lt
      have hs2 := hb2.size
      have HB2 := Lib.hid (And.intro (HB.out.gr hb2) (HR.out.gr hb2))
      have Hl0 := Lib.hid hl0
      have He0 := Lib.hid he0
      have Hin := Lib.hid hin
      have Hon := Lib.hid hon
      have He := Lib.hid he
      have g2 : Gr w w2 := gr.trans hb2
      clear hF hl0 he0 hin hon he hb2 hlm
      obtain ⟨k', n', s', p2, c2, l2⟩ := xm
      simp only [Tm.val, Tm.k, Tm.n, Tm.s, Tm.p, Tm.c, Tm.l]
      go_wp2_with
        (at_builtin
         refine wpList_append_term rfl _ _ rfl rfl (w.heap.size + 1 + 1) S _ lm (.mk k' n' s' p2 c2 l2) w2.heap.size 1 rfl rfl (HF2.out.gr (by go_grown)) (by simp; omega) (Tm.In_below (by go_grown) Hin.out) (Hon.out.mono fun b hb => sep_own HS.out (by omega) Hvl.out hb hws) (by have := Hl0.out; omega) (by show _ = some (Value.int .i64 k'); go_cell) (by show _ = some (Value.int .i64 n'); go_cell) (by show _ = some (Value.string s'); go_cell) (by show _ = some (Value.slice p2 l2.length c2); go_cell) ?_
         intro v' w4 hbt hbel _)
      go_roundw
      case rel =>
        have hg4 : Below (w.heap.size + 1 + 1) w2 w4 := Below.trans (show Below (w.heap.size + 1 + 1) w2 _ by go_grown) hbel
        exact ⟨k + 1, by omega, by go_num, ⟨_, by rw [List.length_append, Hl0.out]; rfl, by rw [eraseL_append, He0.out, Htk.out, ← He.out]; simp [Tm.eraseL], hbt⟩, ⟨HB2.out.1.below hg4 (by omega), HB2.out.2.below hg4 (by omega)⟩, Below.trans g2 (hg4.mono (by omega)), by have := hg4.size; omega⟩
      case measure => simp [intOf]; omega
    · obtain rfl : k = l'.length := by omega
      obtain ⟨lm, hl0, he0, hF⟩ := hlm.out
      obtain ⟨⟨y0, y1, y2, y3⟩, ⟨f0, f1, f2, f3⟩, hbs2⟩ := HR.out.parts
      obtain ⟨pv, cv, rfl, hcv1, hcv2⟩ := hF.form
      have HF := Lib.hid hF
      have Hl0 := Lib.hid hl0
      have He0 := Lib.hid he0
      clear hF hl0 he0 hlm
      go_wp2_with fail
      have hsl := HF.out.sl (by have := Hl0.out; omega)
      refine bodyPost_ret (v := (Tm.mk k0 n s pv cv lm).val) (by simp [results, Try.results136, go_sem, Tm.val, Tm.k, Tm.n, Tm.s, Tm.p, Tm.c, Tm.l, y0, y1, y2, y3]) rfl ⟨_, ?_, ?_, rfl, by go_grown, ?_⟩
      · have hin : (Tm.mk k0 n s pv cv lm).In wr := by
          rw [Tm.In]
          exact ⟨Hk.out, Hn.out, Hs.out, hsl.2.1.1, hsl.2.1.2.1, hsl.2.1.2.2.1, hsl.2.1.2.2.2⟩
        have hon : (Tm.mk k0 n s pv cv lm).On (fun b => S b ∨ w.heap.size + 1 + 1 ≤ b) := by rw [Tm.On]; exact hsl.2.2
        exact in_after' hin hon fun b h1 h2 o => by
          have : b ≠ w.heap.size + 1 ∧ b ≠ w.heap.size := by
            rcases h1 with h1 | h1
            · have := HS.out b h1; omega
            · omega
          rw [cell_set_ne this.1, cell_set_ne this.1, cell_set_ne this.1, cell_set_ne this.1, cell_set_ne this.2]
      · rw [Tm.erase, He0.out, List.take_length]
      · rw [Tm.On]
        exact ⟨hsl.2.2.1.imp id fun ⟨b, o, h1, h2⟩ => ⟨b, o, h1, h2.imp id fun h => by omega⟩, hsl.2.2.2.mono fun b hb => hb.imp id fun h => by omega⟩

theorem apply_any (N : Nat) : ∀ (t : Tm), SizeOf.sizeOf t ≤ N → applyOf t := by
  induction N with
  | zero => intro t h; cases t; simp at h
  | succ N ih =>
    intro t hN
    obtain ⟨k0, n, s, p', c', l'⟩ := t
    by_cases hk : k0 = 1
    · subst hk; exact apply_var n s p' c' l'
    intro S p c l w h hfm hx hS hO
    have hih : ∀ x ∈ l', applyOf x := fun x hx => ih x (by have := Tm.sizeOf_mem hx k0 n s p' c'; omega)
    by_cases hk4 : k0 = 4
    · subst hk4
      obtain ⟨_, _, _, h50, hfl⟩ := formed_elem rfl hfm
      rw [Tm.erase, T.map, if_neg (by decide), if_pos rfl]
      exact apply_comp 4 n s p' c' l' (by decide) h50 hfl hih S p c l w h hx hS hO
    · have hl : l' = [] := by
        have h9 := Tm.eraseL_length l'
        rcases formed_cases2 hfm with ⟨m, he, _⟩ | ⟨m, he⟩ | ⟨s2, he, _⟩ | ⟨s2, l2, he, _⟩ <;> rw [Tm.erase] at he <;> injection he with e1 e2 e3 e4
        · rw [e4] at h9; exact List.eq_nil_of_length_eq_zero h9.symm
        · rw [e4] at h9; exact List.eq_nil_of_length_eq_zero h9.symm
        · rw [e4] at h9; exact List.eq_nil_of_length_eq_zero h9.symm
        · exact absurd e1 hk4
      subst hl
      have := apply_comp k0 n s p' c' [] hk (by simp) (by simp) hih S p c l w h hx hS hO
      rw [Tm.erase, T.map, if_neg hk, if_neg hk4]
      simpa [Tm.eraseL, T.mapL] using this

/-- hornref.Apply, of a term. -/
theorem rapply_calls {t : Tm} {x : Bds} {w : World} (h : t.In w) (hf : t.erase.formed = true) (hx : x.In w) : Calls Try.prog 136 #[t.val, x.val] w (RetTm (fun _ => True) (T.map (lookupT x.l) t.erase) w) :=
  (apply_any _ t (Nat.le_refl _) (· < w.heap.size) x.p x.c x.l w h hf hx (fun _ h => h) (fun y hy => Tm.In.on (hx.2.2.2 y hy).1)).mono fun _ _ ⟨b, h1, h2, h3, h4, h5⟩ => ⟨b, h1, h2, h3, h4, h5.mono fun _ _ => trivial⟩
/-- The same: what is handed back lies on blocks of the binds, or on new ones. -/
theorem rapplyOn_calls {S : Nat → Prop} {t : Tm} {x : Bds} {w : World} (h : t.In w) (hf : t.erase.formed = true) (hx : x.In w) (hn : ∀ b, w.heap.size ≤ b → S b) (ox : ∀ y ∈ x.l, y.t.On S) : Calls Try.prog 136 #[t.val, x.val] w (RetTm S (T.map (lookupT x.l) t.erase) w) :=
  (apply_any _ t (Nat.le_refl _) (fun b => S b ∧ b < w.heap.size) x.p x.c x.l w h hf hx (fun _ h => h.2) (fun y hy => (ox y hy).and (Tm.In.on (hx.2.2.2 y hy).1))).mono fun _ _ ⟨b, h1, h2, h3, h4, h5⟩ => ⟨b, h1, h2, h3, h4, h5.mono fun b hb => hb.elim (fun h => h.1) (hn b)⟩

end Go.Proofs.Ytmecghjnghhhkaa

namespace Go.Proofs.Ytmecghjnghhhkaa
open Go.RowKit

theorem isOf_eq (t : Tm) (s : ByteArray) (n : Int) : t.erase.isOf s.toList n = ((t.k == 4 || t.k == 3) && (t.s.toList == s.toList) && ((t.l.length : Int) == n)) := by
  obtain ⟨k, n', s', p, c, l⟩ := t
  have h1 : (s'.toList == s.toList) = decide (s'.toList = s.toList) := by rw [Bool.eq_iff_iff]; simp
  show _ = ((k == 4 || k == 3) && (s'.toList == s.toList) && ((l.length : Int) == n))
  rw [h1, ← Tm.eraseL_length l]
  rfl

set_option maxHeartbeats 1000000 in
set_option maxRecDepth 100000 in
theorem is_calls (t : Tm) (s : ByteArray) (n : Int) (w : World) : Calls Try.prog 121 #[t.val, .string s, .int .i64 n] w (Ret (.bool (t.erase.isOf s.toList n)) w) := by
  have hR : Hid (∀ b, t.erase.isOf s.toList n = b → ∀ w', Gr w w' → Ret (.bool (t.erase.isOf s.toList n)) w (.returned (.bool b)) w') := fun b hb w' hg => ⟨by rw [hb], hg⟩
  rw [isOf_eq] at hR ⊢
  generalize hQ : Ret _ w = Q at hR ⊢
  clear hQ
  obtain ⟨k, n', s', p, c, l⟩ := t
  simp only [Tm.val, Tm.k, Tm.n, Tm.s, Tm.p, Tm.c, Tm.l] at hR ⊢
  cases h4 : (k == 4) <;> cases h3 : (k == 3) <;> cases hs : (s'.toList == s.toList) <;> cases hl : ((l.length : Int) == n) <;> rw [h4, h3, hs, hl] at hR
  all_goals
    go_enter Try.func121, Try.ntmps121
    go_wp2_with fail
    exact hR.out _ rfl _ (by go_grown)


set_option maxHeartbeats 1000000 in
theorem callable_calls (t : Tm) (w : World) : Calls Try.prog 123 #[t.val] w (Ret (.bool t.erase.callable) w) := by
  have hc : t.erase.callable = (t.k == 3 || t.k == 4) := by obtain ⟨k, n', s', p, c, l⟩ := t; rfl
  rw [hc]
  have hR : Hid (∀ b, (t.k == 3 || t.k == 4) = b → ∀ w', Gr w w' → Ret (.bool (t.k == 3 || t.k == 4)) w (.returned (.bool b)) w') := fun b hb w' hg => ⟨by rw [hb], hg⟩
  generalize hQ : Ret _ w = Q at hR ⊢
  clear hQ hc
  obtain ⟨k, n', s', p, c, l⟩ := t
  simp only [Tm.val, Tm.k, Tm.n, Tm.s, Tm.p, Tm.c, Tm.l] at hR ⊢
  cases h3 : (k == 3) <;> cases h4 : (k == 4) <;> rw [h3, h4] at hR
  all_goals
    go_enter Try.func123, Try.ntmps123
    go_wp2_with fail
    exact hR.out _ rfl _ (by go_grown)

theorem atomA_calls (s : ByteArray) (w : World) : Calls Try.prog 120 #[.string s] w (Ret (.agg #[.int .i64 3, .int .i64 0, .string s, .slice none 0 0]) w) := by
  go_enter Try.func120, Try.ntmps120
  go_wp2_with fail
  exact bodyPost_ret (v := .agg #[.int .i64 3, .int .i64 0, .string s, .slice none 0 0]) (by simp [results, Try.results120, go_sem]) rfl ⟨rfl, by go_grown⟩

theorem atomR_calls (s : ByteArray) (w : World) : Calls Try.prog 76 #[.string s] w (Ret (.agg #[.int .i64 3, .int .i64 0, .string s, .slice none 0 0]) w) := by
  go_enter Try.func76, Try.ntmps76
  go_wp2_with fail
  exact bodyPost_ret (v := .agg #[.int .i64 3, .int .i64 0, .string s, .slice none 0 0]) (by simp [results, Try.results76, go_sem]) rfl ⟨rfl, by go_grown⟩

end Go.Proofs.Ytmecghjnghhhkaa

namespace Go.Proofs.Ytmecghjnghhhkaa
open Go.RowKit

def T.check (t : T) : Int := if t.formed then 0 else 2

set_option maxHeartbeats 400000 in
theorem check_calls {t : Tm} {w : World} (h : t.In w) : Calls Try.prog 42 #[t.val] w (Ret (.int .i64 (T.check t.erase)) w) := by
  have H := Lib.hid h
  clear h
  generalize hb : t.erase.formed = b
  have hr : T.check t.erase = if b then 0 else 2 := by rw [T.check, hb]
  rw [hr]
  have Hb := Lib.hid hb
  clear hb hr
  simp only [Tm.val]
  cases b
  all_goals
    go_enter Try.func42, Try.ntmps42
    go_wp2_with fail
    refine (formed_calls (t := t) (Tm.In_below (by go_grown) H.out)).mono ?_
    rintro e w1 ⟨rfl, hb1⟩
    rw [Hb.out]
    go_wp2_with fail
    go_ret
    exact ret_int' rfl (below_step hb1 (by go_grown))

/-- A block that holds a term. -/
def Boxed (w : World) (b : Nat) (t : Tm) : Prop :=
  w.cell? ⟨b, 0, none⟩ = some (.int .i64 t.k) ∧ w.cell? ⟨b, 1, none⟩ = some (.int .i64 t.n) ∧ w.cell? ⟨b, 2, none⟩ = some (.string t.s) ∧ w.cell? ⟨b, 3, none⟩ = some (.slice t.p t.l.length t.c)
theorem Boxed.gr {w w' : World} {b : Nat} {t : Tm} (hg : Gr w w') (h : Boxed w b t) : Boxed w' b t :=
  ⟨Gr.at hg h.1, Gr.at hg h.2.1, Gr.at hg h.2.2.1, Gr.at hg h.2.2.2⟩

/-- Two results. -/
def Ret2 (u v : Value) (w : World) (e : Ending) (w' : World) : Prop := e = .returned (.tuple #[u, v]) ∧ Gr w w'

theorem two_row {t u : Tm} {w : World} {b : Nat} (ht : t.In w) (hu : u.In w)
    (c0 : w.cell? ⟨b, 0, none⟩ = some (.int .i64 t.k)) (c1 : w.cell? ⟨b, 1, none⟩ = some (.int .i64 t.n)) (c2 : w.cell? ⟨b, 2, none⟩ = some (.string t.s)) (c3 : w.cell? ⟨b, 3, none⟩ = some (.slice t.p t.l.length t.c))
    (d0 : w.cell? ⟨b, 4, none⟩ = some (.int .i64 u.k)) (d1 : w.cell? ⟨b, 5, none⟩ = some (.int .i64 u.n)) (d2 : w.cell? ⟨b, 6, none⟩ = some (.string u.s)) (d3 : w.cell? ⟨b, 7, none⟩ = some (.slice u.p u.l.length u.c)) :
    Tm.Sl w (some ⟨b, 0, none⟩) 2 [t, u] := by
  refine ⟨Nat.le_refl _, ⟨by simp, by simp⟩, .inr ⟨b, 0, rfl, ?_⟩, Tm.InL_of fun x hx => ?_⟩
  · intro i x hx
    match i, hx with
    | 0, hx => cases hx; exact ⟨c0, c1, c2, c3⟩
    | 1, hx => cases hx; exact ⟨d0, d1, d2, d3⟩
  · simp only [List.mem_cons, List.mem_nil_iff, or_false] at hx
    rcases hx with rfl | rfl
    · exact ht
    · exact hu

set_option maxHeartbeats 400000 in
theorem compare_yes {t u : Tm} {w : World} (h : t.In w) (hu : u.In w) (ft : t.erase.formed = true) (fu : u.erase.formed = true) :
    Calls Try.prog 112 #[t.val, u.val] w (Ret2 (.int .i64 (T.order t.erase u.erase)) (.int .i64 0) w) := by
  have H := Lib.hid h
  have Hu := Lib.hid hu
  have Hb : Hid (T.formedL (Tm.eraseL [t, u]) = true) := by show T.formedL (Tm.eraseL [t, u]) = true; simp [Tm.eraseL, T.formedL, ft, fu]
  clear h hu ft fu
  generalize hr : T.order t.erase u.erase = r
  have Hr := Lib.hid hr
  clear hr
  simp only [Tm.val]
  go_enter Try.func112, Try.ntmps112
  go_wp2_with fail
  refine (all_calls (two_row (t := t) (u := u) (Tm.In_below (by go_grown) H.out) (Tm.In_below (by go_grown) Hu.out) (by go_cell) (by go_cell) (by go_cell) (by go_cell) (by go_cell) (by go_cell) (by go_cell) (by go_cell))).mono ?_
  rintro e w1 ⟨rfl, hb1⟩
  rw [Hb.out]
  have hb0 : Gr w w1 := below_step hb1 (by go_grown)
  have z0 : w1.cell? ⟨w.heap.size, 0, none⟩ = some (.int .i64 t.k) := Gr.at hb1 (by go_cell)
  have z1 : w1.cell? ⟨w.heap.size, 1, none⟩ = some (.int .i64 t.n) := Gr.at hb1 (by go_cell)
  have z2 : w1.cell? ⟨w.heap.size, 2, none⟩ = some (.string t.s) := Gr.at hb1 (by go_cell)
  have z3 : w1.cell? ⟨w.heap.size, 3, none⟩ = some (.slice t.p t.l.length t.c) := Gr.at hb1 (by go_cell)
  have y0 : w1.cell? ⟨w.heap.size + 1, 0, none⟩ = some (.int .i64 u.k) := Gr.at hb1 (by go_cell)
  have y1 : w1.cell? ⟨w.heap.size + 1, 1, none⟩ = some (.int .i64 u.n) := Gr.at hb1 (by go_cell)
  have y2 : w1.cell? ⟨w.heap.size + 1, 2, none⟩ = some (.string u.s) := Gr.at hb1 (by go_cell)
  have y3 : w1.cell? ⟨w.heap.size + 1, 3, none⟩ = some (.slice u.p u.l.length u.c) := Gr.at hb1 (by go_cell)
  clear hb1
  go_wp2_with fail
  refine (order_calls (t := t) (u := u) (Tm.In_below hb0 H.out) (Tm.In_below hb0 Hu.out)).mono ?_
  rintro e w2 ⟨rfl, hb2⟩
  rw [Hr.out]
  go_wp2_with fail
  go_ret2
  exact ⟨rfl, hb0.trans hb2⟩
end Go.Proofs.Ytmecghjnghhhkaa
