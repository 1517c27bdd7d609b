/-
  Matching, plain: one term to another, with what the variables have got so far.
  Robinson's road, plain: what it answers, and that this is the general unifier.
-/
import Derived.Test.YtcblmkhhhibddaaTS10
import Derived.Test.YtcblmkhhhibddaaTS08
import Derived.Test.YtcblmkhhhibddaaTS15
namespace Go.Proofs.Ytcblmkhhhibddaa

mutual
/-- The pattern is laid on the term. -/
def T.mat : T → T → (Int → Option T) → Option (Int → Option T)
  | .mk k n s l, t, f =>
    if k = 1 then (match f n with
      | none => some (putF f n t)
      | some x => if T.order x t = 0 then some f else none)
    else if k = t.k ∧ n = t.n ∧ s = t.s ∧ l.length = t.l.length then T.matL l t.l f else none
def T.matL : List T → List T → (Int → Option T) → Option (Int → Option T)
  | x :: xs, y :: ys, f => (match T.mat x y f with
    | none => none
    | some g => T.matL xs ys g)
  | _, _, f => some f
end

theorem T.eta (t : T) : t = .mk t.k t.n t.s t.l := by cases t; rfl
theorem formed_args' {t : T} (h : t.formed = true) : T.formedL t.l = true := by
  obtain ⟨k, n, s, l⟩ := t
  rcases formed_args h with ⟨_, h⟩ | ⟨_, h⟩
  · exact h
  · show T.formedL l = true
    rw [h, T.formedL]

/-- What the variables have. -/
def Got (g : Int → Option T) (n : Int) : T := (g n).getD (varT n)
/-- From f on to g, over variables of which O speaks. -/
structure Mats (f g : Int → Option T) (O : Int → Prop) : Prop where
  up : ∀ n x, f n = some x → g n = some x
  dom : ∀ n, g n ≠ none → f n ≠ none ∨ O n
  all : ∀ n, O n → g n ≠ none
theorem Mats.got {f g : Int → Option T} {O : Int → Prop} (h : Mats f g O) {n : Int} (hn : f n ≠ none) : Got g n = Got f n := by
  cases hf : f n with
  | none => exact absurd hf hn
  | some x => rw [Got, Got, hf, h.up n x hf]

mutual
theorem mat_some : ∀ (p t : T) (f g : Int → Option T), p.formed = true → t.formed = true → (∀ n x, f n = some x → x.formed = true) → T.mat p t f = some g → Mats f g (fun n => T.occ n p) ∧ T.map (Got g) p = t ∧ ∀ n x, g n = some x → x.formed = true
  | .mk k n s l, t, f, g, hp, ht, hf, h => by
    rw [T.mat] at h
    by_cases hk : k = 1
    · subst hk
      rw [if_pos rfl] at h
      obtain ⟨_, rfl, rfl⟩ := formed_var hp
      have hocc : ∀ m, T.occ m (T.mk 1 n [] []) ↔ n = m := fun m => T.occ_var
      have hmap : T.map (Got g) (T.mk 1 n [] []) = Got g n := T.map_var _ n
      rw [hmap]
      cases hfn : f n with
      | none =>
        rw [hfn] at h
        simp only [Option.some.injEq] at h
        subst h
        refine ⟨⟨fun m x hm => ?_, fun m hm => ?_, fun m hm => ?_⟩, ?_, fun m x hm => ?_⟩
        · rw [putF]
          by_cases e : m = n
          · subst e; rw [hfn] at hm; cases hm
          · rw [if_neg e]; exact hm
        · rw [putF] at hm
          by_cases e : m = n
          · right; exact (hocc m).2 e.symm
          · rw [if_neg e] at hm; exact .inl hm
        · obtain rfl := (hocc m).1 hm
          rw [putF, if_pos rfl]
          exact fun h => nomatch h
        · rw [Got, putF, if_pos rfl]; rfl
        · rw [putF] at hm
          by_cases e : m = n
          · rw [if_pos e] at hm; cases hm; exact ht
          · rw [if_neg e] at hm; exact hf m x hm
      | some y =>
        rw [hfn] at h
        simp only at h
        by_cases ho : T.order y t = 0
        · rw [if_pos ho] at h
          simp only [Option.some.injEq] at h
          subst h
          obtain rfl := (order_zero y t (hf n y hfn) ht).1 ho
          refine ⟨⟨fun m x hm => hm, fun m hm => .inl hm, fun m hm => ?_⟩, ?_, hf⟩
          · obtain rfl := (hocc m).1 hm
            rw [hfn]
            exact fun h => nomatch h
          · rw [Got, hfn]; rfl
        · rw [if_neg ho] at h; cases h
    · rw [if_neg hk] at h
      by_cases hh : k = t.k ∧ n = t.n ∧ s = t.s ∧ l.length = t.l.length
      · rw [if_pos hh] at h
        obtain ⟨h1, h2, h3, h4⟩ := hh
        obtain ⟨m1, m2, m3⟩ := matL_some l t.l f g (formed_args' hp) (formed_args' ht) h4 hf h
        have hocc : ∀ m, T.occ m (T.mk k n s l) ↔ T.occL m l := fun m => by
          rw [T.occ, if_neg hk]
          rcases formed_args hp with ⟨h9, _⟩ | ⟨h9, h8⟩
          · rw [if_pos h9]
          · rw [if_neg h9, h8]
            constructor
            · exact False.elim
            · intro h
              rw [T.occL] at h
              exact h
        refine ⟨⟨m1.up, fun m hm => (m1.dom m hm).imp id fun h => (hocc m).2 h, fun m hm => m1.all m ((hocc m).1 hm)⟩, ?_, m3⟩
        rw [T.map, if_neg hk]
        rcases formed_args hp with ⟨h9, _⟩ | ⟨h9, h8⟩
        · rw [if_pos h9, m2, h1, h2, h3]
          exact (T.eta t).symm
        · rw [if_neg h9, h1, h2, h3]
          subst h8
          conv => rhs; rw [T.eta t]
          rw [List.eq_nil_of_length_eq_zero h4.symm]
      · rw [if_neg hh] at h; cases h
theorem matL_some : ∀ (p t : List T) (f g : Int → Option T), T.formedL p = true → T.formedL t = true → p.length = t.length → (∀ n x, f n = some x → x.formed = true) → T.matL p t f = some g → Mats f g (fun n => T.occL n p) ∧ T.mapL (Got g) p = t ∧ ∀ n x, g n = some x → x.formed = true
  | [], [], f, g, _, _, _, hf, h => by
    rw [T.matL] at h
    simp only [Option.some.injEq] at h
    subst h
    refine ⟨⟨fun m x hm => hm, fun m hm => .inl hm, fun m hm => ?_⟩, by rw [T.mapL], hf⟩
    have : T.occL m [] := hm
    rw [T.occL] at this
    exact this.elim
    all_goals intros; simp_all
  | [], _ :: _, _, _, _, _, hl, _, _ => by simp at hl
  | _ :: _, [], _, _, _, _, hl, _, _ => by simp at hl
  | x :: xs, y :: ys, f, g, hp, ht, hl, hf, h => by
    rw [T.formedL, Bool.and_eq_true] at hp ht
    rw [T.matL] at h
    cases hm : T.mat x y f with
    | none => rw [hm] at h; cases h
    | some e =>
      rw [hm] at h
      simp only at h
      obtain ⟨a1, a2, a3⟩ := mat_some x y f e hp.1 ht.1 hf hm
      obtain ⟨b1, b2, b3⟩ := matL_some xs ys e g hp.2 ht.2 (by simpa using hl) a3 h
      refine ⟨⟨fun n z hn => b1.up n z (a1.up n z hn), fun n hn => ?_, fun n hn => ?_⟩, ?_, b3⟩
      · rcases b1.dom n hn with h1 | h1
        · exact (a1.dom n h1).imp id fun h => by rw [T.occL]; exact .inl h
        · right; rw [T.occL]; exact .inr h1
      · have : T.occL n (x :: xs) := hn
        rw [T.occL] at this
        rcases this with h1 | h1
        · cases he : e n with
          | none => exact absurd he (a1.all n h1)
          | some z => rw [b1.up n z he]; exact fun h => nomatch h
        · exact b1.all n h1
      · rw [T.mapL, b2, ← a2]
        congr 1
        exact T.map_congr x fun n hn => b1.got (a1.all n hn)
end
mutual
/-- Where it can be done it is done. -/
theorem mat_full : ∀ (p t : T) (f : Int → Option T) (θ : Int → T), p.formed = true → t.formed = true → (∀ n x, f n = some x → x.formed = true ∧ θ n = x) → T.map θ p = t → ∃ g, T.mat p t f = some g ∧ ∀ n x, g n = some x → x.formed = true ∧ θ n = x
  | .mk k n s l, t, f, θ, hp, ht, hf, h => by
    rw [T.mat]
    by_cases hk : k = 1
    · subst hk
      rw [if_pos rfl]
      obtain ⟨_, rfl, rfl⟩ := formed_var hp
      have hθ : θ n = t := by
        rw [← h]
        exact (T.map_var θ n).symm
      cases hfn : f n with
      | none =>
        refine ⟨_, rfl, fun m x hm => ?_⟩
        rw [putF] at hm
        by_cases e : m = n
        · rw [if_pos e] at hm; cases hm; exact ⟨ht, by rw [e]; exact hθ⟩
        · rw [if_neg e] at hm; exact hf m x hm
      | some y =>
        have := (hf n y hfn).2
        have hy : y = t := by rw [← this, hθ]
        subst hy
        refine ⟨f, ?_, hf⟩
        simp only
        rw [if_pos ((order_zero y y ht ht).2 rfl)]
    · rw [if_neg hk]
      rw [T.map, if_neg hk] at h
      rcases formed_args hp with ⟨h9, h8⟩ | ⟨h9, h8⟩
      · rw [if_pos h9] at h
        subst h
        have hlen : (T.mapL θ l).length = l.length := by rw [T.mapL_eq, List.length_map]
        rw [if_pos ⟨rfl, rfl, rfl, hlen.symm⟩]
        exact matL_full l (T.mapL θ l) f θ h8 (formed_args' ht) hlen.symm hf rfl
      · rw [if_neg h9] at h
        subst h
        subst h8
        rw [if_pos ⟨rfl, rfl, rfl, rfl⟩]
        exact matL_full [] [] f θ (by rw [T.formedL]) (by rw [T.formedL]) rfl hf (by rw [T.mapL])
theorem matL_full : ∀ (p t : List T) (f : Int → Option T) (θ : Int → T), T.formedL p = true → T.formedL t = true → p.length = t.length → (∀ n x, f n = some x → x.formed = true ∧ θ n = x) → T.mapL θ p = t → ∃ g, T.matL p t f = some g ∧ ∀ n x, g n = some x → x.formed = true ∧ θ n = x
  | [], [], f, θ, _, _, _, hf, _ => ⟨f, by rw [T.matL]; intros; simp_all, hf⟩
  | [], _ :: _, _, _, _, _, hl, _, _ => by simp at hl
  | _ :: _, [], _, _, _, _, hl, _, _ => by simp at hl
  | x :: xs, y :: ys, f, θ, hp, ht, hl, hf, h => by
    rw [T.formedL, Bool.and_eq_true] at hp ht
    rw [T.mapL] at h
    injection h with h1 h2
    obtain ⟨e, he, hf2⟩ := mat_full x y f θ hp.1 ht.1 hf h1
    obtain ⟨g, hg, hf3⟩ := matL_full xs ys e θ hp.2 ht.2 (by simpa using hl) hf2 h2
    refine ⟨g, ?_, hf3⟩
    rw [T.matL, he]
    exact hg
end

/-- One term can be laid on another. -/
def T.matches (p t : T) : Prop := ∃ θ, T.map θ p = t
theorem mat_iff {p t : T} (hp : p.formed = true) (ht : t.formed = true) : (T.mat p t fun _ => none).isSome = true ↔ T.matches p t := by
  constructor
  · intro h
    obtain ⟨g, hg⟩ := Option.isSome_iff_exists.1 h
    exact ⟨_, (mat_some p t (fun _ => none) g hp ht (fun _ _ h => by cases h) hg).2.1⟩
  · rintro ⟨θ, h⟩
    obtain ⟨g, hg, _⟩ := mat_full p t (fun _ => none) θ hp ht (fun _ _ h => by cases h) h
    rw [hg]; rfl
end Go.Proofs.Ytcblmkhhhibddaa

namespace Go.Proofs.Ytcblmkhhhibddaa

mutual
/-- The first place at which two terms differ. -/
def T.diff : T → T → Option (T × T)
  | .mk k n s l, .mk k' n' s' l' => if k = 4 ∧ k' = 4 ∧ s = s' ∧ l.length = l'.length then T.diffL l l' else if T.same (.mk k n s l) (.mk k' n' s' l') = true then none else some (.mk k n s l, .mk k' n' s' l')
def T.diffL : List T → List T → Option (T × T)
  | x :: xs, y :: ys => match T.diff x y with
    | some p => some p
    | none => T.diffL xs ys
  | _, _ => none
end

theorem formed_comp {n : Int} {s : List UInt8} {l : List T} (h : (T.mk 4 n s l).formed = true) : n = 0 ∧ s.length ≤ 100 ∧ 1 ≤ l.length ∧ l.length ≤ 50 ∧ T.formedL l = true := by
  rw [T.formed] at h
  simp at h
  exact ⟨h.1.1.1.1, h.1.1.1.2, h.1.1.2, h.1.2, h.2⟩

mutual
theorem T.diff_none : ∀ a b : T, a.formed = true → b.formed = true → T.diff a b = none → a = b
  | .mk k n s l, .mk k' n' s' l', ha, hb, h => by
    rw [T.diff] at h
    by_cases hc : k = 4 ∧ k' = 4 ∧ s = s' ∧ l.length = l'.length
    · rw [if_pos hc] at h
      obtain ⟨rfl, rfl, rfl, hl⟩ := hc
      obtain ⟨rfl, _, _, _, h1⟩ := formed_comp ha
      obtain ⟨rfl, _, _, _, h2⟩ := formed_comp hb
      rw [T.diffL_none l l' h1 h2 hl h]
    · rw [if_neg hc] at h
      by_cases hs : T.same (.mk k n s l) (.mk k' n' s' l') = true
      · exact (same_iff _ _).1 hs
      · rw [if_neg hs] at h; cases h
theorem T.diffL_none : ∀ a b : List T, T.formedL a = true → T.formedL b = true → a.length = b.length → T.diffL a b = none → a = b
  | [], [], _, _, _, _ => rfl
  | x :: xs, y :: ys, ha, hb, hl, h => by
    rw [T.formedL, Bool.and_eq_true] at ha hb
    rw [T.diffL] at h
    cases hd : T.diff x y with
    | some p => rw [hd] at h; cases h
    | none =>
      rw [hd] at h
      rw [T.diff_none x y ha.1 hb.1 hd, T.diffL_none xs ys ha.2 hb.2 (by simpa using hl) h]
end
/-- What is found where two terms differ. -/
structure Differ (a b : T → Prop) (u : (Int → T) → Prop) (p : T × T) : Prop where
  fx : p.1.formed = true
  fy : p.2.formed = true
  ox : a p.1
  oy : b p.2
  go : ∀ θ, u θ → T.map θ p.1 = T.map θ p.2
  ne : p.1 ≠ p.2
  head : ¬ (p.1.k = 4 ∧ p.2.k = 4 ∧ p.1.s = p.2.s ∧ p.1.l.length = p.2.l.length)
mutual
theorem T.diff_some : ∀ (a b : T) (p : T × T), a.formed = true → b.formed = true → T.diff a b = some p → Differ (fun x => ∀ m, T.occ m x → T.occ m a) (fun y => ∀ m, T.occ m y → T.occ m b) (fun θ => T.map θ a = T.map θ b) p
  | .mk k n s l, .mk k' n' s' l', p, ha, hb, h => by
    rw [T.diff] at h
    by_cases hc : k = 4 ∧ k' = 4 ∧ s = s' ∧ l.length = l'.length
    · rw [if_pos hc] at h
      obtain ⟨rfl, rfl, rfl, hl⟩ := hc
      obtain ⟨rfl, _, _, _, h1⟩ := formed_comp ha
      obtain ⟨rfl, _, _, _, h2⟩ := formed_comp hb
      have := T.diffL_some l l' p h1 h2 hl h
      refine ⟨this.fx, this.fy, fun m hm => ?_, fun m hm => ?_, fun θ hθ => this.go θ ?_, this.ne, this.head⟩
      · rw [T.occ, if_neg (by decide), if_pos rfl]; exact this.ox m hm
      · rw [T.occ, if_neg (by decide), if_pos rfl]; exact this.oy m hm
      · rw [T.map, T.map, if_neg (by decide), if_pos rfl, if_neg (by decide), if_pos rfl] at hθ
        injection hθ
    · rw [if_neg hc] at h
      by_cases hs : T.same (.mk k n s l) (.mk k' n' s' l') = true
      · rw [if_pos hs] at h; cases h
      · rw [if_neg hs] at h
        cases h
        exact ⟨ha, hb, fun _ hm => hm, fun _ hm => hm, fun _ hθ => hθ, fun e => hs ((same_iff _ _).2 e), hc⟩
theorem T.diffL_some : ∀ (a b : List T) (p : T × T), T.formedL a = true → T.formedL b = true → a.length = b.length → T.diffL a b = some p → Differ (fun x => ∀ m, T.occ m x → T.occL m a) (fun y => ∀ m, T.occ m y → T.occL m b) (fun θ => T.mapL θ a = T.mapL θ b) p
  | [], [], _, _, _, _, h => by rw [T.diffL] at h; cases h; all_goals simp
  | x :: xs, y :: ys, p, ha, hb, hl, h => by
    rw [T.formedL, Bool.and_eq_true] at ha hb
    rw [T.diffL] at h
    cases hd : T.diff x y with
    | some q =>
      rw [hd] at h
      cases h
      have := T.diff_some x y p ha.1 hb.1 hd
      refine ⟨this.fx, this.fy, fun m hm => ?_, fun m hm => ?_, fun θ hθ => this.go θ ?_, this.ne, this.head⟩
      · rw [T.occL]; exact .inl (this.ox m hm)
      · rw [T.occL]; exact .inl (this.oy m hm)
      · rw [T.mapL, T.mapL] at hθ
        injection hθ
    | none =>
      rw [hd] at h
      have := T.diffL_some xs ys p ha.2 hb.2 (by simpa using hl) h
      refine ⟨this.fx, this.fy, fun m hm => ?_, fun m hm => ?_, fun θ hθ => this.go θ ?_, this.ne, this.head⟩
      · rw [T.occL]; exact .inr (this.ox m hm)
      · rw [T.occL]; exact .inr (this.oy m hm)
      · rw [T.mapL, T.mapL] at hθ
        injection hθ
end

/-- Heads that differ do not come together. -/
theorem head_clash {θ : Int → T} {x y : T} (hx : x.formed = true) (hy : y.formed = true) (h1 : x.k ≠ 1) (h2 : y.k ≠ 1) (hne : x ≠ y) (hh : ¬ (x.k = 4 ∧ y.k = 4 ∧ x.s = y.s ∧ x.l.length = y.l.length)) : T.map θ x ≠ T.map θ y := by
  obtain ⟨k, n, s, l⟩ := x
  obtain ⟨k', n', s', l'⟩ := y
  simp only [T.k, T.s, T.l] at h1 h2 hh
  intro h
  rw [T.map, T.map, if_neg h1, if_neg h2] at h
  by_cases h4 : k = 4
  · rw [if_pos h4] at h
    by_cases h5 : k' = 4
    · rw [if_pos h5] at h
      injection h with e1 e2 e3 e4
      refine hh ⟨h4, h5, e3, ?_⟩
      have := congrArg List.length e4
      rwa [T.mapL_length, T.mapL_length] at this
    · rw [if_neg h5] at h
      injection h with e1
      exact h5 (e1.symm.trans h4)
  · rw [if_neg h4] at h
    by_cases h5 : k' = 4
    · rw [if_pos h5] at h
      injection h with e1
      exact h4 (e1.trans h5)
    · rw [if_neg h5] at h
      injection h with e1 e2 e3
      rcases formed_args hx with ⟨h6, _⟩ | ⟨_, rfl⟩
      · exact h4 h6
      rcases formed_args hy with ⟨h6, _⟩ | ⟨_, rfl⟩
      · exact h5 h6
      exact hne (by rw [e1, e2, e3])

/-- Which side is bound. -/
def orient (x y : T) : T × T := if y.k = 1 ∧ (x.k ≠ 1 ∨ x.n < y.n) then (y, x) else (x, y)
theorem orient_or (x y : T) : orient x y = (x, y) ∨ orient x y = (y, x) := by
  rw [orient]; split
  · exact .inr rfl
  · exact .inl rfl
theorem orient_nonvar {x y : T} (h : (orient x y).1.k ≠ 1) : x.k ≠ 1 ∧ y.k ≠ 1 := by
  rw [orient] at h
  split at h
  · rename_i h1; exact absurd h1.1 h
  · rename_i h1
    refine ⟨h, fun hy => h1 ⟨hy, .inl h⟩⟩
theorem orient_low {x y : T} (hx : x.formed = true) (_ : y.formed = true) (hne : x ≠ y) (h : (orient x y).1.k = 1) : ∀ m, (orient x y).2 = varT m → m < (orient x y).1.n := by
  intro m hm
  rw [orient] at h hm ⊢
  split at h
  · rename_i h1
    rw [if_pos h1] at hm ⊢
    simp only at hm ⊢
    rcases h1.2 with h2 | h2
    · rw [hm] at h2; exact absurd rfl h2
    · rw [hm] at h2; exact h2
  · rename_i h1
    rw [if_neg h1] at hm ⊢
    simp only at hm ⊢ h
    by_cases h2 : m < x.n
    · exact h2
    · refine absurd ⟨by rw [hm]; rfl, .inr ?_⟩ h1
      have h4 : y.n = m := by rw [hm]; rfl
      rw [h4]
      by_cases h3 : x.n < m
      · exact h3
      · refine absurd ?_ hne
        rw [hm, var_of_k hx h, show x.n = m by omega]

def Fat (t : T) : Prop := 100000 < T.sz t
inductive RobOut where
  | grown
  | clash
  | done (σ : Int → T)
/-- Robinson's road over some pairs. -/
inductive Rob : (Int → T) → List (T × T) → RobOut → Prop
  | nil (σ) : Rob σ [] (.done σ)
  | fat {σ a b E} (h : Fat (T.map σ a) ∨ Fat (T.map σ b)) : Rob σ ((a, b) :: E) .grown
  | same {σ a b E o} (h : ¬ (Fat (T.map σ a) ∨ Fat (T.map σ b))) (hd : T.diff (T.map σ a) (T.map σ b) = none) (hr : Rob σ E o) : Rob σ ((a, b) :: E) o
  | clash {σ a b E x y} (h : ¬ (Fat (T.map σ a) ∨ Fat (T.map σ b))) (hd : T.diff (T.map σ a) (T.map σ b) = some (x, y)) (hc : (orient x y).1.k ≠ 1 ∨ T.occ (orient x y).1.n (orient x y).2) : Rob σ ((a, b) :: E) .clash
  | grow {σ a b E x y} (h : ¬ (Fat (T.map σ a) ∨ Fat (T.map σ b))) (hd : T.diff (T.map σ a) (T.map σ b) = some (x, y)) (hc : ¬ ((orient x y).1.k ≠ 1 ∨ T.occ (orient x y).1.n (orient x y).2)) (hf : ∃ n, Fat (stepF σ (orient x y).1.n (orient x y).2 n)) : Rob σ ((a, b) :: E) .grown
  | step {σ a b E x y o} (h : ¬ (Fat (T.map σ a) ∨ Fat (T.map σ b))) (hd : T.diff (T.map σ a) (T.map σ b) = some (x, y)) (hc : ¬ ((orient x y).1.k ≠ 1 ∨ T.occ (orient x y).1.n (orient x y).2)) (hf : ¬ ∃ n, Fat (stepF σ (orient x y).1.n (orient x y).2 n)) (hr : Rob (stepF σ (orient x y).1.n (orient x y).2) ((a, b) :: E) o) : Rob σ ((a, b) :: E) o

def FormedP (E : List (T × T)) : Prop := ∀ p ∈ E, p.1.formed = true ∧ p.2.formed = true
def Unif (θ : Int → T) (E : List (T × T)) : Prop := ∀ p ∈ E, T.map θ p.1 = T.map θ p.2

/-- What one difference gives. -/
theorem differ_step {σ : Int → T} (hσ : Canon σ) {a b x y : T} (ha : a.formed = true) (hb : b.formed = true) (hd : T.diff (T.map σ a) (T.map σ b) = some (x, y)) :
    (∀ θ, Through θ σ → T.map θ a = T.map θ b → T.map θ (orient x y).1 = T.map θ (orient x y).2) ∧ (orient x y).1.formed = true ∧ (orient x y).2.formed = true ∧
    (∀ m, T.occ m (orient x y).1 → σ m = varT m) ∧ (∀ m, T.occ m (orient x y).2 → σ m = varT m) ∧ (orient x y).1 ≠ (orient x y).2 ∧
    ((orient x y).1.k ≠ 1 → ∀ θ, T.map θ (orient x y).1 ≠ T.map θ (orient x y).2) ∧ ((orient x y).1.k = 1 → ∀ m, (orient x y).2 = varT m → m < (orient x y).1.n) := by
  have h := T.diff_some _ _ _ (hσ.map ha) (hσ.map hb) hd
  have h1 : ∀ θ, Through θ σ → T.map θ a = T.map θ b → T.map θ x = T.map θ y := fun θ ht he => h.go θ (by rw [ht.map, ht.map, he])
  have hx : ∀ m, T.occ m x → σ m = varT m := fun m hm => hσ.occ_free (h.ox m hm)
  have hy : ∀ m, T.occ m y → σ m = varT m := fun m hm => hσ.occ_free (h.oy m hm)
  have hcl : (orient x y).1.k ≠ 1 → ∀ θ, T.map θ x ≠ T.map θ y := fun hk θ => by
    obtain ⟨k1, k2⟩ := orient_nonvar hk
    exact head_clash h.fx h.fy k1 k2 h.ne h.head
  have hlow := orient_low h.fx h.fy h.ne
  rcases orient_or x y with ho | ho
  · rw [ho] at hcl hlow ⊢
    exact ⟨h1, h.fx, h.fy, hx, hy, h.ne, hcl, hlow⟩
  · rw [ho] at hcl hlow ⊢
    exact ⟨fun θ ht he => (h1 θ ht he).symm, h.fy, h.fx, hy, hx, fun e => h.ne e.symm, fun hk θ e => hcl hk θ e.symm, hlow⟩
theorem differ_canon {σ : Int → T} (hσ : Canon σ) {a b x y : T} (ha : a.formed = true) (hb : b.formed = true) (hd : T.diff (T.map σ a) (T.map σ b) = some (x, y)) (hc : ¬ ((orient x y).1.k ≠ 1 ∨ T.occ (orient x y).1.n (orient x y).2)) :
    Canon (stepF σ (orient x y).1.n (orient x y).2) ∧ (∀ θ, Through θ σ → T.map θ a = T.map θ b → Through θ (stepF σ (orient x y).1.n (orient x y).2)) ∧ (orient x y).1 = varT (orient x y).1.n ∧ σ (orient x y).1.n = varT (orient x y).1.n ∧ stepF σ (orient x y).1.n (orient x y).2 (orient x y).1.n = (orient x y).2 ∧ (0 ≤ (orient x y).1.n ∧ (orient x y).1.n ≤ 1099511627776) := by
  obtain ⟨h1, h2, h3, h4, h5, h6, h7, h8⟩ := differ_step hσ ha hb hd
  generalize (orient x y).1 = u at *
  generalize (orient x y).2 = v at *
  have hk : u.k = 1 := Classical.byContradiction fun h => hc (.inl h)
  have hu := var_of_k h2 hk
  have hun : σ u.n = varT u.n := h4 u.n (by rw [hu]; exact T.occ_var.2 rfl)
  have hr : 0 ≤ u.n ∧ u.n ≤ 1099511627776 := by
    rw [hu, varT] at h2
    exact (formed_var h2).1
  refine ⟨hσ.step hun hr h3 h5 (fun ho => hc (.inr ho)) (h8 hk), fun θ ht he => ht.step ?_, hu, hun, ?_, hr⟩
  · rw [← h1 θ ht he]
    conv => lhs; rw [hu]
    exact T.map_var θ u.n
  · rw [stepF, hun, T.map_var, oneF, if_pos rfl]

/-- What is answered is the general unifier. -/
theorem Rob.sound {σ : Int → T} {E : List (T × T)} {o : RobOut} (h : Rob σ E o) : Canon σ → FormedP E →
    (∀ ρ, o = .done ρ → Canon ρ ∧ Through ρ σ ∧ Unif ρ E ∧ ∀ θ, Through θ σ → Unif θ E → Through θ ρ) ∧ (o = .clash → ∀ θ, Through θ σ → ¬ Unif θ E) := by
  induction h with
  | nil σ =>
    intro hc _
    refine ⟨fun ρ e => ?_, (fun e => nomatch e)⟩
    cases e
    exact ⟨hc, hc.self, (fun p hp => nomatch hp), fun θ ht _ => ht⟩
  | fat => intro _ _; exact ⟨(fun ρ e => nomatch e), (fun e => nomatch e)⟩
  | grow => intro _ _; exact ⟨(fun ρ e => nomatch e), (fun e => nomatch e)⟩
  | @same σ a b E o h hd hr ih =>
    intro hc hf
    have hab := hf (a, b) (by simp)
    obtain ⟨ih1, ih2⟩ := ih hc fun p hp => hf p (by simp [hp])
    have he := T.diff_none _ _ (hc.map hab.1) (hc.map hab.2) hd
    refine ⟨fun ρ e => ?_, fun e θ ht hu => ih2 e θ ht fun p hp => hu p (by simp [hp])⟩
    obtain ⟨g1, g2, g3, g4⟩ := ih1 ρ e
    refine ⟨g1, g2, fun p hp => ?_, fun θ ht hu => g4 θ ht fun p hp => hu p (by simp [hp])⟩
    rcases List.mem_cons.1 hp with rfl | hp
    · simp only
      rw [← g2.map a, ← g2.map b, he]
    · exact g3 p hp
  | @clash σ a b E x y h hd hc' =>
    intro hc hf
    have hab := hf (a, b) (by simp)
    obtain ⟨h1, h2, h3, h4, h5, h6, h7, h8⟩ := differ_step hc hab.1 hab.2 hd
    refine ⟨(fun ρ e => nomatch e), fun _ θ ht hu => ?_⟩
    have he := h1 θ ht (hu (a, b) (by simp))
    by_cases hk : (orient x y).1.k = 1
    · rcases hc' with h9 | h9
      · exact h9 hk
      · have hv := var_of_k h2 hk
        rw [hv, T.map_var] at he
        exact no_occ h3 h9 (fun e => h6 (hv.trans e.symm)) he.symm
    · exact h7 hk θ he
  | @step σ a b E x y o h hd hc' hf' hr ih =>
    intro hc hf
    have hab := hf (a, b) (by simp)
    obtain ⟨h1, h2, _⟩ := differ_canon hc hab.1 hab.2 hd hc'
    obtain ⟨ih1, ih2⟩ := ih h1 hf
    refine ⟨fun ρ e => ?_, fun e θ ht hu => ih2 e θ (h2 θ ht (hu (a, b) (by simp))) hu⟩
    obtain ⟨g1, g2, g3, g4⟩ := ih1 ρ e
    exact ⟨g1, g2.trans (Through.back hc), g3, fun θ ht hu => g4 θ (h2 θ ht (hu (a, b) (by simp))) hu⟩
end Go.Proofs.Ytcblmkhhhibddaa
