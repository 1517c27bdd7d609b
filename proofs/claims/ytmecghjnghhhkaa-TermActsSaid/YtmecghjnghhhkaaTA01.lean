/-
  Matching, plain: one term to another, with what the variables have got so far.
-/
import Derived.Test.YtmecghjnghhhkaaUO06
import Derived.Test.YtmecghjnghhhkaaUO14
namespace Go.Proofs.Ytmecghjnghhhkaa

mutual
/-- The pattern is laid on the term. -/
def T.mat : T → T → (Int → Option T) → Option (Int → Option T)
  | .mk k n s l, t, f =>
    if k = 1 then (match f n with
      | none => some (putF f n t)
      | some x => if T.order x t = 0 then some f else none)
    else if k = t.k ∧ n = t.n ∧ s = t.s ∧ l.length = t.l.length then T.matL l t.l f else none
def T.matL : List T → List T → (Int → Option T) → Option (Int → Option T)
  | x :: xs, y :: ys, f => (match T.mat x y f with
    | none => none
    | some g => T.matL xs ys g)
  | _, _, f => some f
end

theorem T.eta (t : T) : t = .mk t.k t.n t.s t.l := by cases t; rfl
theorem formed_args' {t : T} (h : t.formed = true) : T.formedL t.l = true := by
  obtain ⟨k, n, s, l⟩ := t
  rcases formed_args h with ⟨_, h⟩ | ⟨_, h⟩
  · exact h
  · show T.formedL l = true
    rw [h, T.formedL]

/-- What the variables have. -/
def Got (g : Int → Option T) (n : Int) : T := (g n).getD (varT n)
/-- From f on to g, over variables of which O speaks. -/
structure Mats (f g : Int → Option T) (O : Int → Prop) : Prop where
  up : ∀ n x, f n = some x → g n = some x
  dom : ∀ n, g n ≠ none → f n ≠ none ∨ O n
  all : ∀ n, O n → g n ≠ none
theorem Mats.got {f g : Int → Option T} {O : Int → Prop} (h : Mats f g O) {n : Int} (hn : f n ≠ none) : Got g n = Got f n := by
  cases hf : f n with
  | none => exact absurd hf hn
  | some x => rw [Got, Got, hf, h.up n x hf]

mutual
theorem mat_some : ∀ (p t : T) (f g : Int → Option T), p.formed = true → t.formed = true → (∀ n x, f n = some x → x.formed = true) → T.mat p t f = some g → Mats f g (fun n => T.occ n p) ∧ T.map (Got g) p = t ∧ ∀ n x, g n = some x → x.formed = true
  | .mk k n s l, t, f, g, hp, ht, hf, h => by
    rw [T.mat] at h
    by_cases hk : k = 1
    · subst hk
      rw [if_pos rfl] at h
      obtain ⟨_, rfl, rfl⟩ := formed_var hp
      have hocc : ∀ m, T.occ m (T.mk 1 n [] []) ↔ n = m := fun m => T.occ_var
      have hmap : T.map (Got g) (T.mk 1 n [] []) = Got g n := T.map_var _ n
      rw [hmap]
      cases hfn : f n with
      | none =>
        rw [hfn] at h
        simp only [Option.some.injEq] at h
        subst h
        refine ⟨⟨fun m x hm => ?_, fun m hm => ?_, fun m hm => ?_⟩, ?_, fun m x hm => ?_⟩
        · rw [putF]
          by_cases e : m = n
          · subst e; rw [hfn] at hm; cases hm
          · rw [if_neg e]; exact hm
        · rw [putF] at hm
          by_cases e : m = n
          · right; exact (hocc m).2 e.symm
          · rw [if_neg e] at hm; exact .inl hm
        · obtain rfl := (hocc m).1 hm
          rw [putF, if_pos rfl]
          exact fun h => nomatch h
        · rw [Got, putF, if_pos rfl]; rfl
        · rw [putF] at hm
          by_cases e : m = n
          · rw [if_pos e] at hm; cases hm; exact ht
          · rw [if_neg e] at hm; exact hf m x hm
      | some y =>
        rw [hfn] at h
        simp only at h
        by_cases ho : T.order y t = 0
        · rw [if_pos ho] at h
          simp only [Option.some.injEq] at h
          subst h
          obtain rfl := (order_zero y t (hf n y hfn) ht).1 ho
          refine ⟨⟨fun m x hm => hm, fun m hm => .inl hm, fun m hm => ?_⟩, ?_, hf⟩
          · obtain rfl := (hocc m).1 hm
            rw [hfn]
            exact fun h => nomatch h
          · rw [Got, hfn]; rfl
        · rw [if_neg ho] at h; cases h
    · rw [if_neg hk] at h
      by_cases hh : k = t.k ∧ n = t.n ∧ s = t.s ∧ l.length = t.l.length
      · rw [if_pos hh] at h
        obtain ⟨h1, h2, h3, h4⟩ := hh
        obtain ⟨m1, m2, m3⟩ := matL_some l t.l f g (formed_args' hp) (formed_args' ht) h4 hf h
        have hocc : ∀ m, T.occ m (T.mk k n s l) ↔ T.occL m l := fun m => by
          rw [T.occ, if_neg hk]
          rcases formed_args hp with ⟨h9, _⟩ | ⟨h9, h8⟩
          · rw [if_pos h9]
          · rw [if_neg h9, h8]
            constructor
            · exact False.elim
            · intro h
              rw [T.occL] at h
              exact h
        refine ⟨⟨m1.up, fun m hm => (m1.dom m hm).imp id fun h => (hocc m).2 h, fun m hm => m1.all m ((hocc m).1 hm)⟩, ?_, m3⟩
        rw [T.map, if_neg hk]
        rcases formed_args hp with ⟨h9, _⟩ | ⟨h9, h8⟩
        · rw [if_pos h9, m2, h1, h2, h3]
          exact (T.eta t).symm
        · rw [if_neg h9, h1, h2, h3]
          subst h8
          conv => rhs; rw [T.eta t]
          rw [List.eq_nil_of_length_eq_zero h4.symm]
      · rw [if_neg hh] at h; cases h
theorem matL_some : ∀ (p t : List T) (f g : Int → Option T), T.formedL p = true → T.formedL t = true → p.length = t.length → (∀ n x, f n = some x → x.formed = true) → T.matL p t f = some g → Mats f g (fun n => T.occL n p) ∧ T.mapL (Got g) p = t ∧ ∀ n x, g n = some x → x.formed = true
  | [], [], f, g, _, _, _, hf, h => by
    rw [T.matL] at h
    simp only [Option.some.injEq] at h
    subst h
    refine ⟨⟨fun m x hm => hm, fun m hm => .inl hm, fun m hm => ?_⟩, by rw [T.mapL], hf⟩
    have : T.occL m [] := hm
    rw [T.occL] at this
    exact this.elim
    all_goals intros; simp_all
  | [], _ :: _, _, _, _, _, hl, _, _ => by simp at hl
  | _ :: _, [], _, _, _, _, hl, _, _ => by simp at hl
  | x :: xs, y :: ys, f, g, hp, ht, hl, hf, h => by
    rw [T.formedL, Bool.and_eq_true] at hp ht
    rw [T.matL] at h
    cases hm : T.mat x y f with
    | none => rw [hm] at h; cases h
    | some e =>
      rw [hm] at h
      simp only at h
      obtain ⟨a1, a2, a3⟩ := mat_some x y f e hp.1 ht.1 hf hm
      obtain ⟨b1, b2, b3⟩ := matL_some xs ys e g hp.2 ht.2 (by simpa using hl) a3 h
      refine ⟨⟨fun n z hn => b1.up n z (a1.up n z hn), fun n hn => ?_, fun n hn => ?_⟩, ?_, b3⟩
      · rcases b1.dom n hn with h1 | h1
        · exact (a1.dom n h1).imp id fun h => by rw [T.occL]; exact .inl h
        · right; rw [T.occL]; exact .inr h1
      · have : T.occL n (x :: xs) := hn
        rw [T.occL] at this
        rcases this with h1 | h1
        · cases he : e n with
          | none => exact absurd he (a1.all n h1)
          | some z => rw [b1.up n z he]; exact fun h => nomatch h
        · exact b1.all n h1
      · rw [T.mapL, b2, ← a2]
        congr 1
        exact T.map_congr x fun n hn => b1.got (a1.all n hn)
end
mutual
/-- Where it can be done it is done. -/
theorem mat_full : ∀ (p t : T) (f : Int → Option T) (θ : Int → T), p.formed = true → t.formed = true → (∀ n x, f n = some x → x.formed = true ∧ θ n = x) → T.map θ p = t → ∃ g, T.mat p t f = some g ∧ ∀ n x, g n = some x → x.formed = true ∧ θ n = x
  | .mk k n s l, t, f, θ, hp, ht, hf, h => by
    rw [T.mat]
    by_cases hk : k = 1
    · subst hk
      rw [if_pos rfl]
      obtain ⟨_, rfl, rfl⟩ := formed_var hp
      have hθ : θ n = t := by
        rw [← h]
        exact (T.map_var θ n).symm
      cases hfn : f n with
      | none =>
        refine ⟨_, rfl, fun m x hm => ?_⟩
        rw [putF] at hm
        by_cases e : m = n
        · rw [if_pos e] at hm; cases hm; exact ⟨ht, by rw [e]; exact hθ⟩
        · rw [if_neg e] at hm; exact hf m x hm
      | some y =>
        have := (hf n y hfn).2
        have hy : y = t := by rw [← this, hθ]
        subst hy
        refine ⟨f, ?_, hf⟩
        simp only
        rw [if_pos ((order_zero y y ht ht).2 rfl)]
    · rw [if_neg hk]
      rw [T.map, if_neg hk] at h
      rcases formed_args hp with ⟨h9, h8⟩ | ⟨h9, h8⟩
      · rw [if_pos h9] at h
        subst h
        have hlen : (T.mapL θ l).length = l.length := by rw [T.mapL_eq, List.length_map]
        rw [if_pos ⟨rfl, rfl, rfl, hlen.symm⟩]
        exact matL_full l (T.mapL θ l) f θ h8 (formed_args' ht) hlen.symm hf rfl
      · rw [if_neg h9] at h
        subst h
        subst h8
        rw [if_pos ⟨rfl, rfl, rfl, rfl⟩]
        exact matL_full [] [] f θ (by rw [T.formedL]) (by rw [T.formedL]) rfl hf (by rw [T.mapL])
theorem matL_full : ∀ (p t : List T) (f : Int → Option T) (θ : Int → T), T.formedL p = true → T.formedL t = true → p.length = t.length → (∀ n x, f n = some x → x.formed = true ∧ θ n = x) → T.mapL θ p = t → ∃ g, T.matL p t f = some g ∧ ∀ n x, g n = some x → x.formed = true ∧ θ n = x
  | [], [], f, θ, _, _, _, hf, _ => ⟨f, by rw [T.matL]; intros; simp_all, hf⟩
  | [], _ :: _, _, _, _, _, hl, _, _ => by simp at hl
  | _ :: _, [], _, _, _, _, hl, _, _ => by simp at hl
  | x :: xs, y :: ys, f, θ, hp, ht, hl, hf, h => by
    rw [T.formedL, Bool.and_eq_true] at hp ht
    rw [T.mapL] at h
    injection h with h1 h2
    obtain ⟨e, he, hf2⟩ := mat_full x y f θ hp.1 ht.1 hf h1
    obtain ⟨g, hg, hf3⟩ := matL_full xs ys e θ hp.2 ht.2 (by simpa using hl) hf2 h2
    refine ⟨g, ?_, hf3⟩
    rw [T.matL, he]
    exact hg
end

/-- One term can be laid on another. -/
def T.matches (p t : T) : Prop := ∃ θ, T.map θ p = t
theorem mat_iff {p t : T} (hp : p.formed = true) (ht : t.formed = true) : (T.mat p t fun _ => none).isSome = true ↔ T.matches p t := by
  constructor
  · intro h
    obtain ⟨g, hg⟩ := Option.isSome_iff_exists.1 h
    exact ⟨_, (mat_some p t (fun _ => none) g hp ht (fun _ _ h => by cases h) hg).2.1⟩
  · rintro ⟨θ, h⟩
    obtain ⟨g, hg, _⟩ := mat_full p t (fun _ => none) θ hp ht (fun _ _ h => by cases h) h
    rw [hg]; rfl
end Go.Proofs.Ytmecghjnghhhkaa
