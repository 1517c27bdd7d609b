/-
  Matching, plain: one term to another, with what the variables have got so far.
  A clause, as a term, makes the same clause (no program here).
  Variants, plain: what is renamed is a variant; two terms are variants just if each can be laid on the other.
  The code of an error, from the form.
  term.Variant.
-/
import Derived.Test.YtmecghjnghhhkaaUO06
import Derived.Test.YtmecghjnghhhkaaUO14
import Derived.Test.YtmecghjnghhhkaaUO05
import Derived.Test.YtmecghjnghhhkaaUO19
import Derived.Test.YtmecghjnghhhkaaUO10
import Derived.Test.YtmecghjnghhhkaaUO09
namespace Go.Proofs.Ytmecghjnghhhkaa

mutual
/-- The pattern is laid on the term. -/
def T.mat : T → T → (Int → Option T) → Option (Int → Option T)
  | .mk k n s l, t, f =>
    if k = 1 then (match f n with
      | none => some (putF f n t)
      | some x => if T.order x t = 0 then some f else none)
    else if k = t.k ∧ n = t.n ∧ s = t.s ∧ l.length = t.l.length then T.matL l t.l f else none
def T.matL : List T → List T → (Int → Option T) → Option (Int → Option T)
  | x :: xs, y :: ys, f => (match T.mat x y f with
    | none => none
    | some g => T.matL xs ys g)
  | _, _, f => some f
end

theorem T.eta (t : T) : t = .mk t.k t.n t.s t.l := by cases t; rfl
theorem formed_args' {t : T} (h : t.formed = true) : T.formedL t.l = true := by
  obtain ⟨k, n, s, l⟩ := t
  rcases formed_args h with ⟨_, h⟩ | ⟨_, h⟩
  · exact h
  · show T.formedL l = true
    rw [h, T.formedL]

/-- What the variables have. -/
def Got (g : Int → Option T) (n : Int) : T := (g n).getD (varT n)
/-- From f on to g, over variables of which O speaks. -/
structure Mats (f g : Int → Option T) (O : Int → Prop) : Prop where
  up : ∀ n x, f n = some x → g n = some x
  dom : ∀ n, g n ≠ none → f n ≠ none ∨ O n
  all : ∀ n, O n → g n ≠ none
theorem Mats.got {f g : Int → Option T} {O : Int → Prop} (h : Mats f g O) {n : Int} (hn : f n ≠ none) : Got g n = Got f n := by
  cases hf : f n with
  | none => exact absurd hf hn
  | some x => rw [Got, Got, hf, h.up n x hf]

mutual
theorem mat_some : ∀ (p t : T) (f g : Int → Option T), p.formed = true → t.formed = true → (∀ n x, f n = some x → x.formed = true) → T.mat p t f = some g → Mats f g (fun n => T.occ n p) ∧ T.map (Got g) p = t ∧ ∀ n x, g n = some x → x.formed = true
  | .mk k n s l, t, f, g, hp, ht, hf, h => by
    rw [T.mat] at h
    by_cases hk : k = 1
    · subst hk
      rw [if_pos rfl] at h
      obtain ⟨_, rfl, rfl⟩ := formed_var hp
      have hocc : ∀ m, T.occ m (T.mk 1 n [] []) ↔ n = m := fun m => T.occ_var
      have hmap : T.map (Got g) (T.mk 1 n [] []) = Got g n := T.map_var _ n
      rw [hmap]
      cases hfn : f n with
      | none =>
        rw [hfn] at h
        simp only [Option.some.injEq] at h
        subst h
        refine ⟨⟨fun m x hm => ?_, fun m hm => ?_, fun m hm => ?_⟩, ?_, fun m x hm => ?_⟩
        · rw [putF]
          by_cases e : m = n
          · subst e; rw [hfn] at hm; cases hm
          · rw [if_neg e]; exact hm
        · rw [putF] at hm
          by_cases e : m = n
          · right; exact (hocc m).2 e.symm
          · rw [if_neg e] at hm; exact .inl hm
        · obtain rfl := (hocc m).1 hm
          rw [putF, if_pos rfl]
          exact fun h => nomatch h
        · rw [Got, putF, if_pos rfl]; rfl
        · rw [putF] at hm
          by_cases e : m = n
          · rw [if_pos e] at hm; cases hm; exact ht
          · rw [if_neg e] at hm; exact hf m x hm
      | some y =>
        rw [hfn] at h
        simp only at h
        by_cases ho : T.order y t = 0
        · rw [if_pos ho] at h
          simp only [Option.some.injEq] at h
          subst h
          obtain rfl := (order_zero y t (hf n y hfn) ht).1 ho
          refine ⟨⟨fun m x hm => hm, fun m hm => .inl hm, fun m hm => ?_⟩, ?_, hf⟩
          · obtain rfl := (hocc m).1 hm
            rw [hfn]
            exact fun h => nomatch h
          · rw [Got, hfn]; rfl
        · rw [if_neg ho] at h; cases h
    · rw [if_neg hk] at h
      by_cases hh : k = t.k ∧ n = t.n ∧ s = t.s ∧ l.length = t.l.length
      · rw [if_pos hh] at h
        obtain ⟨h1, h2, h3, h4⟩ := hh
        obtain ⟨m1, m2, m3⟩ := matL_some l t.l f g (formed_args' hp) (formed_args' ht) h4 hf h
        have hocc : ∀ m, T.occ m (T.mk k n s l) ↔ T.occL m l := fun m => by
          rw [T.occ, if_neg hk]
          rcases formed_args hp with ⟨h9, _⟩ | ⟨h9, h8⟩
          · rw [if_pos h9]
          · rw [if_neg h9, h8]
            constructor
            · exact False.elim
            · intro h
              rw [T.occL] at h
              exact h
        refine ⟨⟨m1.up, fun m hm => (m1.dom m hm).imp id fun h => (hocc m).2 h, fun m hm => m1.all m ((hocc m).1 hm)⟩, ?_, m3⟩
        rw [T.map, if_neg hk]
        rcases formed_args hp with ⟨h9, _⟩ | ⟨h9, h8⟩
        · rw [if_pos h9, m2, h1, h2, h3]
          exact (T.eta t).symm
        · rw [if_neg h9, h1, h2, h3]
          subst h8
          conv => rhs; rw [T.eta t]
          rw [List.eq_nil_of_length_eq_zero h4.symm]
      · rw [if_neg hh] at h; cases h
theorem matL_some : ∀ (p t : List T) (f g : Int → Option T), T.formedL p = true → T.formedL t = true → p.length = t.length → (∀ n x, f n = some x → x.formed = true) → T.matL p t f = some g → Mats f g (fun n => T.occL n p) ∧ T.mapL (Got g) p = t ∧ ∀ n x, g n = some x → x.formed = true
  | [], [], f, g, _, _, _, hf, h => by
    rw [T.matL] at h
    simp only [Option.some.injEq] at h
    subst h
    refine ⟨⟨fun m x hm => hm, fun m hm => .inl hm, fun m hm => ?_⟩, by rw [T.mapL], hf⟩
    have : T.occL m [] := hm
    rw [T.occL] at this
    exact this.elim
    all_goals intros; simp_all
  | [], _ :: _, _, _, _, _, hl, _, _ => by simp at hl
  | _ :: _, [], _, _, _, _, hl, _, _ => by simp at hl
  | x :: xs, y :: ys, f, g, hp, ht, hl, hf, h => by
    rw [T.formedL, Bool.and_eq_true] at hp ht
    rw [T.matL] at h
    cases hm : T.mat x y f with
    | none => rw [hm] at h; cases h
    | some e =>
      rw [hm] at h
      simp only at h
      obtain ⟨a1, a2, a3⟩ := mat_some x y f e hp.1 ht.1 hf hm
      obtain ⟨b1, b2, b3⟩ := matL_some xs ys e g hp.2 ht.2 (by simpa using hl) a3 h
      refine ⟨⟨fun n z hn => b1.up n z (a1.up n z hn), fun n hn => ?_, fun n hn => ?_⟩, ?_, b3⟩
      · rcases b1.dom n hn with h1 | h1
        · exact (a1.dom n h1).imp id fun h => by rw [T.occL]; exact .inl h
        · right; rw [T.occL]; exact .inr h1
      · have : T.occL n (x :: xs) := hn
        rw [T.occL] at this
        rcases this with h1 | h1
        · cases he : e n with
          | none => exact absurd he (a1.all n h1)
          | some z => rw [b1.up n z he]; exact fun h => nomatch h
        · exact b1.all n h1
      · rw [T.mapL, b2, ← a2]
        congr 1
        exact T.map_congr x fun n hn => b1.got (a1.all n hn)
end
mutual
/-- Where it can be done it is done. -/
theorem mat_full : ∀ (p t : T) (f : Int → Option T) (θ : Int → T), p.formed = true → t.formed = true → (∀ n x, f n = some x → x.formed = true ∧ θ n = x) → T.map θ p = t → ∃ g, T.mat p t f = some g ∧ ∀ n x, g n = some x → x.formed = true ∧ θ n = x
  | .mk k n s l, t, f, θ, hp, ht, hf, h => by
    rw [T.mat]
    by_cases hk : k = 1
    · subst hk
      rw [if_pos rfl]
      obtain ⟨_, rfl, rfl⟩ := formed_var hp
      have hθ : θ n = t := by
        rw [← h]
        exact (T.map_var θ n).symm
      cases hfn : f n with
      | none =>
        refine ⟨_, rfl, fun m x hm => ?_⟩
        rw [putF] at hm
        by_cases e : m = n
        · rw [if_pos e] at hm; cases hm; exact ⟨ht, by rw [e]; exact hθ⟩
        · rw [if_neg e] at hm; exact hf m x hm
      | some y =>
        have := (hf n y hfn).2
        have hy : y = t := by rw [← this, hθ]
        subst hy
        refine ⟨f, ?_, hf⟩
        simp only
        rw [if_pos ((order_zero y y ht ht).2 rfl)]
    · rw [if_neg hk]
      rw [T.map, if_neg hk] at h
      rcases formed_args hp with ⟨h9, h8⟩ | ⟨h9, h8⟩
      · rw [if_pos h9] at h
        subst h
        have hlen : (T.mapL θ l).length = l.length := by rw [T.mapL_eq, List.length_map]
        rw [if_pos ⟨rfl, rfl, rfl, hlen.symm⟩]
        exact matL_full l (T.mapL θ l) f θ h8 (formed_args' ht) hlen.symm hf rfl
      · rw [if_neg h9] at h
        subst h
        subst h8
        rw [if_pos ⟨rfl, rfl, rfl, rfl⟩]
        exact matL_full [] [] f θ (by rw [T.formedL]) (by rw [T.formedL]) rfl hf (by rw [T.mapL])
theorem matL_full : ∀ (p t : List T) (f : Int → Option T) (θ : Int → T), T.formedL p = true → T.formedL t = true → p.length = t.length → (∀ n x, f n = some x → x.formed = true ∧ θ n = x) → T.mapL θ p = t → ∃ g, T.matL p t f = some g ∧ ∀ n x, g n = some x → x.formed = true ∧ θ n = x
  | [], [], f, θ, _, _, _, hf, _ => ⟨f, by rw [T.matL]; intros; simp_all, hf⟩
  | [], _ :: _, _, _, _, _, hl, _, _ => by simp at hl
  | _ :: _, [], _, _, _, _, hl, _, _ => by simp at hl
  | x :: xs, y :: ys, f, θ, hp, ht, hl, hf, h => by
    rw [T.formedL, Bool.and_eq_true] at hp ht
    rw [T.mapL] at h
    injection h with h1 h2
    obtain ⟨e, he, hf2⟩ := mat_full x y f θ hp.1 ht.1 hf h1
    obtain ⟨g, hg, hf3⟩ := matL_full xs ys e θ hp.2 ht.2 (by simpa using hl) hf2 h2
    refine ⟨g, ?_, hf3⟩
    rw [T.matL, he]
    exact hg
end

/-- One term can be laid on another. -/
def T.matches (p t : T) : Prop := ∃ θ, T.map θ p = t
theorem mat_iff {p t : T} (hp : p.formed = true) (ht : t.formed = true) : (T.mat p t fun _ => none).isSome = true ↔ T.matches p t := by
  constructor
  · intro h
    obtain ⟨g, hg⟩ := Option.isSome_iff_exists.1 h
    exact ⟨_, (mat_some p t (fun _ => none) g hp ht (fun _ _ h => by cases h) hg).2.1⟩
  · rintro ⟨θ, h⟩
    obtain ⟨g, hg, _⟩ := mat_full p t (fun _ => none) θ hp ht (fun _ _ h => by cases h) h
    rw [hg]; rfl
end Go.Proofs.Ytmecghjnghhhkaa

namespace Go.Proofs.Ytmecghjnghhhkaa

/-- A renaming of variables. -/
def vf (g : Int → Int) (n : Int) : T := varT (g n)
/-- The place of a variable. -/
def placeOf (V : List Int) (n : Int) : Int := if n ∈ V then (V.idxOf n : Int) else n
theorem swapF_place (V : List Int) : swapF 0 V = vf (placeOf V) := by
  funext n
  rw [swapF, vf, placeOf]
  split
  · rw [Int.zero_add]
  · rfl

theorem isOf_same {k n n' : Int} {s : List UInt8} {l l' : List T} (h : l.length = l'.length) (q : List UInt8) (r : Int) : (T.mk k n s l).isOf q r = (T.mk k n' s l').isOf q r := by
  show ((decide (k = 4) || decide (k = 3)) && decide (s = q) && decide ((l.length : Int) = r)) = ((decide (k = 4) || decide (k = 3)) && decide (s = q) && decide ((l'.length : Int) = r))
  rw [h]
theorem joins_same {k n n' : Int} {s : List UInt8} {l l' : List T} (h : l.length = l'.length) : (T.mk k n s l).joins = (T.mk k n' s l').joins := by
  rw [T.joins, T.joins, isOf_same h, isOf_same h, isOf_same h]

theorem map_atom (f : Int → T) {k n : Int} {s : List UInt8} (h1 : k ≠ 1) (h4 : k ≠ 4) : T.map f (.mk k n s []) = .mk k n s [] := by rw [T.map, if_neg h1, if_neg h4]
theorem map_comp (f : Int → T) (n : Int) (s : List UInt8) (l : List T) : T.map f (.mk 4 n s l) = .mk 4 n s (T.mapL f l) := by rw [T.map, if_neg (by decide), if_pos rfl]

theorem body_mapped (f : Int → T) (N : Nat) : ∀ (t u : T), SizeOf.sizeOf t ≤ N → t.formed = true → T.body t = some u → T.body (T.map f u) = some (T.map f u) := by
  induction N with
  | zero => intro t u h; cases t; simp at h
  | succ N ih =>
    intro t u h hf hb
    obtain ⟨k, n, s, l⟩ := t
    by_cases h1 : k = 1
    · subst h1
      rw [body_var] at hb
      cases hb
      rw [compT, map_comp]
      exact body_plain (by decide) (by decide) (by simp [T.joins, T.isOf, T.k, T.s, T.l, sCallT])
    by_cases h2 : k = 2
    · subst h2
      rw [body_int] at hb
      cases hb
    cases hj : (T.mk k n s l).joins with
    | true =>
      obtain ⟨k', n', s', x, y, he⟩ := joins_two hj
      cases he
      rw [body_joins h1 h2 hj] at hb
      obtain ⟨rfl, rfl, hs, hx, hy⟩ := formed_two_inv hf
      simp only [T.mk.sizeOf_spec, List.cons.sizeOf_spec] at h
      cases ha : T.body x with
      | none => rw [ha] at hb; cases hb
      | some a =>
        cases hc : T.body y with
        | none => rw [ha, hc] at hb; cases hb
        | some c =>
          rw [ha, hc] at hb
          cases hb
          rw [compT, map_comp, T.mapL, T.mapL, T.mapL]
          rw [body_joins (by decide) (by decide) ((joins_same (l := [T.map f a, T.map f c]) (l' := [x, y]) (n := 0) (n' := 0) rfl).trans hj), ih x a (by omega) hx ha, ih y c (by omega) hy hc]
          rfl
    | false =>
      rw [body_plain h1 h2 hj] at hb
      cases hb
      rcases formed_args hf with ⟨rfl, _⟩ | ⟨h4, rfl⟩
      · rw [map_comp]
        exact body_plain h1 h2 ((joins_same (T.mapL_length f l)).trans hj)
      · rw [map_atom f h1 h4]
        exact body_plain h1 h2 hj

mutual
theorem vars_sub {V : List Int} : ∀ (t : T) (W : List Int), T.within V t → (∀ n ∈ W, n ∈ V) → ∀ n ∈ T.vars t W, n ∈ V
  | .mk k m s l, W, ht, hW => by
    rw [T.within] at ht
    rw [T.vars]
    by_cases h1 : k = 1
    · rw [if_pos h1]
      split
      · exact hW
      · intro n hn
        rcases List.mem_append.1 hn with h | h
        · exact hW n h
        · rw [List.mem_singleton.1 h]; exact ht.1 h1
    · rw [if_neg h1]; exact varsL_sub l W ht.2 hW
theorem varsL_sub {V : List Int} : ∀ (l : List T) (W : List Int), T.withinL V l → (∀ n ∈ W, n ∈ V) → ∀ n ∈ T.varsL l W, n ∈ V
  | [], W, _, hW => by rw [T.varsL]; exact hW
  | x :: xs, W, hl, hW => by
    rw [T.withinL] at hl
    rw [T.varsL]
    exact varsL_sub xs _ hl.2 (vars_sub x W hl.1 hW)
end

theorem mem_map_on {g : Int → Int} {V W : List Int} (hg : ∀ a ∈ V, ∀ b ∈ V, g a = g b → a = b) (hW : ∀ n ∈ W, n ∈ V) {n : Int} (hn : n ∈ V) : g n ∈ W.map g ↔ n ∈ W := by
  constructor
  · intro h
    obtain ⟨m, hm, e⟩ := List.mem_map.1 h
    rw [← hg m (hW m hm) n hn e]
    exact hm
  · exact List.mem_map_of_mem

mutual
theorem vars_mapped {g : Int → Int} {V : List Int} (hg : ∀ a ∈ V, ∀ b ∈ V, g a = g b → a = b) : ∀ (t : T) (W : List Int), t.formed = true → T.within V t → (∀ n ∈ W, n ∈ V) → T.vars (T.map (vf g) t) (W.map g) = (T.vars t W).map g
  | .mk k n s l, W, hf, ht, hW => by
    rw [T.within] at ht
    by_cases h1 : k = 1
    · subst h1
      rw [T.map, if_pos rfl, vf, varT, T.vars, if_pos rfl, T.vars, if_pos rfl]
      by_cases hn : n ∈ W
      · rw [if_pos hn, if_pos ((mem_map_on hg hW (ht.1 rfl)).2 hn)]
      · rw [if_neg hn, if_neg (fun h => hn ((mem_map_on hg hW (ht.1 rfl)).1 h)), List.map_append, List.map_cons, List.map_nil]
    · rcases formed_args hf with ⟨rfl, hl⟩ | ⟨h4, rfl⟩
      · rw [map_comp, T.vars, if_neg h1, T.vars, if_neg h1]
        exact varsL_mapped hg l W hl ht.2 hW
      · rw [map_atom _ h1 h4, T.vars, if_neg h1, T.vars, if_neg h1, T.varsL, T.varsL]
theorem varsL_mapped {g : Int → Int} {V : List Int} (hg : ∀ a ∈ V, ∀ b ∈ V, g a = g b → a = b) : ∀ (l : List T) (W : List Int), T.formedL l = true → T.withinL V l → (∀ n ∈ W, n ∈ V) → T.varsL (T.mapL (vf g) l) (W.map g) = (T.varsL l W).map g
  | [], W, _, _, _ => by rw [T.mapL, T.varsL, T.varsL]
  | x :: xs, W, hf, hl, hW => by
    rw [T.withinL] at hl
    rw [T.formedL, Bool.and_eq_true] at hf
    rw [T.mapL, T.varsL, T.varsL, vars_mapped hg x W hf.1 hl.1 hW]
    exact varsL_mapped hg xs _ hf.2 hl.2 (vars_sub x W hl.1 hW)
end

mutual
theorem map_again {f : Int → T} {g : Int → Int} {V : List Int} (hfg : ∀ n ∈ V, f (g n) = varT (g n)) : ∀ (t : T), t.formed = true → T.within V t → T.map f (T.map (vf g) t) = T.map (vf g) t
  | .mk k n s l, hf, ht => by
    rw [T.within] at ht
    by_cases h1 : k = 1
    · subst h1
      rw [T.map, if_pos rfl, vf, varT, T.map, if_pos rfl, hfg n (ht.1 rfl), varT]
    · rcases formed_args hf with ⟨rfl, hl⟩ | ⟨h4, rfl⟩
      · rw [map_comp, map_comp, mapL_again hfg l hl ht.2]
      · rw [map_atom _ h1 h4, map_atom _ h1 h4]
theorem mapL_again {f : Int → T} {g : Int → Int} {V : List Int} (hfg : ∀ n ∈ V, f (g n) = varT (g n)) : ∀ (l : List T), T.formedL l = true → T.withinL V l → T.mapL f (T.mapL (vf g) l) = T.mapL (vf g) l
  | [], _, _ => by rw [T.mapL, T.mapL]
  | x :: xs, hf, hl => by
    rw [T.withinL] at hl
    rw [T.formedL, Bool.and_eq_true] at hf
    rw [T.mapL, T.mapL, map_again hfg x hf.1 hl.1, mapL_again hfg xs hf.2 hl.2]
end

theorem place_inj (V : List Int) : ∀ a ∈ V, ∀ b ∈ V, placeOf V a = placeOf V b → a = b := by
  intro a ha b hb h
  rw [placeOf, placeOf, if_pos ha, if_pos hb] at h
  have h2 : V.idxOf a = V.idxOf b := Int.ofNat_inj.1 h
  have e1 := List.getElem_idxOf (List.idxOf_lt_length_of_mem ha)
  have e2 := List.getElem_idxOf (List.idxOf_lt_length_of_mem hb)
  rw [← e1, ← e2]
  simp only [h2]

theorem idxOf_map_on {g : Int → Int} : ∀ (V W : List Int), (∀ a ∈ W, ∀ b ∈ W, g a = g b → a = b) → (∀ n ∈ V, n ∈ W) → ∀ n ∈ W, (V.map g).idxOf (g n) = V.idxOf n
  | [], _, _, _, _, _ => rfl
  | x :: xs, W, hg, hs, n, hn => by
    rw [List.map_cons, List.idxOf_cons, List.idxOf_cons]
    by_cases h : x = n
    · subst h; simp
    · have h2 : ¬ g x = g n := fun e => h (hg x (hs x (by simp)) n hn e)
      simp only [beq_eq_false_iff_ne.2 h, beq_eq_false_iff_ne.2 h2, cond_false]
      rw [idxOf_map_on xs W hg (fun m hm => hs m (by simp [hm])) n hn]

theorem place_again (V : List Int) : ∀ n ∈ V, swapF 0 (V.map (placeOf V)) (placeOf V n) = varT (placeOf V n) := by
  intro n hn
  rw [swapF, if_pos (List.mem_map_of_mem hn), idxOf_map_on V V (place_inj V) (fun _ h => h) n hn, Int.zero_add]
  conv => rhs; rw [placeOf, if_pos hn]

theorem map_head (f : Int → T) {p : T} (hf : p.formed = true) (hc : p.callable = true) : (T.map f p).k = p.k ∧ (T.map f p).s = p.s ∧ (T.map f p).l.length = p.l.length := by
  obtain ⟨k, n, s, l⟩ := p
  rcases formed_args hf with ⟨rfl, _⟩ | ⟨h4, rfl⟩
  · rw [map_comp]
    exact ⟨rfl, rfl, T.mapL_length f l⟩
  · have h1 : k ≠ 1 := by rintro rfl; simp [T.callable, T.k] at hc
    rw [map_atom f h1 h4]
    exact ⟨rfl, rfl, rfl⟩

theorem isOf_true {b : T} (hf : b.formed = true) (h : b.isOf sTrue 0 = true) : b = atomT sTrue := by
  obtain ⟨k, n, s, l⟩ := b
  simp only [T.isOf, T.k, T.s, T.l, Bool.and_eq_true, Bool.or_eq_true] at h
  obtain ⟨⟨hk, hs⟩, hl⟩ := h
  obtain rfl : s = sTrue := of_decide_eq_true hs
  replace hl : (l.length : Int) = 0 := of_decide_eq_true hl
  replace hk : k = 4 ∨ k = 3 := hk.imp of_decide_eq_true of_decide_eq_true
  obtain rfl : l = [] := List.eq_nil_of_length_eq_zero (by omega)
  rw [T.formed] at hf
  rcases hk with rfl | rfl
  · simp at hf
  · simp at hf
    obtain ⟨rfl, _⟩ := hf
    rfl

theorem make_again {res : List UInt8 → Int → Bool} (hres : res sNeck 2 = true) {t h b : T} (hf : t.formed = true) (hm : T.make res t = some (h, b)) : T.make res (clauseT h b) = some (h, b) := by
  have hff := make_formed hf hm
  obtain ⟨p1, p2⟩ := parts_formed hf
  rw [T.make] at hm
  cases hb : T.body t.parts.2 with
  | none => rw [hb] at hm; cases hm
  | some u =>
    have hu := body_formed _ _ _ (Nat.le_refl _) p2 hb
    have hab := body_mapped (swapF 0 (T.varsL [t.parts.1, u] [])) _ _ _ (Nat.le_refl _) p2 hb
    rw [hb] at hm
    simp only at hm
    split at hm
    · rename_i hcr
      rw [Bool.and_eq_true] at hcr
      generalize hp : t.parts.1 = p at *
      generalize hV : T.varsL [p, u] [] = V at *
      have hw : T.withinL V [p, u] := by rw [← hV]; exact T.varsL_within _ _ (by rw [T.formedL, T.formedL, T.formedL, p1, hu]; rfl)
      rw [T.withinL, T.withinL] at hw
      rw [swapF_place] at hm hab
      simp only [Option.some.injEq, Prod.mk.injEq] at hm
      obtain ⟨rfl, rfl⟩ := hm
      obtain ⟨hk, hs, hl⟩ := map_head (vf (placeOf V)) p1 hcr.1
      have hparts : (clauseT (T.map (vf (placeOf V)) p) (T.map (vf (placeOf V)) u)).parts = (T.map (vf (placeOf V)) p, T.map (vf (placeOf V)) u) := by
        rw [clauseT]
        split
        · rename_i ht
          rw [T.parts]
          rw [if_neg, ← isOf_true hff.2 ht]
          intro hn
          obtain ⟨k', n', x, y, he⟩ := isOf_two hn
          have h1 : p.s = sNeck := by rw [← hs, he]; rfl
          have h2 : p.l.length = 2 := by rw [← hl, he]; rfl
          rw [h1, h2] at hcr
          have := hcr.2
          rw [show ((2 : Nat) : Int) = 2 from rfl, hres] at this
          cases this
        · rw [T.parts, if_pos (by simp [T.isOf, compT, T.k, T.s, T.l])]
          rfl
      have hvars : T.varsL [T.map (vf (placeOf V)) p, T.map (vf (placeOf V)) u] [] = V.map (placeOf V) := by
        have := varsL_mapped (place_inj V) [p, u] [] (by rw [T.formedL, T.formedL, T.formedL, p1, hu]; rfl) (by rw [T.withinL, T.withinL]; exact hw) (fun _ h => by cases h)
        rw [T.mapL, T.mapL, T.mapL, List.map_nil, hV] at this
        exact this
      rw [T.make, hparts]
      simp only
      rw [hab]
      simp only
      rw [hvars, map_again (place_again V) p p1 hw.1, map_again (place_again V) u hu hw.2.1, hs, hl]
      have hcal : (T.map (vf (placeOf V)) p).callable = true := by rw [T.callable, hk]; exact hcr.1
      rw [hcal, Bool.true_and, if_pos hcr.2]
    · cases hm

/-- What is made, as a term, makes itself: nothing is wrong with it. -/
theorem plainErr_made {res : List UInt8 → Int → Bool} (hres : res sNeck 2 = true) {t h b : T} (hf : t.formed = true) (hm : T.make res t = some (h, b)) (hrefl : ∀ x : T, T.same x x = true) : plainErr res h b = 0 := by
  have hff := make_formed hf hm
  rw [plainErr, hff.1, hff.2, make_again hres hf hm]
  simp [hrefl]

end Go.Proofs.Ytmecghjnghhhkaa

namespace Go.Proofs.Ytmecghjnghhhkaa

/-- A term with its variables numbered from 0 on. -/
def T.norm (t : T) : T := T.map (swapF 0 (T.varsL [t] [])) t
theorem map_congr_vars {f g : Int → T} {t : T} (hf : t.formed = true) (h : ∀ n ∈ T.varsL [t] [], f n = g n) : T.map f t = T.map g t :=
  T.map_congr t fun n hn => h n ((mem_varsOne hf n).2 hn)
theorem norm_formed {t : T} (h : t.formed = true) : t.norm.formed = true :=
  formed_mapped _ (swapF_formed (VarsOk.varsL [t] VarsOk.nil (by rw [T.formedL, T.formedL, h]; rfl))) t h
theorem norm_map {g : Int → Int} {t : T} (hf : t.formed = true) (hg : ∀ a ∈ T.varsL [t] [], ∀ b ∈ T.varsL [t] [], g a = g b → a = b) : (T.map (vf g) t).norm = t.norm := by
  have hw : T.within (T.varsL [t] []) t := by rw [T.varsL_single]; exact T.vars_within t [] hf
  have hv : T.varsL [T.map (vf g) t] [] = (T.varsL [t] []).map g := by
    have := vars_mapped hg t [] hf hw (fun _ h => nomatch h)
    rw [T.varsL_single, T.varsL_single]
    exact this
  rw [T.norm, T.norm, hv, T.map_map]
  refine map_congr_vars hf fun n hn => ?_
  rw [vf, T.map_var, swapF, swapF, if_pos hn, if_pos (List.mem_map.2 ⟨n, hn, rfl⟩), idxOf_map_on _ _ hg (fun _ h => h) n hn]
/-- What is renamed is a variant. -/
theorem norm_swap {t : T} (hf : t.formed = true) (d : Int) : (T.map (swapF d (T.varsL [t] [])) t).norm = t.norm := by
  have h1 : T.map (swapF d (T.varsL [t] [])) t = T.map (vf fun n => d + ((T.varsL [t] []).idxOf n : Int)) t := map_congr_vars hf fun n hn => by rw [swapF, if_pos hn, vf]
  rw [h1]
  refine norm_map hf fun a ha b hb h => ?_
  have h2 : (T.varsL [t] []).idxOf a = (T.varsL [t] []).idxOf b := by omega
  have h3 := List.getElem_idxOf (List.idxOf_lt_length_iff.2 ha)
  have h4 := List.getElem_idxOf (List.idxOf_lt_length_iff.2 hb)
  rw [← h3, ← h4]
  simp only [h2]

mutual
theorem map_eq_on {f g : Int → T} : ∀ t : T, T.map f t = T.map g t → ∀ n, T.occ n t → f n = g n
  | .mk k m s l, h, n, ho => by
    rw [T.occ] at ho
    rw [T.map, T.map] at h
    by_cases hk : k = 1
    · rw [if_pos hk] at ho
      rw [if_pos hk, if_pos hk] at h
      rw [← ho]
      exact h
    · rw [if_neg hk] at ho
      rw [if_neg hk, if_neg hk] at h
      by_cases h4 : k = 4
      · rw [if_pos h4] at ho
        rw [if_pos h4, if_pos h4] at h
        injection h with _ _ _ h
        exact mapL_eq_on l h n ho
      · rw [if_neg h4] at ho
        exact ho.elim
theorem mapL_eq_on {f g : Int → T} : ∀ l : List T, T.mapL f l = T.mapL g l → ∀ n, T.occL n l → f n = g n
  | [], _, n, ho => by rw [T.occL] at ho; exact ho.elim
  | x :: xs, h, n, ho => by
    rw [T.mapL, T.mapL] at h
    injection h with h1 h2
    rw [T.occL] at ho
    rcases ho with ho | ho
    · exact map_eq_on x h1 n ho
    · exact mapL_eq_on xs h2 n ho
end
theorem map_varT {t : T} (hf : t.formed = true) : T.map varT t = t := T.map_fixed hf fun _ _ => rfl

theorem norm_matches {a b : T} (_ : a.formed = true) (hb : b.formed = true) (h : a.norm = b.norm) : T.matches a b := by
  have h1 : T.map (fun m => varT ((T.varsL [b] []).getD m.toNat 0)) b.norm = b := by
    rw [T.norm, T.map_map]
    conv => rhs; rw [← map_varT hb]
    refine map_congr_vars hb fun n hn => ?_
    rw [swapF, if_pos hn, T.map_var]
    have hlt := List.idxOf_lt_length_iff.2 hn
    have h4 := List.getElem_idxOf hlt
    congr 1
    rw [Int.zero_add, Int.toNat_natCast, List.getD_eq_getElem?_getD, List.getElem?_eq_getElem hlt, h4]
    rfl
  rw [← h, T.norm, T.map_map] at h1
  exact ⟨_, h1⟩
/-- Two terms are variants just if each can be laid on the other. -/
theorem variant_iff {a b : T} (ha : a.formed = true) (hb : b.formed = true) : a.norm = b.norm ↔ T.matches a b ∧ T.matches b a := by
  constructor
  · intro h
    exact ⟨norm_matches ha hb h, norm_matches hb ha h.symm⟩
  · rintro ⟨⟨θ0, h0⟩, φ, hφ⟩
    obtain ⟨g, hg, -⟩ := mat_full a b (fun _ => none) θ0 ha hb (fun _ _ h => by cases h) h0
    obtain ⟨m1, m2, m3⟩ := mat_some a b (fun _ => none) g ha hb (fun _ _ h => by cases h) hg
    have hback : T.map (fun n => T.map φ (Got g n)) a = T.map varT a := by rw [← T.map_map, m2, hφ, map_varT ha]
    have hvar : ∀ n, T.occ n a → ∃ m, Got g n = varT m ∧ φ m = varT n := fun n hn => by
      have h1 := map_eq_on a hback n hn
      refine T.map_is_var h1 ?_
      cases hgn : g n with
      | none => exact absurd hgn (m1.all n hn)
      | some x => rw [Got, hgn]; exact m3 n x hgn
    have hren : T.map (vf fun n => (Got g n).n) a = b := by
      rw [← m2]
      refine T.map_congr a fun n hn => ?_
      obtain ⟨m, h1, _⟩ := hvar n hn
      rw [vf, h1]
      rfl
    rw [← hren]
    refine (norm_map ha fun x hx y hy h => ?_).symm
    obtain ⟨m, h1, h2⟩ := hvar x ((mem_varsOne ha x).1 hx)
    obtain ⟨m', h3, h4⟩ := hvar y ((mem_varsOne ha y).1 hy)
    have e : m = m' := by
      rw [h1, h3] at h
      exact h
    rw [e, h4] at h2
    have := congrArg T.n h2
    exact this.symm
end Go.Proofs.Ytmecghjnghhhkaa

namespace Go.Proofs.Ytmecghjnghhhkaa
open Go.RowKit Go.Maps Go.Lib
def errOf (f : Bool) : Int := if f then 0 else 2
theorem own_ltA {w : World} {B e sz n : Nat} {v : Value} {xs : List Value} (h : w.ownsRow B e sz v n xs) {b : Nat} (hb : v.ownBlock = some b) : b < w.heap.size := by
  rcases h.2 with ⟨rfl, _⟩ | ⟨g, cap, cur, rfl, h2, h3, h4⟩
  · cases hb
  · cases hb
    exact (Array.getElem?_eq_some_iff.1 h3).1
end Go.Proofs.Ytmecghjnghhhkaa

namespace Go.Proofs.Ytmecghjnghhhkaa
open Go.RowKit Go.Maps Go.Lib

theorem ren_one {d : Int} {a : T} {lm : List Tm} (h : Tm.eraseL lm = T.mapL (swapF d (T.varsL [a] [])) [a]) : ∃ x : Tm, lm = [x] ∧ x.erase = T.map (swapF d (T.varsL [a] [])) a := by
  rw [T.mapL, T.mapL] at h
  match lm, h with
  | [], h => rw [Tm.eraseL] at h; cases h
  | [x], h =>
    rw [Tm.eraseL, Tm.eraseL] at h
    injection h with h1 h2
    exact ⟨x, rfl, h1⟩
  | x :: y :: zs, h =>
    rw [Tm.eraseL, Tm.eraseL] at h
    injection h with h1 h2
    cases h2
theorem erase_one (t : Tm) : Tm.eraseL [t] = [t.erase] := by rw [Tm.eraseL, Tm.eraseL]

/-- Variant's answer. -/
def RetVariant (a b : T) (w : World) (e : Ending) (w' : World) : Prop := ∃ v : Bool, e = .returned (.tuple #[.bool v, .int .i64 (errOf (a.formed && b.formed))]) ∧ (v = true ↔ (a.formed && b.formed) = true ∧ a.norm = b.norm) ∧ Gr w w'

set_option maxHeartbeats 2000000 in
set_option maxRecDepth 100000 in
theorem variant_calls (p t : Tm) (w : World) (ip : p.In w) (it : t.In w) : Calls Try.prog 37 #[p.val, t.val] w (RetVariant p.erase t.erase w) := by
  have Ip := Lib.hid ip
  have It := Lib.hid it
  have hall : ∀ (w0 w' : World), Gr w w0 → Gr (w0.alloc (.cells #[.int .i64 p.k, .int .i64 p.n, .string p.s, .slice p.p p.l.length p.c, .int .i64 t.k, .int .i64 t.n, .string t.s, .slice t.p t.l.length t.c] 27)) w' → Calls Try.prog 77 #[.slice (some ⟨w0.heap.size, 0, none⟩) 2 2] w' (Ret (.bool (p.erase.formed && t.erase.formed)) w') := fun w0 w' h0 h1 => by
    have h2 := all_calls (two_new (Tm.In_below h0 ip) (Tm.In_below h0 it) h1)
    rw [show T.formedL (Tm.eraseL [p, t]) = (p.erase.formed && t.erase.formed) by simp [Tm.eraseL, T.formedL]] at h2
    exact h2
  have Hall := Lib.hid hall
  have hQ0 : Hid (∀ (v : Bool) (ff : Bool) w', (p.erase.formed && t.erase.formed) = ff → (v = true ↔ ff = true ∧ p.erase.norm = t.erase.norm) → Gr w w' → RetVariant p.erase t.erase w (.returned (.tuple #[.bool v, .int .i64 (errOf ff)])) w') := fun v ff w' h1 h2 h3 => ⟨v, by rw [h1], by rw [h1]; exact h2, h3⟩
  generalize RetVariant p.erase t.erase w = Q at hQ0 ⊢
  have HQ := hQ0
  clear ip it hall hQ0
  rw [show p.val = .agg #[.int .i64 p.k, .int .i64 p.n, .string p.s, .slice p.p p.l.length p.c] from rfl, show t.val = .agg #[.int .i64 t.k, .int .i64 t.n, .string t.s, .slice t.p t.l.length t.c] from rfl]
  go_enter Try.func37, Try.ntmps37
  try simp only [List.append_eq, List.cons_append, List.nil_append]
  go_upto_region 1 with fail
  obtain ⟨h3, h4, gA⟩ := two_blocks w (.int .i64 p.k) (.int .i64 p.n) (.string p.s) (.slice p.p p.l.length p.c) (.int .i64 t.k) (.int .i64 t.n) (.string t.s) (.slice t.p t.l.length t.c)
  generalize ((w.alloc (.cells #[.int .i64 p.k, .int .i64 p.n, .string p.s, .slice p.p p.l.length p.c] 27)).alloc (.cells #[.int .i64 t.k, .int .i64 t.n, .string t.s, .slice t.p t.l.length t.c] 27)) = wA at *
  obtain ⟨⟨x0, x1, x2, x3⟩, _, _⟩ := h3.out.parts
  obtain ⟨⟨y0, y1, y2, y3⟩, _, sA⟩ := h4.out.parts
  obtain ⟨ff, hff⟩ : ∃ ff, (p.erase.formed && t.erase.formed) = ff := ⟨_, rfl⟩
  rw [hff] at Hall
  have Hff := Lib.hid hff
  clear hff
  go_wp2_with fail
  refine (Hall.out _ _ gA (Gr.rfl' _)).mono ?_
  rintro e w2 ⟨rfl, hg2⟩
  have gA2 : Gr wA w2 := Gr.trans (show Gr wA _ by go_grown) hg2
  have g2 : Gr w w2 := gA.trans gA2
  clear x0 x1 x2 x3 y0 y1 y2 y3 hg2
  cases ff with
  | false =>
    have Hb := Lib.hid (HQ.out false false w2 Hff.out ⟨(fun h => nomatch h), fun h => nomatch h.1⟩ g2)
    go_wp2_with fail
    exact Hb.out
  | true =>
    have hf : p.erase.formed = true ∧ t.erase.formed = true := by have := Hff.out; simpa using this
    have Hf := Lib.hid hf
    obtain ⟨⟨x0, x1, x2, x3⟩, _, _⟩ := (h3.out.gr gA2).parts
    have Hr1 := Lib.hid (fun W (hW : Gr (w2.alloc (.cells #[.int .i64 p.k, .int .i64 p.n, .string p.s, .slice p.p p.l.length p.c] 27)) W) => show Calls Try.prog 99 #[.int .i64 0, .slice (some ⟨w2.heap.size, 0, none⟩) 1 1] W (RetRens 0 [p.erase] W) from by
      have := renamed_calls 0 (some ⟨w2.heap.size, 0, none⟩) 1 [p] W (one_new (Tm.In_below g2 Ip.out) hW) (fun x hx => by rw [List.mem_singleton] at hx; rw [hx]; exact hf.1) ⟨by omega, by omega⟩
      rwa [erase_one] at this)
    clear hf
    go_wp2_with fail
    refine (Hr1.out _ (Gr.rfl' _)).mono ?_
    rintro e w3 ⟨p1, c1, l1, rfl, sl1, e1, hg3, -⟩
    obtain ⟨u, rfl, eu⟩ := ren_one e1
    have g23 : Gr w2 w3 := Gr.trans (show Gr w2 _ by go_grown) hg3
    have g3 : Gr w w3 := g2.trans g23
    have Sl1 := Lib.hid sl1
    have Eu := Lib.hid eu
    obtain ⟨⟨y0, y1, y2, y3⟩, _, _⟩ := (h4.out.gr (gA2.trans g23)).parts
    have Hr2 := Lib.hid (fun W (hW : Gr (w3.alloc (.cells #[.int .i64 t.k, .int .i64 t.n, .string t.s, .slice t.p t.l.length t.c] 27)) W) => show Calls Try.prog 99 #[.int .i64 0, .slice (some ⟨w3.heap.size, 0, none⟩) 1 1] W (RetRens 0 [t.erase] W) from by
      have := renamed_calls 0 (some ⟨w3.heap.size, 0, none⟩) 1 [t] W (one_new (Tm.In_below g3 It.out) hW) (fun x hx => by rw [List.mem_singleton] at hx; rw [hx]; exact Hf.out.2) ⟨by omega, by omega⟩
      rwa [erase_one] at this)
    clear sl1 e1 eu hg3 Hr1 x0 x1 x2 x3
    go_wp2_with fail
    refine (Hr2.out _ (Gr.rfl' _)).mono ?_
    rintro e w4 ⟨p2, c2, l2, rfl, sl2, e2, hg4, -⟩
    obtain ⟨v, rfl, ev⟩ := ren_one e2
    have g34 : Gr w3 w4 := Gr.trans (show Gr w3 _ by go_grown) hg4
    have g4 : Gr w w4 := g3.trans g34
    have hs1 := Sl1.out.mono g34
    obtain ⟨b, o, rfl⟩ := hs1.ptr (by simp)
    obtain ⟨b', o', rfl⟩ := sl2.ptr (by simp)
    obtain ⟨⟨c0, c1', c2', c3⟩, iu, _⟩ := hs1.elem 0 (by simp)
    obtain ⟨⟨d0, d1, d2, d3⟩, iv, _⟩ := sl2.elem 0 (by simp)
    simp only [List.getElem_cons_zero, Nat.zero_mul, Nat.add_zero] at c0 c1' c2' c3 d0 d1 d2 d3 iu iv
    have Iu := Lib.hid iu
    have Iv := Lib.hid iv
    have Ev := Lib.hid ev
    have hl1 : 1 ≤ c1 := hs1.1
    have hl2 : 1 ≤ c2 := sl2.1
    clear y0 y1 y2 y3 hs1 sl2 e2 ev hg4 iu iv Hr2
    go_upto_region 5 with fail
    refine wp_region_rely [fx (.slice (some ⟨b, o, none⟩) 1 c1), fx (.pointer (some ⟨b, o, none⟩)), fx (.agg #[.int .i64 u.k, .int .i64 u.n, .string u.s, .slice u.p u.l.length u.c]), fx (.slice (some ⟨b', o', none⟩) 1 c2), fx (.pointer (some ⟨b', o', none⟩)), fx (.agg #[.int .i64 v.k, .int .i64 v.n, .string v.s, .slice v.p v.l.length v.c]), fx (.int .i64 (T.order u.erase v.erase)), fx (.bool (T.order u.erase v.erase == 0)), fx (.bool (T.order u.erase v.erase == 0)), fx (.int .i64 0)]
      (by kernel_rfl) (by kernel_rfl) (by repeat (first | exact Stable.nil | refine Stable.fix ?_)) ?_ ?_
    · refine ⟨?_, ?_, ?_, ?_, ?_, ?_, ?a6, ?_, ?_, ?_, trivial⟩
      all_goals
        intro a wz hg hold
        have h6 : a.tmps[6]?.getD undef = .slice (some ⟨b, o, none⟩) 1 c1 := hold 6 rfl
        have h8 : a.tmps[8]?.getD undef = .slice (some ⟨b', o', none⟩) 1 c2 := hold 8 rfl
        have zc0 := Gr.at hg c0
        have zc1x := Gr.at hg c1'
        have zc2x := Gr.at hg c2'
        have zc3 := Gr.at hg c3
        have zd0 := Gr.at hg d0
        have zd1 := Gr.at hg d1
        have zd2 := Gr.at hg d2
        have zd3 := Gr.at hg d3
        have Hg := Lib.hid hg
        clear hold c0 c1' c2' c3 d0 d1 d2 d3
        simp [predsImp, Region.binds, dstAt, fx]
        intros
        first
          | (rw [if_pos (by simp [*])]
             intro K hK)
          | (rename_i K hK)
        go_simp
      case a6 =>
        refine (show Calls Try.prog 100 #[.agg #[.int .i64 u.k, .int .i64 u.n, .string u.s, .slice u.p u.l.length u.c], .agg #[.int .i64 v.k, .int .i64 v.n, .string v.s, .slice v.p v.l.length v.c]] _ _ from order_calls (Tm.In_below Hg.out Iu.out) (Tm.In_below Hg.out Iv.out)).mono ?_
        rintro e w9 ⟨rfl, g9⟩
        exact hK _ _ rfl g9
      all_goals exact hK _ _ rfl (Gr.rfl' _)
    · intro w9 hg
      rintro _ rfl _ rfl _ rfl _ rfl _ rfl _ rfl _ rfl _ rfl _ rfl _ rfl
      simp only [finAll, Act.put, Exit.then, List.setIfInBounds_toArray, List.set_cons_succ, List.set_cons_zero]
      have Hfin := Lib.hid (HQ.out (T.order u.erase v.erase == 0) true w9 Hff.out (by
        have fu : u.erase.formed = true := by rw [Eu.out]; exact norm_formed Hf.out.1
        have fv : v.erase.formed = true := by rw [Ev.out]; exact norm_formed Hf.out.2
        rw [beq_iff_eq, order_zero _ _ fu fv, Eu.out, Ev.out]
        exact ⟨fun h => ⟨rfl, h⟩, fun h => h.2⟩) (g4.trans hg))
      clear c0 c1' c2' c3 d0 d1 d2 d3 hg
      go_wp2_with fail
      exact Hfin.out

end Go.Proofs.Ytmecghjnghhhkaa
