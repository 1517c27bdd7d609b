/-
  A clause, as a term, makes the same clause (no program here).
-/
import Derived.Test.YtgaijgadeodoeaaV1
namespace Go.Proofs.Ytgaijgadeodoeaa

/-- A renaming of variables. -/
def vf (g : Int → Int) (n : Int) : T := varT (g n)
/-- The place of a variable. -/
def placeOf (V : List Int) (n : Int) : Int := if n ∈ V then (V.idxOf n : Int) else n
theorem swapF_place (V : List Int) : swapF 0 V = vf (placeOf V) := by
  funext n
  rw [swapF, vf, placeOf]
  split
  · rw [Int.zero_add]
  · rfl

theorem isOf_same {k n n' : Int} {s : List UInt8} {l l' : List T} (h : l.length = l'.length) (q : List UInt8) (r : Int) : (T.mk k n s l).isOf q r = (T.mk k n' s l').isOf q r := by
  show ((decide (k = 4) || decide (k = 3)) && decide (s = q) && decide ((l.length : Int) = r)) = ((decide (k = 4) || decide (k = 3)) && decide (s = q) && decide ((l'.length : Int) = r))
  rw [h]
theorem joins_same {k n n' : Int} {s : List UInt8} {l l' : List T} (h : l.length = l'.length) : (T.mk k n s l).joins = (T.mk k n' s l').joins := by
  rw [T.joins, T.joins, isOf_same h, isOf_same h, isOf_same h]

theorem map_atom (f : Int → T) {k n : Int} {s : List UInt8} (h1 : k ≠ 1) (h4 : k ≠ 4) : T.map f (.mk k n s []) = .mk k n s [] := by rw [T.map, if_neg h1, if_neg h4]
theorem map_comp (f : Int → T) (n : Int) (s : List UInt8) (l : List T) : T.map f (.mk 4 n s l) = .mk 4 n s (T.mapL f l) := by rw [T.map, if_neg (by decide), if_pos rfl]

theorem body_mapped (f : Int → T) (N : Nat) : ∀ (t u : T), SizeOf.sizeOf t ≤ N → t.formed = true → T.body t = some u → T.body (T.map f u) = some (T.map f u) := by
  induction N with
  | zero => intro t u h; cases t; simp at h
  | succ N ih =>
    intro t u h hf hb
    obtain ⟨k, n, s, l⟩ := t
    by_cases h1 : k = 1
    · subst h1
      rw [body_var] at hb
      cases hb
      rw [compT, map_comp]
      exact body_plain (by decide) (by decide) (by simp [T.joins, T.isOf, T.k, T.s, T.l, sCallT])
    by_cases h2 : k = 2
    · subst h2
      rw [body_int] at hb
      cases hb
    cases hj : (T.mk k n s l).joins with
    | true =>
      obtain ⟨k', n', s', x, y, he⟩ := joins_two hj
      cases he
      rw [body_joins h1 h2 hj] at hb
      obtain ⟨rfl, rfl, hs, hx, hy⟩ := formed_two_inv hf
      simp only [T.mk.sizeOf_spec, List.cons.sizeOf_spec] at h
      cases ha : T.body x with
      | none => rw [ha] at hb; cases hb
      | some a =>
        cases hc : T.body y with
        | none => rw [ha, hc] at hb; cases hb
        | some c =>
          rw [ha, hc] at hb
          cases hb
          rw [compT, map_comp, T.mapL, T.mapL, T.mapL]
          rw [body_joins (by decide) (by decide) ((joins_same (l := [T.map f a, T.map f c]) (l' := [x, y]) (n := 0) (n' := 0) rfl).trans hj), ih x a (by omega) hx ha, ih y c (by omega) hy hc]
          rfl
    | false =>
      rw [body_plain h1 h2 hj] at hb
      cases hb
      rcases formed_args hf with ⟨rfl, _⟩ | ⟨h4, rfl⟩
      · rw [map_comp]
        exact body_plain h1 h2 ((joins_same (T.mapL_length f l)).trans hj)
      · rw [map_atom f h1 h4]
        exact body_plain h1 h2 hj

mutual
theorem vars_sub {V : List Int} : ∀ (t : T) (W : List Int), T.within V t → (∀ n ∈ W, n ∈ V) → ∀ n ∈ T.vars t W, n ∈ V
  | .mk k m s l, W, ht, hW => by
    rw [T.within] at ht
    rw [T.vars]
    by_cases h1 : k = 1
    · rw [if_pos h1]
      split
      · exact hW
      · intro n hn
        rcases List.mem_append.1 hn with h | h
        · exact hW n h
        · rw [List.mem_singleton.1 h]; exact ht.1 h1
    · rw [if_neg h1]; exact varsL_sub l W ht.2 hW
theorem varsL_sub {V : List Int} : ∀ (l : List T) (W : List Int), T.withinL V l → (∀ n ∈ W, n ∈ V) → ∀ n ∈ T.varsL l W, n ∈ V
  | [], W, _, hW => by rw [T.varsL]; exact hW
  | x :: xs, W, hl, hW => by
    rw [T.withinL] at hl
    rw [T.varsL]
    exact varsL_sub xs _ hl.2 (vars_sub x W hl.1 hW)
end

theorem mem_map_on {g : Int → Int} {V W : List Int} (hg : ∀ a ∈ V, ∀ b ∈ V, g a = g b → a = b) (hW : ∀ n ∈ W, n ∈ V) {n : Int} (hn : n ∈ V) : g n ∈ W.map g ↔ n ∈ W := by
  constructor
  · intro h
    obtain ⟨m, hm, e⟩ := List.mem_map.1 h
    rw [← hg m (hW m hm) n hn e]
    exact hm
  · exact List.mem_map_of_mem

mutual
theorem vars_mapped {g : Int → Int} {V : List Int} (hg : ∀ a ∈ V, ∀ b ∈ V, g a = g b → a = b) : ∀ (t : T) (W : List Int), t.formed = true → T.within V t → (∀ n ∈ W, n ∈ V) → T.vars (T.map (vf g) t) (W.map g) = (T.vars t W).map g
  | .mk k n s l, W, hf, ht, hW => by
    rw [T.within] at ht
    by_cases h1 : k = 1
    · subst h1
      rw [T.map, if_pos rfl, vf, varT, T.vars, if_pos rfl, T.vars, if_pos rfl]
      by_cases hn : n ∈ W
      · rw [if_pos hn, if_pos ((mem_map_on hg hW (ht.1 rfl)).2 hn)]
      · rw [if_neg hn, if_neg (fun h => hn ((mem_map_on hg hW (ht.1 rfl)).1 h)), List.map_append, List.map_cons, List.map_nil]
    · rcases formed_args hf with ⟨rfl, hl⟩ | ⟨h4, rfl⟩
      · rw [map_comp, T.vars, if_neg h1, T.vars, if_neg h1]
        exact varsL_mapped hg l W hl ht.2 hW
      · rw [map_atom _ h1 h4, T.vars, if_neg h1, T.vars, if_neg h1, T.varsL, T.varsL]
theorem varsL_mapped {g : Int → Int} {V : List Int} (hg : ∀ a ∈ V, ∀ b ∈ V, g a = g b → a = b) : ∀ (l : List T) (W : List Int), T.formedL l = true → T.withinL V l → (∀ n ∈ W, n ∈ V) → T.varsL (T.mapL (vf g) l) (W.map g) = (T.varsL l W).map g
  | [], W, _, _, _ => by rw [T.mapL, T.varsL, T.varsL]
  | x :: xs, W, hf, hl, hW => by
    rw [T.withinL] at hl
    rw [T.formedL, Bool.and_eq_true] at hf
    rw [T.mapL, T.varsL, T.varsL, vars_mapped hg x W hf.1 hl.1 hW]
    exact varsL_mapped hg xs _ hf.2 hl.2 (vars_sub x W hl.1 hW)
end

mutual
theorem map_again {f : Int → T} {g : Int → Int} {V : List Int} (hfg : ∀ n ∈ V, f (g n) = varT (g n)) : ∀ (t : T), t.formed = true → T.within V t → T.map f (T.map (vf g) t) = T.map (vf g) t
  | .mk k n s l, hf, ht => by
    rw [T.within] at ht
    by_cases h1 : k = 1
    · subst h1
      rw [T.map, if_pos rfl, vf, varT, T.map, if_pos rfl, hfg n (ht.1 rfl), varT]
    · rcases formed_args hf with ⟨rfl, hl⟩ | ⟨h4, rfl⟩
      · rw [map_comp, map_comp, mapL_again hfg l hl ht.2]
      · rw [map_atom _ h1 h4, map_atom _ h1 h4]
theorem mapL_again {f : Int → T} {g : Int → Int} {V : List Int} (hfg : ∀ n ∈ V, f (g n) = varT (g n)) : ∀ (l : List T), T.formedL l = true → T.withinL V l → T.mapL f (T.mapL (vf g) l) = T.mapL (vf g) l
  | [], _, _ => by rw [T.mapL, T.mapL]
  | x :: xs, hf, hl => by
    rw [T.withinL] at hl
    rw [T.formedL, Bool.and_eq_true] at hf
    rw [T.mapL, T.mapL, map_again hfg x hf.1 hl.1, mapL_again hfg xs hf.2 hl.2]
end

theorem place_inj (V : List Int) : ∀ a ∈ V, ∀ b ∈ V, placeOf V a = placeOf V b → a = b := by
  intro a ha b hb h
  rw [placeOf, placeOf, if_pos ha, if_pos hb] at h
  have h2 : V.idxOf a = V.idxOf b := Int.ofNat_inj.1 h
  have e1 := List.getElem_idxOf (List.idxOf_lt_length_of_mem ha)
  have e2 := List.getElem_idxOf (List.idxOf_lt_length_of_mem hb)
  rw [← e1, ← e2]
  simp only [h2]

theorem idxOf_map_on {g : Int → Int} : ∀ (V W : List Int), (∀ a ∈ W, ∀ b ∈ W, g a = g b → a = b) → (∀ n ∈ V, n ∈ W) → ∀ n ∈ W, (V.map g).idxOf (g n) = V.idxOf n
  | [], _, _, _, _, _ => rfl
  | x :: xs, W, hg, hs, n, hn => by
    rw [List.map_cons, List.idxOf_cons, List.idxOf_cons]
    by_cases h : x = n
    · subst h; simp
    · have h2 : ¬ g x = g n := fun e => h (hg x (hs x (by simp)) n hn e)
      simp only [beq_eq_false_iff_ne.2 h, beq_eq_false_iff_ne.2 h2, cond_false]
      rw [idxOf_map_on xs W hg (fun m hm => hs m (by simp [hm])) n hn]

theorem place_again (V : List Int) : ∀ n ∈ V, swapF 0 (V.map (placeOf V)) (placeOf V n) = varT (placeOf V n) := by
  intro n hn
  rw [swapF, if_pos (List.mem_map_of_mem hn), idxOf_map_on V V (place_inj V) (fun _ h => h) n hn, Int.zero_add]
  conv => rhs; rw [placeOf, if_pos hn]

theorem map_head (f : Int → T) {p : T} (hf : p.formed = true) (hc : p.callable = true) : (T.map f p).k = p.k ∧ (T.map f p).s = p.s ∧ (T.map f p).l.length = p.l.length := by
  obtain ⟨k, n, s, l⟩ := p
  rcases formed_args hf with ⟨rfl, _⟩ | ⟨h4, rfl⟩
  · rw [map_comp]
    exact ⟨rfl, rfl, T.mapL_length f l⟩
  · have h1 : k ≠ 1 := by rintro rfl; simp [T.callable, T.k] at hc
    rw [map_atom f h1 h4]
    exact ⟨rfl, rfl, rfl⟩

theorem isOf_true {b : T} (hf : b.formed = true) (h : b.isOf sTrue 0 = true) : b = atomT sTrue := by
  obtain ⟨k, n, s, l⟩ := b
  simp only [T.isOf, T.k, T.s, T.l, Bool.and_eq_true, Bool.or_eq_true] at h
  obtain ⟨⟨hk, hs⟩, hl⟩ := h
  obtain rfl : s = sTrue := of_decide_eq_true hs
  replace hl : (l.length : Int) = 0 := of_decide_eq_true hl
  replace hk : k = 4 ∨ k = 3 := hk.imp of_decide_eq_true of_decide_eq_true
  obtain rfl : l = [] := List.eq_nil_of_length_eq_zero (by omega)
  rw [T.formed] at hf
  rcases hk with rfl | rfl
  · simp at hf
  · simp at hf
    obtain ⟨rfl, _⟩ := hf
    rfl

theorem make_again {res : List UInt8 → Int → Bool} (hres : res sNeck 2 = true) {t h b : T} (hf : t.formed = true) (hm : T.make res t = some (h, b)) : T.make res (clauseT h b) = some (h, b) := by
  have hff := make_formed hf hm
  obtain ⟨p1, p2⟩ := parts_formed hf
  rw [T.make] at hm
  cases hb : T.body t.parts.2 with
  | none => rw [hb] at hm; cases hm
  | some u =>
    have hu := body_formed _ _ _ (Nat.le_refl _) p2 hb
    have hab := body_mapped (swapF 0 (T.varsL [t.parts.1, u] [])) _ _ _ (Nat.le_refl _) p2 hb
    rw [hb] at hm
    simp only at hm
    split at hm
    · rename_i hcr
      rw [Bool.and_eq_true] at hcr
      generalize hp : t.parts.1 = p at *
      generalize hV : T.varsL [p, u] [] = V at *
      have hw : T.withinL V [p, u] := by rw [← hV]; exact T.varsL_within _ _ (by rw [T.formedL, T.formedL, T.formedL, p1, hu]; rfl)
      rw [T.withinL, T.withinL] at hw
      rw [swapF_place] at hm hab
      simp only [Option.some.injEq, Prod.mk.injEq] at hm
      obtain ⟨rfl, rfl⟩ := hm
      obtain ⟨hk, hs, hl⟩ := map_head (vf (placeOf V)) p1 hcr.1
      have hparts : (clauseT (T.map (vf (placeOf V)) p) (T.map (vf (placeOf V)) u)).parts = (T.map (vf (placeOf V)) p, T.map (vf (placeOf V)) u) := by
        rw [clauseT]
        split
        · rename_i ht
          rw [T.parts]
          rw [if_neg, ← isOf_true hff.2 ht]
          intro hn
          obtain ⟨k', n', x, y, he⟩ := isOf_two hn
          have h1 : p.s = sNeck := by rw [← hs, he]; rfl
          have h2 : p.l.length = 2 := by rw [← hl, he]; rfl
          rw [h1, h2] at hcr
          have := hcr.2
          rw [show ((2 : Nat) : Int) = 2 from rfl, hres] at this
          cases this
        · rw [T.parts, if_pos (by simp [T.isOf, compT, T.k, T.s, T.l])]
          rfl
      have hvars : T.varsL [T.map (vf (placeOf V)) p, T.map (vf (placeOf V)) u] [] = V.map (placeOf V) := by
        have := varsL_mapped (place_inj V) [p, u] [] (by rw [T.formedL, T.formedL, T.formedL, p1, hu]; rfl) (by rw [T.withinL, T.withinL]; exact hw) (fun _ h => by cases h)
        rw [T.mapL, T.mapL, T.mapL, List.map_nil, hV] at this
        exact this
      rw [T.make, hparts]
      simp only
      rw [hab]
      simp only
      rw [hvars, map_again (place_again V) p p1 hw.1, map_again (place_again V) u hu hw.2.1, hs, hl]
      have hcal : (T.map (vf (placeOf V)) p).callable = true := by rw [T.callable, hk]; exact hcr.1
      rw [hcal, Bool.true_and, if_pos hcr.2]
    · cases hm

/-- What is made, as a term, makes itself: nothing is wrong with it. -/
theorem plainErr_made {res : List UInt8 → Int → Bool} (hres : res sNeck 2 = true) {t h b : T} (hf : t.formed = true) (hm : T.make res t = some (h, b)) (hrefl : ∀ x : T, T.same x x = true) : plainErr res h b = 0 := by
  have hff := make_formed hf hm
  rw [plainErr, hff.1, hff.2, make_again hres hf hm]
  simp [hrefl]

end Go.Proofs.Ytgaijgadeodoeaa
