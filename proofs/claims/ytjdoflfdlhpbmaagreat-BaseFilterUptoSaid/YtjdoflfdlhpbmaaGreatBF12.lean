/-
  A clause, as a term, makes the same clause (no program here).
  Facts for the bases that the laws make (no program here).
  slices.Grow and slices.Concat at lists of what a base holds.
  base.lets
-/
import Derived.Test.YtjdoflfdlhpbmaaGreatBF04
import Derived.Test.YtjdoflfdlhpbmaaGreatBF08
import Derived.Test.YtjdoflfdlhpbmaaGreatBF10
import Derived.Test.YtjdoflfdlhpbmaaGreatBF09
import Derived.Test.YtjdoflfdlhpbmaaGreatBF11
namespace Go.Proofs.YtjdoflfdlhpbmaaGreat

/-- A renaming of variables. -/
def vf (g : Int → Int) (n : Int) : T := varT (g n)
/-- The place of a variable. -/
def placeOf (V : List Int) (n : Int) : Int := if n ∈ V then (V.idxOf n : Int) else n
theorem swapF_place (V : List Int) : swapF 0 V = vf (placeOf V) := by
  funext n
  rw [swapF, vf, placeOf]
  split
  · rw [Int.zero_add]
  · rfl

theorem isOf_same {k n n' : Int} {s : List UInt8} {l l' : List T} (h : l.length = l'.length) (q : List UInt8) (r : Int) : (T.mk k n s l).isOf q r = (T.mk k n' s l').isOf q r := by
  show ((decide (k = 4) || decide (k = 3)) && decide (s = q) && decide ((l.length : Int) = r)) = ((decide (k = 4) || decide (k = 3)) && decide (s = q) && decide ((l'.length : Int) = r))
  rw [h]
theorem joins_same {k n n' : Int} {s : List UInt8} {l l' : List T} (h : l.length = l'.length) : (T.mk k n s l).joins = (T.mk k n' s l').joins := by
  rw [T.joins, T.joins, isOf_same h, isOf_same h, isOf_same h]

theorem map_atom (f : Int → T) {k n : Int} {s : List UInt8} (h1 : k ≠ 1) (h4 : k ≠ 4) : T.map f (.mk k n s []) = .mk k n s [] := by rw [T.map, if_neg h1, if_neg h4]
theorem map_comp (f : Int → T) (n : Int) (s : List UInt8) (l : List T) : T.map f (.mk 4 n s l) = .mk 4 n s (T.mapL f l) := by rw [T.map, if_neg (by decide), if_pos rfl]

theorem body_mapped (f : Int → T) (N : Nat) : ∀ (t u : T), SizeOf.sizeOf t ≤ N → t.formed = true → T.body t = some u → T.body (T.map f u) = some (T.map f u) := by
  induction N with
  | zero => intro t u h; cases t; simp at h
  | succ N ih =>
    intro t u h hf hb
    obtain ⟨k, n, s, l⟩ := t
    by_cases h1 : k = 1
    · subst h1
      rw [body_var] at hb
      cases hb
      rw [compT, map_comp]
      exact body_plain (by decide) (by decide) (by simp [T.joins, T.isOf, T.k, T.s, T.l, sCallT])
    by_cases h2 : k = 2
    · subst h2
      rw [body_int] at hb
      cases hb
    cases hj : (T.mk k n s l).joins with
    | true =>
      obtain ⟨k', n', s', x, y, he⟩ := joins_two hj
      cases he
      rw [body_joins h1 h2 hj] at hb
      obtain ⟨rfl, rfl, hs, hx, hy⟩ := formed_two_inv hf
      simp only [T.mk.sizeOf_spec, List.cons.sizeOf_spec] at h
      cases ha : T.body x with
      | none => rw [ha] at hb; cases hb
      | some a =>
        cases hc : T.body y with
        | none => rw [ha, hc] at hb; cases hb
        | some c =>
          rw [ha, hc] at hb
          cases hb
          rw [compT, map_comp, T.mapL, T.mapL, T.mapL]
          rw [body_joins (by decide) (by decide) ((joins_same (l := [T.map f a, T.map f c]) (l' := [x, y]) (n := 0) (n' := 0) rfl).trans hj), ih x a (by omega) hx ha, ih y c (by omega) hy hc]
          rfl
    | false =>
      rw [body_plain h1 h2 hj] at hb
      cases hb
      rcases formed_args hf with ⟨rfl, _⟩ | ⟨h4, rfl⟩
      · rw [map_comp]
        exact body_plain h1 h2 ((joins_same (T.mapL_length f l)).trans hj)
      · rw [map_atom f h1 h4]
        exact body_plain h1 h2 hj

mutual
theorem vars_sub {V : List Int} : ∀ (t : T) (W : List Int), T.within V t → (∀ n ∈ W, n ∈ V) → ∀ n ∈ T.vars t W, n ∈ V
  | .mk k m s l, W, ht, hW => by
    rw [T.within] at ht
    rw [T.vars]
    by_cases h1 : k = 1
    · rw [if_pos h1]
      split
      · exact hW
      · intro n hn
        rcases List.mem_append.1 hn with h | h
        · exact hW n h
        · rw [List.mem_singleton.1 h]; exact ht.1 h1
    · rw [if_neg h1]; exact varsL_sub l W ht.2 hW
theorem varsL_sub {V : List Int} : ∀ (l : List T) (W : List Int), T.withinL V l → (∀ n ∈ W, n ∈ V) → ∀ n ∈ T.varsL l W, n ∈ V
  | [], W, _, hW => by rw [T.varsL]; exact hW
  | x :: xs, W, hl, hW => by
    rw [T.withinL] at hl
    rw [T.varsL]
    exact varsL_sub xs _ hl.2 (vars_sub x W hl.1 hW)
end

theorem mem_map_on {g : Int → Int} {V W : List Int} (hg : ∀ a ∈ V, ∀ b ∈ V, g a = g b → a = b) (hW : ∀ n ∈ W, n ∈ V) {n : Int} (hn : n ∈ V) : g n ∈ W.map g ↔ n ∈ W := by
  constructor
  · intro h
    obtain ⟨m, hm, e⟩ := List.mem_map.1 h
    rw [← hg m (hW m hm) n hn e]
    exact hm
  · exact List.mem_map_of_mem

mutual
theorem vars_mapped {g : Int → Int} {V : List Int} (hg : ∀ a ∈ V, ∀ b ∈ V, g a = g b → a = b) : ∀ (t : T) (W : List Int), t.formed = true → T.within V t → (∀ n ∈ W, n ∈ V) → T.vars (T.map (vf g) t) (W.map g) = (T.vars t W).map g
  | .mk k n s l, W, hf, ht, hW => by
    rw [T.within] at ht
    by_cases h1 : k = 1
    · subst h1
      rw [T.map, if_pos rfl, vf, varT, T.vars, if_pos rfl, T.vars, if_pos rfl]
      by_cases hn : n ∈ W
      · rw [if_pos hn, if_pos ((mem_map_on hg hW (ht.1 rfl)).2 hn)]
      · rw [if_neg hn, if_neg (fun h => hn ((mem_map_on hg hW (ht.1 rfl)).1 h)), List.map_append, List.map_cons, List.map_nil]
    · rcases formed_args hf with ⟨rfl, hl⟩ | ⟨h4, rfl⟩
      · rw [map_comp, T.vars, if_neg h1, T.vars, if_neg h1]
        exact varsL_mapped hg l W hl ht.2 hW
      · rw [map_atom _ h1 h4, T.vars, if_neg h1, T.vars, if_neg h1, T.varsL, T.varsL]
theorem varsL_mapped {g : Int → Int} {V : List Int} (hg : ∀ a ∈ V, ∀ b ∈ V, g a = g b → a = b) : ∀ (l : List T) (W : List Int), T.formedL l = true → T.withinL V l → (∀ n ∈ W, n ∈ V) → T.varsL (T.mapL (vf g) l) (W.map g) = (T.varsL l W).map g
  | [], W, _, _, _ => by rw [T.mapL, T.varsL, T.varsL]
  | x :: xs, W, hf, hl, hW => by
    rw [T.withinL] at hl
    rw [T.formedL, Bool.and_eq_true] at hf
    rw [T.mapL, T.varsL, T.varsL, vars_mapped hg x W hf.1 hl.1 hW]
    exact varsL_mapped hg xs _ hf.2 hl.2 (vars_sub x W hl.1 hW)
end

mutual
theorem map_again {f : Int → T} {g : Int → Int} {V : List Int} (hfg : ∀ n ∈ V, f (g n) = varT (g n)) : ∀ (t : T), t.formed = true → T.within V t → T.map f (T.map (vf g) t) = T.map (vf g) t
  | .mk k n s l, hf, ht => by
    rw [T.within] at ht
    by_cases h1 : k = 1
    · subst h1
      rw [T.map, if_pos rfl, vf, varT, T.map, if_pos rfl, hfg n (ht.1 rfl), varT]
    · rcases formed_args hf with ⟨rfl, hl⟩ | ⟨h4, rfl⟩
      · rw [map_comp, map_comp, mapL_again hfg l hl ht.2]
      · rw [map_atom _ h1 h4, map_atom _ h1 h4]
theorem mapL_again {f : Int → T} {g : Int → Int} {V : List Int} (hfg : ∀ n ∈ V, f (g n) = varT (g n)) : ∀ (l : List T), T.formedL l = true → T.withinL V l → T.mapL f (T.mapL (vf g) l) = T.mapL (vf g) l
  | [], _, _ => by rw [T.mapL, T.mapL]
  | x :: xs, hf, hl => by
    rw [T.withinL] at hl
    rw [T.formedL, Bool.and_eq_true] at hf
    rw [T.mapL, T.mapL, map_again hfg x hf.1 hl.1, mapL_again hfg xs hf.2 hl.2]
end

theorem place_inj (V : List Int) : ∀ a ∈ V, ∀ b ∈ V, placeOf V a = placeOf V b → a = b := by
  intro a ha b hb h
  rw [placeOf, placeOf, if_pos ha, if_pos hb] at h
  have h2 : V.idxOf a = V.idxOf b := Int.ofNat_inj.1 h
  have e1 := List.getElem_idxOf (List.idxOf_lt_length_of_mem ha)
  have e2 := List.getElem_idxOf (List.idxOf_lt_length_of_mem hb)
  rw [← e1, ← e2]
  simp only [h2]

theorem idxOf_map_on {g : Int → Int} : ∀ (V W : List Int), (∀ a ∈ W, ∀ b ∈ W, g a = g b → a = b) → (∀ n ∈ V, n ∈ W) → ∀ n ∈ W, (V.map g).idxOf (g n) = V.idxOf n
  | [], _, _, _, _, _ => rfl
  | x :: xs, W, hg, hs, n, hn => by
    rw [List.map_cons, List.idxOf_cons, List.idxOf_cons]
    by_cases h : x = n
    · subst h; simp
    · have h2 : ¬ g x = g n := fun e => h (hg x (hs x (by simp)) n hn e)
      simp only [beq_eq_false_iff_ne.2 h, beq_eq_false_iff_ne.2 h2, cond_false]
      rw [idxOf_map_on xs W hg (fun m hm => hs m (by simp [hm])) n hn]

theorem place_again (V : List Int) : ∀ n ∈ V, swapF 0 (V.map (placeOf V)) (placeOf V n) = varT (placeOf V n) := by
  intro n hn
  rw [swapF, if_pos (List.mem_map_of_mem hn), idxOf_map_on V V (place_inj V) (fun _ h => h) n hn, Int.zero_add]
  conv => rhs; rw [placeOf, if_pos hn]

theorem map_head (f : Int → T) {p : T} (hf : p.formed = true) (hc : p.callable = true) : (T.map f p).k = p.k ∧ (T.map f p).s = p.s ∧ (T.map f p).l.length = p.l.length := by
  obtain ⟨k, n, s, l⟩ := p
  rcases formed_args hf with ⟨rfl, _⟩ | ⟨h4, rfl⟩
  · rw [map_comp]
    exact ⟨rfl, rfl, T.mapL_length f l⟩
  · have h1 : k ≠ 1 := by rintro rfl; simp [T.callable, T.k] at hc
    rw [map_atom f h1 h4]
    exact ⟨rfl, rfl, rfl⟩

theorem isOf_true {b : T} (hf : b.formed = true) (h : b.isOf sTrue 0 = true) : b = atomT sTrue := by
  obtain ⟨k, n, s, l⟩ := b
  simp only [T.isOf, T.k, T.s, T.l, Bool.and_eq_true, Bool.or_eq_true] at h
  obtain ⟨⟨hk, hs⟩, hl⟩ := h
  obtain rfl : s = sTrue := of_decide_eq_true hs
  replace hl : (l.length : Int) = 0 := of_decide_eq_true hl
  replace hk : k = 4 ∨ k = 3 := hk.imp of_decide_eq_true of_decide_eq_true
  obtain rfl : l = [] := List.eq_nil_of_length_eq_zero (by omega)
  rw [T.formed] at hf
  rcases hk with rfl | rfl
  · simp at hf
  · simp at hf
    obtain ⟨rfl, _⟩ := hf
    rfl

theorem make_again {res : List UInt8 → Int → Bool} (hres : res sNeck 2 = true) {t h b : T} (hf : t.formed = true) (hm : T.make res t = some (h, b)) : T.make res (clauseT h b) = some (h, b) := by
  have hff := make_formed hf hm
  obtain ⟨p1, p2⟩ := parts_formed hf
  rw [T.make] at hm
  cases hb : T.body t.parts.2 with
  | none => rw [hb] at hm; cases hm
  | some u =>
    have hu := body_formed _ _ _ (Nat.le_refl _) p2 hb
    have hab := body_mapped (swapF 0 (T.varsL [t.parts.1, u] [])) _ _ _ (Nat.le_refl _) p2 hb
    rw [hb] at hm
    simp only at hm
    split at hm
    · rename_i hcr
      rw [Bool.and_eq_true] at hcr
      generalize hp : t.parts.1 = p at *
      generalize hV : T.varsL [p, u] [] = V at *
      have hw : T.withinL V [p, u] := by rw [← hV]; exact T.varsL_within _ _ (by rw [T.formedL, T.formedL, T.formedL, p1, hu]; rfl)
      rw [T.withinL, T.withinL] at hw
      rw [swapF_place] at hm hab
      simp only [Option.some.injEq, Prod.mk.injEq] at hm
      obtain ⟨rfl, rfl⟩ := hm
      obtain ⟨hk, hs, hl⟩ := map_head (vf (placeOf V)) p1 hcr.1
      have hparts : (clauseT (T.map (vf (placeOf V)) p) (T.map (vf (placeOf V)) u)).parts = (T.map (vf (placeOf V)) p, T.map (vf (placeOf V)) u) := by
        rw [clauseT]
        split
        · rename_i ht
          rw [T.parts]
          rw [if_neg, ← isOf_true hff.2 ht]
          intro hn
          obtain ⟨k', n', x, y, he⟩ := isOf_two hn
          have h1 : p.s = sNeck := by rw [← hs, he]; rfl
          have h2 : p.l.length = 2 := by rw [← hl, he]; rfl
          rw [h1, h2] at hcr
          have := hcr.2
          rw [show ((2 : Nat) : Int) = 2 from rfl, hres] at this
          cases this
        · rw [T.parts, if_pos (by simp [T.isOf, compT, T.k, T.s, T.l])]
          rfl
      have hvars : T.varsL [T.map (vf (placeOf V)) p, T.map (vf (placeOf V)) u] [] = V.map (placeOf V) := by
        have := varsL_mapped (place_inj V) [p, u] [] (by rw [T.formedL, T.formedL, T.formedL, p1, hu]; rfl) (by rw [T.withinL, T.withinL]; exact hw) (fun _ h => by cases h)
        rw [T.mapL, T.mapL, T.mapL, List.map_nil, hV] at this
        exact this
      rw [T.make, hparts]
      simp only
      rw [hab]
      simp only
      rw [hvars, map_again (place_again V) p p1 hw.1, map_again (place_again V) u hu hw.2.1, hs, hl]
      have hcal : (T.map (vf (placeOf V)) p).callable = true := by rw [T.callable, hk]; exact hcr.1
      rw [hcal, Bool.true_and, if_pos hcr.2]
    · cases hm

/-- What is made, as a term, makes itself: nothing is wrong with it. -/
theorem plainErr_made {res : List UInt8 → Int → Bool} (hres : res sNeck 2 = true) {t h b : T} (hf : t.formed = true) (hm : T.make res t = some (h, b)) (hrefl : ∀ x : T, T.same x x = true) : plainErr res h b = 0 := by
  have hff := make_formed hf hm
  rw [plainErr, hff.1, hff.2, make_again hres hf hm]
  simp [hrefl]

end Go.Proofs.YtjdoflfdlhpbmaaGreat

namespace Go.Proofs.YtjdoflfdlhpbmaaGreat

theorem formed_small {t : T} (h : t.formed = true) : t.s.length ≤ 100 ∧ t.l.length ≤ 50 := by
  obtain ⟨k, n, s, l⟩ := t
  by_cases h1 : k = 1
  · subst h1
    obtain ⟨_, rfl, rfl⟩ := formed_var h
    exact ⟨by simp [T.s], by simp [T.l]⟩
  rcases formed_args h with ⟨rfl, _⟩ | ⟨h4, rfl⟩
  · rw [T.formed] at h
    simp only [show ¬ (4 : Int) = 1 by decide, show ¬ (4 : Int) = 2 by decide, show ¬ (4 : Int) = 3 by decide, if_false, if_true, Bool.and_eq_true, decide_eq_true_eq] at h
    simp only [T.s, T.l]
    omega
  · rw [T.formed] at h
    simp only [T.s, T.l]
    by_cases h2 : k = 2
    · subst h2
      simp at h
      simp [h]
    · by_cases h3 : k = 3
      · subst h3
        simp at h
        simp [h]
      · simp [h1, h2, h3, h4] at h

theorem res_neck : reserved sNeck 2 = true := by decide
theorem same_refl (x : T) : T.same x x = true := (same_iff x x).2 rfl

theorem make_p : T.make reserved (atomT [112]) = some (atomT [112], atomT sTrue) := by
  have hp : (atomT [112]).parts = (atomT [112], atomT sTrue) := by rw [T.parts, if_neg (by decide)]
  rw [T.make, hp]
  simp only
  rw [body_true]
  simp only
  rw [if_pos (by decide)]
  rw [atomT, atomT, map_atom _ (by decide) (by decide), map_atom _ (by decide) (by decide)]

theorem eq_of_toList {a b : ByteArray} (h : a.toList = b.toList) : a = b := by
  rw [Go.ByteArray.toList_eq, Go.ByteArray.toList_eq] at h
  cases a
  cases b
  congr 1
  exact Array.toList_inj.1 h

theorem size_toList (a : ByteArray) : a.toList.length = a.size := by rw [Go.ByteArray.toList_eq]; rfl

theorem tm_small {t : Tm} (h : t.erase.formed = true) : t.s.size ≤ 1000 ∧ t.l.length ≤ 1000 := by
  obtain ⟨h1, h2⟩ := formed_small h
  obtain ⟨k, n, s, p, c, l⟩ := t
  rw [Tm.erase] at h1 h2
  simp only [T.s, T.l, Tm.eraseL_length, size_toList] at h1 h2
  exact ⟨by simp only [Tm.s]; omega, by simp only [Tm.l]; omega⟩

/-- A term in memory that is an atom. -/
theorem atom_parts {t : Tm} {s : ByteArray} (h : t.erase = atomT s.toList) : t.s = s ∧ t.l = [] := by
  obtain ⟨k, n, s', p, c, l⟩ := t
  rw [Tm.erase, atomT] at h
  injection h with _ _ h3 h4
  refine ⟨eq_of_toList h3, ?_⟩
  have := Tm.eraseL_length l
  rw [h4] at this
  exact List.eq_nil_of_length_eq_zero this.symm

theorem on_nil {t : Tm} {S : Nat → Prop} (h : t.l = []) : t.On S := by
  obtain ⟨k, n, s, p, c, l⟩ := t
  simp only [Tm.l] at h
  subst h
  rw [Tm.On, Tm.OnL]
  exact ⟨.inl rfl, trivial⟩
end Go.Proofs.YtjdoflfdlhpbmaaGreat

namespace Go.Proofs.YtjdoflfdlhpbmaaGreat
open Go.RowKit Go.Lib

/-- A slice, and the cells that it holds. -/
structure Rw where
  p : Option Addr
  n : Nat
  c : Nat
  cs : List Value
def Rw.In (sz : Nat) (w : World) (r : Rw) : Prop := r.cs.length = r.n * sz ∧ (∀ u ∈ r.cs, u.oneCell' = true) ∧ (r.n = 0 ∨ ∃ b o, r.p = some ⟨b, o, none⟩ ∧ ∀ j u, r.cs[j]? = some u → w.cell? ⟨b, o + j, none⟩ = some u)
def sumN (rs : List Rw) : Nat := (rs.map Rw.n).sum
theorem sumN_take (rs : List Rw) (k : Nat) (h : k < rs.length) : sumN (rs.take (k + 1)) = sumN (rs.take k) + rs[k].n := by
  rw [sumN, sumN, List.take_succ_eq_append_getElem h, List.map_append, List.sum_append]
  simp
theorem sumN_le (rs : List Rw) (k : Nat) : sumN (rs.take k) ≤ sumN rs := by
  conv => rhs; rw [sumN, ← List.take_append_drop k rs, List.map_append, List.sum_append]
  exact Nat.le_add_right _ _
theorem flat_take (rs : List Rw) (k : Nat) (h : k < rs.length) : (rs.take (k + 1)).flatMap Rw.cs = (rs.take k).flatMap Rw.cs ++ rs[k].cs := by
  rw [List.take_succ_eq_append_getElem h, List.flatMap_append]
  simp

set_option maxHeartbeats 1000000 in
set_option maxRecDepth 100000 in
theorem growH_some (n : Nat) (hn : 0 < n) (hb : n * 120 ≤ 140737488351232) (w : World) : Calls Tryz.prog 54 #[.slice none 0 0, .int .i64 n] w fun e w' => ∃ v, e = .returned v ∧ w'.ownsRow w.heap.size 73 9 v 0 [] ∧ Gr w w' := by
  obtain ⟨i0, hi, hz0, hz1, hz2⟩ := info_parts infoHeld
  have hr := run_append_nil_zeros (P := Tryz.prog) w 70 3 70 73 i0 _ .i64 .i64 Tryz.underlying70 Tryz.underlying3 hi hz0 n hn (by rw [hz1]; decide) (by omega) (by rw [hz2]; omega)
  have hge : n ≤ grownCap w n 0 73 := grownCap_ge w n 0 _
  have hcm : grownCap w n 0 73 ≤ maxLen := grownCap_le_maxLen w n 0 _ (by simp only [maxLen]; omega)
  generalize grownCap w n 0 73 = C at *
  generalize hw1 : w.drew.alloc _ = w1 at hr
  have hown : w1.ownsRow w.heap.size 73 9 (.slice (some ⟨w.heap.size, 0, none⟩) 0 C) 0 [] := by
    rw [← hw1]
    refine ⟨by simp, .inr ⟨w.heap.size, C, _, rfl, Nat.le_refl _, heap_alloc_new w.drew _, Nat.zero_le _, hcm, ?_, by simp⟩⟩
    have h9 : (Value.cells (.agg #[.int .i64 0, .int .i64 0, .int .i64 0, .string ⟨#[]⟩, .slice none 0 0, .int .i64 0, .int .i64 0, .string ⟨#[]⟩, .slice none 0 0])).size = 9 := rfl
    rw [Array.size_append, size_zeroCells, size_zeroCells, h9]
    omega
  have hgr : Gr w w1 := by rw [← hw1]; go_grown
  clear hw1
  have Hr := Lib.hid hr
  generalize hQ : (fun (e : Ending) (w' : World) => ∃ v, e = .returned v ∧ w'.ownsRow w.heap.size 73 9 v 0 [] ∧ Gr w w') = Q
  have hR : Hid (∀ v, w1.ownsRow w.heap.size 73 9 v 0 [] → Q (.returned v) w1) := fun v h => by rw [← hQ]; exact ⟨v, rfl, h, hgr⟩
  have Ho := Lib.hid hown
  have hw0 : IntKind.i64.wrap (n : Int) = n := IntWalk.i64_in _ (by omega)
  have hne : ¬ ((n : Int) < 0) := by omega
  have hpo : (0 : Int) < n := by omega
  clear hQ hr hown hgr hi hz0 hz1 hz2 hge hcm i0
  go_enter Tryz.func54, Tryz.ntmps54
  go_wp2_with (first
    | (refine wpList_append_run w rfl _ _ _ _ rfl _ _ (by rfl) (by rfl) _ _ Hr.out ?_)
    | fail)
  exact hR.out _ Ho.out

set_option maxRecDepth 100000 in
theorem growH_calls (n : Nat) (hb : n * 120 ≤ 140737488351232) (w : World) : Calls Tryz.prog 54 #[.slice none 0 0, .int .i64 n] w fun e w' => ∃ v, e = .returned v ∧ w'.ownsRow w.heap.size 73 9 v 0 [] ∧ Gr w w' := by
  by_cases hn : 0 < n
  · exact growH_some n hn hb w
  · obtain rfl : n = 0 := by omega
    generalize hQ : (fun (e : Ending) (w' : World) => ∃ v, e = .returned v ∧ w'.ownsRow w.heap.size 73 9 v 0 [] ∧ Gr w w') = Q
    have hR : Hid (∀ w1, Gr w w1 → Q (.returned (.slice none 0 0)) w1) := fun w1 h => by rw [← hQ]; exact ⟨_, rfl, World.ownsRow_nil _ _ _ _, h⟩
    clear hQ
    go_enter Tryz.func54, Tryz.ntmps54
    go_wp2_with fail
    exact hR.out _ (by go_grown)

set_option maxHeartbeats 2000000 in
set_option maxRecDepth 100000 in
theorem concatH_calls (a : Nat) (rs : List Rw) (w : World) (hrs : ∀ r ∈ rs, r.In 9 w) (hc : ∀ i r, rs[i]? = some r → w.cell? ⟨a, i, none⟩ = some (.slice r.p r.n r.c)) (hsum : sumN rs * 120 ≤ 140737488351232) (hk : rs.length ≤ 1000) :
    Calls Tryz.prog 27 #[.slice (some ⟨a, 0, none⟩) rs.length rs.length] w fun e w' => ∃ v, e = .returned v ∧ w'.ownsRow w.heap.size 73 9 v (sumN rs) (rs.flatMap Rw.cs) ∧ Gr w w' := by
  generalize hQ : (fun (e : Ending) (w' : World) => ∃ v, e = .returned v ∧ w'.ownsRow w.heap.size 73 9 v (sumN rs) (rs.flatMap Rw.cs) ∧ Gr w w') = Q
  have hR : Hid (∀ v w', w'.ownsRow w.heap.size 73 9 v (sumN rs) (rs.flatMap Rw.cs) → Gr w w' → Q (.returned v) w') := fun v w' h hg => by rw [← hQ]; exact ⟨v, rfl, h, hg⟩
  clear hQ
  have Hrs := Lib.hid hrs
  have Hc := Lib.hid hc
  have Hsum := Lib.hid hsum
  clear hrs hc
  go_enter Tryz.func27, Tryz.ntmps27
  try simp only [List.append_eq, List.cons_append, List.nil_append]
  go_wp2_with fail
  go_loopg [3, 11] rs.length (fun m s i wr => ∃ k : Nat, k ≤ rs.length ∧ m = rs.length - k ∧ s = .int .i64 (sumN (rs.take k) : Nat) ∧ i = .int .i64 k ∧ w = wr)
  case atStart => exact ⟨0, Nat.zero_le _, rfl, rfl, rfl, rfl⟩
  case round =>
    obtain ⟨k, hkl, rfl, rfl, rfl, rfl⟩ := hrel
    by_cases hlt : k < rs.length
    · have cj := Hc.out k rs[k] (List.getElem?_eq_getElem hlt)
      have hst := sumN_take rs k hlt
      have hle : sumN (rs.take (k + 1)) ≤ sumN rs := sumN_le rs (k + 1)
      have hs64 := Hsum.out
      generalize sumN (rs.take k) = S0 at *
      generalize hS1 : sumN (rs.take (k + 1)) = S1 at *
      generalize rs[k] = r at *
      have hw1 : IntKind.i64.wrap ((S0 : Int) + (r.n : Int)) = (S1 : Nat) := by rw [IntWalk.i64_in _ (by omega)]; omega
      have hne : ¬ (((S1 : Nat) : Int) < 0) := by omega
      clear hst hle hs64
      go_wp2_with fail
      go_roundg (rs.length - (k + 1))
      case measure => omega
      case rel => exact ⟨k + 1, by omega, rfl, by rw [hS1], by go_num, rfl⟩
    · obtain rfl : k = rs.length := by omega
      have hta : sumN (rs.take rs.length) = sumN rs := by rw [List.take_length]
      rw [hta]
      have Hgr := Lib.hid (growH_calls (sumN rs) hsum w)
      clear hta
      go_wp2_with (first
        | (go_at_call 54; refine Hgr.out.mono ?_; rintro e w2 ⟨v0, rfl, ho, hg⟩; have Ho := Lib.hid ho; have Hg := hg; clear ho hg)
        | fail)
      go_loopg [6, 27] rs.length (fun n v i wr => ∃ (j : Nat) (u : Value), u = v ∧ j ≤ rs.length ∧ n = rs.length - j ∧ i = .int .i64 j ∧ Gr w wr ∧ Hid (wr.ownsRow w.heap.size 73 9 u (sumN (rs.take j)) ((rs.take j).flatMap Rw.cs)))
      case atStart => exact ⟨0, _, rfl, Nat.zero_le _, rfl, rfl, Hg, Ho⟩
      case round =>
        obtain ⟨i0, hi, hz0, hz1, hz2⟩ := info_parts infoHeld
        obtain ⟨j, v, rfl, hj, rfl, rfl, gr, ho⟩ := hrel
        by_cases hlt : j < rs.length
        · have cj := Gr.at gr (Hc.out j rs[j] (List.getElem?_eq_getElem hlt))
          have hin := Hrs.out rs[j] (List.getElem_mem hlt)
          have hst := sumN_take rs j hlt
          have hfl := flat_take rs j hlt
          have hle : sumN (rs.take (j + 1)) ≤ sumN rs := sumN_le rs (j + 1)
          have hs64 := Hsum.out
          generalize hS0 : sumN (rs.take j) = S0 at *
          generalize hS1 : sumN (rs.take (j + 1)) = S1 at *
          generalize hF0 : (rs.take j).flatMap Rw.cs = F0 at *
          generalize rs[j] = r at *
          obtain ⟨p, n, c, cs⟩ := r
          simp only at cj hst hfl hin
          have ho' := ho.out
          by_cases h0 : n = 0
          · subst h0
            have hcs0 : cs = [] := List.eq_nil_of_length_eq_zero (by have := hin.1; simpa using this)
            obtain ⟨q, cp, rfl, hcp⟩ := row_form ho'
            have hr := run_append_empty (P := Tryz.prog) wr 70 70 73 i0 Tryz.underlying70 hi q _ cp p c hcp
            have Hr := Lib.hid hr
            have hnx : Hid (wr.ownsRow w.heap.size 73 9 (.slice q S0 cp) S1 ((rs.take (j + 1)).flatMap Rw.cs)) := by
              show World.ownsRow _ _ _ _ _ _ _
              rw [hfl, hcs0, List.append_nil, hst]
              exact ho'
            clear hr ho' hst hfl hle hs64 hin hcs0 hi hz0 hz1 hz2
            go_wp2_with (first
              | (refine wpList_append_run wr rfl _ _ _ _ rfl _ _ (by rfl) (by rfl) _ _ Hr.out ?_)
              | fail)
            go_roundg (rs.length - (j + 1))
            case measure => omega
            case rel => exact ⟨j + 1, _, rfl, by omega, rfl, by go_num, gr, by rw [hS1]; exact hnx⟩
          · obtain ⟨hcl, hone, h0' | ⟨b, o, hp, hcells⟩⟩ := hin
            · exact absurd h0' h0
            · simp only at hp hcl hone hcells
              subst hp
              obtain ⟨v', w', hr, h2, h3, h4⟩ := run_append_own_fresh (P := Tryz.prog) wr w.heap.size 70 70 73 i0 _ 9 120 Tryz.underlying70 hi hz0 hz1 hz2 rfl (by decide) v S0 F0 ho'
                ⟨b, o, none⟩ n c cs hcl (fun j u hu => by rw [Go.WideShapes.add_plain]; exact Gr.at gr (hcells j u hu)) hone (by simp only [maxLen]; omega) (by omega) gr.size (by omega)
              have Hr := Lib.hid hr
              have hlt' := ho'.lt
              have gr' : Gr w w' := Below.trans gr (grownBy_below h3 gr.size fun k hk => (hlt' k hk).1)
              have hnx : Hid (w'.ownsRow w.heap.size 73 9 v' S1 ((rs.take (j + 1)).flatMap Rw.cs)) := by
                show World.ownsRow _ _ _ _ _ _ _
                rw [hfl, hst]
                exact h2
              clear hr h2 h3 h4 ho' hst hfl hle hs64 hcl hone hcells hi hz0 hz1 hz2 hlt'
              go_wp2_with (first
                | (refine wpList_append_run wr rfl _ _ _ _ rfl _ _ (by rfl) (by rfl) _ _ Hr.out ?_)
                | fail)
              go_roundg (rs.length - (j + 1))
              case measure => omega
              case rel => exact ⟨j + 1, _, rfl, by omega, rfl, by go_num, gr', by rw [hS1]; exact hnx⟩
        · obtain rfl : j = rs.length := by omega
          have ho' : Hid (wr.ownsRow w.heap.size 73 9 v (sumN rs) (rs.flatMap Rw.cs)) := by
            have h := ho.out
            rw [List.take_length] at h
            exact h
          go_wp2_with fail
          exact hR.out v _ ho'.out gr
end Go.Proofs.YtjdoflfdlhpbmaaGreat

namespace Go.Proofs.YtjdoflfdlhpbmaaGreat
open Go.RowKit

/-- Does the first Arg let a clause through? -/
def letsArg (x y : T) : Bool := decide (x.k = 1) || decide (y.k = 1) || (decide (x.k = y.k) && decide (x.n = y.n) && decide (x.s = y.s) && decide (x.l.length = y.l.length))
def letsT (g h : T) : Bool := match g.l, h.l with
  | x :: _, y :: _ => letsArg x y
  | _, _ => true

theorem lets_nil (t u : Tm) (w : World) (ht : t.l = []) : Calls Tryz.prog 57 #[t.val, u.val] w (Ret (.bool (letsT t.erase u.erase)) w) := by
  have h : letsT t.erase u.erase = true := by
    obtain ⟨k, n, s, p, c, l⟩ := t
    simp only [Tm.l] at ht
    subst ht
    rw [Tm.erase, Tm.eraseL, letsT]
    rfl
  rw [h]
  exact lets_calls t u w ht

/-- What the code compares. -/
def letsTm (x y : Tm) : Bool := (x.k == 1) || ((y.k == 1) || ((x.k == y.k) && (x.n == y.n) && (x.s.toList == y.s.toList) && ((x.l.length : Int) == (y.l.length : Int))))

set_option maxHeartbeats 4000000 in
set_option maxRecDepth 100000 in
theorem lets_walk (k0 n0 k1 n1 : Int) (s0 s1 : ByteArray) (b o c d o' c' m m' : Nat) (x y : Tm) (w : World) (hm : 0 < m) (hm' : 0 < m')
    (x0 : w.cell? ⟨b, o, none⟩ = some (.int .i64 x.k)) (x1 : w.cell? ⟨b, o + 1, none⟩ = some (.int .i64 x.n)) (x2 : w.cell? ⟨b, o + 2, none⟩ = some (.string x.s)) (x3 : w.cell? ⟨b, o + 3, none⟩ = some (.slice x.p x.l.length x.c))
    (y0 : w.cell? ⟨d, o', none⟩ = some (.int .i64 y.k)) (y1 : w.cell? ⟨d, o' + 1, none⟩ = some (.int .i64 y.n)) (y2 : w.cell? ⟨d, o' + 2, none⟩ = some (.string y.s)) (y3 : w.cell? ⟨d, o' + 3, none⟩ = some (.slice y.p y.l.length y.c)) :
    Calls Tryz.prog 57 #[.agg #[.int .i64 k0, .int .i64 n0, .string s0, .slice (some ⟨b, o, none⟩) m c], .agg #[.int .i64 k1, .int .i64 n1, .string s1, .slice (some ⟨d, o', none⟩) m' c']] w (Ret (.bool (letsTm x y)) w) := by
  have hR : Hid (∀ v, letsTm x y = v → ∀ w', Gr w w' → Ret (.bool (letsTm x y)) w (.returned (.bool v)) w') := fun v hv w' hg => ⟨by rw [hv], hg⟩
  have hD := Lib.hid (show letsTm x y = ((x.k == 1) || ((y.k == 1) || ((x.k == y.k) && (x.n == y.n) && (x.s.toList == y.s.toList) && ((x.l.length : Int) == (y.l.length : Int))))) from rfl)
  generalize hQ : Ret (.bool (letsTm x y)) w = Q at hR ⊢
  clear hQ
  generalize letsTm x y = R at *
  go_enter Tryz.func57, Tryz.ntmps57
  try simp only [List.append_eq, List.cons_append, List.nil_append]
  go_upto_region 1 with fail
  obtain ⟨HX, HY, gA⟩ := two_blocks w (.int .i64 k0) (.int .i64 n0) (.string s0) (.slice (some ⟨b, o, none⟩) m c) (.int .i64 k1) (.int .i64 n1) (.string s1) (.slice (some ⟨d, o', none⟩) m' c')
  generalize (w.alloc (.cells #[.int .i64 k0, .int .i64 n0, .string s0, .slice (some ⟨b, o, none⟩) m c] 24)).alloc (.cells #[.int .i64 k1, .int .i64 n1, .string s1, .slice (some ⟨d, o', none⟩) m' c'] 24) = wA at *
  replace x0 := Gr.at gA x0
  replace x1 := Gr.at gA x1
  replace x2 := Gr.at gA x2
  replace x3 := Gr.at gA x3
  replace y0 := Gr.at gA y0
  replace y1 := Gr.at gA y1
  replace y2 := Gr.at gA y2
  replace y3 := Gr.at gA y3
  obtain ⟨⟨a0, a1, a2, a3⟩, _, hla⟩ := HX.out.parts
  obtain ⟨⟨b0, b1, b2, b3⟩, _, hlb⟩ := HY.out.parts
  have hbx : b < wA.heap.size := World.block_lt_of_cell? _ _ x0
  have hby : d < wA.heap.size := World.block_lt_of_cell? _ _ y0
  go_upto_region 3 with fail
  go_cut [5, 6, 11, 12, 13, 14, 15, 16, 17, 18] from 11 to 18 (fun p q _ _ _ _ _ _ _ _ wx => ∃ b5 b6, p = .pointer (some ⟨b5, 0, none⟩) ∧ q = .pointer (some ⟨b6, 0, none⟩) ∧ Blk4 wx b5 (.int .i64 x.k) (.int .i64 x.n) (.string x.s) (.slice x.p x.l.length x.c) ∧ Blk4 wx b6 (.int .i64 y.k) (.int .i64 y.n) (.string y.s) (.slice y.p y.l.length y.c) ∧ Gr wA wx)
  case first =>
    have hl1 : w.heap.size < wA.heap.size + 1 := by omega
    have hl2 : w.heap.size + 1 < wA.heap.size + 1 := by omega
    have hl3 : b < wA.heap.size + 1 := by omega
    have hl4 : d < wA.heap.size + 1 := by omega
    go_region
    all_goals
      go_wp2_with fail
      go_meet
    · obtain ⟨H1, H2, g⟩ := two_blocks wA (.int .i64 x.k) (.int .i64 x.n) (.string x.s) (.slice x.p x.l.length x.c) (.int .i64 y.k) (.int .i64 y.n) (.string y.s) (.slice y.p y.l.length y.c)
      exact ⟨_, _, rfl, rfl, H1.out.gr (by go_grown), H2.out.gr (by go_grown), g.trans (by go_grown)⟩
    · obtain ⟨H1, H2, g⟩ := two_blocks wA (.int .i64 y.k) (.int .i64 y.n) (.string y.s) (.slice y.p y.l.length y.c) (.int .i64 x.k) (.int .i64 x.n) (.string x.s) (.slice x.p x.l.length x.c)
      exact ⟨_, _, rfl, rfl, H2.out.gr (by go_grown), H1.out.gr (by go_grown), g.trans (by go_grown)⟩
  case rest =>
    obtain ⟨b5, b6, rfl, rfl, HP, HQ, gx⟩ := hcut
    have gw := gA.trans gx
    obtain ⟨⟨p0, p1, p2, p3⟩, _, _⟩ := HP.parts
    obtain ⟨⟨q0, q1, q2, q3⟩, _, _⟩ := HQ.parts
    clear x0 x1 x2 x3 y0 y1 y2 y3 a0 a1 a2 a3 b0 b1 b2 b3 HP HQ HX HY
    cases e0 : (x.k == 1) with
    | true =>
      have hv := Lib.hid (hR.out true (by rw [hD.out, e0]; rfl))
      go_wp2_with fail
      exact hv.out _ gw
    | false =>
      cases e1 : (y.k == 1) with
      | true =>
        have hv := Lib.hid (hR.out true (by rw [hD.out, e0, e1]; rfl))
        go_wp2_with fail
        exact hv.out _ gw
      | false =>
        cases e2 : (x.k == y.k) with
        | true =>
          cases e3 : (x.n == y.n) with
          | true =>
            cases e4 : (x.s.toList == y.s.toList) with
            | true =>
              cases e5 : ((x.l.length : Int) == (y.l.length : Int)) with
              | true =>
                have hv := Lib.hid (hR.out true (by rw [hD.out, e0, e1, e2, e3, e4, e5]; rfl))
                go_wp2_with fail
                exact hv.out _ gw
              | false =>
                have hv := Lib.hid (hR.out false (by rw [hD.out, e0, e1, e2, e3, e4, e5]; rfl))
                go_wp2_with fail
                exact hv.out _ gw
            | false =>
              have hv := Lib.hid (hR.out false (by rw [hD.out, e0, e1, e2, e3, e4]; rfl))
              go_wp2_with fail
              exact hv.out _ gw
          | false =>
            have hv := Lib.hid (hR.out false (by rw [hD.out, e0, e1, e2, e3]; rfl))
            go_wp2_with fail
            exact hv.out _ gw
        | false =>
          have hv := Lib.hid (hR.out false (by rw [hD.out, e0, e1, e2]; rfl))
          go_wp2_with fail
          exact hv.out _ gw

theorem letsTm_eq (x y : Tm) : letsTm x y = letsArg x.erase y.erase := by
  obtain ⟨k, n, s, p, c, l⟩ := x
  obtain ⟨k', n', s', p', c', l'⟩ := y
  rw [Tm.erase, Tm.erase]
  simp only [letsTm, letsArg, Tm.k, Tm.n, Tm.s, Tm.l, T.k, T.n, T.s, T.l, Tm.eraseL_length]
  rw [Bool.eq_iff_iff]
  simp only [Bool.or_eq_true, Bool.and_eq_true, beq_iff_eq, decide_eq_true_eq, or_assoc, and_assoc]
  constructor
  · rintro (h | h | ⟨h1, h2, h3, h4⟩)
    · exact .inl (decide_eq_true h)
    · exact .inr (.inl (decide_eq_true h))
    · exact .inr (.inr ⟨decide_eq_true h1, decide_eq_true h2, decide_eq_true h3, by omega⟩)
  · rintro (h | h | ⟨h1, h2, h3, h4⟩)
    · exact .inl (of_decide_eq_true h)
    · exact .inr (.inl (of_decide_eq_true h))
    · exact .inr (.inr ⟨of_decide_eq_true h1, of_decide_eq_true h2, of_decide_eq_true h3, by omega⟩)

/-- Both have Args, or the goal has none. -/
theorem lets_gen {t u : Tm} {w : World} (ht : t.In w) (hu : u.In w) (hl : t.l = [] ∨ (0 < t.l.length ∧ 0 < u.l.length)) : Calls Tryz.prog 57 #[t.val, u.val] w (Ret (.bool (letsT t.erase u.erase)) w) := by
  rcases hl with hl | ⟨h1, h2⟩
  · exact lets_nil t u w hl
  · obtain ⟨k, n, s, p, c, l⟩ := t
    obtain ⟨k', n', s', p', c', l'⟩ := u
    simp only [Tm.l] at h1 h2
    obtain ⟨b, o, rfl⟩ := ht.sl.ptr h1
    obtain ⟨d, o', rfl⟩ := hu.sl.ptr h2
    obtain ⟨⟨x0, x1, x2, x3⟩, _, _⟩ := ht.sl.elem 0 h1
    obtain ⟨⟨y0, y1, y2, y3⟩, _, _⟩ := hu.sl.elem 0 h2
    match l, l', h1, h2 with
    | x :: xs, y :: ys, h1, h2 =>
      simp only [List.getElem_cons_zero, Nat.zero_mul, Nat.add_zero] at x0 x1 x2 x3 y0 y1 y2 y3
      have h := lets_walk k n k' n' s s' b o c d o' c' _ _ x y w h1 h2 x0 x1 x2 x3 y0 y1 y2 y3
      rw [letsTm_eq] at h
      rw [Tm.erase, Tm.erase, Tm.eraseL, Tm.eraseL, letsT]
      exact h
end Go.Proofs.YtjdoflfdlhpbmaaGreat
