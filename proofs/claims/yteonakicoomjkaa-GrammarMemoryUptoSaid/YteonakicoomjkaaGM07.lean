/-
  A clause, as a term, makes the same clause (no program here).
  Which names are reserved, which builtins are allowed, which codes may run: plain.
  The order of terms: a total one (plain).
  Facts for the bases that the laws make (no program here).
-/
import Derived.Test.YteonakicoomjkaaGM04
import Derived.Test.YteonakicoomjkaaGM03
import Derived.Test.YteonakicoomjkaaGM06
namespace Go.Proofs.Yteonakicoomjkaa

/-- A renaming of variables. -/
def vf (g : Int → Int) (n : Int) : T := varT (g n)
/-- The place of a variable. -/
def placeOf (V : List Int) (n : Int) : Int := if n ∈ V then (V.idxOf n : Int) else n
theorem swapF_place (V : List Int) : swapF 0 V = vf (placeOf V) := by
  funext n
  rw [swapF, vf, placeOf]
  split
  · rw [Int.zero_add]
  · rfl

theorem isOf_same {k n n' : Int} {s : List UInt8} {l l' : List T} (h : l.length = l'.length) (q : List UInt8) (r : Int) : (T.mk k n s l).isOf q r = (T.mk k n' s l').isOf q r := by
  show ((decide (k = 4) || decide (k = 3)) && decide (s = q) && decide ((l.length : Int) = r)) = ((decide (k = 4) || decide (k = 3)) && decide (s = q) && decide ((l'.length : Int) = r))
  rw [h]
theorem joins_same {k n n' : Int} {s : List UInt8} {l l' : List T} (h : l.length = l'.length) : (T.mk k n s l).joins = (T.mk k n' s l').joins := by
  rw [T.joins, T.joins, isOf_same h, isOf_same h, isOf_same h]

theorem map_atom (f : Int → T) {k n : Int} {s : List UInt8} (h1 : k ≠ 1) (h4 : k ≠ 4) : T.map f (.mk k n s []) = .mk k n s [] := by rw [T.map, if_neg h1, if_neg h4]
theorem map_comp (f : Int → T) (n : Int) (s : List UInt8) (l : List T) : T.map f (.mk 4 n s l) = .mk 4 n s (T.mapL f l) := by rw [T.map, if_neg (by decide), if_pos rfl]

theorem body_mapped (f : Int → T) (N : Nat) : ∀ (t u : T), SizeOf.sizeOf t ≤ N → t.formed = true → T.body t = some u → T.body (T.map f u) = some (T.map f u) := by
  induction N with
  | zero => intro t u h; cases t; simp at h
  | succ N ih =>
    intro t u h hf hb
    obtain ⟨k, n, s, l⟩ := t
    by_cases h1 : k = 1
    · subst h1
      rw [body_var] at hb
      cases hb
      rw [compT, map_comp]
      exact body_plain (by decide) (by decide) (by simp [T.joins, T.isOf, T.k, T.s, T.l, sCallT])
    by_cases h2 : k = 2
    · subst h2
      rw [body_int] at hb
      cases hb
    cases hj : (T.mk k n s l).joins with
    | true =>
      obtain ⟨k', n', s', x, y, he⟩ := joins_two hj
      cases he
      rw [body_joins h1 h2 hj] at hb
      obtain ⟨rfl, rfl, hs, hx, hy⟩ := formed_two_inv hf
      simp only [T.mk.sizeOf_spec, List.cons.sizeOf_spec] at h
      cases ha : T.body x with
      | none => rw [ha] at hb; cases hb
      | some a =>
        cases hc : T.body y with
        | none => rw [ha, hc] at hb; cases hb
        | some c =>
          rw [ha, hc] at hb
          cases hb
          rw [compT, map_comp, T.mapL, T.mapL, T.mapL]
          rw [body_joins (by decide) (by decide) ((joins_same (l := [T.map f a, T.map f c]) (l' := [x, y]) (n := 0) (n' := 0) rfl).trans hj), ih x a (by omega) hx ha, ih y c (by omega) hy hc]
          rfl
    | false =>
      rw [body_plain h1 h2 hj] at hb
      cases hb
      rcases formed_args hf with ⟨rfl, _⟩ | ⟨h4, rfl⟩
      · rw [map_comp]
        exact body_plain h1 h2 ((joins_same (T.mapL_length f l)).trans hj)
      · rw [map_atom f h1 h4]
        exact body_plain h1 h2 hj

mutual
theorem vars_sub {V : List Int} : ∀ (t : T) (W : List Int), T.within V t → (∀ n ∈ W, n ∈ V) → ∀ n ∈ T.vars t W, n ∈ V
  | .mk k m s l, W, ht, hW => by
    rw [T.within] at ht
    rw [T.vars]
    by_cases h1 : k = 1
    · rw [if_pos h1]
      split
      · exact hW
      · intro n hn
        rcases List.mem_append.1 hn with h | h
        · exact hW n h
        · rw [List.mem_singleton.1 h]; exact ht.1 h1
    · rw [if_neg h1]; exact varsL_sub l W ht.2 hW
theorem varsL_sub {V : List Int} : ∀ (l : List T) (W : List Int), T.withinL V l → (∀ n ∈ W, n ∈ V) → ∀ n ∈ T.varsL l W, n ∈ V
  | [], W, _, hW => by rw [T.varsL]; exact hW
  | x :: xs, W, hl, hW => by
    rw [T.withinL] at hl
    rw [T.varsL]
    exact varsL_sub xs _ hl.2 (vars_sub x W hl.1 hW)
end

theorem mem_map_on {g : Int → Int} {V W : List Int} (hg : ∀ a ∈ V, ∀ b ∈ V, g a = g b → a = b) (hW : ∀ n ∈ W, n ∈ V) {n : Int} (hn : n ∈ V) : g n ∈ W.map g ↔ n ∈ W := by
  constructor
  · intro h
    obtain ⟨m, hm, e⟩ := List.mem_map.1 h
    rw [← hg m (hW m hm) n hn e]
    exact hm
  · exact List.mem_map_of_mem

mutual
theorem vars_mapped {g : Int → Int} {V : List Int} (hg : ∀ a ∈ V, ∀ b ∈ V, g a = g b → a = b) : ∀ (t : T) (W : List Int), t.formed = true → T.within V t → (∀ n ∈ W, n ∈ V) → T.vars (T.map (vf g) t) (W.map g) = (T.vars t W).map g
  | .mk k n s l, W, hf, ht, hW => by
    rw [T.within] at ht
    by_cases h1 : k = 1
    · subst h1
      rw [T.map, if_pos rfl, vf, varT, T.vars, if_pos rfl, T.vars, if_pos rfl]
      by_cases hn : n ∈ W
      · rw [if_pos hn, if_pos ((mem_map_on hg hW (ht.1 rfl)).2 hn)]
      · rw [if_neg hn, if_neg (fun h => hn ((mem_map_on hg hW (ht.1 rfl)).1 h)), List.map_append, List.map_cons, List.map_nil]
    · rcases formed_args hf with ⟨rfl, hl⟩ | ⟨h4, rfl⟩
      · rw [map_comp, T.vars, if_neg h1, T.vars, if_neg h1]
        exact varsL_mapped hg l W hl ht.2 hW
      · rw [map_atom _ h1 h4, T.vars, if_neg h1, T.vars, if_neg h1, T.varsL, T.varsL]
theorem varsL_mapped {g : Int → Int} {V : List Int} (hg : ∀ a ∈ V, ∀ b ∈ V, g a = g b → a = b) : ∀ (l : List T) (W : List Int), T.formedL l = true → T.withinL V l → (∀ n ∈ W, n ∈ V) → T.varsL (T.mapL (vf g) l) (W.map g) = (T.varsL l W).map g
  | [], W, _, _, _ => by rw [T.mapL, T.varsL, T.varsL]
  | x :: xs, W, hf, hl, hW => by
    rw [T.withinL] at hl
    rw [T.formedL, Bool.and_eq_true] at hf
    rw [T.mapL, T.varsL, T.varsL, vars_mapped hg x W hf.1 hl.1 hW]
    exact varsL_mapped hg xs _ hf.2 hl.2 (vars_sub x W hl.1 hW)
end

mutual
theorem map_again {f : Int → T} {g : Int → Int} {V : List Int} (hfg : ∀ n ∈ V, f (g n) = varT (g n)) : ∀ (t : T), t.formed = true → T.within V t → T.map f (T.map (vf g) t) = T.map (vf g) t
  | .mk k n s l, hf, ht => by
    rw [T.within] at ht
    by_cases h1 : k = 1
    · subst h1
      rw [T.map, if_pos rfl, vf, varT, T.map, if_pos rfl, hfg n (ht.1 rfl), varT]
    · rcases formed_args hf with ⟨rfl, hl⟩ | ⟨h4, rfl⟩
      · rw [map_comp, map_comp, mapL_again hfg l hl ht.2]
      · rw [map_atom _ h1 h4, map_atom _ h1 h4]
theorem mapL_again {f : Int → T} {g : Int → Int} {V : List Int} (hfg : ∀ n ∈ V, f (g n) = varT (g n)) : ∀ (l : List T), T.formedL l = true → T.withinL V l → T.mapL f (T.mapL (vf g) l) = T.mapL (vf g) l
  | [], _, _ => by rw [T.mapL, T.mapL]
  | x :: xs, hf, hl => by
    rw [T.withinL] at hl
    rw [T.formedL, Bool.and_eq_true] at hf
    rw [T.mapL, T.mapL, map_again hfg x hf.1 hl.1, mapL_again hfg xs hf.2 hl.2]
end

theorem place_inj (V : List Int) : ∀ a ∈ V, ∀ b ∈ V, placeOf V a = placeOf V b → a = b := by
  intro a ha b hb h
  rw [placeOf, placeOf, if_pos ha, if_pos hb] at h
  have h2 : V.idxOf a = V.idxOf b := Int.ofNat_inj.1 h
  have e1 := List.getElem_idxOf (List.idxOf_lt_length_of_mem ha)
  have e2 := List.getElem_idxOf (List.idxOf_lt_length_of_mem hb)
  rw [← e1, ← e2]
  simp only [h2]

theorem idxOf_map_on {g : Int → Int} : ∀ (V W : List Int), (∀ a ∈ W, ∀ b ∈ W, g a = g b → a = b) → (∀ n ∈ V, n ∈ W) → ∀ n ∈ W, (V.map g).idxOf (g n) = V.idxOf n
  | [], _, _, _, _, _ => rfl
  | x :: xs, W, hg, hs, n, hn => by
    rw [List.map_cons, List.idxOf_cons, List.idxOf_cons]
    by_cases h : x = n
    · subst h; simp
    · have h2 : ¬ g x = g n := fun e => h (hg x (hs x (by simp)) n hn e)
      simp only [beq_eq_false_iff_ne.2 h, beq_eq_false_iff_ne.2 h2, cond_false]
      rw [idxOf_map_on xs W hg (fun m hm => hs m (by simp [hm])) n hn]

theorem place_again (V : List Int) : ∀ n ∈ V, swapF 0 (V.map (placeOf V)) (placeOf V n) = varT (placeOf V n) := by
  intro n hn
  rw [swapF, if_pos (List.mem_map_of_mem hn), idxOf_map_on V V (place_inj V) (fun _ h => h) n hn, Int.zero_add]
  conv => rhs; rw [placeOf, if_pos hn]

theorem map_head (f : Int → T) {p : T} (hf : p.formed = true) (hc : p.callable = true) : (T.map f p).k = p.k ∧ (T.map f p).s = p.s ∧ (T.map f p).l.length = p.l.length := by
  obtain ⟨k, n, s, l⟩ := p
  rcases formed_args hf with ⟨rfl, _⟩ | ⟨h4, rfl⟩
  · rw [map_comp]
    exact ⟨rfl, rfl, T.mapL_length f l⟩
  · have h1 : k ≠ 1 := by rintro rfl; simp [T.callable, T.k] at hc
    rw [map_atom f h1 h4]
    exact ⟨rfl, rfl, rfl⟩

theorem isOf_true {b : T} (hf : b.formed = true) (h : b.isOf sTrue 0 = true) : b = atomT sTrue := by
  obtain ⟨k, n, s, l⟩ := b
  simp only [T.isOf, T.k, T.s, T.l, Bool.and_eq_true, Bool.or_eq_true] at h
  obtain ⟨⟨hk, hs⟩, hl⟩ := h
  obtain rfl : s = sTrue := of_decide_eq_true hs
  replace hl : (l.length : Int) = 0 := of_decide_eq_true hl
  replace hk : k = 4 ∨ k = 3 := hk.imp of_decide_eq_true of_decide_eq_true
  obtain rfl : l = [] := List.eq_nil_of_length_eq_zero (by omega)
  rw [T.formed] at hf
  rcases hk with rfl | rfl
  · simp at hf
  · simp at hf
    obtain ⟨rfl, _⟩ := hf
    rfl

theorem make_again {res : List UInt8 → Int → Bool} (hres : res sNeck 2 = true) {t h b : T} (hf : t.formed = true) (hm : T.make res t = some (h, b)) : T.make res (clauseT h b) = some (h, b) := by
  have hff := make_formed hf hm
  obtain ⟨p1, p2⟩ := parts_formed hf
  rw [T.make] at hm
  cases hb : T.body t.parts.2 with
  | none => rw [hb] at hm; cases hm
  | some u =>
    have hu := body_formed _ _ _ (Nat.le_refl _) p2 hb
    have hab := body_mapped (swapF 0 (T.varsL [t.parts.1, u] [])) _ _ _ (Nat.le_refl _) p2 hb
    rw [hb] at hm
    simp only at hm
    split at hm
    · rename_i hcr
      rw [Bool.and_eq_true] at hcr
      generalize hp : t.parts.1 = p at *
      generalize hV : T.varsL [p, u] [] = V at *
      have hw : T.withinL V [p, u] := by rw [← hV]; exact T.varsL_within _ _ (by rw [T.formedL, T.formedL, T.formedL, p1, hu]; rfl)
      rw [T.withinL, T.withinL] at hw
      rw [swapF_place] at hm hab
      simp only [Option.some.injEq, Prod.mk.injEq] at hm
      obtain ⟨rfl, rfl⟩ := hm
      obtain ⟨hk, hs, hl⟩ := map_head (vf (placeOf V)) p1 hcr.1
      have hparts : (clauseT (T.map (vf (placeOf V)) p) (T.map (vf (placeOf V)) u)).parts = (T.map (vf (placeOf V)) p, T.map (vf (placeOf V)) u) := by
        rw [clauseT]
        split
        · rename_i ht
          rw [T.parts]
          rw [if_neg, ← isOf_true hff.2 ht]
          intro hn
          obtain ⟨k', n', x, y, he⟩ := isOf_two hn
          have h1 : p.s = sNeck := by rw [← hs, he]; rfl
          have h2 : p.l.length = 2 := by rw [← hl, he]; rfl
          rw [h1, h2] at hcr
          have := hcr.2
          rw [show ((2 : Nat) : Int) = 2 from rfl, hres] at this
          cases this
        · rw [T.parts, if_pos (by simp [T.isOf, compT, T.k, T.s, T.l])]
          rfl
      have hvars : T.varsL [T.map (vf (placeOf V)) p, T.map (vf (placeOf V)) u] [] = V.map (placeOf V) := by
        have := varsL_mapped (place_inj V) [p, u] [] (by rw [T.formedL, T.formedL, T.formedL, p1, hu]; rfl) (by rw [T.withinL, T.withinL]; exact hw) (fun _ h => by cases h)
        rw [T.mapL, T.mapL, T.mapL, List.map_nil, hV] at this
        exact this
      rw [T.make, hparts]
      simp only
      rw [hab]
      simp only
      rw [hvars, map_again (place_again V) p p1 hw.1, map_again (place_again V) u hu hw.2.1, hs, hl]
      have hcal : (T.map (vf (placeOf V)) p).callable = true := by rw [T.callable, hk]; exact hcr.1
      rw [hcal, Bool.true_and, if_pos hcr.2]
    · cases hm

/-- What is made, as a term, makes itself: nothing is wrong with it. -/
theorem plainErr_made {res : List UInt8 → Int → Bool} (hres : res sNeck 2 = true) {t h b : T} (hf : t.formed = true) (hm : T.make res t = some (h, b)) (hrefl : ∀ x : T, T.same x x = true) : plainErr res h b = 0 := by
  have hff := make_formed hf hm
  rw [plainErr, hff.1, hff.2, make_again hres hf hm]
  simp [hrefl]

end Go.Proofs.Yteonakicoomjkaa

namespace Go.Proofs.Yteonakicoomjkaa
open Go.RowKit

def sCall : List UInt8 := [99, 97, 108, 108]
def resRow0 : List (List UInt8) := [[116, 114, 117, 101], [102, 97, 105, 108], [33], [110, 108]]
def resRow1 : List (List UInt8) := [[92, 43], [116, 104, 114, 111, 119], [118, 97, 114], [110, 111, 110, 118, 97, 114], [97, 116, 111, 109], [105, 110, 116, 101, 103, 101, 114], [97, 116, 111, 109, 105, 99], [99, 111, 109, 112, 111, 117, 110, 100], [99, 97, 108, 108, 97, 98, 108, 101], [103, 114, 111, 117, 110, 100], [97, 115, 115, 101, 114, 116, 122], [97, 115, 115, 101, 114, 116, 97], [114, 101, 116, 114, 97, 99, 116], [112, 114, 105, 110, 116], [58, 45]]
def resRow2 : List (List UInt8) := [[44], [59], [45, 62], [61], [92, 61], [61, 61], [92, 61, 61], [64, 60], [64, 62], [64, 61, 60], [64, 62, 61], [61, 46, 46], [99, 111, 112, 121, 95, 116, 101, 114, 109], [105, 115], [61, 58, 61], [61, 92, 61], [60], [62], [61, 60], [62, 61], [97, 116, 111, 109, 95, 108, 101, 110, 103, 116, 104], [97, 116, 111, 109, 95, 99, 104, 97, 114, 115], [108, 101, 110, 103, 116, 104], [115, 111, 114, 116], [58, 45], [45, 45, 62]]
def resRow3 : List (List UInt8) := [[99, 97, 116, 99, 104], [102, 105, 110, 100, 97, 108, 108], [99, 111, 109, 112, 97, 114, 101], [102, 117, 110, 99, 116, 111, 114], [97, 114, 103], [98, 101, 116, 119, 101, 101, 110]]
def proRow0 : List (List UInt8) := [[116, 114, 117, 101], [102, 97, 105, 108], [33], [110, 108]]
def proRow1 : List (List UInt8) := [[92, 43], [99, 97, 108, 108], [116, 104, 114, 111, 119], [118, 97, 114], [110, 111, 110, 118, 97, 114], [97, 116, 111, 109], [105, 110, 116, 101, 103, 101, 114], [97, 116, 111, 109, 105, 99], [99, 111, 109, 112, 111, 117, 110, 100], [99, 97, 108, 108, 97, 98, 108, 101], [103, 114, 111, 117, 110, 100], [97, 115, 115, 101, 114, 116, 122], [97, 115, 115, 101, 114, 116, 97], [114, 101, 116, 114, 97, 99, 116], [112, 114, 105, 110, 116], [58, 45]]
def proRow2 : List (List UInt8) := [[44], [59], [45, 62], [61], [92, 61], [61, 61], [92, 61, 61], [64, 60], [64, 62], [64, 61, 60], [64, 62, 61], [61, 46, 46], [99, 111, 112, 121, 95, 116, 101, 114, 109], [105, 115], [61, 58, 61], [61, 92, 61], [60], [62], [61, 60], [62, 61], [97, 116, 111, 109, 95, 108, 101, 110, 103, 116, 104], [97, 116, 111, 109, 95, 99, 104, 97, 114, 115], [108, 101, 110, 103, 116, 104], [115, 111, 114, 116], [58, 45], [45, 45, 62]]
def proRow3 : List (List UInt8) := [[99, 97, 116, 99, 104], [102, 105, 110, 100, 97, 108, 108], [99, 111, 109, 112, 97, 114, 101], [102, 117, 110, 99, 116, 111, 114], [97, 114, 103], [98, 101, 116, 119, 101, 101, 110]]
def notAllowed : List (List UInt8) := [[116, 114, 117, 101], [102, 97, 105, 108], [33], [44], [59], [45, 62], [92, 43], [99, 97, 108, 108], [99, 97, 116, 99, 104], [102, 105, 110, 100, 97, 108, 108], [98, 101, 116, 119, 101, 101, 110], [97, 115, 115, 101, 114, 116, 122], [97, 115, 115, 101, 114, 116, 97], [114, 101, 116, 114, 97, 99, 116], [58, 45], [45, 45, 62]]
def resRow : Nat → List (List UInt8)
  | 0 => resRow0
  | 1 => resRow1
  | 2 => resRow2
  | 3 => resRow3
  | _ => []

/-- Is a name with so many arguments reserved? -/
def reserved (s : List UInt8) (n : Int) : Bool :=
  if s = sCall then decide (1 ≤ n) && decide (n ≤ 8) else if n < 0 ∨ 3 < n then false else decide (s ∈ resRow n.toNat)

theorem reserved_call (n : Int) : reserved sCall n = (decide (1 ≤ n) && decide (n ≤ 8)) := by rw [reserved, if_pos rfl]
theorem reserved_out {s : List UInt8} {n : Int} (hs : s ≠ sCall) (hn : n < 0 ∨ 3 < n) : reserved s n = false := by rw [reserved, if_neg hs, if_pos hn]
theorem reserved_in {s : List UInt8} {n : Int} (hs : s ≠ sCall) (h0 : 0 ≤ n) (h3 : n ≤ 3) : reserved s n = decide (s ∈ resRow n.toNat) := by rw [reserved, if_neg hs, if_neg (by omega)]

/-- The program's own lists say the same. -/
theorem pro_0 (s : List UInt8) : reserved s 0 = decide (s ∈ proRow0) := by
  by_cases hs : s = sCall
  · subst hs; rfl
  · rw [reserved_in hs (by omega) (by omega)]; rfl
theorem pro_1 (s : List UInt8) : reserved s 1 = decide (s ∈ proRow1) := by
  by_cases hs : s = sCall
  · subst hs; rfl
  · rw [reserved_in hs (by omega) (by omega)]
    rw [decide_eq_decide]
    simp only [resRow, resRow1, proRow1, Int.toNat_one, List.mem_cons, List.mem_nil_iff, or_false]
    simp only [sCall] at hs
    simp [hs]
theorem pro_2 (s : List UInt8) : reserved s 2 = (decide (s = sCall) || decide (s ∈ proRow2)) := by
  by_cases hs : s = sCall
  · subst hs; rfl
  · rw [reserved_in hs (by omega) (by omega), decide_eq_false hs]; rfl
theorem pro_3 (s : List UInt8) : reserved s 3 = (decide (s = sCall) || decide (s ∈ proRow3)) := by
  by_cases hs : s = sCall
  · subst hs; rfl
  · rw [reserved_in hs (by omega) (by omega), decide_eq_false hs]; rfl
theorem pro_x (s : List UInt8) {n : Int} (h0 : n ≠ 0) (h1 : n ≠ 1) (h2 : n ≠ 2) (h3 : n ≠ 3) : reserved s n = (decide (s = sCall) && decide (1 ≤ n) && decide (n ≤ 8)) := by
  by_cases hs : s = sCall
  · subst hs; rw [reserved_call]; simp
  · rw [reserved_out hs (by omega), decide_eq_false hs]; rfl

/-- Is a builtin allowed in code? -/
def allowed (s : List UInt8) (n : Int) : Bool := if s ∈ notAllowed then false else reserved s n
def sThrow : List UInt8 := [116, 104, 114, 111, 119]
theorem allowed_throw (n : Int) : allowed sThrow n = decide (n = 1) := by
  rw [allowed, if_neg (by decide)]
  by_cases h : n < 0 ∨ 3 < n
  · rw [reserved_out (by decide) h, decide_eq_false (by omega)]
  · rw [reserved_in (by decide) (by omega) (by omega)]
    have : n = 0 ∨ n = 1 ∨ n = 2 ∨ n = 3 := by omega
    rcases this with rfl | rfl | rfl | rfl <;> decide
theorem allowed_not {s : List UInt8} (n : Int) (h : s ∈ notAllowed) : allowed s n = false := by rw [allowed, if_pos h]
theorem allowed_res {s : List UInt8} (n : Int) (h : s ∉ notAllowed) : allowed s n = reserved s n := by rw [allowed, if_neg h]

/-- A constant, an instruction, an entry. -/
structure Cn where
  k : Int
  s : ByteArray
  n : Int
structure Ins where
  op : Int
  a : Int
  b : Int
  c : Cn
structure Ent where
  s : ByteArray
  n : Int
  at_ : Int

def insRows : List (List UInt8) := [[], [97, 115, 45], [97, 115, 45], [97, 45, 107], [97, 45, 99], [115, 45, 45], [115, 45, 45], [45, 45, 107], [45, 45, 99], [110, 45, 45], [97, 115, 45], [97, 115, 45], [97, 45, 107], [97, 45, 99], [45, 45, 113], [45, 45, 113], [45, 45, 45], [45, 45, 45], [112, 45, 45], [112, 45, 45], [115, 45, 45], [115, 45, 45], [115, 45, 45], [45, 45, 98], [112, 45, 107], [112, 45, 99]]
/-- Which fields an instruction has. -/
def rowOf (op : Int) : List UInt8 := if 1 ≤ op ∧ op < 26 then insRows.getD op.toNat [] else []

def numOk (c : UInt8) (n size : Int) : Bool :=
  if c = 97 then decide (0 ≤ n) && decide (n < 50)
  else if c = 115 then decide (0 ≤ n) && decide (n < 200)
  else if c = 112 then decide (0 ≤ n) && decide (n < size)
  else if c = 110 then decide (1 ≤ n) && decide (n ≤ 50)
  else decide (n = 0)

def counted (x : Cn) (least : Int) : Bool := decide (x.k = 4) && decide ((x.s.size : Int) ≤ 100) && decide (least ≤ x.n) && decide (x.n ≤ 50)
def constant (x : Cn) : Bool := (decide (x.k = 3) && decide (x.n = 0) && decide ((x.s.size : Int) ≤ 100)) || (decide (x.k = 2) && decide (x.s.toList = []))
def conOk (c : UInt8) (x : Cn) : Bool :=
  if c = 107 then constant x
  else if c = 99 then counted x 1
  else if c = 113 then counted x 0
  else if c = 98 then counted x 0 && allowed x.s.toList x.n
  else decide (x.k = 0) && decide (x.s.toList = []) && decide (x.n = 0)

/-- May an instruction be, in code of so many? -/
def insOk (x : Ins) (size : Int) : Bool := match rowOf x.op with
  | [p, q, r] => numOk p x.a size && numOk q x.b size && conOk r x.c
  | _ => false

def entBad (x : Ent) (size : Int) : Bool :=
  decide (x.at_ < 0) || decide (size ≤ x.at_) || decide (x.n < 0) || decide (50 < x.n) || decide (100 < (x.s.size : Int)) || reserved x.s.toList x.n
def entSame (x y : Ent) : Bool := decide (x.s.toList = y.s.toList) && decide (x.n = y.n)
/-- Are the first k entries right? -/
def entsTo (l : List Ent) (size : Int) : Nat → Bool
  | 0 => true
  | k + 1 => entsTo l size k && match l[k]? with
    | none => true
    | some x => !entBad x size && !(l.take k).any (entSame · x)

theorem entsTo_at {l : List Ent} {size : Int} {k : Nat} {y : Ent} (hy : l[k]? = some y) : entsTo l size (k + 1) = (entsTo l size k && (!entBad y size && !(l.take k).any (entSame · y))) := by rw [entsTo, hy]
theorem entsTo_le {l : List Ent} {size : Int} {j k : Nat} (h : entsTo l size j = false) (hjk : j ≤ k) : entsTo l size k = false := by
  induction k with
  | zero => obtain rfl : j = 0 := by omega
            exact h
  | succ k ih =>
    by_cases hj : j = k + 1
    · exact hj ▸ h
    · rw [entsTo, ih (by omega)]; rfl

def lastOk (op : Int) : Bool := decide (op = 15) || decide (op = 16) || decide (op = 17) || decide (op = 19)

/-- P21: what is said of a code. -/
def codeErr (l : List Ins) (m : List Ent) (q : Int) : Int :=
  if 100000 < l.length then 9
  else if l.length = 0 ∨ q < 0 ∨ (l.length : Int) ≤ q then 10
  else if l.all (insOk · l.length) then (if lastOk ((l.getLast?.map (·.op)).getD 0) && entsTo m l.length m.length then 0 else 10)
  else 10

theorem codeErr_long {l : List Ins} {m : List Ent} {q : Int} (h : 100000 < l.length) : codeErr l m q = 9 := by rw [codeErr, if_pos h]
theorem codeErr_query {l : List Ins} {m : List Ent} {q : Int} (h : ¬ 100000 < l.length) (h2 : l.length = 0 ∨ q < 0 ∨ (l.length : Int) ≤ q) : codeErr l m q = 10 := by rw [codeErr, if_neg h, if_pos h2]
theorem codeErr_ins {l : List Ins} {m : List Ent} {q : Int} (h : ¬ 100000 < l.length) (h2 : l.all (insOk · l.length) = false) : codeErr l m q = 10 := by
  rw [codeErr, if_neg h, h2]
  split <;> rfl
theorem codeErr_last {l : List Ins} {m : List Ent} {q : Int} {x : Ins} (h : ¬ 100000 < l.length) (hx : l[l.length - 1]? = some x) (h2 : lastOk x.op = false) : codeErr l m q = 10 := by
  rw [codeErr, if_neg h, List.getLast?_eq_getElem?, hx]
  simp only [Option.map_some, Option.getD_some, h2, Bool.false_and]
  split
  · rfl
  · split <;> rfl
theorem codeErr_ents {l : List Ins} {m : List Ent} {q : Int} (h : ¬ 100000 < l.length) (h2 : entsTo m l.length m.length = false) : codeErr l m q = 10 := by
  rw [codeErr, if_neg h, h2, Bool.and_false]
  split
  · rfl
  · split <;> rfl
theorem codeErr_fine {l : List Ins} {m : List Ent} {q : Int} {x : Ins} (h : ¬ 100000 < l.length) (h1 : ¬ (l.length = 0 ∨ q < 0 ∨ (l.length : Int) ≤ q)) (h2 : l.all (insOk · l.length) = true) (hx : l[l.length - 1]? = some x) (h3 : lastOk x.op = true)
    (h4 : entsTo m l.length m.length = true) : codeErr l m q = 0 := by
  rw [codeErr, if_neg h, if_neg h1, if_pos h2, List.getLast?_eq_getElem?, hx, h4]
  simp only [Option.map_some, Option.getD_some, h3]
  rfl
end Go.Proofs.Yteonakicoomjkaa

namespace Go.Proofs.Yteonakicoomjkaa

def lex (x y : Int) : Int := if x = 0 then y else x

/-- Three comparisons that fit. -/
structure Tri (x y z : Int) : Prop where
  le : x ≤ 0 → y ≤ 0 → z ≤ 0 ∧ (z = 0 → x = 0 ∧ y = 0)
  l : x = 0 → z = y
  r : y = 0 → z = x

theorem Tri.lex {x y z x' y' z' : Int} (h : Tri x y z) (h' : x = 0 → y = 0 → Tri x' y' z') : Tri (lex x x') (lex y y') (lex z z') := by
  unfold Go.Proofs.Yteonakicoomjkaa.lex
  by_cases hx : x = 0
  · have hz := h.l hx
    by_cases hy : y = 0
    · have hz0 : z = 0 := by omega
      rw [if_pos hx, if_pos hy, if_pos hz0]
      exact h' hx hy
    · rw [if_pos hx, if_neg hy, if_neg (by omega), hz]
      exact ⟨fun _ h2 => ⟨h2, fun h3 => absurd h3 hy⟩, fun _ => rfl, fun h2 => absurd h2 hy⟩
  · by_cases hy : y = 0
    · have hz := h.r hy
      rw [if_neg hx, if_pos hy, if_neg (by omega), hz]
      exact ⟨fun h1 _ => ⟨h1, fun h3 => absurd h3 hx⟩, fun h1 => absurd h1 hx, fun _ => rfl⟩
    · rw [if_neg hx, if_neg hy]
      refine ⟨fun h1 h2 => ?_, fun h1 => absurd h1 hx, fun h2 => absurd h2 hy⟩
      obtain ⟨h3, h4⟩ := h.le h1 h2
      have hz : z ≠ 0 := fun e => hx (h4 e).1
      rw [if_neg hz]
      exact ⟨h3, fun e => absurd e hz⟩

theorem cmpI_tri (a b c : Int) : Tri (cmpI a b) (cmpI b c) (cmpI a c) := by
  unfold cmpI
  constructor <;> (split <;> split <;> split <;> (try split) <;> (try split) <;> (try split) <;> omega)

theorem cmpI_neg (a b : Int) : cmpI b a = -cmpI a b := by
  unfold cmpI
  split <;> split <;> (try split) <;> omega

theorem cmpI_range (a b : Int) : -1 ≤ cmpI a b ∧ cmpI a b ≤ 1 := by
  unfold cmpI
  split <;> (try split) <;> omega

theorem cmpI_zero {a b : Int} : cmpI a b = 0 ↔ a = b := by
  unfold cmpI
  constructor
  · intro h; split at h <;> (try split at h) <;> omega
  · rintro rfl; simp

def cb1 (a b : UInt8) : Int := if a < b then -1 else if b < a then 1 else 0
theorem cb1_eq (a b : UInt8) : cb1 a b = cmpI a.toNat b.toNat := by
  unfold cb1 cmpI
  simp only [UInt8.lt_iff_toNat_lt]
  split <;> split <;> (try split) <;> (try split) <;> omega

theorem cb_cons (a b : UInt8) (x y : List UInt8) : Lib.compareBytes (a :: x) (b :: y) = lex (cb1 a b) (Lib.compareBytes x y) := by
  rw [Lib.compareBytes, lex, cb1]
  split
  · rfl
  · split <;> rfl

theorem cb_tri : ∀ a b c : List UInt8, Tri (Lib.compareBytes a b) (Lib.compareBytes b c) (Lib.compareBytes a c)
  | [], [], [] => by simp only [Lib.compareBytes]; constructor <;> omega
  | [], [], _ :: _ => by simp only [Lib.compareBytes]; constructor <;> omega
  | [], _ :: _, [] => by simp only [Lib.compareBytes]; constructor <;> omega
  | _ :: _, [], [] => by simp only [Lib.compareBytes]; constructor <;> omega
  | _ :: _, [], _ :: _ => by
    have h1 : ∀ a b : List UInt8, -1 ≤ Lib.compareBytes a b ∧ Lib.compareBytes a b ≤ 1 := fun a b => by
      induction a generalizing b with
      | nil => cases b <;> simp [Lib.compareBytes]
      | cons x xs ih =>
        cases b with
        | nil => simp [Lib.compareBytes]
        | cons y ys =>
          rw [Lib.compareBytes]
          have := ih ys
          split <;> (try split) <;> omega
    simp only [Lib.compareBytes.eq_2, Lib.compareBytes.eq_3]
    constructor <;> omega
  | [], x :: xs, y :: ys => by
    simp only [Lib.compareBytes.eq_2]
    constructor <;> omega
  | x :: xs, y :: ys, [] => by
    simp only [Lib.compareBytes.eq_3]
    constructor <;> omega
  | a :: x, b :: y, c :: z => by
    rw [cb_cons, cb_cons, cb_cons]
    refine Tri.lex ?_ fun _ _ => cb_tri x y z
    rw [cb1_eq, cb1_eq, cb1_eq]
    exact cmpI_tri _ _ _

theorem lex_neg {x y x' y' : Int} (h : y = -x) (h' : y' = -x') : lex y y' = -lex x x' := by
  unfold lex
  split <;> split <;> omega

theorem lex_range {x y : Int} (h : -1 ≤ x ∧ x ≤ 1) (h' : -1 ≤ y ∧ y ≤ 1) : -1 ≤ lex x y ∧ lex x y ≤ 1 := by
  unfold lex
  split <;> assumption

theorem lex_zero {x y : Int} : lex x y = 0 ↔ x = 0 ∧ y = 0 := by
  unfold lex
  split <;> constructor <;> omega

theorem cb_neg : ∀ a b : List UInt8, Lib.compareBytes b a = -Lib.compareBytes a b
  | [], [] => by simp [Lib.compareBytes]
  | [], _ :: _ => by simp [Lib.compareBytes]
  | _ :: _, [] => by simp [Lib.compareBytes]
  | a :: x, b :: y => by
    rw [cb_cons, cb_cons]
    exact lex_neg (by rw [cb1_eq, cb1_eq, cmpI_neg]) (cb_neg x y)

theorem cb_range : ∀ a b : List UInt8, -1 ≤ Lib.compareBytes a b ∧ Lib.compareBytes a b ≤ 1
  | [], [] => by simp [Lib.compareBytes]
  | [], _ :: _ => by simp [Lib.compareBytes]
  | _ :: _, [] => by simp [Lib.compareBytes]
  | a :: x, b :: y => by
    rw [cb_cons]
    exact lex_range (by rw [cb1_eq]; exact cmpI_range _ _) (cb_range x y)

theorem cb_zero : ∀ a b : List UInt8, Lib.compareBytes a b = 0 ↔ a = b
  | [], [] => by simp [Lib.compareBytes]
  | [], _ :: _ => by simp [Lib.compareBytes]
  | _ :: _, [] => by simp [Lib.compareBytes]
  | a :: x, b :: y => by
    rw [cb_cons, lex_zero, cb1_eq, cmpI_zero, cb_zero x y, List.cons.injEq]
    constructor
    · rintro ⟨h1, h2⟩; exact ⟨by rw [← UInt8.toNat_inj]; omega, h2⟩
    · rintro ⟨h1, h2⟩; exact ⟨by rw [h1], h2⟩

theorem order_eq (k n : Int) (s : List UInt8) (l : List T) (k' n' : Int) (s' : List UInt8) (l' : List T) :
    T.order (.mk k n s l) (.mk k' n' s' l') = lex (cmpI k k') (if k = 3 then Lib.compareBytes s s' else if k = 4 then lex (lex (cmpI l.length l'.length) (Lib.compareBytes s s')) (T.orderL l l') else cmpI n n') := by
  rw [T.order]
  unfold lex
  by_cases h : k = k'
  · rw [if_pos h, if_pos (cmpI_zero.2 h)]
  · rw [if_neg h, if_neg (fun e => h (cmpI_zero.1 e))]

mutual
theorem order_tri : ∀ a b c : T, Tri (T.order a b) (T.order b c) (T.order a c)
  | .mk k n s l, .mk k' n' s' l', .mk k'' n'' s'' l'' => by
    rw [order_eq, order_eq, order_eq]
    refine Tri.lex (cmpI_tri _ _ _) fun h1 h2 => ?_
    have e1 := cmpI_zero.1 h1
    have e2 := cmpI_zero.1 h2
    subst e1 e2
    by_cases h3 : k = 3
    · simp only [if_pos h3]
      exact cb_tri _ _ _
    simp only [if_neg h3]
    by_cases h4 : k = 4
    · simp only [if_pos h4]
      refine Tri.lex (Tri.lex (cmpI_tri _ _ _) fun _ _ => cb_tri _ _ _) fun _ _ => orderL_tri l l' l''
    · simp only [if_neg h4]
      exact cmpI_tri _ _ _
theorem orderL_tri : ∀ a b c : List T, Tri (T.orderL a b) (T.orderL b c) (T.orderL a c)
  | [], [], [] => by simp only [T.orderL]; constructor <;> omega
  | [], [], _ :: _ => by simp only [T.orderL]; constructor <;> omega
  | [], _ :: _, [] => by simp only [T.orderL]; constructor <;> omega
  | _ :: _, [], [] => by simp only [T.orderL]; constructor <;> omega
  | x :: xs, [], y :: ys => by simp only [T.orderL]; constructor <;> omega
  | [], x :: xs, y :: ys => by simp only [T.orderL]; constructor <;> omega
  | x :: xs, y :: ys, [] => by simp only [T.orderL]; constructor <;> omega
  | a :: x, b :: y, c :: z => by
    have h := Tri.lex (order_tri a b c) fun _ _ => orderL_tri x y z
    simp only [T.orderL]
    exact h
end

mutual
theorem order_neg : ∀ a b : T, T.order b a = -T.order a b
  | .mk k n s l, .mk k' n' s' l' => by
    rw [order_eq, order_eq]
    by_cases h : k = k'
    · subst h
      refine lex_neg (cmpI_neg _ _) ?_
      by_cases h3 : k = 3
      · simp only [if_pos h3]; exact cb_neg _ _
      simp only [if_neg h3]
      by_cases h4 : k = 4
      · simp only [if_pos h4]
        exact lex_neg (lex_neg (cmpI_neg _ _) (cb_neg _ _)) (orderL_neg l l')
      · simp only [if_neg h4]; exact cmpI_neg _ _
    · unfold lex
      rw [if_neg (fun e => h (cmpI_zero.1 e)), if_neg (fun e => h (cmpI_zero.1 e).symm), cmpI_neg]
theorem orderL_neg : ∀ a b : List T, T.orderL b a = -T.orderL a b
  | [], [] => by simp [T.orderL]
  | [], _ :: _ => by simp [T.orderL]
  | _ :: _, [] => by simp [T.orderL]
  | a :: x, b :: y => by
    have h := lex_neg (order_neg a b) (orderL_neg x y)
    simp only [T.orderL]
    exact h
end

mutual
theorem order_range : ∀ a b : T, -1 ≤ T.order a b ∧ T.order a b ≤ 1
  | .mk k n s l, .mk k' n' s' l' => by
    rw [order_eq]
    refine lex_range (cmpI_range _ _) ?_
    by_cases h3 : k = 3
    · simp only [if_pos h3]; exact cb_range _ _
    simp only [if_neg h3]
    by_cases h4 : k = 4
    · simp only [if_pos h4]; exact lex_range (lex_range (cmpI_range _ _) (cb_range _ _)) (orderL_range l l')
    · simp only [if_neg h4]; exact cmpI_range _ _
theorem orderL_range : ∀ a b : List T, -1 ≤ T.orderL a b ∧ T.orderL a b ≤ 1
  | [], [] => by simp [T.orderL]
  | [], _ :: _ => by simp [T.orderL]
  | _ :: _, [] => by simp [T.orderL]
  | a :: x, b :: y => by
    have h := lex_range (order_range a b) (orderL_range x y)
    simp only [T.orderL]
    exact h
end

mutual
theorem same_iff : ∀ a b : T, T.same a b = true ↔ a = b
  | .mk k n s l, .mk k' n' s' l' => by
    rw [T.same]
    simp only [Bool.and_eq_true, decide_eq_true_eq, T.mk.injEq]
    constructor
    · rintro ⟨⟨⟨⟨h1, h2⟩, h3⟩, h4⟩, h5⟩; exact ⟨h1, h2, h3, (sameL_iff l l' h4).1 h5⟩
    · rintro ⟨h1, h2, h3, h4⟩; exact ⟨⟨⟨⟨h1, h2⟩, h3⟩, by rw [h4]⟩, (sameL_iff l l' (by rw [h4])).2 h4⟩
theorem sameL_iff : ∀ a b : List T, a.length = b.length → (T.sameL a b = true ↔ a = b)
  | [], [], _ => by simp [T.sameL]
  | [], _ :: _, h => by simp at h
  | _ :: _, [], h => by simp at h
  | a :: x, b :: y, h => by
    rw [T.sameL, Bool.and_eq_true, same_iff a b, sameL_iff x y (by simpa using h), List.cons.injEq]
end

mutual
theorem order_zero : ∀ a b : T, a.formed = true → b.formed = true → (T.order a b = 0 ↔ a = b)
  | .mk k n s l, .mk k' n' s' l', ha, hb => by
    rw [order_eq, lex_zero, cmpI_zero, T.mk.injEq]
    by_cases hk : k = k'
    · subst hk
      rw [T.formed] at ha hb
      by_cases h1 : k = 1
      · subst h1
        simp at ha hb
        simp [cmpI_zero, ha, hb]
      by_cases h2 : k = 2
      · subst h2
        simp at ha hb
        simp [cmpI_zero, ha, hb]
      by_cases h3 : k = 3
      · subst h3
        simp at ha hb
        simp [cb_zero, ha, hb]
      by_cases h4 : k = 4
      · subst h4
        simp at ha hb
        simp only [show ¬ (4 : Int) = 3 by decide, if_false, if_true, lex_zero, cmpI_zero, cb_zero, true_and]
        constructor
        · rintro ⟨⟨e1, e2⟩, e3⟩
          exact ⟨by rw [ha.1.1.1.1, hb.1.1.1.1], e2, (orderL_zero l l' ha.2 hb.2).1 e3⟩
        · rintro ⟨e1, e2, e3⟩
          exact ⟨⟨by rw [e3], e2⟩, (orderL_zero l l' ha.2 hb.2).2 e3⟩
      · simp [h1, h2, h3, h4] at ha
    · constructor
      · rintro ⟨e, _⟩; exact absurd e hk
      · rintro ⟨e, _⟩; exact absurd e hk
theorem orderL_zero : ∀ a b : List T, T.formedL a = true → T.formedL b = true → (T.orderL a b = 0 ↔ a = b)
  | [], [], _, _ => by simp [T.orderL]
  | [], _ :: _, _, _ => by simp [T.orderL]
  | _ :: _, [], _, _ => by simp [T.orderL]
  | a :: x, b :: y, ha, hb => by
    rw [T.formedL, Bool.and_eq_true] at ha hb
    have h1 := order_zero a b ha.1 hb.1
    have h2 := orderL_zero x y ha.2 hb.2
    have h : T.orderL (a :: x) (b :: y) = lex (T.order a b) (T.orderL x y) := by simp only [T.orderL]; rfl
    rw [h, lex_zero, h1, h2, List.cons.injEq]
end
end Go.Proofs.Yteonakicoomjkaa

namespace Go.Proofs.Yteonakicoomjkaa

theorem formed_small {t : T} (h : t.formed = true) : t.s.length ≤ 100 ∧ t.l.length ≤ 50 := by
  obtain ⟨k, n, s, l⟩ := t
  by_cases h1 : k = 1
  · subst h1
    obtain ⟨_, rfl, rfl⟩ := formed_var h
    exact ⟨by simp [T.s], by simp [T.l]⟩
  rcases formed_args h with ⟨rfl, _⟩ | ⟨h4, rfl⟩
  · rw [T.formed] at h
    simp only [show ¬ (4 : Int) = 1 by decide, show ¬ (4 : Int) = 2 by decide, show ¬ (4 : Int) = 3 by decide, if_false, if_true, Bool.and_eq_true, decide_eq_true_eq] at h
    simp only [T.s, T.l]
    omega
  · rw [T.formed] at h
    simp only [T.s, T.l]
    by_cases h2 : k = 2
    · subst h2
      simp at h
      simp [h]
    · by_cases h3 : k = 3
      · subst h3
        simp at h
        simp [h]
      · simp [h1, h2, h3, h4] at h

theorem res_neck : reserved sNeck 2 = true := by decide
theorem same_refl (x : T) : T.same x x = true := (same_iff x x).2 rfl

theorem make_p : T.make reserved (atomT [112]) = some (atomT [112], atomT sTrue) := by
  have hp : (atomT [112]).parts = (atomT [112], atomT sTrue) := by rw [T.parts, if_neg (by decide)]
  rw [T.make, hp]
  simp only
  rw [body_true]
  simp only
  rw [if_pos (by decide)]
  rw [atomT, atomT, map_atom _ (by decide) (by decide), map_atom _ (by decide) (by decide)]

theorem eq_of_toList {a b : ByteArray} (h : a.toList = b.toList) : a = b := by
  rw [Go.ByteArray.toList_eq, Go.ByteArray.toList_eq] at h
  cases a
  cases b
  congr 1
  exact Array.toList_inj.1 h

theorem size_toList (a : ByteArray) : a.toList.length = a.size := by rw [Go.ByteArray.toList_eq]; rfl

theorem tm_small {t : Tm} (h : t.erase.formed = true) : t.s.size ≤ 1000 ∧ t.l.length ≤ 1000 := by
  obtain ⟨h1, h2⟩ := formed_small h
  obtain ⟨k, n, s, p, c, l⟩ := t
  rw [Tm.erase] at h1 h2
  simp only [T.s, T.l, Tm.eraseL_length, size_toList] at h1 h2
  exact ⟨by simp only [Tm.s]; omega, by simp only [Tm.l]; omega⟩

/-- A term in memory that is an atom. -/
theorem atom_parts {t : Tm} {s : ByteArray} (h : t.erase = atomT s.toList) : t.s = s ∧ t.l = [] := by
  obtain ⟨k, n, s', p, c, l⟩ := t
  rw [Tm.erase, atomT] at h
  injection h with _ _ h3 h4
  refine ⟨eq_of_toList h3, ?_⟩
  have := Tm.eraseL_length l
  rw [h4] at this
  exact List.eq_nil_of_length_eq_zero this.symm

theorem on_nil {t : Tm} {S : Nat → Prop} (h : t.l = []) : t.On S := by
  obtain ⟨k, n, s, p, c, l⟩ := t
  simp only [Tm.l] at h
  subst h
  rw [Tm.On, Tm.OnL]
  exact ⟨.inl rfl, trivial⟩
end Go.Proofs.Yteonakicoomjkaa
