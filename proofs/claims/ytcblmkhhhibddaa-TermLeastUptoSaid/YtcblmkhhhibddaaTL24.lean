/-
  The least general term of two, plain.
  Slices of pairs.
  Slices of pairs that a call makes by append.
  The pairs that term.general has met, in memory; what it answers.
  A store in memory.
-/
import Derived.Test.YtcblmkhhhibddaaTL23
import Derived.Test.YtcblmkhhhibddaaTL14
import Derived.Test.YtcblmkhhhibddaaTL18
import Derived.Test.YtcblmkhhhibddaaTL02
import Derived.Test.YtcblmkhhhibddaaTL07
import Derived.Test.YtcblmkhhhibddaaTL05
import Derived.Test.YtcblmkhhhibddaaTL16
import Derived.Test.YtcblmkhhhibddaaTL11
namespace Go.Proofs.Ytcblmkhhhibddaa

/-- Both are of one functor. -/
def T.alike (a b : T) : Bool := decide (a.k = 4) && (decide (b.k = 4) && (decide (a.s = b.s) && decide (a.l.length = b.l.length)))
def T.twin (a b : T) (p : T × T) : Bool := decide (T.order p.1 a = 0) && decide (T.order p.2 b = 0)
def seekP (E : List (T × T)) (a b : T) : Nat := E.findIdx (T.twin a b)

mutual
/-- The general term of two, with the pairs met so far. -/
def T.gen : T → T → List (T × T) → T × List (T × T)
  | .mk k n s l, b, E =>
    if T.alike (.mk k n s l) b = true then (.mk 4 0 s (T.genL l b.l E).1, (T.genL l b.l E).2)
    else if k ≠ 1 ∧ T.order (.mk k n s l) b = 0 then (.mk k n s l, E)
    else (varT (seekP E (.mk k n s l) b), if seekP E (.mk k n s l) b < E.length then E else E ++ [(.mk k n s l, b)])
def T.genL : List T → List T → List (T × T) → List T × List (T × T)
  | x :: xs, y :: ys, E => ((T.gen x y E).1 :: (T.genL xs ys (T.gen x y E).2).1, (T.genL xs ys (T.gen x y E).2).2)
  | _, _, E => ([], E)
end
mutual
/-- The same, with all pairs that there will be. -/
def T.genF (E : List (T × T)) : T → T → T
  | .mk k n s l, b =>
    if T.alike (.mk k n s l) b = true then .mk 4 0 s (T.genFL E l b.l)
    else if k ≠ 1 ∧ T.order (.mk k n s l) b = 0 then .mk k n s l
    else varT (seekP E (.mk k n s l) b)
def T.genFL (E : List (T × T)) : List T → List T → List T
  | x :: xs, y :: ys => T.genF E x y :: T.genFL E xs ys
  | _, _ => []
end

mutual
theorem genF_map {E : List (T × T)} {θ₁ θ₂ : Int → T} : ∀ c : T, c.formed = true → T.genF E (T.map θ₁ c) (T.map θ₂ c) = T.map (fun n => T.genF E (θ₁ n) (θ₂ n)) c
  | .mk k n s l, h => by
    rw [T.map, T.map, T.map]
    by_cases h1 : k = 1
    · rw [if_pos h1, if_pos h1, if_pos h1]
    · rw [if_neg h1, if_neg h1, if_neg h1]
      rcases formed_args h with ⟨h4, hl⟩ | ⟨h4, hl⟩
      · have hn : n = 0 := by
          rw [T.formed, if_neg h1, if_neg (by omega), if_neg (by omega), if_pos h4] at h
          simp at h
          exact h.1.1.1.1
        rw [if_pos h4, if_pos h4, if_pos h4, T.genF, if_pos (by simp [T.alike, T.k, T.s, T.l, h4, T.mapL_length]), T.l, genFL_map l hl, h4, hn]
      · subst hl
        rw [if_neg h4, if_neg h4, if_neg h4, T.genF, if_neg (by simp [T.alike, T.k, h4]), if_pos ⟨h1, (order_zero _ _ h h).2 rfl⟩]
theorem genFL_map {E : List (T × T)} {θ₁ θ₂ : Int → T} : ∀ l : List T, T.formedL l = true → T.genFL E (T.mapL θ₁ l) (T.mapL θ₂ l) = T.mapL (fun n => T.genF E (θ₁ n) (θ₂ n)) l
  | [], _ => by rw [T.mapL, T.mapL, T.mapL, T.genFL]; simp
  | x :: xs, h => by
    rw [T.formedL, Bool.and_eq_true] at h
    rw [T.mapL, T.mapL, T.mapL, T.genFL, genF_map x h.1, genFL_map xs h.2]
end

/-! ### The state -/
def PairsOk (E : List (T × T)) : Prop := ∀ p ∈ E, p.1.formed = true ∧ p.2.formed = true
theorem twin_iff {a b : T} {p : T × T} (ha : a.formed = true) (hb : b.formed = true) (hp : p.1.formed = true ∧ p.2.formed = true) : T.twin a b p = true ↔ p = (a, b) := by
  rw [T.twin, Bool.and_eq_true, decide_eq_true_iff, decide_eq_true_iff, order_zero _ _ hp.1 ha, order_zero _ _ hp.2 hb, Prod.ext_iff]
theorem seek_lt {E : List (T × T)} {a b : T} (ha : a.formed = true) (hb : b.formed = true) (hE : PairsOk E) (h : seekP E a b < E.length) : E[seekP E a b]? = some (a, b) := by
  have h1 := List.findIdx_getElem (w := h)
  rw [List.getElem?_eq_getElem h]
  exact congrArg some ((twin_iff ha hb (hE _ (List.getElem_mem h))).1 h1)
theorem seek_more {E F : List (T × T)} {a b : T} (h : seekP E a b < E.length) : seekP (E ++ F) a b = seekP E a b := by
  rw [seekP, List.findIdx_append]
  exact if_pos h
theorem seek_new {E F : List (T × T)} {a b : T} (ha : a.formed = true) (hb : b.formed = true) (h : ¬ seekP E a b < E.length) : seekP (E ++ [(a, b)] ++ F) a b = seekP E a b := by
  have h0 : seekP E a b = E.length := Nat.le_antisymm List.findIdx_le_length (Nat.le_of_not_lt h)
  have h1 : T.twin a b (a, b) = true := (twin_iff ha hb ⟨ha, hb⟩).2 rfl
  rw [h0, List.append_assoc, List.singleton_append]
  show List.findIdx (T.twin a b) _ = _
  rw [List.findIdx_append, if_neg (show ¬ List.findIdx (T.twin a b) E < E.length from h), List.findIdx_cons, h1]
  simp
/-- What is left of pairs that hold, on the left and on the right. -/
def leftP (E : List (T × T)) (n : Int) : T := ((E[n.toNat]?).map Prod.fst).getD (varT n)
def rightP (E : List (T × T)) (n : Int) : T := ((E[n.toNat]?).map Prod.snd).getD (varT n)
/-- What the state has become. -/
structure GenSt (E E' : List (T × T)) (m : Nat) : Prop where
  pre : ∃ F, E' = E ++ F
  ok : PairsOk E'
  len : E'.length ≤ E.length + m
theorem GenSt.trans {E E1 E2 : List (T × T)} {m m' : Nat} (h : GenSt E E1 m) (k : GenSt E1 E2 m') : GenSt E E2 (m + m') := by
  obtain ⟨F, hF⟩ := h.pre
  obtain ⟨G, hG⟩ := k.pre
  have h1 := h.len
  have h2 := k.len
  exact ⟨⟨F ++ G, by rw [hG, hF, List.append_assoc]⟩, k.ok, by omega⟩
/-- A general term: made with all pairs, of the two, and with few variables. -/
structure GenOk (E' : List (T × T)) (a b g : T) : Prop where
  stable : ∀ F, T.genF (E' ++ F) a b = g
  left : ∀ F, T.map (leftP (E' ++ F)) g = a
  right : ∀ F, T.map (rightP (E' ++ F)) g = b
  few : ∀ n, T.occ n g → 0 ≤ n ∧ n < (E'.length : Int)
  formed : E'.length ≤ 1099511627777 → g.formed = true
theorem GenOk.more {E' F : List (T × T)} {a b g : T} (h : GenOk E' a b g) : GenOk (E' ++ F) a b g :=
  ⟨fun G => by rw [List.append_assoc]; exact h.stable _, fun G => by rw [List.append_assoc]; exact h.left _, fun G => by rw [List.append_assoc]; exact h.right _, fun n hn => by
    have := h.few n hn
    rw [List.length_append]
    exact ⟨this.1, by omega⟩, fun hl => h.formed (by rw [List.length_append] at hl; omega)⟩
theorem GenSt.rfl' {E : List (T × T)} (h : PairsOk E) (m : Nat) : GenSt E E m := ⟨⟨[], by simp⟩, h, by omega⟩
theorem gen_leaf {E : List (T × T)} {a b : T} (ha : a.formed = true) (hb : b.formed = true) (hE : PairsOk E) (h4 : ¬ T.alike a b = true) (ho : ¬ (a.k ≠ 1 ∧ T.order a b = 0)) :
    GenSt E (if seekP E a b < E.length then E else E ++ [(a, b)]) 1 ∧ GenOk (if seekP E a b < E.length then E else E ++ [(a, b)]) a b (varT (seekP E a b)) := by
  have hst : ∀ E'' : List (T × T), seekP E'' a b = seekP E a b → T.genF E'' a b = varT (seekP E a b) := fun E'' h => by
    obtain ⟨k, n, s, l⟩ := a
    rw [T.genF, if_neg h4, if_neg (show ¬ (k ≠ 1 ∧ T.order (.mk k n s l) b = 0) from ho), h]
  have hmap : ∀ f : Int → T, T.map f (varT (seekP E a b)) = f (seekP E a b) := fun f => T.map_var f _
  by_cases hs : seekP E a b < E.length
  · rw [if_pos hs]
    have hat := seek_lt ha hb hE hs
    refine ⟨GenSt.rfl' hE 1, ⟨fun F => hst _ (seek_more hs), fun F => ?_, fun F => ?_, fun n hn => ?_, fun hl => varT_formed ⟨by omega, by omega⟩⟩⟩
    · rw [hmap, leftP, Int.toNat_natCast, List.getElem?_append_left hs, hat]; rfl
    · rw [hmap, rightP, Int.toNat_natCast, List.getElem?_append_left hs, hat]; rfl
    · have hn' : (seekP E a b : Int) = n := hn
      omega
  · rw [if_neg hs]
    have h0 : seekP E a b = E.length := Nat.le_antisymm List.findIdx_le_length (Nat.le_of_not_lt hs)
    have hat : ∀ F, (E ++ [(a, b)] ++ F)[seekP E a b]? = some (a, b) := fun F => by
      rw [h0, List.append_assoc, List.getElem?_append_right (Nat.le_refl _), Nat.sub_self]
      rfl
    refine ⟨⟨⟨[(a, b)], rfl⟩, fun p hp => ?_, by simp⟩, ⟨fun F => hst _ (seek_new ha hb hs), fun F => ?_, fun F => ?_, fun n hn => ?_, fun hl => varT_formed ⟨by omega, by rw [List.length_append, List.length_singleton] at hl; omega⟩⟩⟩
    · rcases List.mem_append.1 hp with hp | hp
      · exact hE p hp
      · rw [List.mem_singleton] at hp; rw [hp]; exact ⟨ha, hb⟩
    · rw [hmap, leftP, Int.toNat_natCast, hat]; rfl
    · rw [hmap, rightP, Int.toNat_natCast, hat]; rfl
    · have hn' : (seekP E a b : Int) = n := hn
      rw [List.length_append, List.length_singleton]
      omega
theorem gen_same {E : List (T × T)} {a b : T} (ha : a.formed = true) (hb : b.formed = true) (hE : PairsOk E) (h4 : ¬ T.alike a b = true) (ho : a.k ≠ 1 ∧ T.order a b = 0) : GenSt E E 1 ∧ GenOk E a b a := by
  have hab : a = b := (order_zero _ _ ha hb).1 ho.2
  subst hab
  obtain ⟨k, n, s, l⟩ := a
  have hk : k ≠ 4 := fun h => h4 (by simp [T.alike, T.k, h])
  have hk1 : k ≠ 1 := ho.1
  have hl : l = [] := by
    rcases formed_args ha with ⟨h, _⟩ | ⟨_, h⟩
    · exact absurd h hk
    · exact h
  subst hl
  have hm : ∀ f : Int → T, T.map f (.mk k n s []) = .mk k n s [] := fun f => by rw [T.map, if_neg hk1, if_neg hk]
  refine ⟨GenSt.rfl' hE 1, ⟨fun F => ?_, fun F => hm _, fun F => hm _, fun m h => ?_, fun _ => ha⟩⟩
  · rw [T.genF, if_neg h4, if_pos ⟨hk1, ho.2⟩]
  · rw [T.occ, if_neg hk1, if_neg hk] at h
    exact h.elim
theorem formed_four {n : Int} {s : List UInt8} {l : List T} (h : (T.mk 4 n s l).formed = true) : n = 0 := by
  rw [T.formed, if_neg (by omega), if_neg (by omega), if_neg (by omega), if_pos rfl] at h
  simp at h
  exact h.1.1.1.1
mutual
theorem gen_ok : ∀ (a b : T) (E : List (T × T)), a.formed = true → b.formed = true → PairsOk E → GenSt E (T.gen a b E).2 (T.sz a) ∧ GenOk (T.gen a b E).2 a b (T.gen a b E).1
  | .mk k n s l, b, E, ha, hb, hE => by
    rw [T.gen, T.sz]
    by_cases h4 : T.alike (.mk k n s l) b = true
    · rw [if_pos h4]
      have h4' := h4
      obtain ⟨k', n', s', l'⟩ := b
      rw [T.alike, Bool.and_eq_true, Bool.and_eq_true, Bool.and_eq_true, decide_eq_true_iff, decide_eq_true_iff, decide_eq_true_iff, decide_eq_true_iff] at h4
      obtain ⟨e1, e2, e3, hlen⟩ := h4
      obtain rfl : k = 4 := e1
      obtain rfl : k' = 4 := e2
      obtain rfl : s = s' := e3
      have hla : T.formedL l = true := formed_args' ha
      have hlb : T.formedL l' = true := formed_args' hb
      obtain rfl := formed_four ha
      obtain rfl := formed_four hb
      obtain ⟨hst, h1, h2, h3, h5, h6⟩ := genL_ok l l' E hla hlb hlen hE
      refine ⟨⟨hst.pre, hst.ok, by have := hst.len; show _ ≤ _; exact Nat.le_trans this (by omega)⟩, ⟨fun F => ?_, fun F => ?_, fun F => ?_, fun m hm => ?_, fun hl => ?_⟩⟩
      · rw [T.genF, if_pos h4']
        exact congrArg _ (h1 F)
      · show T.map _ (.mk 4 0 s (T.genL l l' E).1) = _
        rw [T.map, if_neg (by omega), if_pos rfl]
        exact congrArg _ (h2 F)
      · show T.map _ (.mk 4 0 s (T.genL l l' E).1) = _
        rw [T.map, if_neg (by omega), if_pos rfl]
        exact congrArg _ (h3 F)
      · refine h5 m ?_
        have hm' : T.occ m (.mk 4 0 s (T.genL l l' E).1) := hm
        rw [T.occ, if_neg (by omega), if_pos rfl] at hm'
        exact hm'
      · have hll : (T.genL l l' E).1.length = l.length := by
          have := congrArg List.length (h2 [])
          rwa [T.mapL_length] at this
        have hf := h6 hl
        have ha' := ha
        show (T.mk 4 0 s (T.genL l l' E).1).formed = true
        rw [T.formed, if_neg (by omega), if_neg (by omega), if_neg (by omega), if_pos rfl] at ha' ⊢
        rw [hll, hf]
        rw [hla] at ha'
        exact ha'
    · rw [if_neg h4]
      by_cases ho : k ≠ 1 ∧ T.order (.mk k n s l) b = 0
      · rw [if_pos ho]
        obtain ⟨h1, h2⟩ := gen_same ha hb hE h4 ho
        exact ⟨⟨h1.pre, h1.ok, Nat.le_trans h1.len (by omega)⟩, h2⟩
      · rw [if_neg ho]
        obtain ⟨h1, h2⟩ := gen_leaf ha hb hE h4 ho
        exact ⟨⟨h1.pre, h1.ok, Nat.le_trans h1.len (by omega)⟩, h2⟩
theorem genL_ok : ∀ (l m : List T) (E : List (T × T)), T.formedL l = true → T.formedL m = true → l.length = m.length → PairsOk E → GenSt E (T.genL l m E).2 (T.szL l) ∧
    (∀ F, T.genFL ((T.genL l m E).2 ++ F) l m = (T.genL l m E).1) ∧ (∀ F, T.mapL (leftP ((T.genL l m E).2 ++ F)) (T.genL l m E).1 = l) ∧ (∀ F, T.mapL (rightP ((T.genL l m E).2 ++ F)) (T.genL l m E).1 = m) ∧
    (∀ n, T.occL n (T.genL l m E).1 → 0 ≤ n ∧ n < ((T.genL l m E).2.length : Int)) ∧ ((T.genL l m E).2.length ≤ 1099511627777 → T.formedL (T.genL l m E).1 = true)
  | [], [], E, _, _, _, hE => by
    rw [T.genL, T.szL] <;> try (intro _ _ _ _ h; cases h)
    exact ⟨GenSt.rfl' hE 0, fun F => by simp [T.genFL], fun F => by rw [T.mapL], fun F => by rw [T.mapL], fun n h => by rw [T.occL] at h; exact h.elim, fun _ => by rw [T.formedL]⟩
  | [], y :: ys, _, _, _, h, _ => by cases h
  | x :: xs, [], _, _, _, h, _ => by cases h
  | x :: xs, y :: ys, E, hl, hm, hlen, hE => by
    rw [T.formedL, Bool.and_eq_true] at hl hm
    obtain ⟨s1, o1⟩ := gen_ok x y E hl.1 hm.1 hE
    obtain ⟨s2, f2, l2, r2, c2, d2⟩ := genL_ok xs ys (T.gen x y E).2 hl.2 hm.2 (Nat.succ.inj hlen) s1.ok
    rw [T.genL, T.szL]
    obtain ⟨G, hG⟩ := s2.pre
    have o1' : GenOk (T.genL xs ys (T.gen x y E).2).2 x y (T.gen x y E).1 := by rw [hG]; exact o1.more
    refine ⟨s1.trans s2, fun F => ?_, fun F => ?_, fun F => ?_, fun n h => ?_, fun hl => ?_⟩
    · rw [T.genFL]; exact congr (congrArg _ (o1'.stable F)) (f2 F)
    · show T.mapL _ ((T.gen x y E).1 :: (T.genL xs ys (T.gen x y E).2).1) = _
      rw [T.mapL]; exact congr (congrArg _ (o1'.left F)) (l2 F)
    · show T.mapL _ ((T.gen x y E).1 :: (T.genL xs ys (T.gen x y E).2).1) = _
      rw [T.mapL]; exact congr (congrArg _ (o1'.right F)) (r2 F)
    · have h' : T.occL n ((T.gen x y E).1 :: (T.genL xs ys (T.gen x y E).2).1) := h
      rw [T.occL] at h'
      rcases h' with h' | h'
      · exact o1'.few n h'
      · exact c2 n h'
    · show T.formedL ((T.gen x y E).1 :: (T.genL xs ys (T.gen x y E).2).1) = true
      rw [T.formedL, o1'.formed hl, d2 hl]
      rfl
end
/-- The least general term of two. -/
def T.lgg (a b : T) : T := (T.gen a b []).1
theorem lgg_left {a b : T} (ha : a.formed = true) (hb : b.formed = true) : T.matches (T.lgg a b) a :=
  ⟨_, (gen_ok a b [] ha hb (fun _ h => nomatch h)).2.left []⟩
theorem lgg_right {a b : T} (ha : a.formed = true) (hb : b.formed = true) : T.matches (T.lgg a b) b :=
  ⟨_, (gen_ok a b [] ha hb (fun _ h => nomatch h)).2.right []⟩
theorem lgg_least {a b c : T} (ha : a.formed = true) (hb : b.formed = true) (hc : c.formed = true) (h1 : T.matches c a) (h2 : T.matches c b) : T.matches c (T.lgg a b) := by
  obtain ⟨θ₁, h1⟩ := h1
  obtain ⟨θ₂, h2⟩ := h2
  have h3 := (gen_ok a b [] ha hb (fun _ h => nomatch h)).2.stable []
  refine ⟨fun n => T.genF ((T.gen a b []).2 ++ []) (θ₁ n) (θ₂ n), ?_⟩
  rw [← genF_map c hc, h1, h2]
  exact h3
theorem matches_trans {a b c : T} (h1 : T.matches a b) (h2 : T.matches b c) : T.matches a c := by
  obtain ⟨θ₁, h1⟩ := h1
  obtain ⟨θ₂, h2⟩ := h2
  exact ⟨_, by rw [← h2, ← h1, T.map_map]⟩
theorem lgg_formed {a b : T} (ha : a.formed = true) (hb : b.formed = true) (hs : T.sz a ≤ 1099511627777) : (T.lgg a b).formed = true := by
  obtain ⟨h1, h2⟩ := gen_ok a b [] ha hb (fun _ h => nomatch h)
  refine h2.formed ?_
  have := h1.len
  rw [List.length_nil] at this
  omega
/-- Which of the two comes first makes no difference but for the names. -/
theorem lgg_variant {a b : T} (ha : a.formed = true) (hb : b.formed = true) (sa : T.sz a ≤ 1099511627777) (sb : T.sz b ≤ 1099511627777) : (T.lgg a b).norm = (T.lgg b a).norm := by
  have h1 := lgg_formed ha hb sa
  have h2 := lgg_formed hb ha sb
  exact (variant_iff h1 h2).2 ⟨lgg_least hb ha h1 (lgg_right ha hb) (lgg_left ha hb), lgg_least ha hb h2 (lgg_right hb ha) (lgg_left hb ha)⟩
end Go.Proofs.Ytcblmkhhhibddaa

namespace Go.Proofs.Ytcblmkhhhibddaa
open Go.ChangeShapes Go.WideShapes Go.ChangeAt Go.RowKit Go.Deep

section
variable {H : Type} {enc : TypeId × Value → H} {W : World}

/-- A pair with its addresses. -/
structure Pr where
  a : Tm
  b : Tm

def Pr.cells (x : Pr) : List Value := x.a.cells ++ x.b.cells
def Pr.row (w : World) (b o : Nat) (l : List Pr) : Prop :=
  ∀ (i : Nat) (x : Pr), l[i]? = some x →
    (w.cell? ⟨b, o + i * 8, none⟩ = some (.int .i64 x.a.k) ∧ w.cell? ⟨b, o + i * 8 + 1, none⟩ = some (.int .i64 x.a.n) ∧
    w.cell? ⟨b, o + i * 8 + 2, none⟩ = some (.string x.a.s) ∧ w.cell? ⟨b, o + i * 8 + 3, none⟩ = some (.slice x.a.p x.a.l.length x.a.c)) ∧
    (w.cell? ⟨b, o + i * 8 + 4, none⟩ = some (.int .i64 x.b.k) ∧ w.cell? ⟨b, o + i * 8 + 4 + 1, none⟩ = some (.int .i64 x.b.n) ∧
    w.cell? ⟨b, o + i * 8 + 4 + 2, none⟩ = some (.string x.b.s) ∧ w.cell? ⟨b, o + i * 8 + 4 + 3, none⟩ = some (.slice x.b.p x.b.l.length x.b.c))

/-- A slice of pairs. -/
structure Prs where
  p : Option Addr
  c : Nat
  l : List Pr
def Prs.val (x : Prs) : Value := .slice x.p x.l.length x.c
def Prs.In (w : World) (x : Prs) : Prop :=
  x.l.length ≤ x.c ∧ (x.l.length * 112 ≤ 140737488351232 ∧ x.c ≤ 9223372036854775807) ∧ (x.l = [] ∨ ∃ b o, x.p = some ⟨b, o, none⟩ ∧ Pr.row w b o x.l) ∧ ∀ y ∈ x.l, y.a.In w ∧ y.b.In w

theorem Pr.row_lt {w : World} {b o : Nat} {l : List Pr} (h : Pr.row w b o l) (hl : l ≠ []) : b < w.heap.size := by
  cases l with
  | nil => exact absurd rfl hl
  | cons x xs => exact World.block_lt_of_cell? _ _ (h 0 x rfl).1.1
theorem Prs.In.mono {w w' : World} {x : Prs} (h : x.In w) (hg : Gr w w') : x.In w' := by
  obtain ⟨h1, h2, h3, h4⟩ := h
  refine ⟨h1, h2, ?_, fun y hy => ⟨Tm.In_below hg (h4 y hy).1, Tm.In_below hg (h4 y hy).2⟩⟩
  rcases h3 with h3 | ⟨b, o, hp, hr⟩
  · exact .inl h3
  · by_cases hl : x.l = []
    · exact .inl hl
    · refine .inr ⟨b, o, hp, fun i y hy => ?_⟩
      have hlt := Pr.row_lt hr hl
      have hs : ∀ o', w'.cell? ⟨b, o', none⟩ = w.cell? ⟨b, o', none⟩ := fun o' => hg.cell (p := ⟨b, o', none⟩) hlt
      have := hr i y hy
      simpa only [hs] using this
theorem Prs.In.elem {w : World} {b o : Nat} {c : Nat} {l : List Pr} (h : (Prs.mk (some ⟨b, o, none⟩) c l).In w) (i : Nat) (hi : i < l.length) :
    ((w.cell? ⟨b, o + i * 8, none⟩ = some (.int .i64 l[i].a.k) ∧ w.cell? ⟨b, o + i * 8 + 1, none⟩ = some (.int .i64 l[i].a.n) ∧
    w.cell? ⟨b, o + i * 8 + 2, none⟩ = some (.string l[i].a.s) ∧ w.cell? ⟨b, o + i * 8 + 3, none⟩ = some (.slice l[i].a.p l[i].a.l.length l[i].a.c)) ∧
    (w.cell? ⟨b, o + i * 8 + 4, none⟩ = some (.int .i64 l[i].b.k) ∧ w.cell? ⟨b, o + i * 8 + 4 + 1, none⟩ = some (.int .i64 l[i].b.n) ∧
    w.cell? ⟨b, o + i * 8 + 4 + 2, none⟩ = some (.string l[i].b.s) ∧ w.cell? ⟨b, o + i * 8 + 4 + 3, none⟩ = some (.slice l[i].b.p l[i].b.l.length l[i].b.c))) ∧
    (l[i].a.In w ∧ l[i].b.In w) ∧ b < w.heap.size := by
  obtain ⟨_, _, h3, h4⟩ := h
  rcases h3 with rfl | ⟨b', o', hp, hr⟩
  · simp at hi
  · cases hp
    exact ⟨hr i l[i] (List.getElem?_eq_getElem hi), h4 _ (List.getElem_mem hi), Pr.row_lt hr (by rintro rfl; simp at hi)⟩
theorem Prs.In.ptr {w : World} {p : Option Addr} {c : Nat} {l : List Pr} (h : (Prs.mk p c l).In w) (hl : 0 < l.length) : ∃ b o, p = some ⟨b, o, none⟩ := by
  obtain ⟨_, _, h3, _⟩ := h
  rcases h3 with rfl | ⟨b', o', hp, _⟩
  · simp at hl
  · exact ⟨b', o', hp⟩

theorem cellsPair : Try.prog.cellsOf 33 = 8 := by kernel_rfl
theorem bytesPair : Try.prog.bytesOf 33 = 112 := by kernel_rfl
theorem listP8 {α : Type} {l : List α} (h : l.length = 8) : ∃ a b c d e f g i, l = [a, b, c, d, e, f, g, i] := by
  match l, h with
  | [a, b, c, d, e, f, g, i], _ => exact ⟨a, b, c, d, e, f, g, i, rfl⟩

set_option maxRecDepth 100000 in
theorem open_pr (fuel : Nat) (cs : List Value) (x : DataW H × List MemPlace) (h : DataW.trod enc Try.prog W 0 (fun _ => true) true fuel 33 cs = some x)
    (hw : ∀ n ∈ x.1.weights Try.prog 33, n ≤ reachBytes) : ∃ y : Pr, cs = y.cells ∧ y.a.In W ∧ y.b.In W := by
  obtain ⟨xs, m, rfl, rfl, hl, hlen, hf⟩ := DataW.trod_struct Try.underlying33 h
  rw [cellsPair] at hl
  obtain ⟨y0, y1, rfl⟩ := list2 hlen
  obtain ⟨v0, v1, v2, v3, v4, v5, v6, v7, rfl⟩ := listP8 hl
  have g0 := hf 0 _ rfl
  have g1 := hf 1 _ rfl
  simp [cellsTerm] at g0 g1
  simp only [List.map_cons, List.map_nil, DataW.weights, Try.underlying33, DataW.weightsEach, List.append_nil, List.mem_append] at hw
  obtain ⟨t0, e0, i0⟩ := open_term m _ _ g0 fun n hn => hw n (.inl hn)
  obtain ⟨t1, e1, i1⟩ := open_term m _ _ g1 fun n hn => hw n (.inr hn)
  refine ⟨⟨t0, t1⟩, ?_, i0, i1⟩
  rw [Pr.cells, ← e0, ← e1]
  rfl

set_option maxRecDepth 100000 in
/-- An argument of type []api.Pair. -/
theorem open_pairs_arg {r : Reach} {b0 : Nat} {v : Value} {d : DataW H} {p : List MemPlace} (hv : Value.okWide Try.prog W r b0 22 v)
    (h : DataW.Trod enc Try.prog W 0 (fun _ => true) true 22 v d p) (hw : ∀ n ∈ d.weights Try.prog 22, n ≤ reachBytes) : ∃ x : Prs, v = x.val ∧ x.In W := by
  obtain ⟨a0, len0, cap0, rfl⟩ := okWide_slice Try.underlying22 hv
  obtain ⟨fuel, hf⟩ := h
  rcases open_slice_el Pr.cells (fun y => y.a.In W ∧ y.b.In W) Try.underlying22 cellsPair bytesPair open_pr hf hw with hcs | ⟨a, cap, l, hcs, h1, h2, h3, h4⟩
  · simp [Value.cells] at hcs
    obtain ⟨rfl, rfl, rfl⟩ := hcs
    exact ⟨⟨none, 0, []⟩, rfl, Nat.le_refl _, ⟨by simp, by simp⟩, .inl rfl, fun y hy => by simp at hy⟩
  · simp [Value.cells] at hcs
    obtain ⟨rfl, rfl, rfl⟩ := hcs
    refine ⟨⟨some a, cap0, l⟩, rfl, h1, ⟨by simp only; omega, h2⟩, ?_, fun y hy => ?_⟩
    · by_cases hl0 : l = []
      · exact .inl hl0
      · right
        have h0 : 0 < l.length := List.length_pos_iff.2 hl0
        obtain ⟨h10, _⟩ := h4 0 l[0] (List.getElem?_eq_getElem h0)
        obtain ⟨_, _, hc⟩ := World.cells?_some h10
        have hc0 := hc 0 (by omega)
        obtain ⟨b, o, spot⟩ := a
        have hspot : spot = none := by
          have h13 : W.cell? ⟨b, o, spot⟩ = some (.int .i64 l[0].a.k) := by simpa [Addr.add, Pr.cells, Tm.cells] using hc0
          exact World.cell?_spot h13
        subst hspot
        refine ⟨b, o, rfl, fun i x hx => ?_⟩
        obtain ⟨h10, _⟩ := h4 i x hx
        obtain ⟨_, _, hc⟩ := World.cells?_some h10
        have e0 := hc 0 (by omega)
        have e1 := hc 1 (by omega)
        have e2 := hc 2 (by omega)
        have e3 := hc 3 (by omega)
        have e4 := hc 4 (by omega)
        have e5 := hc 5 (by omega)
        have e6 := hc 6 (by omega)
        have e7 := hc 7 (by omega)
        rw [add_plain, add_plain] at e0 e1 e2 e3 e4 e5 e6 e7
        exact ⟨⟨e0, e1, e2, e3⟩, e4, e5, e6, e7⟩
    · obtain ⟨i, hi, rfl⟩ := List.getElem_of_mem hy
      exact (h4 i l[i] (List.getElem?_eq_getElem hi)).2
end

/-- The pairs without addresses. -/
def seePrs (l : List Pr) : List (T × T) := l.map fun y => (y.a.erase, y.b.erase)
end Go.Proofs.Ytcblmkhhhibddaa

namespace Go.Proofs.Ytcblmkhhhibddaa
open Go.RowKit Go.Maps Go.Lib

/-- The slice v of the call's own (blocks from B on) holds the pairs l. -/
def BuiltPrs (w : World) (B : Nat) (v : Value) (l : List Pr) : Prop := w.ownsRow B 33 8 v l.length (l.flatMap Pr.cells)
theorem infoPr : (Try.prog.info? 33).map (fun i => (i.zero, i.size, i.bytes)) = some (some (.agg #[.int .i64 0, .int .i64 0, .string ⟨#[]⟩, .slice none 0 0, .int .i64 0, .int .i64 0, .string ⟨#[]⟩, .slice none 0 0]), 8, 112) := by kernel_rfl
def prCells (x : Pr) : Array Value := #[.int .i64 x.a.k, .int .i64 x.a.n, .string x.a.s, .slice x.a.p x.a.l.length x.a.c, .int .i64 x.b.k, .int .i64 x.b.n, .string x.b.s, .slice x.b.p x.b.l.length x.b.c]
theorem wpList_append_pr {P : Program} {w : World} {ops : Array Oper} {rest : List Oper} {o : Oper} {a : Act} {Q : Exit → Act → World → Prop} (hgd : o.guard = none) (s y : Operand)
    (ho : o.op = .call { callee := .builtin .append, args := #[s, y], argTypes := #[22, 22] }) (hP : P = Try.prog)
    (B : Nat) (v : Value) (l : List Pr) (x : Pr) (b c : Nat) (hs : a.eval s = v) (hy : a.eval y = .slice (some ⟨b, 0, none⟩) 1 c) (h : BuiltPrs w B v l) (hB : B ≤ w.heap.size) (hl : (l.length + 1) * 112 ≤ 140737488351232)
    (hX : BlkT w b 33 (prCells x))
    (hK : ∀ v' w', BuiltPrs w' B v' (l ++ [x]) → w.grownBy w' v.ownBlock → (v'.ownBlock = v.ownBlock ∨ v'.ownBlock = some w.heap.size) → wpList P ops Q rest (a.put o.dst v') w') : wpList P ops Q (o :: rest) a w := by
  subst hP
  refine wpList_append_one hgd s y 22 33 ho Try.underlying22 infoPr rfl (by decide) B v l.length (l.flatMap Pr.cells) b c x.cells hs hy h hB rfl ?_ ?_ (by simp only [maxLen]; omega) (by omega) ?_
  · intro j u hu
    match j, hu with
    | 0, hu => cases hu; exact hX.cell 0 rfl
    | 1, hu => cases hu; exact hX.cell 1 rfl
    | 2, hu => cases hu; exact hX.cell 2 rfl
    | 3, hu => cases hu; exact hX.cell 3 rfl
    | 4, hu => cases hu; exact hX.cell 4 rfl
    | 5, hu => cases hu; exact hX.cell 5 rfl
    | 6, hu => cases hu; exact hX.cell 6 rfl
    | 7, hu => cases hu; exact hX.cell 7 rfl
    | j + 8, hu => simp [Pr.cells, Tm.cells] at hu
  · intro u hu
    simp only [Pr.cells, Tm.cells, List.cons_append, List.nil_append, List.mem_cons, List.mem_nil_iff, or_false] at hu
    rcases hu with rfl | rfl | rfl | rfl | rfl | rfl | rfl | rfl <;> rfl
  · intro v' w' h2 h3 h4
    refine hK v' w' ?_ h3 h4
    show w'.ownsRow B _ 8 v' _ _
    rw [List.length_append, List.flatMap_append]
    simpa using h2
theorem prcells_len : ∀ l : List Pr, (l.flatMap Pr.cells).length = l.length * 8
  | [] => rfl
  | x :: xs => by rw [List.flatMap_cons, List.length_append, prcells_len xs, List.length_cons, Pr.cells, Tm.cells, Tm.cells]; simp; omega
theorem prcells_at : ∀ {l : List Pr} {i : Nat} {x : Pr}, l[i]? = some x → ∀ j, j < 8 → (l.flatMap Pr.cells)[i * 8 + j]? = x.cells[j]?
  | y :: ys, 0, x, h, j, hj => by
    simp only [List.getElem?_cons_zero, Option.some.injEq] at h
    subst h
    rw [List.flatMap_cons, Nat.zero_mul, Nat.zero_add, List.getElem?_append_left (by simp [Pr.cells, Tm.cells]; omega)]
  | y :: ys, i + 1, x, h, j, hj => by
    simp only [List.getElem?_cons_succ] at h
    rw [List.flatMap_cons, List.getElem?_append_right (by simp [Pr.cells, Tm.cells]; omega), ← prcells_at h j hj]
    simp only [Pr.cells, Tm.cells, List.length_append, List.length_cons, List.length_nil]
    congr 1
    omega
theorem BuiltPrs.prs {w : World} {B : Nat} {v : Value} {l : List Pr} (h : BuiltPrs w B v l) (hl : l.length * 112 ≤ 140737488351232) (hs : ∀ y ∈ l, y.a.In w ∧ y.b.In w) :
    ∃ p c, v = .slice p l.length c ∧ (Prs.mk p c l).In w := by
  rcases h.2 with ⟨rfl, h1⟩ | ⟨g, cap, cur, h0, hbg, hg, hnc, hcm, hcs, htake⟩
  · have hn : l = [] := List.eq_nil_of_length_eq_zero h1
    subst hn
    exact ⟨none, 0, rfl, Nat.le_refl _, ⟨by simp, by simp⟩, .inl rfl, fun y hy => by simp at hy⟩
  · simp only [maxLen] at hcm
    refine ⟨some ⟨g, 0, none⟩, cap, h0, hnc, ⟨hl, by simp only; omega⟩, .inr ⟨g, 0, rfl, ?_⟩, hs⟩
    intro i x hx
    have hi : i < l.length := (List.getElem?_eq_some_iff.1 hx).1
    subst h0
    have hat : ∀ j, j < 8 → w.cell? ⟨g, 0 + i * 8 + j, none⟩ = x.cells[j]? := by
      intro j hj
      rw [Nat.zero_add, World.ownsRow.cellAt h _ (by omega)]
      exact prcells_at hx j hj
    exact ⟨⟨hat 0 (by omega), hat 1 (by omega), hat 2 (by omega), hat 3 (by omega)⟩, hat 4 (by omega), hat 5 (by omega), hat 6 (by omega), hat 7 (by omega)⟩
theorem BuiltPrs.gr {w w' : World} {B : Nat} {v : Value} {l : List Pr} (h : BuiltPrs w B v l) (hg : Gr w w') : BuiltPrs w' B v l := ownsRow_gr h hg
theorem BuiltPrs.ge {w : World} {B : Nat} {v : Value} {l : List Pr} (h : BuiltPrs w B v l) {b : Nat} (hb : v.ownBlock = some b) : B ≤ b := by
  rcases h.2 with ⟨rfl, _⟩ | ⟨g, cap, cur, rfl, h2, _⟩
  · cases hb
  · cases hb; exact h2

/-- A new block for a pair. -/
def prNew (B0 : Nat) (x : Pr) : VP := fun v w => ∃ B, v = .slice (some ⟨B, 0, none⟩) 1 1 ∧ B0 ≤ B ∧ BlkT w B 33 (prCells x)
theorem prNew_stable {B0 : Nat} {x : Pr} : ∀ v w w', prNew B0 x v w → Gr w w' → prNew B0 x v w' := fun _ _ _ ⟨B, h1, h2, h3⟩ hg => ⟨B, h1, h2, h3.gr hg⟩
/-- Two solved forms of the same pairs. -/
theorem Holds.uniq {E : List (T × T)} {ρ ρ' : Int → T} (h : Holds E ρ) (h' : Holds E ρ') (hc : Canon ρ) (hc' : Canon ρ') : ρ = ρ' := hc.uniq hc' (h.2 _ h'.1) (h'.2 _ h.1)
end Go.Proofs.Ytcblmkhhhibddaa

namespace Go.Proofs.Ytcblmkhhhibddaa
open Go.RowKit Go.Maps Go.Lib

/-- A row of one's own stands where only blocks turn that are not its own. -/
theorem ownsRow_kpG {C : Nat → Prop} {w w' : World} {base : Nat} {e : TypeId} {size : Nat} {v : Value} {n : Nat} {xs : List Value} (h : w.ownsRow base e size v n xs) (hK : Kp C w w') (hC : ∀ b, v.ownBlock = some b → ¬ C b) : w'.ownsRow base e size v n xs := by
  refine ⟨h.1, h.2.imp id ?_⟩
  rintro ⟨g, cap, cur, rfl, h2, h3, h4⟩
  exact ⟨g, cap, cur, rfl, h2, by rw [hK.block g (Array.getElem?_eq_some_iff.1 h3).1 (hC g rfl)]; exact h3, h4⟩
/-- The pairs met so far lie in the row v, whose header lies in block P; what they say lies on S. -/
structure PSt (S : Nat → Prop) (P : Nat) (v : Value) (l : List Pr) (w : World) : Prop where
  cell : w.heap[P]? = some (.cells #[v] 22)
  row : BuiltPrs w (P + 1) v l
  terms : ∀ y ∈ l, y.a.In w ∧ y.b.In w ∧ y.a.On S ∧ y.b.On S
  low : ∀ b, S b → b < P
/-- What may turn. -/
def PMut (P : Nat) (v : Value) (b : Nat) : Prop := b = P ∨ v.ownBlock = some b
theorem PSt.lt {S : Nat → Prop} {P : Nat} {v : Value} {l : List Pr} {w : World} (h : PSt S P v l w) : P < w.heap.size := (Array.getElem?_eq_some_iff.1 h.cell).1
theorem PSt.own {S : Nat → Prop} {P : Nat} {v : Value} {l : List Pr} {w : World} (h : PSt S P v l w) {b : Nat} (hb : v.ownBlock = some b) : P < b := BuiltPrs.ge h.row hb
theorem PSt.kp {S C : Nat → Prop} {P : Nat} {v : Value} {l : List Pr} {w w' : World} (h : PSt S P v l w) (k : Kp C w w') (hP : ¬ C P) (hv : ∀ b, v.ownBlock = some b → ¬ C b) (hS : ∀ b, S b → ¬ C b) : PSt S P v l w' where
  cell := (k.block P h.lt hP).trans h.cell
  row := ownsRow_kpG h.row k hv
  terms := fun y hy => by
    obtain ⟨h1, h2, h3, h4⟩ := h.terms y hy
    exact ⟨kp_in h1 h3 hS k, kp_in h2 h4 hS k, h3, h4⟩
  low := h.low
theorem PSt.gr {S : Nat → Prop} {P : Nat} {v : Value} {l : List Pr} {w w' : World} (h : PSt S P v l w) (g : Gr w w') : PSt S P v l w' :=
  h.kp (C := fun _ => False) (Kp.of_gr g) id (fun _ _ => id) (fun _ _ => id)
/-- term.general's answer. -/
def RetGen (S : Nat → Prop) (P : Nat) (v : Value) (l : List Pr) (a b : T) (w : World) (e : Ending) (w' : World) : Prop :=
  ∃ (g : Tm) (v' : Value) (l' : List Pr), e = .returned g.val ∧ g.In w' ∧ g.erase = (T.gen a b (seePrs l)).1 ∧ seePrs l' = (T.gen a b (seePrs l)).2 ∧ PSt S P v' l' w' ∧ Kp (PMut P v) w w' ∧
    g.On (fun x => w.heap.size ≤ x ∧ v'.ownBlock ≠ some x) ∧ ∀ x, v'.ownBlock = some x → v.ownBlock = some x ∨ w.heap.size ≤ x
end Go.Proofs.Ytcblmkhhhibddaa

namespace Go.Proofs.Ytcblmkhhhibddaa
open Go.RowKit Go.Maps Go.Lib

theorem zero_term (w : World) : (zeroValue 25).run Try.prog w = .ok zeroTm.val w := by kernel_rfl

/-- What a lookup gives, whatever has been made since. -/
theorem TMap.look {S : Nat → Prop} {w : World} {b : Nat} {f : Int → Option T} (h : TMap S w b f) {n : Int} (hn : In64 n) :
    ∃ (u : Tm) (x : Bool), (∀ (C : Nat → Prop) (ww : World), Kp C w ww → ¬ C b → (Instr.lookup 106 (.map (some b)) (.int .i64 n) true).run Try.prog ww = .ok (.tuple #[u.val, .bool x]) ww) ∧
      ((x = false ∧ f n = none ∧ u = zeroTm) ∨ (x = true ∧ ∃ t, f n = some t ∧ u.In w ∧ u.erase = t ∧ t.formed = true ∧ u.On S)) := by
  obtain ⟨⟨g, h1, h2⟩, h3, h4⟩ := h
  have hrun : ∀ (C : Nat → Prop) (ww : World), Kp C w ww → ¬ C b → (Instr.lookup 106 (.map (some b)) (.int .i64 n) true).run Try.prog ww = .ok (.tuple #[(g n).getD zeroTm.val, .bool (g n).isSome]) ww := fun C ww hk hb =>
    ((h1.kp hk hb).run (int_keyed Try.underlying2) Try.underlying106 (zero_term ww) (x := n) (keyOf_int_mk Try.underlying2 (wf_64 hn))).2
  have h5 := h2 n
  cases hf : f n with
  | none =>
    rw [hf] at h5
    simp only at h5
    refine ⟨zeroTm, false, fun C ww hk hb => ?_, .inl ⟨rfl, rfl, rfl⟩⟩
    rw [hrun C ww hk hb, h5]
    rfl
  | some t =>
    rw [hf] at h5
    obtain ⟨tm, i1, i2, i3, i4, i5⟩ := h5
    refine ⟨tm, true, fun C ww hk hb => ?_, .inr ⟨rfl, t, rfl, i2, i3, i4, i5⟩⟩
    rw [hrun C ww hk hb, i1]
    rfl

/-- A store: at P its three cells, at M the map; the trail; how long it was at each mark. -/
structure SM (S : Nat → Prop) (B : Nat) (w : World) (P M : Nat) (vt vm : Value) (σ : Int → Option T) (tr mk : List Int) : Prop where
  blk : BlkT w P 108 #[.map (some M), vt, vm]
  map : TMap S w M σ
  tro : IntsOwn w B vt tr
  mko : w.ownsRow B 3 1 vm mk.length (mk.map (Value.int .i64))
  trn : tr.Nodup
  tri : ∀ n, n ∈ tr ↔ σ n ≠ none
  sepS : ∀ b, S b → b < w.heap.size ∧ b ≠ P ∧ b ≠ M ∧ vt.ownBlock ≠ some b ∧ vm.ownBlock ≠ some b
  nPM : P ≠ M
  nt : vt.ownBlock ≠ some P ∧ vt.ownBlock ≠ some M
  nm : vm.ownBlock ≠ some P ∧ vm.ownBlock ≠ some M
  ntm : ∀ b, vt.ownBlock = some b → vm.ownBlock ≠ some b
  bnd : B ≤ w.heap.size

section
variable {S : Nat → Prop} {B : Nat} {w w' : World} {P M : Nat} {vt vm : Value} {σ : Int → Option T} {tr mk : List Int}
theorem TMap.lt (h : TMap S w M σ) : M < w.heap.size := by
  obtain ⟨⟨g, h1, _⟩, _, _⟩ := h
  exact h1.lt
theorem TMap.gr (h : TMap S w M σ) (hg : Gr w w') : TMap S w' M σ := h.kp (C := fun _ => False) (Kp.of_gr hg) id fun _ _ => id
theorem TMap.mono {S' : Nat → Prop} (h : TMap S w M σ) (hS : ∀ b, S b → S' b) : TMap S' w M σ := by
  obtain ⟨⟨g, h1, h2⟩, h3, h4⟩ := h
  refine ⟨⟨g, h1, fun n => ?_⟩, h3, h4⟩
  have := h2 n
  cases hf : σ n with
  | none => rw [hf] at this; exact this
  | some t =>
    rw [hf] at this
    obtain ⟨tm, i1, i2, i3, i4, i5⟩ := this
    exact ⟨tm, i1, i2, i3, i4, i5.mono hS⟩
theorem SM.gr (h : SM S B w P M vt vm σ tr mk) (hg : Gr w w') : SM S B w' P M vt vm σ tr mk where
  blk := h.blk.gr hg
  map := h.map.gr hg
  tro := h.tro.gr hg
  mko := ownsRow_gr h.mko hg
  trn := h.trn
  tri := h.tri
  sepS b hb := ⟨Nat.lt_of_lt_of_le (h.sepS b hb).1 hg.size, (h.sepS b hb).2⟩
  nPM := h.nPM
  nt := h.nt
  nm := h.nm
  ntm := h.ntm
  bnd := Nat.le_trans h.bnd hg.size
/-- More terms may be laid in it. -/
theorem SM.mono {S' : Nat → Prop} (h : SM S B w P M vt vm σ tr mk) (hS : ∀ b, S b → S' b) (hS' : ∀ b, S' b → b < w.heap.size ∧ b ≠ P ∧ b ≠ M ∧ vt.ownBlock ≠ some b ∧ vm.ownBlock ≠ some b) : SM S' B w P M vt vm σ tr mk :=
  { h with map := h.map.mono hS, sepS := hS' }
theorem SM.range (h : SM S B w P M vt vm σ tr mk) (n : Int) (hn : n ∈ tr) : 0 ≤ n ∧ n ≤ 1099511627776 := h.map.2.2 n ((h.tri n).1 hn)
theorem SM.len (h : SM S B w P M vt vm σ tr mk) : tr.length ≤ 1099511627777 := nodup_le 1099511627777 tr h.trn fun x hx => by
  have := h.range x hx
  omega
/-- The blocks that a store may write to. -/
def Mut (P M : Nat) (vt : Value) (b : Nat) : Prop := b = P ∨ b = M ∨ vt.ownBlock = some b
theorem SM.nmut (h : SM S B w P M vt vm σ tr mk) {b : Nat} (hb : S b) : ¬ Mut P M vt b := fun hm => by
  obtain ⟨_, h1, h2, h3, _⟩ := h.sepS b hb
  rcases hm with rfl | rfl | hm
  · exact h1 rfl
  · exact h2 rfl
  · exact h3 hm
end
end Go.Proofs.Ytcblmkhhhibddaa
