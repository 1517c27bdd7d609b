/-
  The least general term of two, plain.
  hornkeep.TermLeast: the walk, given what term.General answers.
-/
import Derived.Test.YtcblmkhhhibddaaTS19
import Derived.Test.YtcblmkhhhibddaaTS28
import Derived.Test.YtcblmkhhhibddaaTS20
import Derived.Test.YtcblmkhhhibddaaTS21
namespace Go.Proofs.Ytcblmkhhhibddaa

/-- Both are of one functor. -/
def T.alike (a b : T) : Bool := decide (a.k = 4) && (decide (b.k = 4) && (decide (a.s = b.s) && decide (a.l.length = b.l.length)))
def T.twin (a b : T) (p : T × T) : Bool := decide (T.order p.1 a = 0) && decide (T.order p.2 b = 0)
def seekP (E : List (T × T)) (a b : T) : Nat := E.findIdx (T.twin a b)

mutual
/-- The general term of two, with the pairs met so far. -/
def T.gen : T → T → List (T × T) → T × List (T × T)
  | .mk k n s l, b, E =>
    if T.alike (.mk k n s l) b = true then (.mk 4 0 s (T.genL l b.l E).1, (T.genL l b.l E).2)
    else if k ≠ 1 ∧ T.order (.mk k n s l) b = 0 then (.mk k n s l, E)
    else (varT (seekP E (.mk k n s l) b), if seekP E (.mk k n s l) b < E.length then E else E ++ [(.mk k n s l, b)])
def T.genL : List T → List T → List (T × T) → List T × List (T × T)
  | x :: xs, y :: ys, E => ((T.gen x y E).1 :: (T.genL xs ys (T.gen x y E).2).1, (T.genL xs ys (T.gen x y E).2).2)
  | _, _, E => ([], E)
end
mutual
/-- The same, with all pairs that there will be. -/
def T.genF (E : List (T × T)) : T → T → T
  | .mk k n s l, b =>
    if T.alike (.mk k n s l) b = true then .mk 4 0 s (T.genFL E l b.l)
    else if k ≠ 1 ∧ T.order (.mk k n s l) b = 0 then .mk k n s l
    else varT (seekP E (.mk k n s l) b)
def T.genFL (E : List (T × T)) : List T → List T → List T
  | x :: xs, y :: ys => T.genF E x y :: T.genFL E xs ys
  | _, _ => []
end


/-! ### The state -/
def PairsOk (E : List (T × T)) : Prop := ∀ p ∈ E, p.1.formed = true ∧ p.2.formed = true
theorem twin_iff {a b : T} {p : T × T} (ha : a.formed = true) (hb : b.formed = true) (hp : p.1.formed = true ∧ p.2.formed = true) : T.twin a b p = true ↔ p = (a, b) := by
  rw [T.twin, Bool.and_eq_true, decide_eq_true_iff, decide_eq_true_iff, order_zero _ _ hp.1 ha, order_zero _ _ hp.2 hb, Prod.ext_iff]
theorem seek_lt {E : List (T × T)} {a b : T} (ha : a.formed = true) (hb : b.formed = true) (hE : PairsOk E) (h : seekP E a b < E.length) : E[seekP E a b]? = some (a, b) := by
  have h1 := List.findIdx_getElem (w := h)
  rw [List.getElem?_eq_getElem h]
  exact congrArg some ((twin_iff ha hb (hE _ (List.getElem_mem h))).1 h1)
theorem seek_more {E F : List (T × T)} {a b : T} (h : seekP E a b < E.length) : seekP (E ++ F) a b = seekP E a b := by
  rw [seekP, List.findIdx_append]
  exact if_pos h
theorem seek_new {E F : List (T × T)} {a b : T} (ha : a.formed = true) (hb : b.formed = true) (h : ¬ seekP E a b < E.length) : seekP (E ++ [(a, b)] ++ F) a b = seekP E a b := by
  have h0 : seekP E a b = E.length := Nat.le_antisymm List.findIdx_le_length (Nat.le_of_not_lt h)
  have h1 : T.twin a b (a, b) = true := (twin_iff ha hb ⟨ha, hb⟩).2 rfl
  rw [h0, List.append_assoc, List.singleton_append]
  show List.findIdx (T.twin a b) _ = _
  rw [List.findIdx_append, if_neg (show ¬ List.findIdx (T.twin a b) E < E.length from h), List.findIdx_cons, h1]
  simp
/-- What is left of pairs that hold, on the left and on the right. -/
def leftP (E : List (T × T)) (n : Int) : T := ((E[n.toNat]?).map Prod.fst).getD (varT n)
def rightP (E : List (T × T)) (n : Int) : T := ((E[n.toNat]?).map Prod.snd).getD (varT n)
/-- What the state has become. -/
structure GenSt (E E' : List (T × T)) (m : Nat) : Prop where
  pre : ∃ F, E' = E ++ F
  ok : PairsOk E'
  len : E'.length ≤ E.length + m
theorem GenSt.trans {E E1 E2 : List (T × T)} {m m' : Nat} (h : GenSt E E1 m) (k : GenSt E1 E2 m') : GenSt E E2 (m + m') := by
  obtain ⟨F, hF⟩ := h.pre
  obtain ⟨G, hG⟩ := k.pre
  have h1 := h.len
  have h2 := k.len
  exact ⟨⟨F ++ G, by rw [hG, hF, List.append_assoc]⟩, k.ok, by omega⟩
/-- A general term: made with all pairs, of the two, and with few variables. -/
structure GenOk (E' : List (T × T)) (a b g : T) : Prop where
  stable : ∀ F, T.genF (E' ++ F) a b = g
  left : ∀ F, T.map (leftP (E' ++ F)) g = a
  right : ∀ F, T.map (rightP (E' ++ F)) g = b
  few : ∀ n, T.occ n g → 0 ≤ n ∧ n < (E'.length : Int)
  formed : E'.length ≤ 1099511627777 → g.formed = true
theorem GenOk.more {E' F : List (T × T)} {a b g : T} (h : GenOk E' a b g) : GenOk (E' ++ F) a b g :=
  ⟨fun G => by rw [List.append_assoc]; exact h.stable _, fun G => by rw [List.append_assoc]; exact h.left _, fun G => by rw [List.append_assoc]; exact h.right _, fun n hn => by
    have := h.few n hn
    rw [List.length_append]
    exact ⟨this.1, by omega⟩, fun hl => h.formed (by rw [List.length_append] at hl; omega)⟩
theorem GenSt.rfl' {E : List (T × T)} (h : PairsOk E) (m : Nat) : GenSt E E m := ⟨⟨[], by simp⟩, h, by omega⟩
theorem gen_leaf {E : List (T × T)} {a b : T} (ha : a.formed = true) (hb : b.formed = true) (hE : PairsOk E) (h4 : ¬ T.alike a b = true) (ho : ¬ (a.k ≠ 1 ∧ T.order a b = 0)) :
    GenSt E (if seekP E a b < E.length then E else E ++ [(a, b)]) 1 ∧ GenOk (if seekP E a b < E.length then E else E ++ [(a, b)]) a b (varT (seekP E a b)) := by
  have hst : ∀ E'' : List (T × T), seekP E'' a b = seekP E a b → T.genF E'' a b = varT (seekP E a b) := fun E'' h => by
    obtain ⟨k, n, s, l⟩ := a
    rw [T.genF, if_neg h4, if_neg (show ¬ (k ≠ 1 ∧ T.order (.mk k n s l) b = 0) from ho), h]
  have hmap : ∀ f : Int → T, T.map f (varT (seekP E a b)) = f (seekP E a b) := fun f => T.map_var f _
  by_cases hs : seekP E a b < E.length
  · rw [if_pos hs]
    have hat := seek_lt ha hb hE hs
    refine ⟨GenSt.rfl' hE 1, ⟨fun F => hst _ (seek_more hs), fun F => ?_, fun F => ?_, fun n hn => ?_, fun hl => varT_formed ⟨by omega, by omega⟩⟩⟩
    · rw [hmap, leftP, Int.toNat_natCast, List.getElem?_append_left hs, hat]; rfl
    · rw [hmap, rightP, Int.toNat_natCast, List.getElem?_append_left hs, hat]; rfl
    · have hn' : (seekP E a b : Int) = n := hn
      omega
  · rw [if_neg hs]
    have h0 : seekP E a b = E.length := Nat.le_antisymm List.findIdx_le_length (Nat.le_of_not_lt hs)
    have hat : ∀ F, (E ++ [(a, b)] ++ F)[seekP E a b]? = some (a, b) := fun F => by
      rw [h0, List.append_assoc, List.getElem?_append_right (Nat.le_refl _), Nat.sub_self]
      rfl
    refine ⟨⟨⟨[(a, b)], rfl⟩, fun p hp => ?_, by simp⟩, ⟨fun F => hst _ (seek_new ha hb hs), fun F => ?_, fun F => ?_, fun n hn => ?_, fun hl => varT_formed ⟨by omega, by rw [List.length_append, List.length_singleton] at hl; omega⟩⟩⟩
    · rcases List.mem_append.1 hp with hp | hp
      · exact hE p hp
      · rw [List.mem_singleton] at hp; rw [hp]; exact ⟨ha, hb⟩
    · rw [hmap, leftP, Int.toNat_natCast, hat]; rfl
    · rw [hmap, rightP, Int.toNat_natCast, hat]; rfl
    · have hn' : (seekP E a b : Int) = n := hn
      rw [List.length_append, List.length_singleton]
      omega
theorem gen_same {E : List (T × T)} {a b : T} (ha : a.formed = true) (hb : b.formed = true) (hE : PairsOk E) (h4 : ¬ T.alike a b = true) (ho : a.k ≠ 1 ∧ T.order a b = 0) : GenSt E E 1 ∧ GenOk E a b a := by
  have hab : a = b := (order_zero _ _ ha hb).1 ho.2
  subst hab
  obtain ⟨k, n, s, l⟩ := a
  have hk : k ≠ 4 := fun h => h4 (by simp [T.alike, T.k, h])
  have hk1 : k ≠ 1 := ho.1
  have hl : l = [] := by
    rcases formed_args ha with ⟨h, _⟩ | ⟨_, h⟩
    · exact absurd h hk
    · exact h
  subst hl
  have hm : ∀ f : Int → T, T.map f (.mk k n s []) = .mk k n s [] := fun f => by rw [T.map, if_neg hk1, if_neg hk]
  refine ⟨GenSt.rfl' hE 1, ⟨fun F => ?_, fun F => hm _, fun F => hm _, fun m h => ?_, fun _ => ha⟩⟩
  · rw [T.genF, if_neg h4, if_pos ⟨hk1, ho.2⟩]
  · rw [T.occ, if_neg hk1, if_neg hk] at h
    exact h.elim
theorem formed_four {n : Int} {s : List UInt8} {l : List T} (h : (T.mk 4 n s l).formed = true) : n = 0 := by
  rw [T.formed, if_neg (by omega), if_neg (by omega), if_neg (by omega), if_pos rfl] at h
  simp at h
  exact h.1.1.1.1
mutual
theorem gen_ok : ∀ (a b : T) (E : List (T × T)), a.formed = true → b.formed = true → PairsOk E → GenSt E (T.gen a b E).2 (T.sz a) ∧ GenOk (T.gen a b E).2 a b (T.gen a b E).1
  | .mk k n s l, b, E, ha, hb, hE => by
    rw [T.gen, T.sz]
    by_cases h4 : T.alike (.mk k n s l) b = true
    · rw [if_pos h4]
      have h4' := h4
      obtain ⟨k', n', s', l'⟩ := b
      rw [T.alike, Bool.and_eq_true, Bool.and_eq_true, Bool.and_eq_true, decide_eq_true_iff, decide_eq_true_iff, decide_eq_true_iff, decide_eq_true_iff] at h4
      obtain ⟨e1, e2, e3, hlen⟩ := h4
      obtain rfl : k = 4 := e1
      obtain rfl : k' = 4 := e2
      obtain rfl : s = s' := e3
      have hla : T.formedL l = true := formed_args' ha
      have hlb : T.formedL l' = true := formed_args' hb
      obtain rfl := formed_four ha
      obtain rfl := formed_four hb
      obtain ⟨hst, h1, h2, h3, h5, h6⟩ := genL_ok l l' E hla hlb hlen hE
      refine ⟨⟨hst.pre, hst.ok, by have := hst.len; show _ ≤ _; exact Nat.le_trans this (by omega)⟩, ⟨fun F => ?_, fun F => ?_, fun F => ?_, fun m hm => ?_, fun hl => ?_⟩⟩
      · rw [T.genF, if_pos h4']
        exact congrArg _ (h1 F)
      · show T.map _ (.mk 4 0 s (T.genL l l' E).1) = _
        rw [T.map, if_neg (by omega), if_pos rfl]
        exact congrArg _ (h2 F)
      · show T.map _ (.mk 4 0 s (T.genL l l' E).1) = _
        rw [T.map, if_neg (by omega), if_pos rfl]
        exact congrArg _ (h3 F)
      · refine h5 m ?_
        have hm' : T.occ m (.mk 4 0 s (T.genL l l' E).1) := hm
        rw [T.occ, if_neg (by omega), if_pos rfl] at hm'
        exact hm'
      · have hll : (T.genL l l' E).1.length = l.length := by
          have := congrArg List.length (h2 [])
          rwa [T.mapL_length] at this
        have hf := h6 hl
        have ha' := ha
        show (T.mk 4 0 s (T.genL l l' E).1).formed = true
        rw [T.formed, if_neg (by omega), if_neg (by omega), if_neg (by omega), if_pos rfl] at ha' ⊢
        rw [hll, hf]
        rw [hla] at ha'
        exact ha'
    · rw [if_neg h4]
      by_cases ho : k ≠ 1 ∧ T.order (.mk k n s l) b = 0
      · rw [if_pos ho]
        obtain ⟨h1, h2⟩ := gen_same ha hb hE h4 ho
        exact ⟨⟨h1.pre, h1.ok, Nat.le_trans h1.len (by omega)⟩, h2⟩
      · rw [if_neg ho]
        obtain ⟨h1, h2⟩ := gen_leaf ha hb hE h4 ho
        exact ⟨⟨h1.pre, h1.ok, Nat.le_trans h1.len (by omega)⟩, h2⟩
theorem genL_ok : ∀ (l m : List T) (E : List (T × T)), T.formedL l = true → T.formedL m = true → l.length = m.length → PairsOk E → GenSt E (T.genL l m E).2 (T.szL l) ∧
    (∀ F, T.genFL ((T.genL l m E).2 ++ F) l m = (T.genL l m E).1) ∧ (∀ F, T.mapL (leftP ((T.genL l m E).2 ++ F)) (T.genL l m E).1 = l) ∧ (∀ F, T.mapL (rightP ((T.genL l m E).2 ++ F)) (T.genL l m E).1 = m) ∧
    (∀ n, T.occL n (T.genL l m E).1 → 0 ≤ n ∧ n < ((T.genL l m E).2.length : Int)) ∧ ((T.genL l m E).2.length ≤ 1099511627777 → T.formedL (T.genL l m E).1 = true)
  | [], [], E, _, _, _, hE => by
    rw [T.genL, T.szL] <;> try (intro _ _ _ _ h; cases h)
    exact ⟨GenSt.rfl' hE 0, fun F => by simp [T.genFL], fun F => by rw [T.mapL], fun F => by rw [T.mapL], fun n h => by rw [T.occL] at h; exact h.elim, fun _ => by rw [T.formedL]⟩
  | [], y :: ys, _, _, _, h, _ => by cases h
  | x :: xs, [], _, _, _, h, _ => by cases h
  | x :: xs, y :: ys, E, hl, hm, hlen, hE => by
    rw [T.formedL, Bool.and_eq_true] at hl hm
    obtain ⟨s1, o1⟩ := gen_ok x y E hl.1 hm.1 hE
    obtain ⟨s2, f2, l2, r2, c2, d2⟩ := genL_ok xs ys (T.gen x y E).2 hl.2 hm.2 (Nat.succ.inj hlen) s1.ok
    rw [T.genL, T.szL]
    obtain ⟨G, hG⟩ := s2.pre
    have o1' : GenOk (T.genL xs ys (T.gen x y E).2).2 x y (T.gen x y E).1 := by rw [hG]; exact o1.more
    refine ⟨s1.trans s2, fun F => ?_, fun F => ?_, fun F => ?_, fun n h => ?_, fun hl => ?_⟩
    · rw [T.genFL]; exact congr (congrArg _ (o1'.stable F)) (f2 F)
    · show T.mapL _ ((T.gen x y E).1 :: (T.genL xs ys (T.gen x y E).2).1) = _
      rw [T.mapL]; exact congr (congrArg _ (o1'.left F)) (l2 F)
    · show T.mapL _ ((T.gen x y E).1 :: (T.genL xs ys (T.gen x y E).2).1) = _
      rw [T.mapL]; exact congr (congrArg _ (o1'.right F)) (r2 F)
    · have h' : T.occL n ((T.gen x y E).1 :: (T.genL xs ys (T.gen x y E).2).1) := h
      rw [T.occL] at h'
      rcases h' with h' | h'
      · exact o1'.few n h'
      · exact c2 n h'
    · show T.formedL ((T.gen x y E).1 :: (T.genL xs ys (T.gen x y E).2).1) = true
      rw [T.formedL, o1'.formed hl, d2 hl]
      rfl
end
/-- The least general term of two. -/
def T.lgg (a b : T) : T := (T.gen a b []).1
end Go.Proofs.Ytcblmkhhhibddaa

namespace Go.Proofs.Ytcblmkhhhibddaa
open Go.RowKit Go.Maps Go.Lib

theorem RetMatch.says {B : Nat} {p t : T} {w w' : World} {e : Ending} (hp : p.formed = true) (ht : t.formed = true) (h : RetMatch B p t w e w') :
    ∃ (v : Value) (b : Bool) (x : Int), e = .returned (.tuple #[v, .bool b, .int .i64 x]) ∧ (b = true ↔ T.matches p t) ∧ Gr w w' := by
  obtain ⟨pp, c, l, b, rfl, -, -, g, hc⟩ := h
  refine ⟨_, b, _, rfl, ?_, g⟩
  rw [← mat_iff hp ht]
  rcases hc with ⟨rfl, -, hn⟩ | ⟨rfl, -, f, hf, -⟩
  · rw [hn (by rw [hp, ht]; rfl)]
    exact ⟨(fun h => nomatch h), (fun h => nomatch h)⟩
  · rw [hf]
    exact ⟨fun _ => rfl, fun _ => rfl⟩

theorem three_blocks (w : World) (v0 : Value) (v1 : Value) (v2 : Value) (v3 : Value) (u0 : Value) (u1 : Value) (u2 : Value) (u3 : Value) (z0 : Value) (z1 : Value) (z2 : Value) (z3 : Value) : Hid (Blk4 (((w.alloc (.cells #[v0, v1, v2, v3] 25)).alloc (.cells #[u0, u1, u2, u3] 25)).alloc (.cells #[z0, z1, z2, z3] 25)) w.heap.size v0 v1 v2 v3) ∧ Hid (Blk4 (((w.alloc (.cells #[v0, v1, v2, v3] 25)).alloc (.cells #[u0, u1, u2, u3] 25)).alloc (.cells #[z0, z1, z2, z3] 25)) (w.heap.size + 1) u0 u1 u2 u3) ∧ Hid (Blk4 (((w.alloc (.cells #[v0, v1, v2, v3] 25)).alloc (.cells #[u0, u1, u2, u3] 25)).alloc (.cells #[z0, z1, z2, z3] 25)) (w.heap.size + 2) z0 z1 z2 z3) ∧ Gr w (((w.alloc (.cells #[v0, v1, v2, v3] 25)).alloc (.cells #[u0, u1, u2, u3] 25)).alloc (.cells #[z0, z1, z2, z3] 25)) := by
  obtain ⟨h1, h2, g⟩ := two_blocks w v0 v1 v2 v3 u0 u1 u2 u3
  refine ⟨h1.out.old _, h2.out.old _, ?_, g.trans (by go_grown)⟩
  have h3 := Blk4.new ((w.alloc (.cells #[v0, v1, v2, v3] 25)).alloc (.cells #[u0, u1, u2, u3] 25)) z0 z1 z2 z3
  rw [show ((w.alloc (.cells #[v0, v1, v2, v3] 25)).alloc (.cells #[u0, u1, u2, u3] 25)).heap.size = w.heap.size + 2 by simp] at h3
  exact h3
/-- General's answer, of terms that are formed. -/
def RetGeneral (a b : T) (w : World) (e : Ending) (w' : World) : Prop := ∃ g : Tm, e = .returned (.tuple #[g.val, .int .i64 0]) ∧ g.In w' ∧ g.erase = T.lgg a b ∧ Gr w w'
def GeneralSays : Prop := ∀ (a b : Tm) (w : World), a.In w → b.In w → a.erase.formed = true → b.erase.formed = true → T.sz a.erase ≤ 1048576 → T.sz b.erase ≤ 1048576 → Calls Try.prog 30 #[a.val, b.val] w (RetGeneral a.erase b.erase w)

end Go.Proofs.Ytcblmkhhhibddaa
