/-
  hornref.laid: the general term, with all pairs.
-/
import Derived.Test.YtcblmkhhhibddaaTS39
import Derived.Test.YtcblmkhhhibddaaTS40
namespace Go.Proofs.Ytcblmkhhhibddaa
open Go.RowKit Go.Maps Go.Lib

mutual
def T.unlike : T → T → List (T × T)
  | .mk k n s l, b => if T.alike (.mk k n s l) b = true then T.unlikeL l b.l
    else if k ≠ 1 ∧ T.same (.mk k n s l) b = true then [] else [(.mk k n s l, b)]
def T.unlikeL : List T → List T → List (T × T)
  | x :: xs, y :: ys => T.unlike x y ++ T.unlikeL xs ys
  | _, _ => []
end
mutual
theorem unlike_see : ∀ a b : Tm, seePrs (Tm.unlike a b) = T.unlike a.erase b.erase
  | .mk k n s p c l, b => by
    rw [Tm.unlike]
    have h1 : (Tm.mk k n s p c l).erase = .mk k n s.toList (Tm.eraseL l) := by rw [Tm.erase]
    rw [h1, T.unlike]
    split
    · rw [erase_ls b]; exact unlikeL_see l b.l
    · split
      · rfl
      · show [((Tm.mk k n s p c l).erase, b.erase)] = _
        rw [h1]
theorem unlikeL_see : ∀ l m : List Tm, seePrs (Tm.unlikeL l m) = T.unlikeL (Tm.eraseL l) (Tm.eraseL m)
  | [], m => by
    rw [unlikeL_nil, Tm.eraseL, T.unlikeL]
    · rfl
    · intro _ _ _ _ h; cases h
  | x :: xs, [] => by
    rw [Tm.unlikeL, Tm.eraseL, Tm.eraseL, T.unlikeL]
    · rfl
    · intro _ _ _ _ _ h; cases h
    · intro _ _ _ _ _ h; cases h
  | x :: xs, y :: ys => by
    rw [Tm.unlikeL, Tm.eraseL, Tm.eraseL, T.unlikeL, ← unlike_see x y, ← unlikeL_see xs ys, seePrs, seePrs, seePrs, List.map_append]
end
/-- The pairs are pairs for which General has a variable, of terms that are formed. -/
def PureP (E : List (T × T)) : Prop := ∀ p ∈ E, ¬ T.alike p.1 p.2 = true ∧ ¬ (p.1.k ≠ 1 ∧ T.same p.1 p.2 = true) ∧ p.1.formed = true ∧ p.2.formed = true
theorem unlike_alikeT {a b : T} (h : T.alike a b = true) : T.unlike a b = T.unlikeL a.l b.l := by
  obtain ⟨k, n, s, l⟩ := a
  rw [T.unlike, if_pos h]; rfl
theorem unlike_pairT {a b : T} (h : ¬ T.alike a b = true) (h' : ¬ (a.k ≠ 1 ∧ T.same a b = true)) : T.unlike a b = [(a, b)] := by
  obtain ⟨k, n, s, l⟩ := a
  rw [T.unlike, if_neg h]
  exact if_neg h'
theorem unlikeL_mem : ∀ (l m : List T) (i : Nat) (h : i < l.length) (h' : i < m.length) (p : T × T), p ∈ T.unlike l[i] m[i] → p ∈ T.unlikeL l m
  | x :: xs, y :: ys, 0, _, _, p, hp => by rw [T.unlikeL]; exact List.mem_append_left _ hp
  | x :: xs, y :: ys, i + 1, h, h', p, hp => by
    rw [T.unlikeL]
    exact List.mem_append_right _ (unlikeL_mem xs ys i (by simpa using h) (by simpa using h') p hp)
theorem twin_same {a b : T} {p : T × T} (ha : a.formed = true) (hb : b.formed = true) (hp : p.1.formed = true ∧ p.2.formed = true) : T.twin a b p = (T.same p.1 a && T.same p.2 b) := by
  rw [Bool.eq_iff_iff, twin_iff ha hb hp, Bool.and_eq_true, same_iff, same_iff, Prod.ext_iff]
theorem nth_seek {E : List (T × T)} {a b : T} (ha : a.formed = true) (hb : b.formed = true) (hE : PureP E) (h : 0 ≤ nthT E a b) : nthT E a b = (seekP E a b : Nat) ∧ (a, b) ∈ E := by
  have hcong : E.findIdx? (fun p => T.same p.1 a && T.same p.2 b) = E.findIdx? (T.twin a b) := by
    have : ∀ L : List (T × T), (∀ p ∈ L, p ∈ E) → L.findIdx? (fun p => T.same p.1 a && T.same p.2 b) = L.findIdx? (T.twin a b) := by
      intro L
      induction L with
      | nil => intro _; rfl
      | cons x xs ih =>
        intro hL
        have hx := hE x (hL x (List.mem_cons_self ..))
        rw [List.findIdx?_cons, List.findIdx?_cons, twin_same ha hb ⟨hx.2.2.1, hx.2.2.2⟩, ih fun p hp => hL p (List.mem_cons_of_mem _ hp)]
    exact this E fun _ h => h
  rw [nthT, hcong] at h ⊢
  cases hi : E.findIdx? (T.twin a b) with
  | none => rw [hi] at h; exact absurd h (by show ¬ (0 : Int) ≤ -1; omega)
  | some i =>
    obtain ⟨hil, hp, hmin⟩ := List.findIdx?_eq_some_iff_getElem.1 hi
    have hx := hE _ (List.getElem_mem hil)
    have he := (twin_iff ha hb ⟨hx.2.2.1, hx.2.2.2⟩).1 hp
    refine ⟨?_, by rw [← he]; exact List.getElem_mem hil⟩
    show (i : Int) = _
    rw [seekP]
    congr 1
    rw [eq_comm, List.findIdx_eq hil]
    exact ⟨hp, fun j hj => by have := hmin j hj; simpa using this⟩
theorem nth_out {E : List (T × T)} {a b : T} (h : ¬ 0 ≤ nthT E a b) : (a, b) ∉ E := fun hm => by
  rw [nthT] at h
  cases hi : E.findIdx? (fun p => T.same p.1 a && T.same p.2 b) with
  | none =>
    have := List.findIdx?_eq_none_iff.1 hi (a, b) hm
    have e1 := (same_iff a a).2 rfl
    have e2 := (same_iff b b).2 rfl
    rw [e1, e2] at this
    cases this
  | some i => rw [hi] at h; exact h (by show (0 : Int) ≤ i; omega)
theorem nth_range (E : List (T × T)) (a b : T) : -1 ≤ nthT E a b ∧ nthT E a b < E.length + 1 := by
  rw [nthT]
  cases hi : E.findIdx? (fun p => T.same p.1 a && T.same p.2 b) with
  | none => exact ⟨by show (-1 : Int) ≤ -1; omega, by show (-1 : Int) < _; omega⟩
  | some i =>
    obtain ⟨hil, -⟩ := List.findIdx?_eq_some_iff_getElem.1 hi
    exact ⟨by show (-1 : Int) ≤ i; omega, by show (i : Int) < _; omega⟩
theorem genF_var {E : List (T × T)} {a b : T} (h : ¬ T.alike a b = true) (h' : ¬ (a.k ≠ 1 ∧ T.order a b = 0)) : T.genF E a b = varT (seekP E a b) := by
  obtain ⟨k, n, s, l⟩ := a
  rw [T.genF, if_neg h]
  exact if_neg h'
/-- Where the pair is not in the list, and all pairs of the two are, laid goes part by part. -/
theorem laid_parts {E : List (T × T)} {a b : T} (fa : a.formed = true) (fb : b.formed = true) (hn : (a, b) ∉ E) (hc : ∀ p ∈ T.unlike a b, p ∈ E) :
    a.l.length ≤ b.l.length ∧ T.genF E a b = .mk a.k a.n a.s (T.genFL E a.l b.l) ∧ ∀ (i : Nat) (h : i < a.l.length) (h' : i < b.l.length), ∀ p ∈ T.unlike a.l[i] b.l[i], p ∈ E := by
  by_cases h4 : T.alike a b = true
  · have h4' := h4
    rw [unlike_alikeT h4] at hc
    obtain ⟨k, n, s, l⟩ := a
    rw [T.alike] at h4'
    simp only [Bool.and_eq_true, decide_eq_true_iff] at h4'
    obtain ⟨e1, e2, e3, e4⟩ := h4'
    obtain rfl : k = 4 := e1
    obtain rfl := formed_four fa
    refine ⟨Nat.le_of_eq e4, ?_, fun i h h' p hp => hc p (unlikeL_mem _ _ i h h' p hp)⟩
    rw [T.genF, if_pos h4]
    rfl
  · by_cases hs : a.k ≠ 1 ∧ T.same a b = true
    · have hab : a = b := (same_iff _ _).1 hs.2
      subst hab
      obtain ⟨k, n, s, l⟩ := a
      have hk : k ≠ 4 := fun h => h4 (by simp [T.alike, T.k, h])
      have hl : l = [] := by
        rcases formed_args fa with ⟨h, _⟩ | ⟨_, h⟩
        · exact absurd h hk
        · exact h
      subst hl
      refine ⟨Nat.le_refl _, ?_, fun i h => absurd h (Nat.not_lt_zero i)⟩
      rw [T.genF, if_neg h4, if_pos ⟨hs.1, (order_zero _ _ fa fb).2 rfl⟩, T.genFL]
      · rfl
      · intro _ _ _ _ h; cases h
    · exact absurd (hc _ (by rw [unlike_pairT h4 hs]; exact List.mem_cons_self ..)) hn
theorem laid_found {E : List (T × T)} {a b : T} (fa : a.formed = true) (fb : b.formed = true) (hE : PureP E) (hm : (a, b) ∈ E) : T.genF E a b = varT (seekP E a b) := by
  obtain ⟨h1, h2, -, -⟩ := hE _ hm
  exact genF_var h1 fun h => h2 ⟨h.1, (same_iff _ _).2 ((order_zero _ _ fa fb).1 h.2)⟩
theorem genFL_step (E : List (T × T)) : ∀ (l m : List T) (k : Nat) (h : k < l.length) (h' : k < m.length), (T.genFL E l m).take (k + 1) = (T.genFL E l m).take k ++ [T.genF E l[k] m[k]]
  | x :: xs, y :: ys, 0, _, _ => by rw [T.genFL]; rfl
  | x :: xs, y :: ys, k + 1, h, h' => by
    rw [T.genFL, List.take_succ_cons, List.take_succ_cons, genFL_step E xs ys k (by simpa using h) (by simpa using h')]
    rfl
theorem genFL_len (E : List (T × T)) : ∀ (l m : List T), l.length ≤ m.length → (T.genFL E l m).length = l.length
  | [], m, _ => by
    rw [T.genFL]
    intro _ _ _ _ h; cases h
  | x :: xs, [], h => by simp at h
  | x :: xs, y :: ys, h => by rw [T.genFL, List.length_cons, List.length_cons, genFL_len E xs ys (by simpa using h)]
def laidOf (a : Tm) : Prop := ∀ (b : Tm) (p : Option Addr) (c : Nat) (l : List Pr) (w : World), a.In w → b.In w → a.erase.formed = true → b.erase.formed = true → (Prs.mk p c l).In w → PureP (seePrs l) → (∀ q ∈ T.unlike a.erase b.erase, q ∈ seePrs l) →
  Calls Try.prog 158 #[a.val, b.val, .slice p l.length c] w (RetTm (w.heap.size ≤ ·) (T.genF (seePrs l) a.erase b.erase) w)

set_option maxHeartbeats 4000000 in
set_option maxRecDepth 100000 in
theorem laid_step (a : Tm) (ih : ∀ x ∈ a.l, laidOf x) : laidOf a := by
  intro b p c l w ia ib fa fb hl hE hcov
  have Ia := Lib.hid ia
  have Ib := Lib.hid ib
  have Fa := Lib.hid fa
  have Fb := Lib.hid fb
  have HL := Lib.hid hl
  have HE := Lib.hid hE
  have Hih := Lib.hid ih
  have hll := hl.2.1.1
  simp only at hll
  have hnth := Lib.hid (fun (w' : World) (g : Gr w w') => show Calls Try.prog 157 #[.slice p l.length c, .agg #[.int .i64 a.k, .int .i64 a.n, .string a.s, .slice a.p a.l.length a.c], .agg #[.int .i64 b.k, .int .i64 b.n, .string b.s, .slice b.p b.l.length b.c]] w' _ from nth_calls p c l a b w' (hl.mono g) (Tm.In_below g ia) (Tm.In_below g ib))
  have hrg := nth_range (seePrs l) a.erase b.erase
  rw [show (seePrs l).length = l.length from List.length_map ..] at hrg
  have hyes : 0 ≤ nthT (seePrs l) a.erase b.erase → T.genF (seePrs l) a.erase b.erase = varT (nthT (seePrs l) a.erase b.erase) := fun h => by
    obtain ⟨h1, h2⟩ := nth_seek fa fb hE h
    rw [h1, laid_found fa fb hE h2]
  have hno : ¬ 0 ≤ nthT (seePrs l) a.erase b.erase → a.l.length ≤ b.l.length ∧ T.genF (seePrs l) a.erase b.erase = .mk a.k a.n a.s.toList (T.genFL (seePrs l) (Tm.eraseL a.l) (Tm.eraseL b.l)) ∧ ∀ (i : Nat) (h : i < a.l.length) (h' : i < b.l.length), ∀ q ∈ T.unlike a.l[i].erase b.l[i].erase, q ∈ seePrs l := fun h => by
    obtain ⟨h1, h2, h3⟩ := laid_parts fa fb (nth_out h) hcov
    obtain ⟨e1, e2, e3, e4⟩ := erase_parts a
    obtain ⟨f1, f2, f3, f4⟩ := erase_parts b
    refine ⟨by rw [← e4, ← f4]; exact h1, by rw [h2, e1, e2, e3, erase_ls, erase_ls], fun i hi hi' q hq => ?_⟩
    have hi2 : i < a.erase.l.length := by rw [e4]; exact hi
    have hi3 : i < b.erase.l.length := by rw [f4]; exact hi'
    refine h3 i hi2 hi3 q ?_
    have g1 : a.erase.l[i] = a.l[i].erase := by simp only [erase_ls a, eraseL_nth a.l i _ hi]
    have g2 : b.erase.l[i] = b.l[i].erase := by simp only [erase_ls b, eraseL_nth b.l i _ hi']
    rw [g1, g2]; exact hq
  have Hyes := Lib.hid hyes
  have Hno := Lib.hid hno
  have hR : Hid (∀ (g : Tm) w', g.In w' → g.erase = T.genF (seePrs l) a.erase b.erase → Gr w w' → g.On (w.heap.size ≤ ·) → RetTm (w.heap.size ≤ ·) (T.genF (seePrs l) a.erase b.erase) w (.returned g.val) w') := fun g w' h1 h2 h3 h4 => ⟨g, h1, h2, rfl, h3, h4⟩
  generalize RetTm (w.heap.size ≤ ·) (T.genF (seePrs l) a.erase b.erase) w = Q at hR ⊢
  clear ia ib fa fb hl hE hcov ih hyes hno
  generalize hN : nthT (seePrs l) a.erase b.erase = N at *
  clear hN
  rw [show a.val = .agg #[.int .i64 a.k, .int .i64 a.n, .string a.s, .slice a.p a.l.length a.c] from rfl, show b.val = .agg #[.int .i64 b.k, .int .i64 b.n, .string b.s, .slice b.p b.l.length b.c] from rfl]
  go_enter Try.func158, Try.ntmps158
  try simp only [List.append_eq, List.cons_append, List.nil_append]
  go_upto_region 1 with fail
  obtain ⟨h3, h4, h5, gA⟩ := three_blocks w (.int .i64 a.k) (.int .i64 a.n) (.string a.s) (.slice a.p a.l.length a.c) (.int .i64 b.k) (.int .i64 b.n) (.string b.s) (.slice b.p b.l.length b.c) (.int .i64 0) (.int .i64 0) (.string ⟨#[]⟩) (.slice none 0 0)
  have sA : (((w.alloc (.cells #[.int .i64 a.k, .int .i64 a.n, .string a.s, .slice a.p a.l.length a.c] 25)).alloc (.cells #[.int .i64 b.k, .int .i64 b.n, .string b.s, .slice b.p b.l.length b.c] 25)).alloc (.cells #[.int .i64 0, .int .i64 0, .string ⟨#[]⟩, .slice none 0 0] 25)).heap.size = w.heap.size + 3 := by simp
  generalize (((w.alloc (.cells #[.int .i64 a.k, .int .i64 a.n, .string a.s, .slice a.p a.l.length a.c] 25)).alloc (.cells #[.int .i64 b.k, .int .i64 b.n, .string b.s, .slice b.p b.l.length b.c] 25)).alloc (.cells #[.int .i64 0, .int .i64 0, .string ⟨#[]⟩, .slice none 0 0] 25)) = wA at *
  have SA := Lib.hid sA
  clear sA
  obtain ⟨⟨x0, x1, x2, x3⟩, _, _⟩ := h3.out.parts
  obtain ⟨⟨y0, y1, y2, y3⟩, _, _⟩ := h4.out.parts
  have Hn := Lib.hid (hnth.out wA gA)
  go_wp2_with fail
  refine Hn.out.mono ?_
  rintro e w1 ⟨rfl, g1⟩
  replace g1 : Gr wA w1 := g1
  have gw1 : Gr w w1 := gA.trans g1
  clear x0 x1 x2 x3 y0 y1 y2 y3 Hn hnth
  by_cases hN0 : 0 ≤ N
  · have hg := Hyes.out hN0
    have hV := Lib.hid (rV_calls N w1 ⟨by omega, by omega⟩)
    obtain ⟨n', rfl⟩ : ∃ n' : Nat, N = n' := ⟨N.toNat, by omega⟩
    go_wp2_with fail
    refine hV.out.mono ?_
    rintro e w2 ⟨rfl, g2⟩
    replace g2 : Gr w1 w2 := g2
    obtain ⟨⟨z0, z1, z2, z3⟩, ⟨r0, r1, r2, r3⟩, _⟩ := (h5.out.gr (g1.trans g2)).parts
    have gw2 : Gr w w2 := gw1.trans g2
    have kk := Kp.sets (C := (· = w.heap.size + 2)) (w := w2) (b := w.heap.size + 2) rfl (.int .i64 1) (.int .i64 n') (.string ⟨#[]⟩) (.slice none 0 0)
    have Hb := Lib.hid (hR.out (varTm n') _ (varTm_in ⟨by omega, by omega⟩ _) (by rw [varTm_erase, hg]) (Below.trans gw2 (kk.below (B := w.heap.size) (fun b hb => by omega) gw2.size)) (varTm_on _))
    clear kk hg
    go_wp2_with fail
    exact bodyPost_ret (v := (varTm n').val) (by simp (maxDischargeDepth := 9) [results, Try.results158, go_sem, varTm, Tm.val, Tm.k, Tm.n, Tm.s, Tm.p, Tm.c, Tm.l, z0, z1, z2, z3]) rfl Hb.out
  · obtain ⟨hle, hgF, hcv⟩ := Hno.out (by omega)
    have Hcv := Lib.hid hcv
    have hlen := genFL_len (seePrs l) (Tm.eraseL a.l) (Tm.eraseL b.l) (by rw [Tm.eraseL_length, Tm.eraseL_length]; exact hle)
    rw [Tm.eraseL_length] at hlen
    have hst : ∀ (k : Nat) (h : k < a.l.length) (h' : k < b.l.length), (T.genFL (seePrs l) (Tm.eraseL a.l) (Tm.eraseL b.l)).take (k + 1) = (T.genFL (seePrs l) (Tm.eraseL a.l) (Tm.eraseL b.l)).take k ++ [T.genF (seePrs l) a.l[k].erase b.l[k].erase] := fun k h h' => by
      have := genFL_step (seePrs l) (Tm.eraseL a.l) (Tm.eraseL b.l) k (by rw [Tm.eraseL_length]; exact h) (by rw [Tm.eraseL_length]; exact h')
      rw [eraseL_nth a.l k _ h, eraseL_nth b.l k _ h'] at this
      exact this
    rw [hgF] at hR
    generalize hM : T.genFL (seePrs l) (Tm.eraseL a.l) (Tm.eraseL b.l) = M at *
    have HM := Lib.hid hlen
    have Hst0 := Lib.hid hst
    clear hM hlen hst hcv hgF Hyes Hno hrg
    obtain ⟨ak, an, as', pa, ca, la⟩ := a
    obtain ⟨bk, bn, bs', pb, cb, lb⟩ := b
    simp only [Tm.k, Tm.n, Tm.s, Tm.p, Tm.c, Tm.l] at *
    have hI0 := Ia.out
    rw [Tm.In] at hI0
    have Hk := Lib.hid hI0.1
    have Hnn := Lib.hid hI0.2.1
    have Hs := Lib.hid hI0.2.2.1
    have hlc := hI0.2.2.2.1
    have hlb := hI0.2.2.2.2.1
    have hI1 := Ib.out
    rw [Tm.In] at hI1
    have hlc' := hI1.2.2.2.1
    have hlb' := hI1.2.2.2.2.1
    have Hfa := Lib.hid (show T.formedL (Tm.eraseL la) = true by have := formed_args' Fa.out; rw [Tm.erase] at this; exact this)
    have Hfb := Lib.hid (show T.formedL (Tm.eraseL lb) = true by have := formed_args' Fb.out; rw [Tm.erase] at this; exact this)
    clear hI0 hI1
    go_wp2_with fail
    go_loopg [8, 9] la.length (fun m v0 i wr => ∃ (k : Nat) (v : Value), v = v0 ∧ k ≤ la.length ∧ m = la.length - k ∧ i = .int .i64 k ∧
      Hid (∃ lm : List Tm, lm.length = k ∧ Tm.eraseL lm = M.take k ∧ Built wr (w.heap.size + 3) (fun _ => False) v lm) ∧
      Hid (Blk4 wr w.heap.size (.int .i64 ak) (.int .i64 an) (.string as') (.slice pa la.length ca) ∧ Blk4 wr (w.heap.size + 1) (.int .i64 bk) (.int .i64 bn) (.string bs') (.slice pb lb.length cb) ∧ Blk4 wr (w.heap.size + 2) (.int .i64 0) (.int .i64 0) (.string ⟨#[]⟩) (.slice none 0 0)) ∧ Gr w wr ∧ w.heap.size + 3 ≤ wr.heap.size)
    case atStart => exact ⟨0, _, rfl, Nat.zero_le _, rfl, rfl, ⟨[], rfl, by rw [Tm.eraseL, List.take_zero], Built.nil _ _ _⟩, ⟨h3.out.gr g1, h4.out.gr g1, h5.out.gr g1⟩, gw1, by have := SA.out; have := g1.size; omega⟩
    case round =>
      obtain ⟨k, v, rfl, hk, rfl, rfl, hlm, hbb, gr, hws⟩ := hrel
      obtain ⟨⟨x0, x1, x2, x3⟩, ⟨e0, e1, e2, e3⟩, _⟩ := hbb.out.1.parts
      obtain ⟨⟨y0, y1, y2, y3⟩, _, _⟩ := hbb.out.2.1.parts
      by_cases hlt : k < la.length
      · have hlt' : k < lb.length := by omega
        obtain ⟨b1, o1, rfl⟩ := Ia.out.sl.ptr (by omega)
        obtain ⟨b2, o2, rfl⟩ := Ib.out.sl.ptr (by omega)
        obtain ⟨⟨c0, c1, c2, c3⟩, hxa, _⟩ := (Ia.out.sl.mono gr).elem k hlt
        obtain ⟨⟨d0, d1, d2, d3⟩, hxb, _⟩ := (Ib.out.sl.mono gr).elem k hlt'
        obtain ⟨lm, hl0, he0, hF⟩ := hlm.out
        have HF := Lib.hid hF
        have Hvf := Lib.hid hF.1.lt
        have He0 := Lib.hid he0
        have Hst := Lib.hid (Hst0.out k hlt hlt')
        have Hc := Lib.hid (fun (w' : World) (g : Gr wr w') => Hih.out _ (List.getElem_mem hlt) lb[k] p c l w' (Tm.In_below g hxa) (Tm.In_below g hxb) (formedL_nth la k hlt Hfa.out) (formedL_nth lb k hlt' Hfb.out) (HL.out.mono (gr.trans g)) HE.out (Hcv.out k hlt hlt'))
        clear hF he0 hlm hxa hxb
        generalize la[k] = x at *
        generalize lb[k] = y at *
        rw [show x.val = .agg #[.int .i64 x.k, .int .i64 x.n, .string x.s, .slice x.p x.l.length x.c] from rfl, show y.val = .agg #[.int .i64 y.k, .int .i64 y.n, .string y.s, .slice y.p y.l.length y.c] from rfl] at Hc
        go_upto_region 8 with fail
        refine wp_region_rely_tail 14 [fx v, fx (.pointer (some ⟨w.heap.size, 3, none⟩)), fx (.slice (some ⟨b1, o1, none⟩) la.length ca), fx (.int .i64 k), fx (.pointer (some ⟨b1, o1 + k * 4, none⟩)), fx (.agg #[.int .i64 x.k, .int .i64 x.n, .string x.s, .slice x.p x.l.length x.c]), fx (.pointer (some ⟨w.heap.size + 1, 3, none⟩)), fx (.slice (some ⟨b2, o2, none⟩) lb.length cb), fx (.int .i64 k), fx (.pointer (some ⟨b2, o2 + k * 4, none⟩)), fx (.agg #[.int .i64 y.k, .int .i64 y.n, .string y.s, .slice y.p y.l.length y.c]), fx (.slice p l.length c), tmIs (fun b => wr.heap.size ≤ b) (T.genF (seePrs l) x.erase y.erase), oneNewT wr.heap.size (fun b => wr.heap.size ≤ b) (T.genF (seePrs l) x.erase y.erase)]
          (by kernel_rfl) (by kernel_rfl) (by decide) (by repeat (first | exact Stable.nil | refine Stable.fix ?_ | refine Stable.cons tmIs_stable ?_ | refine Stable.cons oneNewT_stable ?_)) ?_ ?_
        · refine ⟨?_, ?_, ?_, ?_, ?_, ?_, ?_, ?_, ?_, ?_, ?_, ?_, ?a12, ?a13, trivial⟩
          case a12 =>
            intro a0 wz hg hold
            have h2' : a0.tmps[2]?.getD undef = .slice p l.length c := hold 2 rfl
            have h3' : a0.tmps[3]?.getD undef = .pointer (some ⟨w.heap.size, 0, none⟩) := hold 3 rfl
            have h4' : a0.tmps[4]?.getD undef = .pointer (some ⟨w.heap.size + 1, 0, none⟩) := hold 4 rfl
            have h8' : a0.tmps[8]?.getD undef = v := hold 8 rfl
            have h9' : a0.tmps[9]?.getD undef = .int .i64 k := hold 9 rfl
            have zc0 := Gr.at hg c0
            have zc1 := Gr.at hg c1
            have zc2 := Gr.at hg c2
            have zc3 := Gr.at hg c3
            have zd0 := Gr.at hg d0
            have zd1 := Gr.at hg d1
            have zd2 := Gr.at hg d2
            have zd3 := Gr.at hg d3
            have zx3 := Gr.at hg x3
            have zy3 := Gr.at hg y3
            have Hg := Lib.hid hg
            clear hold c0 c1 c2 c3 d0 d1 d2 d3 x3 y3
            have Hcc := Lib.hid (Hc.out wz Hg.out)
            simp [predsImp, Region.binds, dstAt, fx]
            intros
            rename_i K hK
            go_simp
            refine Hcc.out.mono ?_
            rintro e w9 ⟨bm, i1, i2, rfl, ib, i3⟩
            exact hK _ _ ⟨bm, rfl, i1, i2, i3.mono fun b hb => Nat.le_trans Hg.out.size hb⟩ ib
          case a13 =>
            intro a0 wz hg hold
            have h2' : a0.tmps[2]?.getD undef = .slice p l.length c := hold 2 rfl
            have h3' : a0.tmps[3]?.getD undef = .pointer (some ⟨w.heap.size, 0, none⟩) := hold 3 rfl
            have h4' : a0.tmps[4]?.getD undef = .pointer (some ⟨w.heap.size + 1, 0, none⟩) := hold 4 rfl
            have h8' : a0.tmps[8]?.getD undef = v := hold 8 rfl
            have h9' : a0.tmps[9]?.getD undef = .int .i64 k := hold 9 rfl
            have zc0 := Gr.at hg c0
            have zc1 := Gr.at hg c1
            have zc2 := Gr.at hg c2
            have zc3 := Gr.at hg c3
            have zd0 := Gr.at hg d0
            have zd1 := Gr.at hg d1
            have zd2 := Gr.at hg d2
            have zd3 := Gr.at hg d3
            have zx3 := Gr.at hg x3
            have zy3 := Gr.at hg y3
            have Hg := Lib.hid hg
            clear hold c0 c1 c2 c3 d0 d1 d2 d3 x3 y3
            simp [predsImp, Region.binds, dstAt]
            rintro ⟨q, hq, i1, i2, i3⟩ K hK
            rw [show q.val = .agg #[.int .i64 q.k, .int .i64 q.n, .string q.s, .slice q.p q.l.length q.c] from rfl] at hq
            go_simp
            exact hK _ _ ⟨_, q, rfl, Hg.out.size, Blk4.new _ _ _ _ _, Tm.In_below (by go_grown) i1, i2, i3⟩ (by go_grown)
          all_goals
            intro a0 wz hg hold
            have h2' : a0.tmps[2]?.getD undef = .slice p l.length c := hold 2 rfl
            have h3' : a0.tmps[3]?.getD undef = .pointer (some ⟨w.heap.size, 0, none⟩) := hold 3 rfl
            have h4' : a0.tmps[4]?.getD undef = .pointer (some ⟨w.heap.size + 1, 0, none⟩) := hold 4 rfl
            have h8' : a0.tmps[8]?.getD undef = v := hold 8 rfl
            have h9' : a0.tmps[9]?.getD undef = .int .i64 k := hold 9 rfl
            have zc0 := Gr.at hg c0
            have zc1 := Gr.at hg c1
            have zc2 := Gr.at hg c2
            have zc3 := Gr.at hg c3
            have zd0 := Gr.at hg d0
            have zd1 := Gr.at hg d1
            have zd2 := Gr.at hg d2
            have zd3 := Gr.at hg d3
            have zx3 := Gr.at hg x3
            have zy3 := Gr.at hg y3
            have Hg := Lib.hid hg
            clear hold c0 c1 c2 c3 d0 d1 d2 d3 x3 y3
            simp [predsImp, Region.binds, dstAt, fx]
            intros
            first
              | (rw [if_pos (by simp [*])]
                 intro K hK)
              | (rename_i K hK)
            go_simp
          all_goals exact hK _ _ rfl (Gr.rfl' _)
        · intro w9 hg
          rintro v rfl _ rfl _ rfl _ rfl _ rfl _ rfl _ rfl _ rfl _ rfl _ rfl _ rfl _ rfl _ ⟨_, rfl, _, _, _⟩ _ ⟨B1, q, rfl, hB1, hblk, i1, i2, i3⟩
          simp only [finAll, Act.put, List.setIfInBounds_toArray, List.set_cons_succ, List.set_cons_zero, List.drop_succ_cons, List.drop_zero, List.take_zero]
          clear x0 x1 x2 x3 e0 e1 e2 e3 y0 y1 y2 y3 c0 c1 c2 c3 d0 d1 d2 d3
          have hs9 : wr.heap.size ≤ w9.heap.size := hg.size
          obtain ⟨⟨q0, q1, q2, q3⟩, _, _⟩ := hblk.parts
          have hqo : q.On (fun b => (False ∨ w.heap.size + 3 ≤ b) ∧ v.ownBlock ≠ some b) := i3.mono fun b hb => by
            refine ⟨.inr (by omega), fun e => ?_⟩
            have h1 := Hvf.out b e
            omega
          refine wpList_append_term rfl _ _ rfl rfl (w.heap.size + 3) (fun _ => False) _ lm q B1 1 (by rfl) (by rfl) (HF.out.gr hg) (by omega) i1 hqo (by omega) q0 q1 q2 q3 ?_
          intro v' w6 hbt hbel _
          have hg6 : Below (w.heap.size + 3) wr w6 := Below.trans (hg.mono hws) hbel
          have hb2 := And.intro (hbb.out.1.below hg6 (by omega)) (And.intro (hbb.out.2.1.below hg6 (by omega)) (hbb.out.2.2.below hg6 (by omega)))
          have HB2 := Lib.hid hb2
          have hes : Tm.eraseL (lm ++ [q]) = M.take (k + 1) := by rw [eraseL_append, He0.out, Hst.out, ← i2]; simp [Tm.eraseL]
          have Hes := Lib.hid hes
          clear hb2 hes i1 i2 i3 hblk q0 q1 q2 q3 hqo
          go_wp2_with fail
          go_roundg (la.length - (k + 1))
          case measure => omega
          case rel => exact ⟨k + 1, _, rfl, by omega, rfl, by go_num, ⟨lm ++ [q], by rw [List.length_append, hl0]; rfl, Hes.out, hbt⟩, HB2, Below.trans gr (hg6.mono (by omega)), by have := hg6.size; omega⟩
      · obtain rfl : k = la.length := by omega
        obtain ⟨lm, hl0, he0, hF⟩ := hlm.out
        obtain ⟨pv, cv, rfl, hcv1, hcv2⟩ := hF.form
        have hsl := hF.sl (by rw [hl0]; exact hlb.1)
        have hin : (Tm.mk ak an as' pv cv lm).In wr := by
          rw [Tm.In]
          exact ⟨Hk.out, Hnn.out, Hs.out, hsl.2.1.1, hsl.2.1.2.1, hsl.2.1.2.2.1, hsl.2.1.2.2.2⟩
        have hon : (Tm.mk ak an as' pv cv lm).On (fun b => False ∨ w.heap.size + 3 ≤ b) := by rw [Tm.On]; exact hsl.2.2
        obtain ⟨⟨z0, z1, z2, z3⟩, ⟨r0, r1, r2, r3⟩, _⟩ := hbb.out.2.2.parts
        have hkp : ∀ W, Kp (fun b => b = w.heap.size ∨ b = w.heap.size + 2) wr W → Q (.returned (Tm.mk ak an as' pv cv lm).val) W := fun W hK =>
          hR.out _ W (kp_in hin hon (fun b hb e => by rcases hb with h | h; · exact h
                                                      · omega) hK) (by rw [Tm.erase, he0, List.take_of_length_le (by rw [HM.out]; exact Nat.le_refl _)]) (Below.trans gr (hK.below (B := w.heap.size) (fun b hb => by omega) gr.size)) (hon.mono fun b hb => by have := hb.resolve_left id; omega)
        have Hkp := Lib.hid hkp
        clear hkp hin hon hsl hF he0 hlm y0 y1 y2 y3
        go_wp2_with fail
        refine bodyPost_ret (v := (Tm.mk ak an as' pv cv lm).val) (by simp (maxDischargeDepth := 9) [results, Try.results158, go_sem, Tm.val, Tm.k, Tm.n, Tm.s, Tm.p, Tm.c, Tm.l, z0, z1, z2, z3, hl0]) rfl ?_
        exact Hkp.out _ ((Kp.set (C := fun b => b = w.heap.size ∨ b = w.heap.size + 2) (.inl rfl)).trans (Kp.sets (C := fun b => b = w.heap.size ∨ b = w.heap.size + 2) (.inr rfl) _ _ _ _))
theorem laid_any (N : Nat) : ∀ a : Tm, SizeOf.sizeOf a ≤ N → laidOf a := by
  induction N with
  | zero => intro a h; cases a; simp at h
  | succ N ih =>
    intro a hN
    refine laid_step a fun x hx => ih x ?_
    obtain ⟨k, n, s, p, c, l⟩ := a
    have := Tm.sizeOf_mem (show x ∈ l from hx) k n s p c
    omega
end Go.Proofs.Ytcblmkhhhibddaa
