/-
  Grammars: what a body is between two terms, what a grammar's rule is as a clause (no program here).
  An argument of type api.Term that can be read: how many parts it has at most.
  A term's parts in their order, and its variables read off them (no program here).
  term.Parts as an iterator: a term's parts in their order, whatever the loop's body does to its own list.
-/
import Derived.Test.YteonakicoomjkaaGM11
import Derived.Test.YteonakicoomjkaaGM07
import Derived.Test.YteonakicoomjkaaGM02
import Derived.Test.YteonakicoomjkaaRows
import Derived.RangeFuncNested
import Derived.RangeFuncBound
import Derived.RangeFuncCalls
import Derived.RangeFuncLeaves
import Derived.Shelf.Abstract
import Derived.Shelf.RegionOpen
import Derived.WalkKit
import Derived.OwnWalkIn
import Derived.TacticsInMore
import Derived.LoopNIn
import Derived.LoopIn
import Derived.Maps.OwnIn
namespace Go.Proofs.Yteonakicoomjkaa

def sComma : List UInt8 := [44]
def sEqual : List UInt8 := [61]
def sDot : List UInt8 := [46]
def sNil : List UInt8 := [91, 93]
def sCurl : List UInt8 := [123, 125]
def sCut : List UInt8 := [33]
def sNot : List UInt8 := [92, 43]
def sArrow : List UInt8 := [45, 62]
def sSemi : List UInt8 := [59]
def sRule : List UInt8 := [45, 45, 62]

/-- words of a list, with something behind. -/
def T.words : T → T → Option T
  | .mk k n s l, r =>
    if (T.mk k n s l).isOf sNil 0 then some r
    else if (T.mk k n s l).isOf sDot 2 then (match l with
      | [x, y] => (T.words y r).map fun u => compT sDot [x, u]
      | _ => none)
    else none

def T.gcall (res : List UInt8 → Int → Bool) (t a b : T) : Option T :=
  if t.callable then (if 50 < t.l.length + 2 then none else if res t.s ((t.l.length + 2 : Nat) : Int) then none else some (compT t.s (t.l ++ [a, b]))) else none

def eqT (a b : T) : T := compT sEqual [a, b]
def bothT (a b : T) : T := compT sComma [a, b]

/-- The goal that a body is between two terms; m: the next new variable. -/
def T.goal (res : List UInt8 → Int → Bool) : T → T → T → Int → Option (T × Int)
  | .mk k n s l, a, b, m =>
    if k = 1 then some (compT sCallT [.mk k n s l, a, b], m)
    else if k = 2 then none
    else if (T.mk k n s l).isOf sComma 2 || (T.mk k n s l).isOf sArrow 2 then (match l with
      | [x, y] => match T.goal res x a (varT m) (m + 1) with
        | none => none
        | some (u, m1) => match T.goal res y (varT m) b m1 with
          | none => none
          | some (v, m2) => some (compT s [u, v], m2)
      | _ => none)
    else if (T.mk k n s l).isOf sSemi 2 then (match l with
      | [x, y] => match T.goal res x a b m with
        | none => none
        | some (u, m1) => match T.goal res y a b m1 with
          | none => none
          | some (v, m2) => some (compT sSemi [u, v], m2)
      | _ => none)
    else if (T.mk k n s l).isOf sNot 1 then (match l with
      | [x] => match T.goal res x a (varT m) (m + 1) with
        | none => none
        | some (u, m1) => some (bothT (compT sNot [u]) (eqT a b), m1)
      | _ => none)
    else if (T.mk k n s l).isOf sNil 0 || (T.mk k n s l).isOf sCurl 0 then some (eqT a b, m)
    else if (T.mk k n s l).isOf sCurl 1 then (match l with
      | [x] => match T.body x with
        | none => none
        | some u => some (bothT u (eqT a b), m)
      | _ => none)
    else if (T.mk k n s l).isOf sCut 0 then some (bothT (.mk k n s l) (eqT a b), m)
    else if (T.mk k n s l).isOf sDot 2 then (T.words (.mk k n s l) b).map fun u => (eqT a u, m)
    else if s = sCallT ∧ 0 < l.length then (if 8 < l.length + 2 then none else some (compT sCallT (l ++ [a, b]), m))
    else (T.gcall res (.mk k n s l) a b).map fun u => (u, m)

mutual
def T.size : T → Nat
  | .mk _ _ _ l => T.sizeL l + 1
def T.sizeL : List T → Nat
  | [] => 0
  | x :: xs => T.size x + T.sizeL xs
end

theorem fmd_three {s : List UInt8} {x y z : T} (hs : s.length ≤ 100) (hx : x.fmd = true) (hy : y.fmd = true) (hz : z.fmd = true) : (compT s [x, y, z]).fmd = true := by
  rw [compT, T.fmd, T.fmdL, T.fmdL, T.fmdL, T.fmdL]
  simp [hs, hx, hy, hz]
theorem fmd_two {s : List UInt8} {x y : T} (hs : s.length ≤ 100) (hx : x.fmd = true) (hy : y.fmd = true) : (compT s [x, y]).fmd = true := by
  rw [compT, T.fmd, T.fmdL, T.fmdL, T.fmdL]
  simp [hs, hx, hy]
theorem fmd_one {s : List UInt8} {x : T} (hs : s.length ≤ 100) (hx : x.fmd = true) : (compT s [x]).fmd = true := by
  rw [compT, T.fmd, T.fmdL, T.fmdL]
  simp [hs, hx]
theorem fmdL_append : ∀ (l l' : List T), T.fmdL (l ++ l') = (T.fmdL l && T.fmdL l')
  | [], l' => by rw [List.nil_append, T.fmdL, Bool.true_and]
  | x :: xs, l' => by rw [List.cons_append, T.fmdL, T.fmdL, fmdL_append xs l', Bool.and_assoc]
theorem varT_fmd {n : Int} (h : 0 ≤ n ∧ n ≤ 1099515822080) : (varT n).fmd = true := by
  rw [varT, T.fmd]; simp [h.1, h.2]

theorem isOf_one {t : T} {s : List UInt8} (h : t.isOf s 1 = true) : ∃ k n x, t = .mk k n s [x] := by
  obtain ⟨k, n, s', l⟩ := t
  simp only [T.isOf, Bool.and_eq_true] at h
  obtain ⟨⟨_, hs⟩, hl⟩ := h
  obtain rfl : s' = s := of_decide_eq_true hs
  replace hl : (l.length : Int) = 1 := of_decide_eq_true hl
  match l, hl with
  | [x], _ => exact ⟨k, n, x, rfl⟩
  | [], hl => simp at hl
  | _ :: _ :: _, hl => simp at hl; omega
theorem isOf_none {t : T} {s : List UInt8} (h : t.isOf s 0 = true) : ∃ k n, t = .mk k n s [] := by
  obtain ⟨k, n, s', l⟩ := t
  simp only [T.isOf, Bool.and_eq_true] at h
  obtain ⟨⟨_, hs⟩, hl⟩ := h
  obtain rfl : s' = s := of_decide_eq_true hs
  replace hl : (l.length : Int) = 0 := of_decide_eq_true hl
  match l, hl with
  | [], _ => exact ⟨k, n, rfl⟩
  | _ :: _, hl => simp at hl; omega

theorem formed_list {k n : Int} {s : List UInt8} {l : List T} (h : (T.mk k n s l).formed = true) (hk : k = 4) : n = 0 ∧ s.length ≤ 100 ∧ l.length ≤ 50 ∧ T.formedL l = true := by
  subst hk
  rw [T.formed] at h
  simp at h
  exact ⟨h.1.1.1.1, h.1.1.1.2, h.1.2, h.2⟩

theorem words_fmd (N : Nat) : ∀ (t r u : T), SizeOf.sizeOf t ≤ N → t.formed = true → r.fmd = true → T.words t r = some u → u.fmd = true := by
  induction N with
  | zero => intro t r u h; cases t; simp at h
  | succ N ih =>
    intro t r u hN hf hr hw
    obtain ⟨k, n, s, l⟩ := t
    rw [T.words.eq_def] at hw
    simp only at hw
    split at hw
    · cases hw; exact hr
    · split at hw
      · rename_i hd
        obtain ⟨k', n', x, y, he⟩ := isOf_two hd
        cases he
        obtain ⟨_, _, hs, hx, hy⟩ := formed_two_inv hf
        simp only [T.mk.sizeOf_spec, List.cons.sizeOf_spec, List.nil.sizeOf_spec] at hN
        simp only [Option.map_eq_some_iff] at hw
        obtain ⟨v, hv, rfl⟩ := hw
        exact fmd_two (by decide) (fmd_of hx) (ih y r v (by omega) hy hr hv)
      · cases hw

theorem gcall_fmd {res : List UInt8 → Int → Bool} {t a b u : T} (hf : t.formed = true) (ha : a.fmd = true) (hb : b.fmd = true) (h : T.gcall res t a b = some u) : u.fmd = true := by
  rw [T.gcall] at h
  split at h
  · split at h
    · cases h
    · split at h
      · cases h
      · rename_i h1 _
        cases h
        have hsm := formed_small hf
        rw [compT, T.fmd]
        have hl : T.fmdL t.l = true := by
          obtain ⟨k, n, s, l⟩ := t
          rcases formed_args hf with ⟨_, hl⟩ | ⟨_, rfl⟩
          · exact fmdL_of hl
          · show T.fmdL [] = true
            rw [T.fmdL]
        have h2 : T.fmdL (t.l ++ [a, b]) = true := by rw [fmdL_append, hl, T.fmdL, T.fmdL, T.fmdL, ha, hb]; rfl
        simp only [show ¬ (4 : Int) = 1 by decide, show ¬ (4 : Int) = 2 by decide, show ¬ (4 : Int) = 3 by decide, if_false, if_true, h2, Bool.and_eq_true, decide_eq_true_eq, List.length_append, List.length_cons, List.length_nil, and_true, true_and]
        omega
  · cases h

/-! ### The goal, case by case -/
def T.gJoin (t : T) : Bool := t.isOf sComma 2 || t.isOf sArrow 2
def T.gUnit (t : T) : Bool := t.isOf sNil 0 || t.isOf sCurl 0

section
variable {res : List UInt8 → Int → Bool} {k n : Int} {s : List UInt8} {l : List T} {x y a b : T} {m : Int}
theorem goal_var : T.goal res (.mk 1 n s l) a b m = some (compT sCallT [.mk 1 n s l, a, b], m) := by
  rw [T.goal.eq_def]; dsimp only; rw [if_pos rfl]
theorem goal_int : T.goal res (.mk 2 n s l) a b m = none := by
  rw [T.goal.eq_def]; dsimp only; rw [if_neg (by decide), if_pos rfl]
theorem goal_join (h1 : k ≠ 1) (h2 : k ≠ 2) (h3 : (T.mk k n s [x, y]).gJoin = true) : T.goal res (.mk k n s [x, y]) a b m = match T.goal res x a (varT m) (m + 1) with
    | none => none
    | some (u, m1) => match T.goal res y (varT m) b m1 with
      | none => none
      | some (v, m2) => some (compT s [u, v], m2) := by
  rw [T.gJoin] at h3
  rw [T.goal.eq_def]; dsimp only; rw [if_neg h1, if_neg h2, if_pos h3]
theorem goal_semi (h1 : k ≠ 1) (h2 : k ≠ 2) (h3 : (T.mk k n s [x, y]).gJoin = false) (h4 : (T.mk k n s [x, y]).isOf sSemi 2 = true) : T.goal res (.mk k n s [x, y]) a b m = match T.goal res x a b m with
    | none => none
    | some (u, m1) => match T.goal res y a b m1 with
      | none => none
      | some (v, m2) => some (compT sSemi [u, v], m2) := by
  rw [T.gJoin] at h3
  rw [T.goal.eq_def]; dsimp only; rw [if_neg h1, if_neg h2, if_neg (by rw [h3]; decide), if_pos h4]
theorem goal_not (h1 : k ≠ 1) (h2 : k ≠ 2) (h3 : (T.mk k n s [x]).gJoin = false) (h4 : (T.mk k n s [x]).isOf sSemi 2 = false) (h5 : (T.mk k n s [x]).isOf sNot 1 = true) :
    T.goal res (.mk k n s [x]) a b m = match T.goal res x a (varT m) (m + 1) with
    | none => none
    | some (u, m1) => some (bothT (compT sNot [u]) (eqT a b), m1) := by
  rw [T.gJoin] at h3
  rw [T.goal.eq_def]; dsimp only; rw [if_neg h1, if_neg h2, if_neg (by rw [h3]; decide), if_neg (by rw [h4]; decide), if_pos h5]
theorem goal_unit (h1 : k ≠ 1) (h2 : k ≠ 2) (h3 : (T.mk k n s l).gJoin = false) (h4 : (T.mk k n s l).isOf sSemi 2 = false) (h5 : (T.mk k n s l).isOf sNot 1 = false) (h6 : (T.mk k n s l).gUnit = true) :
    T.goal res (.mk k n s l) a b m = some (eqT a b, m) := by
  rw [T.gJoin] at h3
  rw [T.gUnit] at h6
  rw [T.goal.eq_def]; dsimp only; rw [if_neg h1, if_neg h2, if_neg (by rw [h3]; decide), if_neg (by rw [h4]; decide), if_neg (by rw [h5]; decide), if_pos h6]
theorem goal_curl (h1 : k ≠ 1) (h2 : k ≠ 2) (h3 : (T.mk k n s [x]).gJoin = false) (h4 : (T.mk k n s [x]).isOf sSemi 2 = false) (h5 : (T.mk k n s [x]).isOf sNot 1 = false) (h6 : (T.mk k n s [x]).gUnit = false)
    (h7 : (T.mk k n s [x]).isOf sCurl 1 = true) : T.goal res (.mk k n s [x]) a b m = match T.body x with
      | none => none
      | some u => some (bothT u (eqT a b), m) := by
  rw [T.gJoin] at h3
  rw [T.gUnit] at h6
  rw [T.goal.eq_def]; dsimp only; rw [if_neg h1, if_neg h2, if_neg (by rw [h3]; decide), if_neg (by rw [h4]; decide), if_neg (by rw [h5]; decide), if_neg (by rw [h6]; decide), if_pos h7]
theorem goal_cut (h1 : k ≠ 1) (h2 : k ≠ 2) (h3 : (T.mk k n s l).gJoin = false) (h4 : (T.mk k n s l).isOf sSemi 2 = false) (h5 : (T.mk k n s l).isOf sNot 1 = false) (h6 : (T.mk k n s l).gUnit = false)
    (h7 : (T.mk k n s l).isOf sCurl 1 = false) (h8 : (T.mk k n s l).isOf sCut 0 = true) : T.goal res (.mk k n s l) a b m = some (bothT (.mk k n s l) (eqT a b), m) := by
  rw [T.gJoin] at h3
  rw [T.gUnit] at h6
  rw [T.goal.eq_def]; dsimp only; rw [if_neg h1, if_neg h2, if_neg (by rw [h3]; decide), if_neg (by rw [h4]; decide), if_neg (by rw [h5]; decide), if_neg (by rw [h6]; decide), if_neg (by rw [h7]; decide), if_pos h8]
theorem goal_dot (h1 : k ≠ 1) (h2 : k ≠ 2) (h3 : (T.mk k n s l).gJoin = false) (h4 : (T.mk k n s l).isOf sSemi 2 = false) (h5 : (T.mk k n s l).isOf sNot 1 = false) (h6 : (T.mk k n s l).gUnit = false)
    (h7 : (T.mk k n s l).isOf sCurl 1 = false) (h8 : (T.mk k n s l).isOf sCut 0 = false) (h9 : (T.mk k n s l).isOf sDot 2 = true) : T.goal res (.mk k n s l) a b m = (T.words (.mk k n s l) b).map fun u => (eqT a u, m) := by
  rw [T.gJoin] at h3
  rw [T.gUnit] at h6
  rw [T.goal.eq_def]; dsimp only; rw [if_neg h1, if_neg h2, if_neg (by rw [h3]; decide), if_neg (by rw [h4]; decide), if_neg (by rw [h5]; decide), if_neg (by rw [h6]; decide), if_neg (by rw [h7]; decide), if_neg (by rw [h8]; decide), if_pos h9]
theorem goal_rest (h1 : k ≠ 1) (h2 : k ≠ 2) (h3 : (T.mk k n s l).gJoin = false) (h4 : (T.mk k n s l).isOf sSemi 2 = false) (h5 : (T.mk k n s l).isOf sNot 1 = false) (h6 : (T.mk k n s l).gUnit = false)
    (h7 : (T.mk k n s l).isOf sCurl 1 = false) (h8 : (T.mk k n s l).isOf sCut 0 = false) (h9 : (T.mk k n s l).isOf sDot 2 = false) :
    T.goal res (.mk k n s l) a b m = if s = sCallT ∧ 0 < l.length then (if 8 < l.length + 2 then none else some (compT sCallT (l ++ [a, b]), m)) else (T.gcall res (.mk k n s l) a b).map fun u => (u, m) := by
  rw [T.gJoin] at h3
  rw [T.gUnit] at h6
  rw [T.goal.eq_def]; dsimp only; rw [if_neg h1, if_neg h2, if_neg (by rw [h3]; decide), if_neg (by rw [h4]; decide), if_neg (by rw [h5]; decide), if_neg (by rw [h6]; decide), if_neg (by rw [h7]; decide), if_neg (by rw [h8]; decide), if_neg (by rw [h9]; decide)]
end

theorem gJoin_two {t : T} (h : t.gJoin = true) : ∃ k n s x y, t = .mk k n s [x, y] := by
  rw [T.gJoin, Bool.or_eq_true] at h
  rcases h with h | h
  · obtain ⟨k, n, x, y, rfl⟩ := isOf_two h; exact ⟨_, _, _, _, _, rfl⟩
  · obtain ⟨k, n, x, y, rfl⟩ := isOf_two h; exact ⟨_, _, _, _, _, rfl⟩
theorem formed_one_inv {k n : Int} {s : List UInt8} {x : T} (hf : (T.mk k n s [x]).formed = true) : x.formed = true := by
  rcases formed_args hf with ⟨_, hl⟩ | ⟨_, hl⟩
  · rw [T.formedL, T.formedL, Bool.and_true] at hl; exact hl
  · cases hl

/-- A body's goal is formed, and takes no more new variables than the body has parts. -/
theorem goal_fmd (res : List UInt8 → Int → Bool) (N : Nat) : ∀ (t a b u : T) (m m' : Int), SizeOf.sizeOf t ≤ N → t.formed = true → a.fmd = true → b.fmd = true → 0 ≤ m → m + (t.size : Int) ≤ 1099515822080 →
    T.goal res t a b m = some (u, m') → u.fmd = true ∧ m ≤ m' ∧ m' ≤ m + (t.size : Int) := by
  induction N with
  | zero => intro t a b u m m' h; cases t; simp at h
  | succ N ih =>
    intro t a b u m m' hN hf ha hb hm hsz hg
    obtain ⟨k, n, s, l⟩ := t
    have hq : (eqT a b).fmd = true := fmd_two (by decide) ha hb
    have hpos : 1 ≤ (T.mk k n s l).size := by rw [T.size]; omega
    by_cases h1 : k = 1
    · subst h1
      rw [goal_var] at hg
      cases hg
      exact ⟨fmd_three (by decide) (fmd_of hf) ha hb, Int.le_refl _, by omega⟩
    by_cases h2 : k = 2
    · subst h2
      rw [goal_int] at hg
      cases hg
    cases h3 : (T.mk k n s l).gJoin with
    | true =>
      obtain ⟨_, _, _, x, y, he⟩ := gJoin_two h3
      cases he
      rw [goal_join h1 h2 h3] at hg
      obtain ⟨_, _, hs, hx, hy⟩ := formed_two_inv hf
      simp only [T.mk.sizeOf_spec, List.cons.sizeOf_spec, List.nil.sizeOf_spec] at hN
      rw [T.size, T.sizeL, T.sizeL, T.sizeL] at hsz ⊢
      have hv : (varT m).fmd = true := varT_fmd ⟨hm, by omega⟩
      cases e1 : T.goal res x a (varT m) (m + 1) with
      | none => rw [e1] at hg; cases hg
      | some r1 =>
        obtain ⟨u1, m1⟩ := r1
        rw [e1] at hg
        dsimp only at hg
        obtain ⟨p1, p2, p3⟩ := ih x a (varT m) u1 (m + 1) m1 (by omega) hx ha hv (by omega) (by omega) e1
        cases e2 : T.goal res y (varT m) b m1 with
        | none => rw [e2] at hg; cases hg
        | some r2 =>
          obtain ⟨u2, m2⟩ := r2
          rw [e2] at hg
          obtain ⟨q1, q2, q3⟩ := ih y (varT m) b u2 m1 m2 (by omega) hy hv hb (by omega) (by omega) e2
          cases hg
          exact ⟨fmd_two hs p1 q1, by omega, by omega⟩
    | false =>
    cases h4 : (T.mk k n s l).isOf sSemi 2 with
    | true =>
      obtain ⟨_, _, x, y, he⟩ := isOf_two h4
      cases he
      rw [goal_semi h1 h2 h3 h4] at hg
      obtain ⟨_, _, hs, hx, hy⟩ := formed_two_inv hf
      simp only [T.mk.sizeOf_spec, List.cons.sizeOf_spec, List.nil.sizeOf_spec] at hN
      rw [T.size, T.sizeL, T.sizeL, T.sizeL] at hsz ⊢
      cases e1 : T.goal res x a b m with
      | none => rw [e1] at hg; cases hg
      | some r1 =>
        obtain ⟨u1, m1⟩ := r1
        rw [e1] at hg
        dsimp only at hg
        obtain ⟨p1, p2, p3⟩ := ih x a b u1 m m1 (by omega) hx ha hb (by omega) (by omega) e1
        cases e2 : T.goal res y a b m1 with
        | none => rw [e2] at hg; cases hg
        | some r2 =>
          obtain ⟨u2, m2⟩ := r2
          rw [e2] at hg
          obtain ⟨q1, q2, q3⟩ := ih y a b u2 m1 m2 (by omega) hy ha hb (by omega) (by omega) e2
          cases hg
          exact ⟨fmd_two (by decide) p1 q1, by omega, by omega⟩
    | false =>
    cases h5 : (T.mk k n s l).isOf sNot 1 with
    | true =>
      obtain ⟨_, _, x, he⟩ := isOf_one h5
      cases he
      rw [goal_not h1 h2 h3 h4 h5] at hg
      have hx := formed_one_inv hf
      simp only [T.mk.sizeOf_spec, List.cons.sizeOf_spec, List.nil.sizeOf_spec] at hN
      rw [T.size, T.sizeL, T.sizeL] at hsz ⊢
      have hv : (varT m).fmd = true := varT_fmd ⟨hm, by omega⟩
      cases e1 : T.goal res x a (varT m) (m + 1) with
      | none => rw [e1] at hg; cases hg
      | some r1 =>
        obtain ⟨u1, m1⟩ := r1
        rw [e1] at hg
        obtain ⟨p1, p2, p3⟩ := ih x a (varT m) u1 (m + 1) m1 (by omega) hx ha hv (by omega) (by omega) e1
        cases hg
        exact ⟨fmd_two (by decide) (fmd_one (by decide) p1) hq, by omega, by omega⟩
    | false =>
    cases h6 : (T.mk k n s l).gUnit with
    | true =>
      rw [goal_unit h1 h2 h3 h4 h5 h6] at hg
      cases hg
      exact ⟨hq, Int.le_refl _, by omega⟩
    | false =>
    cases h7 : (T.mk k n s l).isOf sCurl 1 with
    | true =>
      obtain ⟨_, _, x, he⟩ := isOf_one h7
      cases he
      rw [goal_curl h1 h2 h3 h4 h5 h6 h7] at hg
      have hx := formed_one_inv hf
      cases e1 : T.body x with
      | none => rw [e1] at hg; cases hg
      | some v =>
        rw [e1] at hg
        cases hg
        exact ⟨fmd_two (by decide) (fmd_of (body_formed _ x v (Nat.le_refl _) hx e1)) hq, Int.le_refl _, by omega⟩
    | false =>
    cases h8 : (T.mk k n s l).isOf sCut 0 with
    | true =>
      rw [goal_cut h1 h2 h3 h4 h5 h6 h7 h8] at hg
      cases hg
      exact ⟨fmd_two (by decide) (fmd_of hf) hq, Int.le_refl _, by omega⟩
    | false =>
    cases h9 : (T.mk k n s l).isOf sDot 2 with
    | true =>
      rw [goal_dot h1 h2 h3 h4 h5 h6 h7 h8 h9] at hg
      rw [Option.map_eq_some_iff] at hg
      obtain ⟨v, hv, he⟩ := hg
      cases he
      exact ⟨fmd_two (by decide) ha (words_fmd _ _ _ _ (Nat.le_refl _) hf hb hv), Int.le_refl _, by omega⟩
    | false =>
    rw [goal_rest h1 h2 h3 h4 h5 h6 h7 h8 h9] at hg
    by_cases hc : s = sCallT ∧ 0 < l.length
    · rw [if_pos hc] at hg
      by_cases hc8 : 8 < l.length + 2
      · rw [if_pos hc8] at hg; cases hg
      · rw [if_neg hc8] at hg
        cases hg
        have hl : T.fmdL l = true := by
          rcases formed_args hf with ⟨_, hl⟩ | ⟨_, rfl⟩
          · exact fmdL_of hl
          · rw [T.fmdL]
        have h2 : T.fmdL (l ++ [a, b]) = true := by rw [fmdL_append, hl, T.fmdL, T.fmdL, T.fmdL, ha, hb]; rfl
        refine ⟨?_, Int.le_refl _, by omega⟩
        rw [compT, T.fmd, if_neg (by decide), if_neg (by decide), if_neg (by decide), if_pos rfl, h2]
        simp only [Bool.and_eq_true, decide_eq_true_eq, List.length_append, List.length_cons, List.length_nil, and_true, true_and]
        exact ⟨⟨by decide, by omega⟩, by omega⟩
    · rw [if_neg hc, Option.map_eq_some_iff] at hg
      obtain ⟨v, hv, he⟩ := hg
      cases he
      exact ⟨gcall_fmd hf ha hb hv, Int.le_refl _, by omega⟩
end Go.Proofs.Yteonakicoomjkaa

namespace Go.Proofs.Yteonakicoomjkaa
open Go.ChangeShapes Go.WideShapes Go.ChangeAt Go.RowKit Go.Deep

theorem sizeL_le {H : Type} {β : Type} : ∀ {l : List Tm} {es : List (DataW H × β)}, l.length ≤ es.length → (∀ (i : Nat) (x : Tm) (y : DataW H × β), l[i]? = some x → es[i]? = some y → x.erase.size ≤ Rows.uptoBulk y.1) → T.sizeL (Tm.eraseL l) ≤ Rows.uptoBulkAll (es.map Prod.fst)
  | [], _, _, _ => by rw [Tm.eraseL, T.sizeL]; omega
  | x :: xs, [], h, _ => by simp at h
  | x :: xs, y :: ys, h, hp => by
    have h1 := hp 0 x y rfl rfl
    have h2 := sizeL_le (l := xs) (es := ys) (by simpa using h) fun i x y hx hy => hp (i + 1) x y (by simpa using hx) (by simpa using hy)
    rw [Tm.eraseL, T.sizeL, List.map_cons, Rows.uptoBulkAll]
    omega

section
variable {H : Type} {enc : TypeId × Value → H} {W : World}

/-- Four cells that read as a term. -/
theorem open_termU (fuel : Nat) : ∀ (cs : List Value) (x : DataW H × List MemPlace), DataW.trod enc Try.prog W 0 (fun _ => true) true fuel 24 cs = some x →
    (∀ n ∈ x.1.weights Try.prog 24, n ≤ reachBytes) → ∃ t : Tm, cs = t.cells ∧ t.In W ∧ t.erase.size ≤ Rows.uptoBulk x.1 := by
  induction fuel using Nat.strongRecOn with
  | _ fuel ih =>
    intro cs x h hw
    obtain ⟨xs, m, rfl, rfl, hl, hlen, hf⟩ := DataW.trod_struct Try.underlying24 h
    rw [cellsTerm] at hl
    obtain ⟨y0, y1, y2, y3, rfl⟩ := list4 hlen
    obtain ⟨v0, v1, v2, v3, rfl⟩ := list4 hl
    have g0 := hf 0 _ rfl
    have g1 := hf 1 _ rfl
    have g2 := hf 2 _ rfl
    have g3 := hf 3 _ rfl
    simp [cellsI, cellsI64, cellsS, cellsTerms] at g0 g1 g2 g3
    obtain ⟨k, hk, rfl, wk⟩ := DataW.trod_int Try.underlying3 g0
    obtain ⟨n, hn, rfl, wn⟩ := DataW.trod_int Try.underlying2 g1
    obtain ⟨s, hs, rfl, ws⟩ := DataW.trod_string Try.underlying9 g2
    simp only [List.cons.injEq, and_true] at hk hn hs
    subst hk hn hs
    simp only [List.map_cons, List.map_nil, DataW.weights, Try.underlying24, DataW.weightsEach, List.append_nil, List.nil_append, List.mem_append, List.mem_cons, List.mem_nil_iff, or_false, List.map_cons] at hw
    have hs' : s.size ≤ 140737488351232 := by
      have h9 := hw s.data.toList.length (.inl rfl)
      rw [reach_eq] at h9
      exact h9
    rcases DataW.trod_slice Try.underlying22 g3 with ⟨hcs, hx⟩ | ⟨a, len, cap, elems, rest, n', hm, hcs, hx, _, hlc, hcm, hle, hel, hre, _⟩
    · simp only [List.cons.injEq, and_true] at hcs
      subst hcs
      refine ⟨.mk k n s none 0 [], rfl, ?_, by simp only [List.map_cons, List.map_nil, Tm.erase, Tm.eraseL, T.size, T.sizeL, Rows.uptoBulk, Rows.uptoBulkAll]; omega⟩
      rw [Tm.In]
      exact ⟨bounds64 wk, bounds64 wn, hs', Nat.le_refl _, ⟨by simp, by omega⟩, .inl rfl, by rw [Tm.InL]; trivial⟩
    · simp only [List.cons.injEq, and_true] at hcs
      subst hcs
      subst hx
      subst hm
      have hrl := (hre rfl).1
      simp only [DataW.weights, Try.underlying22, List.length_map, List.mem_cons, List.mem_append, bytesTerm] at hw
      have hcap : cap * 56 ≤ 140737488351232 := by
        have h9 := hw ((elems.length + rest.length) * 56) (.inr (.inl rfl))
        rw [reach_eq, hle, hrl] at h9
        have : len + (cap - len) = cap := by omega
        rwa [this] at h9
      have hall : ∀ i, i < len → ∃ x : Tm, (∃ cs', W.cells? 0 (a.add (i * 4)) 4 = some cs' ∧ cs' = x.cells) ∧ x.In W ∧ ∀ y, elems[i]? = some y → x.erase.size ≤ Rows.uptoBulk y.1 := by
        intro i hi
        have h9 := hel i hi
        have hi' : i < elems.length := by omega
        rw [cellsTerm, List.getElem?_eq_getElem hi', Option.bind_eq_some_iff] at h9
        obtain ⟨cs', h10, h11⟩ := h9
        obtain ⟨t, ht, hin, hz⟩ := ih n' (by omega) cs' _ h11 fun q hq => hw q (.inr (.inr (.inl (weightsAll_mem (List.mem_map.2 ⟨_, List.getElem_mem hi', rfl⟩) hq))))
        exact ⟨t, ⟨cs', h10, ht⟩, hin, fun y hy => by rw [List.getElem?_eq_getElem hi'] at hy; cases hy; exact hz⟩
      obtain ⟨l, hll, hlp⟩ := list_of hall
      have hsum : T.sizeL (Tm.eraseL l) ≤ Rows.uptoBulkAll (elems.map Prod.fst) := sizeL_le (by omega) fun i x y hx hy => (hlp i x hx).2.2 y hy
      refine ⟨.mk k n s (some a) cap l, by rw [← hll]; rfl, ?_, by simp only [List.map_cons, List.map_nil, Tm.erase, T.size, Rows.uptoBulk, Rows.uptoBulkAll]; have hsum2 : T.sizeL (Tm.eraseL l) ≤ Rows.uptoBulkAll (List.map (fun x => x.1) elems) := hsum; omega⟩
      rw [Tm.In]
      refine ⟨bounds64 wk, bounds64 wn, hs', by omega, by omega, ?_, Tm.InL_of fun x hx => ?_⟩
      · by_cases hl0 : l = []
        · exact .inl hl0
        · refine .inr ?_
          have h0 : 0 < l.length := List.length_pos_iff.2 hl0
          obtain ⟨⟨cs', h10, h12⟩, _⟩ := hlp 0 l[0] (List.getElem?_eq_getElem h0)
          obtain ⟨_, _, hc⟩ := World.cells?_some h10
          have hc0 := hc 0 (by omega)
          obtain ⟨b, o, spot⟩ := a
          have hspot : spot = none := by
            have h13 : W.cell? ⟨b, o, spot⟩ = some (.int .i64 l[0].k) := by rw [h12] at hc0; simpa [Addr.add, Tm.cells] using hc0
            exact World.cell?_spot h13
          subst hspot
          refine ⟨b, o, rfl, fun i x hx => ?_⟩
          obtain ⟨⟨cs'', h10, h12⟩, _⟩ := hlp i x hx
          obtain ⟨_, _, hc⟩ := World.cells?_some h10
          rw [h12] at hc
          have e0 := hc 0 (by omega)
          have e1 := hc 1 (by omega)
          have e2 := hc 2 (by omega)
          have e3 := hc 3 (by omega)
          rw [add_plain, add_plain] at e0 e1 e2 e3
          exact ⟨e0, e1, e2, e3⟩
      · obtain ⟨i, hi, rfl⟩ := List.getElem_of_mem hx
        exact (hlp i l[i] (List.getElem?_eq_getElem hi)).2.1

set_option maxRecDepth 100000 in
/-- An argument of type api.Term. -/
theorem open_termU_arg {r : Reach} {b0 : Nat} {v : Value} {d : DataW H} {p : List MemPlace} (hv : Value.okWide Try.prog W r b0 24 v)
    (h : DataW.Trod enc Try.prog W 0 (fun _ => true) true 24 v d p) (hw : ∀ n ∈ d.weights Try.prog 24, n ≤ reachBytes) : ∃ t : Tm, v = t.val ∧ t.In W ∧ t.erase.size ≤ Rows.uptoBulk d := by
  obtain ⟨cs, rfl, hsz⟩ := okWide_struct Try.underlying24 hv
  obtain ⟨fuel, hf⟩ := h
  obtain ⟨t, ht, hin, hz⟩ := open_termU fuel _ _ hf hw
  refine ⟨t, ?_, hin, hz⟩
  have : cs.toList = t.cells := ht
  unfold Tm.val
  congr 1
  rw [← Array.toArray_toList (xs := cs), this]
  rfl
end
end Go.Proofs.Yteonakicoomjkaa

namespace Go.Proofs.Yteonakicoomjkaa
open Go.RowKit

mutual
/-- A term ahead of its Args, and so on. -/
def Tm.pre : Tm → List Tm
  | .mk k n s p c l => .mk k n s p c l :: Tm.preL l
def Tm.preL : List Tm → List Tm
  | [] => []
  | x :: xs => Tm.pre x ++ Tm.preL xs
end
theorem Tm.pre_eq (t : Tm) : t.pre = t :: Tm.preL t.l := by obtain ⟨k, n, s, p, c, l⟩ := t; rw [Tm.pre]; rfl
theorem Tm.preL_append : ∀ (l l' : List Tm), Tm.preL (l ++ l') = Tm.preL l ++ Tm.preL l'
  | [], l' => by rw [List.nil_append, Tm.preL, List.nil_append]
  | x :: xs, l' => by rw [List.cons_append, Tm.preL, Tm.preL, Tm.preL_append xs l', List.append_assoc]

/-- A part, of which a loop's body may know this much. -/
abbrev Pt := { x : Tm // In64 x.k ∧ In64 x.n ∧ x.l.length ≤ x.c ∧ x.c ≤ 9223372036854775807 ∧ (x.k = 1 → 0 ≤ x.n ∧ x.n ≤ 1099515822080) }

mutual
theorem Tm.pre_ok {w : World} : ∀ {t : Tm}, t.In w → t.erase.fmd = true → ∃ xs : List Pt, xs.map Subtype.val = t.pre
  | .mk k n s p c l, hi, hf => by
    have hi0 := hi
    rw [Tm.In] at hi
    have hk : In64 k ∧ In64 n := ⟨⟨hi.1.1, hi.1.2⟩, ⟨hi.2.1.1, hi.2.1.2⟩⟩
    have hrest : ∃ ys : List Pt, ys.map Subtype.val = Tm.preL l := by
      rw [Tm.erase] at hf
      rcases fmd_args hf with ⟨_, h⟩ | ⟨_, h⟩
      · exact Tm.preL_ok hi.2.2.2.2.2.2 h
      · have hl : l = [] := by
          have := congrArg List.length h
          rw [Tm.eraseL_length] at this
          exact List.eq_nil_of_length_eq_zero this
        rw [hl, Tm.preL]
        exact ⟨[], rfl⟩
    obtain ⟨ys, hys⟩ := hrest
    refine ⟨⟨.mk k n s p c l, hk.1, hk.2, hi.2.2.2.1, hi.2.2.2.2.1.2, fun h1 => ?_⟩ :: ys, by rw [List.map_cons, hys, Tm.pre]⟩
    have h1' : k = 1 := h1
    subst h1'
    rw [Tm.erase] at hf
    exact (fmd_var hf).1
theorem Tm.preL_ok {w : World} : ∀ {l : List Tm}, Tm.InL w l → T.fmdL (Tm.eraseL l) = true → ∃ xs : List Pt, xs.map Subtype.val = Tm.preL l
  | [], _, _ => ⟨[], by rw [Tm.preL]; rfl⟩
  | x :: xs, hi, hf => by
    rw [Tm.InL] at hi
    rw [Tm.eraseL, T.fmdL, Bool.and_eq_true] at hf
    obtain ⟨a, ha⟩ := Tm.pre_ok hi.1 hf.1
    obtain ⟨b, hb⟩ := Tm.preL_ok hi.2 hf.2
    exact ⟨a ++ b, by rw [List.map_append, ha, hb, Tm.preL]⟩
end

/-- One round: a variable that has not come. -/
def seeOne (V : List Int) (x : Pt) : List Int := if x.1.k = 1 then withVar V x.1.n else V
def seeAll (V : List Int) (xs : List Pt) : List Int := xs.foldl seeOne V
theorem seeAll_snoc (V : List Int) (xs : List Pt) (x : Pt) : seeAll V (xs ++ [x]) = seeOne (seeAll V xs) x := by simp [seeAll]
theorem seeAll_append (V : List Int) (xs ys : List Pt) : seeAll V (xs ++ ys) = seeAll (seeAll V xs) ys := by simp [seeAll]

theorem VarsOkB.seeOne {V : List Int} (h : VarsOkB V) (x : Pt) : VarsOkB (Go.Proofs.Yteonakicoomjkaa.seeOne V x) := by
  unfold Go.Proofs.Yteonakicoomjkaa.seeOne
  split
  · exact h.one (x.2.2.2.2.2 ‹_›)
  · exact h
theorem VarsOkB.seeAll {V : List Int} (h : VarsOkB V) (xs : List Pt) : VarsOkB (Go.Proofs.Yteonakicoomjkaa.seeAll V xs) := by
  induction xs generalizing V with
  | nil => exact h
  | cons x xs ih => exact ih (h.seeOne x)

mutual
theorem see_vars : ∀ (t : Tm) (V : List Int) (xs : List Pt), t.erase.fmd = true → xs.map Subtype.val = t.pre → seeAll V xs = T.vars t.erase V
  | .mk k n s p c l, V, xs, hf, hx => by
    rw [Tm.pre] at hx
    match xs, hx with
    | x :: ys, hx =>
      rw [List.map_cons] at hx
      injection hx with h1 h2
      rw [Tm.erase] at hf ⊢
      rw [T.vars]
      show seeAll (seeOne V x) ys = _
      unfold seeOne
      rw [h1]
      show seeAll (if k = 1 then withVar V n else V) ys = _
      by_cases hk : k = 1
      · subst hk
        rw [if_pos rfl, if_pos rfl]
        have hl : l = [] := by
          have := congrArg List.length (fmd_var hf).2.2
          rw [Tm.eraseL_length] at this
          exact List.eq_nil_of_length_eq_zero this
        subst hl
        rw [Tm.preL] at h2
        obtain rfl : ys = [] := List.map_eq_nil_iff.1 h2
        rfl
      · rw [if_neg hk, if_neg hk]
        rcases fmd_args hf with ⟨_, h⟩ | ⟨_, h⟩
        · exact see_varsL l V ys h h2
        · have hl : l = [] := by
            have := congrArg List.length h
            rw [Tm.eraseL_length] at this
            exact List.eq_nil_of_length_eq_zero this
          subst hl
          rw [Tm.preL] at h2
          obtain rfl : ys = [] := List.map_eq_nil_iff.1 h2
          rw [Tm.eraseL, T.varsL]; rfl
theorem see_varsL : ∀ (l : List Tm) (V : List Int) (xs : List Pt), T.fmdL (Tm.eraseL l) = true → xs.map Subtype.val = Tm.preL l → seeAll V xs = T.varsL (Tm.eraseL l) V
  | [], V, xs, _, hx => by
    rw [Tm.preL] at hx
    obtain rfl : xs = [] := List.map_eq_nil_iff.1 hx
    rw [Tm.eraseL, T.varsL]; rfl
  | x :: r, V, xs, hf, hx => by
    rw [Tm.eraseL, T.fmdL, Bool.and_eq_true] at hf
    rw [Tm.preL, List.map_eq_append_iff] at hx
    obtain ⟨a, b, rfl, ha, hb⟩ := hx
    rw [seeAll_append, see_vars x V a hf.1 ha, see_varsL r _ b hf.2 hb, Tm.eraseL, T.varsL]
end
end Go.Proofs.Yteonakicoomjkaa

namespace Go.Proofs.Yteonakicoomjkaa
open Go.RowKit Go.Shelf

attribute [local go_sem] Oper.semAt_some

/-- What a round keeps: every cell but the one of the list's variable (block O) and those of the list's own row. -/
def Kv (O : Nat) (W W' : World) : Prop := W.heap.size ≤ W'.heap.size ∧ ∀ v, W.cell? ⟨O, 0, none⟩ = some v → (∀ b, v.ownBlock = some b → b < W.heap.size) →
  ∃ v', W'.cell? ⟨O, 0, none⟩ = some v' ∧ (∀ b, v'.ownBlock = some b → b < W'.heap.size ∧ (v.ownBlock = some b ∨ W.heap.size ≤ b)) ∧ ∀ b o c, W.cell? ⟨b, o, none⟩ = some c → b ≠ O → v.ownBlock ≠ some b → W'.cell? ⟨b, o, none⟩ = some c

theorem Kv.refl (O : Nat) (W : World) : Kv O W W := ⟨Nat.le_refl _, fun v hv hb => ⟨v, hv, fun b h => ⟨hb b h, .inl h⟩, fun _ _ _ h _ _ => h⟩⟩
theorem Kv.trans {O : Nat} {A B C : World} (h : Kv O A B) (k : Kv O B C) : Kv O A C := by
  refine ⟨Nat.le_trans h.1 k.1, fun v hv hb => ?_⟩
  obtain ⟨v1, h1, h2, h3⟩ := h.2 v hv hb
  obtain ⟨v2, k1, k2, k3⟩ := k.2 v1 h1 fun b e => (h2 b e).1
  refine ⟨v2, k1, fun b e => ⟨(k2 b e).1, ?_⟩, fun b o c hc hO hv' => ?_⟩
  · rcases (k2 b e).2 with h4 | h4
    · exact (h2 b h4).2
    · exact .inr (Nat.le_trans h.1 h4)
  · refine k3 b o c (h3 b o c hc hO hv') hO fun e => ?_
    rcases (h2 b e).2 with h4 | h4
    · exact hv' h4
    · have := World.block_lt_of_cell? _ _ hc
      simp only at this
      omega
theorem Kv.of_cells {O : Nat} {W W' : World} (hs : W.heap.size ≤ W'.heap.size) (h : ∀ b o c, W.cell? ⟨b, o, none⟩ = some c → W'.cell? ⟨b, o, none⟩ = some c) : Kv O W W' :=
  ⟨hs, fun v hv hb => ⟨v, h _ _ _ hv, fun b e => ⟨Nat.lt_of_lt_of_le (hb b e) hs, .inl e⟩, fun b o c hc _ _ => h b o c hc⟩⟩
theorem Kv.alloc (O : Nat) (W : World) (o : Obj) : Kv O W (W.alloc o) :=
  Kv.of_cells (by simp) fun b o' c hc => by rw [World.cell?_alloc_past _ _ _ (by simpa using World.block_lt_of_cell? _ _ hc)]; exact hc
theorem Kv.putObj {O : Nat} {W : World} {l : Nat} {o : Obj} (o' : Obj) (hl : W.heap[l]? = some o) (ho : o.isCells = false) : Kv O W (W.putObj l o') :=
  Kv.of_cells (by simp) fun b o2 c hc => by
    have hne : b ≠ l := by
      rintro rfl
      unfold World.cell? at hc
      simp only [hl] at hc
      cases o <;> simp_all [Obj.isCells]
    exact (World.cell?_of_block (World.putObj_heap_other hne)).trans hc

/-- What the list's variable holds is laid. -/
def FitO (O n₀ : Nat) (W : World) : Prop := ∃ v, W.cell? ⟨O, 0, none⟩ = some v ∧ ∀ b, v.ownBlock = some b → n₀ ≤ b ∧ b < W.heap.size
theorem Kv.fit {O n₀ : Nat} {W W' : World} (h : Kv O W W') (hn : n₀ ≤ W.heap.size) (hf : FitO O n₀ W) : FitO O n₀ W' := by
  obtain ⟨v, h1, h2⟩ := hf
  obtain ⟨v', h3, h4, _⟩ := h.2 v h1 fun b e => (h2 b e).2
  exact ⟨v', h3, fun b e => ⟨(h4 b e).2.elim (fun k => (h2 b k).1) fun k => Nat.le_trans hn k, (h4 b e).1⟩⟩

namespace Tm
mutual
theorem In.keep {n₀ : Nat} {w w' : World} (hs : ∀ b o c, b < n₀ → w.cell? ⟨b, o, none⟩ = some c → w'.cell? ⟨b, o, none⟩ = some c) : ∀ {t : Tm}, In w t → On (· < n₀) t → In w' t
  | .mk k n s p c l, h, hO => by
    rw [In] at h ⊢
    rw [On] at hO
    obtain ⟨h1, h2, h3, h4, h5, h6, h7⟩ := h
    refine ⟨h1, h2, h3, h4, h5, ?_, InL.keep hs h7 hO.2⟩
    rcases h6 with h6 | ⟨b, o, hp, hr⟩
    · exact .inl h6
    · rcases hO.1 with h8 | ⟨b', o', hp', hS⟩
      · exact .inl h8
      · rw [hp] at hp'
        cases hp'
        refine .inr ⟨b, o, hp, fun i x hx => ?_⟩
        obtain ⟨c0, c1, c2, c3⟩ := hr i x hx
        exact ⟨hs _ _ _ hS c0, hs _ _ _ hS c1, hs _ _ _ hS c2, hs _ _ _ hS c3⟩
theorem InL.keep {n₀ : Nat} {w w' : World} (hs : ∀ b o c, b < n₀ → w.cell? ⟨b, o, none⟩ = some c → w'.cell? ⟨b, o, none⟩ = some c) : ∀ {l : List Tm}, InL w l → OnL (· < n₀) l → InL w' l
  | [], _, _ => by rw [InL]; trivial
  | _ :: _, h, hO => by
    rw [InL] at h ⊢
    rw [OnL] at hO
    exact ⟨In.keep hs h.1 hO.1, InL.keep hs h.2 hO.2⟩
end
end Tm

theorem Kv.low {O n₀ : Nat} {W W' : World} (h : Kv O W W') (hO : n₀ ≤ O) (hf : FitO O n₀ W) : ∀ b o c, b < n₀ → W.cell? ⟨b, o, none⟩ = some c → W'.cell? ⟨b, o, none⟩ = some c := by
  obtain ⟨v, h1, h2⟩ := hf
  obtain ⟨v', _, _, h5⟩ := h.2 v h1 fun b e => (h2 b e).2
  intro b o c hb hc
  exact h5 b o c hc (by omega) fun e => by have := (h2 b e).1; omega

/-- A call's own block stands. -/
theorem Kv.mine {O n₀ B : Nat} {W0 W W' : World} (h : Kv O W W') (hB : W0.heap.size ≤ B) (hf : FitO O n₀ W0) (hk : Kv O W0 W) {o : Nat} {c : Value} (hc : W.cell? ⟨B, o, none⟩ = some c) (hown : ∀ v, W.cell? ⟨O, 0, none⟩ = some v → v.ownBlock ≠ some B) : W'.cell? ⟨B, o, none⟩ = some c := by
  have hOl : O < W0.heap.size := by obtain ⟨v, hv, _⟩ := hf; exact World.block_lt_of_cell? _ _ hv
  obtain ⟨v, h1, h2⟩ := hf
  obtain ⟨v1, h3, h4, _⟩ := hk.2 v h1 fun b e => (h2 b e).2
  obtain ⟨v2, _, _, h7⟩ := h.2 v1 h3 fun b e => (h4 b e).1
  exact h7 B o c hc (by omega) (hown v1 h3)

abbrev RoundWord (O l N : Nat) (J Jx : List Pt → World → Prop) : Prop := ∀ (m : Nat) (pre : List Pt) (x : Pt) (W : World), J pre W → pre.length < N → YieldAt Fence.wide m Try.prog l #[x.1.val] W fun e W' =>
    (e = .returned (.bool true) ∧ J (pre ++ [x]) W' ∧ Kv O W W') ∨ (e = .returned (.bool false) ∧ Jx (pre ++ [x]) W')

set_option maxRecDepth 100000 in
set_option maxHeartbeats 2000000 in
theorem parts_any (O l n₀ N : Nat) (J Jx : List Pt → World → Prop) (hJ : ∀ pre W o, J pre W → J pre (W.alloc o)) (hY : RoundWord O l N J Jx) (hO : n₀ ≤ O) (NN : Nat) :
    ∀ (t : Tm) (n : Nat) (xs pre : List Pt) (W : World), SizeOf.sizeOf t ≤ NN → t.In W → t.On (· < n₀) → n₀ ≤ W.heap.size → FitO O n₀ W → xs.map Subtype.val = t.pre → J pre W → pre.length + xs.length ≤ N →
      CallsIn Fence.wide n Try.prog 197 #[t.val, .func (.yield l) #[] #[]] W fun e W' =>
        (e = .returned (.bool true) ∧ J (pre ++ xs) W' ∧ Kv O W W') ∨ (e = .returned (.bool false) ∧ ∃ q, q <+: xs ∧ Jx (pre ++ q) W') := by
  induction NN with
  | zero => intro t n xs pre W h; cases t; simp at h
  | succ NN ih =>
    intro t n xs pre W hN hin hon hn₀ hfit hxs hj hlen
    rw [Tm.pre_eq] at hxs
    match xs, hxs, hlen with
    | x :: ys, hxs, hlen =>
    rw [List.map_cons] at hxs
    injection hxs with hx1 hys
    obtain ⟨k, nn, s, p, c, ls⟩ := t
    have hsl := hin.sl
    rw [Tm.On] at hon
    simp only [Tm.l] at hys
    have hlc : ls.length ≤ c := hsl.1
    have hc : c ≤ 9223372036854775807 := hsl.2.1.2
    simp only [tm_val]
    have gA : Kv O W (W.alloc (.cells #[.int .i64 k, .int .i64 nn, .string s, .slice p ls.length c] 24)) := Kv.alloc O W _
    have hA := Blk4.new W (.int .i64 k) (.int .i64 nn) (.string s) (.slice p ls.length c)
    have hjA := hJ pre W (.cells #[.int .i64 k, .int .i64 nn, .string s, .slice p ls.length c] 24) hj
    obtain ⟨fn, tmps, assign, body, hy, hR⟩ := hY (n - 1) pre x _ hjA (by simp at hlen; omega)
    rw [hx1, tm_val] at hy
    refine callsIn_of_wp Try.func197 rfl trivial ?_ rfl
    simp only [Try.ntmps197, List.size_toArray, List.length_cons, List.length_nil, Nat.reduceAdd, Nat.reduceSub, Array.replicate_succ, Array.replicate_zero, List.push_toArray, List.append_toArray, List.nil_append, List.cons_append]
    have hown0 : ∀ v, (W.alloc (.cells #[.int .i64 k, .int .i64 nn, .string s, .slice p ls.length c] 24)).cell? ⟨O, 0, none⟩ = some v → v.ownBlock ≠ some W.heap.size := by
      obtain ⟨v0, h1, h2⟩ := hfit
      intro v hv e
      rw [World.cell?_alloc_past _ _ _ (by simpa using World.block_lt_of_cell? _ _ h1), h1] at hv
      cases hv
      have := (h2 _ e).2
      omega
    gi_wp2
    refine ⟨fun h => (by cases h), hR.mono ?_⟩
    rintro e W3 (⟨rfl, hJ3, hk3⟩ | ⟨rfl, hJx3⟩)
    · have c3 := Kv.mine hk3 (Nat.le_refl _) hfit gA hA.parts.1.2.2.2 hown0
      have g3 : Kv O W W3 := gA.trans hk3
      have Hys := Lib.hid hys
      clear hy hR hA hjA hown0
      gi_wp2
      gi_loopw [14] (fun i wr => ∃ kk : Nat, kk ≤ ls.length ∧ i = .int .i64 kk ∧ Hid (∃ done rest : List Pt, ys = done ++ rest ∧ rest.map Subtype.val = Tm.preL (ls.drop kk) ∧ J (pre ++ x :: done) wr) ∧ Kv O W wr)
        (fun i _ => ls.length - (intOf i).toNat)
      case atStart => exact ⟨0, Nat.zero_le _, rfl, ⟨[], ys, rfl, by rw [List.drop_zero]; exact Hys.out, by simpa using hJ3⟩, g3⟩
      case round =>
        obtain ⟨kk, hkk, rfl, hdr, gr⟩ := hrel
        by_cases hlt : kk < ls.length
        · have hinr := Tm.In.keep (gr.low hO hfit) hin (by rw [Tm.On]; exact hon)
          obtain ⟨b, o, rfl⟩ := hsl.ptr (by omega)
          obtain ⟨⟨c0, c1, c2, c3'⟩, hxi, _⟩ := hinr.sl.elem kk hlt
          have hmem : ls[kk] ∈ ls := List.getElem_mem hlt
          have hon1 := Tm.OnL_mem hon.2 _ hmem
          have hsz1 := Tm.sizeOf_mem hmem k nn s (some ⟨b, o, none⟩) c
          obtain ⟨done, rest, rfl, hrest, hJr⟩ := hdr.out
          rw [List.drop_eq_getElem_cons hlt, Tm.preL, List.map_eq_append_iff] at hrest
          obtain ⟨aa, bb, rfl, haa, hbb⟩ := hrest
          have hlenw := gr.1
          generalize ls[kk] = z at *
          have hcall := Lib.hid (ih z (n - 1) aa (pre ++ x :: done) (wr.alloc (.cells #[.int .i64 z.k, .int .i64 z.n, .string z.s, .slice z.p z.l.length z.c] 24)) (by omega)
            (Tm.In_below (by go_grown) hxi) hon1 (by simp; omega) ((gr.trans (Kv.alloc O wr _)).fit hn₀ hfit) haa (hJ _ _ _ hJr) (by simp at hlen ⊢; omega))
          have gE := Kv.alloc O wr (.cells #[.int .i64 z.k, .int .i64 z.n, .string z.s, .slice z.p z.l.length z.c] 24)
          have Hzv := Lib.hid (show z.val = .agg #[.int .i64 z.k, .int .i64 z.n, .string z.s, .slice z.p z.l.length z.c] from rfl)
          gi_wp2_with (refine ⟨trivial, fun h => (by cases h), ?_⟩; gi_at_call 197; rewrite [← Hzv.out]; refine hcall.out.mono ?_; rintro e W5 (⟨rfl, hJ5, hk5⟩ | ⟨rfl, q, hq, hx5⟩))
          · go_roundw
            case rel => exact ⟨kk + 1, by omega, by go_num, ⟨done ++ aa, bb, by simp, hbb, by simpa using hJ5⟩, (gr.trans gE).trans hk5⟩
            case measure => simp [intOf]; omega
          · go_ret
            obtain ⟨r, rfl⟩ := hq
            exact .inr ⟨rfl, x :: (done ++ q), ⟨r ++ bb, by simp⟩, by simpa using hx5⟩
        · obtain rfl : kk = ls.length := by omega
          obtain ⟨done, rest, rfl, hrest, hJr⟩ := hdr.out
          rw [List.drop_length, Tm.preL] at hrest
          obtain rfl : rest = [] := List.map_eq_nil_iff.1 hrest
          gi_wp2
          go_ret
          exact .inl ⟨rfl, by simpa using hJr, gr⟩
    · gi_wp2
      go_ret
      exact .inr ⟨rfl, [x], ⟨ys, rfl⟩, hJx3⟩
end Go.Proofs.Yteonakicoomjkaa
