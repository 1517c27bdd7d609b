/-
  What a term comes to (plain); the tables of the program.
-/
import Derived.Test.YtgaijgadeodoeaaA4
import Derived.Test.YtgaijgadeodoeaaA5
import Derived.Test.YtgaijgadeodoeaaT6
namespace Go.Proofs.Ytgaijgadeodoeaa
open Go.RowKit

/-- The operations with one argument. -/
def prim1 (s : Str) : Option (Int → Num) :=
  if s = [45] then some nNeg
  else if s = [43] then some Num.ok
  else if s = [97, 98, 115] then some nAbs
  else if s = [115, 105, 103, 110] then some nSign
  else if s = [92] then some nNot
  else none

/-- The operations with two. -/
def prim2 (s : Str) : Option (Int → Int → Num) :=
  if s = [43] then some nAdd
  else if s = [45] then some nSub
  else if s = [42] then some nMul
  else if s = [47, 47] then some nQuo
  else if s = [114, 101, 109] then some nRem
  else if s = [100, 105, 118] then some nDiv
  else if s = [109, 111, 100] then some nMod
  else if s = [109, 105, 110] then some nMin
  else if s = [109, 97, 120] then some nMax
  else if s = [103, 99, 100] then some nGcd
  else if s = [42, 42] then some nPow
  else if s = [94] then some nPow
  else if s = [60, 60] then some nLeft
  else if s = [62, 62] then some nRight
  else if s = [47, 92] then some nAnd
  else if s = [92, 47] then some nOr
  else if s = [120, 111, 114] then some nXor
  else none

/-- The program's function. -/
def fn1 (s : Str) : Value :=
  if s = [45] then .func (.func 128) #[] #[]
  else if s = [43] then .func (.func 130) #[] #[]
  else if s = [97, 98, 115] then .func (.func 131) #[] #[]
  else if s = [115, 105, 103, 110] then .func (.func 132) #[] #[]
  else if s = [92] then .func (.func 133) #[] #[]
  else .nilFunc

def fn2 (s : Str) : Value :=
  if s = [43] then .func (.func 134) #[] #[]
  else if s = [45] then .func (.func 129) #[] #[]
  else if s = [42] then .func (.func 135) #[] #[]
  else if s = [47, 47] then .func (.func 136) #[] #[]
  else if s = [114, 101, 109] then .func (.func 137) #[] #[]
  else if s = [100, 105, 118] then .func (.func 138) #[] #[]
  else if s = [109, 111, 100] then .func (.func 139) #[] #[]
  else if s = [109, 105, 110] then .func (.func 140) #[] #[]
  else if s = [109, 97, 120] then .func (.func 141) #[] #[]
  else if s = [103, 99, 100] then .func (.func 142) #[] #[]
  else if s = [42, 42] then .func (.func 143) #[] #[]
  else if s = [94] then .func (.func 143) #[] #[]
  else if s = [60, 60] then .func (.func 144) #[] #[]
  else if s = [62, 62] then .func (.func 145) #[] #[]
  else if s = [47, 92] then .func (.func 147) #[] #[]
  else if s = [92, 47] then .func (.func 148) #[] #[]
  else if s = [120, 111, 114] then .func (.func 149) #[] #[]
  else .nilFunc

theorem fn1_calls (s : Str) : (fn1 s = .nilFunc ∧ prim1 s = none) ∨ ∃ (f : FuncId) (p : Int → Num), fn1 s = .func (.func f) #[] #[] ∧ prim1 s = some p ∧ ∀ a w, In64 a → Calls Try.prog f #[.int .i64 a] w (NumIs wr (p a) w) := by
  unfold fn1 prim1
  by_cases h0 : s = [45]
  · refine .inr ⟨128, nNeg, ?_, ?_, fun a w ha => neg_calls a w ha⟩ <;> rw [if_pos h0]
  by_cases h1 : s = [43]
  · refine .inr ⟨130, Num.ok, ?_, ?_, fun a w ha => plus_calls a w ha⟩ <;> rw [if_neg h0, if_pos h1]
  by_cases h2 : s = [97, 98, 115]
  · refine .inr ⟨131, nAbs, ?_, ?_, fun a w ha => abs_calls a w ha⟩ <;> rw [if_neg h0, if_neg h1, if_pos h2]
  by_cases h3 : s = [115, 105, 103, 110]
  · refine .inr ⟨132, nSign, ?_, ?_, fun a w ha => sign_calls a w ha⟩ <;> rw [if_neg h0, if_neg h1, if_neg h2, if_pos h3]
  by_cases h4 : s = [92]
  · refine .inr ⟨133, nNot, ?_, ?_, fun a w ha => not_calls a w ha⟩ <;> rw [if_neg h0, if_neg h1, if_neg h2, if_neg h3, if_pos h4]
  · exact .inl ⟨by rw [if_neg h0, if_neg h1, if_neg h2, if_neg h3, if_neg h4], by rw [if_neg h0, if_neg h1, if_neg h2, if_neg h3, if_neg h4]⟩

theorem fn2_calls (s : Str) : (fn2 s = .nilFunc ∧ prim2 s = none) ∨ ∃ (f : FuncId) (p : Int → Int → Num), fn2 s = .func (.func f) #[] #[] ∧ prim2 s = some p ∧ ∀ a b w, In64 a → In64 b → Calls Try.prog f #[.int .i64 a, .int .i64 b] w (NumIs wr (p a b) w) := by
  unfold fn2 prim2
  by_cases h0 : s = [43]
  · refine .inr ⟨134, nAdd, ?_, ?_, fun a b w ha hb => add_calls a b w ha hb⟩ <;> rw [if_pos h0]
  by_cases h1 : s = [45]
  · refine .inr ⟨129, nSub, ?_, ?_, fun a b w ha hb => sub_calls a b w ha hb⟩ <;> rw [if_neg h0, if_pos h1]
  by_cases h2 : s = [42]
  · refine .inr ⟨135, nMul, ?_, ?_, fun a b w ha hb => mul_calls a b w ha hb⟩ <;> rw [if_neg h0, if_neg h1, if_pos h2]
  by_cases h3 : s = [47, 47]
  · refine .inr ⟨136, nQuo, ?_, ?_, fun a b w ha hb => quo_calls a b w ha hb⟩ <;> rw [if_neg h0, if_neg h1, if_neg h2, if_pos h3]
  by_cases h4 : s = [114, 101, 109]
  · refine .inr ⟨137, nRem, ?_, ?_, fun a b w ha hb => rem_calls a b w ha hb⟩ <;> rw [if_neg h0, if_neg h1, if_neg h2, if_neg h3, if_pos h4]
  by_cases h5 : s = [100, 105, 118]
  · refine .inr ⟨138, nDiv, ?_, ?_, fun a b w ha hb => div_calls a b w ha hb⟩ <;> rw [if_neg h0, if_neg h1, if_neg h2, if_neg h3, if_neg h4, if_pos h5]
  by_cases h6 : s = [109, 111, 100]
  · refine .inr ⟨139, nMod, ?_, ?_, fun a b w ha hb => mod_calls a b w ha hb⟩ <;> rw [if_neg h0, if_neg h1, if_neg h2, if_neg h3, if_neg h4, if_neg h5, if_pos h6]
  by_cases h7 : s = [109, 105, 110]
  · refine .inr ⟨140, nMin, ?_, ?_, fun a b w ha hb => min_calls a b w ha hb⟩ <;> rw [if_neg h0, if_neg h1, if_neg h2, if_neg h3, if_neg h4, if_neg h5, if_neg h6, if_pos h7]
  by_cases h8 : s = [109, 97, 120]
  · refine .inr ⟨141, nMax, ?_, ?_, fun a b w ha hb => max_calls a b w ha hb⟩ <;> rw [if_neg h0, if_neg h1, if_neg h2, if_neg h3, if_neg h4, if_neg h5, if_neg h6, if_neg h7, if_pos h8]
  by_cases h9 : s = [103, 99, 100]
  · refine .inr ⟨142, nGcd, ?_, ?_, fun a b w ha hb => gcd_calls a b w ha hb⟩ <;> rw [if_neg h0, if_neg h1, if_neg h2, if_neg h3, if_neg h4, if_neg h5, if_neg h6, if_neg h7, if_neg h8, if_pos h9]
  by_cases h10 : s = [42, 42]
  · refine .inr ⟨143, nPow, ?_, ?_, fun a b w ha hb => pow_calls a b w ha hb⟩ <;> rw [if_neg h0, if_neg h1, if_neg h2, if_neg h3, if_neg h4, if_neg h5, if_neg h6, if_neg h7, if_neg h8, if_neg h9, if_pos h10]
  by_cases h11 : s = [94]
  · refine .inr ⟨143, nPow, ?_, ?_, fun a b w ha hb => pow_calls a b w ha hb⟩ <;> rw [if_neg h0, if_neg h1, if_neg h2, if_neg h3, if_neg h4, if_neg h5, if_neg h6, if_neg h7, if_neg h8, if_neg h9, if_neg h10, if_pos h11]
  by_cases h12 : s = [60, 60]
  · refine .inr ⟨144, nLeft, ?_, ?_, fun a b w ha hb => left_calls a b w ha hb⟩ <;> rw [if_neg h0, if_neg h1, if_neg h2, if_neg h3, if_neg h4, if_neg h5, if_neg h6, if_neg h7, if_neg h8, if_neg h9, if_neg h10, if_neg h11, if_pos h12]
  by_cases h13 : s = [62, 62]
  · refine .inr ⟨145, nRight, ?_, ?_, fun a b w ha hb => right_calls a b w ha hb⟩ <;> rw [if_neg h0, if_neg h1, if_neg h2, if_neg h3, if_neg h4, if_neg h5, if_neg h6, if_neg h7, if_neg h8, if_neg h9, if_neg h10, if_neg h11, if_neg h12, if_pos h13]
  by_cases h14 : s = [47, 92]
  · refine .inr ⟨147, nAnd, ?_, ?_, fun a b w ha hb => and_calls a b w ha hb⟩ <;> rw [if_neg h0, if_neg h1, if_neg h2, if_neg h3, if_neg h4, if_neg h5, if_neg h6, if_neg h7, if_neg h8, if_neg h9, if_neg h10, if_neg h11, if_neg h12, if_neg h13, if_pos h14]
  by_cases h15 : s = [92, 47]
  · refine .inr ⟨148, nOr, ?_, ?_, fun a b w ha hb => or_calls a b w ha hb⟩ <;> rw [if_neg h0, if_neg h1, if_neg h2, if_neg h3, if_neg h4, if_neg h5, if_neg h6, if_neg h7, if_neg h8, if_neg h9, if_neg h10, if_neg h11, if_neg h12, if_neg h13, if_neg h14, if_pos h15]
  by_cases h16 : s = [120, 111, 114]
  · refine .inr ⟨149, nXor, ?_, ?_, fun a b w ha hb => xor_calls a b w ha hb⟩ <;> rw [if_neg h0, if_neg h1, if_neg h2, if_neg h3, if_neg h4, if_neg h5, if_neg h6, if_neg h7, if_neg h8, if_neg h9, if_neg h10, if_neg h11, if_neg h12, if_neg h13, if_neg h14, if_neg h15, if_pos h16]
  · exact .inl ⟨by rw [if_neg h0, if_neg h1, if_neg h2, if_neg h3, if_neg h4, if_neg h5, if_neg h6, if_neg h7, if_neg h8, if_neg h9, if_neg h10, if_neg h11, if_neg h12, if_neg h13, if_neg h14, if_neg h15, if_neg h16], by rw [if_neg h0, if_neg h1, if_neg h2, if_neg h3, if_neg h4, if_neg h5, if_neg h6, if_neg h7, if_neg h8, if_neg h9, if_neg h10, if_neg h11, if_neg h12, if_neg h13, if_neg h14, if_neg h15, if_neg h16]⟩

/-- A number, or a ball. -/
inductive Ev where
  | ok (n : Int)
  | bad (b : T)

def Num.ev : Num → Ev
  | .ok n => .ok n
  | .bad s => .bad (atomT s)

def intT (n : Int) : T := .mk 2 n [] []
def compT (s : Str) (l : List T) : T := .mk 4 0 s l
def missingT (s : Str) (n : Nat) : T := compT sNotEval [compT [47] [atomT s, intT n]]

/-- What a term comes to. -/
def evalT : T → Ev
  | .mk k n s l =>
    if k = 1 then .bad (atomT sUnbound)
    else if k = 2 then .ok n
    else match l with
      | [x] => match prim1 s with
        | some f => match evalT x with
          | .ok a => (f a).ev
          | .bad b => .bad b
        | none => .bad (missingT s 1)
      | [x, y] => match prim2 s with
        | some f => match evalT x with
          | .ok a => match evalT y with
            | .ok c => (f a c).ev
            | .bad b => .bad b
          | .bad b => .bad b
        | none => .bad (missingT s 2)
      | l => .bad (missingT s l.length)

def EvIs (ty : TypeId) (r : Ev) (w : World) (e : Ending) (w' : World) : Prop :=
  match r with
  | .ok n => e = .returned (.int .i64 n) ∧ Gr w w' ∧ In64 n
  | .bad b => Thrown ty b w e w'

theorem NumIs.ev {ty : TypeId} {r : Num} {w : World} {e : Ending} {w' : World} (h : NumIs ty r w e w') : EvIs ty r.ev w e w' := by
  cases r <;> exact h

set_option maxHeartbeats 1000000 in
theorem one_yes {t : Tm} {w : World} (h : t.In w) (h1 : t.l.length = 1) : Calls Try.prog 100 #[t.val] w (Ret (fn1 t.s.toList) w) := by
  obtain ⟨k, n, s, p, c, l⟩ := t
  rw [Tm.In] at h
  obtain ⟨_, _, hs, hl, hc, _, _⟩ := h
  simp only [Tm.val, Tm.k, Tm.n, Tm.s, Tm.p, Tm.c, Tm.l] at h1 ⊢
  generalize hr : fn1 s.toList = r
  have Hr := Lib.hid hr
  have h1' : ((l.length : Int) == 1) = true := by simp [h1]
  clear hr h1
  go_enter Try.func100, Try.ntmps100
  go_wp2_with fail
  all_goals
    go_ret
    refine ⟨?_, by go_grown⟩
    rw [← Hr.out]
    simp_all [fn1]

set_option maxHeartbeats 400000 in
theorem one_no {t : Tm} {w : World} (h : t.In w) (h1 : t.l.length ≠ 1) : Calls Try.prog 100 #[t.val] w (Ret .nilFunc w) := by
  obtain ⟨k, n, s, p, c, l⟩ := t
  rw [Tm.In] at h
  obtain ⟨_, _, hs, hl, hc, _, _⟩ := h
  simp only [Tm.val, Tm.k, Tm.n, Tm.s, Tm.p, Tm.c, Tm.l] at h1 ⊢
  have h1' : ((l.length : Int) == 1) = false := by rw [beq_eq_false_iff_ne]; omega
  clear h1
  go_enter Try.func100, Try.ntmps100
  go_wp2_with fail
  go_ret
  exact ⟨rfl, by go_grown⟩

set_option maxHeartbeats 1000000 in
theorem two_yes {t : Tm} {w : World} (h : t.In w) (h1 : t.l.length = 2) : Calls Try.prog 101 #[t.val] w (Ret (fn2 t.s.toList) w) := by
  obtain ⟨k, n, s, p, c, l⟩ := t
  rw [Tm.In] at h
  obtain ⟨_, _, hs, hl, hc, _, _⟩ := h
  simp only [Tm.val, Tm.k, Tm.n, Tm.s, Tm.p, Tm.c, Tm.l] at h1 ⊢
  have h1' : ((l.length : Int) == 2) = true := by simp [h1]
  clear h1
  by_cases e0 : s.toList = [43]
  · rw [e0]
    go_enter Try.func101, Try.ntmps101
    go_wp2_with fail
    go_ret
    exact ⟨rfl, by go_grown⟩
  by_cases e1 : s.toList = [45]
  · rw [e1]
    clear e0
    go_enter Try.func101, Try.ntmps101
    go_wp2_with fail
    go_ret
    exact ⟨rfl, by go_grown⟩
  by_cases e2 : s.toList = [42]
  · rw [e2]
    clear e0 e1
    go_enter Try.func101, Try.ntmps101
    go_wp2_with fail
    go_ret
    exact ⟨rfl, by go_grown⟩
  by_cases e3 : s.toList = [47, 47]
  · rw [e3]
    clear e0 e1 e2
    go_enter Try.func101, Try.ntmps101
    go_wp2_with fail
    go_ret
    exact ⟨rfl, by go_grown⟩
  by_cases e4 : s.toList = [114, 101, 109]
  · rw [e4]
    clear e0 e1 e2 e3
    go_enter Try.func101, Try.ntmps101
    go_wp2_with fail
    go_ret
    exact ⟨rfl, by go_grown⟩
  by_cases e5 : s.toList = [100, 105, 118]
  · rw [e5]
    clear e0 e1 e2 e3 e4
    go_enter Try.func101, Try.ntmps101
    go_wp2_with fail
    go_ret
    exact ⟨rfl, by go_grown⟩
  by_cases e6 : s.toList = [109, 111, 100]
  · rw [e6]
    clear e0 e1 e2 e3 e4 e5
    go_enter Try.func101, Try.ntmps101
    go_wp2_with fail
    go_ret
    exact ⟨rfl, by go_grown⟩
  by_cases e7 : s.toList = [109, 105, 110]
  · rw [e7]
    clear e0 e1 e2 e3 e4 e5 e6
    go_enter Try.func101, Try.ntmps101
    go_wp2_with fail
    go_ret
    exact ⟨rfl, by go_grown⟩
  by_cases e8 : s.toList = [109, 97, 120]
  · rw [e8]
    clear e0 e1 e2 e3 e4 e5 e6 e7
    go_enter Try.func101, Try.ntmps101
    go_wp2_with fail
    go_ret
    exact ⟨rfl, by go_grown⟩
  by_cases e9 : s.toList = [103, 99, 100]
  · rw [e9]
    clear e0 e1 e2 e3 e4 e5 e6 e7 e8
    go_enter Try.func101, Try.ntmps101
    go_wp2_with fail
    go_ret
    exact ⟨rfl, by go_grown⟩
  by_cases e10 : s.toList = [42, 42]
  · rw [e10]
    clear e0 e1 e2 e3 e4 e5 e6 e7 e8 e9
    go_enter Try.func101, Try.ntmps101
    go_wp2_with fail
    go_ret
    exact ⟨rfl, by go_grown⟩
  by_cases e11 : s.toList = [94]
  · rw [e11]
    clear e0 e1 e2 e3 e4 e5 e6 e7 e8 e9 e10
    go_enter Try.func101, Try.ntmps101
    go_wp2_with fail
    go_ret
    exact ⟨rfl, by go_grown⟩
  by_cases e12 : s.toList = [60, 60]
  · rw [e12]
    clear e0 e1 e2 e3 e4 e5 e6 e7 e8 e9 e10 e11
    go_enter Try.func101, Try.ntmps101
    go_wp2_with fail
    go_ret
    exact ⟨rfl, by go_grown⟩
  by_cases e13 : s.toList = [62, 62]
  · rw [e13]
    clear e0 e1 e2 e3 e4 e5 e6 e7 e8 e9 e10 e11 e12
    go_enter Try.func101, Try.ntmps101
    go_wp2_with fail
    go_ret
    exact ⟨rfl, by go_grown⟩
  by_cases e14 : s.toList = [47, 92]
  · rw [e14]
    clear e0 e1 e2 e3 e4 e5 e6 e7 e8 e9 e10 e11 e12 e13
    go_enter Try.func101, Try.ntmps101
    go_wp2_with fail
    go_ret
    exact ⟨rfl, by go_grown⟩
  by_cases e15 : s.toList = [92, 47]
  · rw [e15]
    clear e0 e1 e2 e3 e4 e5 e6 e7 e8 e9 e10 e11 e12 e13 e14
    go_enter Try.func101, Try.ntmps101
    go_wp2_with fail
    go_ret
    exact ⟨rfl, by go_grown⟩
  by_cases e16 : s.toList = [120, 111, 114]
  · rw [e16]
    clear e0 e1 e2 e3 e4 e5 e6 e7 e8 e9 e10 e11 e12 e13 e14 e15
    go_enter Try.func101, Try.ntmps101
    go_wp2_with fail
    go_ret
    exact ⟨rfl, by go_grown⟩
  have Hr : Hid (fn2 s.toList = .nilFunc) := by show fn2 s.toList = _; simp [fn2, e0, e1, e2, e3, e4, e5, e6, e7, e8, e9, e10, e11, e12, e13, e14, e15, e16]
  have f0 : (s.toList == [43]) = false := beq_eq_false_iff_ne.2 e0
  have f1 : (s.toList == [45]) = false := beq_eq_false_iff_ne.2 e1
  have f2 : (s.toList == [42]) = false := beq_eq_false_iff_ne.2 e2
  have f3 : (s.toList == [47, 47]) = false := beq_eq_false_iff_ne.2 e3
  have f4 : (s.toList == [114, 101, 109]) = false := beq_eq_false_iff_ne.2 e4
  have f5 : (s.toList == [100, 105, 118]) = false := beq_eq_false_iff_ne.2 e5
  have f6 : (s.toList == [109, 111, 100]) = false := beq_eq_false_iff_ne.2 e6
  have f7 : (s.toList == [109, 105, 110]) = false := beq_eq_false_iff_ne.2 e7
  have f8 : (s.toList == [109, 97, 120]) = false := beq_eq_false_iff_ne.2 e8
  have f9 : (s.toList == [103, 99, 100]) = false := beq_eq_false_iff_ne.2 e9
  have f10 : (s.toList == [42, 42]) = false := beq_eq_false_iff_ne.2 e10
  have f11 : (s.toList == [94]) = false := beq_eq_false_iff_ne.2 e11
  have f12 : (s.toList == [60, 60]) = false := beq_eq_false_iff_ne.2 e12
  have f13 : (s.toList == [62, 62]) = false := beq_eq_false_iff_ne.2 e13
  have f14 : (s.toList == [47, 92]) = false := beq_eq_false_iff_ne.2 e14
  have f15 : (s.toList == [92, 47]) = false := beq_eq_false_iff_ne.2 e15
  have f16 : (s.toList == [120, 111, 114]) = false := beq_eq_false_iff_ne.2 e16
  clear e0 e1 e2 e3 e4 e5 e6 e7 e8 e9 e10 e11 e12 e13 e14 e15 e16
  go_enter Try.func101, Try.ntmps101
  go_wp2_with fail
  go_ret
  exact ⟨by rw [Hr.out]; rfl, by go_grown⟩

set_option maxHeartbeats 400000 in
theorem two_no {t : Tm} {w : World} (h : t.In w) (h1 : t.l.length ≠ 2) : Calls Try.prog 101 #[t.val] w (Ret .nilFunc w) := by
  obtain ⟨k, n, s, p, c, l⟩ := t
  rw [Tm.In] at h
  obtain ⟨_, _, hs, hl, hc, _, _⟩ := h
  simp only [Tm.val, Tm.k, Tm.n, Tm.s, Tm.p, Tm.c, Tm.l] at h1 ⊢
  have h1' : ((l.length : Int) == 2) = false := by rw [beq_eq_false_iff_ne]; omega
  clear h1
  go_enter Try.func101, Try.ntmps101
  go_wp2_with fail
  go_ret
  exact ⟨rfl, by go_grown⟩

end Go.Proofs.Ytgaijgadeodoeaa
