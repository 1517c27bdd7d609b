/-
  The order of terms: a total one (plain).
-/
import Derived.Test.YtgaijgadeodoeaaT5
import Derived.Test.YtgaijgadeodoeaaT2
namespace Go.Proofs.Ytgaijgadeodoeaa

def lex (x y : Int) : Int := if x = 0 then y else x

/-- Three comparisons that fit. -/
structure Tri (x y z : Int) : Prop where
  le : x ≤ 0 → y ≤ 0 → z ≤ 0 ∧ (z = 0 → x = 0 ∧ y = 0)
  l : x = 0 → z = y
  r : y = 0 → z = x

theorem Tri.lex {x y z x' y' z' : Int} (h : Tri x y z) (h' : x = 0 → y = 0 → Tri x' y' z') : Tri (lex x x') (lex y y') (lex z z') := by
  unfold Go.Proofs.Ytgaijgadeodoeaa.lex
  by_cases hx : x = 0
  · have hz := h.l hx
    by_cases hy : y = 0
    · have hz0 : z = 0 := by omega
      rw [if_pos hx, if_pos hy, if_pos hz0]
      exact h' hx hy
    · rw [if_pos hx, if_neg hy, if_neg (by omega), hz]
      exact ⟨fun _ h2 => ⟨h2, fun h3 => absurd h3 hy⟩, fun _ => rfl, fun h2 => absurd h2 hy⟩
  · by_cases hy : y = 0
    · have hz := h.r hy
      rw [if_neg hx, if_pos hy, if_neg (by omega), hz]
      exact ⟨fun h1 _ => ⟨h1, fun h3 => absurd h3 hx⟩, fun h1 => absurd h1 hx, fun _ => rfl⟩
    · rw [if_neg hx, if_neg hy]
      refine ⟨fun h1 h2 => ?_, fun h1 => absurd h1 hx, fun h2 => absurd h2 hy⟩
      obtain ⟨h3, h4⟩ := h.le h1 h2
      have hz : z ≠ 0 := fun e => hx (h4 e).1
      rw [if_neg hz]
      exact ⟨h3, fun e => absurd e hz⟩

theorem cmpI_tri (a b c : Int) : Tri (cmpI a b) (cmpI b c) (cmpI a c) := by
  unfold cmpI
  constructor <;> (split <;> split <;> split <;> (try split) <;> (try split) <;> (try split) <;> omega)

theorem cmpI_neg (a b : Int) : cmpI b a = -cmpI a b := by
  unfold cmpI
  split <;> split <;> (try split) <;> omega

theorem cmpI_range (a b : Int) : -1 ≤ cmpI a b ∧ cmpI a b ≤ 1 := by
  unfold cmpI
  split <;> (try split) <;> omega

theorem cmpI_zero {a b : Int} : cmpI a b = 0 ↔ a = b := by
  unfold cmpI
  constructor
  · intro h; split at h <;> (try split at h) <;> omega
  · rintro rfl; simp

def cb1 (a b : UInt8) : Int := if a < b then -1 else if b < a then 1 else 0
theorem cb1_eq (a b : UInt8) : cb1 a b = cmpI a.toNat b.toNat := by
  unfold cb1 cmpI
  simp only [UInt8.lt_iff_toNat_lt]
  split <;> split <;> (try split) <;> (try split) <;> omega

theorem cb_cons (a b : UInt8) (x y : List UInt8) : Lib.compareBytes (a :: x) (b :: y) = lex (cb1 a b) (Lib.compareBytes x y) := by
  rw [Lib.compareBytes, lex, cb1]
  split
  · rfl
  · split <;> rfl

theorem cb_tri : ∀ a b c : List UInt8, Tri (Lib.compareBytes a b) (Lib.compareBytes b c) (Lib.compareBytes a c)
  | [], [], [] => by simp only [Lib.compareBytes]; constructor <;> omega
  | [], [], _ :: _ => by simp only [Lib.compareBytes]; constructor <;> omega
  | [], _ :: _, [] => by simp only [Lib.compareBytes]; constructor <;> omega
  | _ :: _, [], [] => by simp only [Lib.compareBytes]; constructor <;> omega
  | _ :: _, [], _ :: _ => by
    have h1 : ∀ a b : List UInt8, -1 ≤ Lib.compareBytes a b ∧ Lib.compareBytes a b ≤ 1 := fun a b => by
      induction a generalizing b with
      | nil => cases b <;> simp [Lib.compareBytes]
      | cons x xs ih =>
        cases b with
        | nil => simp [Lib.compareBytes]
        | cons y ys =>
          rw [Lib.compareBytes]
          have := ih ys
          split <;> (try split) <;> omega
    simp only [Lib.compareBytes.eq_2, Lib.compareBytes.eq_3]
    constructor <;> omega
  | [], x :: xs, y :: ys => by
    simp only [Lib.compareBytes.eq_2]
    constructor <;> omega
  | x :: xs, y :: ys, [] => by
    simp only [Lib.compareBytes.eq_3]
    constructor <;> omega
  | a :: x, b :: y, c :: z => by
    rw [cb_cons, cb_cons, cb_cons]
    refine Tri.lex ?_ fun _ _ => cb_tri x y z
    rw [cb1_eq, cb1_eq, cb1_eq]
    exact cmpI_tri _ _ _

theorem lex_neg {x y x' y' : Int} (h : y = -x) (h' : y' = -x') : lex y y' = -lex x x' := by
  unfold lex
  split <;> split <;> omega

theorem lex_range {x y : Int} (h : -1 ≤ x ∧ x ≤ 1) (h' : -1 ≤ y ∧ y ≤ 1) : -1 ≤ lex x y ∧ lex x y ≤ 1 := by
  unfold lex
  split <;> assumption

theorem lex_zero {x y : Int} : lex x y = 0 ↔ x = 0 ∧ y = 0 := by
  unfold lex
  split <;> constructor <;> omega

theorem cb_neg : ∀ a b : List UInt8, Lib.compareBytes b a = -Lib.compareBytes a b
  | [], [] => by simp [Lib.compareBytes]
  | [], _ :: _ => by simp [Lib.compareBytes]
  | _ :: _, [] => by simp [Lib.compareBytes]
  | a :: x, b :: y => by
    rw [cb_cons, cb_cons]
    exact lex_neg (by rw [cb1_eq, cb1_eq, cmpI_neg]) (cb_neg x y)

theorem cb_range : ∀ a b : List UInt8, -1 ≤ Lib.compareBytes a b ∧ Lib.compareBytes a b ≤ 1
  | [], [] => by simp [Lib.compareBytes]
  | [], _ :: _ => by simp [Lib.compareBytes]
  | _ :: _, [] => by simp [Lib.compareBytes]
  | a :: x, b :: y => by
    rw [cb_cons]
    exact lex_range (by rw [cb1_eq]; exact cmpI_range _ _) (cb_range x y)

theorem cb_zero : ∀ a b : List UInt8, Lib.compareBytes a b = 0 ↔ a = b
  | [], [] => by simp [Lib.compareBytes]
  | [], _ :: _ => by simp [Lib.compareBytes]
  | _ :: _, [] => by simp [Lib.compareBytes]
  | a :: x, b :: y => by
    rw [cb_cons, lex_zero, cb1_eq, cmpI_zero, cb_zero x y, List.cons.injEq]
    constructor
    · rintro ⟨h1, h2⟩; exact ⟨by rw [← UInt8.toNat_inj]; omega, h2⟩
    · rintro ⟨h1, h2⟩; exact ⟨by rw [h1], h2⟩

theorem order_eq (k n : Int) (s : List UInt8) (l : List T) (k' n' : Int) (s' : List UInt8) (l' : List T) :
    T.order (.mk k n s l) (.mk k' n' s' l') = lex (cmpI k k') (if k = 3 then Lib.compareBytes s s' else if k = 4 then lex (lex (cmpI l.length l'.length) (Lib.compareBytes s s')) (T.orderL l l') else cmpI n n') := by
  rw [T.order]
  unfold lex
  by_cases h : k = k'
  · rw [if_pos h, if_pos (cmpI_zero.2 h)]
  · rw [if_neg h, if_neg (fun e => h (cmpI_zero.1 e))]

mutual
theorem order_tri : ∀ a b c : T, Tri (T.order a b) (T.order b c) (T.order a c)
  | .mk k n s l, .mk k' n' s' l', .mk k'' n'' s'' l'' => by
    rw [order_eq, order_eq, order_eq]
    refine Tri.lex (cmpI_tri _ _ _) fun h1 h2 => ?_
    have e1 := cmpI_zero.1 h1
    have e2 := cmpI_zero.1 h2
    subst e1 e2
    by_cases h3 : k = 3
    · simp only [if_pos h3]
      exact cb_tri _ _ _
    simp only [if_neg h3]
    by_cases h4 : k = 4
    · simp only [if_pos h4]
      refine Tri.lex (Tri.lex (cmpI_tri _ _ _) fun _ _ => cb_tri _ _ _) fun _ _ => orderL_tri l l' l''
    · simp only [if_neg h4]
      exact cmpI_tri _ _ _
theorem orderL_tri : ∀ a b c : List T, Tri (T.orderL a b) (T.orderL b c) (T.orderL a c)
  | [], [], [] => by simp only [T.orderL]; constructor <;> omega
  | [], [], _ :: _ => by simp only [T.orderL]; constructor <;> omega
  | [], _ :: _, [] => by simp only [T.orderL]; constructor <;> omega
  | _ :: _, [], [] => by simp only [T.orderL]; constructor <;> omega
  | x :: xs, [], y :: ys => by simp only [T.orderL]; constructor <;> omega
  | [], x :: xs, y :: ys => by simp only [T.orderL]; constructor <;> omega
  | x :: xs, y :: ys, [] => by simp only [T.orderL]; constructor <;> omega
  | a :: x, b :: y, c :: z => by
    have h := Tri.lex (order_tri a b c) fun _ _ => orderL_tri x y z
    simp only [T.orderL]
    exact h
end

mutual
theorem order_neg : ∀ a b : T, T.order b a = -T.order a b
  | .mk k n s l, .mk k' n' s' l' => by
    rw [order_eq, order_eq]
    by_cases h : k = k'
    · subst h
      refine lex_neg (cmpI_neg _ _) ?_
      by_cases h3 : k = 3
      · simp only [if_pos h3]; exact cb_neg _ _
      simp only [if_neg h3]
      by_cases h4 : k = 4
      · simp only [if_pos h4]
        exact lex_neg (lex_neg (cmpI_neg _ _) (cb_neg _ _)) (orderL_neg l l')
      · simp only [if_neg h4]; exact cmpI_neg _ _
    · unfold lex
      rw [if_neg (fun e => h (cmpI_zero.1 e)), if_neg (fun e => h (cmpI_zero.1 e).symm), cmpI_neg]
theorem orderL_neg : ∀ a b : List T, T.orderL b a = -T.orderL a b
  | [], [] => by simp [T.orderL]
  | [], _ :: _ => by simp [T.orderL]
  | _ :: _, [] => by simp [T.orderL]
  | a :: x, b :: y => by
    have h := lex_neg (order_neg a b) (orderL_neg x y)
    simp only [T.orderL]
    exact h
end

mutual
theorem order_range : ∀ a b : T, -1 ≤ T.order a b ∧ T.order a b ≤ 1
  | .mk k n s l, .mk k' n' s' l' => by
    rw [order_eq]
    refine lex_range (cmpI_range _ _) ?_
    by_cases h3 : k = 3
    · simp only [if_pos h3]; exact cb_range _ _
    simp only [if_neg h3]
    by_cases h4 : k = 4
    · simp only [if_pos h4]; exact lex_range (lex_range (cmpI_range _ _) (cb_range _ _)) (orderL_range l l')
    · simp only [if_neg h4]; exact cmpI_range _ _
theorem orderL_range : ∀ a b : List T, -1 ≤ T.orderL a b ∧ T.orderL a b ≤ 1
  | [], [] => by simp [T.orderL]
  | [], _ :: _ => by simp [T.orderL]
  | _ :: _, [] => by simp [T.orderL]
  | a :: x, b :: y => by
    have h := lex_range (order_range a b) (orderL_range x y)
    simp only [T.orderL]
    exact h
end

mutual
theorem same_iff : ∀ a b : T, T.same a b = true ↔ a = b
  | .mk k n s l, .mk k' n' s' l' => by
    rw [T.same]
    simp only [Bool.and_eq_true, decide_eq_true_eq, T.mk.injEq]
    constructor
    · rintro ⟨⟨⟨⟨h1, h2⟩, h3⟩, h4⟩, h5⟩; exact ⟨h1, h2, h3, (sameL_iff l l' h4).1 h5⟩
    · rintro ⟨h1, h2, h3, h4⟩; exact ⟨⟨⟨⟨h1, h2⟩, h3⟩, by rw [h4]⟩, (sameL_iff l l' (by rw [h4])).2 h4⟩
theorem sameL_iff : ∀ a b : List T, a.length = b.length → (T.sameL a b = true ↔ a = b)
  | [], [], _ => by simp [T.sameL]
  | [], _ :: _, h => by simp at h
  | _ :: _, [], h => by simp at h
  | a :: x, b :: y, h => by
    rw [T.sameL, Bool.and_eq_true, same_iff a b, sameL_iff x y (by simpa using h), List.cons.injEq]
end

mutual
theorem order_zero : ∀ a b : T, a.formed = true → b.formed = true → (T.order a b = 0 ↔ a = b)
  | .mk k n s l, .mk k' n' s' l', ha, hb => by
    rw [order_eq, lex_zero, cmpI_zero, T.mk.injEq]
    by_cases hk : k = k'
    · subst hk
      rw [T.formed] at ha hb
      by_cases h1 : k = 1
      · subst h1
        simp at ha hb
        simp [cmpI_zero, ha, hb]
      by_cases h2 : k = 2
      · subst h2
        simp at ha hb
        simp [cmpI_zero, ha, hb]
      by_cases h3 : k = 3
      · subst h3
        simp at ha hb
        simp [cb_zero, ha, hb]
      by_cases h4 : k = 4
      · subst h4
        simp at ha hb
        simp only [show ¬ (4 : Int) = 3 by decide, if_false, if_true, lex_zero, cmpI_zero, cb_zero, true_and]
        constructor
        · rintro ⟨⟨e1, e2⟩, e3⟩
          exact ⟨by rw [ha.1.1.1.1, hb.1.1.1.1], e2, (orderL_zero l l' ha.2 hb.2).1 e3⟩
        · rintro ⟨e1, e2, e3⟩
          exact ⟨⟨by rw [e3], e2⟩, (orderL_zero l l' ha.2 hb.2).2 e3⟩
      · simp [h1, h2, h3, h4] at ha
    · constructor
      · rintro ⟨e, _⟩; exact absurd e hk
      · rintro ⟨e, _⟩; exact absurd e hk
theorem orderL_zero : ∀ a b : List T, T.formedL a = true → T.formedL b = true → (T.orderL a b = 0 ↔ a = b)
  | [], [], _, _ => by simp [T.orderL]
  | [], _ :: _, _, _ => by simp [T.orderL]
  | _ :: _, [], _, _ => by simp [T.orderL]
  | a :: x, b :: y, ha, hb => by
    rw [T.formedL, Bool.and_eq_true] at ha hb
    have h1 := order_zero a b ha.1 hb.1
    have h2 := orderL_zero x y ha.2 hb.2
    have h : T.orderL (a :: x) (b :: y) = lex (T.order a b) (T.orderL x y) := by simp only [T.orderL]; rfl
    rw [h, lex_zero, h1, h2, List.cons.injEq]
end
end Go.Proofs.Ytgaijgadeodoeaa
