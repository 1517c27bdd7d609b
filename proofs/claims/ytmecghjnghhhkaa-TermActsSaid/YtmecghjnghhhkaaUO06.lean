/-
  Substitutions, plain: maps of maps, variables that occur, sizes, what goes through what.
  cmp.Compare, cmp.isNaN at int and int64, cmp.Or
  term.Order, slices.CompareFunc by it
  The order of terms: a total one (plain).
-/
import Derived.Test.YtmecghjnghhhkaaUO05
import Derived.Test.YtmecghjnghhhkaaUO01
import Derived.Test.YtmecghjnghhhkaaShelf
import Derived.Test.YtmecghjnghhhkaaUO04
namespace Go.Proofs.Ytmecghjnghhhkaa

mutual
theorem T.map_map (f g : Int → T) : ∀ t : T, T.map g (T.map f t) = T.map (fun n => T.map g (f n)) t
  | .mk k n s l => by
    rw [T.map, T.map]
    by_cases h1 : k = 1
    · rw [if_pos h1, if_pos h1]
    · rw [if_neg h1, if_neg h1]
      by_cases h4 : k = 4
      · rw [if_pos h4, if_pos h4, T.map, if_neg h1, if_pos h4, T.mapL_mapL f g l]
      · rw [if_neg h4, if_neg h4, T.map, if_neg h1, if_neg h4]
theorem T.mapL_mapL (f g : Int → T) : ∀ l : List T, T.mapL g (T.mapL f l) = T.mapL (fun n => T.map g (f n)) l
  | [] => by rw [T.mapL, T.mapL, T.mapL]
  | x :: xs => by rw [T.mapL, T.mapL, T.mapL, T.map_map f g x, T.mapL_mapL f g xs]
end

mutual
/-- The variable occurs in the term. -/
def T.occ (n : Int) : T → Prop
  | .mk k m _ l => if k = 1 then m = n else if k = 4 then T.occL n l else False
def T.occL (n : Int) : List T → Prop
  | [] => False
  | x :: xs => T.occ n x ∨ T.occL n xs
end
mutual
theorem T.map_congr {f g : Int → T} : ∀ t : T, (∀ n, T.occ n t → f n = g n) → T.map f t = T.map g t
  | .mk k n s l, h => by
    rw [T.map, T.map]
    by_cases h1 : k = 1
    · rw [if_pos h1, if_pos h1]
      exact h n (by rw [T.occ, if_pos h1])
    · rw [if_neg h1, if_neg h1]
      by_cases h4 : k = 4
      · rw [if_pos h4, if_pos h4, T.mapL_congr l fun m hm => h m (by rw [T.occ, if_neg h1, if_pos h4]; exact hm)]
      · rw [if_neg h4, if_neg h4]
theorem T.mapL_congr {f g : Int → T} : ∀ l : List T, (∀ n, T.occL n l → f n = g n) → T.mapL f l = T.mapL g l
  | [], _ => by rw [T.mapL, T.mapL]
  | x :: xs, h => by
    rw [T.mapL, T.mapL, T.map_congr x fun n hn => h n (by rw [T.occL]; exact .inl hn), T.mapL_congr xs fun n hn => h n (by rw [T.occL]; exact .inr hn)]
end
mutual
theorem T.occ_map {f : Int → T} {m : Int} : ∀ t : T, T.occ m (T.map f t) ↔ ∃ n, T.occ n t ∧ T.occ m (f n)
  | .mk k n s l => by
    rw [T.map]
    by_cases h1 : k = 1
    · rw [if_pos h1]
      constructor
      · intro h; exact ⟨n, by rw [T.occ, if_pos h1], h⟩
      · rintro ⟨j, hj, h⟩
        rw [T.occ, if_pos h1] at hj
        rw [hj]; exact h
    · rw [if_neg h1]
      by_cases h4 : k = 4
      · rw [if_pos h4, T.occ, if_neg h1, if_pos h4, T.occL_map l]
        constructor
        · rintro ⟨j, hj, h⟩; exact ⟨j, by rw [T.occ, if_neg h1, if_pos h4]; exact hj, h⟩
        · rintro ⟨j, hj, h⟩
          rw [T.occ, if_neg h1, if_pos h4] at hj
          exact ⟨j, hj, h⟩
      · rw [if_neg h4, T.occ, if_neg h1, if_neg h4]
        constructor
        · intro h; exact h.elim
        · rintro ⟨j, hj, _⟩
          rw [T.occ, if_neg h1, if_neg h4] at hj
          exact hj
theorem T.occL_map {f : Int → T} {m : Int} : ∀ l : List T, T.occL m (T.mapL f l) ↔ ∃ n, T.occL n l ∧ T.occ m (f n)
  | [] => by
    rw [T.mapL, T.occL]
    constructor
    · intro h; exact h.elim
    · rintro ⟨j, hj, _⟩
      rw [T.occL] at hj
      exact hj
  | x :: xs => by
    rw [T.mapL, T.occL, T.occ_map x, T.occL_map xs]
    constructor
    · rintro (⟨j, hj, h⟩ | ⟨j, hj, h⟩)
      · exact ⟨j, by rw [T.occL]; exact .inl hj, h⟩
      · exact ⟨j, by rw [T.occL]; exact .inr hj, h⟩
    · rintro ⟨j, hj, h⟩
      rw [T.occL] at hj
      rcases hj with hj | hj
      · exact .inl ⟨j, hj, h⟩
      · exact .inr ⟨j, hj, h⟩
end
theorem T.occ_var {n m : Int} : T.occ m (varT n) ↔ n = m := by rw [varT, T.occ, if_pos rfl]
mutual
theorem T.occ_range {n : Int} : ∀ t : T, t.formed = true → T.occ n t → 0 ≤ n ∧ n ≤ 1099511627776
  | .mk k m s l, h, ho => by
    rw [T.occ] at ho
    by_cases h1 : k = 1
    · subst h1
      rw [if_pos rfl] at ho
      subst ho
      exact (formed_var h).1
    · rw [if_neg h1] at ho
      rcases formed_args h with ⟨h4, hl⟩ | ⟨h4, _⟩
      · rw [if_pos h4] at ho
        exact T.occL_range l hl ho
      · rw [if_neg h4] at ho; exact ho.elim
theorem T.occL_range {n : Int} : ∀ l : List T, T.formedL l = true → T.occL n l → 0 ≤ n ∧ n ≤ 1099511627776
  | [], _, ho => by rw [T.occL] at ho; exact ho.elim
  | x :: xs, h, ho => by
    rw [T.formedL, Bool.and_eq_true] at h
    rw [T.occL] at ho
    rcases ho with ho | ho
    · exact T.occ_range x h.1 ho
    · exact T.occL_range xs h.2 ho
end
mutual
/-- How many parts. -/
def T.sz : T → Nat
  | .mk _ _ _ l => T.szL l + 1
def T.szL : List T → Nat
  | [] => 0
  | x :: xs => T.sz x + T.szL xs
end
theorem T.sz_pos (t : T) : 0 < T.sz t := by cases t; rw [T.sz]; omega
mutual
theorem T.sz_occ {f : Int → T} {n : Int} : ∀ t : T, T.occ n t → T.sz (f n) ≤ T.sz (T.map f t) ∧ (t.k ≠ 1 → T.sz (f n) < T.sz (T.map f t))
  | .mk k m s l, h => by
    rw [T.occ] at h
    rw [T.map]
    by_cases h1 : k = 1
    · rw [if_pos h1] at h ⊢
      subst h
      exact ⟨Nat.le_refl _, fun hk => absurd h1 hk⟩
    · rw [if_neg h1] at h ⊢
      by_cases h4 : k = 4
      · rw [if_pos h4] at h ⊢
        have := T.szL_occ (f := f) l h
        rw [T.sz]
        exact ⟨by omega, fun _ => by omega⟩
      · rw [if_neg h4] at h; exact h.elim
theorem T.szL_occ {f : Int → T} {n : Int} : ∀ l : List T, T.occL n l → T.sz (f n) ≤ T.szL (T.mapL f l)
  | [], h => by rw [T.occL] at h; exact h.elim
  | x :: xs, h => by
    rw [T.occL] at h
    rw [T.mapL, T.szL]
    rcases h with h | h
    · have := (T.sz_occ (f := f) x h).1; omega
    · have := T.szL_occ (f := f) xs h; omega
end
theorem T.sz_elem {x : T} : ∀ {l : List T}, x ∈ l → T.sz x ≤ T.szL l
  | y :: ys, h => by
    rw [T.szL]
    rcases List.mem_cons.1 h with rfl | h
    · omega
    · have := T.sz_elem h; omega
theorem T.mapL_eq (f : Int → T) : ∀ l : List T, T.mapL f l = l.map (T.map f)
  | [] => by rw [T.mapL]; rfl
  | x :: xs => by rw [T.mapL, T.mapL_eq f xs]; rfl
theorem T.occL_iff {n : Int} : ∀ l : List T, T.occL n l ↔ ∃ x ∈ l, T.occ n x
  | [] => by rw [T.occL]; simp
  | x :: xs => by rw [T.occL, T.occL_iff xs]; simp
theorem T.map_var (f : Int → T) (n : Int) : T.map f (varT n) = f n := by rw [varT, T.map, if_pos rfl]
/-- What is formed and becomes a variable is one. -/
theorem T.map_is_var {f : Int → T} {t : T} {m : Int} (h : T.map f t = varT m) (hf : t.formed = true) : ∃ n, t = varT n ∧ f n = varT m := by
  obtain ⟨k, n, s, l⟩ := t
  rw [T.map] at h
  by_cases h1 : k = 1
  · subst h1
    rw [if_pos rfl] at h
    obtain ⟨_, rfl, rfl⟩ := formed_var hf
    exact ⟨n, rfl, h⟩
  · rw [if_neg h1] at h
    by_cases h4 : k = 4
    · rw [if_pos h4, varT] at h
      injection h with h2; exact absurd h2 h1
    · rw [if_neg h4, varT] at h
      injection h with h2; exact absurd h2 h1
theorem var_of_k {t : T} (hf : t.formed = true) (hk : t.k = 1) : t = varT t.n := by
  obtain ⟨k, n, s, l⟩ := t
  obtain rfl : k = 1 := hk
  obtain ⟨_, rfl, rfl⟩ := formed_var hf
  rfl

/-- The substitution says no more than what θ says. -/
def Through (θ σ : Int → T) : Prop := ∀ n, T.map θ (σ n) = θ n
theorem Through.map {θ σ : Int → T} (h : Through θ σ) (t : T) : T.map θ (T.map σ t) = T.map θ t := by
  rw [T.map_map]
  exact T.map_congr t fun n _ => h n
theorem through_var (θ : Int → T) : Through θ varT := fun n => T.map_var θ n

/-- One variable is replaced. -/
def oneF (x : Int) (y : T) : Int → T := fun n => if n = x then y else varT n
def stepF (σ : Int → T) (x : Int) (y : T) : Int → T := fun n => T.map (oneF x y) (σ n)
theorem stepF_map (σ : Int → T) (x : Int) (y t : T) : T.map (stepF σ x y) t = T.map (oneF x y) (T.map σ t) := (T.map_map σ (oneF x y) t).symm

/-- A solved form: formed terms of variables that are free, and of two variables the smaller one stays. -/
structure Canon (σ : Int → T) : Prop where
  form : ∀ n, σ n = varT n ∨ ((σ n).formed = true ∧ 0 ≤ n ∧ n ≤ 1099511627776)
  idem : ∀ n m, T.occ m (σ n) → σ m = varT m
  low : ∀ n m, σ n = varT m → m ≤ n

theorem canon_var : Canon varT where
  form n := .inl rfl
  idem n m h := by rfl
  low n m h := by
    rw [varT, varT] at h
    injection h with _ h1
    omega

theorem Canon.fixed {s t : Int → T} (hs : Canon s) (ht : Canon t) (h2 : Through s t) {y : Int} (hy : s y = varT y) : t y = varT y := by
  rcases ht.form y with h | ⟨hf, _⟩
  · exact h
  · obtain ⟨z, hz, hsz⟩ := T.map_is_var ((h2 y).trans hy) hf
    have h3 := ht.low y z hz
    have h4 := hs.low z y hsz
    obtain rfl : z = y := by omega
    exact hz
theorem T.map_fixed {t : Int → T} {u : T} (hf : u.formed = true) (h : ∀ m, T.occ m u → t m = varT m) : T.map t u = u := by
  rw [T.map_congr (g := varT) u h, T.map_varT hf]
/-- Two solved forms that go through one another are the same. -/
theorem Canon.uniq {s t : Int → T} (hs : Canon s) (ht : Canon t) (h1 : Through t s) (h2 : Through s t) : s = t := by
  funext x
  rcases hs.form x with h | ⟨hf, _⟩
  · rw [h, hs.fixed ht h2 h]
  · rw [← h1 x, T.map_fixed hf fun m hm => hs.fixed ht h2 (hs.idem x m hm)]
theorem Canon.map {σ : Int → T} (h : Canon σ) {t : T} (ht : t.formed = true) : (T.map σ t).formed = true :=
  formed_mapped σ (fun n h1 h2 => by
    rcases h.form n with h3 | ⟨h3, _⟩
    · rw [h3]; exact varT_formed ⟨h1, h2⟩
    · exact h3) t ht
theorem Canon.map_idem {σ : Int → T} (h : Canon σ) {t : T} (ht : t.formed = true) : T.map σ (T.map σ t) = T.map σ t :=
  T.map_fixed (h.map ht) fun m hm => by
    obtain ⟨n, _, hn⟩ := (T.occ_map t).1 hm
    exact h.idem n m hn
theorem Canon.occ_free {σ : Int → T} (h : Canon σ) {t : T} {m : Int} (hm : T.occ m (T.map σ t)) : σ m = varT m := by
  obtain ⟨n, _, hn⟩ := (T.occ_map t).1 hm
  exact h.idem n m hn

theorem oneF_not {x : Int} {y t : T} (ht : t.formed = true) (h : ¬ T.occ x t) : T.map (oneF x y) t = t :=
  T.map_fixed ht fun m hm => by
    rw [oneF, if_neg]
    rintro rfl
    exact h hm
theorem oneF_form {x : Int} {y : T} (hy : y.formed = true) (n : Int) (h0 : 0 ≤ n) (h1 : n ≤ 1099511627776) : (oneF x y n).formed = true := by
  rw [oneF]
  split
  · exact hy
  · exact varT_formed ⟨h0, h1⟩
/-- One step: a free variable is bound. -/
theorem Canon.step {σ : Int → T} (h : Canon σ) {x : Int} {y : T} (hx : σ x = varT x) (hr : 0 ≤ x ∧ x ≤ 1099511627776) (hy : y.formed = true) (hyf : ∀ m, T.occ m y → σ m = varT m) (hoc : ¬ T.occ x y) (hlow : ∀ m, y = varT m → m < x) : Canon (stepF σ x y) where
  form n := by
    rcases h.form n with h1 | ⟨h1, h2⟩
    · rw [stepF, h1, T.map_var, oneF]
      split
      · rename_i e; subst e; exact .inr ⟨hy, hr⟩
      · exact .inl rfl
    · exact .inr ⟨formed_mapped _ (oneF_form hy) _ h1, h2⟩
  idem n m hm := by
    have key : ∀ j, σ j = varT j → j ≠ x → stepF σ x y j = varT j := fun j h1 h2 => by rw [stepF, h1, T.map_var, oneF, if_neg h2]
    obtain ⟨j, hj, hm2⟩ := (T.occ_map (σ n)).1 hm
    rw [oneF] at hm2
    split at hm2
    · exact key m (hyf m hm2) (fun e => hoc (by rw [← e]; exact hm2))
    · rename_i hjx
      rw [T.occ_var] at hm2
      rw [← hm2]
      exact key j (h.idem n j hj) hjx
  low n m hm := by
    have hv : ∀ j, oneF x y j = varT m → m ≤ j := fun j hj => by
      rw [oneF] at hj
      split at hj
      · rename_i e; subst e
        have := hlow m hj; omega
      · rw [varT, varT] at hj
        injection hj with _ h1
        omega
    rw [stepF] at hm
    rcases h.form n with h1 | ⟨h1, h2⟩
    · rw [h1, T.map_var] at hm
      exact hv n hm
    · obtain ⟨j, hj, hjm⟩ := T.map_is_var hm h1
      have h3 := h.low n j hj
      have h4 := hv j hjm
      omega
theorem Through.step {θ σ : Int → T} (h : Through θ σ) {x : Int} {y : T} (hxy : T.map θ y = θ x) : Through θ (stepF σ x y) := fun n => by
  rw [stepF, T.map_map]
  refine Eq.trans (T.map_congr _ fun m _ => ?_) (h n)
  rw [oneF]
  split
  · rename_i e; rw [hxy, e]
  · exact T.map_var θ m
theorem Canon.self {σ : Int → T} (h : Canon σ) : Through σ σ := fun n => by
  rcases h.form n with h1 | ⟨h1, _⟩
  · rw [h1, T.map_var]; exact h1
  · exact T.map_fixed h1 fun m hm => h.idem n m hm
theorem Through.back {σ : Int → T} {x : Int} {y : T} (h : Canon σ) : Through (stepF σ x y) σ := fun n => by
  rw [stepF_map, h.self n]
  rfl
theorem Through.trans {θ ρ σ : Int → T} (h1 : Through θ ρ) (h2 : Through ρ σ) : Through θ σ := fun n => by
  rw [← h1.map (σ n), h2 n, h1 n]

/-- The variable occurs deeper: no unifier. -/
theorem no_occ {θ : Int → T} {x : Int} {y : T} (hf : y.formed = true) (ho : T.occ x y) (hne : y ≠ varT x) : T.map θ y ≠ θ x := fun h => by
  have hk : y.k ≠ 1 := fun hk => by
    have h1 := var_of_k hf hk
    rw [h1, T.occ_var] at ho
    rw [ho] at h1
    exact hne h1
  have := (T.sz_occ (f := θ) y ho).2 hk
  rw [h] at this
  omega
end Go.Proofs.Ytmecghjnghhhkaa

namespace Go.Proofs.Ytmecghjnghhhkaa
open Go.RowKit

def cmpI (a b : Int) : Int := if a < b then -1 else if b < a then 1 else 0
theorem cmpI_lt {a b : Int} (h : a < b) : cmpI a b = -1 := by simp [cmpI, h]
theorem cmpI_gt {a b : Int} (h : b < a) : cmpI a b = 1 := by unfold cmpI; rw [if_neg (by omega), if_pos h]
theorem cmpI_eq {a b : Int} (h : a ≤ b) (h' : b ≤ a) : cmpI a b = 0 := by unfold cmpI; rw [if_neg (by omega), if_neg (by omega)]
def RetSame (v : Value) (w : World) (e : Ending) (w' : World) : Prop := e = .returned v ∧ w = w'

theorem ret_same {a b : Int} {w : World} (h : a = b) : RetSame (.int .i64 b) w (.returned (.int .i64 a)) w := ⟨by rw [h], rfl⟩

set_option maxHeartbeats 400000 in
theorem isNaN_int (a : Int) (w : World) : Calls Try.prog 191 #[.int .i64 a] w fun e w' => e = .returned (.bool false) ∧ w = w' := by
  go_enter Try.func191, Try.ntmps191
  go_wp2_with fail
  go_ret
  exact ⟨by simp, rfl⟩

set_option maxHeartbeats 400000 in
theorem isNaN_int64 (a : Int) (w : World) : Calls Try.prog 151 #[.int .i64 a] w fun e w' => e = .returned (.bool false) ∧ w = w' := by
  go_enter Try.func151, Try.ntmps151
  go_wp2_with fail
  go_ret
  exact ⟨by simp, rfl⟩

set_option maxHeartbeats 400000 in
theorem compare_int (a b : Int) (w : World) : Calls Try.prog 153 #[.int .i64 a, .int .i64 b] w (RetSame (.int .i64 (cmpI a b)) w) := by
  go_enter Try.func153, Try.ntmps153
  go_wp2_with (go_at_call 191; refine (isNaN_int _ _).mono ?_; rintro e w' ⟨rfl, rfl⟩)
  all_goals
    go_ret
    first | exact ret_same (cmpI_lt (by assumption)).symm | exact ret_same (cmpI_gt (by assumption)).symm | exact ret_same (cmpI_eq (by assumption) (by assumption)).symm

set_option maxHeartbeats 400000 in
theorem compare_int64 (a b : Int) (w : World) : Calls Try.prog 98 #[.int .i64 a, .int .i64 b] w (RetSame (.int .i64 (cmpI a b)) w) := by
  go_enter Try.func98, Try.ntmps98
  go_wp2_with (go_at_call 151; refine (isNaN_int64 _ _).mono ?_; rintro e w' ⟨rfl, rfl⟩)
  all_goals
    go_ret
    first | exact ret_same (cmpI_lt (by assumption)).symm | exact ret_same (cmpI_gt (by assumption)).symm | exact ret_same (cmpI_eq (by assumption) (by assumption)).symm

set_option maxHeartbeats 400000 in
/-- cmp.Or of two numbers. -/
theorem or_two (x y : Int) (b o : Nat) (w : World) (h0 : w.cell? ⟨b, o, none⟩ = some (.int .i64 x)) (h1 : w.cell? ⟨b, o + 1, none⟩ = some (.int .i64 y)) :
    Calls Try.prog 155 #[.slice (some ⟨b, o, none⟩) 2 2] w (RetSame (.int .i64 (if x = 0 then y else x)) w) := by
  by_cases hx : x = 0
  · subst hx
    by_cases hy : y = 0
    · subst hy
      go_enter Try.func155, Try.ntmps155
      go_wp2_with fail
      go_rounds 3
      go_ret
      exact ret_same (by simp)
    · have hy' : (y != 0) = true := by simp [hy]
      go_enter Try.func155, Try.ntmps155
      go_wp2_with fail
      go_rounds 3
      go_ret
      exact ret_same (by simp)
  · have hx' : (x != 0) = true := by simp [hx]
    rw [if_neg hx]
    go_enter Try.func155, Try.ntmps155
    go_wp2_with fail
    go_rounds 3
    go_ret
    exact ret_same rfl

theorem strings_compare (a b : ByteArray) (w : World) : Calls Try.prog 154 #[.string a, .string b] w (RetSame (.int .i64 (Lib.compareBytes a.toList b.toList)) w) := by
  rw [ByteArray.toList_eq, ByteArray.toList_eq]
  exact (Try.strings_Compare a b w).mono fun e w' ⟨h1, h2⟩ => ⟨h1, h2.symm⟩
end Go.Proofs.Ytmecghjnghhhkaa

namespace Go.Proofs.Ytmecghjnghhhkaa
open Go.RowKit

mutual
/-- The order of terms. -/
def T.order : T → T → Int
  | .mk k n s l, .mk k' n' s' l' =>
    if k = k' then
      if k = 3 then Lib.compareBytes s s'
      else if k = 4 then
        (if (if cmpI l.length l'.length = 0 then Lib.compareBytes s s' else cmpI l.length l'.length) = 0 then T.orderL l l'
         else (if cmpI l.length l'.length = 0 then Lib.compareBytes s s' else cmpI l.length l'.length))
      else cmpI n n'
    else cmpI k k'
def T.orderL : List T → List T → Int
  | [], [] => 0
  | [], _ :: _ => -1
  | _ :: _, [] => 1
  | x :: xs, y :: ys => if T.order x y = 0 then T.orderL xs ys else T.order x y
end

/-- What Order's contract says of two terms, up to a size. -/
def OrderUpto (N : Nat) : Prop := ∀ (t u : Tm) (w : World), SizeOf.sizeOf t ≤ N → t.In w → u.In w →
    Calls Try.prog 100 #[t.val, u.val] w (Ret (.int .i64 (T.order t.erase u.erase)) w)

theorem ret_int' {a b : Int} {w w' : World} (h : a = b) (hb : Gr w w') : Ret (.int .i64 b) w (.returned (.int .i64 a)) w' := ⟨by rw [h], hb⟩

set_option maxHeartbeats 400000 in
theorem compareFunc_calls {N : Nat} (hO : OrderUpto N) {p p' : Option Addr} {c c' : Nat} {l l' : List Tm} {w : World} (h : Tm.Sl w p c l) (h' : Tm.Sl w p' c' l') (hN : ∀ x ∈ l, SizeOf.sizeOf x ≤ N) :
    Calls Try.prog 156 #[.slice p l.length c, .slice p' l'.length c', .func (.func 100) #[] #[]] w (Ret (.int .i64 (T.orderL (Tm.eraseL l) (Tm.eraseL l'))) w) := by
  have H := Lib.hid h
  have H' := Lib.hid h'
  have HO := Lib.hid hO
  have HN := Lib.hid hN
  have hlc := h.1
  have hcb := h.2.1
  have hlc' := h'.1
  have hcb' := h'.2.1
  clear h h' hO hN
  generalize hr : T.orderL (Tm.eraseL l) (Tm.eraseL l') = r
  have Hr := Lib.hid hr
  clear hr
  go_enter Try.func156, Try.ntmps156
  go_wp2_with fail
  go_loopw [13] (fun i wr => ∃ k : Nat, k ≤ l.length ∧ k ≤ l'.length ∧ i = .int .i64 k ∧ Hid (T.orderL (Tm.eraseL (l.drop k)) (Tm.eraseL (l'.drop k)) = r) ∧ Gr w wr)
    (fun i _ => l.length - (intOf i).toNat)
  case atStart => exact ⟨0, Nat.zero_le _, Nat.zero_le _, rfl, Hr.out, by go_grown⟩
  case round =>
    obtain ⟨k, hk, hk', rfl, hpre, hb⟩ := hrel
    have hbs := hb.size
    by_cases hlt : k < l.length
    · have hS := H.out.mono hb
      obtain ⟨b, o, rfl⟩ := hS.ptr (by omega)
      obtain ⟨⟨c0, c1, c2, c3⟩, hx, _⟩ := hS.elem k hlt
      have Hx := Lib.hid hx
      have hmem : l[k] ∈ l := List.getElem_mem hlt
      have Hz := Lib.hid (HN.out _ hmem)
      clear hS hx
      have hdr : Tm.eraseL (l.drop k) = l[k].erase :: Tm.eraseL (l.drop (k + 1)) := by
        rw [List.drop_eq_getElem_cons hlt, Tm.eraseL]
      by_cases hlt' : k < l'.length
      · have hS' := H'.out.mono hb
        obtain ⟨b', o', rfl⟩ := hS'.ptr (by omega)
        obtain ⟨⟨d0, d1, d2, d3⟩, hx', _⟩ := hS'.elem k hlt'
        have Hx' := Lib.hid hx'
        clear hS' hx'
        have hdr' : Tm.eraseL (l'.drop k) = l'[k].erase :: Tm.eraseL (l'.drop (k + 1)) := by
          rw [List.drop_eq_getElem_cons hlt', Tm.eraseL]
        have hst : Hid ((if T.order l[k].erase l'[k].erase = 0 then T.orderL (Tm.eraseL (l.drop (k + 1))) (Tm.eraseL (l'.drop (k + 1))) else T.order l[k].erase l'[k].erase) = r) := by
          have h9 := hpre.out
          rw [hdr, hdr', T.orderL] at h9
          exact h9
        clear hdr hdr' hpre
        generalize hxe : l[k] = x at *
        generalize hxe' : l'[k] = x' at *
        go_wp2_with fail
        refine (HO.out x x' _ Hz.out (Tm.In_below (by go_grown) Hx.out) (Tm.In_below (by go_grown) Hx'.out)).mono ?_
        rintro e w1 ⟨rfl, hb1⟩
        generalize hxf : T.order x.erase x'.erase = ox
        rw [hxf] at hst
        clear hxf
        by_cases ho : ox = 0
        · have Hst : Hid (T.orderL (Tm.eraseL (l.drop (k + 1))) (Tm.eraseL (l'.drop (k + 1))) = r) := (if_pos ho).symm.trans hst.out
          subst ho
          go_wp2_with fail
          go_roundw
          case rel => exact ⟨k + 1, by omega, by omega, by go_num, Hst, below_step hb1 (by go_grown)⟩
          case measure => simp [intOf]; omega
        · have ho' : (ox != 0) = true := by simp [ho]
          go_wp2_with fail
          go_ret
          refine ret_int' ?_ (below_step hb1 (by go_grown))
          rw [← hst.out, if_neg ho]
      · go_wp2_with fail
        go_ret
        refine ret_int' ?_ (by go_grown)
        rw [← hpre.out, hdr, show l'.drop k = [] from List.drop_eq_nil_of_le (by omega), Tm.eraseL, T.orderL]
    · by_cases hlt' : k < l'.length
      · go_wp2_with fail
        go_ret
        refine ret_int' ?_ (by go_grown)
        rw [← hpre.out, show l.drop k = [] from List.drop_eq_nil_of_le (by omega), List.drop_eq_getElem_cons hlt', Tm.eraseL, Tm.eraseL, T.orderL]
      · go_wp2_with fail
        go_ret
        refine ret_int' ?_ (by go_grown)
        rw [← hpre.out, show l.drop k = [] from List.drop_eq_nil_of_le (by omega), show l'.drop k = [] from List.drop_eq_nil_of_le (by omega), Tm.eraseL, T.orderL]

def pairAt (x y : Int) : VP := fun v w => ∃ b : Nat, v = .slice (some ⟨b, 0, none⟩) 2 2 ∧ w.cell? ⟨b, 0, none⟩ = some (.int .i64 x) ∧ w.cell? ⟨b, 1, none⟩ = some (.int .i64 y)
theorem pairAt_mk {x y : Int} {b : Nat} {w : World} (h0 : w.cell? ⟨b, 0, none⟩ = some (.int .i64 x)) (h1 : w.cell? ⟨b, 1, none⟩ = some (.int .i64 y)) : pairAt x y (.slice (some ⟨b, 0, none⟩) 2 2) w := ⟨b, rfl, h0, h1⟩
theorem pairAt_stable {x y : Int} : ∀ v w w', pairAt x y v w → Gr w w' → pairAt x y v w' :=
  fun _ _ _ ⟨b, h1, h2, h3⟩ hg => ⟨b, h1, Gr.at hg h2, Gr.at hg h3⟩

set_option maxHeartbeats 1000000 in
set_option maxRecDepth 100000 in
theorem order_upto (N : Nat) : OrderUpto N := by
  induction N with
  | zero => intro t u w h; cases t; simp at h
  | succ N ih =>
    intro t u w hN h hu
    obtain ⟨k, n, s, p, c, l⟩ := t
    obtain ⟨k', n', s', p', c', l'⟩ := u
    have hsz := fun x (hx : x ∈ l) => Tm.sizeOf_mem hx k n s p c
    have H := Lib.hid h.sl
    have H' := Lib.hid hu.sl
    rw [Tm.In] at h hu
    obtain ⟨_, _, hs, hl, hc, _, _⟩ := h
    obtain ⟨_, _, hs', hl', hc', _, _⟩ := hu
    have Hsz : Hid (∀ x ∈ l, SizeOf.sizeOf x ≤ N) := fun x hx => by have := hsz x hx; omega
    have Hih := Lib.hid ih
    clear hsz ih
    simp only [Tm.val, Tm.k, Tm.n, Tm.s, Tm.p, Tm.c, Tm.l, Tm.erase, T.order, Tm.eraseL_length]
    by_cases hk : k = k'
    · subst hk
      rw [if_pos rfl]
      by_cases hk3 : k = 3
      · subst hk3
        rw [if_pos rfl]
        go_enter Try.func100, Try.ntmps100
        go_wp2_with (go_at_call 154; refine (strings_compare _ _ _).mono ?_; rintro e w' ⟨rfl, rfl⟩)
        go_ret
        exact ret_int' rfl (by go_grown)
      rw [if_neg hk3]
      by_cases hk4 : k = 4
      · subst hk4
        rw [if_pos rfl]
        generalize hz : (if cmpI l.length l'.length = 0 then Lib.compareBytes s.toList s'.toList else cmpI l.length l'.length) = z
        have Hz := Lib.hid hz
        clear hz
        generalize hr : (if z = 0 then _ else z) = r
        have Hr := Lib.hid hr
        clear hr
        go_enter Try.func100, Try.ntmps100
        go_wp2_with fail
        refine wp_region_rely [fx (.pointer (some ⟨w.heap.size, 3, none⟩)), fx (.slice p l.length c), fx (.int .i64 l.length), fx (.pointer (some ⟨w.heap.size + 1, 3, none⟩)), fx (.slice p' l'.length c'), fx (.int .i64 l'.length),
            fx (.int .i64 (cmpI l.length l'.length)), fx (.pointer (some ⟨w.heap.size, 2, none⟩)), fx (.string s), fx (.pointer (some ⟨w.heap.size + 1, 2, none⟩)), fx (.string s'),
            fx (.int .i64 (Lib.compareBytes s.toList s'.toList)), pairAt (cmpI l.length l'.length) (Lib.compareBytes s.toList s'.toList), fx (.int .i64 z), fx (.int .i64 z)]
            (by kernel_rfl) (by kernel_rfl) (by repeat (first | exact Stable.nil | refine Stable.fix ?_ | refine Stable.cons pairAt_stable ?_)) ?_ ?_
        · refine ⟨?_, ?_, ?_, ?_, ?_, ?_, ?_, ?_, ?_, ?_, ?_, ?_, ?a12, ?a13, ?_, trivial⟩
          all_goals
            intro a w1 hg hold
            have h2 : a.tmps[2]?.getD undef = .pointer (some ⟨w.heap.size, 0, none⟩) := hold 2 rfl
            have h3 : a.tmps[3]?.getD undef = .pointer (some ⟨w.heap.size + 1, 0, none⟩) := hold 3 rfl
            clear hold
            have z1 : w1.cell? ⟨w.heap.size, 3, none⟩ = some (.slice p l.length c) := Gr.at hg (by go_cell)
            have z2 : w1.cell? ⟨w.heap.size + 1, 3, none⟩ = some (.slice p' l'.length c') := Gr.at hg (by go_cell)
            have z3 : w1.cell? ⟨w.heap.size, 2, none⟩ = some (.string s) := Gr.at hg (by go_cell)
            have z4 : w1.cell? ⟨w.heap.size + 1, 2, none⟩ = some (.string s') := Gr.at hg (by go_cell)
            simp [predsImp, Region.binds, dstAt, fx]
            intros
            rename_i K hK
            go_simp
          case a12 => exact hK _ _ (pairAt_mk (by go_cell) (by go_cell)) (by go_grown)
          case a13 =>
            have hp : pairAt (cmpI l.length l'.length) (Lib.compareBytes s.toList s'.toList) (a.tmps[39]?.getD undef) w1 := by assumption
            obtain ⟨b, hb, hb0, hb1⟩ := hp
            rw [hb]
            refine (or_two _ _ b 0 _ hb0 hb1).mono ?_
            rintro e w2 ⟨rfl, rfl⟩
            rw [Hz.out]
            exact hK _ _ rfl (Gr.rfl' _)
          all_goals first
            | exact hK _ _ rfl (Gr.rfl' _)
            | (refine (compare_int _ _ _).mono ?_
               rintro e w2 ⟨rfl, rfl⟩
               exact hK _ _ rfl (Gr.rfl' _))
            | (refine (strings_compare _ _ _).mono ?_
               rintro e w2 ⟨rfl, rfl⟩
               exact hK _ _ rfl (Gr.rfl' _))
        · intro w1 hg
          have z1 : w1.cell? ⟨w.heap.size, 3, none⟩ = some (.slice p l.length c) := Gr.at hg (by go_cell)
          have z2 : w1.cell? ⟨w.heap.size + 1, 3, none⟩ = some (.slice p' l'.length c') := Gr.at hg (by go_cell)
          have hg0 : Gr w w1 := below_step hg (by go_grown)
          clear hg
          rintro _ rfl _ rfl _ rfl _ rfl _ rfl _ rfl _ rfl _ rfl _ rfl _ rfl _ rfl _ rfl _ ⟨b, rfl, _, _⟩ _ rfl _ rfl
          simp only [finAll, Act.put, Exit.then, List.setIfInBounds_toArray, List.set_cons_succ, List.set_cons_zero]
          by_cases hz0 : z = 0
          · have hz' : (z != 0) = false := by simp [hz0]
            have HR : Hid (r = T.orderL (Tm.eraseL l) (Tm.eraseL l')) := Hr.out.symm.trans (if_pos hz0)
            clear hz0
            go_wp2_with fail
            refine (compareFunc_calls (N := N) Hih.out (H.out.mono hg0) (H'.out.mono hg0) Hsz.out).mono ?_
            rintro e w2 ⟨rfl, hb2⟩
            go_wp2_with fail
            go_ret
            exact ret_int' HR.out.symm (hg0.trans hb2)
          · have hz' : (z != 0) = true := by simp [hz0]
            have HR : Hid (r = z) := Hr.out.symm.trans (if_neg hz0)
            clear hz0
            go_wp2_with fail
            go_ret
            exact ret_int' HR.out.symm hg0
      · rw [if_neg hk4]
        have hk3' : (k == 3) = false := by simp [hk3]
        have hk4' : (k == 4) = false := by simp [hk4]
        clear hk3 hk4
        go_enter Try.func100, Try.ntmps100
        go_wp2_with (go_at_call 98; refine (compare_int64 _ _ _).mono ?_; rintro e w' ⟨rfl, rfl⟩)
        go_ret
        exact ret_int' rfl (by go_grown)
    · rw [if_neg hk]
      have hk' : (k != k') = true := by simp [hk]
      go_enter Try.func100, Try.ntmps100
      go_wp2_with (go_at_call 153; refine (compare_int _ _ _).mono ?_; rintro e w' ⟨rfl, rfl⟩)
      go_ret
      exact ret_int' rfl (by go_grown)

theorem order_calls {t u : Tm} {w : World} (h : t.In w) (hu : u.In w) : Calls Try.prog 100 #[t.val, u.val] w (Ret (.int .i64 (T.order t.erase u.erase)) w) :=
  order_upto _ t u w (Nat.le_refl _) h hu
end Go.Proofs.Ytmecghjnghhhkaa

namespace Go.Proofs.Ytmecghjnghhhkaa

def lex (x y : Int) : Int := if x = 0 then y else x

/-- Three comparisons that fit. -/
structure Tri (x y z : Int) : Prop where
  le : x ≤ 0 → y ≤ 0 → z ≤ 0 ∧ (z = 0 → x = 0 ∧ y = 0)
  l : x = 0 → z = y
  r : y = 0 → z = x

theorem Tri.lex {x y z x' y' z' : Int} (h : Tri x y z) (h' : x = 0 → y = 0 → Tri x' y' z') : Tri (lex x x') (lex y y') (lex z z') := by
  unfold Go.Proofs.Ytmecghjnghhhkaa.lex
  by_cases hx : x = 0
  · have hz := h.l hx
    by_cases hy : y = 0
    · have hz0 : z = 0 := by omega
      rw [if_pos hx, if_pos hy, if_pos hz0]
      exact h' hx hy
    · rw [if_pos hx, if_neg hy, if_neg (by omega), hz]
      exact ⟨fun _ h2 => ⟨h2, fun h3 => absurd h3 hy⟩, fun _ => rfl, fun h2 => absurd h2 hy⟩
  · by_cases hy : y = 0
    · have hz := h.r hy
      rw [if_neg hx, if_pos hy, if_neg (by omega), hz]
      exact ⟨fun h1 _ => ⟨h1, fun h3 => absurd h3 hx⟩, fun h1 => absurd h1 hx, fun _ => rfl⟩
    · rw [if_neg hx, if_neg hy]
      refine ⟨fun h1 h2 => ?_, fun h1 => absurd h1 hx, fun h2 => absurd h2 hy⟩
      obtain ⟨h3, h4⟩ := h.le h1 h2
      have hz : z ≠ 0 := fun e => hx (h4 e).1
      rw [if_neg hz]
      exact ⟨h3, fun e => absurd e hz⟩

theorem cmpI_tri (a b c : Int) : Tri (cmpI a b) (cmpI b c) (cmpI a c) := by
  unfold cmpI
  constructor <;> (split <;> split <;> split <;> (try split) <;> (try split) <;> (try split) <;> omega)

theorem cmpI_neg (a b : Int) : cmpI b a = -cmpI a b := by
  unfold cmpI
  split <;> split <;> (try split) <;> omega

theorem cmpI_range (a b : Int) : -1 ≤ cmpI a b ∧ cmpI a b ≤ 1 := by
  unfold cmpI
  split <;> (try split) <;> omega

theorem cmpI_zero {a b : Int} : cmpI a b = 0 ↔ a = b := by
  unfold cmpI
  constructor
  · intro h; split at h <;> (try split at h) <;> omega
  · rintro rfl; simp

def cb1 (a b : UInt8) : Int := if a < b then -1 else if b < a then 1 else 0
theorem cb1_eq (a b : UInt8) : cb1 a b = cmpI a.toNat b.toNat := by
  unfold cb1 cmpI
  simp only [UInt8.lt_iff_toNat_lt]
  split <;> split <;> (try split) <;> (try split) <;> omega

theorem cb_cons (a b : UInt8) (x y : List UInt8) : Lib.compareBytes (a :: x) (b :: y) = lex (cb1 a b) (Lib.compareBytes x y) := by
  rw [Lib.compareBytes, lex, cb1]
  split
  · rfl
  · split <;> rfl

theorem cb_tri : ∀ a b c : List UInt8, Tri (Lib.compareBytes a b) (Lib.compareBytes b c) (Lib.compareBytes a c)
  | [], [], [] => by simp only [Lib.compareBytes]; constructor <;> omega
  | [], [], _ :: _ => by simp only [Lib.compareBytes]; constructor <;> omega
  | [], _ :: _, [] => by simp only [Lib.compareBytes]; constructor <;> omega
  | _ :: _, [], [] => by simp only [Lib.compareBytes]; constructor <;> omega
  | _ :: _, [], _ :: _ => by
    have h1 : ∀ a b : List UInt8, -1 ≤ Lib.compareBytes a b ∧ Lib.compareBytes a b ≤ 1 := fun a b => by
      induction a generalizing b with
      | nil => cases b <;> simp [Lib.compareBytes]
      | cons x xs ih =>
        cases b with
        | nil => simp [Lib.compareBytes]
        | cons y ys =>
          rw [Lib.compareBytes]
          have := ih ys
          split <;> (try split) <;> omega
    simp only [Lib.compareBytes.eq_2, Lib.compareBytes.eq_3]
    constructor <;> omega
  | [], x :: xs, y :: ys => by
    simp only [Lib.compareBytes.eq_2]
    constructor <;> omega
  | x :: xs, y :: ys, [] => by
    simp only [Lib.compareBytes.eq_3]
    constructor <;> omega
  | a :: x, b :: y, c :: z => by
    rw [cb_cons, cb_cons, cb_cons]
    refine Tri.lex ?_ fun _ _ => cb_tri x y z
    rw [cb1_eq, cb1_eq, cb1_eq]
    exact cmpI_tri _ _ _

theorem lex_neg {x y x' y' : Int} (h : y = -x) (h' : y' = -x') : lex y y' = -lex x x' := by
  unfold lex
  split <;> split <;> omega

theorem lex_range {x y : Int} (h : -1 ≤ x ∧ x ≤ 1) (h' : -1 ≤ y ∧ y ≤ 1) : -1 ≤ lex x y ∧ lex x y ≤ 1 := by
  unfold lex
  split <;> assumption

theorem lex_zero {x y : Int} : lex x y = 0 ↔ x = 0 ∧ y = 0 := by
  unfold lex
  split <;> constructor <;> omega

theorem cb_neg : ∀ a b : List UInt8, Lib.compareBytes b a = -Lib.compareBytes a b
  | [], [] => by simp [Lib.compareBytes]
  | [], _ :: _ => by simp [Lib.compareBytes]
  | _ :: _, [] => by simp [Lib.compareBytes]
  | a :: x, b :: y => by
    rw [cb_cons, cb_cons]
    exact lex_neg (by rw [cb1_eq, cb1_eq, cmpI_neg]) (cb_neg x y)

theorem cb_range : ∀ a b : List UInt8, -1 ≤ Lib.compareBytes a b ∧ Lib.compareBytes a b ≤ 1
  | [], [] => by simp [Lib.compareBytes]
  | [], _ :: _ => by simp [Lib.compareBytes]
  | _ :: _, [] => by simp [Lib.compareBytes]
  | a :: x, b :: y => by
    rw [cb_cons]
    exact lex_range (by rw [cb1_eq]; exact cmpI_range _ _) (cb_range x y)

theorem cb_zero : ∀ a b : List UInt8, Lib.compareBytes a b = 0 ↔ a = b
  | [], [] => by simp [Lib.compareBytes]
  | [], _ :: _ => by simp [Lib.compareBytes]
  | _ :: _, [] => by simp [Lib.compareBytes]
  | a :: x, b :: y => by
    rw [cb_cons, lex_zero, cb1_eq, cmpI_zero, cb_zero x y, List.cons.injEq]
    constructor
    · rintro ⟨h1, h2⟩; exact ⟨by rw [← UInt8.toNat_inj]; omega, h2⟩
    · rintro ⟨h1, h2⟩; exact ⟨by rw [h1], h2⟩

theorem order_eq (k n : Int) (s : List UInt8) (l : List T) (k' n' : Int) (s' : List UInt8) (l' : List T) :
    T.order (.mk k n s l) (.mk k' n' s' l') = lex (cmpI k k') (if k = 3 then Lib.compareBytes s s' else if k = 4 then lex (lex (cmpI l.length l'.length) (Lib.compareBytes s s')) (T.orderL l l') else cmpI n n') := by
  rw [T.order]
  unfold lex
  by_cases h : k = k'
  · rw [if_pos h, if_pos (cmpI_zero.2 h)]
  · rw [if_neg h, if_neg (fun e => h (cmpI_zero.1 e))]

mutual
theorem order_tri : ∀ a b c : T, Tri (T.order a b) (T.order b c) (T.order a c)
  | .mk k n s l, .mk k' n' s' l', .mk k'' n'' s'' l'' => by
    rw [order_eq, order_eq, order_eq]
    refine Tri.lex (cmpI_tri _ _ _) fun h1 h2 => ?_
    have e1 := cmpI_zero.1 h1
    have e2 := cmpI_zero.1 h2
    subst e1 e2
    by_cases h3 : k = 3
    · simp only [if_pos h3]
      exact cb_tri _ _ _
    simp only [if_neg h3]
    by_cases h4 : k = 4
    · simp only [if_pos h4]
      refine Tri.lex (Tri.lex (cmpI_tri _ _ _) fun _ _ => cb_tri _ _ _) fun _ _ => orderL_tri l l' l''
    · simp only [if_neg h4]
      exact cmpI_tri _ _ _
theorem orderL_tri : ∀ a b c : List T, Tri (T.orderL a b) (T.orderL b c) (T.orderL a c)
  | [], [], [] => by simp only [T.orderL]; constructor <;> omega
  | [], [], _ :: _ => by simp only [T.orderL]; constructor <;> omega
  | [], _ :: _, [] => by simp only [T.orderL]; constructor <;> omega
  | _ :: _, [], [] => by simp only [T.orderL]; constructor <;> omega
  | x :: xs, [], y :: ys => by simp only [T.orderL]; constructor <;> omega
  | [], x :: xs, y :: ys => by simp only [T.orderL]; constructor <;> omega
  | x :: xs, y :: ys, [] => by simp only [T.orderL]; constructor <;> omega
  | a :: x, b :: y, c :: z => by
    have h := Tri.lex (order_tri a b c) fun _ _ => orderL_tri x y z
    simp only [T.orderL]
    exact h
end

mutual
theorem order_neg : ∀ a b : T, T.order b a = -T.order a b
  | .mk k n s l, .mk k' n' s' l' => by
    rw [order_eq, order_eq]
    by_cases h : k = k'
    · subst h
      refine lex_neg (cmpI_neg _ _) ?_
      by_cases h3 : k = 3
      · simp only [if_pos h3]; exact cb_neg _ _
      simp only [if_neg h3]
      by_cases h4 : k = 4
      · simp only [if_pos h4]
        exact lex_neg (lex_neg (cmpI_neg _ _) (cb_neg _ _)) (orderL_neg l l')
      · simp only [if_neg h4]; exact cmpI_neg _ _
    · unfold lex
      rw [if_neg (fun e => h (cmpI_zero.1 e)), if_neg (fun e => h (cmpI_zero.1 e).symm), cmpI_neg]
theorem orderL_neg : ∀ a b : List T, T.orderL b a = -T.orderL a b
  | [], [] => by simp [T.orderL]
  | [], _ :: _ => by simp [T.orderL]
  | _ :: _, [] => by simp [T.orderL]
  | a :: x, b :: y => by
    have h := lex_neg (order_neg a b) (orderL_neg x y)
    simp only [T.orderL]
    exact h
end

mutual
theorem order_range : ∀ a b : T, -1 ≤ T.order a b ∧ T.order a b ≤ 1
  | .mk k n s l, .mk k' n' s' l' => by
    rw [order_eq]
    refine lex_range (cmpI_range _ _) ?_
    by_cases h3 : k = 3
    · simp only [if_pos h3]; exact cb_range _ _
    simp only [if_neg h3]
    by_cases h4 : k = 4
    · simp only [if_pos h4]; exact lex_range (lex_range (cmpI_range _ _) (cb_range _ _)) (orderL_range l l')
    · simp only [if_neg h4]; exact cmpI_range _ _
theorem orderL_range : ∀ a b : List T, -1 ≤ T.orderL a b ∧ T.orderL a b ≤ 1
  | [], [] => by simp [T.orderL]
  | [], _ :: _ => by simp [T.orderL]
  | _ :: _, [] => by simp [T.orderL]
  | a :: x, b :: y => by
    have h := lex_range (order_range a b) (orderL_range x y)
    simp only [T.orderL]
    exact h
end

mutual
theorem same_iff : ∀ a b : T, T.same a b = true ↔ a = b
  | .mk k n s l, .mk k' n' s' l' => by
    rw [T.same]
    simp only [Bool.and_eq_true, decide_eq_true_eq, T.mk.injEq]
    constructor
    · rintro ⟨⟨⟨⟨h1, h2⟩, h3⟩, h4⟩, h5⟩; exact ⟨h1, h2, h3, (sameL_iff l l' h4).1 h5⟩
    · rintro ⟨h1, h2, h3, h4⟩; exact ⟨⟨⟨⟨h1, h2⟩, h3⟩, by rw [h4]⟩, (sameL_iff l l' (by rw [h4])).2 h4⟩
theorem sameL_iff : ∀ a b : List T, a.length = b.length → (T.sameL a b = true ↔ a = b)
  | [], [], _ => by simp [T.sameL]
  | [], _ :: _, h => by simp at h
  | _ :: _, [], h => by simp at h
  | a :: x, b :: y, h => by
    rw [T.sameL, Bool.and_eq_true, same_iff a b, sameL_iff x y (by simpa using h), List.cons.injEq]
end

mutual
theorem order_zero : ∀ a b : T, a.formed = true → b.formed = true → (T.order a b = 0 ↔ a = b)
  | .mk k n s l, .mk k' n' s' l', ha, hb => by
    rw [order_eq, lex_zero, cmpI_zero, T.mk.injEq]
    by_cases hk : k = k'
    · subst hk
      rw [T.formed] at ha hb
      by_cases h1 : k = 1
      · subst h1
        simp at ha hb
        simp [cmpI_zero, ha, hb]
      by_cases h2 : k = 2
      · subst h2
        simp at ha hb
        simp [cmpI_zero, ha, hb]
      by_cases h3 : k = 3
      · subst h3
        simp at ha hb
        simp [cb_zero, ha, hb]
      by_cases h4 : k = 4
      · subst h4
        simp at ha hb
        simp only [show ¬ (4 : Int) = 3 by decide, if_false, if_true, lex_zero, cmpI_zero, cb_zero, true_and]
        constructor
        · rintro ⟨⟨e1, e2⟩, e3⟩
          exact ⟨by rw [ha.1.1.1.1, hb.1.1.1.1], e2, (orderL_zero l l' ha.2 hb.2).1 e3⟩
        · rintro ⟨e1, e2, e3⟩
          exact ⟨⟨by rw [e3], e2⟩, (orderL_zero l l' ha.2 hb.2).2 e3⟩
      · simp [h1, h2, h3, h4] at ha
    · constructor
      · rintro ⟨e, _⟩; exact absurd e hk
      · rintro ⟨e, _⟩; exact absurd e hk
theorem orderL_zero : ∀ a b : List T, T.formedL a = true → T.formedL b = true → (T.orderL a b = 0 ↔ a = b)
  | [], [], _, _ => by simp [T.orderL]
  | [], _ :: _, _, _ => by simp [T.orderL]
  | _ :: _, [], _, _ => by simp [T.orderL]
  | a :: x, b :: y, ha, hb => by
    rw [T.formedL, Bool.and_eq_true] at ha hb
    have h1 := order_zero a b ha.1 hb.1
    have h2 := orderL_zero x y ha.2 hb.2
    have h : T.orderL (a :: x) (b :: y) = lex (T.order a b) (T.orderL x y) := by simp only [T.orderL]; rfl
    rw [h, lex_zero, h1, h2, List.cons.injEq]
end
end Go.Proofs.Ytmecghjnghhhkaa
