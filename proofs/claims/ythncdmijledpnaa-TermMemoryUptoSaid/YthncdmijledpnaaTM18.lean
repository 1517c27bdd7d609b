/-
  A store, plain: what its variables come to; a bind more; lists of binds of a solved form.
  hornref.first: the first place at which two terms differ.
  hornref.Has, hornref.vars, hornref.Vars
  hornref.vars, hornref.Vars
  Robinson's road, plain: how many variables are free; which variables a term has; formed terms do not lie on zero blocks.
  Variants, plain: what is renamed is a variant; two terms are variants just if each can be laid on the other.
  The code of an error, from the form.
  term.Variant.
  A term's parts in their order, and its variables read off them (no program here).
  term.Parts as an iterator: a term's parts in their order, whatever the loop's body does to its own list.
-/
import Derived.Test.YthncdmijledpnaaTM16
import Derived.Test.YthncdmijledpnaaTM15
import Derived.BigRegion
import Derived.Test.YthncdmijledpnaaTM09
import Derived.Test.YthncdmijledpnaaTM17
import Derived.Test.YthncdmijledpnaaTM06
import Derived.Test.YthncdmijledpnaaTM10
import Derived.Test.YthncdmijledpnaaTM08
import Derived.Test.YthncdmijledpnaaTM05
import Derived.RangeFuncNested
import Derived.RangeFuncBound
import Derived.RangeFuncCalls
import Derived.RangeFuncLeaves
import Derived.Shelf.Abstract
import Derived.Shelf.RegionOpen
import Derived.WalkKit
import Derived.OwnWalkIn
import Derived.TacticsInMore
import Derived.LoopNIn
import Derived.LoopIn
import Derived.Maps.OwnIn
namespace Go.Proofs.Ythncdmijledpnaa

/-- A store: what variables are bound to, and what each one comes to. -/
structure StoreOk (σ : Int → Option T) (ρ : Int → T) : Prop where
  canon : Canon ρ
  bound : ∀ n t, σ n = some t → t.formed = true ∧ (0 ≤ n ∧ n ≤ 1099511627776) ∧ ρ n = T.map ρ t ∧ ∀ m, t = varT m → m < n
  free : ∀ n, σ n = none → ρ n = varT n

theorem StoreOk.empty : StoreOk (fun _ => none) varT where
  canon := canon_var
  bound _ _ h := nomatch h
  free _ _ := rfl
theorem StoreOk.open_ {σ : Int → Option T} {ρ : Int → T} (h : StoreOk σ ρ) {n : Int} (hn : ρ n = varT n) : σ n = none := by
  cases hs : σ n with
  | none => rfl
  | some t =>
    obtain ⟨h1, _, h3, h4⟩ := h.bound n t hs
    obtain ⟨z, hz, hzn⟩ := T.map_is_var (h3.symm.trans hn) h1
    have := h4 z hz
    have := h.canon.low z n hzn
    omega
theorem StoreOk.bind {σ : Int → Option T} {ρ : Int → T} (h : StoreOk σ ρ) {x : Int} {t : T} (hx : σ x = none) (hr : 0 ≤ x ∧ x ≤ 1099511627776) (ht : t.formed = true) (hoc : ¬ T.occ x (T.map ρ t)) (hlow : ∀ m, t = varT m → m < x) :
    StoreOk (putF σ x t) (stepF ρ x (T.map ρ t)) where
  canon := h.canon.step (h.free x hx) hr (h.canon.map ht) (fun m hm => h.canon.occ_free hm) hoc fun m hm => by
    obtain ⟨z, hz, hzm⟩ := T.map_is_var hm ht
    have := hlow z hz
    have := h.canon.low z m hzm
    omega
  bound n u hu := by
    rw [putF] at hu
    by_cases hn : n = x
    · rw [if_pos hn] at hu
      cases hu
      subst hn
      refine ⟨ht, hr, ?_, hlow⟩
      rw [stepF_map, oneF_not (h.canon.map ht) hoc, stepF, h.free _ hx, T.map_var, oneF, if_pos rfl]
    · rw [if_neg hn] at hu
      obtain ⟨h1, h2, h3, h4⟩ := h.bound n u hu
      refine ⟨h1, h2, ?_, h4⟩
      rw [stepF_map, stepF, h3]
  free n hn := by
    rw [putF] at hn
    by_cases hnx : n = x
    · rw [if_pos hnx] at hn; cases hn
    · rw [if_neg hnx] at hn
      rw [stepF, h.free n hn, T.map_var, oneF, if_neg hnx]
/-! ### Lists of binds of a solved form -/
theorem lookup_none : ∀ {l : List Bd} {n : Int}, (∀ y ∈ l, y.v ≠ n) → lookupT l n = varT n
  | [], _, _ => by rw [lookupT]
  | x :: xs, n, h => by
    rw [lookupT, if_neg (h x (by simp)), lookup_none fun y hy => h y (by simp [hy])]
theorem lookup_mem : ∀ {l : List Bd} {y : Bd}, l.Pairwise (fun a b => a.v < b.v) → y ∈ l → lookupT l y.v = y.t.erase
  | x :: xs, y, hp, hy => by
    rw [List.pairwise_cons] at hp
    rw [lookupT]
    rcases List.mem_cons.1 hy with rfl | hy
    · rw [if_pos rfl]
    · have := hp.1 y hy
      rw [if_neg (by omega), lookup_mem hp.2 hy]
theorem asc_pairwise {l : List Bd} (h : ascB (-1) l = true) : l.Pairwise (fun a b => a.v < b.v) := by
  have hs := (asc_spec l (-1) h).2
  rw [List.pairwise_iff_getElem]
  intro i j hi hj hij
  exact hs i j hi hj hij
/-- The list of a solved form. -/
def ListOf (ρ : Int → T) (l : List Bd) : Prop := IsBinds (fun n => some (ρ n)) l
theorem IsBinds.lookup {f : Int → Option T} {l : List Bd} (h : IsBinds f l) (n : Int) : lookupT l n = (f n).getD (varT n) := by
  by_cases hn : ∃ y ∈ l, y.v = n
  · obtain ⟨y, hy, rfl⟩ := hn
    rw [lookup_mem (asc_pairwise h.1) hy, ((h.2.1 y.v y.t.erase).1 ⟨y, hy, rfl, rfl⟩).1]
    rfl
  · rw [lookup_none fun y hy e => hn ⟨y, hy, e⟩]
    cases hf : f n with
    | none => rfl
    | some t =>
      by_cases ht : t = varT n
      · rw [ht]; rfl
      · obtain ⟨y, hy, h1, _⟩ := (h.2.1 n t).2 ⟨hf, ht⟩
        exact absurd ⟨y, hy, h1⟩ hn
theorem IsBinds.total {f : Int → Option T} {l : List Bd} (h : IsBinds f l) : ListOf (fun n => (f n).getD (varT n)) l := by
  refine ⟨h.1, fun n t => (h.2.1 n t).trans ?_, h.2.2⟩
  show _ ↔ (some ((f n).getD (varT n)) = some t ∧ _)
  constructor
  · rintro ⟨h1, h2⟩
    exact ⟨by rw [h1]; rfl, h2⟩
  · rintro ⟨h1, h2⟩
    cases hf : f n with
    | none => rw [hf] at h1; exact absurd (Option.some.inj h1).symm h2
    | some u => rw [hf] at h1; exact ⟨h1, h2⟩
theorem ListOf.lookup {ρ : Int → T} {l : List Bd} (h : ListOf ρ l) : lookupT l = ρ := funext fun n => IsBinds.lookup h n
theorem ListOf.empty : ListOf varT [] :=
  ⟨rfl, fun _ _ => ⟨(fun ⟨_, hy, _⟩ => nomatch hy), fun ⟨h1, h2⟩ => absurd (Option.some.inj h1).symm h2⟩, (fun _ hy => nomatch hy)⟩
theorem putAll_get (g : Bd → T) (l : List Bd) (f : Int → Option T) (hp : l.Pairwise (fun a b => a.v < b.v)) {y : Bd} (hy : y ∈ l) : putAll g l f y.v = some (g y) := by
  induction l generalizing f with
  | nil => exact nomatch hy
  | cons x xs ih =>
    rw [List.pairwise_cons] at hp
    show putAll g xs (fun n => if n = x.v then some (g x) else f n) y.v = _
    rcases List.mem_cons.1 hy with rfl | hy
    · rw [putAll_none _ _ _ _ fun z hz => by have := hp.1 z hz; omega, if_pos rfl]
    · exact ih _ hp.2 hy
theorem compM_get {s u : List Bd} (hs : ascB (-1) s = true) (hu : ascB (-1) u = true) (n : Int) : (compM s u n).getD (varT n) = T.map (lookupT u) (lookupT s n) := by
  rw [compM]
  by_cases h1 : ∃ y ∈ s, y.v = n
  · obtain ⟨y, hy, rfl⟩ := h1
    rw [putAll_get _ _ _ (asc_pairwise hs) hy, lookup_mem (asc_pairwise hs) hy]
    rfl
  · rw [putAll_none _ _ _ _ fun y hy e => h1 ⟨y, hy, e⟩, lookup_none fun y hy e => h1 ⟨y, hy, e⟩, T.map_var]
    by_cases h2 : ∃ y ∈ u, y.v = n
    · obtain ⟨y, hy, rfl⟩ := h2
      rw [putAll_get _ _ _ (asc_pairwise hu) hy, lookup_mem (asc_pairwise hu) hy]
      rfl
    · rw [putAll_none _ _ _ _ fun y hy e => h2 ⟨y, hy, e⟩, lookup_none fun y hy e => h2 ⟨y, hy, e⟩]
      rfl
theorem ListOf.comp {ρ : Int → T} {s u l : List Bd} (hs : ListOf ρ s) (hu : ascB (-1) u = true) (h : IsBinds (compM s u) l) : ListOf (fun n => T.map (lookupT u) (ρ n)) l := by
  have h1 := h.total
  have h2 : (fun n => (compM s u n).getD (varT n)) = fun n => T.map (lookupT u) (ρ n) := funext fun n => by
    rw [compM_get hs.1 hu, hs.lookup]
  rw [h2] at h1
  exact h1
theorem lookup_one (x : Bd) : lookupT [x] = oneF x.v x.t.erase := funext fun n => by
  rw [lookupT, lookupT, oneF]
  by_cases h : x.v = n
  · rw [if_pos h, if_pos h.symm]
  · rw [if_neg h, if_neg fun e => h e.symm]
theorem ListOf.step {ρ : Int → T} {s l : List Bd} {x : Bd} (hs : ListOf ρ s) (hx : 0 ≤ x.v ∧ x.v ≤ 1099511627776) (h : IsBinds (compM s [x]) l) : ListOf (stepF ρ x.v x.t.erase) l := by
  have h1 := hs.comp (u := [x]) (by rw [ascB, ascB, decide_eq_true (show -1 < x.v by omega), decide_eq_true hx.2]; rfl) h
  rw [lookup_one] at h1
  exact h1
theorem ListOf.uniq {ρ : Int → T} {l l' : List Bd} (h : ListOf ρ l) (h' : ListOf ρ l') : seeBds l = seeBds l' := IsBinds.uniq h h'
/-! ### All pairs -/
/-- What is known of a store that holds these pairs. -/
def Holds (E : List (T × T)) (ρ : Int → T) : Prop := Unif ρ E ∧ ∀ θ, Unif θ E → Through θ ρ
theorem Holds.snoc {E : List (T × T)} {ρ ρ' : Int → T} (h : Holds E ρ) {a b : T} (h1 : Through ρ' ρ) (h2 : T.map ρ' a = T.map ρ' b) (h3 : ∀ θ, Through θ ρ → T.map θ a = T.map θ b → Through θ ρ') : Holds (E ++ [(a, b)]) ρ' := by
  refine ⟨fun p hp => ?_, fun θ hθ => ?_⟩
  · rcases List.mem_append.1 hp with hp | hp
    · rw [← h1.map p.1, h.1 p hp, h1.map]
    · rw [List.mem_singleton] at hp
      subst hp
      exact h2
  · exact h3 θ (h.2 θ fun p hp => hθ p (List.mem_append.2 (.inl hp))) (hθ (a, b) (List.mem_append.2 (.inr (by simp))))
theorem Rob.holds {E : List (T × T)} {r : Int → T} (hE : FormedP E) (hr : Rob varT E (.done r)) : Canon r ∧ Holds E r := by
  obtain ⟨h1, _⟩ := hr.sound canon_var hE
  obtain ⟨g1, _, g3, g4⟩ := h1 r rfl
  exact ⟨g1, g3, fun θ hθ => g4 θ (through_var θ) hθ⟩
theorem Rob.none {E : List (T × T)} (hE : FormedP E) (hr : Rob varT E .clash) : ∀ θ, ¬ Unif θ E := fun θ => (hr.sound canon_var hE).2 rfl θ (through_var θ)
end Go.Proofs.Ythncdmijledpnaa

namespace Go.Proofs.Ythncdmijledpnaa
open Go.RowKit Go.Lib


/-- Stores of a term into a block. -/
theorem Blk4.sets {w : World} {b : Nat} {u0 u1 u2 u3 : Value} (h : Blk4 w b u0 u1 u2 u3) (v0 v1 v2 v3 : Value) : Blk4 ((((w.setCell ⟨b, 0, none⟩ v0).setCell ⟨b, 1, none⟩ v1).setCell ⟨b, 2, none⟩ v2).setCell ⟨b, 3, none⟩ v3) b v0 v1 v2 v3 := by
  have h1 : BlkT w b 25 #[u0, u1, u2, u3] := h
  exact (((h1.set 0 v0).set 1 v1).set 2 v2).set 3 v3
theorem Kp.sets {C : Nat → Prop} {w : World} {b : Nat} (hb : C b) (v0 v1 v2 v3 : Value) : Kp C w ((((w.setCell ⟨b, 0, none⟩ v0).setCell ⟨b, 1, none⟩ v1).setCell ⟨b, 2, none⟩ v2).setCell ⟨b, 3, none⟩ v3) :=
  (((Kp.set hb).trans (Kp.set hb)).trans (Kp.set hb)).trans (Kp.set hb)
end Go.Proofs.Ythncdmijledpnaa

namespace Go.Proofs.Ythncdmijledpnaa
open Go.RowKit

end Go.Proofs.Ythncdmijledpnaa

namespace Go.Proofs.Ythncdmijledpnaa
open Go.RowKit

theorem VarsOk.in64 {V : List Int} (h : VarsOk V) : ∀ n ∈ V, In64 n := fun n hn => by have := h.2 n hn; exact ⟨by omega, by omega⟩

end Go.Proofs.Ythncdmijledpnaa

namespace Go.Proofs.Ythncdmijledpnaa
open Go.RowKit Go.Lib

theorem ListOf.err {ρ : Int → T} {l : List Bd} (h : ListOf ρ l) : bindsErr l = 0 := by
  rw [bindsErr, if_pos (List.all_eq_true.2 fun y hy => (h.2.2 y hy).1), if_pos h.1]
theorem Tm.erase_k (x : Tm) : x.erase.k = x.k := by cases x; rfl
theorem Tm.erase_n (x : Tm) : x.erase.n = x.n := by cases x; rfl
end Go.Proofs.Ythncdmijledpnaa

namespace Go.Proofs.Ythncdmijledpnaa

theorem map_varT {t : T} (hf : t.formed = true) : T.map varT t = t := T.map_fixed hf fun _ _ => rfl

end Go.Proofs.Ythncdmijledpnaa

namespace Go.Proofs.Ythncdmijledpnaa
open Go.RowKit Go.Maps Go.Lib
def errOf (f : Bool) : Int := if f then 0 else 2
theorem own_ltA {w : World} {B e sz n : Nat} {v : Value} {xs : List Value} (h : w.ownsRow B e sz v n xs) {b : Nat} (hb : v.ownBlock = some b) : b < w.heap.size := by
  rcases h.2 with ⟨rfl, _⟩ | ⟨g, cap, cur, rfl, h2, h3, h4⟩
  · cases hb
  · cases hb
    exact (Array.getElem?_eq_some_iff.1 h3).1
end Go.Proofs.Ythncdmijledpnaa

namespace Go.Proofs.Ythncdmijledpnaa
open Go.RowKit Go.Maps Go.Lib

theorem ren_one {d : Int} {a : T} {lm : List Tm} (h : Tm.eraseL lm = T.mapL (swapF d (T.varsL [a] [])) [a]) : ∃ x : Tm, lm = [x] ∧ x.erase = T.map (swapF d (T.varsL [a] [])) a := by
  rw [T.mapL, T.mapL] at h
  match lm, h with
  | [], h => rw [Tm.eraseL] at h; cases h
  | [x], h =>
    rw [Tm.eraseL, Tm.eraseL] at h
    injection h with h1 h2
    exact ⟨x, rfl, h1⟩
  | x :: y :: zs, h =>
    rw [Tm.eraseL, Tm.eraseL] at h
    injection h with h1 h2
    cases h2
theorem erase_one (t : Tm) : Tm.eraseL [t] = [t.erase] := by rw [Tm.eraseL, Tm.eraseL]

end Go.Proofs.Ythncdmijledpnaa

namespace Go.Proofs.Ythncdmijledpnaa
open Go.RowKit

mutual
/-- A term ahead of its Args, and so on. -/
def Tm.pre : Tm → List Tm
  | .mk k n s p c l => .mk k n s p c l :: Tm.preL l
def Tm.preL : List Tm → List Tm
  | [] => []
  | x :: xs => Tm.pre x ++ Tm.preL xs
end
theorem Tm.pre_eq (t : Tm) : t.pre = t :: Tm.preL t.l := by obtain ⟨k, n, s, p, c, l⟩ := t; rw [Tm.pre]; rfl
/-- A part, of which a loop's body may know this much. -/
abbrev Pt := { x : Tm // In64 x.k ∧ In64 x.n ∧ x.l.length ≤ x.c ∧ x.c ≤ 9223372036854775807 ∧ (x.k = 1 → 0 ≤ x.n ∧ x.n ≤ 1099515822080) }

mutual
theorem Tm.pre_ok {w : World} : ∀ {t : Tm}, t.In w → t.erase.fmd = true → ∃ xs : List Pt, xs.map Subtype.val = t.pre
  | .mk k n s p c l, hi, hf => by
    have hi0 := hi
    rw [Tm.In] at hi
    have hk : In64 k ∧ In64 n := ⟨⟨hi.1.1, hi.1.2⟩, ⟨hi.2.1.1, hi.2.1.2⟩⟩
    have hrest : ∃ ys : List Pt, ys.map Subtype.val = Tm.preL l := by
      rw [Tm.erase] at hf
      rcases fmd_args hf with ⟨_, h⟩ | ⟨_, h⟩
      · exact Tm.preL_ok hi.2.2.2.2.2.2 h
      · have hl : l = [] := by
          have := congrArg List.length h
          rw [Tm.eraseL_length] at this
          exact List.eq_nil_of_length_eq_zero this
        rw [hl, Tm.preL]
        exact ⟨[], rfl⟩
    obtain ⟨ys, hys⟩ := hrest
    refine ⟨⟨.mk k n s p c l, hk.1, hk.2, hi.2.2.2.1, hi.2.2.2.2.1.2, fun h1 => ?_⟩ :: ys, by rw [List.map_cons, hys, Tm.pre]⟩
    have h1' : k = 1 := h1
    subst h1'
    rw [Tm.erase] at hf
    exact (fmd_var hf).1
theorem Tm.preL_ok {w : World} : ∀ {l : List Tm}, Tm.InL w l → T.fmdL (Tm.eraseL l) = true → ∃ xs : List Pt, xs.map Subtype.val = Tm.preL l
  | [], _, _ => ⟨[], by rw [Tm.preL]; rfl⟩
  | x :: xs, hi, hf => by
    rw [Tm.InL] at hi
    rw [Tm.eraseL, T.fmdL, Bool.and_eq_true] at hf
    obtain ⟨a, ha⟩ := Tm.pre_ok hi.1 hf.1
    obtain ⟨b, hb⟩ := Tm.preL_ok hi.2 hf.2
    exact ⟨a ++ b, by rw [List.map_append, ha, hb, Tm.preL]⟩
end

/-- One round: a variable that has not come. -/
def seeOne (V : List Int) (x : Pt) : List Int := if x.1.k = 1 then withVar V x.1.n else V
def seeAll (V : List Int) (xs : List Pt) : List Int := xs.foldl seeOne V
theorem seeAll_snoc (V : List Int) (xs : List Pt) (x : Pt) : seeAll V (xs ++ [x]) = seeOne (seeAll V xs) x := by simp [seeAll]
theorem seeAll_append (V : List Int) (xs ys : List Pt) : seeAll V (xs ++ ys) = seeAll (seeAll V xs) ys := by simp [seeAll]

theorem VarsOkB.seeOne {V : List Int} (h : VarsOkB V) (x : Pt) : VarsOkB (Go.Proofs.Ythncdmijledpnaa.seeOne V x) := by
  unfold Go.Proofs.Ythncdmijledpnaa.seeOne
  split
  · exact h.one (x.2.2.2.2.2 ‹_›)
  · exact h
theorem VarsOkB.seeAll {V : List Int} (h : VarsOkB V) (xs : List Pt) : VarsOkB (Go.Proofs.Ythncdmijledpnaa.seeAll V xs) := by
  induction xs generalizing V with
  | nil => exact h
  | cons x xs ih => exact ih (h.seeOne x)

mutual
theorem see_vars : ∀ (t : Tm) (V : List Int) (xs : List Pt), t.erase.fmd = true → xs.map Subtype.val = t.pre → seeAll V xs = T.vars t.erase V
  | .mk k n s p c l, V, xs, hf, hx => by
    rw [Tm.pre] at hx
    match xs, hx with
    | x :: ys, hx =>
      rw [List.map_cons] at hx
      injection hx with h1 h2
      rw [Tm.erase] at hf ⊢
      rw [T.vars]
      show seeAll (seeOne V x) ys = _
      unfold seeOne
      rw [h1]
      show seeAll (if k = 1 then withVar V n else V) ys = _
      by_cases hk : k = 1
      · subst hk
        rw [if_pos rfl, if_pos rfl]
        have hl : l = [] := by
          have := congrArg List.length (fmd_var hf).2.2
          rw [Tm.eraseL_length] at this
          exact List.eq_nil_of_length_eq_zero this
        subst hl
        rw [Tm.preL] at h2
        obtain rfl : ys = [] := List.map_eq_nil_iff.1 h2
        rfl
      · rw [if_neg hk, if_neg hk]
        rcases fmd_args hf with ⟨_, h⟩ | ⟨_, h⟩
        · exact see_varsL l V ys h h2
        · have hl : l = [] := by
            have := congrArg List.length h
            rw [Tm.eraseL_length] at this
            exact List.eq_nil_of_length_eq_zero this
          subst hl
          rw [Tm.preL] at h2
          obtain rfl : ys = [] := List.map_eq_nil_iff.1 h2
          rw [Tm.eraseL, T.varsL]; rfl
theorem see_varsL : ∀ (l : List Tm) (V : List Int) (xs : List Pt), T.fmdL (Tm.eraseL l) = true → xs.map Subtype.val = Tm.preL l → seeAll V xs = T.varsL (Tm.eraseL l) V
  | [], V, xs, _, hx => by
    rw [Tm.preL] at hx
    obtain rfl : xs = [] := List.map_eq_nil_iff.1 hx
    rw [Tm.eraseL, T.varsL]; rfl
  | x :: r, V, xs, hf, hx => by
    rw [Tm.eraseL, T.fmdL, Bool.and_eq_true] at hf
    rw [Tm.preL, List.map_eq_append_iff] at hx
    obtain ⟨a, b, rfl, ha, hb⟩ := hx
    rw [seeAll_append, see_vars x V a hf.1 ha, see_varsL r _ b hf.2 hb, Tm.eraseL, T.varsL]
end
end Go.Proofs.Ythncdmijledpnaa

namespace Go.Proofs.Ythncdmijledpnaa
open Go.RowKit Go.Shelf

attribute [local go_sem] Oper.semAt_some

/-- What a round keeps: every cell but the one of the list's variable (block O) and those of the list's own row. -/
def Kv (O : Nat) (W W' : World) : Prop := W.heap.size ≤ W'.heap.size ∧ ∀ v, W.cell? ⟨O, 0, none⟩ = some v → (∀ b, v.ownBlock = some b → b < W.heap.size) →
  ∃ v', W'.cell? ⟨O, 0, none⟩ = some v' ∧ (∀ b, v'.ownBlock = some b → b < W'.heap.size ∧ (v.ownBlock = some b ∨ W.heap.size ≤ b)) ∧ ∀ b o c, W.cell? ⟨b, o, none⟩ = some c → b ≠ O → v.ownBlock ≠ some b → W'.cell? ⟨b, o, none⟩ = some c

theorem Kv.refl (O : Nat) (W : World) : Kv O W W := ⟨Nat.le_refl _, fun v hv hb => ⟨v, hv, fun b h => ⟨hb b h, .inl h⟩, fun _ _ _ h _ _ => h⟩⟩
theorem Kv.trans {O : Nat} {A B C : World} (h : Kv O A B) (k : Kv O B C) : Kv O A C := by
  refine ⟨Nat.le_trans h.1 k.1, fun v hv hb => ?_⟩
  obtain ⟨v1, h1, h2, h3⟩ := h.2 v hv hb
  obtain ⟨v2, k1, k2, k3⟩ := k.2 v1 h1 fun b e => (h2 b e).1
  refine ⟨v2, k1, fun b e => ⟨(k2 b e).1, ?_⟩, fun b o c hc hO hv' => ?_⟩
  · rcases (k2 b e).2 with h4 | h4
    · exact (h2 b h4).2
    · exact .inr (Nat.le_trans h.1 h4)
  · refine k3 b o c (h3 b o c hc hO hv') hO fun e => ?_
    rcases (h2 b e).2 with h4 | h4
    · exact hv' h4
    · have := World.block_lt_of_cell? _ _ hc
      simp only at this
      omega
theorem Kv.of_cells {O : Nat} {W W' : World} (hs : W.heap.size ≤ W'.heap.size) (h : ∀ b o c, W.cell? ⟨b, o, none⟩ = some c → W'.cell? ⟨b, o, none⟩ = some c) : Kv O W W' :=
  ⟨hs, fun v hv hb => ⟨v, h _ _ _ hv, fun b e => ⟨Nat.lt_of_lt_of_le (hb b e) hs, .inl e⟩, fun b o c hc _ _ => h b o c hc⟩⟩
theorem Kv.alloc (O : Nat) (W : World) (o : Obj) : Kv O W (W.alloc o) :=
  Kv.of_cells (by simp) fun b o' c hc => by rw [World.cell?_alloc_past _ _ _ (by simpa using World.block_lt_of_cell? _ _ hc)]; exact hc
theorem Kv.putObj {O : Nat} {W : World} {l : Nat} {o : Obj} (o' : Obj) (hl : W.heap[l]? = some o) (ho : o.isCells = false) : Kv O W (W.putObj l o') :=
  Kv.of_cells (by simp) fun b o2 c hc => by
    have hne : b ≠ l := by
      rintro rfl
      unfold World.cell? at hc
      simp only [hl] at hc
      cases o <;> simp_all [Obj.isCells]
    exact (World.cell?_of_block (World.putObj_heap_other hne)).trans hc

/-- What the list's variable holds is laid. -/
def FitO (O n₀ : Nat) (W : World) : Prop := ∃ v, W.cell? ⟨O, 0, none⟩ = some v ∧ ∀ b, v.ownBlock = some b → n₀ ≤ b ∧ b < W.heap.size
theorem Kv.fit {O n₀ : Nat} {W W' : World} (h : Kv O W W') (hn : n₀ ≤ W.heap.size) (hf : FitO O n₀ W) : FitO O n₀ W' := by
  obtain ⟨v, h1, h2⟩ := hf
  obtain ⟨v', h3, h4, _⟩ := h.2 v h1 fun b e => (h2 b e).2
  exact ⟨v', h3, fun b e => ⟨(h4 b e).2.elim (fun k => (h2 b k).1) fun k => Nat.le_trans hn k, (h4 b e).1⟩⟩

namespace Tm
mutual
theorem In.keep {n₀ : Nat} {w w' : World} (hs : ∀ b o c, b < n₀ → w.cell? ⟨b, o, none⟩ = some c → w'.cell? ⟨b, o, none⟩ = some c) : ∀ {t : Tm}, In w t → On (· < n₀) t → In w' t
  | .mk k n s p c l, h, hO => by
    rw [In] at h ⊢
    rw [On] at hO
    obtain ⟨h1, h2, h3, h4, h5, h6, h7⟩ := h
    refine ⟨h1, h2, h3, h4, h5, ?_, InL.keep hs h7 hO.2⟩
    rcases h6 with h6 | ⟨b, o, hp, hr⟩
    · exact .inl h6
    · rcases hO.1 with h8 | ⟨b', o', hp', hS⟩
      · exact .inl h8
      · rw [hp] at hp'
        cases hp'
        refine .inr ⟨b, o, hp, fun i x hx => ?_⟩
        obtain ⟨c0, c1, c2, c3⟩ := hr i x hx
        exact ⟨hs _ _ _ hS c0, hs _ _ _ hS c1, hs _ _ _ hS c2, hs _ _ _ hS c3⟩
theorem InL.keep {n₀ : Nat} {w w' : World} (hs : ∀ b o c, b < n₀ → w.cell? ⟨b, o, none⟩ = some c → w'.cell? ⟨b, o, none⟩ = some c) : ∀ {l : List Tm}, InL w l → OnL (· < n₀) l → InL w' l
  | [], _, _ => by rw [InL]; trivial
  | _ :: _, h, hO => by
    rw [InL] at h ⊢
    rw [OnL] at hO
    exact ⟨In.keep hs h.1 hO.1, InL.keep hs h.2 hO.2⟩
end
end Tm

theorem Kv.low {O n₀ : Nat} {W W' : World} (h : Kv O W W') (hO : n₀ ≤ O) (hf : FitO O n₀ W) : ∀ b o c, b < n₀ → W.cell? ⟨b, o, none⟩ = some c → W'.cell? ⟨b, o, none⟩ = some c := by
  obtain ⟨v, h1, h2⟩ := hf
  obtain ⟨v', _, _, h5⟩ := h.2 v h1 fun b e => (h2 b e).2
  intro b o c hb hc
  exact h5 b o c hc (by omega) fun e => by have := (h2 b e).1; omega

/-- A call's own block stands. -/
theorem Kv.mine {O n₀ B : Nat} {W0 W W' : World} (h : Kv O W W') (hB : W0.heap.size ≤ B) (hf : FitO O n₀ W0) (hk : Kv O W0 W) {o : Nat} {c : Value} (hc : W.cell? ⟨B, o, none⟩ = some c) (hown : ∀ v, W.cell? ⟨O, 0, none⟩ = some v → v.ownBlock ≠ some B) : W'.cell? ⟨B, o, none⟩ = some c := by
  have hOl : O < W0.heap.size := by obtain ⟨v, hv, _⟩ := hf; exact World.block_lt_of_cell? _ _ hv
  obtain ⟨v, h1, h2⟩ := hf
  obtain ⟨v1, h3, h4, _⟩ := hk.2 v h1 fun b e => (h2 b e).2
  obtain ⟨v2, _, _, h7⟩ := h.2 v1 h3 fun b e => (h4 b e).1
  exact h7 B o c hc (by omega) (hown v1 h3)

abbrev RoundWord (O l N : Nat) (J Jx : List Pt → World → Prop) : Prop := ∀ (m : Nat) (pre : List Pt) (x : Pt) (W : World), J pre W → pre.length < N → YieldAt Fence.wide m Try.prog l #[x.1.val] W fun e W' =>
    (e = .returned (.bool true) ∧ J (pre ++ [x]) W' ∧ Kv O W W') ∨ (e = .returned (.bool false) ∧ Jx (pre ++ [x]) W')

set_option maxRecDepth 100000 in
set_option maxHeartbeats 2000000 in
theorem partsY_any (O l n₀ N : Nat) (J Jx : List Pt → World → Prop) (hJ : ∀ pre W o, J pre W → J pre (W.alloc o)) (hY : RoundWord O l N J Jx) (hO : n₀ ≤ O) (NN : Nat) :
    ∀ (t : Tm) (n : Nat) (xs pre : List Pt) (W : World), SizeOf.sizeOf t ≤ NN → t.In W → t.On (· < n₀) → n₀ ≤ W.heap.size → FitO O n₀ W → xs.map Subtype.val = t.pre → J pre W → pre.length + xs.length ≤ N →
      CallsIn Fence.wide n Try.prog 207 #[t.val, .func (.yield l) #[] #[]] W fun e W' =>
        (e = .returned (.bool true) ∧ J (pre ++ xs) W' ∧ Kv O W W') ∨ (e = .returned (.bool false) ∧ ∃ q, q <+: xs ∧ Jx (pre ++ q) W') := by
  induction NN with
  | zero => intro t n xs pre W h; cases t; simp at h
  | succ NN ih =>
    intro t n xs pre W hN hin hon hn₀ hfit hxs hj hlen
    rw [Tm.pre_eq] at hxs
    match xs, hxs, hlen with
    | x :: ys, hxs, hlen =>
    rw [List.map_cons] at hxs
    injection hxs with hx1 hys
    obtain ⟨k, nn, s, p, c, ls⟩ := t
    have hsl := hin.sl
    rw [Tm.On] at hon
    simp only [Tm.l] at hys
    have hlc : ls.length ≤ c := hsl.1
    have hc : c ≤ 9223372036854775807 := hsl.2.1.2
    simp only [tm_val]
    have gA : Kv O W (W.alloc (.cells #[.int .i64 k, .int .i64 nn, .string s, .slice p ls.length c] 25)) := Kv.alloc O W _
    have hA := Blk4.new W (.int .i64 k) (.int .i64 nn) (.string s) (.slice p ls.length c)
    have hjA := hJ pre W (.cells #[.int .i64 k, .int .i64 nn, .string s, .slice p ls.length c] 25) hj
    obtain ⟨fn, tmps, assign, body, hy, hR⟩ := hY (n - 1) pre x _ hjA (by simp at hlen; omega)
    rw [hx1, tm_val] at hy
    refine callsIn_of_wp Try.func207 rfl trivial ?_ rfl
    simp only [Try.ntmps207, List.size_toArray, List.length_cons, List.length_nil, Nat.reduceAdd, Nat.reduceSub, Array.replicate_succ, Array.replicate_zero, List.push_toArray, List.append_toArray, List.nil_append, List.cons_append]
    have hown0 : ∀ v, (W.alloc (.cells #[.int .i64 k, .int .i64 nn, .string s, .slice p ls.length c] 25)).cell? ⟨O, 0, none⟩ = some v → v.ownBlock ≠ some W.heap.size := by
      obtain ⟨v0, h1, h2⟩ := hfit
      intro v hv e
      rw [World.cell?_alloc_past _ _ _ (by simpa using World.block_lt_of_cell? _ _ h1), h1] at hv
      cases hv
      have := (h2 _ e).2
      omega
    gi_wp2
    refine ⟨fun h => (by cases h), hR.mono ?_⟩
    rintro e W3 (⟨rfl, hJ3, hk3⟩ | ⟨rfl, hJx3⟩)
    · have c3 := Kv.mine hk3 (Nat.le_refl _) hfit gA hA.parts.1.2.2.2 hown0
      have g3 : Kv O W W3 := gA.trans hk3
      have Hys := Lib.hid hys
      clear hy hR hA hjA hown0
      gi_wp2
      gi_loopw [14] (fun i wr => ∃ kk : Nat, kk ≤ ls.length ∧ i = .int .i64 kk ∧ Hid (∃ done rest : List Pt, ys = done ++ rest ∧ rest.map Subtype.val = Tm.preL (ls.drop kk) ∧ J (pre ++ x :: done) wr) ∧ Kv O W wr)
        (fun i _ => ls.length - (intOf i).toNat)
      case atStart => exact ⟨0, Nat.zero_le _, rfl, ⟨[], ys, rfl, by rw [List.drop_zero]; exact Hys.out, by simpa using hJ3⟩, g3⟩
      case round =>
        obtain ⟨kk, hkk, rfl, hdr, gr⟩ := hrel
        by_cases hlt : kk < ls.length
        · have hinr := Tm.In.keep (gr.low hO hfit) hin (by rw [Tm.On]; exact hon)
          obtain ⟨b, o, rfl⟩ := hsl.ptr (by omega)
          obtain ⟨⟨c0, c1, c2, c3'⟩, hxi, _⟩ := hinr.sl.elem kk hlt
          have hmem : ls[kk] ∈ ls := List.getElem_mem hlt
          have hon1 := Tm.OnL_mem hon.2 _ hmem
          have hsz1 := Tm.sizeOf_mem hmem k nn s (some ⟨b, o, none⟩) c
          obtain ⟨done, rest, rfl, hrest, hJr⟩ := hdr.out
          rw [List.drop_eq_getElem_cons hlt, Tm.preL, List.map_eq_append_iff] at hrest
          obtain ⟨aa, bb, rfl, haa, hbb⟩ := hrest
          have hlenw := gr.1
          generalize ls[kk] = z at *
          have hcall := Lib.hid (ih z (n - 1) aa (pre ++ x :: done) (wr.alloc (.cells #[.int .i64 z.k, .int .i64 z.n, .string z.s, .slice z.p z.l.length z.c] 25)) (by omega)
            (Tm.In_below (by go_grown) hxi) hon1 (by simp; omega) ((gr.trans (Kv.alloc O wr _)).fit hn₀ hfit) haa (hJ _ _ _ hJr) (by simp at hlen ⊢; omega))
          have gE := Kv.alloc O wr (.cells #[.int .i64 z.k, .int .i64 z.n, .string z.s, .slice z.p z.l.length z.c] 25)
          have Hzv := Lib.hid (show z.val = .agg #[.int .i64 z.k, .int .i64 z.n, .string z.s, .slice z.p z.l.length z.c] from rfl)
          gi_wp2_with (refine ⟨trivial, fun h => (by cases h), ?_⟩; gi_at_call 207; rewrite [← Hzv.out]; refine hcall.out.mono ?_; rintro e W5 (⟨rfl, hJ5, hk5⟩ | ⟨rfl, q, hq, hx5⟩))
          · go_roundw
            case rel => exact ⟨kk + 1, by omega, by go_num, ⟨done ++ aa, bb, by simp, hbb, by simpa using hJ5⟩, (gr.trans gE).trans hk5⟩
            case measure => simp [intOf]; omega
          · go_ret
            obtain ⟨r, rfl⟩ := hq
            exact .inr ⟨rfl, x :: (done ++ q), ⟨r ++ bb, by simp⟩, by simpa using hx5⟩
        · obtain rfl : kk = ls.length := by omega
          obtain ⟨done, rest, rfl, hrest, hJr⟩ := hdr.out
          rw [List.drop_length, Tm.preL] at hrest
          obtain rfl : rest = [] := List.map_eq_nil_iff.1 hrest
          gi_wp2
          go_ret
          exact .inl ⟨rfl, by simpa using hJr, gr⟩
    · gi_wp2
      go_ret
      exact .inr ⟨rfl, [x], ⟨ys, rfl⟩, hJx3⟩
end Go.Proofs.Ythncdmijledpnaa
