/-
  A map of terms: made, stored into.
  term.Compose: what it computes; the walk.
  hornref.Compose, plain: a bind is put where it belongs; two lists of binds of one map say the same.
  A store, plain: what its variables come to; a bind more; lists of binds of a solved form.
  hornref.parts, hornref.Slim: how many parts a term has.
-/
import Derived.Test.YtjdoflfdlhpbmaaGreatBF19
import Derived.Test.YtjdoflfdlhpbmaaGreatBF04
import Derived.Test.YtjdoflfdlhpbmaaGreatBF10
import Derived.Test.YtjdoflfdlhpbmaaGreatBF18
import Derived.Test.YtjdoflfdlhpbmaaGreatBF06
namespace Go.Proofs.YtjdoflfdlhpbmaaGreat
open Go.RowKit Go.Maps Go.Lib

theorem TMap.made (S : Nat → Prop) (w : World) : TMap S (w.alloc (.map #[] 0)) w.heap.size (fun _ => none) :=
  ⟨⟨fun _ => none, ⟨#[], 0, heap_alloc_new _ _, (fun _ he => nomatch he), List.nodup_nil, fun _ _ => ⟨fun h => (nomatch h), fun ⟨_, he, _⟩ => nomatch he⟩⟩, fun _ => rfl⟩, Stm.made kI64 w, fun _ h => absurd rfl h⟩

theorem TMap.store {S : Nat → Prop} {w : World} {b : Nat} {f : Int → Option T} (h : TMap S w b f) (hb : ∀ x, S x → x ≠ b) {n : Int} (hn : 0 ≤ n ∧ n ≤ 1099511627776) {tm : Tm} (hin : tm.In w) (hf : tm.erase.formed = true) (hon : tm.On S) :
    ∃ w', (Instr.mapUpdate 119 (.map (some b)) (.int .i64 n) tm.val).run Tryz.prog w = .ok () w' ∧ TMap S w' b (fun x => if x = n then some tm.erase else f x) ∧ w.grownBy w' (some b) := by
  obtain ⟨⟨g, h1, h2⟩, h3, h4⟩ := h
  obtain ⟨w', hr, hg, hgb, hs⟩ := h1.updateS h3 (int_keyed Tryz.underlying2) Tryz.underlying119 (x := n) (keyOf_int_mk Tryz.underlying2 (wf_64 (by constructor <;> omega))) (fun y hy => kI64_inj hy) tm.val (g := fun x => if x = n then some tm.val else g x) (if_pos rfl) (fun y hy => if_neg hy)
  have hk : Kp (· = b) w w' := Kp.of_grownBy hgb rfl
  refine ⟨w', hr, ⟨⟨_, hg, fun x => ?_⟩, hs, fun x hx => ?_⟩, hgb⟩
  · by_cases hx : x = n
    · simp only [if_pos hx]
      exact ⟨tm, rfl, in_after' hin hon fun y hy hl _ => World.cell?_of_block (hk.block y hl (hb y hy)), rfl, hf, hon⟩
    · simp only [if_neg hx]
      have := h2 x
      cases hfx : f x with
      | none => rw [hfx] at this; exact this
      | some t =>
        rw [hfx] at this
        obtain ⟨u, i1, i2, i3, i4, i5⟩ := this
        exact ⟨u, i1, in_after' i2 i5 fun y hy hl _ => World.cell?_of_block (hk.block y hl (hb y hy)), i3, i4, i5⟩
  · by_cases hxn : x = n
    · subst hxn; exact hn
    · exact h4 x (by simpa [hxn] using hx)
end Go.Proofs.YtjdoflfdlhpbmaaGreat

namespace Go.Proofs.YtjdoflfdlhpbmaaGreat
open Go.RowKit Go.Maps Go.Lib

/-- Binds laid into a map, one after another. -/
def putAll (g : Bd → T) (l : List Bd) (f : Int → Option T) : Int → Option T := l.foldl (fun f y => fun x => if x = y.v then some (g y) else f x) f
/-- P4: the map of a composition. -/
def compM (s u : List Bd) : Int → Option T := putAll (fun y => T.map (lookupT u) y.t.erase) s (putAll (fun y => y.t.erase) u (fun _ => none))
theorem putAll_snoc (g : Bd → T) (l : List Bd) (f : Int → Option T) (k : Nat) (hk : k < l.length) : putAll g (l.take (k + 1)) f = fun x => if x = l[k].v then some (g l[k]) else putAll g (l.take k) f x := by
  rw [List.take_succ_eq_append_getElem hk, putAll, List.foldl_append]
  rfl
theorem lookup_formed {l : List Bd} (hf : (l.all fun y => y.t.erase.formed) = true) : ∀ n, 0 ≤ n → n ≤ 1099511627776 → (lookupT l n).formed = true := by
  induction l with
  | nil => intro n h1 h2; simp [lookupT, varT, T.formed, h1, h2]
  | cons x xs ih =>
    intro n h1 h2
    rw [List.all_cons, Bool.and_eq_true] at hf
    rw [lookupT]
    by_cases h : x.v = n
    · rw [if_pos h]; exact hf.1
    · rw [if_neg h]; exact ih hf.2 n h1 h2
theorem bindsErr_zero {l : List Bd} (h : bindsErr l = 0) : (l.all fun y => y.t.erase.formed) = true ∧ ascB (-1) l = true := by
  rw [bindsErr] at h
  by_cases h1 : (l.all fun y => y.t.erase.formed) = true
  · rw [if_pos h1] at h
    by_cases h2 : ascB (-1) l = true
    · exact ⟨h1, h2⟩
    · rw [if_neg h2] at h; cases h
  · rw [if_neg h1] at h; cases h
theorem formed_at {l : List Bd} (hf : (l.all fun y => y.t.erase.formed) = true) (k : Nat) (hk : k < l.length) : l[k].t.erase.formed = true := List.all_eq_true.1 hf _ (List.getElem_mem hk)
theorem asc_at {l : List Bd} (h : ascB (-1) l = true) (k : Nat) (hk : k < l.length) : 0 ≤ l[k].v ∧ l[k].v ≤ 1099511627776 := by
  have := (asc_spec l (-1) h).1 k hk
  omega

end Go.Proofs.YtjdoflfdlhpbmaaGreat

namespace Go.Proofs.YtjdoflfdlhpbmaaGreat
open Go.RowKit Go.Maps Go.Lib

/-- A bind put behind those of smaller variables. -/
def placeL : List Bd → Bd → List Bd
  | [], x => [x]
  | y :: ys, x => if y.v < x.v then y :: placeL ys x else x :: y :: ys
theorem placeL_at (x : Bd) : ∀ (l : List Bd) (k : Nat), k ≤ l.length → (∀ (j : Nat) (h : j < l.length), j < k → l[j].v < x.v) → (∀ (h : k < l.length), ¬ l[k].v < x.v) → placeL l x = l.take k ++ x :: l.drop k
  | [], 0, _, _, _ => rfl
  | y :: ys, 0, _, _, h => by
    have h0 : ¬ y.v < x.v := h (by simp)
    rw [placeL, if_neg h0]; rfl
  | y :: ys, k + 1, hk, h1, h2 => by
    have h0 : y.v < x.v := h1 0 (by simp) (by omega)
    rw [placeL, if_pos h0, placeL_at x ys k (by simpa using hk) (fun j hj hjk => h1 (j + 1) (by simpa using hj) (by omega)) (fun hk' => h2 (by simpa using hk'))]
    rfl
theorem placeL_mem (x : Bd) : ∀ (l : List Bd) (y : Bd), y ∈ placeL l x ↔ y = x ∨ y ∈ l
  | [], y => by simp [placeL]
  | z :: zs, y => by
    rw [placeL]
    split
    · rw [List.mem_cons, placeL_mem x zs y, List.mem_cons]
      constructor
      · rintro (h | h | h)
        · exact .inr (.inl h)
        · exact .inl h
        · exact .inr (.inr h)
      · rintro (h | h | h)
        · exact .inr (.inl h)
        · exact .inl h
        · exact .inr (.inr h)
    · rw [List.mem_cons]
theorem placeL_length (x : Bd) : ∀ l : List Bd, (placeL l x).length = l.length + 1
  | [] => rfl
  | y :: ys => by
    rw [placeL]
    split
    · rw [List.length_cons, placeL_length x ys, List.length_cons]
    · rfl
theorem asc_place (x : Bd) (hx : x.v ≤ 1099511627776) : ∀ (l : List Bd) (last : Int), ascB last l = true → last < x.v → (∀ y ∈ l, y.v ≠ x.v) → ascB last (placeL l x) = true
  | [], last, _, h1, _ => by
    rw [placeL, ascB, ascB, decide_eq_true h1, decide_eq_true hx]; rfl
  | y :: ys, last, h, h1, h2 => by
    rw [ascB, Bool.and_eq_true, Bool.and_eq_true, decide_eq_true_eq, decide_eq_true_eq] at h
    have hne := h2 y (by simp)
    rw [placeL]
    split
    · rename_i hlt
      rw [ascB, decide_eq_true h.1, decide_eq_true h.2.1, asc_place x hx ys y.v h.2.2 hlt fun z hz => h2 z (by simp [hz])]
      rfl
    · rename_i hlt
      rw [ascB, ascB, decide_eq_true h1, decide_eq_true hx, decide_eq_true (show x.v < y.v by omega), decide_eq_true h.2.1, h.2.2]
      rfl

/-- A new variable in the map. -/
def putF (f : Int → Option T) (n : Int) (t : T) : Int → Option T := fun m => if m = n then some t else f m

theorem IsBinds.same_var {f : Int → Option T} {l : List Bd} (h : IsBinds f l) {n : Int} (hn : f n = none) : IsBinds (putF f n (varT n)) l := by
  refine ⟨h.1, fun m t => (h.2.1 m t).trans ?_, h.2.2⟩
  rw [putF]
  by_cases hm : m = n
  · subst hm
    rw [if_pos rfl, hn]
    constructor
    · rintro ⟨h1, _⟩; cases h1
    · rintro ⟨h1, h2⟩
      exact absurd (Option.some.inj h1).symm h2
  · rw [if_neg hm]
theorem IsBinds.place {f : Int → Option T} {l : List Bd} (h : IsBinds f l) {x : Bd} (hf : x.t.erase.formed = true) (hv : 0 ≤ x.v ∧ x.v ≤ 1099511627776) (hn : f x.v = none) (hne : x.t.erase ≠ varT x.v) : IsBinds (putF f x.v x.t.erase) (placeL l x) := by
  have hfree : ∀ y ∈ l, y.v ≠ x.v := fun y hy e => by
    have := ((h.2.1 y.v y.t.erase).1 ⟨y, hy, rfl, rfl⟩).1
    rw [e, hn] at this
    cases this
  refine ⟨asc_place x hv.2 l (-1) h.1 (by omega) hfree, fun m t => ?_, fun y hy => ?_⟩
  · rw [putF]
    by_cases hm : m = x.v
    · rw [if_pos hm]
      constructor
      · rintro ⟨y, hy, h1, h2⟩
        rcases (placeL_mem x l y).1 hy with rfl | hy
        · exact ⟨by rw [h2], by rw [← h2, hm]; exact hne⟩
        · exact absurd (h1.trans hm) (hfree y hy)
      · rintro ⟨h1, _⟩
        exact ⟨x, (placeL_mem x l x).2 (.inl rfl), hm.symm, Option.some.inj h1⟩
    · rw [if_neg hm, ← h.2.1 m t]
      constructor
      · rintro ⟨y, hy, h1, h2⟩
        rcases (placeL_mem x l y).1 hy with rfl | hy
        · exact absurd h1.symm hm
        · exact ⟨y, hy, h1, h2⟩
      · rintro ⟨y, hy, h1, h2⟩
        exact ⟨y, (placeL_mem x l y).2 (.inr hy), h1, h2⟩
  · rcases (placeL_mem x l y).1 hy with rfl | hy
    · exact ⟨hf, hv⟩
    · exact h.2.2 y hy
theorem IsBinds.len {f : Int → Option T} {l : List Bd} (h : IsBinds f l) : l.length ≤ 1099511627777 := by
  have hnd : (l.map Bd.v).Nodup := by
    have hs := (asc_spec l (-1) h.1).2
    rw [List.Nodup, List.pairwise_map, List.pairwise_iff_getElem]
    intro i j hi hj hij
    have := hs i j hi hj hij
    omega
  have := nodup_le 1099511627777 (l.map Bd.v) hnd fun x hx => by
    obtain ⟨y, hy, rfl⟩ := List.mem_map.1 hx
    have := (h.2.2 y hy).2
    omega
  rwa [List.length_map] at this

/-- The variables and terms, without addresses. -/
def seeBds (l : List Bd) : List (Int × T) := l.map fun y => (y.v, y.t.erase)
theorem pairs_uniq : ∀ l l' : List (Int × T), l.Pairwise (fun a b => a.1 < b.1) → l'.Pairwise (fun a b => a.1 < b.1) → (∀ a, a ∈ l ↔ a ∈ l') → l = l'
  | [], [], _, _, _ => rfl
  | [], b :: ys, _, _, h => nomatch (h b).2 (by simp)
  | a :: xs, [], _, _, h => nomatch (h a).1 (by simp)
  | a :: xs, b :: ys, h1, h2, h => by
    rw [List.pairwise_cons] at h1 h2
    have hab : a = b := by
      rcases List.mem_cons.1 ((h a).1 (by simp)) with e | h3
      · exact e
      · rcases List.mem_cons.1 ((h b).2 (by simp)) with e | h4
        · exact e.symm
        · have h5 := h2.1 a h3
          have h6 := h1.1 b h4
          omega
    subst hab
    rw [pairs_uniq xs ys h1.2 h2.2 fun c => ?_]
    constructor
    · intro hc
      rcases List.mem_cons.1 ((h c).1 (by simp [hc])) with rfl | h3
      · have := h1.1 _ hc; omega
      · exact h3
    · intro hc
      rcases List.mem_cons.1 ((h c).2 (by simp [hc])) with rfl | h3
      · have := h2.1 _ hc; omega
      · exact h3
theorem seeBds_pairwise {l : List Bd} (h : ascB (-1) l = true) : (seeBds l).Pairwise (fun a b => a.1 < b.1) := by
  have hs := (asc_spec l (-1) h).2
  rw [seeBds, List.pairwise_map, List.pairwise_iff_getElem]
  intro i j hi hj hij
  exact hs i j hi hj hij
theorem IsBinds.uniq {f : Int → Option T} {l l' : List Bd} (h : IsBinds f l) (h' : IsBinds f l') : seeBds l = seeBds l' := by
  refine pairs_uniq _ _ (seeBds_pairwise h.1) (seeBds_pairwise h'.1) fun a => ?_
  have hm : ∀ l : List Bd, a ∈ seeBds l ↔ ∃ y ∈ l, y.v = a.1 ∧ y.t.erase = a.2 := fun l => by
    rw [seeBds, List.mem_map]
    constructor
    · rintro ⟨y, hy, rfl⟩; exact ⟨y, hy, rfl, rfl⟩
    · rintro ⟨y, hy, h1, h2⟩; exact ⟨y, hy, by rw [h1, h2]⟩
  rw [hm, hm, h.2.1, h'.2.1]
/-! ### The map of a composition, as the document builds it -/
theorem putAll_none (g : Bd → T) (n : Int) : ∀ (l : List Bd) (f : Int → Option T), (∀ y ∈ l, y.v ≠ n) → putAll g l f n = f n
  | [], _, _ => rfl
  | y :: ys, f, h => by
    have := putAll_none g n ys (fun x => if x = y.v then some (g y) else f x) fun z hz => h z (by simp [hz])
    rw [show putAll g (y :: ys) f n = putAll g ys (fun x => if x = y.v then some (g y) else f x) n from rfl, this, if_neg fun e => h y (by simp) e.symm]
theorem putAll_some (g : Bd → T) (n : Int) : ∀ (l : List Bd) (f f' : Int → Option T), (∃ y ∈ l, y.v = n) → putAll g l f n = putAll g l f' n
  | [], _, _, h => nomatch h
  | y :: ys, f, f', h => by
    show putAll g ys (fun x => if x = y.v then some (g y) else f x) n = putAll g ys (fun x => if x = y.v then some (g y) else f' x) n
    by_cases h1 : ∃ z ∈ ys, z.v = n
    · exact putAll_some g n ys _ _ h1
    · obtain ⟨z, hz, rfl⟩ := h
      rcases List.mem_cons.1 hz with rfl | hz
      · rw [putAll_none g _ ys _ fun z hz e => h1 ⟨z, hz, e⟩, putAll_none g _ ys _ fun z hz e => h1 ⟨z, hz, e⟩, if_pos rfl, if_pos rfl]
      · exact absurd ⟨z, hz, rfl⟩ h1
theorem putAll_step (g : Bd → T) (l : List Bd) (f : Int → Option T) (k : Nat) (hk : k < l.length) : putAll g (l.take (k + 1)) f = putF (putAll g (l.take k) f) l[k].v (g l[k]) := putAll_snoc g l f k hk
theorem asc_free {l : List Bd} (h : ascB (-1) l = true) (k : Nat) (hk : k < l.length) : ∀ y ∈ l.take k, y.v ≠ l[k].v := by
  intro y hy
  obtain ⟨i, hi, rfl⟩ := List.getElem_of_mem hy
  rw [List.length_take] at hi
  rw [List.getElem_take]
  have := (asc_spec l (-1) h).2 i k (by omega) hk (by omega)
  omega
/-- The map when the second list has been gone through up to k. -/
def compAt (s u : List Bd) (k : Nat) : Int → Option T := putAll (fun y => T.map (lookupT u) y.t.erase) s (putAll (fun y => y.t.erase) (u.take k) (fun _ => none))
theorem compAt_end (s u : List Bd) : compAt s u u.length = compM s u := by rw [compAt, List.take_length, compM]
theorem compAt_found {s u : List Bd} {k : Nat} (hk : k < u.length) (h : ∃ y ∈ s, y.v = u[k].v) : compAt s u (k + 1) = compAt s u k := by
  funext n
  rw [compAt, compAt]
  by_cases h1 : ∃ y ∈ s, y.v = n
  · exact putAll_some _ n s _ _ h1
  · rw [putAll_none _ n s _ fun y hy e => h1 ⟨y, hy, e⟩, putAll_none _ n s _ fun y hy e => h1 ⟨y, hy, e⟩, putAll_step _ _ _ k hk, putF, if_neg]
    rintro rfl
    exact h1 h
theorem compAt_free {s u : List Bd} {k : Nat} (hu : ascB (-1) u = true) (hk : k < u.length) (h : ¬ ∃ y ∈ s, y.v = u[k].v) : compAt s u k u[k].v = none := by
  rw [compAt, putAll_none _ _ s _ fun y hy e => h ⟨y, hy, e⟩, putAll_none _ _ _ _ (asc_free hu k hk)]
theorem compAt_new {s u : List Bd} {k : Nat} (hk : k < u.length) (h : ¬ ∃ y ∈ s, y.v = u[k].v) : compAt s u (k + 1) = putF (compAt s u k) u[k].v u[k].t.erase := by
  funext n
  rw [putF, compAt, compAt]
  by_cases h1 : ∃ y ∈ s, y.v = n
  · rw [if_neg (by rintro rfl; exact h h1)]
    exact putAll_some _ n s _ _ h1
  · rw [putAll_none _ n s _ fun y hy e => h1 ⟨y, hy, e⟩, putAll_none _ n s _ fun y hy e => h1 ⟨y, hy, e⟩, putAll_step _ _ _ k hk, putF]
/-- Is the variable among those of the binds? -/
def hasV (l : List Bd) (n : Int) : Bool := l.any fun y => decide (y.v = n)
theorem hasV_iff (l : List Bd) (n : Int) : hasV l n = true ↔ ∃ y ∈ l, y.v = n := by
  simp [hasV, List.any_eq_true]
end Go.Proofs.YtjdoflfdlhpbmaaGreat

namespace Go.Proofs.YtjdoflfdlhpbmaaGreat

/-- A store: what variables are bound to, and what each one comes to. -/
structure StoreOk (σ : Int → Option T) (ρ : Int → T) : Prop where
  canon : Canon ρ
  bound : ∀ n t, σ n = some t → t.formed = true ∧ (0 ≤ n ∧ n ≤ 1099511627776) ∧ ρ n = T.map ρ t ∧ ∀ m, t = varT m → m < n
  free : ∀ n, σ n = none → ρ n = varT n

theorem StoreOk.empty : StoreOk (fun _ => none) varT where
  canon := canon_var
  bound _ _ h := nomatch h
  free _ _ := rfl
theorem StoreOk.open_ {σ : Int → Option T} {ρ : Int → T} (h : StoreOk σ ρ) {n : Int} (hn : ρ n = varT n) : σ n = none := by
  cases hs : σ n with
  | none => rfl
  | some t =>
    obtain ⟨h1, _, h3, h4⟩ := h.bound n t hs
    obtain ⟨z, hz, hzn⟩ := T.map_is_var (h3.symm.trans hn) h1
    have := h4 z hz
    have := h.canon.low z n hzn
    omega
theorem StoreOk.bind {σ : Int → Option T} {ρ : Int → T} (h : StoreOk σ ρ) {x : Int} {t : T} (hx : σ x = none) (hr : 0 ≤ x ∧ x ≤ 1099511627776) (ht : t.formed = true) (hoc : ¬ T.occ x (T.map ρ t)) (hlow : ∀ m, t = varT m → m < x) :
    StoreOk (putF σ x t) (stepF ρ x (T.map ρ t)) where
  canon := h.canon.step (h.free x hx) hr (h.canon.map ht) (fun m hm => h.canon.occ_free hm) hoc fun m hm => by
    obtain ⟨z, hz, hzm⟩ := T.map_is_var hm ht
    have := hlow z hz
    have := h.canon.low z m hzm
    omega
  bound n u hu := by
    rw [putF] at hu
    by_cases hn : n = x
    · rw [if_pos hn] at hu
      cases hu
      subst hn
      refine ⟨ht, hr, ?_, hlow⟩
      rw [stepF_map, oneF_not (h.canon.map ht) hoc, stepF, h.free _ hx, T.map_var, oneF, if_pos rfl]
    · rw [if_neg hn] at hu
      obtain ⟨h1, h2, h3, h4⟩ := h.bound n u hu
      refine ⟨h1, h2, ?_, h4⟩
      rw [stepF_map, stepF, h3]
  free n hn := by
    rw [putF] at hn
    by_cases hnx : n = x
    · rw [if_pos hnx] at hn; cases hn
    · rw [if_neg hnx] at hn
      rw [stepF, h.free n hn, T.map_var, oneF, if_neg hnx]
theorem StoreOk.bind_through {σ : Int → Option T} {ρ : Int → T} (h : StoreOk σ ρ) {x : Int} {t : T} :
    Through (stepF ρ x (T.map ρ t)) ρ ∧ ∀ θ, Through θ ρ → T.map θ t = θ x → Through θ (stepF ρ x (T.map ρ t)) :=
  ⟨Through.back h.canon, fun θ ht he => ht.step (by rw [ht.map, he])⟩
theorem StoreOk.bind_same {σ : Int → Option T} {ρ : Int → T} (h : StoreOk σ ρ) {x : Int} {t : T} (hx : σ x = none) (ht : t.formed = true) (hoc : ¬ T.occ x (T.map ρ t)) :
    T.map (stepF ρ x (T.map ρ t)) (varT x) = T.map (stepF ρ x (T.map ρ t)) t := by
  rw [stepF_map _ _ _ t, oneF_not (h.canon.map ht) hoc, T.map_var, stepF, h.free _ hx, T.map_var, oneF, if_pos rfl]

/-- Where a walk ends. -/
structure WalkTo (σ : Int → Option T) (ρ : Int → T) (t u : T) : Prop where
  form : u.formed = true
  same : T.map ρ u = T.map ρ t
  stop : u.k = 1 → σ u.n = none
theorem WalkTo.var {σ : Int → Option T} {ρ : Int → T} {t u : T} (hs : StoreOk σ ρ) (h : WalkTo σ ρ t u) (hk : u.k = 1) : u = varT u.n ∧ T.map ρ t = varT u.n := by
  have h1 := var_of_k h.form hk
  refine ⟨h1, ?_⟩
  rw [← h.same]
  conv => lhs; rw [h1]
  rw [T.map_var, hs.free _ (h.stop hk)]

/-! ### Lists of binds of a solved form -/
theorem lookup_none : ∀ {l : List Bd} {n : Int}, (∀ y ∈ l, y.v ≠ n) → lookupT l n = varT n
  | [], _, _ => by rw [lookupT]
  | x :: xs, n, h => by
    rw [lookupT, if_neg (h x (by simp)), lookup_none fun y hy => h y (by simp [hy])]
theorem lookup_mem : ∀ {l : List Bd} {y : Bd}, l.Pairwise (fun a b => a.v < b.v) → y ∈ l → lookupT l y.v = y.t.erase
  | x :: xs, y, hp, hy => by
    rw [List.pairwise_cons] at hp
    rw [lookupT]
    rcases List.mem_cons.1 hy with rfl | hy
    · rw [if_pos rfl]
    · have := hp.1 y hy
      rw [if_neg (by omega), lookup_mem hp.2 hy]
theorem asc_pairwise {l : List Bd} (h : ascB (-1) l = true) : l.Pairwise (fun a b => a.v < b.v) := by
  have hs := (asc_spec l (-1) h).2
  rw [List.pairwise_iff_getElem]
  intro i j hi hj hij
  exact hs i j hi hj hij
/-- The list of a solved form. -/
def ListOf (ρ : Int → T) (l : List Bd) : Prop := IsBinds (fun n => some (ρ n)) l
theorem IsBinds.lookup {f : Int → Option T} {l : List Bd} (h : IsBinds f l) (n : Int) : lookupT l n = (f n).getD (varT n) := by
  by_cases hn : ∃ y ∈ l, y.v = n
  · obtain ⟨y, hy, rfl⟩ := hn
    rw [lookup_mem (asc_pairwise h.1) hy, ((h.2.1 y.v y.t.erase).1 ⟨y, hy, rfl, rfl⟩).1]
    rfl
  · rw [lookup_none fun y hy e => hn ⟨y, hy, e⟩]
    cases hf : f n with
    | none => rfl
    | some t =>
      by_cases ht : t = varT n
      · rw [ht]; rfl
      · obtain ⟨y, hy, h1, _⟩ := (h.2.1 n t).2 ⟨hf, ht⟩
        exact absurd ⟨y, hy, h1⟩ hn
theorem IsBinds.total {f : Int → Option T} {l : List Bd} (h : IsBinds f l) : ListOf (fun n => (f n).getD (varT n)) l := by
  refine ⟨h.1, fun n t => (h.2.1 n t).trans ?_, h.2.2⟩
  show _ ↔ (some ((f n).getD (varT n)) = some t ∧ _)
  constructor
  · rintro ⟨h1, h2⟩
    exact ⟨by rw [h1]; rfl, h2⟩
  · rintro ⟨h1, h2⟩
    cases hf : f n with
    | none => rw [hf] at h1; exact absurd (Option.some.inj h1).symm h2
    | some u => rw [hf] at h1; exact ⟨h1, h2⟩
theorem ListOf.lookup {ρ : Int → T} {l : List Bd} (h : ListOf ρ l) : lookupT l = ρ := funext fun n => IsBinds.lookup h n
theorem ListOf.empty : ListOf varT [] :=
  ⟨rfl, fun _ _ => ⟨(fun ⟨_, hy, _⟩ => nomatch hy), fun ⟨h1, h2⟩ => absurd (Option.some.inj h1).symm h2⟩, (fun _ hy => nomatch hy)⟩
theorem putAll_get (g : Bd → T) (l : List Bd) (f : Int → Option T) (hp : l.Pairwise (fun a b => a.v < b.v)) {y : Bd} (hy : y ∈ l) : putAll g l f y.v = some (g y) := by
  induction l generalizing f with
  | nil => exact nomatch hy
  | cons x xs ih =>
    rw [List.pairwise_cons] at hp
    show putAll g xs (fun n => if n = x.v then some (g x) else f n) y.v = _
    rcases List.mem_cons.1 hy with rfl | hy
    · rw [putAll_none _ _ _ _ fun z hz => by have := hp.1 z hz; omega, if_pos rfl]
    · exact ih _ hp.2 hy
theorem compM_get {s u : List Bd} (hs : ascB (-1) s = true) (hu : ascB (-1) u = true) (n : Int) : (compM s u n).getD (varT n) = T.map (lookupT u) (lookupT s n) := by
  rw [compM]
  by_cases h1 : ∃ y ∈ s, y.v = n
  · obtain ⟨y, hy, rfl⟩ := h1
    rw [putAll_get _ _ _ (asc_pairwise hs) hy, lookup_mem (asc_pairwise hs) hy]
    rfl
  · rw [putAll_none _ _ _ _ fun y hy e => h1 ⟨y, hy, e⟩, lookup_none fun y hy e => h1 ⟨y, hy, e⟩, T.map_var]
    by_cases h2 : ∃ y ∈ u, y.v = n
    · obtain ⟨y, hy, rfl⟩ := h2
      rw [putAll_get _ _ _ (asc_pairwise hu) hy, lookup_mem (asc_pairwise hu) hy]
      rfl
    · rw [putAll_none _ _ _ _ fun y hy e => h2 ⟨y, hy, e⟩, lookup_none fun y hy e => h2 ⟨y, hy, e⟩]
      rfl
theorem ListOf.comp {ρ : Int → T} {s u l : List Bd} (hs : ListOf ρ s) (hu : ascB (-1) u = true) (h : IsBinds (compM s u) l) : ListOf (fun n => T.map (lookupT u) (ρ n)) l := by
  have h1 := h.total
  have h2 : (fun n => (compM s u n).getD (varT n)) = fun n => T.map (lookupT u) (ρ n) := funext fun n => by
    rw [compM_get hs.1 hu, hs.lookup]
  rw [h2] at h1
  exact h1
theorem lookup_one (x : Bd) : lookupT [x] = oneF x.v x.t.erase := funext fun n => by
  rw [lookupT, lookupT, oneF]
  by_cases h : x.v = n
  · rw [if_pos h, if_pos h.symm]
  · rw [if_neg h, if_neg fun e => h e.symm]
theorem ListOf.step {ρ : Int → T} {s l : List Bd} {x : Bd} (hs : ListOf ρ s) (hx : 0 ≤ x.v ∧ x.v ≤ 1099511627776) (h : IsBinds (compM s [x]) l) : ListOf (stepF ρ x.v x.t.erase) l := by
  have h1 := hs.comp (u := [x]) (by rw [ascB, ascB, decide_eq_true (show -1 < x.v by omega), decide_eq_true hx.2]; rfl) h
  rw [lookup_one] at h1
  exact h1
theorem ListOf.uniq {ρ : Int → T} {l l' : List Bd} (h : ListOf ρ l) (h' : ListOf ρ l') : seeBds l = seeBds l' := IsBinds.uniq h h'
theorem ListOf.mem {ρ : Int → T} {l : List Bd} (h : ListOf ρ l) {y : Bd} (hy : y ∈ l) : ρ y.v = y.t.erase ∧ y.t.erase ≠ varT y.v := by
  have := (h.2.1 y.v y.t.erase).1 ⟨y, hy, rfl, rfl⟩
  exact ⟨Option.some.inj this.1, this.2⟩

/-! ### All pairs -/
/-- What is known of a store that holds these pairs. -/
def Holds (E : List (T × T)) (ρ : Int → T) : Prop := Unif ρ E ∧ ∀ θ, Unif θ E → Through θ ρ
theorem holds_nil : Holds [] varT := ⟨(fun _ hp => nomatch hp), fun θ _ => through_var θ⟩
theorem Holds.snoc {E : List (T × T)} {ρ ρ' : Int → T} (h : Holds E ρ) {a b : T} (h1 : Through ρ' ρ) (h2 : T.map ρ' a = T.map ρ' b) (h3 : ∀ θ, Through θ ρ → T.map θ a = T.map θ b → Through θ ρ') : Holds (E ++ [(a, b)]) ρ' := by
  refine ⟨fun p hp => ?_, fun θ hθ => ?_⟩
  · rcases List.mem_append.1 hp with hp | hp
    · rw [← h1.map p.1, h.1 p hp, h1.map]
    · rw [List.mem_singleton] at hp
      subst hp
      exact h2
  · exact h3 θ (h.2 θ fun p hp => hθ p (List.mem_append.2 (.inl hp))) (hθ (a, b) (List.mem_append.2 (.inr (by simp))))
theorem Rob.holds {E : List (T × T)} {r : Int → T} (hE : FormedP E) (hr : Rob varT E (.done r)) : Canon r ∧ Holds E r := by
  obtain ⟨h1, _⟩ := hr.sound canon_var hE
  obtain ⟨g1, _, g3, g4⟩ := h1 r rfl
  exact ⟨g1, g3, fun θ hθ => g4 θ (through_var θ) hθ⟩
theorem Rob.none {E : List (T × T)} (hE : FormedP E) (hr : Rob varT E .clash) : ∀ θ, ¬ Unif θ E := fun θ => (hr.sound canon_var hE).2 rfl θ (through_var θ)
end Go.Proofs.YtjdoflfdlhpbmaaGreat

namespace Go.Proofs.YtjdoflfdlhpbmaaGreat
open Go.RowKit Go.Lib

theorem kp_in {t : Tm} {S C : Nat → Prop} {w w' : World} (hin : t.In w) (hon : t.On S) (hS : ∀ b, S b → ¬ C b) (hk : Kp C w w') : t.In w' :=
  in_after' hin hon fun b h1 h2 _ => World.cell?_of_block (hk.block b h2 (hS b h1))

/-- What hornref.parts does: what is left in block B. -/
def RetParts (B : Nat) (t : T) (v : Int) (w : World) (e : Ending) (w' : World) : Prop :=
  ∃ v' : Int, e = .returned (.bool (decide ((T.sz t : Int) ≤ v))) ∧ w'.heap[B]? = some (.cells #[.int .i64 v'] 3) ∧ -1 ≤ v' ∧ v' ≤ 100000 ∧ ((T.sz t : Int) ≤ v → v' = v - T.sz t) ∧ Kp (· = B) w w'

theorem szL_take (l : List Tm) (k : Nat) (hk : k < l.length) : T.szL (Tm.eraseL (l.take (k + 1))) = T.szL (Tm.eraseL (l.take k)) + T.sz l[k].erase := by
  induction l generalizing k with
  | nil => simp at hk
  | cons x xs ih =>
    cases k with
    | zero => simp [Tm.eraseL, T.szL]
    | succ k =>
      simp only [List.take_succ_cons, Tm.eraseL, T.szL, List.getElem_cons_succ]
      rw [ih k (by simpa using hk)]
      omega
theorem szL_le (l : List Tm) (k : Nat) : T.szL (Tm.eraseL (l.take k)) ≤ T.szL (Tm.eraseL l) := by
  induction l generalizing k with
  | nil => simp [Tm.eraseL, T.szL]
  | cons x xs ih =>
    cases k with
    | zero => simp [Tm.eraseL, T.szL]
    | succ k =>
      simp only [List.take_succ_cons, Tm.eraseL, T.szL]
      have := ih k
      omega

set_option maxHeartbeats 1000000 in
set_option maxRecDepth 100000 in
theorem parts_any (N : Nat) : ∀ (t : Tm) (w : World) (B : Nat) (v : Int), SizeOf.sizeOf t ≤ N → t.In w → t.On (· ≠ B) → 0 ≤ v → v ≤ 100000 → w.heap[B]? = some (.cells #[.int .i64 v] 3) →
    Calls Tryz.prog 77 #[t.val, .pointer (some ⟨B, 0, none⟩)] w (RetParts B t.erase v w) := by
  induction N with
  | zero => intro t w B v h; cases t; simp at h
  | succ N ih =>
    intro t w B v hN h hon hv0 hv1 hB
    obtain ⟨k, n, s, p, c, l⟩ := t
    have hsz := fun x (hx : x ∈ l) => Tm.sizeOf_mem hx k n s p c
    rw [Tm.In] at h
    obtain ⟨_, _, hs, hl, hc, hp, hIn⟩ := h
    rw [Tm.On] at hon
    have Hp := Lib.hid hp
    have HIn := Lib.hid hIn
    have Hon := Lib.hid hon
    have Hsz := Lib.hid hsz
    have Hih := Lib.hid ih
    have hBl : B < w.heap.size := (Array.getElem?_eq_some_iff.1 hB).1
    clear hp hIn hsz ih hon
    simp only [Tm.val, Tm.k, Tm.n, Tm.s, Tm.p, Tm.c, Tm.l, Tm.erase]
    have hQ0 : Hid (∀ (b : Bool) (v' : Int) (w' : World), b = decide ((T.szL (Tm.eraseL l) + 1 : Int) ≤ v) → w'.heap[B]? = some (.cells #[.int .i64 v'] 3) → -1 ≤ v' → v' ≤ 100000 → (b = true → v' = v - (T.szL (Tm.eraseL l) + 1)) → Kp (· = B) w w' → RetParts B (T.mk k n s.toList (Tm.eraseL l)) v w (.returned (.bool b)) w') := by
      intro b v' w' h1 h2 h3 h4 h5 h6
      refine ⟨v', ?_, h2, h3, h4, fun h7 => ?_, h6⟩
      · rw [T.sz, h1]
        congr 2
      · rw [T.sz] at h7 ⊢
        simp only [Int.natCast_add, Int.natCast_one] at h7 ⊢
        exact h5 (by rw [h1]; exact decide_eq_true h7)
    generalize RetParts B (T.mk k n s.toList (Tm.eraseL l)) v w = Q at hQ0 ⊢
    go_enter Tryz.func77, Tryz.ntmps77
    have y0 := cell_of_row w B 0 _ _ _ hB
    have g0 := frozen_of_row w B 0 _ _ hB
    simp only [List.getElem?_toArray, List.getElem?_cons_zero] at y0
    try simp only [List.append_eq, List.cons_append, List.nil_append]
    go_upto_region 2 with fail
    have hT1 : Blk4 ((w.setCell ⟨B, 0, none⟩ (.int .i64 (v - 1))).alloc (.cells #[.int .i64 k, .int .i64 n, .string s, .slice p l.length c] 24)) w.heap.size (.int .i64 k) (.int .i64 n) (.string s) (.slice p l.length c) := by
      have := Blk4.new (w.setCell ⟨B, 0, none⟩ (.int .i64 (v - 1))) (.int .i64 k) (.int .i64 n) (.string s) (.slice p l.length c)
      simpa using this
    have hB1 : BlkT ((w.setCell ⟨B, 0, none⟩ (.int .i64 (v - 1))).alloc (.cells #[.int .i64 k, .int .i64 n, .string s, .slice p l.length c] 24)) B 3 #[.int .i64 (v - 1)] :=
      ((BlkT.set (show BlkT w B 3 #[.int .i64 v] from hB) 0 (.int .i64 (v - 1)))).gr (by go_grown)
    have k1 : Kp (· = B) w ((w.setCell ⟨B, 0, none⟩ (.int .i64 (v - 1))).alloc (.cells #[.int .i64 k, .int .i64 n, .string s, .slice p l.length c] 24)) := (Kp.set (C := (· = B)) (b := B) (o := 0) (v := .int .i64 (v - 1)) rfl).trans (Kp.of_gr (show Gr (w.setCell ⟨B, 0, none⟩ (.int .i64 (v - 1))) _ by go_grown))
    have hs1 : ((w.setCell ⟨B, 0, none⟩ (.int .i64 (v - 1))).alloc (.cells #[.int .i64 k, .int .i64 n, .string s, .slice p l.length c] 24)).heap.size = w.heap.size + 1 := by simp
    generalize (w.setCell ⟨B, 0, none⟩ (.int .i64 (v - 1))).alloc (.cells #[.int .i64 k, .int .i64 n, .string s, .slice p l.length c] 24) = w1 at *
    have HT1 := Lib.hid hT1
    have HB1 := Lib.hid hB1
    have y1 := cell_of_row w1 B 0 _ _ _ hB1
    simp only [List.getElem?_toArray, List.getElem?_cons_zero] at y1
    clear hT1 hB1 y0 g0
    have hge : ((v - 1 ≥ 0) ↔ 1 ≤ v) := by omega
    go_upto_region 3 with fail
    have HQ0 := hQ0
    clear hQ0 hge y1 hB
    go_wp2_with fail
    go_loopg [5, 6] l.length (fun m ok i wr => ∃ (b : Bool) (j : Nat) (v' : Int), j ≤ l.length ∧ m = l.length - j ∧ ok = .bool b ∧ i = .int .i64 j ∧ Hid (BlkT wr B 3 #[.int .i64 v']) ∧ -1 ≤ v' ∧ v' ≤ 100000 ∧ Hid (b = decide ((T.szL (Tm.eraseL (l.take j)) + 1 : Int) ≤ v)) ∧ Hid (b = true → v' = v - (T.szL (Tm.eraseL (l.take j)) + 1)) ∧ Hid (Kp (· = B) w wr) ∧ Hid (Blk4 wr w.heap.size (.int .i64 k) (.int .i64 n) (.string s) (.slice p l.length c)) ∧ w.heap.size < wr.heap.size)
    case atStart => exact ⟨_, 0, v - 1, Nat.zero_le _, rfl, rfl, rfl, HB1, by omega, by omega, Lib.hid (by simp [Tm.eraseL, T.szL]), Lib.hid (fun _ => by simp [Tm.eraseL, T.szL]), k1, HT1, by omega⟩
    case round =>
      obtain ⟨b, j, v', hj, rfl, rfl, rfl, hBr, hv'0, hv'1, hb1, hb2, kr, hTr, hsr⟩ := hrel
      cases b with
      | false =>
        go_wp2_with fail
        have hle := szL_le l j
        refine HQ0.out _ v' _ ?_ hBr.out hv'0 hv'1 (fun h => nomatch h) kr.out
        have := of_decide_eq_false hb1.out.symm
        exact (decide_eq_false (by omega)).symm
      | true =>
        have hbt := of_decide_eq_true hb1.out.symm
        have hvt := hb2.out rfl
        obtain ⟨⟨t0, t1, t2, t3⟩, _, _⟩ := hTr.out.parts
        by_cases hlt : j < l.length
        · rcases Hp.out with rfl | ⟨b0, o, rfl, hrow⟩
          · simp at hlt
          have hb0 : b0 ≠ B := by
            rcases Hon.out.1 with h9 | ⟨b2, o2, h9, h10⟩
            · rw [h9] at hlt; simp at hlt
            · cases h9; exact h10
          have hbl : b0 < w.heap.size := Tm.row_lt hrow (by rintro rfl; simp at hlt)
          obtain ⟨c0, c1, c2, c3⟩ := Tm.row_mono hrow (fun o' => World.cell?_of_block (kr.out.block b0 hbl hb0)) j l[j] (List.getElem?_eq_getElem hlt)
          have hmem : l[j] ∈ l := List.getElem_mem hlt
          have hxo : l[j].On (· ≠ B) := Tm.OnL_mem Hon.out.2 _ hmem
          have Hx := Lib.hid (kp_in (Tm.InL_mem HIn.out _ hmem) hxo (fun _ h => h) kr.out)
          have Hxo := Lib.hid hxo
          have Hz := Hsz.out _ hmem
          have Htk := Lib.hid (szL_take l j hlt)
          clear hrow
          generalize l[j] = x at *
          have Hxv := Lib.hid (show x.val = .agg #[.int .i64 x.k, .int .i64 x.n, .string x.s, .slice x.p x.l.length x.c] from rfl)
          have hcall := Hih.out x wr B v' (by omega) Hx.out Hxo.out (by omega) hv'1 hBr.out
          rw [Hxv.out] at hcall
          have Hcall := Lib.hid hcall
          clear hcall
          go_wp2_with fail
          refine Hcall.out.mono ?_
          rintro e w2 ⟨v2, rfl, h2, h3, h4, h5, h6⟩
          have k2 := Lib.hid (kr.out.trans h6)
          have HT2 : Hid (Blk4 w2 w.heap.size (.int .i64 k) (.int .i64 n) (.string s) (.slice (some ⟨b0, o, none⟩) l.length c)) := (h6.block _ hsr (by omega)).trans hTr.out
          have hs2 := h6.size
          have H2 := Lib.hid h2
          have H5 := Lib.hid h5
          clear c0 c1 c2 c3 t0 t1 t2 t3 h2 h5 h6
          go_wp2_with fail
          go_roundg (l.length - (j + 1))
          case measure => omega
          case rel =>
            refine ⟨_, j + 1, v2, by omega, rfl, rfl, by go_num, H2, h3, h4, ?_, ?_, k2, HT2, by omega⟩
            · show _ = _
              rw [Htk.out]
              congr 1
              simp only [eq_iff_iff]
              omega
            · intro h9
              have h11 := of_decide_eq_true h9
              have h10 := H5.out (by omega)
              rw [Htk.out]
              omega
        · obtain rfl : j = l.length := by omega
          go_wp2_with fail
          refine HQ0.out _ v' _ ?_ hBr.out hv'0 hv'1 (fun _ => ?_) kr.out
          · rw [List.take_length] at hb1; exact hb1.out
          · rw [List.take_length] at hvt; exact hvt

/-- What hornref.Slim throws. -/
def GrownE (e : Ending) : Prop := e = .panicked [{ v := .iface 112 (.agg #[]), recovered := false }]
/-- Slim: nothing, or it throws. -/
def RetSlim (fat : Prop) (w : World) (e : Ending) (w' : World) : Prop := ((e = .returned (.tuple #[]) ∧ ¬ fat) ∨ (GrownE e ∧ fat)) ∧ Gr w w'

set_option maxHeartbeats 1000000 in
set_option maxRecDepth 100000 in
theorem slim_calls (p : Option Addr) (c : Nat) (l : List Tm) (w : World) (hx : Tm.Sl w p c l) :
    Calls Tryz.prog 60 #[.slice p l.length c] w (RetSlim (∃ x ∈ l, Fat x.erase) w) := by
  have HX := Lib.hid hx
  obtain ⟨hlc, ⟨hl64, hc⟩, _, _⟩ := hx
  have hR1 : Hid (∀ w', (∀ x ∈ l, ¬ Fat x.erase) → Gr w w' → RetSlim (∃ x ∈ l, Fat x.erase) w (.returned (.tuple #[])) w') := fun w' h hg => ⟨.inl ⟨rfl, fun ⟨x, hx, h9⟩ => h x hx h9⟩, hg⟩
  have hR2 : Hid (∀ w' e, (∃ x ∈ l, Fat x.erase) → GrownE e → Gr w w' → RetSlim (∃ x ∈ l, Fat x.erase) w e w') := fun w' e h he hg => ⟨.inr ⟨he, h⟩, hg⟩
  generalize RetSlim (∃ x ∈ l, Fat x.erase) w = Q at hR1 hR2 ⊢
  go_enter Tryz.func60, Tryz.ntmps60
  try simp only [List.append_eq, List.cons_append, List.nil_append]
  go_wp2_with fail
  go_loopg [2] l.length (fun m i wr => ∃ k : Nat, k ≤ l.length ∧ m = l.length - k ∧ i = .int .i64 k ∧ Hid (∀ (j : Nat) (h : j < l.length), j < k → ¬ Fat l[j].erase) ∧ Hid (Gr w wr))
  case atStart => exact ⟨0, Nat.zero_le _, rfl, rfl, fun j _ h => absurd h (Nat.not_lt_zero j), Gr.rfl' _⟩
  case round =>
    obtain ⟨k, hk, rfl, rfl, hpre, hgr⟩ := hrel
    by_cases hlt : k < l.length
    · obtain ⟨b0, o, rfl⟩ := HX.out.ptr (by omega)
      obtain ⟨⟨c0, c1, c2, c3⟩, hxi, hbl⟩ := (HX.out.mono hgr.out).elem k hlt
      have Hxi := Lib.hid hxi
      have Hstep : Hid (¬ Fat l[k].erase → ∀ (j : Nat) (h : j < l.length), j < k + 1 → ¬ Fat l[j].erase) := fun hn j h hj => by
        rcases Nat.lt_or_ge j k with h1 | h1
        · exact hpre.out j h h1
        · obtain rfl : j = k := by omega
          exact hn
      have Hfat : Hid (Fat l[k].erase → ∃ x ∈ l, Fat x.erase) := fun h => ⟨_, List.getElem_mem hlt, h⟩
      clear hxi
      generalize l[k] = x at *
      go_upto_region 4 with fail
      have gB : Gr wr (wr.alloc (.cells #[.int .i64 100000] 3)) := by go_grown
      have hB := BlkT.new wr 3 #[.int .i64 100000]
      have d0 := Gr.at gB c0
      have d1 := Gr.at gB c1
      have d2 := Gr.at gB c2
      have d3 := Gr.at gB c3
      have hcall := parts_any _ x (wr.alloc (.cells #[.int .i64 100000] 3)) wr.heap.size 100000 (Nat.le_refl _) (Tm.In_below gB Hxi.out) (Hxi.out.on.mono fun b hb => by omega) (by omega) (by omega) hB
      rw [show x.val = .agg #[.int .i64 x.k, .int .i64 x.n, .string x.s, .slice x.p x.l.length x.c] from rfl] at hcall
      have gR : Gr w (wr.alloc (.cells #[.int .i64 100000] 3)) := hgr.out.trans gB
      have hsz : w.heap.size ≤ wr.heap.size := hgr.out.size
      have Hcall := Lib.hid hcall
      have HgR := Lib.hid gR
      clear c0 c1 c2 c3 hcall hB gB gR
      generalize wr.alloc (.cells #[.int .i64 100000] 3) = wB at *
      generalize wr.heap.size = B at *
      go_wp2_with fail
      refine Hcall.out.mono ?_
      rintro e w2 ⟨v2, rfl, _, _, _, _, h6⟩
      have g2 : Gr w w2 := Below.trans HgR.out (h6.below (fun b hb => by have : b = B := hb; omega) HgR.out.size)
      clear h6 d0 d1 d2 d3
      by_cases hfx : Fat x.erase
      · have hd : decide ((T.sz x.erase : Int) ≤ 100000) = false := decide_eq_false (by have : 100000 < T.sz x.erase := hfx; omega)
        rw [hd]
        go_wp2_with fail
        exact ⟨rfl, hR2.out _ _ (Hfat.out hfx) rfl g2⟩
      · have hd : decide ((T.sz x.erase : Int) ≤ 100000) = true := decide_eq_true (by have : ¬ 100000 < T.sz x.erase := hfx; omega)
        rw [hd]
        go_wp2_with fail
        go_roundg (l.length - (k + 1))
        case measure => omega
        case rel => exact ⟨k + 1, by omega, rfl, by go_num, Hstep.out hfx, g2⟩
    · obtain rfl : k = l.length := by omega
      go_wp2_with fail
      go_end0
      exact hR1.out _ (fun x hx => by
        obtain ⟨j, hj, rfl⟩ := List.getElem_of_mem hx
        exact hpre.out j hj hj) hgr.out
end Go.Proofs.YtjdoflfdlhpbmaaGreat
