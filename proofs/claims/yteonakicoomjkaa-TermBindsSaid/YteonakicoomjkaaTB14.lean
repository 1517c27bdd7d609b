/-
  hornref.Compose, plain: a bind is put where it belongs; two lists of binds of one map say the same.
  hornref.place: a bind put where it belongs.
  hornref.Find: whether the variable is there, too.
-/
import Derived.Test.YteonakicoomjkaaTB13
import Derived.Test.YteonakicoomjkaaTB12
namespace Go.Proofs.Yteonakicoomjkaa
open Go.RowKit Go.Maps Go.Lib

/-- A bind put behind those of smaller variables. -/
def placeL : List Bd → Bd → List Bd
  | [], x => [x]
  | y :: ys, x => if y.v < x.v then y :: placeL ys x else x :: y :: ys
theorem placeL_at (x : Bd) : ∀ (l : List Bd) (k : Nat), k ≤ l.length → (∀ (j : Nat) (h : j < l.length), j < k → l[j].v < x.v) → (∀ (h : k < l.length), ¬ l[k].v < x.v) → placeL l x = l.take k ++ x :: l.drop k
  | [], 0, _, _, _ => rfl
  | y :: ys, 0, _, _, h => by
    have h0 : ¬ y.v < x.v := h (by simp)
    rw [placeL, if_neg h0]; rfl
  | y :: ys, k + 1, hk, h1, h2 => by
    have h0 : y.v < x.v := h1 0 (by simp) (by omega)
    rw [placeL, if_pos h0, placeL_at x ys k (by simpa using hk) (fun j hj hjk => h1 (j + 1) (by simpa using hj) (by omega)) (fun hk' => h2 (by simpa using hk'))]
    rfl
theorem placeL_mem (x : Bd) : ∀ (l : List Bd) (y : Bd), y ∈ placeL l x ↔ y = x ∨ y ∈ l
  | [], y => by simp [placeL]
  | z :: zs, y => by
    rw [placeL]
    split
    · rw [List.mem_cons, placeL_mem x zs y, List.mem_cons]
      constructor
      · rintro (h | h | h)
        · exact .inr (.inl h)
        · exact .inl h
        · exact .inr (.inr h)
      · rintro (h | h | h)
        · exact .inr (.inl h)
        · exact .inl h
        · exact .inr (.inr h)
    · rw [List.mem_cons]
theorem placeL_length (x : Bd) : ∀ l : List Bd, (placeL l x).length = l.length + 1
  | [] => rfl
  | y :: ys => by
    rw [placeL]
    split
    · rw [List.length_cons, placeL_length x ys, List.length_cons]
    · rfl
theorem asc_place (x : Bd) (hx : x.v ≤ 1099511627776) : ∀ (l : List Bd) (last : Int), ascB last l = true → last < x.v → (∀ y ∈ l, y.v ≠ x.v) → ascB last (placeL l x) = true
  | [], last, _, h1, _ => by
    rw [placeL, ascB, ascB, decide_eq_true h1, decide_eq_true hx]; rfl
  | y :: ys, last, h, h1, h2 => by
    rw [ascB, Bool.and_eq_true, Bool.and_eq_true, decide_eq_true_eq, decide_eq_true_eq] at h
    have hne := h2 y (by simp)
    rw [placeL]
    split
    · rename_i hlt
      rw [ascB, decide_eq_true h.1, decide_eq_true h.2.1, asc_place x hx ys y.v h.2.2 hlt fun z hz => h2 z (by simp [hz])]
      rfl
    · rename_i hlt
      rw [ascB, ascB, decide_eq_true h1, decide_eq_true hx, decide_eq_true (show x.v < y.v by omega), decide_eq_true h.2.1, h.2.2]
      rfl

/-- A new variable in the map. -/
def putF (f : Int → Option T) (n : Int) (t : T) : Int → Option T := fun m => if m = n then some t else f m

theorem IsBinds.same_var {f : Int → Option T} {l : List Bd} (h : IsBinds f l) {n : Int} (hn : f n = none) : IsBinds (putF f n (varT n)) l := by
  refine ⟨h.1, fun m t => (h.2.1 m t).trans ?_, h.2.2⟩
  rw [putF]
  by_cases hm : m = n
  · subst hm
    rw [if_pos rfl, hn]
    constructor
    · rintro ⟨h1, _⟩; cases h1
    · rintro ⟨h1, h2⟩
      exact absurd (Option.some.inj h1).symm h2
  · rw [if_neg hm]
theorem IsBinds.place {f : Int → Option T} {l : List Bd} (h : IsBinds f l) {x : Bd} (hf : x.t.erase.formed = true) (hv : 0 ≤ x.v ∧ x.v ≤ 1099511627776) (hn : f x.v = none) (hne : x.t.erase ≠ varT x.v) : IsBinds (putF f x.v x.t.erase) (placeL l x) := by
  have hfree : ∀ y ∈ l, y.v ≠ x.v := fun y hy e => by
    have := ((h.2.1 y.v y.t.erase).1 ⟨y, hy, rfl, rfl⟩).1
    rw [e, hn] at this
    cases this
  refine ⟨asc_place x hv.2 l (-1) h.1 (by omega) hfree, fun m t => ?_, fun y hy => ?_⟩
  · rw [putF]
    by_cases hm : m = x.v
    · rw [if_pos hm]
      constructor
      · rintro ⟨y, hy, h1, h2⟩
        rcases (placeL_mem x l y).1 hy with rfl | hy
        · exact ⟨by rw [h2], by rw [← h2, hm]; exact hne⟩
        · exact absurd (h1.trans hm) (hfree y hy)
      · rintro ⟨h1, _⟩
        exact ⟨x, (placeL_mem x l x).2 (.inl rfl), hm.symm, Option.some.inj h1⟩
    · rw [if_neg hm, ← h.2.1 m t]
      constructor
      · rintro ⟨y, hy, h1, h2⟩
        rcases (placeL_mem x l y).1 hy with rfl | hy
        · exact absurd h1.symm hm
        · exact ⟨y, hy, h1, h2⟩
      · rintro ⟨y, hy, h1, h2⟩
        exact ⟨y, (placeL_mem x l y).2 (.inr hy), h1, h2⟩
  · rcases (placeL_mem x l y).1 hy with rfl | hy
    · exact ⟨hf, hv⟩
    · exact h.2.2 y hy
theorem IsBinds.len {f : Int → Option T} {l : List Bd} (h : IsBinds f l) : l.length ≤ 1099511627777 := by
  have hnd : (l.map Bd.v).Nodup := by
    have hs := (asc_spec l (-1) h.1).2
    rw [List.Nodup, List.pairwise_map, List.pairwise_iff_getElem]
    intro i j hi hj hij
    have := hs i j hi hj hij
    omega
  have := nodup_le 1099511627777 (l.map Bd.v) hnd fun x hx => by
    obtain ⟨y, hy, rfl⟩ := List.mem_map.1 hx
    have := (h.2.2 y hy).2
    omega
  rwa [List.length_map] at this

/-- The variables and terms, without addresses. -/
def seeBds (l : List Bd) : List (Int × T) := l.map fun y => (y.v, y.t.erase)
theorem pairs_uniq : ∀ l l' : List (Int × T), l.Pairwise (fun a b => a.1 < b.1) → l'.Pairwise (fun a b => a.1 < b.1) → (∀ a, a ∈ l ↔ a ∈ l') → l = l'
  | [], [], _, _, _ => rfl
  | [], b :: ys, _, _, h => nomatch (h b).2 (by simp)
  | a :: xs, [], _, _, h => nomatch (h a).1 (by simp)
  | a :: xs, b :: ys, h1, h2, h => by
    rw [List.pairwise_cons] at h1 h2
    have hab : a = b := by
      rcases List.mem_cons.1 ((h a).1 (by simp)) with e | h3
      · exact e
      · rcases List.mem_cons.1 ((h b).2 (by simp)) with e | h4
        · exact e.symm
        · have h5 := h2.1 a h3
          have h6 := h1.1 b h4
          omega
    subst hab
    rw [pairs_uniq xs ys h1.2 h2.2 fun c => ?_]
    constructor
    · intro hc
      rcases List.mem_cons.1 ((h c).1 (by simp [hc])) with rfl | h3
      · have := h1.1 _ hc; omega
      · exact h3
    · intro hc
      rcases List.mem_cons.1 ((h c).2 (by simp [hc])) with rfl | h3
      · have := h2.1 _ hc; omega
      · exact h3
theorem seeBds_pairwise {l : List Bd} (h : ascB (-1) l = true) : (seeBds l).Pairwise (fun a b => a.1 < b.1) := by
  have hs := (asc_spec l (-1) h).2
  rw [seeBds, List.pairwise_map, List.pairwise_iff_getElem]
  intro i j hi hj hij
  exact hs i j hi hj hij
theorem IsBinds.uniq {f : Int → Option T} {l l' : List Bd} (h : IsBinds f l) (h' : IsBinds f l') : seeBds l = seeBds l' := by
  refine pairs_uniq _ _ (seeBds_pairwise h.1) (seeBds_pairwise h'.1) fun a => ?_
  have hm : ∀ l : List Bd, a ∈ seeBds l ↔ ∃ y ∈ l, y.v = a.1 ∧ y.t.erase = a.2 := fun l => by
    rw [seeBds, List.mem_map]
    constructor
    · rintro ⟨y, hy, rfl⟩; exact ⟨y, hy, rfl, rfl⟩
    · rintro ⟨y, hy, h1, h2⟩; exact ⟨y, hy, by rw [h1, h2]⟩
  rw [hm, hm, h.2.1, h'.2.1]
theorem seeBds_at {l l' : List Bd} (h : seeBds l = seeBds l') : l.length = l'.length ∧ ∀ (k : Nat) (hk : k < l.length) (hk' : k < l'.length), l[k].v = l'[k].v ∧ l[k].t.erase = l'[k].t.erase := by
  have hl : l.length = l'.length := by
    have := congrArg List.length h
    simpa [seeBds] using this
  refine ⟨hl, fun k hk hk' => ?_⟩
  have h1 : (seeBds l)[k]? = (seeBds l')[k]? := by rw [h]
  simp only [seeBds, List.getElem?_map, List.getElem?_eq_getElem hk, List.getElem?_eq_getElem hk', Option.map_some, Option.some.injEq, Prod.mk.injEq] at h1
  exact h1

/-! ### The map of a composition, as the document builds it -/
theorem putAll_none (g : Bd → T) (n : Int) : ∀ (l : List Bd) (f : Int → Option T), (∀ y ∈ l, y.v ≠ n) → putAll g l f n = f n
  | [], _, _ => rfl
  | y :: ys, f, h => by
    have := putAll_none g n ys (fun x => if x = y.v then some (g y) else f x) fun z hz => h z (by simp [hz])
    rw [show putAll g (y :: ys) f n = putAll g ys (fun x => if x = y.v then some (g y) else f x) n from rfl, this, if_neg fun e => h y (by simp) e.symm]
theorem putAll_some (g : Bd → T) (n : Int) : ∀ (l : List Bd) (f f' : Int → Option T), (∃ y ∈ l, y.v = n) → putAll g l f n = putAll g l f' n
  | [], _, _, h => nomatch h
  | y :: ys, f, f', h => by
    show putAll g ys (fun x => if x = y.v then some (g y) else f x) n = putAll g ys (fun x => if x = y.v then some (g y) else f' x) n
    by_cases h1 : ∃ z ∈ ys, z.v = n
    · exact putAll_some g n ys _ _ h1
    · obtain ⟨z, hz, rfl⟩ := h
      rcases List.mem_cons.1 hz with rfl | hz
      · rw [putAll_none g _ ys _ fun z hz e => h1 ⟨z, hz, e⟩, putAll_none g _ ys _ fun z hz e => h1 ⟨z, hz, e⟩, if_pos rfl, if_pos rfl]
      · exact absurd ⟨z, hz, rfl⟩ h1
theorem putAll_step (g : Bd → T) (l : List Bd) (f : Int → Option T) (k : Nat) (hk : k < l.length) : putAll g (l.take (k + 1)) f = putF (putAll g (l.take k) f) l[k].v (g l[k]) := putAll_snoc g l f k hk
theorem asc_free {l : List Bd} (h : ascB (-1) l = true) (k : Nat) (hk : k < l.length) : ∀ y ∈ l.take k, y.v ≠ l[k].v := by
  intro y hy
  obtain ⟨i, hi, rfl⟩ := List.getElem_of_mem hy
  rw [List.length_take] at hi
  rw [List.getElem_take]
  have := (asc_spec l (-1) h).2 i k (by omega) hk (by omega)
  omega
/-- The map when the second list has been gone through up to k. -/
def compAt (s u : List Bd) (k : Nat) : Int → Option T := putAll (fun y => T.map (lookupT u) y.t.erase) s (putAll (fun y => y.t.erase) (u.take k) (fun _ => none))
theorem compAt_end (s u : List Bd) : compAt s u u.length = compM s u := by rw [compAt, List.take_length, compM]
theorem compAt_found {s u : List Bd} {k : Nat} (hk : k < u.length) (h : ∃ y ∈ s, y.v = u[k].v) : compAt s u (k + 1) = compAt s u k := by
  funext n
  rw [compAt, compAt]
  by_cases h1 : ∃ y ∈ s, y.v = n
  · exact putAll_some _ n s _ _ h1
  · rw [putAll_none _ n s _ fun y hy e => h1 ⟨y, hy, e⟩, putAll_none _ n s _ fun y hy e => h1 ⟨y, hy, e⟩, putAll_step _ _ _ k hk, putF, if_neg]
    rintro rfl
    exact h1 h
theorem compAt_free {s u : List Bd} {k : Nat} (hu : ascB (-1) u = true) (hk : k < u.length) (h : ¬ ∃ y ∈ s, y.v = u[k].v) : compAt s u k u[k].v = none := by
  rw [compAt, putAll_none _ _ s _ fun y hy e => h ⟨y, hy, e⟩, putAll_none _ _ _ _ (asc_free hu k hk)]
theorem compAt_new {s u : List Bd} {k : Nat} (hk : k < u.length) (h : ¬ ∃ y ∈ s, y.v = u[k].v) : compAt s u (k + 1) = putF (compAt s u k) u[k].v u[k].t.erase := by
  funext n
  rw [putF, compAt, compAt]
  by_cases h1 : ∃ y ∈ s, y.v = n
  · rw [if_neg (by rintro rfl; exact h h1)]
    exact putAll_some _ n s _ _ h1
  · rw [putAll_none _ n s _ fun y hy e => h1 ⟨y, hy, e⟩, putAll_none _ n s _ fun y hy e => h1 ⟨y, hy, e⟩, putAll_step _ _ _ k hk, putF]
/-- Is the variable among those of the binds? -/
def hasV (l : List Bd) (n : Int) : Bool := l.any fun y => decide (y.v = n)
theorem hasV_iff (l : List Bd) (n : Int) : hasV l n = true ↔ ∃ y ∈ l, y.v = n := by
  simp [hasV, List.any_eq_true]
end Go.Proofs.Yteonakicoomjkaa

namespace Go.Proofs.Yteonakicoomjkaa
open Go.RowKit Go.Maps Go.Lib

theorem Bds.In.drop {w : World} {b o c : Nat} {l : List Bd} (h : (Bds.mk (some ⟨b, o, none⟩) c l).In w) (k : Nat) (hk : k ≤ l.length) : (Bds.mk (some ⟨b, o + k * 5, none⟩) (c - k) (l.drop k)).In w := by
  obtain ⟨h1, h2, h3, h4⟩ := h
  simp only at h1 h2
  refine ⟨by simp only [List.length_drop]; omega, ⟨by simp only [List.length_drop]; omega, by simp only; omega⟩, ?_, fun y hy => h4 y (List.mem_of_mem_drop hy)⟩
  rcases h3 with h3 | ⟨b', o', hp, hr⟩
  · simp only at h3
    subst h3
    exact .inl (List.drop_nil)
  · cases hp
    refine .inr ⟨b, o + k * 5, rfl, fun i x hx => ?_⟩
    rw [List.getElem?_drop] at hx
    have := hr (k + i) x hx
    rw [show o + (k + i) * 5 = o + k * 5 + i * 5 by omega] at this
    exact this

/-- place hands back the list with the bind where it belongs. -/
def RetPlace (l : List Bd) (w : World) (e : Ending) (w' : World) : Prop := ∃ p c, e = .returned (.slice p l.length c) ∧ (Bds.mk p c l).In w' ∧ Gr w w'

set_option maxHeartbeats 1000000 in
set_option maxRecDepth 100000 in
theorem place_walk (p : Option Addr) (c : Nat) (s : List Bd) (n : Int) (t : Tm) (w : World) (hs : (Bds.mk p c s).In w) (ht : t.In w) (hn : In64 n) (hlen : (s.length + 1) * 64 ≤ 140737488351232) :
    Calls Try.prog 113 #[.slice p s.length c, .int .i64 n, t.val] w (RetPlace (placeL s ⟨n, t⟩) w) := by
  have HS := Lib.hid hs
  have Ht := Lib.hid ht
  clear hs ht
  have hQ0 : Hid (∀ (k : Nat) (v : Value) (w' : World), k ≤ s.length → (∀ (j : Nat) (h : j < s.length), j < k → s[j].v < n) → (∀ (h : k < s.length), ¬ s[k].v < n) → BuiltBds w' (w.heap.size + 1) v (s.take k ++ [⟨n, t⟩] ++ s.drop k) → Gr w w' → RetPlace (placeL s ⟨n, t⟩) w (.returned v) w') := by
    intro k v w' h1 h2 h3 h4 h5
    have he : s.take k ++ [(⟨n, t⟩ : Bd)] ++ s.drop k = placeL s ⟨n, t⟩ := by
      rw [placeL_at ⟨n, t⟩ s k h1 h2 h3, List.append_assoc]; rfl
    rw [he] at h4
    obtain ⟨p, c, rfl, h6⟩ := h4.bds (by rw [placeL_length]; exact hlen) fun y hy => by
      rcases (placeL_mem _ _ _).1 hy with rfl | hy
      · exact ⟨Tm.In_below h5 Ht.out, hn⟩
      · have := (HS.out.mono h5).2.2.2 y hy
        exact this
    exact ⟨p, c, rfl, h6, h5⟩
  generalize RetPlace (placeL s ⟨n, t⟩) w = Q at hQ0 ⊢
  have HQ := hQ0
  clear hQ0
  have Htv := Lib.hid (show t.val = .agg #[.int .i64 t.k, .int .i64 t.n, .string t.s, .slice t.p t.l.length t.c] from rfl)
  rw [Htv.out]
  go_enter Try.func113, Try.ntmps113
  try simp only [List.append_eq, List.cons_append, List.nil_append]
  go_upto_region 1 with fail
  have hB := BlkT.new w 24 #[.int .i64 t.k, .int .i64 t.n, .string t.s, .slice t.p t.l.length t.c]
  have gA : Gr w (w.alloc (.cells #[.int .i64 t.k, .int .i64 t.n, .string t.s, .slice t.p t.l.length t.c] 24)) := by go_grown
  have hA : w.heap.size + 1 ≤ (w.alloc (.cells #[.int .i64 t.k, .int .i64 t.n, .string t.s, .slice t.p t.l.length t.c] 24)).heap.size := by simp
  generalize w.alloc (.cells #[.int .i64 t.k, .int .i64 t.n, .string t.s, .slice t.p t.l.length t.c] 24) = wA at *
  have HB := Lib.hid hB
  clear hB
  go_wp2_with fail
  go_loopg [7, 8] s.length (fun m v i wr => ∃ k : Nat, k ≤ s.length ∧ m = s.length - k ∧ i = .int .i64 k ∧ BuiltBds wr (w.heap.size + 1) v (s.take k) ∧ Below (w.heap.size + 1) wA wr ∧ Hid (∀ (j : Nat) (h : j < s.length), j < k → s[j].v < n))
  case atStart => exact ⟨0, Nat.zero_le _, rfl, rfl, World.ownsRow_nil _ _ _ 5, Below.refl _ _, fun j _ h => absurd h (Nat.not_lt_zero j)⟩
  case round =>
    obtain ⟨k, hk, rfl, rfl, hrow, hbl, hpre⟩ := hrel
    have Hrow := Lib.hid hrow
    clear hrow
    have gr : Gr w _ := Below.trans gA (Below.mono hbl (Nat.le_succ _))
    have hsz := Nat.le_trans hA hbl.size
    by_cases hlt : k < s.length
    · obtain ⟨b, o, rfl⟩ := HS.out.ptr (by omega)
      obtain ⟨⟨c0, c1, c2, c3, c4⟩, hti, ⟨hv1, hv2⟩, hbl0⟩ := (HS.out.mono gr).elem k hlt
      by_cases hv : s[k].v < n
      · have Hstep := Lib.hid (show ∀ (j : Nat) (h : j < s.length), j < k + 1 → s[j].v < n from fun j h hj => by
          rcases Nat.lt_or_ge j k with h1 | h1
          · exact hpre.out j h h1
          · obtain rfl : j = k := by omega
            exact hv)
        have Htk := Lib.hid (show s.take (k + 1) = s.take k ++ [s[k]] from List.take_succ_eq_append_getElem hlt)
        have htl : ((s.take k).length + 1) * 64 ≤ 140737488351232 := by rw [List.length_take]; omega
        generalize s[k] = y at *
        go_wp2_with (first
          | (refine wpList_append_bd rfl _ _ rfl rfl (w.heap.size + 1) _ (s.take k) y wr.heap.size 1 (by rfl) (by rfl) (Hrow.out.gr (by go_grown)) (by simp; omega) htl (BlkT.new wr _ _) ?_
             intro v' w4 h2 h3 h4)
          | fail)
        go_roundg (s.length - (k + 1))
        case measure => omega
        case rel => exact ⟨k + 1, by omega, rfl, by go_num, by rw [Htk.out]; exact h2, Below.trans hbl (Below.trans (Below.mono (show Gr wr _ by go_grown) hsz) (grownBy_below h3 (by simp; omega) fun b hb => Hrow.out.ge hb)), Hstep⟩
      · have HX := Lib.hid (BlkT.gr (HB.out) (show Gr wA wA from Gr.rfl' _))
        have htl : ((s.take k).length + 1) * 64 ≤ 140737488351232 := by rw [List.length_take]; omega
        have hx : BlkT wr w.heap.size 24 #[.int .i64 t.k, .int .i64 t.n, .string t.s, .slice t.p t.l.length t.c] := (hbl.block _ (Nat.lt_succ_self _)).trans HB.out
        have x0 := hx.cell 0 (v := .int .i64 t.k) rfl
        have x1 := hx.cell 1 (v := .int .i64 t.n) rfl
        have x2 := hx.cell 2 (v := .string t.s) rfl
        have x3 := hx.cell 3 (v := .slice t.p t.l.length t.c) rfl
        clear HX hx
        have Hend := Lib.hid (show ∀ (v : Value) (w' : World), BuiltBds w' (w.heap.size + 1) v (s.take k ++ [⟨n, t⟩] ++ s.drop k) → Gr w w' → Q (.returned v) w' from fun v w' h1 h2 => HQ.out k v w' hk hpre.out (fun _ => by omega) h1 h2)
        have hcl : s.length ≤ c := HS.out.1
        generalize s[k] = y at *
        go_upto_region 7 with (first
          | (refine wpList_append_bd rfl _ _ rfl rfl (w.heap.size + 1) _ (s.take k) ⟨n, t⟩ wr.heap.size 1 (by rfl) (by rfl) (Hrow.out.gr (by go_grown)) (by simp; omega) htl (BlkT.new wr _ _) ?_
             intro v' w4 h2 h3 h4)
          | fail)
        have g4 : Below (w.heap.size + 1) wr w4 := Below.trans (Below.mono (show Gr wr _ by go_grown) hsz) (grownBy_below h3 (by simp; omega) fun b hb => Hrow.out.ge hb)
        have gw4 : Gr w w4 := Below.trans gr (Below.mono g4 (Nat.le_succ _))
        obtain ⟨v5, w5, hr5, hb5, hg5, ho5⟩ := append_bds w4 (w.heap.size + 1) v' (s.take k ++ [⟨n, t⟩]) _ _ _ ((HS.out.mono gw4).drop k hk) h2 (Nat.le_trans hsz g4.size) (by simp; omega)
        rw [List.length_drop] at hr5
        have Hr5 := Lib.hid hr5
        have Hb5 := Lib.hid hb5
        have gw5 := Lib.hid (show Gr w w5 from Below.trans gw4 (Below.mono (grownBy_below hg5 (Nat.le_trans hsz g4.size) fun b hb => h2.ge hb) (Nat.le_succ _)))
        clear hr5 hb5 hg5 ho5 h2 h3 h4 x0 x1 x2 x3 c0 c1 c2 c3 c4
        go_wp2_with (first
          | (refine wpList_append_run _ rfl _ _ _ _ rfl _ _ (by rfl) (by rfl) _ _ Hr5.out ?_)
          | fail)
        exact Hend.out _ _ Hb5.out gw5.out
    · obtain rfl : k = s.length := by omega
      have htl : ((s.take s.length).length + 1) * 64 ≤ 140737488351232 := by rw [List.length_take]; omega
      have hx : BlkT wr w.heap.size 24 #[.int .i64 t.k, .int .i64 t.n, .string t.s, .slice t.p t.l.length t.c] := (hbl.block _ (Nat.lt_succ_self _)).trans HB.out
      have x0 := hx.cell 0 (v := .int .i64 t.k) rfl
      have x1 := hx.cell 1 (v := .int .i64 t.n) rfl
      have x2 := hx.cell 2 (v := .string t.s) rfl
      have x3 := hx.cell 3 (v := .slice t.p t.l.length t.c) rfl
      clear hx
      have Hend := Lib.hid (show ∀ (v : Value) (w' : World), BuiltBds w' (w.heap.size + 1) v (s.take s.length ++ [⟨n, t⟩] ++ s.drop s.length) → Gr w w' → Q (.returned v) w' from fun v w' h1 h2 => HQ.out s.length v w' hk hpre.out (fun h => by omega) h1 h2)
      have hcl : s.length ≤ c := HS.out.1
      go_upto_region 7 with (first
        | (refine wpList_append_bd rfl _ _ rfl rfl (w.heap.size + 1) _ (s.take s.length) ⟨n, t⟩ wr.heap.size 1 (by rfl) (by rfl) (Hrow.out.gr (by go_grown)) (by simp; omega) htl (BlkT.new wr _ _) ?_
           intro v' w4 h2 h3 h4)
        | fail)
      have g4 : Below (w.heap.size + 1) wr w4 := Below.trans (Below.mono (show Gr wr _ by go_grown) hsz) (grownBy_below h3 (by simp; omega) fun b hb => Hrow.out.ge hb)
      have gw4 : Gr w w4 := Below.trans gr (Below.mono g4 (Nat.le_succ _))
      have hany : ∀ x : Option Addr × Nat, ∃ r : Value × World, x.2 ≤ 9223372036854775807 → (Builtin.append_ #[58, 58] 58 #[v', .slice x.1 0 x.2]).run Try.prog w4 = .ok r.1 r.2 ∧ Q (.returned r.1) r.2 := fun ⟨p', c'⟩ => by
        by_cases hc' : c' ≤ 9223372036854775807
        · obtain ⟨v5, w5, hr5, hb5, hg5, ho5⟩ := append_bds w4 (w.heap.size + 1) v' (s.take s.length ++ [⟨n, t⟩]) p' c' [] ⟨Nat.zero_le _, ⟨by simp, hc'⟩, .inl rfl, fun y hy => nomatch hy⟩ h2 (Nat.le_trans hsz g4.size) (by simp; omega)
          exact ⟨(v5, w5), fun _ => ⟨hr5, Hend.out _ _ (by rw [List.drop_length]; exact hb5) (Below.trans gw4 (Below.mono (grownBy_below hg5 (Nat.le_trans hsz g4.size) fun b hb => h2.ge hb) (Nat.le_succ _)))⟩⟩
        · exact ⟨(v', w4), fun h => absurd h hc'⟩
      obtain ⟨F, hF⟩ := Classical.skolem.1 hany
      have HF := Lib.hid (show ∀ p' c', c' ≤ 9223372036854775807 → (Builtin.append_ #[58, 58] 58 #[v', .slice p' 0 c']).run Try.prog w4 = .ok (F (p', c')).1 (F (p', c')).2 ∧ Q (.returned (F (p', c')).1) (F (p', c')).2 from fun p' c' => hF (p', c'))
      have hcm := HS.out.2.1.2
      simp only at hcm
      clear h2 h3 h4 x0 x1 x2 x3 hany hF
      cases p with
      | none =>
        go_wp2_with (first
          | (refine wpList_append_run _ rfl _ _ _ _ rfl _ _ (by rfl) (by rfl) _ _ (HF.out _ _ (by omega)).1 ?_)
          | fail)
        exact (HF.out _ _ (by omega)).2
      | some a =>
        by_cases hc : c = s.length
        · have hc0 : (c - s.length = 0) := by omega
          go_wp2_with (first
            | (refine wpList_append_run _ rfl _ _ _ _ rfl _ _ (by rfl) (by rfl) _ _ (HF.out _ _ (by omega)).1 ?_)
            | fail)
          exact (HF.out _ _ (by omega)).2
        · have hc0 : ¬ (c - s.length = 0) := by omega
          go_wp2_with (first
            | (refine wpList_append_run _ rfl _ _ _ _ rfl _ _ (by rfl) (by rfl) _ _ (HF.out _ _ (by omega)).1 ?_)
            | fail)
          exact (HF.out _ _ (by omega)).2
end Go.Proofs.Yteonakicoomjkaa

namespace Go.Proofs.Yteonakicoomjkaa
open Go.RowKit

theorem hasV_drop (l : List Bd) (n : Int) (k : Nat) (hk : k < l.length) (h : l[k].v ≠ n) : hasV (l.drop k) n = hasV (l.drop (k + 1)) n := by
  rw [List.drop_eq_getElem_cons hk, hasV, hasV, List.any_cons, decide_eq_false h, Bool.false_or]
theorem hasV_here (l : List Bd) (n : Int) (k : Nat) (hk : k < l.length) (h : l[k].v = n) : hasV (l.drop k) n = true := by
  rw [List.drop_eq_getElem_cons hk, hasV, List.any_cons, decide_eq_true h, Bool.true_or]
def RetFindB (S : Nat → Prop) (t : T) (x : Bool) (w : World) (e : Ending) (w' : World) : Prop :=
  ∃ (b : Tm), b.In w' ∧ b.erase = t ∧ e = .returned (.tuple #[b.val, .bool x]) ∧ Gr w w' ∧ b.On S

set_option maxHeartbeats 2000000 in
set_option maxRecDepth 100000 in
theorem rfindB_calls (S : Nat → Prop) (p : Option Addr) (c : Nat) (l : List Bd) (n : Int) (w : World) (hx : (Bds.mk p c l).In w) (hn : In64 n) (hS : ∀ b, S b → b < w.heap.size) (hO : ∀ y ∈ l, y.t.On S) :
    Calls Try.prog 45 #[.slice p l.length c, .int .i64 n] w (RetFindB (fun b => S b ∨ w.heap.size ≤ b) (lookupT l n) (hasV l n) w) := by
  have HX := Lib.hid hx
  have Hn := Lib.hid hn
  have HS := Lib.hid hS
  have HO := Lib.hid hO
  obtain ⟨hlc, ⟨hl64, hc⟩, _, _⟩ := hx
  simp only at hlc hl64 hc
  obtain ⟨hn1, hn2⟩ := hn
  generalize hr : lookupT l n = r
  generalize hq : hasV l n = q
  have Hq := Lib.hid hq
  clear hq
  have Hr := Lib.hid hr
  clear hr hS hO
  go_enter Try.func45, Try.ntmps45
  go_wp2_with fail
  go_loop [6] (fun i => ∃ k : Nat, k ≤ l.length ∧ i = .int .i64 k ∧ Hid (lookupT (l.drop k) n = r) ∧ Hid (hasV (l.drop k) n = q)) (fun i => l.length - (intOf i).toNat)
  case atStart => exact ⟨0, Nat.zero_le _, rfl, Hr.out, Hq.out⟩
  case round =>
    obtain ⟨k, hk, rfl, hpre, hpq⟩ := hrel
    by_cases hlt : k < l.length
    · obtain ⟨b, o, rfl⟩ := HX.out.ptr (by omega)
      obtain ⟨⟨c0, c1, c2, c3, c4⟩, hti, ⟨hv1, hv2⟩, hbl⟩ := HX.out.elem k hlt
      have Hti := Lib.hid hti
      have HyO := Lib.hid (HO.out _ (List.getElem_mem hlt))
      by_cases hv : l[k].v = n
      · have Hh2 : Hid (true = q) := (hasV_here l n k hlt hv).symm.trans hpq.out
        have Hh : Hid (l[k].t.erase = r) := (lookupT_here l n k hlt hv).symm.trans hpre.out
        clear hti
        generalize hye : l[k] = y at *
        obtain ⟨yv, yt⟩ := y
        simp only at *
        have hvb : (yv == n) = true := by simp [hv]
        clear hv
        go_wp2_with fail
        refine bodyPost_ret (v := .tuple #[yt.val, .bool true]) (by simp (maxDischargeDepth := 9) [results, Try.results45, go_sem, Tm.val]) rfl ⟨yt, Tm.In_below (by go_grown) Hti.out, Hh.out, by rw [← Hh2.out], by go_grown, HyO.out.mono fun b hb => .inl hb⟩
      · have Hh2 : Hid (hasV (l.drop (k + 1)) n = q) := (hasV_drop l n k hlt hv).symm.trans hpq.out
        have Hh : Hid (lookupT (l.drop (k + 1)) n = r) := (lookupT_drop l n k hlt hv).symm.trans hpre.out
        have hvb : (l[k].v == n) = false := beq_eq_false_iff_ne.2 hv
        clear hti hv
        generalize hye : l[k] = y at *
        go_wp2_with fail
        go_round
        case rel => exact ⟨k + 1, by omega, by go_num, Hh.out, Hh2.out⟩
        case measure => simp [intOf]; omega
    · obtain rfl : k = l.length := by omega
      have Hh2 : Hid (false = q) := by
        show _ = _
        rw [← hpq.out, List.drop_length]; rfl
      have Hh : Hid (varT n = r) := by
        show _ = _
        rw [← hpre.out, List.drop_length, lookupT]
      go_wp2_with fail
      refine (rV_calls n _ Hn.out).mono ?_
      rintro e w1 ⟨rfl, hb1⟩
      obtain ⟨⟨y0, y1, y2, y3⟩, ⟨f0, f1, f2, f3⟩, hlt1⟩ := (Blk4.gr (Blk4.new _ _ _ _ _) hb1).parts
      have g1 : Gr w w1 := below_step hb1 (by go_grown)
      clear hb1
      go_wp2_with fail
      refine bodyPost_ret (v := .tuple #[(varTm n).val, .bool false]) (by simp (maxDischargeDepth := 9) [results, Try.results45, go_sem, varTm, Tm.val, Tm.k, Tm.n, Tm.s, Tm.p, Tm.c, Tm.l, y0, y1, y2, y3]) rfl ⟨varTm n, varTm_in Hn.out _, by rw [varTm_erase, Hh.out], by rw [← Hh2.out], by go_grown, varTm_on n⟩

end Go.Proofs.Yteonakicoomjkaa
