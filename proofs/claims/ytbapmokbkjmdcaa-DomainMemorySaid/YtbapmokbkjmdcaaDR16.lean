/-
  newEngine: what is so while an engine is made.
-/
import Derived.Test.YtbapmokbkjmdcaaDR15
namespace Go.Proofs.Ytbapmokbkjmdcaa
open Go.RowKit Go.Maps Go.Lib

/-- A drawn region with an append as its i-th operation (slot s): what is so ahead of it and behind it. -/
def AppJ (i s : Nat) (P0 : World → Prop) (P1 : Value → World → Prop) (listed : Array Bool) (a : Act) (w : World) : Prop :=
  (listed.getD i false = false → P0 w) ∧ (listed.getD i false = true → ∀ q n c, a.tmps[s]?.getD undef = .slice q n c → P1 (.slice q n c) w)
theorem AppJ.start {i s : Nat} {P0 : World → Prop} {P1 : Value → World → Prop} (n : Nat) (a : Act) {w : World} (h : P0 w) : AppJ i s P0 P1 (Array.replicate n false) a w := by
  refine ⟨fun _ => h, fun hh => ?_⟩
  have : (Array.replicate n false).getD i false = false := by
    rw [Array.getD_eq_getD_getElem?, Array.getElem?_replicate]
    split <;> rfl
  rw [this] at hh; cases hh
theorem AppJ.other {i s k : Nat} {P0 : World → Prop} {P1 : Value → World → Prop} {t : Option Tmp} (hP0 : ∀ w w', P0 w → Gr w w' → P0 w') (hP1 : ∀ v w w', P1 v w → Gr w w' → P1 v w') (hi : (k != i && t != some s) = true) (listed : Array Bool) (a : Act) (w w' : World) (v : Value) (h : AppJ i s P0 P1 listed a w) (hg : Gr w w') : AppJ i s P0 P1 (listed.setIfInBounds k true) (a.put t v) w' := by
  simp only [Bool.and_eq_true, bne_iff_ne] at hi
  unfold AppJ
  rw [Go.getD_set_ne false hi.1, put_ne hi.2]
  exact ⟨fun a1 => hP0 _ _ (h.1 a1) hg, fun a1 q n c e => hP1 _ _ _ (h.2 a1 q n c e) hg⟩
theorem AppJ.step {i s : Nat} {P0 : World → Prop} {P1 : Value → World → Prop} {listed : Array Bool} {a : Act} {w' : World} {v : Value} (hl : listed.getD i true = false) (hv : P1 v w') : AppJ i s P0 P1 (listed.setIfInBounds i true) (a.put (some s) v) w' := by
  have hs : i < listed.size := by
    by_cases h : i < listed.size
    · exact h
    · rw [Array.getD_eq_getD_getElem?, Array.getElem?_eq_none (by omega)] at hl; cases hl
  have h1 : (listed.setIfInBounds i true).getD i false = true := by
    rw [Array.getD_eq_getD_getElem?, Array.getElem?_setIfInBounds_self_of_lt hs]; rfl
  refine ⟨fun h => (by rw [h1] at h; cases h), fun _ q n c e => ?_⟩
  rw [← put_eq e (fun e => by cases e)]; exact hv
theorem AppJ.done {i s m : Nat} {P0 : World → Prop} {P1 : Value → World → Prop} {a : Act} {w : World} (h : AppJ i s P0 P1 (Array.replicate m true) a w) (hm : i < m) : ∀ q n c, a.tmps[s]?.getD undef = .slice q n c → P1 (.slice q n c) w :=
  h.2 (by rw [Array.getD_eq_getD_getElem?, Array.getElem?_replicate, if_pos hm]; rfl)

theorem infoRows : (Try.prog.info? 38).map (fun i => (i.zero, i.size, i.bytes)) = some (some (.slice none 0 0), 1, 24) := by kernel_rfl

/-- The domains so far: D's first j are copied. -/
structure BldD (w0 : World) (D : List (List Int)) (dv : Value) (xs : List Value) (j : Nat) (w : World) : Prop where
  row : w.ownsRow w0.heap.size 38 1 dv j xs
  each : ∀ (i : Nat) (d : List Int), i < j → D[i]? = some d → ∃ v, xs[i]? = some v ∧ IntsOwn w w0.heap.size v d
theorem BldD.gr {w0 : World} {D : List (List Int)} {dv : Value} {xs : List Value} {j : Nat} {w w' : World} (h : BldD w0 D dv xs j w) (hg : Gr w w') : BldD w0 D dv xs j w' :=
  ⟨ownsRow_gr h.row hg, fun i d hi hd => by
    obtain ⟨v, h1, h2⟩ := h.each i d hi hd
    exact ⟨v, h1, h2.gr hg⟩⟩
theorem BldD.kp {C : Nat → Prop} {w0 : World} {D : List (List Int)} {dv : Value} {xs : List Value} {j : Nat} {w w' : World} (h : BldD w0 D dv xs j w) (hk : Kp C w w') {τ : TypeId} (hC : ∀ b, C b → OfT w b τ) (h1 : τ ≠ 38) (h2 : τ ≠ 2) : BldD w0 D dv xs j w' :=
  ⟨ownsRow_kp h.row hk fun g hg hc => OfT.ne (hC g hc) (ownsRow_type h.row hg).1 h1 rfl, fun i d hi hd => by
    obtain ⟨v, h3, h4⟩ := h.each i d hi hd
    exact ⟨v, h3, ownsRow_kp h4 hk fun g hg hc => OfT.ne (hC g hc) (ownsRow_type h4 hg).1 h2 rfl⟩⟩
/-- One more. -/
theorem BldD.push {w0 : World} {D : List (List Int)} {dv : Value} {xs : List Value} {j : Nat} {w : World} (h : BldD w0 D dv xs j w) {d : List Int} (hd : D[j]? = some d) {u : Value} (hu : IntsOwn w w0.heap.size u d) (hj : j ≤ 1000) (hw : w0.heap.size ≤ w.heap.size) (ty : TypeId) (b : Nat) (hb : w.cell? ⟨b, 0, none⟩ = some u) :
    ∃ v' w', (Builtin.append_ #[22, 22] ty #[dv, .slice (some ⟨b, 0, none⟩) 1 1]).run Try.prog w = .ok v' w' ∧ BldD w0 D v' (xs ++ [u]) (j + 1) w' ∧ Kp (fun x => dv.ownBlock = some x) w w' := by
  obtain ⟨i0, hi, hz0, hz1, hz2⟩ := info_parts infoRows
  have hone : u.oneCell' = true := by
    obtain ⟨p, c, rfl⟩ := hu.form
    cases p <;> rfl
  obtain ⟨v', w', hr, ho, hg, _⟩ := run_append_own_fresh (P := Try.prog) w w0.heap.size 22 ty 38 i0 (.slice none 0 0) 1 24 Try.underlying22 hi hz0 hz1 hz2 rfl (by decide) dv j xs h.row ⟨b, 0, none⟩ 1 1 [u] rfl (by
    intro k v hk
    match k, hk with
    | 0, hk => cases hk; exact hb
    | k + 1, hk => simp at hk) (by
    intro v hv
    rw [List.mem_singleton.1 hv]; exact hone) (by simp only [maxLen]; omega) (by omega) hw (by decide)
  have hkp : Kp (fun x => dv.ownBlock = some x) w w' := Kp.of_grown hg fun r hr => hr
  have hoth : ∀ {v : Value} {d : List Int}, IntsOwn w w0.heap.size v d → IntsOwn w' w0.heap.size v d := fun {v d} hv => ownsRow_kp hv hkp fun g hg hc => OfT.ne (ownsRow_type h.row hc).1 (ownsRow_type hv hg).1 (by decide) rfl
  refine ⟨v', w', hr, ⟨ho, fun i d' hi' hd' => ?_⟩, hkp⟩
  have hxl : xs.length = j := by have := h.row.1; omega
  by_cases hij : i < j
  · obtain ⟨v, h1, h2⟩ := h.each i d' hij hd'
    exact ⟨v, by rw [List.getElem?_append_left (by omega)]; exact h1, hoth h2⟩
  · obtain rfl : i = j := by omega
    rw [hd] at hd'; cases hd'
    exact ⟨u, by rw [List.getElem?_append_right (by omega), hxl, Nat.sub_self]; rfl, hoth hu⟩

/-- The lists of constraints so far: of constraints ahead of the j-th all variables, of the j-th the first m. -/
structure BldU (w0 : World) (C : List Con) (N uB : Nat) (vv : List Value) (U : List (List Int)) (j m : Nat) (w : World) : Prop where
  blk : ∃ cells : Array Value, BlkT w uB 40 cells ∧ ∀ (i : Nat) (v : Value), vv[i]? = some v → cells[i]? = some v
  lenV : vv.length = N
  lenU : U.length = N
  own : ∀ (i : Nat) (v : Value) (u : List Int), vv[i]? = some v → U[i]? = some u → w.ownsRow w0.heap.size 3 1 v u.length (u.map (.int .i64))
  apart : ∀ (i j : Nat) (v v' : Value), i ≠ j → vv[i]? = some v → vv[j]? = some v' → ∀ g, v.ownBlock = some g → v'.ownBlock ≠ some g
  nd : ∀ u ∈ U, u.Nodup
  mem : ∀ (i : Nat) (u : List Int), U[i]? = some u → ∀ k : Int, k ∈ u ↔ 0 ≤ k ∧ ∃ c, C[k.toNat]? = some c ∧ ((k.toNat < j ∧ (i : Int) ∈ c.vars) ∨ (k.toNat = j ∧ (i : Int) ∈ c.vars.take m))
section
variable {w0 w w' : World} {C : List Con} {N uB j m : Nat} {vv : List Value} {U : List (List Int)}
theorem BldU.gr (h : BldU w0 C N uB vv U j m w) (hg : Gr w w') : BldU w0 C N uB vv U j m w' := by
  obtain ⟨cells, h1, h2⟩ := h.blk
  exact ⟨⟨cells, h1.gr hg, h2⟩, h.lenV, h.lenU, fun i v u hv hu => ownsRow_gr (h.own i v u hv hu) hg, h.apart, h.nd, h.mem⟩
theorem BldU.kp {K : Nat → Prop} (h : BldU w0 C N uB vv U j m w) (hk : Kp K w w') {τ : TypeId} (hC : ∀ b, K b → OfT w b τ) (h1 : τ ≠ 40) (h2 : τ ≠ 3) : BldU w0 C N uB vv U j m w' := by
  obtain ⟨cells, h3, h4⟩ := h.blk
  exact ⟨⟨cells, h3.kp hk fun hc => OfT.ne (hC _ hc) (.of h3) h1 rfl, h4⟩, h.lenV, h.lenU, fun i v u hv hu => ownsRow_kp (h.own i v u hv hu) hk fun g hg hc => OfT.ne (hC g hc) (ownsRow_type (h.own i v u hv hu) hg).1 h2 rfl, h.apart, h.nd, h.mem⟩
/-- The next variable stands in the list already. -/
theorem BldU.skip (h : BldU w0 C N uB vv U j m w) {c : Con} (hc : C[j]? = some c) {v : Int} (hv : c.vars[m]? = some v) (hv0 : 0 ≤ v) {u : List Int} (hu : U[v.toNat]? = some u) (hj : (j : Int) ∈ u) : BldU w0 C N uB vv U j (m + 1) w := by
  refine ⟨h.blk, h.lenV, h.lenU, h.own, h.apart, h.nd, fun i u' hu' k => (h.mem i u' hu' k).trans ?_⟩
  constructor
  · rintro ⟨h0, c', hc', h1⟩
    exact ⟨h0, c', hc', h1.imp id fun h2 => ⟨h2.1, by rw [List.take_add_one]; exact List.mem_append_left _ h2.2⟩⟩
  · rintro ⟨h0, c', hc', h1⟩
    refine ⟨h0, c', hc', ?_⟩
    rcases h1 with h1 | ⟨h1, h2⟩
    · exact .inl h1
    · rw [h1, hc] at hc'
      cases hc'
      rw [List.take_add_one, hv] at h2
      rcases List.mem_append.1 h2 with h2 | h2
      · exact .inr ⟨h1, h2⟩
      · have hiv : (i : Int) = v := List.mem_singleton.1 h2
        have hi : v.toNat = i := by omega
        rw [hi] at hu
        rw [hu] at hu'
        cases hu'
        have hkj : k = (j : Int) := by omega
        rw [← hkj] at hj
        obtain ⟨_, c2, hc2, h3⟩ := (h.mem i u hu k).1 hj
        rw [h1, hc] at hc2
        cases hc2
        exact h3
/-- The next constraint. -/
theorem BldU.next (h : BldU w0 C N uB vv U j m w) {c : Con} (hc : C[j]? = some c) (hm : m = c.vars.length) : BldU w0 C N uB vv U (j + 1) 0 w := by
  refine ⟨h.blk, h.lenV, h.lenU, h.own, h.apart, h.nd, fun i u hu k => (h.mem i u hu k).trans ?_⟩
  constructor
  · rintro ⟨h0, c', hc', h1⟩
    refine ⟨h0, c', hc', .inl ?_⟩
    rcases h1 with ⟨h1, h2⟩ | ⟨h1, h2⟩
    · exact ⟨by omega, h2⟩
    · exact ⟨by omega, List.mem_of_mem_take h2⟩
  · rintro ⟨h0, c', hc', h1⟩
    refine ⟨h0, c', hc', ?_⟩
    rcases h1 with ⟨h1, h2⟩ | ⟨_, h2⟩
    · by_cases hkj : k.toNat = j
      · refine .inr ⟨hkj, ?_⟩
        rw [hkj, hc] at hc'
        cases hc'
        rw [hm, List.take_length]; exact h2
      · exact .inl ⟨by omega, h2⟩
    · simp at h2
theorem BldU.uses (h : BldU w0 C N uB vv U C.length 0 w) : UsesOk C U N := by
  refine ⟨h.lenU, fun i hi => ?_⟩
  have hu : U[i]? = some (U.getD i []) := by
    rw [List.getD_eq_getElem?_getD, List.getElem?_eq_getElem (by rw [h.lenU]; exact hi)]; rfl
  refine ⟨h.nd _ (List.mem_of_getElem? hu), fun k => (h.mem i _ hu k).trans ?_⟩
  constructor
  · rintro ⟨h0, c, hc, h1⟩
    refine ⟨h0, c, hc, ?_⟩
    rcases h1 with h1 | ⟨_, h2⟩
    · exact h1.2
    · simp at h2
  · rintro ⟨h0, c, hc, h1⟩
    exact ⟨h0, c, hc, .inl ⟨(List.getElem?_eq_some_iff.1 hc).1, h1⟩⟩

/-- The number of the constraint is appended to a variable's list. -/
theorem BldU.push (h : BldU w0 C N uB vv U j m w) {c : Con} (hc : C[j]? = some c) {v : Int} (hv : c.vars[m]? = some v) (hv0 : 0 ≤ v) {u : List Int} (hu : U[v.toNat]? = some u) (hj : (j : Int) ∉ u) {vu : Value} (hvu : vv[v.toNat]? = some vu) (hl : u.length ≤ 1000) (hw : w0.heap.size ≤ w.heap.size) (ty : TypeId) (b : Nat) (hb : w.cell? ⟨b, 0, none⟩ = some (.int .i64 j)) :
    ∃ v' w', (Builtin.append_ #[40, 40] ty #[vu, .slice (some ⟨b, 0, none⟩) 1 1]).run Try.prog w = .ok v' w' ∧ (∃ p c, v' = .slice p (u.length + 1) c) ∧ Kp (fun x => vu.ownBlock = some x) w w' ∧
      ∀ W, Gr w' W → (∃ cells : Array Value, BlkT W uB 40 cells ∧ v.toNat < cells.size) ∧ BldU w0 C N uB (vv.set v.toNat v') (U.set v.toNat (u ++ [(j : Int)])) j (m + 1) (W.setCell ⟨uB, v.toNat, none⟩ v') := by
  obtain ⟨i0, hi, hz0, hz1, hz2⟩ := info_parts infoInt
  have ho := h.own _ _ _ hvu hu
  obtain ⟨v', w', hr, ho', hg, hbl⟩ := run_append_own_fresh (P := Try.prog) w w0.heap.size 40 ty 3 i0 (.int .i64 0) 1 8 Try.underlying40 hi hz0 hz1 hz2 rfl (by decide) vu u.length (u.map (.int .i64)) ho ⟨b, 0, none⟩ 1 1 [.int .i64 (j : Int)] rfl (by
    intro k x hk
    match k, hk with
    | 0, hk => cases hk; exact hb
    | k + 1, hk => simp at hk) (by
    intro x hx
    rw [List.mem_singleton.1 hx]; rfl) (by simp only [maxLen]; omega) (by omega) hw (by decide)
  have hkp : Kp (fun x => vu.ownBlock = some x) w w' := Kp.of_grown hg fun r hr => hr
  have hvl : v.toNat < U.length := (List.getElem?_eq_some_iff.1 hu).1
  have hvl2 : v.toNat < vv.length := (List.getElem?_eq_some_iff.1 hvu).1
  obtain ⟨cells, hcb, hcs⟩ := h.blk
  have hcl : v.toNat < cells.size := (Array.getElem?_eq_some_iff.1 (hcs _ _ hvu)).1
  have hcb' : BlkT w' uB 40 cells := hcb.kp hkp fun hh => OfT.ne (ownsRow_type ho hh).1 (.of hcb) (by decide) rfl
  have ho2 : w'.ownsRow w0.heap.size 3 1 v' (u ++ [(j : Int)]).length ((u ++ [(j : Int)]).map (.int .i64)) := by
    rw [List.length_append, List.map_append]; exact ho'
  refine ⟨v', w', hr, ?_, hkp, fun W hW => ⟨⟨cells, hcb'.gr hW, hcl⟩, ?_⟩⟩
  · rcases ho'.2 with ⟨_, h0⟩ | ⟨g, cap, cur, rfl, _⟩
    · omega
    · exact ⟨_, _, rfl⟩
  have hks : Kp (· = uB) W (W.setCell ⟨uB, v.toNat, none⟩ v') := Kp.set rfl
  have hub : OfT W uB 40 := .of (hcb'.gr hW)
  have hrow : ∀ {x : Value} {n : Nat} {xs : List Value}, w'.ownsRow w0.heap.size 3 1 x n xs → (W.setCell ⟨uB, v.toNat, none⟩ v').ownsRow w0.heap.size 3 1 x n xs := fun {x n xs} hx => ownsRow_kp (ownsRow_gr hx hW) hks fun g hg hc => OfT.ne hub (ownsRow_type (ownsRow_gr hx hW) hg).1 (by decide) hc.symm
  refine ⟨⟨cells.setIfInBounds v.toNat v', (hcb'.gr hW).set _ _, fun i x hx => ?_⟩, by rw [List.length_set]; exact h.lenV, by rw [List.length_set]; exact h.lenU, fun i x y hx hy => ?_, fun i k x x' hik hx hx' g hg => ?_, fun y hy => ?_, fun i y hy k => ?_⟩
  · by_cases hi : v.toNat = i
    · subst hi
      rw [List.getElem?_set_self hvl2] at hx
      cases hx
      exact Array.getElem?_setIfInBounds_self_of_lt hcl
    · rw [List.getElem?_set_ne hi] at hx
      rw [Array.getElem?_setIfInBounds_ne hi]
      exact hcs i x hx
  · by_cases hi : v.toNat = i
    · subst hi
      rw [List.getElem?_set_self hvl2] at hx
      rw [List.getElem?_set_self hvl] at hy
      cases hx; cases hy
      exact hrow ho2
    · rw [List.getElem?_set_ne hi] at hx hy
      exact hrow (ownsRow_kp (h.own i x y hx hy) hkp fun g hg hc => h.apart v.toNat i vu x hi hvu hx g hc hg)
  · have hnew : ∀ {i : Nat} {x : Value}, v.toNat ≠ i → vv[i]? = some x → x.ownBlock = some g → v'.ownBlock ≠ some g := fun {i x} hi hx hxg hv' => by
      obtain ⟨y, hy⟩ : ∃ y, U[i]? = some y := ⟨_, List.getElem?_eq_getElem (by rw [h.lenU, ← h.lenV]; exact (List.getElem?_eq_some_iff.1 hx).1)⟩
      rcases hbl with hbl | hbl
      · rw [hbl] at hv'
        exact h.apart v.toNat i vu x hi hvu hx g hv' hxg
      · rw [hbl] at hv'
        cases hv'
        have := (ownsRow_type (h.own i x y hx hy) hxg).1.lt
        omega
    by_cases hi : v.toNat = i
    · subst hi
      rw [List.getElem?_set_self hvl2] at hx
      rw [List.getElem?_set_ne hik] at hx'
      cases hx
      exact fun hxg => hnew hik hx' hxg hg
    · rw [List.getElem?_set_ne hi] at hx
      by_cases hk : v.toNat = k
      · subst hk
        rw [List.getElem?_set_self hvl2] at hx'
        cases hx'
        exact fun hxg => hnew hi hx hg hxg
      · rw [List.getElem?_set_ne hk] at hx'
        exact h.apart i k x x' hik hx hx' g hg
  · rcases List.mem_or_eq_of_mem_set hy with hy | rfl
    · exact h.nd y hy
    · rw [List.nodup_append]
      exact ⟨h.nd u (List.mem_of_getElem? hu), by simp, fun x hx y hy => by rw [List.mem_singleton.1 hy]; exact fun e => hj (e ▸ hx)⟩
  · by_cases hi : v.toNat = i
    · subst hi
      rw [List.getElem?_set_self hvl] at hy
      cases hy
      rw [List.mem_append, List.mem_singleton, h.mem _ u hu k]
      have hvv : ((v.toNat : Nat) : Int) = v := Int.toNat_of_nonneg hv0
      constructor
      · rintro (⟨h0, c', hc', h1⟩ | rfl)
        · exact ⟨h0, c', hc', h1.imp id fun h2 => ⟨h2.1, by rw [List.take_add_one]; exact List.mem_append_left _ h2.2⟩⟩
        · exact ⟨by omega, c, by rw [Int.toNat_natCast]; exact hc, .inr ⟨by omega, by rw [List.take_add_one, hv, hvv]; exact List.mem_append_right _ (List.mem_cons_self ..)⟩⟩
      · rintro ⟨h0, c', hc', h1⟩
        rcases h1 with h1 | ⟨h1, h2⟩
        · exact .inl ⟨h0, c', hc', .inl h1⟩
        · exact .inr (by omega)
    · rw [List.getElem?_set_ne hi] at hy
      refine (h.mem i y hy k).trans ?_
      constructor
      · rintro ⟨h0, c', hc', h1⟩
        exact ⟨h0, c', hc', h1.imp id fun h2 => ⟨h2.1, by rw [List.take_add_one]; exact List.mem_append_left _ h2.2⟩⟩
      · rintro ⟨h0, c', hc', h1⟩
        refine ⟨h0, c', hc', ?_⟩
        rcases h1 with h1 | ⟨h1, h2⟩
        · exact .inl h1
        · rw [h1, hc] at hc'
          cases hc'
          rw [List.take_add_one, hv] at h2
          rcases List.mem_append.1 h2 with h2 | h2
          · exact .inr ⟨h1, h2⟩
          · have hiv : (i : Int) = v := List.mem_singleton.1 h2
            omega
end
end Go.Proofs.Ytbapmokbkjmdcaa
