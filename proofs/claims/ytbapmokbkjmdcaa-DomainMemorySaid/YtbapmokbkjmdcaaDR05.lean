/-
  Finite domains: the search for support; what is so within reduce: plain.
  Finite domains: all solutions, in order; what is left of them behind reduce; what is told one behind the other: plain.
-/
import Derived.Test.YtbapmokbkjmdcaaDR04
namespace Go.Proofs.Ytbapmokbkjmdcaa
/-- Numbers that are given so far, and one more. -/
def updG (g : Int → Option Int) (v x : Int) : Int → Option Int := fun u => if u = v then some x else g u
def valG (g : Int → Option Int) : Int → Int := fun u => (g u).getD 0
theorem updG_same (g : Int → Option Int) (v x : Int) : updG g v x v = some x := if_pos rfl
theorem updG_other (g : Int → Option Int) {v u : Int} (x : Int) (h : u ≠ v) : updG g v x u = g u := if_neg h
def takenG (c : Con) (g : Int → Option Int) (n : Int) : Bool := c.vars.any fun v => decide (g v = some n)
/-- The search for support: variables from one on. -/
def suppL (D : List (List Int)) (c : Con) : List Int → (Int → Option Int) → Bool
  | [], g => c.sat (valG g)
  | v :: l, g => if (g v).isSome then suppL D c l g else (dom D v).any fun n => !(decide (c.kind = 2) && takenG c g n) && suppL D c l (updG g v n)

theorem nodup_inj {a : Int → Int} : ∀ {l : List Int}, (l.map a).Nodup → ∀ {u v : Int}, u ∈ l → v ∈ l → a u = a v → u = v
  | x :: xs, h, u, v, hu, hv, e => by
    rw [List.map_cons, List.nodup_cons] at h
    rcases List.mem_cons.1 hu with rfl | hu' <;> rcases List.mem_cons.1 hv with rfl | hv'
    · rfl
    · exact absurd (List.mem_map.2 ⟨v, hv', e.symm⟩) h.1
    · exact absurd (List.mem_map.2 ⟨u, hu', e⟩) h.1
    · exact nodup_inj h.2 hu' hv' e
theorem Con.sat_differ {c : Con} (h : c.kind = 2) (a : Int → Int) : c.sat a = decide (c.vars.map a).Nodup := by
  unfold Con.sat
  rw [if_neg (by omega), if_pos h]

theorem suppL_iff {D : List (List Int)} {c : Con} {N : Nat} (hok : c.ok N = true) : ∀ (l : List Int) (g : Int → Option Int), (∀ v ∈ l, v ∈ c.vars) → (∀ v ∈ c.vars, (g v).isSome = true ∨ v ∈ l) →
    (suppL D c l g = true ↔ ∃ a : Int → Int, (∀ v ∈ c.vars, ∀ x, g v = some x → a v = x) ∧ (∀ v ∈ l, g v = none → a v ∈ dom D v) ∧ c.sat a = true)
  | [], g, _, hc => by
    rw [suppL]
    constructor
    · exact fun h => ⟨valG g, fun v _ x hx => by rw [valG, hx]; rfl, fun v hv => (List.not_mem_nil hv).elim, h⟩
    · rintro ⟨a, h1, _, h3⟩
      rw [← h3]
      refine Con.sat_congr hok fun v hv => ?_
      rcases hc v hv with h | h
      · obtain ⟨x, hx⟩ := Option.isSome_iff_exists.1 h
        rw [h1 v hv x hx, valG, hx]; rfl
      · exact (List.not_mem_nil h).elim
  | v :: l, g, hl, hc => by
    rw [suppL]
    by_cases hv : (g v).isSome = true
    · rw [if_pos hv, suppL_iff hok l g (fun u hu => hl u (List.mem_cons_of_mem _ hu)) (fun u hu => (hc u hu).elim .inl fun h => (List.mem_cons.1 h).elim (fun e => .inl (e ▸ hv)) .inr)]
      constructor
      · rintro ⟨a, h1, h2, h3⟩
        refine ⟨a, h1, fun u hu hn => (List.mem_cons.1 hu).elim (fun e => ?_) fun h => h2 u h hn, h3⟩
        subst e; rw [hn] at hv; cases hv
      · rintro ⟨a, h1, h2, h3⟩
        exact ⟨a, h1, fun u hu hn => h2 u (List.mem_cons_of_mem _ hu) hn, h3⟩
    · rw [if_neg hv]
      have hnone : g v = none := by
        cases h : g v with
        | none => rfl
        | some x => rw [h] at hv; exact absurd rfl hv
      rw [List.any_eq_true]
      have ih := fun n => suppL_iff (D := D) hok l (updG g v n) (fun u hu => hl u (List.mem_cons_of_mem _ hu)) (fun u hu => by
        by_cases he : u = v
        · exact .inl (by rw [he, updG_same]; rfl)
        · rw [updG_other g n he]
          exact (hc u hu).imp id fun h => (List.mem_cons.1 h).resolve_left he)
      constructor
      · rintro ⟨n, hn, h⟩
        rw [Bool.and_eq_true] at h
        obtain ⟨a, h1, h2, h3⟩ := (ih n).1 h.2
        have hav : a v = n := h1 v (hl v (List.mem_cons_self ..)) n (updG_same g v n)
        refine ⟨a, fun u hu x hx => h1 u hu x ?_, fun u hu hg => ?_, h3⟩
        · rw [updG_other g n (fun e => by rw [e, hnone] at hx; cases hx)]; exact hx
        · by_cases he : u = v
          · rw [he, hav]; exact hn
          · exact h2 u ((List.mem_cons.1 hu).resolve_left he) (by rw [updG_other g n he]; exact hg)
      · rintro ⟨a, h1, h2, h3⟩
        refine ⟨a v, h2 v (List.mem_cons_self ..) hnone, ?_⟩
        rw [Bool.and_eq_true]
        refine ⟨?_, (ih (a v)).2 ⟨a, fun u hu x hx => ?_, fun u hu hg => ?_, h3⟩⟩
        · cases hk : decide (c.kind = 2) with
          | false => rfl
          | true =>
            cases ht : takenG c g (a v) with
            | false => rfl
            | true =>
              exfalso
              rw [takenG, List.any_eq_true] at ht
              obtain ⟨u, hu, hg⟩ := ht
              have hg' := of_decide_eq_true hg
              rw [Con.sat_differ (of_decide_eq_true hk)] at h3
              have := nodup_inj (of_decide_eq_true h3) hu (hl v (List.mem_cons_self ..)) (h1 u hu _ hg')
              rw [this, hnone] at hg'; cases hg'
        · by_cases he : u = v
          · rw [he, updG_same] at hx; rw [he]; exact Option.some.inj hx
          · rw [updG_other g _ he] at hx; exact h1 u hu x hx
        · by_cases he : u = v
          · rw [he, updG_same] at hg; cases hg
          · rw [updG_other g _ he] at hg; exact h2 u (List.mem_cons_of_mem _ hu) hg

/-- The search says whether a number has support. -/
def supB (D : List (List Int)) (c : Con) (l : List Int) (v x : Int) : Bool := suppL D c l (updG (fun _ => none) v x)
theorem supB_iff {D : List (List Int)} {c : Con} {N : Nat} (hok : c.ok N = true) {l : List Int} (hl : ∀ u, u ∈ l ↔ u ∈ c.vars) {v x : Int} (hv : v ∈ c.vars) (hx : x ∈ dom D v) : supB D c l v x = true ↔ Sup D c v x := by
  rw [supB, suppL_iff hok l _ (fun u hu => (hl u).1 hu) (fun u hu => .inr ((hl u).2 hu))]
  constructor
  · rintro ⟨a, h1, h2, h3⟩
    have hav := h1 v hv x (updG_same _ _ _)
    refine ⟨a, fun u hu => ?_, hav, h3⟩
    by_cases he : u = v
    · rw [he, hav]; exact hx
    · exact h2 u ((hl u).2 hu) (updG_other _ _ he)
  · rintro ⟨a, h1, h2, h3⟩
    refine ⟨a, fun u hu y hy => ?_, fun u hu _ => h1 u ((hl u).1 hu), h3⟩
    by_cases he : u = v
    · rw [he, updG_same] at hy; rw [he, h2]; exact Option.some.inj hy
    · rw [updG_other _ _ he] at hy; cases hy

/-- The list of variables to look at says, for each variable, which constraints it stands in. -/
def UsesOk (C : List Con) (U : List (List Int)) (n : Nat) : Prop := U.length = n ∧ ∀ i : Nat, i < n → (U.getD i []).Nodup ∧ ∀ k : Int, k ∈ U.getD i [] ↔ 0 ≤ k ∧ ∃ c, C[k.toNat]? = some c ∧ (i : Int) ∈ c.vars

/-- Within reduce: what is so between two constraints. -/
structure RedInv (C : List Con) (D0 D : List (List Int)) (todo : List Int) : Prop where
  sub : SubD D D0
  most : ∀ F, AC C F → InD F D0 → InD F D
  ne : ∀ d ∈ D, d ≠ []
  cst : ∀ (k : Nat) (c : Con), C[k]? = some c → (k : Int) ∉ todo → Cst D c
/-- Within a constraint: what is so between two variables. -/
structure RedIn (C : List Con) (D0 D : List (List Int)) (todo : List Int) (i : Int) (c : Con) (P : List Int) : Prop where
  sub : SubD D D0
  most : ∀ F, AC C F → InD F D0 → InD F D
  ne : ∀ d ∈ D, d ≠ []
  cst : ∀ (k : Nat) (c : Con), C[k]? = some c → (k : Int) ≠ i → (k : Int) ∉ todo → Cst D c
  mine : i ∈ todo ∨ ∀ u ∈ P, ∀ x ∈ dom D u, Sup D c u x

theorem RedInv.start {C : List Con} {D : List (List Int)} {todo : List Int} (hs : ∀ d ∈ D, d ≠ []) (hc : ∀ (k : Nat) (c : Con), C[k]? = some c → (k : Int) ∉ todo → Cst D c) : RedInv C D D todo := ⟨SubD.refl D, fun _ _ h => h, hs, hc⟩
theorem RedInv.enter {C : List Con} {D0 D : List (List Int)} {i : Int} {todo : List Int} (h : RedInv C D0 D (i :: todo)) (c : Con) : RedIn C D0 D todo i c [] :=
  ⟨h.sub, h.most, h.ne, fun k c hk hi ht => h.cst k c hk fun hm => (List.mem_cons.1 hm).elim hi ht, .inr fun _ hu => (List.not_mem_nil hu).elim⟩
theorem RedIn.leave {C : List Con} {D0 D : List (List Int)} {i : Int} {todo : List Int} {c : Con} {P : List Int} (h : RedIn C D0 D todo i c P) (h0 : 0 ≤ i) (hc : C[i.toNat]? = some c) (hP : ∀ u ∈ c.vars, u ∈ P) : RedInv C D0 D todo := by
  refine ⟨h.sub, h.most, h.ne, fun k c' hk ht => ?_⟩
  by_cases he : (k : Int) = i
  · subst he
    rw [Int.toNat_natCast, hk] at hc
    cases hc
    exact fun u hu x hx => (h.mine.resolve_left ht) u (hP u hu) x hx
  · exact h.cst k c' hk he ht
theorem RedInv.done {C : List Con} {D0 D : List (List Int)} (h : RedInv C D0 D []) : RedOk C D0 D :=
  ⟨h.sub, fun c hc => by obtain ⟨k, hk⟩ := List.getElem?_of_mem hc; exact h.cst k c hk (List.not_mem_nil), h.ne, h.most⟩

theorem dom_set_same {D : List (List Int)} {v : Int} (d : List Int) (hv : v.toNat < D.length) : dom (D.set v.toNat d) v = d := by
  rw [dom, getD_lt [] (by rw [List.length_set]; exact hv), List.getElem_set_self]
theorem rows_set_ne {D : List (List Int)} {i j : Nat} (d : List Int) (h : i ≠ j) : (D.set i d).getD j [] = D.getD j [] := by
  rw [List.getD_eq_getElem?_getD, List.getD_eq_getElem?_getD, List.getElem?_set_ne h]
theorem dom_set_other {D : List (List Int)} {u v : Int} (d : List Int) (hu : 0 ≤ u) (hv : 0 ≤ v) (h : u ≠ v) : dom (D.set v.toNat d) u = dom D u := rows_set_ne d (by omega)
theorem set_self {D : List (List Int)} {v : Int} (hv : v.toNat < D.length) : D.set v.toNat (dom D v) = D := by
  rw [dom, getD_lt [] hv, List.set_getElem_self]

section
variable {C : List Con} {D0 D : List (List Int)} {todo : List Int} {i : Int} {c : Con} {P l : List Int} {v : Int} {N : Nat}
theorem red_filter (hok : c.ok N = true) (hl : ∀ u, u ∈ l ↔ u ∈ c.vars) (hv : v ∈ c.vars) {x : Int} : x ∈ (dom D v).filter (supB D c l v) ↔ x ∈ dom D v ∧ Sup D c v x := by
  rw [List.mem_filter]
  exact ⟨fun h => ⟨h.1, (supB_iff hok hl hv h.1).1 h.2⟩, fun h => ⟨h.1, (supB_iff hok hl hv h.1).2 h.2⟩⟩
theorem red_keeps (hcC : c ∈ C) (hok : c.ok N = true) (hl : ∀ u, u ∈ l ↔ u ∈ c.vars) (hv : v ∈ c.vars) {F : List (List Int)} (hF : AC C F) (hFD : InD F D) : ∀ x ∈ dom F v, x ∈ (dom D v).filter (supB D c l v) := fun x hx =>
  (red_filter hok hl hv).2 ⟨hFD.2 _ x hx, (hF c hcC v hv x hx).mono fun _ _ y hy => hFD.2 _ y hy⟩
/-- No number is left. -/
theorem RedIn.none (h : RedIn C D0 D todo i c P) (hcC : c ∈ C) (hok : c.ok N = true) (hN : D.length = N) (hl : ∀ u, u ∈ l ↔ u ∈ c.vars) (hv : v ∈ c.vars) (h0 : (dom D v).filter (supB D c l v) = []) : RedNo C D0 := by
  intro F hF hFD
  have hFD' := h.most F hF hFD
  have hlt : v.toNat < F.length := by have := Con.ok_var hok hv; have := hFD'.1; omega
  refine ⟨dom F v, by rw [dom, getD_lt [] hlt]; exact List.getElem_mem hlt, List.eq_nil_iff_forall_not_mem.2 fun x hx => ?_⟩
  have := red_keeps hcC hok hl hv hF hFD' x hx
  rw [h0] at this
  exact List.not_mem_nil this
/-- All numbers are left. -/
theorem RedIn.all (h : RedIn C D0 D todo i c P) (hok : c.ok N = true) (hl : ∀ u, u ∈ l ↔ u ∈ c.vars) (hv : v ∈ c.vars) (h0 : (dom D v).filter (supB D c l v) = dom D v) : RedIn C D0 D todo i c (v :: P) :=
  ⟨h.sub, h.most, h.ne, h.cst, h.mine.imp id fun k u hu x hx => (List.mem_cons.1 hu).elim (fun e => by subst e; rw [← h0] at hx; exact ((red_filter hok hl hv).1 hx).2) fun hu => k u hu x hx⟩
/-- Some numbers are left. -/
theorem RedIn.less {U : List (List Int)} {todo' : List Int} (h : RedIn C D0 D todo i c P) (hi : 0 ≤ i) (hc : C[i.toNat]? = some c) (hok : c.ok N = true) (hall : ∀ c ∈ C, c.ok N = true) (hN : D.length = N) (hl : ∀ u, u ∈ l ↔ u ∈ c.vars) (hv : v ∈ c.vars) (hU : UsesOk C U N)
    (hne : (dom D v).filter (supB D c l v) ≠ []) (ht : ∀ k ∈ todo, k ∈ todo') (hu : ∀ k ∈ dom U v, k ∈ todo') : RedIn C D0 (D.set v.toNat ((dom D v).filter (supB D c l v))) todo' i c (v :: P) := by
  have hcC : c ∈ C := List.mem_of_getElem? hc
  obtain ⟨hv0, hvN⟩ := Con.ok_var hok hv
  have hlt : v.toNat < D.length := by omega
  have hvv : ((v.toNat : Nat) : Int) = v := Int.toNat_of_nonneg hv0
  refine ⟨⟨by rw [List.length_set]; exact h.sub.1, fun j => ?_⟩, fun F hF hFD => ?_, fun d hd => ?_, fun k c' hk hki hkt => ?_, .inl (hu i ?_)⟩
  · refine List.Sublist.trans ?_ (h.sub.2 j)
    by_cases hj : v.toNat = j
    · subst hj
      rw [show (D.set v.toNat _).getD v.toNat [] = _ from dom_set_same _ hlt]
      exact List.filter_sublist
    · rw [rows_set_ne _ hj]; exact List.Sublist.refl _
  · have hFD' := h.most F hF hFD
    refine ⟨by rw [List.length_set]; exact hFD'.1, fun j x hx => ?_⟩
    by_cases hj : v.toNat = j
    · subst hj
      rw [show (D.set v.toNat _).getD v.toNat [] = _ from dom_set_same _ hlt]
      exact red_keeps hcC hok hl hv hF hFD' x hx
    · rw [rows_set_ne _ hj]; exact hFD'.2 j x hx
  · rcases List.mem_or_eq_of_mem_set hd with hd | rfl
    · exact h.ne d hd
    · exact hne
  · have hnv : v ∉ c'.vars := fun hv' => hkt (hu _ ((hU.2 v.toNat (by omega)).2 k |>.2 ⟨by omega, c', by rw [Int.toNat_natCast]; exact hk, by rw [hvv]; exact hv'⟩))
    have hok' := hall c' (List.mem_of_getElem? hk)
    exact (h.cst k c' hk hki fun hm => hkt (ht _ hm)).congr fun u hu' => (dom_set_other _ (Con.ok_var hok' hu').1 hv0 (fun e => hnv (e ▸ hu'))).symm
  · exact (hU.2 v.toNat (by omega)).2 i |>.2 ⟨hi, c, hc, by rw [hvv]; exact hv⟩
end

/-- How many numbers are left in all. -/
def totD (D : List (List Int)) : Nat := (D.map List.length).sum
theorem totD_set : ∀ {D : List (List Int)} {j : Nat} {d : List Int}, d.length < (D.getD j []).length → totD (D.set j d) < totD D
  | [], j, d, h => by simp at h
  | x :: xs, 0, d, h => by simp [totD] at h ⊢; exact h
  | x :: xs, j + 1, d, h => by
    have := totD_set (D := xs) (j := j) (d := d) (by simpa using h)
    simp [totD] at this ⊢; exact this
theorem nodup_bound {K : Nat} {l : List Int} (hn : l.Nodup) (hb : ∀ k ∈ l, 0 ≤ k ∧ k < K) : l.length ≤ K := by
  have hs : l ⊆ (List.range K).map fun n : Nat => (n : Int) := fun k hk => List.mem_map.2 ⟨k.toNat, List.mem_range.2 (by have := hb k hk; omega), by have := hb k hk; exact Int.toNat_of_nonneg this.1⟩
  have := List.Nodup.length_le_of_subset hn hs
  simpa using this
end Go.Proofs.Ytbapmokbkjmdcaa

namespace Go.Proofs.Ytbapmokbkjmdcaa
/-- All choices, in order. -/
def prodL : List (List Int) → List (List Int)
  | [] => [[]]
  | d :: ds => d.flatMap fun x => (prodL ds).map (x :: ·)
def asg (s : List Int) : Int → Int := fun v => s.getD v.toNat 0
def satAll (C : List Con) (s : List Int) : Bool := C.all fun c => c.sat (asg s)
/-- All solutions, in order. -/
def sols (C : List Con) (D : List (List Int)) : List (List Int) := (prodL D).filter (satAll C)

theorem mem_prodL : ∀ {D : List (List Int)} {s : List Int}, s ∈ prodL D ↔ s.length = D.length ∧ ∀ i : Nat, i < D.length → s.getD i 0 ∈ D.getD i []
  | [], s => by simp [prodL]
  | d :: ds, s => by
    rw [prodL, List.mem_flatMap]
    constructor
    · rintro ⟨x, hx, h⟩
      obtain ⟨s', hs', rfl⟩ := List.mem_map.1 h
      obtain ⟨h1, h2⟩ := mem_prodL.1 hs'
      refine ⟨by simp [h1], fun i hi => ?_⟩
      cases i with
      | zero => simpa using hx
      | succ i => simpa using h2 i (by simpa using hi)
    · rintro ⟨h1, h2⟩
      cases s with
      | nil => simp at h1
      | cons x s' =>
        refine ⟨x, by simpa using h2 0 (by simp), List.mem_map.2 ⟨s', mem_prodL.2 ⟨by simpa using h1, fun i hi => ?_⟩, rfl⟩⟩
        simpa using h2 (i + 1) (by simpa using hi)

def single (s : List Int) : List (List Int) := s.map fun x => [x]
theorem single_getD (s : List Int) (i : Nat) (h : i < s.length) : (single s).getD i [] = [s.getD i 0] := by
  rw [getD_lt [] (by simpa [single] using h), getD_lt 0 h]; simp [single]
theorem mem_sols {C : List Con} {D : List (List Int)} {s : List Int} : s ∈ sols C D ↔ s ∈ prodL D ∧ satAll C s = true := List.mem_filter
theorem single_ac {C : List Con} {s : List Int} (hok : ∀ c ∈ C, c.ok s.length = true) (h : satAll C s = true) : AC C (single s) := by
  intro c hc v hv x hx
  have hs := List.all_eq_true.1 h c hc
  have hd : ∀ u ∈ c.vars, dom (single s) u = [asg s u] := fun u hu => single_getD s _ (by have := Con.ok_var (hok c hc) hu; omega)
  rw [hd v hv, List.mem_singleton] at hx
  exact ⟨asg s, fun u hu => by rw [hd u hu]; exact List.mem_singleton.2 rfl, hx.symm, hs⟩
theorem single_in {D : List (List Int)} {s : List Int} (h : s ∈ prodL D) : InD (single s) D := by
  obtain ⟨h1, h2⟩ := mem_prodL.1 h
  refine ⟨by simpa [single] using h1, fun i x hx => ?_⟩
  by_cases hi : i < s.length
  · rw [single_getD s i hi, List.mem_singleton] at hx
    rw [hx]; exact h2 i (by omega)
  · rw [List.getD_eq_getElem?_getD, List.getElem?_eq_none (by simp [single]; omega)] at hx
    exact absurd hx (by simp)
/-- A solution's numbers are left. -/
theorem sols_left {C : List Con} {D E : List (List Int)} {s : List Int} (hok : ∀ c ∈ C, c.ok D.length = true) (h : s ∈ sols C D) (hm : ∀ F, AC C F → InD F D → InD F E) : s ∈ prodL E := by
  obtain ⟨h1, h2⟩ := mem_sols.1 h
  have hl := (mem_prodL.1 h1).1
  have hi := hm _ (single_ac (fun c hc => hl ▸ hok c hc) h2) (single_in h1)
  have hl' : s.length = E.length := by simpa [single] using hi.1
  exact mem_prodL.2 ⟨hl', fun i hi' => hi.2 i _ (by rw [single_getD s i (by omega)]; exact List.mem_singleton.2 rfl)⟩
theorem RedNo.sols {C : List Con} {D : List (List Int)} (hok : ∀ c ∈ C, c.ok D.length = true) (h : RedNo C D) : sols C D = [] := by
  refine List.eq_nil_iff_forall_not_mem.2 fun s hs => ?_
  obtain ⟨h1, h2⟩ := mem_sols.1 hs
  have hl := (mem_prodL.1 h1).1
  obtain ⟨d, hd, h0⟩ := h _ (single_ac (fun c hc => hl ▸ hok c hc) h2) (single_in h1)
  obtain ⟨x, _, hx⟩ := List.mem_map.1 hd
  rw [h0] at hx; cases hx

def inAll : List (List Int) → List Int → Bool
  | e :: es, x :: xs => decide (x ∈ e) && inAll es xs
  | _, _ => true
theorem inAll_of : ∀ {E : List (List Int)} {s : List Int}, s ∈ prodL E → inAll E s = true
  | [], s, _ => by cases s <;> rfl
  | e :: es, s, h => by
    rw [prodL, List.mem_flatMap] at h
    obtain ⟨x, hx, h⟩ := h
    obtain ⟨s', hs', rfl⟩ := List.mem_map.1 h
    rw [inAll, inAll_of hs', decide_eq_true hx]; rfl
theorem flatMap_filter {α β : Type} (p : α → Bool) (f : α → List β) : ∀ l : List α, (l.filter p).flatMap f = l.flatMap fun x => if p x then f x else []
  | [] => rfl
  | x :: xs => by
    cases h : p x with
    | true => rw [List.filter_cons_of_pos h, List.flatMap_cons, List.flatMap_cons, flatMap_filter p f xs, if_pos h]
    | false => rw [List.filter_cons_of_neg (by rw [h]; decide), List.flatMap_cons, flatMap_filter p f xs, if_neg (by rw [h]; decide)]; rfl
theorem filter_flatMap' {α β : Type} (p : β → Bool) (f : α → List β) : ∀ l : List α, (l.flatMap f).filter p = l.flatMap fun x => (f x).filter p
  | [] => rfl
  | x :: xs => by rw [List.flatMap_cons, List.flatMap_cons, List.filter_append, filter_flatMap' p f xs]
theorem prodL_sub : ∀ {D E : List (List Int)}, (∀ d ∈ D, d.Nodup) → SubD E D → prodL E = (prodL D).filter (inAll E)
  | [], [], _, _ => rfl
  | [], _ :: _, _, h => by have := h.1; simp at this
  | _ :: _, [], _, h => by have := h.1; simp at this
  | d :: ds, e :: es, hn, h => by
    have hs : SubD es ds := ⟨by simpa using h.1, fun i => by simpa using h.2 (i + 1)⟩
    have he := sublist_filter (l := e) (d := d) (by simpa using h.2 0) (hn d (List.mem_cons_self ..))
    rw [prodL, prodL, prodL_sub (fun d hd => hn d (List.mem_cons_of_mem _ hd)) hs, filter_flatMap']
    conv => lhs; rw [he]
    rw [flatMap_filter]
    congr 1
    funext x
    rw [List.filter_map]
    by_cases hx : x ∈ e
    · rw [if_pos (decide_eq_true hx)]
      congr 1
      refine List.filter_congr fun s _ => ?_
      simp [inAll, hx]
    · rw [if_neg (by simpa using hx)]
      symm
      rw [List.map_eq_nil_iff, List.filter_eq_nil_iff]
      intro s _
      simp [inAll, hx]
theorem RedOk.sols {C : List Con} {D E : List (List Int)} (hn : ∀ d ∈ D, d.Nodup) (hok : ∀ c ∈ C, c.ok D.length = true) (h : RedOk C D E) : sols C E = sols C D := by
  unfold Go.Proofs.Ytbapmokbkjmdcaa.sols
  rw [prodL_sub hn h.sub, List.filter_filter]
  refine List.filter_congr fun s hs => ?_
  cases hk : satAll C s with
  | false => simp
  | true => rw [inAll_of (sols_left hok (mem_sols.2 ⟨hs, hk⟩) h.most)]; rfl

theorem prodL_at : ∀ {D : List (List Int)} {k : Nat}, k < D.length → (∀ i : Nat, i < k → (D.getD i []).length = 1) → prodL D = (D.getD k []).flatMap fun n => prodL (D.set k [n])
  | [], k, h, _ => by simp at h
  | d :: ds, 0, _, _ => by
    rw [prodL]
    show _ = d.flatMap _
    congr 1
    funext n
    rw [List.set_cons_zero, prodL]; simp
  | d :: ds, k + 1, h, h1 => by
    obtain ⟨x, hx⟩ : ∃ x, d = [x] := List.length_eq_one_iff.1 (by simpa using h1 0 (by omega))
    subst hx
    have ih := prodL_at (D := ds) (k := k) (by simpa using h) (fun i hi => by simpa using h1 (i + 1) (by omega))
    rw [prodL, ih]
    simp only [List.flatMap_cons, List.flatMap_nil, List.append_nil, List.map_flatMap, List.set_cons_succ, prodL]
    rfl
theorem sols_at {C : List Con} {D : List (List Int)} {k : Nat} (h : k < D.length) (h1 : ∀ i : Nat, i < k → (D.getD i []).length = 1) : sols C D = (D.getD k []).flatMap fun n => sols C (D.set k [n]) := by
  unfold sols
  rw [prodL_at h h1, filter_flatMap']
theorem prodL_ones : ∀ {D : List (List Int)}, (∀ d ∈ D, d.length = 1) → prodL D = [D.map fun d => d.getD 0 0]
  | [], _ => rfl
  | d :: ds, h => by
    obtain ⟨x, hx⟩ : ∃ x, d = [x] := List.length_eq_one_iff.1 (h d (List.mem_cons_self ..))
    subst hx
    rw [prodL, prodL_ones fun d hd => h d (List.mem_cons_of_mem _ hd)]; rfl
theorem ones_sat {C : List Con} {D : List (List Int)} (hok : ∀ c ∈ C, c.ok D.length = true) (hac : AC C D) (h1 : ∀ d ∈ D, d.length = 1) : satAll C (D.map fun d => d.getD 0 0) = true := by
  refine List.all_eq_true.2 fun c hc => ?_
  have hd : ∀ u ∈ c.vars, dom D u = [asg (D.map fun d => d.getD 0 0) u] := fun u hu => by
    have hlt : u.toNat < D.length := by have := Con.ok_var (hok c hc) hu; omega
    obtain ⟨x, hx⟩ := List.length_eq_one_iff.1 (h1 _ (List.getElem_mem hlt))
    rw [dom, getD_lt [] hlt, asg, getD_lt 0 (by simpa using hlt), List.getElem_map, hx]; rfl
  rcases hv : c.vars with _ | ⟨v, vs⟩
  · have hk := hok c hc
    simp only [Con.ok, hv] at hk
    by_cases h2 : c.kind = 2
    · rw [Con.sat_differ h2, hv]; rfl
    · exfalso
      by_cases h3 : c.kind = 1
      · simp [h3] at hk
      · by_cases h4 : c.kind = 3
        · simp [h4] at hk
        · simp [h2, h3, h4] at hk
  · have hvm : v ∈ c.vars := by rw [hv]; exact List.mem_cons_self ..
    obtain ⟨a, h2, _, h3⟩ := hac c hc v hvm (asg (D.map fun d => d.getD 0 0) v) (by rw [hd v hvm]; exact List.mem_singleton.2 rfl)
    rw [← h3]
    exact Con.sat_congr (hok c hc) fun u hu => by
      have := h2 u hu
      rw [hd u hu, List.mem_singleton] at this
      exact this.symm
theorem sols_ones {C : List Con} {D : List (List Int)} (hok : ∀ c ∈ C, c.ok D.length = true) (hac : AC C D) (h1 : ∀ d ∈ D, d.length = 1) : sols C D = [D.map fun d => d.getD 0 0] := by
  rw [sols, prodL_ones h1, List.filter_cons_of_pos (ones_sat hok hac h1)]; rfl

/-- What is told, one behind the other, as long as that is wanted. -/
def feed {α : Type} (go : List α → Bool) : List α → List α → List α × Bool
  | told, [] => (told, true)
  | told, s :: L => if go (told ++ [s]) then feed go (told ++ [s]) L else (told ++ [s], false)
theorem feed_append {α : Type} (go : List α → Bool) : ∀ (told L M : List α), feed go told (L ++ M) = if (feed go told L).2 then feed go (feed go told L).1 M else feed go told L
  | told, [], M => by simp [feed]
  | told, s :: L, M => by
    rw [List.cons_append, feed, feed]
    by_cases h : go (told ++ [s]) = true
    · rw [if_pos h, if_pos h, feed_append go (told ++ [s]) L M]
    · rw [if_neg h, if_neg h]; rfl
theorem feed_most {α : Type} (m : Nat) : ∀ (told L : List α), told.length < m → feed (fun t => decide (t.length < m)) told L = ((told ++ L).take m, decide ((told ++ L).length < m))
  | told, [], h => by rw [feed, List.append_nil, List.take_of_length_le (by omega), decide_eq_true h]
  | told, s :: L, h => by
    rw [feed]
    by_cases h1 : (told ++ [s]).length < m
    · rw [if_pos (by simpa using h1), feed_most m _ L h1]; simp
    · rw [if_neg (by simpa using h1)]
      have h2 : told.length + 1 = m := by simp at h1; omega
      subst h2
      simp [List.take_append, List.take_of_length_le]
theorem feed_first {α : Type} (L : List α) : feed (fun _ : List α => false) [] L = (L.take 1, L.isEmpty) := by
  cases L with
  | nil => rfl
  | cons s L => simp [feed]
end Go.Proofs.Ytbapmokbkjmdcaa
