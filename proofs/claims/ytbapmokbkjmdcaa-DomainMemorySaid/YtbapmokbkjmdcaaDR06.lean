/-
  Finite domains: the search through variables, as the document does it: plain.
  A constraint in memory; a map of the numbers that are given; domain.taken, support's function, domain.holds.
-/
import Derived.Test.YtbapmokbkjmdcaaDR05
import Derived.Test.YtbapmokbkjmdcaaDR04
namespace Go.Proofs.Ytbapmokbkjmdcaa
/-- Do two variables that have numbers have the same one? (The i-th, and one ahead of it.) -/
def dupAt (vars : List Int) (g : Int → Option Int) (i : Nat) : Bool := (List.range i).any fun j => (g (vars.getD i 0)).isSome && (g (vars.getD j 0)).isSome && decide (valG g (vars.getD i 0) = valG g (vars.getD j 0))
def dupG (vars : List Int) (g : Int → Option Int) : Bool := (List.range vars.length).any (dupAt vars g)
def allG (vars : List Int) (g : Int → Option Int) : Bool := vars.all fun v => (g v).isSome
/-- May it still hold? -/
def stillG (c : Con) (g : Int → Option Int) : Bool := !(decide (c.kind = 2) && dupG c.vars g) && (!allG c.vars g || c.sat (valG g))

theorem dupG_iff {vars : List Int} {g : Int → Option Int} : dupG vars g = true ↔ ∃ i j : Nat, j < i ∧ i < vars.length ∧ (g (vars.getD i 0)).isSome = true ∧ (g (vars.getD j 0)).isSome = true ∧ valG g (vars.getD i 0) = valG g (vars.getD j 0) := by
  simp only [dupG, dupAt, List.any_eq_true, List.mem_range, Bool.and_eq_true, decide_eq_true_eq]
  constructor
  · rintro ⟨i, hi, j, hj, ⟨h1, h2⟩, h3⟩; exact ⟨i, j, hj, hi, h1, h2, h3⟩
  · rintro ⟨i, j, hj, hi, h1, h2, h3⟩; exact ⟨i, hi, j, hj, ⟨h1, h2⟩, h3⟩
theorem nodup_map_iff {a : Int → Int} {vars : List Int} : (vars.map a).Nodup ↔ ¬ ∃ i j : Nat, j < i ∧ i < vars.length ∧ a (vars.getD i 0) = a (vars.getD j 0) := by
  constructor
  · rintro h ⟨i, j, hj, hi, he⟩
    have hi' : i < (vars.map a).length := by simpa using hi
    have hj' : j < (vars.map a).length := by simp; omega
    rw [getD_lt 0 hi, getD_lt 0 (by omega : j < vars.length)] at he
    have h2 : (vars.map a)[i] = (vars.map a)[j] := by rw [List.getElem_map, List.getElem_map]; exact he
    have := (List.getElem_inj h).1 h2
    omega
  · intro h
    rw [List.Nodup, List.pairwise_iff_getElem]
    intro i j hi hj hij he
    rw [List.length_map] at hi hj
    refine h ⟨j, i, hij, hj, ?_⟩
    rw [getD_lt 0 hi, getD_lt 0 hj]
    rw [List.getElem_map, List.getElem_map] at he
    exact he.symm

/-- More numbers. -/
def ExtG (g g' : Int → Option Int) : Prop := ∀ v x, g v = some x → g' v = some x
theorem ExtG.refl (g : Int → Option Int) : ExtG g g := fun _ _ h => h
theorem ExtG.trans {a b c : Int → Option Int} (h : ExtG a b) (k : ExtG b c) : ExtG a c := fun v x e => k v x (h v x e)
theorem ExtG.upd {g : Int → Option Int} {v : Int} (x : Int) (h : g v = none) : ExtG g (updG g v x) := fun u y hy => by rw [updG_other g x (fun e => by rw [e, h] at hy; cases hy)]; exact hy
theorem ExtG.val {g g' : Int → Option Int} (h : ExtG g g') {v : Int} (hs : (g v).isSome = true) : valG g' v = valG g v ∧ (g' v).isSome = true := by
  obtain ⟨x, hx⟩ := Option.isSome_iff_exists.1 hs
  rw [valG, valG, h v x hx, hx]; exact ⟨rfl, rfl⟩
theorem allG_iff {vars : List Int} {g : Int → Option Int} : allG vars g = true ↔ ∀ v ∈ vars, (g v).isSome = true := List.all_eq_true
/-- What may no longer hold will not. -/
theorem stillG_ext {c : Con} {N : Nat} (hok : c.ok N = true) {g g' : Int → Option Int} (h : ExtG g g') (hs : stillG c g' = true) : stillG c g = true := by
  simp only [stillG, Bool.and_eq_true, Bool.not_eq_true', Bool.or_eq_true] at hs ⊢
  constructor
  · cases hk : decide (c.kind = 2) with
    | false => rfl
    | true =>
      cases hd : dupG c.vars g with
      | false => rfl
      | true =>
        obtain ⟨i, j, hj, hi, h1, h2, h3⟩ := dupG_iff.1 hd
        have : dupG c.vars g' = true := dupG_iff.2 ⟨i, j, hj, hi, (h.val h1).2, (h.val h2).2, by rw [(h.val h1).1, (h.val h2).1]; exact h3⟩
        rw [hk, this] at hs; cases hs.1
  · cases ha : allG c.vars g with
    | false => exact .inl rfl
    | true =>
      have h1 := allG_iff.1 ha
      have ha' : allG c.vars g' = true := allG_iff.2 fun v hv => (h.val (h1 v hv)).2
      refine .inr ?_
      rw [← Con.sat_congr hok (fun v hv => (h.val (h1 v hv)).1)]
      exact hs.2.resolve_left (by rw [ha']; decide)
theorem stillG_all {c : Con} {N : Nat} (_ : c.ok N = true) {g : Int → Option Int} (ha : allG c.vars g = true) : stillG c g = c.sat (valG g) := by
  simp only [stillG, ha, Bool.not_true, Bool.false_or]
  by_cases hk : c.kind = 2
  · rw [decide_eq_true hk, Bool.true_and, Con.sat_differ hk]
    cases hd : dupG c.vars g with
    | true =>
      obtain ⟨i, j, hj, hi, _, _, h3⟩ := dupG_iff.1 hd
      have : ¬ (c.vars.map (valG g)).Nodup := fun h => nodup_map_iff.1 h ⟨i, j, hj, hi, h3⟩
      rw [decide_eq_false this]; rfl
    | false =>
      have : (c.vars.map (valG g)).Nodup := nodup_map_iff.2 fun ⟨i, j, hj, hi, h3⟩ => by
        have h1 := allG_iff.1 ha
        rw [dupG_iff.2 ⟨i, j, hj, hi, h1 _ (mem_getD hi), h1 _ (mem_getD (by omega)), h3⟩] at hd; cases hd
      rw [decide_eq_true this]; rfl
  · rw [decide_eq_false hk]; rfl

/-- The search through the variables from one on. -/
def chL (C : List Con) (asked : Nat → Bool) : List (List Int) → Nat → (Int → Option Int) → List (Int → Option Int)
  | [], _, g => [g]
  | d :: ds, i, g => if !asked i || (g i).isSome then chL C asked ds (i + 1) g else d.flatMap fun x => if C.all (fun c => stillG c (updG g i x)) then chL C asked ds (i + 1) (updG g i x) else []
/-- All choices. -/
def chN (asked : Nat → Bool) : List (List Int) → Nat → (Int → Option Int) → List (Int → Option Int)
  | [], _, g => [g]
  | d :: ds, i, g => if !asked i || (g i).isSome then chN asked ds (i + 1) g else d.flatMap fun x => chN asked ds (i + 1) (updG g i x)
theorem none_of {g : Int → Option Int} {i : Nat} {b : Bool} (h : ¬ (!b || (g i).isSome) = true) : b = true ∧ g i = none := by
  cases b <;> cases hg : g i <;> simp_all
theorem chN_ext {asked : Nat → Bool} : ∀ {ds : List (List Int)} {i : Nat} {g g' : Int → Option Int}, g' ∈ chN asked ds i g → ExtG g g'
  | [], i, g, g', h => by rw [chN, List.mem_singleton] at h; subst h; exact ExtG.refl _
  | d :: ds, i, g, g', h => by
    rw [chN] at h
    by_cases hc : (!asked i || (g i).isSome) = true
    · rw [if_pos hc] at h; exact chN_ext h
    · rw [if_neg hc, List.mem_flatMap] at h
      obtain ⟨x, _, h⟩ := h
      exact (ExtG.upd x (none_of hc).2).trans (chN_ext h)
theorem chL_eq {C : List Con} {N : Nat} (hok : ∀ c ∈ C, c.ok N = true) {asked : Nat → Bool} : ∀ (ds : List (List Int)) (i : Nat) (g : Int → Option Int), (C.all fun c => stillG c g) = true → chL C asked ds i g = (chN asked ds i g).filter fun g' => C.all fun c => stillG c g'
  | [], i, g, h => by rw [chL, chN]; exact (List.filter_cons_of_pos (p := fun g' => C.all fun c => stillG c g') (l := []) h).symm
  | d :: ds, i, g, h => by
    rw [chL, chN]
    by_cases hc : (!asked i || (g i).isSome) = true
    · rw [if_pos hc, if_pos hc, chL_eq hok ds (i + 1) g h]
    · rw [if_neg hc, if_neg hc, filter_flatMap']
      congr 1
      funext x
      cases hx : (C.all fun c => stillG c (updG g i x)) with
      | true => rw [if_pos rfl, chL_eq hok ds (i + 1) _ hx]
      | false =>
        rw [if_neg (by decide)]
        symm
        rw [List.filter_eq_nil_iff]
        intro g' hg' hall
        have : (C.all fun c => stillG c (updG g i x)) = true := List.all_eq_true.2 fun c hc' => stillG_ext (hok c hc') (chN_ext hg') (List.all_eq_true.1 hall c hc')
        rw [hx] at this; cases this
theorem chN_mem {asked : Nat → Bool} : ∀ {ds : List (List Int)} {i : Nat} {g g' : Int → Option Int}, g' ∈ chN asked ds i g → ∀ j : Nat, j < ds.length → asked (i + j) = true → (g' (i + j : Nat)).isSome = true ∧ (g (i + j : Nat) = none → valG g' (i + j : Nat) ∈ ds.getD j [])
  | [], i, g, g', h => fun j hj => by simp at hj
  | d :: ds, i, g, g', h => by
    rw [chN] at h
    intro j hj ha
    by_cases hc : (!asked i || (g i).isSome) = true
    · rw [if_pos hc] at h
      cases j with
      | zero =>
        rw [Nat.add_zero] at ha ⊢
        rw [ha] at hc
        have hs : (g i).isSome = true := by simpa using hc
        exact ⟨((chN_ext h).val hs).2, fun hn => by rw [hn] at hs; cases hs⟩
      | succ j =>
        have := chN_mem h j (by simpa using hj) (by rw [show i + 1 + j = i + (j + 1) by omega]; exact ha)
        rw [show i + 1 + j = i + (j + 1) by omega] at this
        simpa using this
    · rw [if_neg hc, List.mem_flatMap] at h
      obtain ⟨x, hx, h⟩ := h
      cases j with
      | zero =>
        rw [Nat.add_zero]
        have hs : (updG g i x i).isSome = true := by rw [updG_same]; rfl
        have hv := (chN_ext h).val hs
        refine ⟨hv.2, fun _ => ?_⟩
        rw [hv.1, valG, updG_same]
        simpa using hx
      | succ j =>
        have := chN_mem h j (by simpa using hj) (by rw [show i + 1 + j = i + (j + 1) by omega]; exact ha)
        rw [show i + 1 + j = i + (j + 1) by omega, updG_other g x (by omega)] at this
        simpa using this
theorem chN_has {asked : Nat → Bool} (a : Int → Int) : ∀ {ds : List (List Int)} {i : Nat} {g : Int → Option Int}, (∀ j : Nat, j < ds.length → asked (i + j) = true → g (i + j : Nat) = none → a (i + j : Nat) ∈ ds.getD j []) → (∀ v x, g v = some x → a v = x) → ∃ g' ∈ chN asked ds i g, ∀ v x, g' v = some x → a v = x
  | [], i, g, _, h2 => ⟨g, by rw [chN]; exact List.mem_singleton.2 rfl, h2⟩
  | d :: ds, i, g, h1, h2 => by
    rw [chN]
    by_cases hc : (!asked i || (g i).isSome) = true
    · rw [if_pos hc]
      exact chN_has a (fun j hj ha hn => by
        have := h1 (j + 1) (by simpa using hj) (by rw [show i + (j + 1) = i + 1 + j by omega]; exact ha) (by rw [show i + (j + 1) = i + 1 + j by omega]; exact hn)
        rw [show i + (j + 1) = i + 1 + j by omega] at this
        simpa using this) h2
    · rw [if_neg hc]
      obtain ⟨ha0, hn0⟩ := none_of hc
      obtain ⟨g', hg', hk⟩ := chN_has (asked := asked) a (ds := ds) (i := i + 1) (g := updG g i (a i)) (fun j hj ha hn => by
        rw [updG_other g _ (by omega)] at hn
        have := h1 (j + 1) (by simpa using hj) (by rw [show i + (j + 1) = i + 1 + j by omega]; exact ha) (by rw [show i + (j + 1) = i + 1 + j by omega]; exact hn)
        rw [show i + (j + 1) = i + 1 + j by omega] at this
        simpa using this) (fun v x hx => by
        by_cases he : v = i
        · rw [he, updG_same] at hx; rw [he]; exact Option.some.inj hx
        · rw [updG_other g _ he] at hx; exact h2 v x hx)
      exact ⟨g', List.mem_flatMap.2 ⟨a i, by simpa using h1 0 (by simp) (by simpa using ha0) (by simpa using hn0), hg'⟩, hk⟩

/-- A number has support just if the search comes to an end. -/
theorem sup_search {D : List (List Int)} {c : Con} (hok : c.ok D.length = true) {v x : Int} (hv : v ∈ c.vars) (hx : x ∈ dom D v) {asked : Nat → Bool} (hask : ∀ i : Nat, asked i = true ↔ (i : Int) ∈ c.vars) :
    (stillG c (updG (fun _ => none) v x) && !(chL [c] asked D 0 (updG (fun _ => none) v x)).isEmpty) = true ↔ Sup D c v x := by
  have hv0 := Con.ok_var hok hv
  have hgv : ∀ u y, updG (fun _ => none) v x u = some y → u = v ∧ y = x := fun u y h => by
    by_cases he : u = v
    · rw [he, updG_same] at h; exact ⟨he, (Option.some.inj h).symm⟩
    · rw [updG_other _ _ he] at h; cases h
  constructor
  · intro h
    rw [Bool.and_eq_true] at h
    rw [chL_eq (N := D.length) (fun c' hc' => by rw [List.mem_singleton.1 hc']; exact hok) D 0 _ (by simpa using h.1)] at h
    have hne := h.2
    rcases hL : (chN asked D 0 (updG (fun _ => none) v x)).filter (fun g' => [c].all fun c => stillG c g') with _ | ⟨g', L⟩
    · rw [hL] at hne; cases hne
    · have hm : g' ∈ (chN asked D 0 (updG (fun _ => none) v x)).filter (fun g' => [c].all fun c => stillG c g') := by rw [hL]; exact List.mem_cons_self ..
      obtain ⟨h1, h2⟩ := List.mem_filter.1 hm
      have hset : ∀ u ∈ c.vars, (g' u).isSome = true ∧ valG g' u ∈ dom D u := fun u hu => by
        have hu0 := Con.ok_var hok hu
        have huu : ((u.toNat : Nat) : Int) = u := Int.toNat_of_nonneg hu0.1
        have := chN_mem h1 u.toNat (by omega) (by rw [Nat.zero_add, hask, huu]; exact hu)
        rw [Nat.zero_add, huu] at this
        refine ⟨this.1, ?_⟩
        by_cases he : u = v
        · rw [he, ((chN_ext h1).val (by rw [updG_same]; rfl)).1, valG, updG_same]; exact hx
        · exact this.2 (updG_other _ _ he)
      refine ⟨valG g', fun u hu => (hset u hu).2, ?_, ?_⟩
      · rw [((chN_ext h1).val (by rw [updG_same]; rfl)).1, valG, updG_same]; rfl
      · rw [← stillG_all hok (allG_iff.2 fun u hu => (hset u hu).1)]; simpa using h2
  · rintro ⟨a, h1, h2, h3⟩
    obtain ⟨g', hg', hk⟩ := chN_has (asked := asked) a (ds := D) (i := 0) (g := updG (fun _ => none) v x) (fun j _ ha _ => by
      rw [Nat.zero_add] at ha ⊢
      exact h1 j ((hask j).1 ha)) (fun u y hy => by obtain ⟨rfl, rfl⟩ := hgv u y hy; exact h2)
    have hset : ∀ u ∈ c.vars, (g' u).isSome = true := fun u hu => by
      have hu0 := Con.ok_var hok hu
      have huu : ((u.toNat : Nat) : Int) = u := Int.toNat_of_nonneg hu0.1
      have := chN_mem hg' u.toNat (by omega) (by rw [Nat.zero_add, hask, huu]; exact hu)
      rw [Nat.zero_add, huu] at this
      exact this.1
    have hst : stillG c g' = true := by
      rw [stillG_all hok (allG_iff.2 hset), ← h3]
      refine Con.sat_congr hok fun u hu => ?_
      obtain ⟨y, hy⟩ := Option.isSome_iff_exists.1 (hset u hu)
      rw [hk u y hy, valG, hy]; rfl
    have hst0 := stillG_ext hok (chN_ext hg') hst
    rw [Bool.and_eq_true]
    refine ⟨hst0, ?_⟩
    rw [chL_eq (N := D.length) (fun c' hc' => by rw [List.mem_singleton.1 hc']; exact hok) D 0 _ (by simpa using hst0)]
    have hm : g' ∈ (chN asked D 0 (updG (fun _ => none) v x)).filter (fun g' => [c].all fun c => stillG c g') := List.mem_filter.2 ⟨hg', by simpa using hst⟩
    cases hL : (chN asked D 0 (updG (fun _ => none) v x)).filter (fun g' => [c].all fun c => stillG c g') with
    | nil => rw [hL] at hm; exact (List.not_mem_nil hm).elim
    | cons _ _ => rfl

/-- The numbers so far, as a list. -/
def rowG (g : Int → Option Int) (i n : Nat) : List Int := (List.range n).map fun j => valG g ((i + j : Nat) : Int)
theorem rowG_succ (g : Int → Option Int) (i n : Nat) : rowG g i (n + 1) = valG g (i : Int) :: rowG g (i + 1) n := by
  rw [rowG, List.range_succ_eq_map, List.map_cons, List.map_map, Nat.add_zero, rowG]
  congr 1
  refine List.map_congr_left fun j _ => ?_
  show valG g ((i + (j + 1) : Nat) : Int) = valG g ((i + 1 + j : Nat) : Int)
  rw [show i + (j + 1) = i + 1 + j by omega]
/-- The domains, where a number that is given is the only one. -/
def domsG (g : Int → Option Int) : List (List Int) → Nat → List (List Int)
  | [], _ => []
  | d :: ds, i => (match g (i : Int) with | some x => [x] | none => d) :: domsG g ds (i + 1)
theorem domsG_upd (g : Int → Option Int) (k : Nat) (x : Int) : ∀ (ds : List (List Int)) (i : Nat), k < i → domsG (updG g k x) ds i = domsG g ds i
  | [], _, _ => rfl
  | d :: ds, i, h => by rw [domsG, domsG, domsG_upd g k x ds (i + 1) (by omega), updG_other g x (by omega)]
theorem chN_all : ∀ (ds : List (List Int)) (i : Nat) (g : Int → Option Int), (chN (fun _ => true) ds i g).map (fun g' => rowG g' i ds.length) = prodL (domsG g ds i)
  | [], i, g => rfl
  | d :: ds, i, g => by
    rw [chN, domsG, prodL]
    cases hg : g (i : Int) with
    | some x =>
      rw [if_pos (by rfl)]
      show _ = ([x] : List Int).flatMap _
      rw [List.flatMap_cons, List.flatMap_nil, List.append_nil, ← chN_all ds (i + 1) g, List.map_map]
      refine List.map_congr_left fun g' hg' => ?_
      show rowG g' i (ds.length + 1) = _
      rw [rowG_succ, ((chN_ext hg').val (by rw [hg]; rfl)).1, valG, hg]; rfl
    | none =>
      rw [if_neg (by decide)]
      show _ = d.flatMap _
      rw [List.map_flatMap]
      congr 1
      funext x
      rw [← domsG_upd g i x ds (i + 1) (by omega), ← chN_all ds (i + 1) (updG g i x), List.map_map]
      refine List.map_congr_left fun g' hg' => ?_
      show rowG g' i (ds.length + 1) = _
      rw [rowG_succ, ((chN_ext hg').val (by rw [updG_same]; rfl)).1, valG, updG_same]; rfl
theorem rowG_asg {g : Int → Option Int} {n : Nat} {v : Int} (h0 : 0 ≤ v) (h : v < n) : asg (rowG g 0 n) v = valG g v := by
  rw [asg, getD_lt 0 (by simp [rowG]; omega)]
  simp only [rowG, List.getElem_map, List.getElem_range, Nat.zero_add]
  rw [Int.toNat_of_nonneg h0]
/-- All choices that meet all constraints. -/
theorem chL_sols {C : List Con} {D : List (List Int)} (hok : ∀ c ∈ C, c.ok D.length = true) {g : Int → Option Int} (h : (C.all fun c => stillG c g) = true) : (chL C (fun _ => true) D 0 g).map (fun g' => rowG g' 0 D.length) = sols C (domsG g D 0) := by
  rw [chL_eq hok D 0 g h, sols, ← chN_all D 0 g, List.filter_map]
  congr 1
  refine List.filter_congr fun g' hg' => ?_
  have : ∀ c ∈ C, stillG c g' = c.sat (asg (rowG g' 0 D.length)) := fun c hc => by
    rw [stillG_all (hok c hc) (allG_iff.2 fun v hv => by
      have hv0 := Con.ok_var (hok c hc) hv
      have := chN_mem hg' v.toNat (by omega) rfl
      rw [Nat.zero_add, Int.toNat_of_nonneg hv0.1] at this
      exact this.1)]
    exact Con.sat_congr (hok c hc) fun v hv => (rowG_asg (Con.ok_var (hok c hc) hv).1 (Con.ok_var (hok c hc) hv).2).symm
  show (C.all fun c => stillG c g') = C.all fun c => c.sat (asg (rowG g' 0 D.length))
  rw [Bool.eq_iff_iff, List.all_eq_true, List.all_eq_true]
  exact ⟨fun h c hc => by rw [← this c hc]; exact h c hc, fun h c hc => by rw [this c hc]; exact h c hc⟩
/-- Where a constraint can't hold any more there is no solution. -/
theorem stillG_sols {C : List Con} {D : List (List Int)} (hok : ∀ c ∈ C, c.ok D.length = true) {g : Int → Option Int} (h : (C.all fun c => stillG c g) = false) : sols C (domsG g D 0) = [] := by
  rw [sols, List.filter_eq_nil_iff]
  intro s hs hsat
  rw [← chN_all D 0 g] at hs
  obtain ⟨g', hg', rfl⟩ := List.mem_map.1 hs
  have : (C.all fun c => stillG c g) = true := List.all_eq_true.2 fun c hc => stillG_ext (hok c hc) (chN_ext hg') (by
    rw [stillG_all (hok c hc) (allG_iff.2 fun v hv => by
      have hv0 := Con.ok_var (hok c hc) hv
      have := chN_mem hg' v.toNat (by omega) rfl
      rw [Nat.zero_add, Int.toNat_of_nonneg hv0.1] at this
      exact this.1)]
    rw [Con.sat_congr (hok c hc) fun v hv => (rowG_asg (Con.ok_var (hok c hc) hv).1 (Con.ok_var (hok c hc) hv).2).symm]
    exact List.all_eq_true.1 hsat c hc)
  rw [h] at this; cases this
theorem domsG_none (D : List (List Int)) : ∀ i, domsG (fun _ => none) D i = D := by
  induction D with
  | nil => intro i; rfl
  | cons d ds ih => intro i; rw [domsG, ih]
theorem domsG_one : ∀ (D : List (List Int)) (i k : Nat) (x : Int), i ≤ k → domsG (updG (fun _ => none) k x) D i = D.set (k - i) [x]
  | [], _, _, _, _ => rfl
  | d :: ds, i, k, x, h => by
    rw [domsG]
    by_cases he : i = k
    · subst he
      rw [Nat.sub_self, List.set_cons_zero, updG_same, domsG_upd _ _ _ _ _ (by omega), domsG_none]
    · rw [updG_other _ _ (by omega), domsG_one ds (i + 1) k x (by omega), show k - i = (k - (i + 1)) + 1 by omega, List.set_cons_succ]
end Go.Proofs.Ytbapmokbkjmdcaa

namespace Go.Proofs.Ytbapmokbkjmdcaa
open Go.RowKit Go.Maps Go.Lib

/-- A constraint with its addresses. -/
structure Cn where
  k : Int
  vp : Option Addr
  vc : Nat
  vs : List Int
  cp : Option Addr
  cc : Nat
  cs : List Int
  op : Int
  c : Int
def Cn.val (x : Cn) : Value := .agg #[.int .i64 x.k, .slice x.vp x.vs.length x.vc, .slice x.cp x.cs.length x.cc, .int .i64 x.op, .int .i64 x.c]
def Cn.arr (x : Cn) : Array Value := #[.int .i64 x.k, .slice x.vp x.vs.length x.vc, .slice x.cp x.cs.length x.cc, .int .i64 x.op, .int .i64 x.c]
def Cn.con (x : Cn) : Con := ⟨x.k, x.vs, x.cs, x.op, x.c⟩
/-- It lies in a world. -/
structure Cn.In (x : Cn) (w : World) : Prop where
  vars : IntSl w x.vp x.vc x.vs
  coefs : IntSl w x.cp x.cc x.cs
  k : In64 x.k
  op : In64 x.op
  c : In64 x.c
theorem Cn.In.mono {x : Cn} {w w' : World} (h : x.In w) (hg : Gr w w') : x.In w' := ⟨h.vars.mono hg, h.coefs.mono hg, h.k, h.op, h.c⟩
/-- A block that holds a constraint. -/
def CnBlk (w : World) (b : Nat) (x : Cn) : Prop := BlkT w b 42 x.arr
theorem CnBlk.cells {w : World} {b : Nat} {x : Cn} (h : CnBlk w b x) : w.cell? ⟨b, 0, none⟩ = some (.int .i64 x.k) ∧ w.cell? ⟨b, 1, none⟩ = some (.slice x.vp x.vs.length x.vc) ∧ w.cell? ⟨b, 2, none⟩ = some (.slice x.cp x.cs.length x.cc) ∧ w.cell? ⟨b, 3, none⟩ = some (.int .i64 x.op) ∧ w.cell? ⟨b, 4, none⟩ = some (.int .i64 x.c) :=
  ⟨h.cell 0 rfl, h.cell 1 rfl, h.cell 2 rfl, h.cell 3 rfl, h.cell 4 rfl⟩
theorem CnBlk.new (w : World) (x : Cn) : CnBlk (w.alloc (.cells #[.int .i64 x.k, .slice x.vp x.vs.length x.vc, .slice x.cp x.cs.length x.cc, .int .i64 x.op, .int .i64 x.c] 42)) w.heap.size x := heap_alloc_new w _
theorem CnBlk.gr {w w' : World} {b : Nat} {x : Cn} (h : CnBlk w b x) (hg : Gr w w') : CnBlk w' b x := BlkT.gr h hg

/-- Block m is a map of the numbers that are given. -/
def IMap (w : World) (m : Nat) (g : Int → Option Int) : Prop := GMap 3 (Value.int .i64) w m fun n => (g n).map (Value.int .i64)
theorem zeroI64 (w : World) : (zeroValue 2).run Try.prog w = .ok (.int .i64 0) w := by kernel_rfl
set_option maxRecDepth 100000 in
theorem IMap.run {w : World} {m : Nat} {g : Int → Option Int} (h : IMap w m g) {n : Int} (hn : In64 n) :
    (Instr.lookup 80 (.map (some m)) (.int .i64 n) false).run Try.prog w = .ok (.int .i64 ((g n).getD 0)) w ∧ (Instr.lookup 80 (.map (some m)) (.int .i64 n) true).run Try.prog w = .ok (.tuple #[.int .i64 ((g n).getD 0), .bool (g n).isSome]) w := by
  have h1 := GMap.run h (int_keyed Try.underlying3) Try.underlying80 (zeroI64 w) (x := n) (keyOf_int_mk Try.underlying3 (wf_64 hn))
  have e1 : ((g n).map (Value.int .i64)).getD (.int .i64 0) = .int .i64 ((g n).getD 0) := by cases g n <;> rfl
  have e2 : ((g n).map (Value.int .i64)).isSome = (g n).isSome := by cases g n <;> rfl
  rw [e1, e2] at h1
  exact h1
theorem IMap.gr {w w' : World} {m : Nat} {g : Int → Option Int} (h : IMap w m g) (hg : Gr w w') : IMap w' m g := GMap.gr h hg
theorem int_inj : ∀ y x : Int, Value.int .i64 y = Value.int .i64 x → y = x := fun y x h => by cases h; rfl
set_option maxRecDepth 100000 in
theorem IMap.put {w : World} {m : Nat} {g : Int → Option Int} (h : IMap w m g) {n : Int} (hn : In64 n) (x : Int) :
    ∃ w', (Instr.mapUpdate 80 (.map (some m)) (.int .i64 n) (.int .i64 x)).run Try.prog w = .ok () w' ∧ IMap w' m (updG g n x) ∧ w.grownBy w' (some m) :=
  GMap.update h (int_keyed Try.underlying3) Try.underlying80 (x := n) (keyOf_int_mk Try.underlying3 (wf_64 hn)) (fun y => int_inj y n) (.int .i64 x) (by show (updG g n x n).map _ = _; rw [updG_same]; rfl) (fun y hy => by show (updG g n x y).map _ = _; rw [updG_other g x hy])
set_option maxRecDepth 100000 in
theorem IMap.del {w : World} {m : Nat} {g : Int → Option Int} {n x : Int} (h : IMap w m (updG g n x)) (hn : In64 n) (hg : g n = none) (ty : TypeId) :
    ∃ w', (Builtin.delete_ #[80, 3] ty #[.map (some m), .int .i64 n]).run Try.prog w = .ok (.tuple #[]) w' ∧ IMap w' m g ∧ w.grownBy w' (some m) :=
  GMap.delete h (int_keyed Try.underlying3) ty Try.underlying80 (x := n) (keyOf_int_mk Try.underlying3 (wf_64 hn)) (fun y => int_inj y n) (by show (g n).map _ = _; rw [hg]; rfl) (fun y hy => by show (g y).map _ = (updG g n x y).map _; rw [updG_other g x hy])

/-- The call returned the value; nothing has turned. -/
def RetStill (v : Value) (w : World) (e : Ending) (w' : World) : Prop := e = .returned v ∧ w' = w

set_option maxHeartbeats 1000000 in
set_option maxRecDepth 100000 in
theorem at1_calls (B m : Nat) (g : Int → Option Int) (v : Int) (w : World) (h : IMap w m g) (hv : In64 v) (hB : w.cell? ⟨B, 0, none⟩ = some (.map (some m))) :
    Calls Try.prog 62 #[.int .i64 v, .pointer (some ⟨B, 0, none⟩)] w (RetStill (.int .i64 (valG g v)) w) := by
  have hR : Hid (RetStill (.int .i64 (valG g v)) w (.returned (.int .i64 ((g v).getD 0))) w) := ⟨rfl, rfl⟩
  generalize RetStill (.int .i64 (valG g v)) w = Q at hR ⊢
  have hr := (h.run hv).1
  clear h
  generalize (g v).getD 0 = r at *
  go_enter Try.func62, Try.ntmps62
  try simp only [List.append_eq, List.cons_append, List.nil_append]
  go_wp2_with fail
  exact hR.out

set_option maxHeartbeats 1000000 in
set_option maxRecDepth 100000 in
theorem taken_calls (x : Cn) (m : Nat) (g : Int → Option Int) (n : Int) (w : World) (hx : x.In w) (h : IMap w m g) :
    Calls Try.prog 63 #[x.val, .map (some m), .int .i64 n] w (Ret (.bool (takenG x.con g n)) w) := by
  have hR : Hid (∀ b, takenG x.con g n = b → ∀ w', Gr w w' → Ret (.bool (takenG x.con g n)) w (.returned (.bool b)) w') := fun b hb w' hg => ⟨by rw [hb], hg⟩
  have HT := Lib.hid (show takenG x.con g n = x.vs.any fun v => decide (g v = some n) from rfl)
  generalize Ret (.bool (takenG x.con g n)) w = Q at hR ⊢
  generalize takenG x.con g n = r at *
  have HV := Lib.hid hx.vars
  have HM := Lib.hid h
  clear h hx
  have hlc := HV.out.1
  have hcc := HV.out.2.1
  rw [show x.val = .agg #[.int .i64 x.k, .slice x.vp x.vs.length x.vc, .slice x.cp x.cs.length x.cc, .int .i64 x.op, .int .i64 x.c] from rfl]
  go_enter Try.func63, Try.ntmps63
  try simp only [List.append_eq, List.cons_append, List.nil_append]
  go_upto_region 1 with fail
  have hB := Lib.hid (CnBlk.new w x)
  have gA : Gr w (w.alloc (.cells #[.int .i64 x.k, .slice x.vp x.vs.length x.vc, .slice x.cp x.cs.length x.cc, .int .i64 x.op, .int .i64 x.c] 42)) := by go_grown
  generalize w.alloc (.cells #[.int .i64 x.k, .slice x.vp x.vs.length x.vc, .slice x.cp x.cs.length x.cc, .int .i64 x.op, .int .i64 x.c] 42) = wA at *
  obtain ⟨b0, b1, b2, b3, b4⟩ := hB.out.cells
  have HA := Lib.hid gA
  go_wp2_with fail
  clear b0 b1 b2 b3 b4
  clear hB
  generalize x.vs = vs at *
  generalize x.vp = vp at *
  generalize x.vc = vc at *
  go_loopg [14] vs.length (fun k i wr => ∃ j : Nat, j ≤ vs.length ∧ k = vs.length - j ∧ i = .int .i64 j ∧ wA = wr ∧ Hid (∀ i y, i < j → vs[i]? = some y → g y ≠ some n))
  case atStart => exact ⟨0, Nat.zero_le _, rfl, rfl, rfl, fun i _ hi => by omega⟩
  case round =>
    obtain ⟨j, hj, rfl, rfl, rfl, hno⟩ := hrel
    by_cases hlt : j < vs.length
    · obtain ⟨b, o, rfl, _, hr⟩ := (HV.out.mono HA.out).ptr (by omega)
      obtain ⟨y, hy⟩ : ∃ y, vs[j]? = some y := ⟨_, List.getElem?_eq_getElem hlt⟩
      have c0 := hr j _ hy
      have hin := HV.out.2.2.1 _ (List.mem_of_getElem? hy)
      have hlk := ((HM.out.gr HA.out).run hin).2
      have HY := Lib.hid hy
      clear hr hy
      cases hg : g y with
      | none =>
        rw [hg] at hlk
        simp only [Option.getD_none, Option.isSome_none] at hlk
        have hno2 : Hid (∀ i z, i < j + 1 → vs[i]? = some z → g z ≠ some n) := fun i z hi hz => by
          by_cases hik : i = j
          · subst hik
            rw [HY.out] at hz
            cases hz
            rw [hg]; exact nofun
          · exact hno.out i z (by omega) hz
        go_wp2_with fail
        go_roundg (vs.length - (j + 1))
        case measure => omega
        case rel => exact ⟨j + 1, by omega, rfl, by go_num, rfl, hno2⟩
      | some z =>
        rw [hg] at hlk
        simp only [Option.getD_some, Option.isSome_some] at hlk
        cases he : (z == n) with
        | true =>
          have hv : Hid (r = true) := by
            show _ = _
            rw [HT.out, List.any_eq_true]
            exact ⟨y, List.mem_of_getElem? HY.out, decide_eq_true (by rw [hg, beq_iff_eq.1 he])⟩
          go_wp2_with fail
          exact hR.out _ hv.out _ HA.out
        | false =>
          have hno2 : Hid (∀ i z, i < j + 1 → vs[i]? = some z → g z ≠ some n) := fun i z' hi hz => by
            by_cases hik : i = j
            · subst hik
              rw [HY.out] at hz
              cases hz
              rw [hg]
              intro e
              cases e
              simp at he
            · exact hno.out i z' (by omega) hz
          go_wp2_with fail
          go_roundg (vs.length - (j + 1))
          case measure => omega
          case rel => exact ⟨j + 1, by omega, rfl, by go_num, rfl, hno2⟩
    · obtain rfl : j = vs.length := by omega
      have hv : Hid (r = false) := by
        show _ = _
        rw [HT.out, List.any_eq_false]
        intro y hy
        obtain ⟨i, hi⟩ := List.getElem?_of_mem hy
        have := hno.out i y (List.getElem?_eq_some_iff.1 hi).1 hi
        simpa using this
      go_wp2_with fail
      exact hR.out _ hv.out _ HA.out
end Go.Proofs.Ytbapmokbkjmdcaa
