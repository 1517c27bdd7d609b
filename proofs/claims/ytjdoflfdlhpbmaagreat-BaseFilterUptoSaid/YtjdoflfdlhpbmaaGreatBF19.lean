/-
  Slices of binds.
  Small things on lists of binds, apart from any function.
  Maps that are ranged over: when each entry was laid, how many there are; what is met in a range.
  term.Binds: the range over the map.
  term.Binds: what a range over the map has collected.
  hornref.Find, hornref.Apply
  Slices of binds that a call makes by append; an iterator's step turns one block.
  What term.Binds hands back.
-/
import Derived.Test.YtjdoflfdlhpbmaaGreatBF02
import Derived.Test.YtjdoflfdlhpbmaaGreatBF06
import Derived.Deep.LoopGhost
import Derived.Maps.RangeRun
import Derived.Test.YtjdoflfdlhpbmaaGreatBF05
import Derived.Test.YtjdoflfdlhpbmaaGreatBF03
namespace Go.Proofs.YtjdoflfdlhpbmaaGreat
open Go.ChangeShapes Go.WideShapes Go.ChangeAt Go.RowKit Go.Deep

section
variable {H : Type} {enc : TypeId × Value → H} {W : World}

/-- A bind with its addresses. -/
structure Bd where
  v : Int
  t : Tm

def Bd.cells (x : Bd) : List Value := .int .i64 x.v :: x.t.cells

def Bd.row (w : World) (b o : Nat) (l : List Bd) : Prop :=
  ∀ (i : Nat) (x : Bd), l[i]? = some x →
    w.cell? ⟨b, o + i * 5, none⟩ = some (.int .i64 x.v) ∧ w.cell? ⟨b, o + i * 5 + 1, none⟩ = some (.int .i64 x.t.k) ∧ w.cell? ⟨b, o + i * 5 + 1 + 1, none⟩ = some (.int .i64 x.t.n) ∧
    w.cell? ⟨b, o + i * 5 + 1 + 2, none⟩ = some (.string x.t.s) ∧ w.cell? ⟨b, o + i * 5 + 1 + 3, none⟩ = some (.slice x.t.p x.t.l.length x.t.c)

/-- A slice of binds. -/
structure Bds where
  p : Option Addr
  c : Nat
  l : List Bd

def Bds.val (x : Bds) : Value := .slice x.p x.l.length x.c
def Bds.In (w : World) (x : Bds) : Prop :=
  x.l.length ≤ x.c ∧ (x.l.length * 64 ≤ 140737488351232 ∧ x.c ≤ 9223372036854775807) ∧ (x.l = [] ∨ ∃ b o, x.p = some ⟨b, o, none⟩ ∧ Bd.row w b o x.l) ∧ ∀ y ∈ x.l, y.t.In w ∧ In64 y.v

theorem Bd.row_lt {w : World} {b o : Nat} {l : List Bd} (h : Bd.row w b o l) (hl : l ≠ []) : b < w.heap.size := by
  cases l with
  | nil => exact absurd rfl hl
  | cons x xs => exact World.block_lt_of_cell? _ _ (h 0 x rfl).1

theorem Bds.In.mono {w w' : World} {x : Bds} (h : x.In w) (hg : Gr w w') : x.In w' := by
  obtain ⟨h1, h2, h3, h4⟩ := h
  refine ⟨h1, h2, ?_, fun y hy => ⟨Tm.In_below hg (h4 y hy).1, (h4 y hy).2⟩⟩
  rcases h3 with h3 | ⟨b, o, hp, hr⟩
  · exact .inl h3
  · by_cases hl : x.l = []
    · exact .inl hl
    · refine .inr ⟨b, o, hp, fun i y hy => ?_⟩
      have hlt := Bd.row_lt hr hl
      have hs : ∀ o', w'.cell? ⟨b, o', none⟩ = w.cell? ⟨b, o', none⟩ := fun o' => hg.cell (p := ⟨b, o', none⟩) hlt
      have := hr i y hy
      simpa only [hs] using this

theorem Bds.In.elem {w : World} {b o : Nat} {c : Nat} {l : List Bd} (h : (Bds.mk (some ⟨b, o, none⟩) c l).In w) (i : Nat) (hi : i < l.length) :
    (w.cell? ⟨b, o + i * 5, none⟩ = some (.int .i64 l[i].v) ∧ w.cell? ⟨b, o + i * 5 + 1, none⟩ = some (.int .i64 l[i].t.k) ∧ w.cell? ⟨b, o + i * 5 + 1 + 1, none⟩ = some (.int .i64 l[i].t.n) ∧
    w.cell? ⟨b, o + i * 5 + 1 + 2, none⟩ = some (.string l[i].t.s) ∧ w.cell? ⟨b, o + i * 5 + 1 + 3, none⟩ = some (.slice l[i].t.p l[i].t.l.length l[i].t.c)) ∧ l[i].t.In w ∧ In64 l[i].v ∧ b < w.heap.size := by
  obtain ⟨_, _, h3, h4⟩ := h
  rcases h3 with rfl | ⟨b', o', hp, hr⟩
  · simp at hi
  · cases hp
    exact ⟨hr i l[i] (List.getElem?_eq_getElem hi), (h4 _ (List.getElem_mem hi)).1, (h4 _ (List.getElem_mem hi)).2, Bd.row_lt hr (by rintro rfl; simp at hi)⟩

theorem Bds.In.ptr {w : World} {p : Option Addr} {c : Nat} {l : List Bd} (h : (Bds.mk p c l).In w) (hl : 0 < l.length) : ∃ b o, p = some ⟨b, o, none⟩ := by
  obtain ⟨_, _, h3, _⟩ := h
  rcases h3 with rfl | ⟨b', o', hp, _⟩
  · simp at hl
  · exact ⟨b', o', hp⟩

end
end Go.Proofs.YtjdoflfdlhpbmaaGreat

namespace Go.Proofs.YtjdoflfdlhpbmaaGreat
open Go.RowKit Go.Lib


/-- The variables rise. -/
def ascB (last : Int) : List Bd → Bool
  | [] => true
  | x :: xs => decide (last < x.v) && (decide (x.v ≤ 1099511627776) && ascB x.v xs)
/-- P4: is it a substitution? -/
def bindsErr (l : List Bd) : Int := if (l.all fun y => y.t.erase.formed) = true then (if ascB (-1) l = true then 0 else 1) else 2

def bdCells (y : Bd) : Array Value := #[.int .i64 y.v, .int .i64 y.t.k, .int .i64 y.t.n, .string y.t.s, .slice y.t.p y.t.l.length y.t.c]
theorem asc_spec : ∀ (l : List Bd) (last : Int), ascB last l = true → (∀ (a : Nat) (h : a < l.length), last < l[a].v ∧ l[a].v ≤ 1099511627776) ∧ ∀ (a b : Nat) (ha : a < l.length) (hb : b < l.length), a < b → l[a].v < l[b].v
  | [], _, _ => ⟨fun a h => absurd h (by simp), fun a b h => absurd h (by simp)⟩
  | x :: xs, last, h => by
    rw [ascB, Bool.and_eq_true, Bool.and_eq_true, decide_eq_true_eq, decide_eq_true_eq] at h
    obtain ⟨h1, h2, h3⟩ := h
    obtain ⟨i1, i2⟩ := asc_spec xs x.v h3
    refine ⟨fun a ha => ?_, fun a b ha hb hab => ?_⟩
    · cases a with
      | zero => exact ⟨h1, h2⟩
      | succ a => have := i1 a (by simpa using ha); simp only [List.getElem_cons_succ]; exact ⟨by omega, this.2⟩
    · cases b with
      | zero => omega
      | succ b =>
        cases a with
        | zero => exact (i1 b (by simpa using hb)).1
        | succ a => exact i2 a b (by simpa using ha) (by simpa using hb) (by omega)
theorem bdcells_len : ∀ l : List Bd, (l.flatMap Bd.cells).length = l.length * 5
  | [] => rfl
  | x :: xs => by rw [List.flatMap_cons, List.length_append, bdcells_len xs, List.length_cons, Bd.cells, Tm.cells]; simp; omega
theorem bdcells_at : ∀ {l : List Bd} {i : Nat} {x : Bd}, l[i]? = some x → ∀ j, j < 5 → (l.flatMap Bd.cells)[i * 5 + j]? = x.cells[j]?
  | y :: ys, 0, x, h, j, hj => by
    simp only [List.getElem?_cons_zero, Option.some.injEq] at h
    subst h
    rw [List.flatMap_cons, Nat.zero_mul, Nat.zero_add, List.getElem?_append_left (by simp [Bd.cells, Tm.cells]; omega)]
  | y :: ys, i + 1, x, h, j, hj => by
    simp only [List.getElem?_cons_succ] at h
    rw [List.flatMap_cons, List.getElem?_append_right (by simp [Bd.cells, Tm.cells]; omega), ← bdcells_at h j hj]
    simp only [Bd.cells, Tm.cells, List.length_cons, List.length_nil]
    congr 1
    omega
end Go.Proofs.YtjdoflfdlhpbmaaGreat

namespace Go.Proofs.YtjdoflfdlhpbmaaGreat
open Go.RowKit Go.Maps

/-- Block b is a map all of whose keys are such; when each entry was laid. -/
def Stm {K : Type} (κ : K → Value) (w : World) (b : Nat) : Prop :=
  ∃ (E : Array MapEntry) (c : Nat), w.heap[b]? = some (.map E c) ∧ (∀ e ∈ E.toList, (∃ x, e.key = κ x) ∧ e.born < c) ∧ (E.toList.map (·.born)).Nodup

section
variable {K : Type} {k : TypeId} {κ : K → Value} {w w' : World} {b : Nat} {f : K → Option Value}
theorem Stm.kp {C : Nat → Prop} (h : Stm κ w b) (hg : Kp C w w') (hb : ¬ C b) : Stm κ w' b := by
  obtain ⟨E, c, h1, h2⟩ := h
  exact ⟨E, c, (hg.block b (Array.getElem?_eq_some_iff.1 h1).1 hb).trans h1, h2⟩
theorem Stm.gr (h : Stm κ w b) (hg : Gr w w') : Stm κ w' b := h.kp (C := fun _ => False) (Kp.of_gr hg) id
theorem Stm.made (κ : K → Value) (w : World) : Stm κ (w.alloc (.map #[] 0)) w.heap.size := ⟨#[], 0, heap_alloc_new _ _, (fun _ h => by cases h), List.nodup_nil⟩

set_option maxRecDepth 100000 in
/-- A store keeps both. -/
theorem GMap.updateS (h : GMap k κ w b f) (hs : Stm κ w b) (KK : Keyed Tryz.prog k) {t e : TypeId} (ht : Tryz.prog.underlying t = some (.map k e)) {x : K} {l : Lit} (hx : keyOf Tryz.prog k (κ x) = some l) (hinj : ∀ y, κ y = κ x → y = x) (v : Value)
    {g : K → Option Value} (hg1 : g x = some v) (hg2 : ∀ y, y ≠ x → g y = f y) :
    ∃ w', (Instr.mapUpdate t (.map (some b)) (κ x) v).run Tryz.prog w = .ok () w' ∧ GMap k κ w' b g ∧ w.grownBy w' (some b) ∧ Stm κ w' b := by
  obtain ⟨w1, hr1, hg, hgb⟩ := h.update KK ht hx hinj v hg1 hg2
  refine ⟨w1, hr1, hg, hgb, ?_⟩
  obtain ⟨E, c, hb, hk, hn, hf⟩ := h
  obtain ⟨E', c', hb', hst, hbn⟩ := hs
  rw [hb] at hb'
  cases hb'
  rcases KK.find w hx E.toList hk with ⟨h1, h2⟩ | ⟨j, e0, h1, h2, h3⟩
  · have hrun : (Instr.mapUpdate t (.map (some b)) (κ x) v).run Tryz.prog w = .ok () (ChangeMaps.setBlock w b (.map (E.push ⟨κ x, v, c⟩) (c + 1))) := by
      simp [Instr.mapUpdate, run_underlying ht, MapKept.run_getObj_map hb, KK.check w false hx, h1, MapKept.run_setObj_map _ hb, Result.andThen, ChangeMaps.setBlock]
    rw [hr1] at hrun
    have hw := (Result.ok.inj hrun).2
    rw [hw]
    refine ⟨_, _, ChangeMaps.heap_setBlock_same hb _, fun e he => ?_, ?_⟩
    · rw [Array.toList_push, List.mem_append, List.mem_singleton] at he
      rcases he with he | rfl
      · exact ⟨(hst e he).1, by have := (hst e he).2; omega⟩
      · exact ⟨⟨x, rfl⟩, Nat.lt_succ_self _⟩
    · rw [Array.toList_push, List.map_append, List.nodup_append]
      refine ⟨hbn, by simp, ?_⟩
      intro a ha d hd
      obtain ⟨e, he, rfl⟩ := List.mem_map.1 ha
      simp only [List.map_cons, List.map_nil, List.mem_singleton] at hd
      subst hd
      exact Nat.ne_of_lt (hst e he).2
  · have hj : E[j]? = some e0 := by simpa using h2
    have hrun : (Instr.mapUpdate t (.map (some b)) (κ x) v).run Tryz.prog w = .ok () (ChangeMaps.setBlock w b (.map (E.modify j fun e => { e with key := κ x, val := v }) c)) := by
      simp [Instr.mapUpdate, run_underlying ht, MapKept.run_getObj_map hb, KK.check w false hx, h1, hj, h3, KK.stays w hx, MapKept.run_setObj_map _ hb, Result.andThen, ChangeMaps.setBlock]
    rw [hr1] at hrun
    have hw := (Result.ok.inj hrun).2
    rw [hw]
    have hM : (E.modify j fun e => { e with key := κ x, val := v }).toList = E.toList.modify j fun e => { e with key := κ x, val := v } := Array.toList_modify ..
    refine ⟨_, _, ChangeMaps.heap_setBlock_same hb _, fun e he => ?_, ?_⟩
    · rw [hM] at he
      obtain ⟨i, hi, hie⟩ := List.getElem_of_mem he
      rw [List.getElem_modify] at hie
      have hil : i < E.toList.length := by simpa using hi
      by_cases hji : j = i
      · rw [if_pos hji] at hie
        rw [← hie]
        exact ⟨⟨x, rfl⟩, (hst _ (List.getElem_mem hil)).2⟩
      · rw [if_neg hji] at hie
        rw [← hie]
        exact hst _ (List.getElem_mem hil)
    · rw [hM]
      have : (E.toList.modify j fun e => { e with key := κ x, val := v }).map (·.born) = E.toList.map (·.born) := by
        apply List.ext_getElem (by simp)
        intro i h1 h2
        simp only [List.getElem_map, List.getElem_modify]
        split <;> rfl
      rw [this]
      exact hbn
end

/-- A list of numbers below M, each once, is no longer than M. -/
theorem nodup_le : ∀ (M : Nat) (l : List Int), l.Nodup → (∀ x ∈ l, 0 ≤ x ∧ x < M) → l.length ≤ M
  | 0, l, _, h => by
    cases l with
    | nil => exact Nat.le_refl _
    | cons x xs => have := h x (by simp); omega
  | M + 1, l, hn, h => by
    by_cases hm : (M : Int) ∈ l
    · have h1 := nodup_le M (l.erase M) (hn.erase _) fun x hx => by
        have h2 := h x (List.mem_of_mem_erase hx)
        have h3 : x ≠ M := fun e => by subst e; exact (List.Nodup.not_mem_erase hn) hx
        omega
      rw [List.length_erase_of_mem hm] at h1
      omega
    · have h1 := nodup_le M l hn fun x hx => by
        have h2 := h x hx
        have h3 : x ≠ M := fun e => hm (e ▸ hx)
        omega
      omega
end Go.Proofs.YtjdoflfdlhpbmaaGreat

namespace Go.Proofs.YtjdoflfdlhpbmaaGreat
open Go.RowKit Go.Maps Go.Lib

def kI64 (n : Int) : Value := .int .i64 n
theorem kI64_inj {x y : Int} (h : kI64 y = kI64 x) : y = x := by simpa [kI64] using h

/-- A map from variables to terms that lie on S. -/
def TMap (S : Nat → Prop) (w : World) (b : Nat) (f : Int → Option T) : Prop :=
  (∃ g, GMap 2 kI64 w b g ∧ ∀ n, match f n with
    | none => g n = none
    | some t => ∃ tm : Tm, g n = some tm.val ∧ tm.In w ∧ tm.erase = t ∧ t.formed = true ∧ tm.On S) ∧ Stm kI64 w b ∧ ∀ n, f n ≠ none → 0 ≤ n ∧ n ≤ 1099511627776

theorem infoBd : (Tryz.prog.info? 96).map (fun i => (i.zero, i.size, i.bytes)) = some (some (.agg #[.int .i64 0, .int .i64 0, .int .i64 0, .string ⟨#[]⟩, .slice none 0 0]), 5, 64) := by kernel_rfl

theorem TMap.kp {S C : Nat → Prop} {w w' : World} {b : Nat} {f : Int → Option T} (h : TMap S w b f) (hk : Kp C w w') (hb : ¬ C b) (hS : ∀ x, S x → ¬ C x) : TMap S w' b f := by
  obtain ⟨⟨g, h1, h2⟩, h3, h4⟩ := h
  refine ⟨⟨g, h1.kp hk hb, fun n => ?_⟩, h3.kp hk hb, h4⟩
  have := h2 n
  cases hf : f n with
  | none => rw [hf] at this; exact this
  | some t =>
    rw [hf] at this
    obtain ⟨tm, i1, i2, i3, i4, i5⟩ := this
    exact ⟨tm, i1, in_after' i2 i5 fun x hx hl _ => World.cell?_of_block (hk.block x hl (hS x hx)), i3, i4, i5⟩

/-- What lies in a map: each entry's key and value. -/
theorem TMap.entries {S : Nat → Prop} {w : World} {b : Nat} {f : Int → Option T} (h : TMap S w b f) : ∃ (E : Array MapEntry) (c : Nat), w.heap[b]? = some (.map E c) ∧ (∀ e ∈ E.toList, e.born < c) ∧ (E.toList.map (·.born)).Nodup ∧ (E.toList.map (·.key)).Nodup ∧
    (∀ e ∈ E.toList, ∃ (n : Int) (tm : Tm), e.key = kI64 n ∧ e.val = tm.val ∧ f n = some tm.erase ∧ tm.In w ∧ tm.erase.formed = true ∧ tm.On S ∧ 0 ≤ n ∧ n ≤ 1099511627776) ∧
    ∀ n t, f n = some t → ∃ e ∈ E.toList, e.key = kI64 n := by
  obtain ⟨⟨g, ⟨E, c, hb, hk, hn, hf⟩, h2⟩, ⟨E', c', hb', hst, hbn⟩, h4⟩ := h
  rw [hb] at hb'
  cases hb'
  refine ⟨E, _, hb, fun e he => (hst e he).2, hbn, hn, fun e he => ?_, fun n t ht => ?_⟩
  · obtain ⟨n, hkey⟩ := (hst e he).1
    have hg : g n = some e.val := (hf n e.val).2 ⟨e, he, hkey, rfl⟩
    have h5 := h2 n
    cases hfn : f n with
    | none => rw [hfn] at h5; simp only at h5; rw [hg] at h5; cases h5
    | some t =>
      rw [hfn] at h5
      obtain ⟨tm, i1, i2, i3, i4, i5⟩ := h5
      rw [hg] at i1
      have h6 := h4 n (by rw [hfn]; simp)
      exact ⟨n, tm, hkey, Option.some.inj i1, by rw [hfn, i3], i2, by rw [i3]; exact i4, i5, h6.1, h6.2⟩
  · have h5 := h2 n
    rw [ht] at h5
    obtain ⟨tm, i1, _⟩ := h5
    obtain ⟨e, he, hek, _⟩ := (hf n tm.val).1 i1
    exact ⟨e, he, hek⟩
end Go.Proofs.YtjdoflfdlhpbmaaGreat

namespace Go.Proofs.YtjdoflfdlhpbmaaGreat
open Go.RowKit Go.Maps Go.Lib

/-- What has been collected of a map when these have been seen. -/
def Col (f : Int → Option T) (E : Array MapEntry) (seen : Array Nat) (lo : List Bd) : Prop :=
  (lo.map Bd.v).Nodup ∧ (∀ y ∈ lo, f y.v = some y.t.erase ∧ y.t.erase ≠ varT y.v ∧ ∃ e ∈ E.toList, seen.contains e.born = true ∧ e.key = kI64 y.v) ∧
  ∀ e ∈ E.toList, seen.contains e.born = true → ∀ n t, e.key = kI64 n → f n = some t → t ≠ varT n → ∃ y ∈ lo, y.v = n

/-- What a list holds once, it holds in one place. -/
theorem one_of {α β : Type} (g : α → β) : ∀ {l : List α}, (l.map g).Nodup → ∀ {e e' : α}, e ∈ l → e' ∈ l → g e = g e' → e = e'
  | [], _, _, _, he, _, _ => nomatch he
  | x :: xs, hn, e, e', he, he', h => by
    rw [List.map_cons, List.nodup_cons] at hn
    rcases List.mem_cons.1 he with h1 | h1
    · rcases List.mem_cons.1 he' with h2 | h2
      · rw [h1, h2]
      · exact absurd (List.mem_map.2 ⟨e', h2, h.symm.trans (by rw [h1])⟩) hn.1
    · rcases List.mem_cons.1 he' with h2 | h2
      · exact absurd (List.mem_map.2 ⟨e, h1, h.trans (by rw [h2])⟩) hn.1
      · exact one_of g hn.2 h1 h2 h

section
variable {f : Int → Option T} {E : Array MapEntry} {seen : Array Nat} {lo : List Bd}
theorem seen_push (seen : Array Nat) (a x : Nat) : (seen.push a).contains x = true ↔ seen.contains x = true ∨ x = a := by
  rw [Array.contains_iff_mem, Array.mem_push, Array.contains_iff_mem]
theorem Col.start : Col f E #[] [] := ⟨List.nodup_nil, (fun y hy => nomatch hy), fun e _ h => by simp at h⟩
theorem Col.snoc (h : Col f E seen lo) (hbn : (E.toList.map (·.born)).Nodup) (hk : (E.toList.map (·.key)).Nodup) {e : MapEntry} {n : Int} {tm : Tm} (he : e ∈ E.toList) (hs : seen.contains e.born = false) (hkey : e.key = kI64 n) (hv : f n = some tm.erase) (hne : tm.erase ≠ varT n) : Col f E (seen.push e.born) (lo ++ [⟨n, tm⟩]) := by
  refine ⟨?_, fun y hy => ?_, fun e' he' hs' n' t' hk' hf' ht' => ?_⟩
  · rw [List.map_append, List.nodup_append]
    refine ⟨h.1, by simp, ?_⟩
    intro a ha d hd
    obtain ⟨y, hy, rfl⟩ := List.mem_map.1 ha
    simp only [List.map_cons, List.map_nil, List.mem_singleton] at hd
    subst hd
    intro hyn
    obtain ⟨_, _, e', h3, h4, h5⟩ := h.2.1 y hy
    have := one_of (·.key) hk h3 he (by rw [h5, hkey, hyn])
    subst this
    rw [hs] at h4
    cases h4
  · rcases List.mem_append.1 hy with hy | hy
    · obtain ⟨h1, h2, e', h3, h4, h5⟩ := h.2.1 y hy
      exact ⟨h1, h2, e', h3, (seen_push _ _ _).2 (.inl h4), h5⟩
    · rw [List.mem_singleton] at hy
      subst hy
      exact ⟨hv, hne, e, he, (seen_push _ _ _).2 (.inr rfl), hkey⟩
  · rcases (seen_push _ _ _).1 hs' with hs' | hs'
    · obtain ⟨y, hy, hyn⟩ := h.2.2 e' he' hs' n' t' hk' hf' ht'
      exact ⟨y, List.mem_append_left _ hy, hyn⟩
    · have := one_of (·.born) hbn he' he hs'
      subst this
      have := kI64_inj (hk'.symm.trans hkey)
      subst this
      exact ⟨⟨n', tm⟩, List.mem_append_right _ (List.mem_singleton.2 rfl), rfl⟩
/-- When all have been seen, all that is bound to something else has been collected. -/
theorem Col.all (h : Col f E seen lo) (hall : ∀ e ∈ E.toList, seen.contains e.born = true) (hin : ∀ n t, f n = some t → ∃ e ∈ E.toList, e.key = kI64 n) (n : Int) (t : T) : (∃ y ∈ lo, y.v = n ∧ y.t.erase = t) ↔ (f n = some t ∧ t ≠ varT n) := by
  constructor
  · rintro ⟨y, hy, rfl, rfl⟩
    exact ⟨(h.2.1 y hy).1, (h.2.1 y hy).2.1⟩
  · rintro ⟨h1, h2⟩
    obtain ⟨e, he, hk⟩ := hin n t h1
    obtain ⟨y, hy, hyn⟩ := h.2.2 e he (hall e he) n t hk h1 h2
    refine ⟨y, hy, hyn, ?_⟩
    have := (h.2.1 y hy).1
    rw [hyn, h1] at this
    exact (Option.some.inj this).symm
theorem Col.len (h : Col f E seen lo) (hr : ∀ n, f n ≠ none → 0 ≤ n ∧ n ≤ 1099511627776) : lo.length ≤ 1099511627777 := by
  have := nodup_le 1099511627777 (lo.map Bd.v) h.1 fun x hx => by
    obtain ⟨y, hy, rfl⟩ := List.mem_map.1 hx
    have := hr y.v (by rw [(h.2.1 y hy).1]; simp)
    exact ⟨this.1, by omega⟩
  simpa using this
end
end Go.Proofs.YtjdoflfdlhpbmaaGreat

namespace Go.Proofs.YtjdoflfdlhpbmaaGreat
open Go.RowKit

theorem formed_cases2 {t : T} (h : t.formed = true) : (∃ n, t = .mk 1 n [] [] ∧ 0 ≤ n ∧ n ≤ 1099511627776) ∨ (∃ n, t = .mk 2 n [] []) ∨ (∃ s, t = .mk 3 0 s [] ∧ s.length ≤ 100) ∨
    (∃ s l, t = .mk 4 0 s l ∧ s.length ≤ 100 ∧ 1 ≤ l.length ∧ l.length ≤ 50 ∧ T.formedL l = true) := by
  obtain ⟨k, n, s, l⟩ := t
  rw [T.formed] at h
  by_cases h1 : k = 1
  · subst h1
    simp at h
    exact .inl ⟨n, by rw [h.1.2, h.2], h.1.1.1, h.1.1.2⟩
  by_cases h2 : k = 2
  · subst h2
    simp at h
    exact .inr (.inl ⟨n, by rw [h.1, h.2]⟩)
  by_cases h3 : k = 3
  · subst h3
    simp at h
    exact .inr (.inr (.inl ⟨s, by rw [h.1.1, h.2], h.1.2⟩))
  by_cases h4 : k = 4
  · subst h4
    simp at h
    exact .inr (.inr (.inr ⟨s, l, by rw [h.1.1.1.1], h.1.1.1.2, h.1.1.2, h.1.2, h.2⟩))
  · simp [h1, h2, h3, h4] at h


/-- What a substitution makes of a variable. -/
def lookupT : List Bd → Int → T
  | [], n => varT n
  | x :: xs, n => if x.v = n then x.t.erase else lookupT xs n

theorem lookupT_drop (l : List Bd) (n : Int) (k : Nat) (hk : k < l.length) (h : l[k].v ≠ n) : lookupT (l.drop k) n = lookupT (l.drop (k + 1)) n := by
  rw [List.drop_eq_getElem_cons hk, lookupT, if_neg h]
theorem lookupT_here (l : List Bd) (n : Int) (k : Nat) (hk : k < l.length) (h : l[k].v = n) : lookupT (l.drop k) n = l[k].t.erase := by
  rw [List.drop_eq_getElem_cons hk, lookupT, if_pos h]

def RetFind (S : Nat → Prop) (t : T) (w : World) (e : Ending) (w' : World) : Prop :=
  ∃ (b : Tm) (x : Bool), b.In w' ∧ b.erase = t ∧ e = .returned (.tuple #[b.val, .bool x]) ∧ Gr w w' ∧ b.On S

set_option maxHeartbeats 2000000 in
set_option maxRecDepth 100000 in
theorem rfind_calls (S : Nat → Prop) (p : Option Addr) (c : Nat) (l : List Bd) (n : Int) (w : World) (hx : (Bds.mk p c l).In w) (hn : In64 n) (hS : ∀ b, S b → b < w.heap.size) (hO : ∀ y ∈ l, y.t.On S) :
    Calls Tryz.prog 76 #[.slice p l.length c, .int .i64 n] w (RetFind (fun b => S b ∨ w.heap.size ≤ b) (lookupT l n) w) := by
  have HX := Lib.hid hx
  have Hn := Lib.hid hn
  have HS := Lib.hid hS
  have HO := Lib.hid hO
  obtain ⟨hlc, ⟨hl64, hc⟩, _, _⟩ := hx
  simp only at hlc hl64 hc
  obtain ⟨hn1, hn2⟩ := hn
  generalize hr : lookupT l n = r
  have Hr := Lib.hid hr
  clear hr hS hO
  go_enter Tryz.func76, Tryz.ntmps76
  go_wp2_with fail
  go_loop [6] (fun i => ∃ k : Nat, k ≤ l.length ∧ i = .int .i64 k ∧ Hid (lookupT (l.drop k) n = r)) (fun i => l.length - (intOf i).toNat)
  case atStart => exact ⟨0, Nat.zero_le _, rfl, Hr.out⟩
  case round =>
    obtain ⟨k, hk, rfl, hpre⟩ := hrel
    by_cases hlt : k < l.length
    · obtain ⟨b, o, rfl⟩ := HX.out.ptr (by omega)
      obtain ⟨⟨c0, c1, c2, c3, c4⟩, hti, ⟨hv1, hv2⟩, hbl⟩ := HX.out.elem k hlt
      have Hti := Lib.hid hti
      have HyO := Lib.hid (HO.out _ (List.getElem_mem hlt))
      by_cases hv : l[k].v = n
      · have Hh : Hid (l[k].t.erase = r) := (lookupT_here l n k hlt hv).symm.trans hpre.out
        clear hti
        generalize hye : l[k] = y at *
        obtain ⟨yv, yt⟩ := y
        simp only at *
        have hvb : (yv == n) = true := by simp [hv]
        clear hv
        go_wp2_with fail
        refine bodyPost_ret (v := .tuple #[yt.val, .bool true]) (by simp (maxDischargeDepth := 9) [results, Tryz.results76, go_sem, Tm.val]) rfl ⟨yt, true, Tm.In_below (by go_grown) Hti.out, Hh.out, rfl, by go_grown, HyO.out.mono fun b hb => .inl hb⟩
      · have Hh : Hid (lookupT (l.drop (k + 1)) n = r) := (lookupT_drop l n k hlt hv).symm.trans hpre.out
        have hvb : (l[k].v == n) = false := beq_eq_false_iff_ne.2 hv
        clear hti hv
        generalize hye : l[k] = y at *
        go_wp2_with fail
        go_round
        case rel => exact ⟨k + 1, by omega, by go_num, Hh.out⟩
        case measure => simp [intOf]; omega
    · obtain rfl : k = l.length := by omega
      have Hh : Hid (varT n = r) := by
        show _ = _
        rw [← hpre.out, List.drop_length, lookupT]
      go_wp2_with fail
      refine (rV_calls n _ Hn.out).mono ?_
      rintro e w1 ⟨rfl, hb1⟩
      obtain ⟨⟨y0, y1, y2, y3⟩, ⟨f0, f1, f2, f3⟩, hlt1⟩ := (Blk4.gr (Blk4.new _ _ _ _ _) hb1).parts
      have g1 : Gr w w1 := below_step hb1 (by go_grown)
      clear hb1
      go_wp2_with fail
      refine bodyPost_ret (v := .tuple #[(varTm n).val, .bool false]) (by simp (maxDischargeDepth := 9) [results, Tryz.results76, go_sem, varTm, Tm.val, Tm.k, Tm.n, Tm.s, Tm.p, Tm.c, Tm.l, y0, y1, y2, y3]) rfl ⟨varTm n, false, varTm_in Hn.out _, by rw [varTm_erase, Hh.out], rfl, by go_grown, varTm_on n⟩

def applyOf (t : Tm) : Prop := ∀ (S : Nat → Prop) (p : Option Addr) (c : Nat) (l : List Bd) (w : World), t.In w → t.erase.formed = true → (Bds.mk p c l).In w → (∀ b, S b → b < w.heap.size) → (∀ y ∈ l, y.t.On S) →
  Calls Tryz.prog 59 #[t.val, .slice p l.length c] w (RetTm (fun b => S b ∨ w.heap.size ≤ b) (T.map (lookupT l) t.erase) w)

set_option maxHeartbeats 2000000 in
set_option maxRecDepth 100000 in
theorem apply_var (n : Int) (s : ByteArray) (p' : Option Addr) (c' : Nat) (l' : List Tm) : applyOf (.mk 1 n s p' c' l') := by
  intro S p c l w h hfm hx hS hO
  have HX := Lib.hid hx
  have HS := Lib.hid hS
  have HO := Lib.hid hO
  rw [Tm.In] at h
  obtain ⟨hk0, hn, hs, hlc, hc, hp, hIn⟩ := h
  have Hn := Lib.hid hn
  obtain ⟨hxl, ⟨hl64, hxc⟩, _, _⟩ := hx
  simp only at hxl hl64 hxc
  clear hp hIn hfm hS hO hn
  rw [Tm.erase, T.map, if_pos rfl]
  simp only [Tm.val, Tm.k, Tm.n, Tm.s, Tm.p, Tm.c, Tm.l]
  go_enter Tryz.func59, Tryz.ntmps59
  go_wp2_with fail
  refine (rfind_calls S p c l n _ (HX.out.mono (by go_grown)) Hn.out (fun b hb => by have := HS.out b hb; simp; omega) HO.out).mono ?_
  rintro e w1 ⟨bm, x, hin, he, rfl, hb1, hon⟩
  obtain ⟨⟨y0, y1, y2, y3⟩, ⟨f0, f1, f2, f3⟩, hlt⟩ := (Blk4.gr (Blk4.new _ _ _ _ _) hb1).parts
  simp only [World.size_alloc] at y0 y1 y2 y3 f0 f1 f2 f3 hlt hon
  have g1 : Gr w w1 := below_step hb1 (by go_grown)
  have Hin := Lib.hid hin
  have Hon := Lib.hid hon
  have He := Lib.hid he
  clear hin hon he hb1
  simp only [Tm.val]
  go_wp2_with fail
  refine bodyPost_ret (v := bm.val) (by simp (maxDischargeDepth := 9) [results, Tryz.results59, go_sem, Tm.val, hlt, y0, y1, y2, y3]) rfl ⟨bm, ?_, He.out, rfl, by go_grown, Hon.out.mono fun b hb => hb.imp id fun h => by omega⟩
  exact in_after' Hin.out Hon.out fun b h1 h2 o => by
    have h3 : b ≠ w.heap.size + 1 := by
      rcases h1 with h1 | h1
      · have := HS.out b h1; omega
      · omega
    rw [World.cell?_alloc_past _ _ _ (by simpa using h2), cell_set_ne h3, cell_set_ne h3, cell_set_ne h3, cell_set_ne h3]

set_option maxHeartbeats 4000000 in
set_option maxRecDepth 100000 in
theorem apply_comp (k0 n : Int) (s : ByteArray) (p' : Option Addr) (c' : Nat) (l' : List Tm) (hk1 : k0 ≠ 1) (hl50 : l'.length ≤ 50) (hfl : ∀ x ∈ l', x.erase.formed = true) (ih : ∀ x ∈ l', applyOf x)
    (S : Nat → Prop) (p : Option Addr) (c : Nat) (l : List Bd) (w : World) (h : (Tm.mk k0 n s p' c' l').In w) (hx : (Bds.mk p c l).In w) (hS : ∀ b, S b → b < w.heap.size) (hO : ∀ y ∈ l, y.t.On S) :
    Calls Tryz.prog 59 #[(Tm.mk k0 n s p' c' l').val, .slice p l.length c] w (RetTm (fun b => S b ∨ w.heap.size ≤ b) (.mk k0 n s.toList (T.mapL (lookupT l) (Tm.eraseL l'))) w) := by
  have HX := Lib.hid hx
  have HSl := Lib.hid h.sl
  have HS := Lib.hid hS
  have HO := Lib.hid hO
  rw [Tm.In] at h
  obtain ⟨hk0, hn, hs, hlc, hc, hp, hIn⟩ := h
  obtain ⟨hxl, ⟨hl64, hxc⟩, _, _⟩ := hx
  simp only at hxl hl64 hxc
  have Hih := Lib.hid ih
  have Hfl := Lib.hid hfl
  have Hs := Lib.hid hs
  have Hn := Lib.hid hn
  have Hk := Lib.hid hk0
  have hk1' : (k0 == 1) = false := beq_eq_false_iff_ne.2 hk1
  clear hp hIn ih hfl hS hO hk1
  simp only [Tm.val, Tm.k, Tm.n, Tm.s, Tm.p, Tm.c, Tm.l]
  go_enter Tryz.func59, Tryz.ntmps59
  go_wp2_with fail
  go_loopw [7, 8] (fun v i wr => ∃ k : Nat, k ≤ l'.length ∧ i = .int .i64 k ∧ Hid (∃ lm : List Tm, lm.length = k ∧ Tm.eraseL lm = T.mapL (lookupT l) (Tm.eraseL (l'.take k)) ∧ Built wr (w.heap.size + 1 + 1) S v lm) ∧
      Hid (Blk4 wr w.heap.size (.int .i64 k0) (.int .i64 n) (.string s) (.slice p' l'.length c') ∧ Blk4 wr (w.heap.size + 1) (.int .i64 0) (.int .i64 0) (.string ⟨#[]⟩) (.slice none 0 0)) ∧ Gr w wr ∧ w.heap.size + 1 + 1 ≤ wr.heap.size)
    (fun _ i _ => l'.length - (intOf i).toNat)
  case atStart => exact ⟨0, Nat.zero_le _, rfl, ⟨[], rfl, by simp [T.mapL, Tm.eraseL], Built.nil _ _ _⟩, ⟨Blk4.old (Blk4.new w _ _ _ _) _, by have := Blk4.new (w.alloc (.cells #[.int .i64 k0, .int .i64 n, .string s, .slice p' l'.length c'] 24)) (.int .i64 0) (.int .i64 0) (.string ⟨#[]⟩) (.slice none 0 0); simpa only [World.size_alloc] using this⟩, by go_grown, by simp⟩
  case round =>
    obtain ⟨k, hk, rfl, hlm, HBR, gr, hws⟩ := hrel
    obtain ⟨HB, HR⟩ := HBR.out
    replace HB := Lib.hid HB
    replace HR := Lib.hid HR
    obtain ⟨⟨b0, b1, b2, b3⟩, ⟨ff0, ff1, ff2, ff3⟩, hbs1⟩ := HB.out.parts
    by_cases hlt : k < l'.length
    · obtain ⟨b, o, rfl⟩ := HSl.out.ptr (by omega)
      obtain ⟨⟨c0, c1, c2, c3⟩, hxi, _⟩ := (HSl.out.mono gr).elem k hlt
      have Hx := Lib.hid hxi
      have hmem : l'[k] ∈ l' := List.getElem_mem hlt
      have Hix := Lib.hid (Hih.out _ hmem)
      have Hfx := Lib.hid (Hfl.out _ hmem)
      have Htk : Hid (T.mapL (lookupT l) (Tm.eraseL (l'.take (k + 1))) = T.mapL (lookupT l) (Tm.eraseL (l'.take k)) ++ [T.map (lookupT l) l'[k].erase]) := T.mapL_erase (lookupT l) l' k hlt
      clear hxi hmem
      generalize hxe : l'[k] = x at *
      go_wp2_with fail
      clear b0 b1 b2 b3 ff0 ff1 ff2 ff3
      refine (Hix.out S p c l _ (Tm.In_below (by go_grown) Hx.out) Hfx.out (HX.out.mono (by go_grown)) (fun b hb => Nat.lt_of_lt_of_le (HS.out b hb) gr.size) HO.out).mono ?_
      rintro e w2 ⟨xm, hin, he, rfl, hb2, hon⟩
      obtain ⟨lm, hl0, he0, hF⟩ := hlm.out
      have HF2 := Lib.hid (hF.gr hb2)
      have Hvl := Lib.hid hF.1.lt
      have hs2 := hb2.size
      have HB2 := Lib.hid (And.intro (HB.out.gr hb2) (HR.out.gr hb2))
      have Hl0 := Lib.hid hl0
      have He0 := Lib.hid he0
      have Hin := Lib.hid hin
      have Hon := Lib.hid hon
      have He := Lib.hid he
      have g2 : Gr w w2 := gr.trans hb2
      clear hF hl0 he0 hin hon he hb2 hlm
      obtain ⟨k', n', s', p2, c2, l2⟩ := xm
      simp only [Tm.val, Tm.k, Tm.n, Tm.s, Tm.p, Tm.c, Tm.l]
      go_wp2_with
        (at_builtin
         refine wpList_append_term rfl _ _ rfl rfl (w.heap.size + 1 + 1) S _ lm (.mk k' n' s' p2 c2 l2) w2.heap.size 1 rfl rfl (HF2.out.gr (by go_grown)) (by simp; omega) (Tm.In_below (by go_grown) Hin.out) (Hon.out.mono fun b hb => sep_own HS.out (by omega) Hvl.out hb hws) (by have := Hl0.out; omega) (by show _ = some (Value.int .i64 k'); go_cell) (by show _ = some (Value.int .i64 n'); go_cell) (by show _ = some (Value.string s'); go_cell) (by show _ = some (Value.slice p2 l2.length c2); go_cell) ?_
         intro v' w4 hbt hbel _)
      go_roundw
      case rel =>
        have hg4 : Below (w.heap.size + 1 + 1) w2 w4 := Below.trans (show Below (w.heap.size + 1 + 1) w2 _ by go_grown) hbel
        exact ⟨k + 1, by omega, by go_num, ⟨_, by rw [List.length_append, Hl0.out]; rfl, by rw [eraseL_append, He0.out, Htk.out, ← He.out]; simp [Tm.eraseL], hbt⟩, ⟨HB2.out.1.below hg4 (by omega), HB2.out.2.below hg4 (by omega)⟩, Below.trans g2 (hg4.mono (by omega)), by have := hg4.size; omega⟩
      case measure => simp [intOf]; omega
    · obtain rfl : k = l'.length := by omega
      obtain ⟨lm, hl0, he0, hF⟩ := hlm.out
      obtain ⟨⟨y0, y1, y2, y3⟩, ⟨f0, f1, f2, f3⟩, hbs2⟩ := HR.out.parts
      obtain ⟨pv, cv, rfl, hcv1, hcv2⟩ := hF.form
      have HF := Lib.hid hF
      have Hl0 := Lib.hid hl0
      have He0 := Lib.hid he0
      clear hF hl0 he0 hlm
      go_wp2_with fail
      have hsl := HF.out.sl (by have := Hl0.out; omega)
      refine bodyPost_ret (v := (Tm.mk k0 n s pv cv lm).val) (by simp [results, Tryz.results59, go_sem, Tm.val, Tm.k, Tm.n, Tm.s, Tm.p, Tm.c, Tm.l, y0, y1, y2, y3]) rfl ⟨_, ?_, ?_, rfl, by go_grown, ?_⟩
      · have hin : (Tm.mk k0 n s pv cv lm).In wr := by
          rw [Tm.In]
          exact ⟨Hk.out, Hn.out, Hs.out, hsl.2.1.1, hsl.2.1.2.1, hsl.2.1.2.2.1, hsl.2.1.2.2.2⟩
        have hon : (Tm.mk k0 n s pv cv lm).On (fun b => S b ∨ w.heap.size + 1 + 1 ≤ b) := by rw [Tm.On]; exact hsl.2.2
        exact in_after' hin hon fun b h1 h2 o => by
          have : b ≠ w.heap.size + 1 ∧ b ≠ w.heap.size := by
            rcases h1 with h1 | h1
            · have := HS.out b h1; omega
            · omega
          rw [cell_set_ne this.1, cell_set_ne this.1, cell_set_ne this.1, cell_set_ne this.1, cell_set_ne this.2]
      · rw [Tm.erase, He0.out, List.take_length]
      · rw [Tm.On]
        exact ⟨hsl.2.2.1.imp id fun ⟨b, o, h1, h2⟩ => ⟨b, o, h1, h2.imp id fun h => by omega⟩, hsl.2.2.2.mono fun b hb => hb.imp id fun h => by omega⟩

theorem apply_any (N : Nat) : ∀ (t : Tm), SizeOf.sizeOf t ≤ N → applyOf t := by
  induction N with
  | zero => intro t h; cases t; simp at h
  | succ N ih =>
    intro t hN
    obtain ⟨k0, n, s, p', c', l'⟩ := t
    by_cases hk : k0 = 1
    · subst hk; exact apply_var n s p' c' l'
    intro S p c l w h hfm hx hS hO
    have hih : ∀ x ∈ l', applyOf x := fun x hx => ih x (by have := Tm.sizeOf_mem hx k0 n s p' c'; omega)
    by_cases hk4 : k0 = 4
    · subst hk4
      obtain ⟨_, _, _, h50, hfl⟩ := formed_elem rfl hfm
      rw [Tm.erase, T.map, if_neg (by decide), if_pos rfl]
      exact apply_comp 4 n s p' c' l' (by decide) h50 hfl hih S p c l w h hx hS hO
    · have hl : l' = [] := by
        have h9 := Tm.eraseL_length l'
        rcases formed_cases2 hfm with ⟨m, he, _⟩ | ⟨m, he⟩ | ⟨s2, he, _⟩ | ⟨s2, l2, he, _⟩ <;> rw [Tm.erase] at he <;> injection he with e1 e2 e3 e4
        · rw [e4] at h9; exact List.eq_nil_of_length_eq_zero h9.symm
        · rw [e4] at h9; exact List.eq_nil_of_length_eq_zero h9.symm
        · rw [e4] at h9; exact List.eq_nil_of_length_eq_zero h9.symm
        · exact absurd e1 hk4
      subst hl
      have := apply_comp k0 n s p' c' [] hk (by simp) (by simp) hih S p c l w h hx hS hO
      rw [Tm.erase, T.map, if_neg hk, if_neg hk4]
      simpa [Tm.eraseL, T.mapL] using this

/-- The same: what is handed back lies on blocks of the binds, or on new ones. -/
theorem rapplyOn_calls {S : Nat → Prop} {t : Tm} {x : Bds} {w : World} (h : t.In w) (hf : t.erase.formed = true) (hx : x.In w) (hn : ∀ b, w.heap.size ≤ b → S b) (ox : ∀ y ∈ x.l, y.t.On S) : Calls Tryz.prog 59 #[t.val, x.val] w (RetTm S (T.map (lookupT x.l) t.erase) w) :=
  (apply_any _ t (Nat.le_refl _) (fun b => S b ∧ b < w.heap.size) x.p x.c x.l w h hf hx (fun _ h => h.2) (fun y hy => (ox y hy).and (Tm.In.on (hx.2.2.2 y hy).1))).mono fun _ _ ⟨b, h1, h2, h3, h4, h5⟩ => ⟨b, h1, h2, h3, h4, h5.mono fun b hb => hb.elim (fun h => h.1) (hn b)⟩

end Go.Proofs.YtjdoflfdlhpbmaaGreat

namespace Go.Proofs.YtjdoflfdlhpbmaaGreat
open Go.RowKit Go.Maps Go.Lib
open Go.ChangeMaps (setBlock)

/-- The slice v of the call's own (blocks from B on) holds the binds l. -/
def BuiltBds (w : World) (B : Nat) (v : Value) (l : List Bd) : Prop := w.ownsRow B 96 5 v l.length (l.flatMap Bd.cells)

/-- append of one bind. -/
theorem wpList_append_bd {P : Program} {w : World} {ops : Array Oper} {rest : List Oper} {o : Oper} {a : Act} {Q : Exit → Act → World → Prop} (hgd : o.guard = none) (s y : Operand)
    (ho : o.op = .call { callee := .builtin .append, args := #[s, y], argTypes := #[48, 48] }) (hP : P = Tryz.prog)
    (B : Nat) (v : Value) (l : List Bd) (x : Bd) (b c : Nat) (hs : a.eval s = v) (hy : a.eval y = .slice (some ⟨b, 0, none⟩) 1 c) (h : BuiltBds w B v l) (hB : B ≤ w.heap.size) (hl : (l.length + 1) * 64 ≤ 140737488351232)
    (hX : BlkT w b 96 (bdCells x))
    (hK : ∀ v' w', BuiltBds w' B v' (l ++ [x]) → w.grownBy w' v.ownBlock → (v'.ownBlock = v.ownBlock ∨ v'.ownBlock = some w.heap.size) → wpList P ops Q rest (a.put o.dst v') w') : wpList P ops Q (o :: rest) a w := by
  subst hP
  refine wpList_append_one hgd s y 48 96 ho Tryz.underlying48 infoBd rfl (by decide) B v l.length (l.flatMap Bd.cells) b c x.cells hs hy h hB rfl ?_ ?_ (by simp only [maxLen]; omega) (by omega) ?_
  · intro j u hu
    match j, hu with
    | 0, hu => cases hu; exact hX.cell 0 rfl
    | 1, hu => cases hu; exact hX.cell 1 rfl
    | 2, hu => cases hu; exact hX.cell 2 rfl
    | 3, hu => cases hu; exact hX.cell 3 rfl
    | 4, hu => cases hu; exact hX.cell 4 rfl
    | j + 5, hu => simp [Bd.cells, Tm.cells] at hu
  · intro u hu
    simp only [Bd.cells, Tm.cells, List.mem_cons, List.mem_nil_iff, or_false] at hu
    rcases hu with rfl | rfl | rfl | rfl | rfl <;> rfl
  · intro v' w' h2 h3 h4
    refine hK v' w' ?_ h3 h4
    show w'.ownsRow B _ 5 v' _ _
    rw [List.length_append, List.flatMap_append]
    simpa using h2

theorem BuiltBds.kp {C : Nat → Prop} {w w' : World} {B : Nat} {v : Value} {l : List Bd} (h : BuiltBds w B v l) (hK : Kp C w w') (hC : ∀ b, B ≤ b → ¬ C b) : BuiltBds w' B v l := by
  refine ⟨h.1, h.2.imp id ?_⟩
  rintro ⟨g, cap, cur, rfl, h2, h3, h4⟩
  exact ⟨g, cap, cur, rfl, h2, by rw [hK.block g (Array.getElem?_eq_some_iff.1 h3).1 (hC g h2)]; exact h3, h4⟩
theorem BuiltBds.ge {w : World} {B : Nat} {v : Value} {l : List Bd} (h : BuiltBds w B v l) {b : Nat} (hb : v.ownBlock = some b) : B ≤ b := by
  rcases h.2 with ⟨rfl, _⟩ | ⟨g, cap, cur, rfl, h2, _⟩
  · cases hb
  · cases hb; exact h2
theorem BuiltBds.gr {w w' : World} {B : Nat} {v : Value} {l : List Bd} (h : BuiltBds w B v l) (hg : Gr w w') : BuiltBds w' B v l := ownsRow_gr h hg
end Go.Proofs.YtjdoflfdlhpbmaaGreat

namespace Go.Proofs.YtjdoflfdlhpbmaaGreat
open Go.RowKit Go.Lib

/-- What has been made is a slice of binds. -/
theorem BuiltBds.bds {w : World} {B : Nat} {v : Value} {l : List Bd} (h : BuiltBds w B v l) (hl : l.length * 64 ≤ 140737488351232) (hs : ∀ y ∈ l, y.t.In w ∧ In64 y.v) :
    ∃ p c, v = .slice p l.length c ∧ (Bds.mk p c l).In w := by
  rcases h.2 with ⟨rfl, h1⟩ | ⟨g, cap, cur, h0, hbg, hg, hnc, hcm, hcs, htake⟩
  · have hn : l = [] := List.eq_nil_of_length_eq_zero h1
    subst hn
    exact ⟨none, 0, rfl, Nat.le_refl _, ⟨by simp, by simp⟩, .inl rfl, fun y hy => by simp at hy⟩
  · simp only [maxLen] at hcm
    refine ⟨some ⟨g, 0, none⟩, cap, h0, hnc, ⟨hl, by simp only; omega⟩, .inr ⟨g, 0, rfl, ?_⟩, hs⟩
    intro i x hx
    have hi : i < l.length := (List.getElem?_eq_some_iff.1 hx).1
    subst h0
    have hat : ∀ j, j < 5 → w.cell? ⟨g, 0 + i * 5 + j, none⟩ = x.cells[j]? := by
      intro j hj
      rw [Nat.zero_add, World.ownsRow.cellAt h _ (by omega)]
      exact bdcells_at hx j hj
    exact ⟨hat 0 (by omega), hat 1 (by omega), hat 2 (by omega), hat 3 (by omega), hat 4 (by omega)⟩

theorem asc_of : ∀ (l : List Bd) (last : Int), (∀ y ∈ l, last < y.v ∧ y.v ≤ 1099511627776) → l.Pairwise (fun x y => x.v ≤ y.v) → (l.map Bd.v).Nodup → ascB last l = true
  | [], _, _, _, _ => rfl
  | x :: xs, last, h1, h2, h3 => by
    rw [List.pairwise_cons] at h2
    rw [List.map_cons, List.nodup_cons] at h3
    have hx := h1 x (by simp)
    rw [ascB, decide_eq_true hx.1, decide_eq_true hx.2, Bool.true_and, Bool.true_and]
    refine asc_of xs x.v (fun y hy => ⟨?_, (h1 y (by simp [hy])).2⟩) h2.2 h3.2
    have h4 := h2.1 y hy
    have h5 : x.v ≠ y.v := fun e => h3.1 (List.mem_map.2 ⟨y, hy, e.symm⟩)
    omega

/-- The substitution that a map is. -/
def IsBinds (f : Int → Option T) (l : List Bd) : Prop :=
  ascB (-1) l = true ∧ (∀ n t, (∃ y ∈ l, y.v = n ∧ y.t.erase = t) ↔ (f n = some t ∧ t ≠ varT n)) ∧ ∀ y ∈ l, y.t.erase.formed = true ∧ 0 ≤ y.v ∧ y.v ≤ 1099511627776
end Go.Proofs.YtjdoflfdlhpbmaaGreat
