/-
  Maps that are ranged over: when each entry was laid, how many there are; what is met in a range.
  term.Binds: the range over the map.
  term.Binds: what a range over the map has collected.
  Slices of binds that a call makes by append; an iterator's step turns one block.
  The laying of slices.SortFunc at binds. Printed by gen_ddd.py.
  slices.SortFunc at binds, by the variable.
  What term.Binds hands back.
-/
import Derived.Test.YtmecghjnghhhkaaUO11
import Derived.Maps.RangeRun
import Derived.Test.YtmecghjnghhhkaaUO12
import Derived.Test.YtmecghjnghhhkaaUO08
import Derived.Test.YtmecghjnghhhkaaUO03
import Derived.Test.YtmecghjnghhhkaaUO07
import Derived.Shelf.SlSortCmp.NoneTotal
namespace Go.Proofs.Ytmecghjnghhhkaa
open Go.RowKit Go.Maps

/-- Block b is a map all of whose keys are such; when each entry was laid. -/
def Stm {K : Type} (κ : K → Value) (w : World) (b : Nat) : Prop :=
  ∃ (E : Array MapEntry) (c : Nat), w.heap[b]? = some (.map E c) ∧ (∀ e ∈ E.toList, (∃ x, e.key = κ x) ∧ e.born < c) ∧ (E.toList.map (·.born)).Nodup

section
variable {K : Type} {k : TypeId} {κ : K → Value} {w w' : World} {b : Nat} {f : K → Option Value}
theorem Stm.kp {C : Nat → Prop} (h : Stm κ w b) (hg : Kp C w w') (hb : ¬ C b) : Stm κ w' b := by
  obtain ⟨E, c, h1, h2⟩ := h
  exact ⟨E, c, (hg.block b (Array.getElem?_eq_some_iff.1 h1).1 hb).trans h1, h2⟩
theorem Stm.gr (h : Stm κ w b) (hg : Gr w w') : Stm κ w' b := h.kp (C := fun _ => False) (Kp.of_gr hg) id
theorem Stm.made (κ : K → Value) (w : World) : Stm κ (w.alloc (.map #[] 0)) w.heap.size := ⟨#[], 0, heap_alloc_new _ _, (fun _ h => by cases h), List.nodup_nil⟩

set_option maxRecDepth 100000 in
/-- A store keeps both. -/
theorem GMap.updateS (h : GMap k κ w b f) (hs : Stm κ w b) (KK : Keyed Try.prog k) {t e : TypeId} (ht : Try.prog.underlying t = some (.map k e)) {x : K} {l : Lit} (hx : keyOf Try.prog k (κ x) = some l) (hinj : ∀ y, κ y = κ x → y = x) (v : Value)
    {g : K → Option Value} (hg1 : g x = some v) (hg2 : ∀ y, y ≠ x → g y = f y) :
    ∃ w', (Instr.mapUpdate t (.map (some b)) (κ x) v).run Try.prog w = .ok () w' ∧ GMap k κ w' b g ∧ w.grownBy w' (some b) ∧ Stm κ w' b := by
  obtain ⟨w1, hr1, hg, hgb⟩ := h.update KK ht hx hinj v hg1 hg2
  refine ⟨w1, hr1, hg, hgb, ?_⟩
  obtain ⟨E, c, hb, hk, hn, hf⟩ := h
  obtain ⟨E', c', hb', hst, hbn⟩ := hs
  rw [hb] at hb'
  cases hb'
  rcases KK.find w hx E.toList hk with ⟨h1, h2⟩ | ⟨j, e0, h1, h2, h3⟩
  · have hrun : (Instr.mapUpdate t (.map (some b)) (κ x) v).run Try.prog w = .ok () (ChangeMaps.setBlock w b (.map (E.push ⟨κ x, v, c⟩) (c + 1))) := by
      simp [Instr.mapUpdate, run_underlying ht, MapKept.run_getObj_map hb, KK.check w false hx, h1, MapKept.run_setObj_map _ hb, Result.andThen, ChangeMaps.setBlock]
    rw [hr1] at hrun
    have hw := (Result.ok.inj hrun).2
    rw [hw]
    refine ⟨_, _, ChangeMaps.heap_setBlock_same hb _, fun e he => ?_, ?_⟩
    · rw [Array.toList_push, List.mem_append, List.mem_singleton] at he
      rcases he with he | rfl
      · exact ⟨(hst e he).1, by have := (hst e he).2; omega⟩
      · exact ⟨⟨x, rfl⟩, Nat.lt_succ_self _⟩
    · rw [Array.toList_push, List.map_append, List.nodup_append]
      refine ⟨hbn, by simp, ?_⟩
      intro a ha d hd
      obtain ⟨e, he, rfl⟩ := List.mem_map.1 ha
      simp only [List.map_cons, List.map_nil, List.mem_singleton] at hd
      subst hd
      exact Nat.ne_of_lt (hst e he).2
  · have hj : E[j]? = some e0 := by simpa using h2
    have hrun : (Instr.mapUpdate t (.map (some b)) (κ x) v).run Try.prog w = .ok () (ChangeMaps.setBlock w b (.map (E.modify j fun e => { e with key := κ x, val := v }) c)) := by
      simp [Instr.mapUpdate, run_underlying ht, MapKept.run_getObj_map hb, KK.check w false hx, h1, hj, h3, KK.stays w hx, MapKept.run_setObj_map _ hb, Result.andThen, ChangeMaps.setBlock]
    rw [hr1] at hrun
    have hw := (Result.ok.inj hrun).2
    rw [hw]
    have hM : (E.modify j fun e => { e with key := κ x, val := v }).toList = E.toList.modify j fun e => { e with key := κ x, val := v } := Array.toList_modify ..
    refine ⟨_, _, ChangeMaps.heap_setBlock_same hb _, fun e he => ?_, ?_⟩
    · rw [hM] at he
      obtain ⟨i, hi, hie⟩ := List.getElem_of_mem he
      rw [List.getElem_modify] at hie
      have hil : i < E.toList.length := by simpa using hi
      by_cases hji : j = i
      · rw [if_pos hji] at hie
        rw [← hie]
        exact ⟨⟨x, rfl⟩, (hst _ (List.getElem_mem hil)).2⟩
      · rw [if_neg hji] at hie
        rw [← hie]
        exact hst _ (List.getElem_mem hil)
    · rw [hM]
      have : (E.toList.modify j fun e => { e with key := κ x, val := v }).map (·.born) = E.toList.map (·.born) := by
        apply List.ext_getElem (by simp)
        intro i h1 h2
        simp only [List.getElem_map, List.getElem_modify]
        split <;> rfl
      rw [this]
      exact hbn
end

/-- A list of numbers below M, each once, is no longer than M. -/
theorem nodup_le : ∀ (M : Nat) (l : List Int), l.Nodup → (∀ x ∈ l, 0 ≤ x ∧ x < M) → l.length ≤ M
  | 0, l, _, h => by
    cases l with
    | nil => exact Nat.le_refl _
    | cons x xs => have := h x (by simp); omega
  | M + 1, l, hn, h => by
    by_cases hm : (M : Int) ∈ l
    · have h1 := nodup_le M (l.erase M) (hn.erase _) fun x hx => by
        have h2 := h x (List.mem_of_mem_erase hx)
        have h3 : x ≠ M := fun e => by subst e; exact (List.Nodup.not_mem_erase hn) hx
        omega
      rw [List.length_erase_of_mem hm] at h1
      omega
    · have h1 := nodup_le M l hn fun x hx => by
        have h2 := h x hx
        have h3 : x ≠ M := fun e => hm (e ▸ hx)
        omega
      omega
end Go.Proofs.Ytmecghjnghhhkaa

namespace Go.Proofs.Ytmecghjnghhhkaa
open Go.RowKit Go.Maps Go.Lib

def kI64 (n : Int) : Value := .int .i64 n
theorem kI64_inj {x y : Int} (h : kI64 y = kI64 x) : y = x := by simpa [kI64] using h

/-- A map from variables to terms that lie on S. -/
def TMap (S : Nat → Prop) (w : World) (b : Nat) (f : Int → Option T) : Prop :=
  (∃ g, GMap 2 kI64 w b g ∧ ∀ n, match f n with
    | none => g n = none
    | some t => ∃ tm : Tm, g n = some tm.val ∧ tm.In w ∧ tm.erase = t ∧ t.formed = true ∧ tm.On S) ∧ Stm kI64 w b ∧ ∀ n, f n ≠ none → 0 ≤ n ∧ n ≤ 1099511627776

theorem infoBd : (Try.prog.info? 114).map (fun i => (i.zero, i.size, i.bytes)) = some (some (.agg #[.int .i64 0, .int .i64 0, .int .i64 0, .string ⟨#[]⟩, .slice none 0 0]), 5, 64) := by kernel_rfl

theorem TMap.kp {S C : Nat → Prop} {w w' : World} {b : Nat} {f : Int → Option T} (h : TMap S w b f) (hk : Kp C w w') (hb : ¬ C b) (hS : ∀ x, S x → ¬ C x) : TMap S w' b f := by
  obtain ⟨⟨g, h1, h2⟩, h3, h4⟩ := h
  refine ⟨⟨g, h1.kp hk hb, fun n => ?_⟩, h3.kp hk hb, h4⟩
  have := h2 n
  cases hf : f n with
  | none => rw [hf] at this; exact this
  | some t =>
    rw [hf] at this
    obtain ⟨tm, i1, i2, i3, i4, i5⟩ := this
    exact ⟨tm, i1, in_after' i2 i5 fun x hx hl _ => World.cell?_of_block (hk.block x hl (hS x hx)), i3, i4, i5⟩

/-- What lies in a map: each entry's key and value. -/
theorem TMap.entries {S : Nat → Prop} {w : World} {b : Nat} {f : Int → Option T} (h : TMap S w b f) : ∃ (E : Array MapEntry) (c : Nat), w.heap[b]? = some (.map E c) ∧ (∀ e ∈ E.toList, e.born < c) ∧ (E.toList.map (·.born)).Nodup ∧ (E.toList.map (·.key)).Nodup ∧
    (∀ e ∈ E.toList, ∃ (n : Int) (tm : Tm), e.key = kI64 n ∧ e.val = tm.val ∧ f n = some tm.erase ∧ tm.In w ∧ tm.erase.formed = true ∧ tm.On S ∧ 0 ≤ n ∧ n ≤ 1099511627776) ∧
    ∀ n t, f n = some t → ∃ e ∈ E.toList, e.key = kI64 n := by
  obtain ⟨⟨g, ⟨E, c, hb, hk, hn, hf⟩, h2⟩, ⟨E', c', hb', hst, hbn⟩, h4⟩ := h
  rw [hb] at hb'
  cases hb'
  refine ⟨E, _, hb, fun e he => (hst e he).2, hbn, hn, fun e he => ?_, fun n t ht => ?_⟩
  · obtain ⟨n, hkey⟩ := (hst e he).1
    have hg : g n = some e.val := (hf n e.val).2 ⟨e, he, hkey, rfl⟩
    have h5 := h2 n
    cases hfn : f n with
    | none => rw [hfn] at h5; simp only at h5; rw [hg] at h5; cases h5
    | some t =>
      rw [hfn] at h5
      obtain ⟨tm, i1, i2, i3, i4, i5⟩ := h5
      rw [hg] at i1
      have h6 := h4 n (by rw [hfn]; simp)
      exact ⟨n, tm, hkey, Option.some.inj i1, by rw [hfn, i3], i2, by rw [i3]; exact i4, i5, h6.1, h6.2⟩
  · have h5 := h2 n
    rw [ht] at h5
    obtain ⟨tm, i1, _⟩ := h5
    obtain ⟨e, he, hek, _⟩ := (hf n tm.val).1 i1
    exact ⟨e, he, hek⟩
end Go.Proofs.Ytmecghjnghhhkaa

namespace Go.Proofs.Ytmecghjnghhhkaa
open Go.RowKit Go.Maps Go.Lib

/-- What has been collected of a map when these have been seen. -/
def Col (f : Int → Option T) (E : Array MapEntry) (seen : Array Nat) (lo : List Bd) : Prop :=
  (lo.map Bd.v).Nodup ∧ (∀ y ∈ lo, f y.v = some y.t.erase ∧ y.t.erase ≠ varT y.v ∧ ∃ e ∈ E.toList, seen.contains e.born = true ∧ e.key = kI64 y.v) ∧
  ∀ e ∈ E.toList, seen.contains e.born = true → ∀ n t, e.key = kI64 n → f n = some t → t ≠ varT n → ∃ y ∈ lo, y.v = n

/-- What a list holds once, it holds in one place. -/
theorem one_of {α β : Type} (g : α → β) : ∀ {l : List α}, (l.map g).Nodup → ∀ {e e' : α}, e ∈ l → e' ∈ l → g e = g e' → e = e'
  | [], _, _, _, he, _, _ => nomatch he
  | x :: xs, hn, e, e', he, he', h => by
    rw [List.map_cons, List.nodup_cons] at hn
    rcases List.mem_cons.1 he with h1 | h1
    · rcases List.mem_cons.1 he' with h2 | h2
      · rw [h1, h2]
      · exact absurd (List.mem_map.2 ⟨e', h2, h.symm.trans (by rw [h1])⟩) hn.1
    · rcases List.mem_cons.1 he' with h2 | h2
      · exact absurd (List.mem_map.2 ⟨e, h1, h.trans (by rw [h2])⟩) hn.1
      · exact one_of g hn.2 h1 h2 h

section
variable {f : Int → Option T} {E : Array MapEntry} {seen : Array Nat} {lo : List Bd}
theorem seen_push (seen : Array Nat) (a x : Nat) : (seen.push a).contains x = true ↔ seen.contains x = true ∨ x = a := by
  rw [Array.contains_iff_mem, Array.mem_push, Array.contains_iff_mem]
theorem Col.start : Col f E #[] [] := ⟨List.nodup_nil, (fun y hy => nomatch hy), fun e _ h => by simp at h⟩
theorem Col.skip (h : Col f E seen lo) (hbn : (E.toList.map (·.born)).Nodup) {e : MapEntry} {n : Int} (he : e ∈ E.toList) (hkey : e.key = kI64 n) (hv : f n = some (varT n)) : Col f E (seen.push e.born) lo := by
  refine ⟨h.1, fun y hy => ?_, fun e' he' hs n' t' hk' hf' ht' => ?_⟩
  · obtain ⟨h1, h2, e', h3, h4, h5⟩ := h.2.1 y hy
    exact ⟨h1, h2, e', h3, (seen_push _ _ _).2 (.inl h4), h5⟩
  · rcases (seen_push _ _ _).1 hs with hs | hs
    · exact h.2.2 e' he' hs n' t' hk' hf' ht'
    · have := one_of (·.born) hbn he' he hs
      subst this
      have := kI64_inj (hk'.symm.trans hkey)
      subst this
      rw [hv] at hf'
      exact absurd (Option.some.inj hf').symm ht'
theorem Col.snoc (h : Col f E seen lo) (hbn : (E.toList.map (·.born)).Nodup) (hk : (E.toList.map (·.key)).Nodup) {e : MapEntry} {n : Int} {tm : Tm} (he : e ∈ E.toList) (hs : seen.contains e.born = false) (hkey : e.key = kI64 n) (hv : f n = some tm.erase) (hne : tm.erase ≠ varT n) : Col f E (seen.push e.born) (lo ++ [⟨n, tm⟩]) := by
  refine ⟨?_, fun y hy => ?_, fun e' he' hs' n' t' hk' hf' ht' => ?_⟩
  · rw [List.map_append, List.nodup_append]
    refine ⟨h.1, by simp, ?_⟩
    intro a ha d hd
    obtain ⟨y, hy, rfl⟩ := List.mem_map.1 ha
    simp only [List.map_cons, List.map_nil, List.mem_singleton] at hd
    subst hd
    intro hyn
    obtain ⟨_, _, e', h3, h4, h5⟩ := h.2.1 y hy
    have := one_of (·.key) hk h3 he (by rw [h5, hkey, hyn])
    subst this
    rw [hs] at h4
    cases h4
  · rcases List.mem_append.1 hy with hy | hy
    · obtain ⟨h1, h2, e', h3, h4, h5⟩ := h.2.1 y hy
      exact ⟨h1, h2, e', h3, (seen_push _ _ _).2 (.inl h4), h5⟩
    · rw [List.mem_singleton] at hy
      subst hy
      exact ⟨hv, hne, e, he, (seen_push _ _ _).2 (.inr rfl), hkey⟩
  · rcases (seen_push _ _ _).1 hs' with hs' | hs'
    · obtain ⟨y, hy, hyn⟩ := h.2.2 e' he' hs' n' t' hk' hf' ht'
      exact ⟨y, List.mem_append_left _ hy, hyn⟩
    · have := one_of (·.born) hbn he' he hs'
      subst this
      have := kI64_inj (hk'.symm.trans hkey)
      subst this
      exact ⟨⟨n', tm⟩, List.mem_append_right _ (List.mem_singleton.2 rfl), rfl⟩
/-- When all have been seen, all that is bound to something else has been collected. -/
theorem Col.all (h : Col f E seen lo) (hall : ∀ e ∈ E.toList, seen.contains e.born = true) (hin : ∀ n t, f n = some t → ∃ e ∈ E.toList, e.key = kI64 n) (n : Int) (t : T) : (∃ y ∈ lo, y.v = n ∧ y.t.erase = t) ↔ (f n = some t ∧ t ≠ varT n) := by
  constructor
  · rintro ⟨y, hy, rfl, rfl⟩
    exact ⟨(h.2.1 y hy).1, (h.2.1 y hy).2.1⟩
  · rintro ⟨h1, h2⟩
    obtain ⟨e, he, hk⟩ := hin n t h1
    obtain ⟨y, hy, hyn⟩ := h.2.2 e he (hall e he) n t hk h1 h2
    refine ⟨y, hy, hyn, ?_⟩
    have := (h.2.1 y hy).1
    rw [hyn, h1] at this
    exact (Option.some.inj this).symm
theorem Col.len (h : Col f E seen lo) (hr : ∀ n, f n ≠ none → 0 ≤ n ∧ n ≤ 1099511627776) : lo.length ≤ 1099511627777 := by
  have := nodup_le 1099511627777 (lo.map Bd.v) h.1 fun x hx => by
    obtain ⟨y, hy, rfl⟩ := List.mem_map.1 hx
    have := hr y.v (by rw [(h.2.1 y hy).1]; simp)
    exact ⟨this.1, by omega⟩
  simpa using this
end
end Go.Proofs.Ytmecghjnghhhkaa

namespace Go.Proofs.Ytmecghjnghhhkaa
open Go.RowKit Go.Maps Go.Lib
open Go.ChangeMaps (setBlock)

/-- The slice v of the call's own (blocks from B on) holds the binds l. -/
def BuiltBds (w : World) (B : Nat) (v : Value) (l : List Bd) : Prop := w.ownsRow B 114 5 v l.length (l.flatMap Bd.cells)

/-- append of one bind. -/
theorem wpList_append_bd {P : Program} {w : World} {ops : Array Oper} {rest : List Oper} {o : Oper} {a : Act} {Q : Exit → Act → World → Prop} (hgd : o.guard = none) (s y : Operand)
    (ho : o.op = .call { callee := .builtin .append, args := #[s, y], argTypes := #[30, 30] }) (hP : P = Try.prog)
    (B : Nat) (v : Value) (l : List Bd) (x : Bd) (b c : Nat) (hs : a.eval s = v) (hy : a.eval y = .slice (some ⟨b, 0, none⟩) 1 c) (h : BuiltBds w B v l) (hB : B ≤ w.heap.size) (hl : (l.length + 1) * 64 ≤ 140737488351232)
    (hX : BlkT w b 114 (bdCells x))
    (hK : ∀ v' w', BuiltBds w' B v' (l ++ [x]) → w.grownBy w' v.ownBlock → (v'.ownBlock = v.ownBlock ∨ v'.ownBlock = some w.heap.size) → wpList P ops Q rest (a.put o.dst v') w') : wpList P ops Q (o :: rest) a w := by
  subst hP
  refine wpList_append_one hgd s y 30 114 ho Try.underlying30 infoBd rfl (by decide) B v l.length (l.flatMap Bd.cells) b c x.cells hs hy h hB rfl ?_ ?_ (by simp only [maxLen]; omega) (by omega) ?_
  · intro j u hu
    match j, hu with
    | 0, hu => cases hu; exact hX.cell 0 rfl
    | 1, hu => cases hu; exact hX.cell 1 rfl
    | 2, hu => cases hu; exact hX.cell 2 rfl
    | 3, hu => cases hu; exact hX.cell 3 rfl
    | 4, hu => cases hu; exact hX.cell 4 rfl
    | j + 5, hu => simp [Bd.cells, Tm.cells] at hu
  · intro u hu
    simp only [Bd.cells, Tm.cells, List.mem_cons, List.mem_nil_iff, or_false] at hu
    rcases hu with rfl | rfl | rfl | rfl | rfl <;> rfl
  · intro v' w' h2 h3 h4
    refine hK v' w' ?_ h3 h4
    show w'.ownsRow B _ 5 v' _ _
    rw [List.length_append, List.flatMap_append]
    simpa using h2

theorem kp_step {w w1 : World} {r : Nat} {o o' : Obj} (hr : w.heap[r]? = some o) (h1 : w1 = w ∨ w1 = w.drew) : Kp (· = r) w (setBlock w1 r o') ∧ (setBlock w1 r o').heap[r]? = some o' := by
  have hr1 : w1.heap[r]? = some o := by rcases h1 with rfl | rfl <;> exact hr
  obtain ⟨hs, h2⟩ := MapKept.heap_set (o' := o') hr1
  refine ⟨?_, hs⟩
  rcases h1 with rfl | rfl
  · exact ⟨rfl, rfl, rfl, by simp [setBlock], fun k _ hk => h2 k hk⟩
  · exact ⟨rfl, rfl, rfl, by simp [setBlock], fun k _ hk => h2 k hk⟩
/-- What turns but one block of the call's own is growth. -/
theorem Kp.gr_at {w w1 w2 : World} {r : Nat} (h : Gr w w1) (hk : Kp (· = r) w1 w2) (hr : w.heap.size ≤ r) : Gr w w2 :=
  Below.trans h (⟨hk.os, hk.tape, hk.output, hk.size, fun k h1 => hk.block k (Nat.lt_of_lt_of_le h1 h.size) (by omega)⟩ : Below w.heap.size w1 w2)
theorem BuiltBds.kp {C : Nat → Prop} {w w' : World} {B : Nat} {v : Value} {l : List Bd} (h : BuiltBds w B v l) (hK : Kp C w w') (hC : ∀ b, B ≤ b → ¬ C b) : BuiltBds w' B v l := by
  refine ⟨h.1, h.2.imp id ?_⟩
  rintro ⟨g, cap, cur, rfl, h2, h3, h4⟩
  exact ⟨g, cap, cur, rfl, h2, by rw [hK.block g (Array.getElem?_eq_some_iff.1 h3).1 (hC g h2)]; exact h3, h4⟩
theorem BuiltBds.ge {w : World} {B : Nat} {v : Value} {l : List Bd} (h : BuiltBds w B v l) {b : Nat} (hb : v.ownBlock = some b) : B ≤ b := by
  rcases h.2 with ⟨rfl, _⟩ | ⟨g, cap, cur, rfl, h2, _⟩
  · cases hb
  · cases hb; exact h2
theorem var_iff {t : Tm} (hf : t.erase.formed = true) (n : Int) : t.erase = varT n ↔ t.k = 1 ∧ t.n = n := by
  cases t with
  | mk k m s p c l =>
    simp only [Tm.k, Tm.n]
    constructor
    · intro h
      rw [Tm.erase, varT] at h
      injection h with h1 h2
      exact ⟨h1, h2⟩
    · rintro ⟨rfl, rfl⟩
      rcases formed_cases2 hf with ⟨n, h, _⟩ | ⟨n, h⟩ | ⟨s', h, _⟩ | ⟨s', l', h, _⟩
      all_goals
        rw [Tm.erase] at h ⊢
        first
          | (injection h with h1 h2 h3 h4; rw [varT, h3, h4]; done)
          | (injection h with h1; exact absurd h1 (by decide))
theorem BuiltBds.gr {w w' : World} {B : Nat} {v : Value} {l : List Bd} (h : BuiltBds w B v l) (hg : Gr w w') : BuiltBds w' B v l := ownsRow_gr h hg
end Go.Proofs.Ytmecghjnghhhkaa

namespace Go.Proofs.Ytmecghjnghhhkaa
open Go.RowKit

def sfRen : Go.Shelf.Ren := ⟨fun | 6 => 96 | 14 => 149 | 15 => 150 | 20 => 181 | 21 => 182 | 22 => 183 | 23 => 184 | 24 => 185 | 25 => 186 | 26 => 187 | 27 => 188 | 28 => 189 | 29 => 190 | 46 => 211 | 47 => 212 | 48 => 213 | 49 => 214 | 50 => 215 | 57 => 227 | n => n, fun | 0 => 0 | 3 => 3 | 4 => 4 | 5 => 5 | 9 => 9 | 22 => 30 | 24 => 114 | 25 => 131 | 39 => 189 | 45 => 223 | 46 => 224 | 50 => 228 | 53 => 231 | 55 => 233 | 66 => 249 | 70 => 217 | 76 => 264 | 77 => 265 | n => n, fun n => n⟩

set_option maxRecDepth 100000 in
theorem sfLays : Go.Proofs.SlLaysF0.n6 Try.prog sfRen := {
  mixed := by kernel_rfl
  f6 := ⟨Try.f96.name, by kernel_rfl, Try.func96.trans (congrArg some (by kernel_rfl))⟩
  f14 := ⟨Try.f149.name, by kernel_rfl, Try.func149.trans (congrArg some (by kernel_rfl))⟩
  f15 := Try.func150.trans (congrArg some (by kernel_rfl))
  f20 := ⟨Try.f181.name, by kernel_rfl, Try.func181.trans (congrArg some (by kernel_rfl))⟩
  f21 := ⟨Try.f182.name, by kernel_rfl, Try.func182.trans (congrArg some (by kernel_rfl))⟩
  f22 := ⟨Try.f183.name, by kernel_rfl, Try.func183.trans (congrArg some (by kernel_rfl))⟩
  f23 := ⟨Try.f184.name, by kernel_rfl, Try.func184.trans (congrArg some (by kernel_rfl))⟩
  f24 := ⟨Try.f185.name, by kernel_rfl, Try.func185.trans (congrArg some (by kernel_rfl))⟩
  f25 := ⟨Try.f186.name, by kernel_rfl, Try.func186.trans (congrArg some (by kernel_rfl))⟩
  f26 := ⟨Try.f187.name, by kernel_rfl, Try.func187.trans (congrArg some (by kernel_rfl))⟩
  f27 := ⟨Try.f188.name, by kernel_rfl, Try.func188.trans (congrArg some (by kernel_rfl))⟩
  f28 := Try.func189.trans (congrArg some (by kernel_rfl))
  f29 := Try.func190.trans (congrArg some (by kernel_rfl))
  f46 := ⟨Try.f211.name, by kernel_rfl, Try.func211.trans (congrArg some (by kernel_rfl))⟩
  f47 := Try.func212.trans (congrArg some (by kernel_rfl))
  f48 := Try.func213.trans (congrArg some (by kernel_rfl))
  f49 := ⟨Try.f214.name, by kernel_rfl, Try.func214.trans (congrArg some (by kernel_rfl))⟩
  f50 := ⟨Try.f215.name, by kernel_rfl, Try.func215.trans (congrArg some (by kernel_rfl))⟩
  f57 := ⟨Try.f227.name, by kernel_rfl, Try.func227.trans (congrArg some (by kernel_rfl))⟩
  t0 := Try.underlying0
  a0 := Try.isAgg0
  z0 := Try.sizeOf0
  v0 := Try.zeroValue0
  t3 := Try.underlying3
  a3 := Try.isAgg3
  z3 := Try.sizeOf3
  v3 := Try.zeroValue3
  t4 := Try.underlying4
  a4 := Try.isAgg4
  z4 := Try.sizeOf4
  v4 := Try.zeroValue4
  t5 := Try.underlying5
  a5 := Try.isAgg5
  z5 := Try.sizeOf5
  v5 := Try.zeroValue5
  t9 := Try.underlying9
  a9 := Try.isAgg9
  z9 := Try.sizeOf9
  v9 := Try.zeroValue9
  t22 := Try.underlying30
  a22 := Try.isAgg30
  z22 := Try.sizeOf30
  v22 := Try.zeroValue30
  t25 := Try.underlying131
  a25 := Try.isAgg131
  z25 := Try.sizeOf131
  v25 := Try.zeroValue131
  t39 := Try.underlying189
  a39 := Try.isAgg189
  z39 := Try.sizeOf189
  v39 := Try.zeroValue189
  t45 := Try.underlying223
  a45 := Try.isAgg223
  z45 := Try.sizeOf223
  v45 := Try.zeroValue223
  t46 := Try.underlying224
  a46 := Try.isAgg224
  z46 := Try.sizeOf224
  v46 := Try.zeroValue224
  t50 := Try.underlying228
  a50 := Try.isAgg228
  z50 := Try.sizeOf228
  v50 := Try.zeroValue228
  t53 := Try.underlying231
  a53 := Try.isAgg231
  z53 := Try.sizeOf231
  v53 := Try.zeroValue231
  t55 := Try.underlying233
  a55 := Try.isAgg233
  z55 := Try.sizeOf233
  v55 := Try.zeroValue233
  t66 := Try.underlying249
  a66 := Try.isAgg249
  z66 := Try.sizeOf249
  v66 := Try.zeroValue249
  t70 := Try.underlying217
  a70 := Try.isAgg217
  z70 := Try.sizeOf217
  v70 := Try.zeroValue217
  t76 := Try.underlying264
  a76 := Try.isAgg264
  z76 := Try.sizeOf264
  v76 := Try.zeroValue264
  t77 := Try.underlying265
  a77 := Try.isAgg265
  z77 := Try.sizeOf265
  v77 := Try.zeroValue265 }
end Go.Proofs.Ytmecghjnghhhkaa

namespace Go.Proofs.Ytmecghjnghhhkaa
open Go.RowKit Go.Lib Go.Sort

instance : Inhabited Bd := ⟨⟨0, varTm 0⟩⟩
def cmpB (x y : Bd) : Int := cmpI x.v y.v

set_option maxHeartbeats 1000000 in
set_option maxRecDepth 100000 in
theorem binds1_calls (x y : Bd) (w : World) : Calls Try.prog 160 #[.agg #[.int .i64 x.v, .int .i64 x.t.k, .int .i64 x.t.n, .string x.t.s, .slice x.t.p x.t.l.length x.t.c], .agg #[.int .i64 y.v, .int .i64 y.t.k, .int .i64 y.t.n, .string y.t.s, .slice y.t.p y.t.l.length y.t.c]] w fun e w' => e = .returned (.int .i64 (cmpB x y)) ∧ ∃ q os', w' = grow (w.drewN q) os' := by
  have hcon := fun W' => compare_int64 x.v y.v W'
  unfold cmpB
  generalize cmpI x.v y.v = r at hcon ⊢
  go_enter Try.func160, Try.ntmps160
  go_wp2_with (go_at_call 98; refine (hcon _).mono ?_; rintro e w' ⟨rfl, rfl⟩)
  go_ret
  exact ⟨rfl, 0, _, by rw [alloc_eq_grow, alloc_eq_grow, grow_grow]; rfl⟩

theorem cmpLaysB (blk off size : Nat) (w : World) : CmpLays Try.prog 160 #[] Bd.cells 5 cmpB blk off size w :=
  fun _ _ _ _ x y => binds1_calls x y _

theorem ltB (x y : Bd) : ltOf cmpB x y = decide (x.v < y.v) := by
  unfold ltOf cmpB
  by_cases h : x.v < y.v
  · rw [decide_eq_true h, decide_eq_true ((cmpI_negD _ _).2 h)]
  · rw [decide_eq_false h, decide_eq_false (fun h2 => h ((cmpI_negD _ _).1 h2))]
theorem swoB : SWO (ltOf cmpB) where
  irrefl x := by rw [ltB]; simp
  trans x y z h1 h2 := by rw [ltB] at *; simp at *; omega
  ntrans x y z h1 h2 := by rw [ltB] at *; simp at *; omega

theorem bdcells_len : ∀ l : List Bd, (l.flatMap Bd.cells).length = l.length * 5
  | [] => rfl
  | x :: xs => by rw [List.flatMap_cons, List.length_append, bdcells_len xs, List.length_cons, Bd.cells, Tm.cells]; simp; omega
theorem bdcells_at : ∀ {l : List Bd} {i : Nat} {x : Bd}, l[i]? = some x → ∀ j, j < 5 → (l.flatMap Bd.cells)[i * 5 + j]? = x.cells[j]?
  | y :: ys, 0, x, h, j, hj => by
    simp only [List.getElem?_cons_zero, Option.some.injEq] at h
    subst h
    rw [List.flatMap_cons, Nat.zero_mul, Nat.zero_add, List.getElem?_append_left (by simp [Bd.cells, Tm.cells]; omega)]
  | y :: ys, i + 1, x, h, j, hj => by
    simp only [List.getElem?_cons_succ] at h
    rw [List.flatMap_cons, List.getElem?_append_right (by simp [Bd.cells, Tm.cells]; omega), ← bdcells_at h j hj]
    simp only [Bd.cells, Tm.cells, List.length_cons, List.length_nil]
    congr 1
    omega
theorem flatB (l : List Bd) : (flatK Bd.cells 5 l.toArray).toList = l.flatMap Bd.cells := by
  apply List.ext_getElem?
  intro t
  by_cases ht : t < l.length * 5
  · have hi : t / 5 < l.length := by omega
    have h1 := bdcells_at (List.getElem?_eq_getElem hi) (t % 5) (by omega)
    rw [show t / 5 * 5 + t % 5 = t by omega] at h1
    rw [h1, Array.getElem?_toList]
    have h2 := get_flatK Bd.cells 5 l.toArray t (by simpa using ht)
    have h3 : t < (flatK Bd.cells 5 l.toArray).size := by rw [size_flatK]; simpa using ht
    rw [getElem!_pos (flatK Bd.cells 5 l.toArray) t h3] at h2
    rw [Array.getElem?_eq_getElem h3, h2]
    have h4 : (l.toArray)[t / 5]! = l[t / 5] := by rw [getElem!_pos l.toArray (t / 5) (by simpa using hi)]; simp
    have h5 : t % 5 < (l[t / 5].cells).length := by simp [Bd.cells, Tm.cells]; omega
    rw [h4, getElem!_pos (l[t / 5].cells) (t % 5) h5, List.getElem?_eq_getElem h5]
  · rw [List.getElem?_eq_none (by simp; omega), List.getElem?_eq_none (by rw [bdcells_len]; omega)]

theorem holds_vals {w : World} {g : Nat} {cur L : Array Value} {e : TypeId} (hb : w.heap[g]? = some (.cells cur e (0, 0))) (ht : cur.toList.take L.size = L.toList) : Holds id w g 0 L := by
  intro j hj
  refine ⟨?_, by simp [World.frozen?, hb]⟩
  have h1 : (cur.toList.take L.size)[j]? = L.toList[j]? := by rw [ht]
  rw [List.getElem?_take_of_lt hj, Array.getElem?_toList, Array.getElem?_toList] at h1
  rw [Nat.zero_add, cell_of_row w g j _ _ _ hb, h1]
  simp [hj]
theorem put_otherV {w : World} {g n k : Nat} (d : Array Value) (hne : g ≠ k) : (putRow id (Go.Sort.ahead w n) g 0 d).heap[k]? = w.heap[k]? := by
  simp [putRow, mapBlock, Go.Sort.ahead, Array.getElem?_modify, hne]
theorem put_sameV {w : World} {g n : Nat} {cur : Array Value} {e : TypeId} (d : Array Value) (hb : w.heap[g]? = some (.cells cur e (0, 0))) : (putRow id (Go.Sort.ahead w n) g 0 d).heap[g]? = some (.cells (putCells id 0 d cur) e (0, 0)) := by
  simp [putRow, mapBlock, Go.Sort.ahead, Array.getElem?_modify, hb, onCells]
theorem take_putV (cur d : Array Value) (h : d.size ≤ cur.size) : (putCells id 0 d cur).toList.take d.size = d.toList := by
  apply List.ext_getElem?
  intro j
  by_cases hj : j < d.size
  · rw [List.getElem?_take_of_lt hj, Array.getElem?_toList]
    simp [putCells, hj, show j < cur.size by omega]
  · rw [List.getElem?_take_eq_none (by omega), List.getElem?_eq_none (by simp; omega)]

/-- slices.SortFunc of binds of the call's own. -/
theorem sortBds_calls (B : Nat) (v : Value) (lo : List Bd) (w : World) (h : BuiltBds w B v lo) (hn : lo.length ≤ 1099511627777) (hB : B ≤ w.heap.size) :
    Calls Try.prog 96 #[v, .func (.func 160) #[] #[]] w fun e w' => e = .returned (.tuple #[]) ∧ ∃ lo', lo'.Perm lo ∧ lo'.Pairwise (fun x y => x.v ≤ y.v) ∧ BuiltBds w' B v lo' ∧ Below B w w' := by
  rcases h.2 with ⟨hv, h0⟩ | ⟨g, cap, cur, rfl, hg0, hblk, hnc, hcm, hsz, htk⟩
  · obtain rfl : lo = [] := List.eq_nil_of_length_eq_zero h0
    rw [hv] at h ⊢
    refine (Go.Proofs.AnyF.slices_SortFunc_none sfLays none 0 _ w).mono ?_
    rintro e w' ⟨rfl, rfl⟩
    exact ⟨rfl, [], List.Perm.refl _, List.Pairwise.nil, h, Below.refl _ _⟩
  · have hgl : g < w.heap.size := (Array.getElem?_eq_some_iff.1 hblk).1
    have hH : HoldsK Bd.cells 5 w g 0 lo.toArray := holds_vals hblk (by
      rw [size_flatK, flatB]; simpa using htk)
    have hcall := Go.Proofs.AnyQ.slices_SortFunc sfLays 5 (fun w => Try.isAgg114 w) (fun w => Try.sizeOf114 w) Bd.cells (fun _ => rfl) (fun x v hv => by simp [Bd.cells, Tm.cells] at hv; rcases hv with rfl | rfl | rfl | rfl | rfl <;> rfl) cmpB swoB 160 #[] g 0 cap lo.toArray w
      (fun args w => by kernel_rfl) (cmpLaysB _ _ _ _) hH hgl (by simp; omega)
    rw [show lo.toArray.size = lo.length from by simp] at hcall
    refine hcall.mono ?_
    rintro e w' ⟨rfl, d', n, os, hp, hs, rfl⟩
    have hds : d'.size = lo.length := by rw [hp.1]; simp
    have hpl : d'.toList.Perm lo := by
      have := hp.2.2
      rw [show d'.extract 0 lo.length = d' by rw [← hds]; simp] at this
      simpa using this
    refine ⟨rfl, d'.toList, hpl, ?_, ?_, ?_⟩
    · rw [List.pairwise_iff_getElem]
      intro i j hi hj hij
      have hi' : i < d'.size := by simpa using hi
      have hj' : j < d'.size := by simpa using hj
      have := hs i j (Nat.zero_le _) hij (by omega)
      rw [ltB, getElem!_pos d' j hj', getElem!_pos d' i hi'] at this
      have := of_decide_eq_false this
      simp only [Array.getElem_toList]
      omega
    · refine ⟨by rw [bdcells_len], .inr ⟨g, cap, putCells id 0 (flatK Bd.cells 5 d') cur, by simp [hds], hg0, ?_, by simpa [hds] using hnc, hcm, ?_, ?_⟩⟩
      · exact (heap_grow_old _ _ (by simpa [putRow, putRowK, mapBlock, Go.Sort.ahead] using hgl)).trans (put_sameV _ hblk)
      · simpa [putCells] using hsz
      · have := take_putV cur (flatK Bd.cells 5 d') (by rw [size_flatK, hds, hsz]; exact Nat.mul_le_mul_right 5 hnc)
        rw [size_flatK] at this
        rw [Array.length_toList, this]
        exact flatB d'.toList
    · refine ⟨rfl, rfl, rfl, by simp [sortWorldK, putRowK, putRow, mapBlock, Go.Sort.ahead, grow], fun k hk => ?_⟩
      exact (heap_grow_old _ _ (Nat.lt_of_lt_of_le (Nat.lt_of_lt_of_le hk hB) (by simp [putRow, putRowK, mapBlock, Go.Sort.ahead]))).trans (put_otherV _ (by omega))
end Go.Proofs.Ytmecghjnghhhkaa

namespace Go.Proofs.Ytmecghjnghhhkaa
open Go.RowKit Go.Lib

/-- What has been made is a slice of binds. -/
theorem BuiltBds.bds {w : World} {B : Nat} {v : Value} {l : List Bd} (h : BuiltBds w B v l) (hl : l.length * 64 ≤ 140737488351232) (hs : ∀ y ∈ l, y.t.In w ∧ In64 y.v) :
    ∃ p c, v = .slice p l.length c ∧ (Bds.mk p c l).In w := by
  rcases h.2 with ⟨rfl, h1⟩ | ⟨g, cap, cur, h0, hbg, hg, hnc, hcm, hcs, htake⟩
  · have hn : l = [] := List.eq_nil_of_length_eq_zero h1
    subst hn
    exact ⟨none, 0, rfl, Nat.le_refl _, ⟨by simp, by simp⟩, .inl rfl, fun y hy => by simp at hy⟩
  · simp only [maxLen] at hcm
    refine ⟨some ⟨g, 0, none⟩, cap, h0, hnc, ⟨hl, by simp only; omega⟩, .inr ⟨g, 0, rfl, ?_⟩, hs⟩
    intro i x hx
    have hi : i < l.length := (List.getElem?_eq_some_iff.1 hx).1
    subst h0
    have hat : ∀ j, j < 5 → w.cell? ⟨g, 0 + i * 5 + j, none⟩ = x.cells[j]? := by
      intro j hj
      rw [Nat.zero_add, World.ownsRow.cellAt h _ (by omega)]
      exact bdcells_at hx j hj
    exact ⟨hat 0 (by omega), hat 1 (by omega), hat 2 (by omega), hat 3 (by omega), hat 4 (by omega)⟩

theorem asc_of : ∀ (l : List Bd) (last : Int), (∀ y ∈ l, last < y.v ∧ y.v ≤ 1099511627776) → l.Pairwise (fun x y => x.v ≤ y.v) → (l.map Bd.v).Nodup → ascB last l = true
  | [], _, _, _, _ => rfl
  | x :: xs, last, h1, h2, h3 => by
    rw [List.pairwise_cons] at h2
    rw [List.map_cons, List.nodup_cons] at h3
    have hx := h1 x (by simp)
    rw [ascB, decide_eq_true hx.1, decide_eq_true hx.2, Bool.true_and, Bool.true_and]
    refine asc_of xs x.v (fun y hy => ⟨?_, (h1 y (by simp [hy])).2⟩) h2.2 h3.2
    have h4 := h2.1 y hy
    have h5 : x.v ≠ y.v := fun e => h3.1 (List.mem_map.2 ⟨y, hy, e.symm⟩)
    omega

/-- The substitution that a map is. -/
def IsBinds (f : Int → Option T) (l : List Bd) : Prop :=
  ascB (-1) l = true ∧ (∀ n t, (∃ y ∈ l, y.v = n ∧ y.t.erase = t) ↔ (f n = some t ∧ t ≠ varT n)) ∧ ∀ y ∈ l, y.t.erase.formed = true ∧ 0 ≤ y.v ∧ y.v ≤ 1099511627776
def RetBinds (S : Nat → Prop) (f : Int → Option T) (w : World) (e : Ending) (w' : World) : Prop :=
  ∃ p c l, e = .returned (.slice p l.length c) ∧ (Bds.mk p c l).In w' ∧ IsBinds f l ∧ (∀ y ∈ l, y.t.On S) ∧ Gr w w'

theorem binds_ret {S : Nat → Prop} {f : Int → Option T} {E : Array MapEntry} {seen : Array Nat} {w w' : World} {B : Nat} {v : Value} {lo lo' : List Bd} (hcol : Col f E seen lo) (hall : ∀ e ∈ E.toList, seen.contains e.born = true) (hin : ∀ n t, f n = some t → ∃ e ∈ E.toList, e.key = kI64 n) (hr : ∀ n, f n ≠ none → 0 ≤ n ∧ n ≤ 1099511627776)
    (hlo : ∀ y ∈ lo, y.t.In w ∧ y.t.On S ∧ y.t.erase.formed = true ∧ 0 ≤ y.v ∧ y.v ≤ 1099511627776) (hp : lo'.Perm lo) (hs : lo'.Pairwise (fun x y => x.v ≤ y.v)) (hb : BuiltBds w' B v lo') (hg : Gr w w') : RetBinds S f w (.returned v) w' := by
  have hlen := hcol.len hr
  have hlen' : lo'.length = lo.length := hp.length_eq
  obtain ⟨p, c, rfl, hB⟩ := hb.bds (by omega) fun y hy => by
    have := hlo y (hp.mem_iff.1 hy)
    exact ⟨Tm.In_below hg this.1, by constructor <;> omega⟩
  refine ⟨p, c, lo', rfl, hB, ⟨asc_of lo' (-1) (fun y hy => ?_) hs ((hp.map Bd.v).nodup_iff.2 hcol.1), fun n t => ?_, fun y hy => ?_⟩, fun y hy => (hlo y (hp.mem_iff.1 hy)).2.1, hg⟩
  · have := hlo y (hp.mem_iff.1 hy)
    omega
  · rw [← hcol.all hall hin n t]
    constructor <;> rintro ⟨y, hy, h⟩
    · exact ⟨y, hp.mem_iff.1 hy, h⟩
    · exact ⟨y, hp.mem_iff.2 hy, h⟩
  · exact (hlo y (hp.mem_iff.1 hy)).2.2
end Go.Proofs.Ytmecghjnghhhkaa
