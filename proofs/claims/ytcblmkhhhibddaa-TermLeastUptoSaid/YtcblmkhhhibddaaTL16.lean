/-
  term.Binds: what a range over the map has collected.
  Slices of binds that a call makes by append; an iterator's step turns one block.
  The laying of slices.SortFunc at binds. Printed by gen_ddd.py.
  slices.SortFunc at binds, by the variable.
  What term.Binds hands back.
  term.Binds: the walk.
  A map of terms: made, stored into.
  term.Compose: what it computes; the walk.
-/
import Derived.Test.YtcblmkhhhibddaaTL15
import Derived.Test.YtcblmkhhhibddaaTL02
import Derived.Test.YtcblmkhhhibddaaTL05
import Derived.Test.YtcblmkhhhibddaaTL14
import Derived.Shelf.SlSortCmp.NoneTotal
namespace Go.Proofs.Ytcblmkhhhibddaa
open Go.RowKit Go.Maps Go.Lib

/-- What has been collected of a map when these have been seen. -/
def Col (f : Int → Option T) (E : Array MapEntry) (seen : Array Nat) (lo : List Bd) : Prop :=
  (lo.map Bd.v).Nodup ∧ (∀ y ∈ lo, f y.v = some y.t.erase ∧ y.t.erase ≠ varT y.v ∧ ∃ e ∈ E.toList, seen.contains e.born = true ∧ e.key = kI64 y.v) ∧
  ∀ e ∈ E.toList, seen.contains e.born = true → ∀ n t, e.key = kI64 n → f n = some t → t ≠ varT n → ∃ y ∈ lo, y.v = n

/-- What a list holds once, it holds in one place. -/
theorem one_of {α β : Type} (g : α → β) : ∀ {l : List α}, (l.map g).Nodup → ∀ {e e' : α}, e ∈ l → e' ∈ l → g e = g e' → e = e'
  | [], _, _, _, he, _, _ => nomatch he
  | x :: xs, hn, e, e', he, he', h => by
    rw [List.map_cons, List.nodup_cons] at hn
    rcases List.mem_cons.1 he with h1 | h1
    · rcases List.mem_cons.1 he' with h2 | h2
      · rw [h1, h2]
      · exact absurd (List.mem_map.2 ⟨e', h2, h.symm.trans (by rw [h1])⟩) hn.1
    · rcases List.mem_cons.1 he' with h2 | h2
      · exact absurd (List.mem_map.2 ⟨e, h1, h.trans (by rw [h2])⟩) hn.1
      · exact one_of g hn.2 h1 h2 h

section
variable {f : Int → Option T} {E : Array MapEntry} {seen : Array Nat} {lo : List Bd}
theorem seen_push (seen : Array Nat) (a x : Nat) : (seen.push a).contains x = true ↔ seen.contains x = true ∨ x = a := by
  rw [Array.contains_iff_mem, Array.mem_push, Array.contains_iff_mem]
theorem Col.start : Col f E #[] [] := ⟨List.nodup_nil, (fun y hy => nomatch hy), fun e _ h => by simp at h⟩
theorem Col.skip (h : Col f E seen lo) (hbn : (E.toList.map (·.born)).Nodup) {e : MapEntry} {n : Int} (he : e ∈ E.toList) (hkey : e.key = kI64 n) (hv : f n = some (varT n)) : Col f E (seen.push e.born) lo := by
  refine ⟨h.1, fun y hy => ?_, fun e' he' hs n' t' hk' hf' ht' => ?_⟩
  · obtain ⟨h1, h2, e', h3, h4, h5⟩ := h.2.1 y hy
    exact ⟨h1, h2, e', h3, (seen_push _ _ _).2 (.inl h4), h5⟩
  · rcases (seen_push _ _ _).1 hs with hs | hs
    · exact h.2.2 e' he' hs n' t' hk' hf' ht'
    · have := one_of (·.born) hbn he' he hs
      subst this
      have := kI64_inj (hk'.symm.trans hkey)
      subst this
      rw [hv] at hf'
      exact absurd (Option.some.inj hf').symm ht'
theorem Col.snoc (h : Col f E seen lo) (hbn : (E.toList.map (·.born)).Nodup) (hk : (E.toList.map (·.key)).Nodup) {e : MapEntry} {n : Int} {tm : Tm} (he : e ∈ E.toList) (hs : seen.contains e.born = false) (hkey : e.key = kI64 n) (hv : f n = some tm.erase) (hne : tm.erase ≠ varT n) : Col f E (seen.push e.born) (lo ++ [⟨n, tm⟩]) := by
  refine ⟨?_, fun y hy => ?_, fun e' he' hs' n' t' hk' hf' ht' => ?_⟩
  · rw [List.map_append, List.nodup_append]
    refine ⟨h.1, by simp, ?_⟩
    intro a ha d hd
    obtain ⟨y, hy, rfl⟩ := List.mem_map.1 ha
    simp only [List.map_cons, List.map_nil, List.mem_singleton] at hd
    subst hd
    intro hyn
    obtain ⟨_, _, e', h3, h4, h5⟩ := h.2.1 y hy
    have := one_of (·.key) hk h3 he (by rw [h5, hkey, hyn])
    subst this
    rw [hs] at h4
    cases h4
  · rcases List.mem_append.1 hy with hy | hy
    · obtain ⟨h1, h2, e', h3, h4, h5⟩ := h.2.1 y hy
      exact ⟨h1, h2, e', h3, (seen_push _ _ _).2 (.inl h4), h5⟩
    · rw [List.mem_singleton] at hy
      subst hy
      exact ⟨hv, hne, e, he, (seen_push _ _ _).2 (.inr rfl), hkey⟩
  · rcases (seen_push _ _ _).1 hs' with hs' | hs'
    · obtain ⟨y, hy, hyn⟩ := h.2.2 e' he' hs' n' t' hk' hf' ht'
      exact ⟨y, List.mem_append_left _ hy, hyn⟩
    · have := one_of (·.born) hbn he' he hs'
      subst this
      have := kI64_inj (hk'.symm.trans hkey)
      subst this
      exact ⟨⟨n', tm⟩, List.mem_append_right _ (List.mem_singleton.2 rfl), rfl⟩
/-- When all have been seen, all that is bound to something else has been collected. -/
theorem Col.all (h : Col f E seen lo) (hall : ∀ e ∈ E.toList, seen.contains e.born = true) (hin : ∀ n t, f n = some t → ∃ e ∈ E.toList, e.key = kI64 n) (n : Int) (t : T) : (∃ y ∈ lo, y.v = n ∧ y.t.erase = t) ↔ (f n = some t ∧ t ≠ varT n) := by
  constructor
  · rintro ⟨y, hy, rfl, rfl⟩
    exact ⟨(h.2.1 y hy).1, (h.2.1 y hy).2.1⟩
  · rintro ⟨h1, h2⟩
    obtain ⟨e, he, hk⟩ := hin n t h1
    obtain ⟨y, hy, hyn⟩ := h.2.2 e he (hall e he) n t hk h1 h2
    refine ⟨y, hy, hyn, ?_⟩
    have := (h.2.1 y hy).1
    rw [hyn, h1] at this
    exact (Option.some.inj this).symm
theorem Col.len (h : Col f E seen lo) (hr : ∀ n, f n ≠ none → 0 ≤ n ∧ n ≤ 1099511627776) : lo.length ≤ 1099511627777 := by
  have := nodup_le 1099511627777 (lo.map Bd.v) h.1 fun x hx => by
    obtain ⟨y, hy, rfl⟩ := List.mem_map.1 hx
    have := hr y.v (by rw [(h.2.1 y hy).1]; simp)
    exact ⟨this.1, by omega⟩
  simpa using this
end
end Go.Proofs.Ytcblmkhhhibddaa

namespace Go.Proofs.Ytcblmkhhhibddaa
open Go.RowKit Go.Maps Go.Lib
open Go.ChangeMaps (setBlock)

/-- The slice v of the call's own (blocks from B on) holds the binds l. -/
def BuiltBds (w : World) (B : Nat) (v : Value) (l : List Bd) : Prop := w.ownsRow B 117 5 v l.length (l.flatMap Bd.cells)

/-- append of one bind. -/
theorem wpList_append_bd {P : Program} {w : World} {ops : Array Oper} {rest : List Oper} {o : Oper} {a : Act} {Q : Exit → Act → World → Prop} (hgd : o.guard = none) (s y : Operand)
    (ho : o.op = .call { callee := .builtin .append, args := #[s, y], argTypes := #[44, 44] }) (hP : P = Try.prog)
    (B : Nat) (v : Value) (l : List Bd) (x : Bd) (b c : Nat) (hs : a.eval s = v) (hy : a.eval y = .slice (some ⟨b, 0, none⟩) 1 c) (h : BuiltBds w B v l) (hB : B ≤ w.heap.size) (hl : (l.length + 1) * 64 ≤ 140737488351232)
    (hX : BlkT w b 117 (bdCells x))
    (hK : ∀ v' w', BuiltBds w' B v' (l ++ [x]) → w.grownBy w' v.ownBlock → (v'.ownBlock = v.ownBlock ∨ v'.ownBlock = some w.heap.size) → wpList P ops Q rest (a.put o.dst v') w') : wpList P ops Q (o :: rest) a w := by
  subst hP
  refine wpList_append_one hgd s y 44 117 ho Try.underlying44 infoBd rfl (by decide) B v l.length (l.flatMap Bd.cells) b c x.cells hs hy h hB rfl ?_ ?_ (by simp only [maxLen]; omega) (by omega) ?_
  · intro j u hu
    match j, hu with
    | 0, hu => cases hu; exact hX.cell 0 rfl
    | 1, hu => cases hu; exact hX.cell 1 rfl
    | 2, hu => cases hu; exact hX.cell 2 rfl
    | 3, hu => cases hu; exact hX.cell 3 rfl
    | 4, hu => cases hu; exact hX.cell 4 rfl
    | j + 5, hu => simp [Bd.cells, Tm.cells] at hu
  · intro u hu
    simp only [Bd.cells, Tm.cells, List.mem_cons, List.mem_nil_iff, or_false] at hu
    rcases hu with rfl | rfl | rfl | rfl | rfl <;> rfl
  · intro v' w' h2 h3 h4
    refine hK v' w' ?_ h3 h4
    show w'.ownsRow B _ 5 v' _ _
    rw [List.length_append, List.flatMap_append]
    simpa using h2

theorem kp_step {w w1 : World} {r : Nat} {o o' : Obj} (hr : w.heap[r]? = some o) (h1 : w1 = w ∨ w1 = w.drew) : Kp (· = r) w (setBlock w1 r o') ∧ (setBlock w1 r o').heap[r]? = some o' := by
  have hr1 : w1.heap[r]? = some o := by rcases h1 with rfl | rfl <;> exact hr
  obtain ⟨hs, h2⟩ := MapKept.heap_set (o' := o') hr1
  refine ⟨?_, hs⟩
  rcases h1 with rfl | rfl
  · exact ⟨rfl, rfl, rfl, by simp [setBlock], fun k _ hk => h2 k hk⟩
  · exact ⟨rfl, rfl, rfl, by simp [setBlock], fun k _ hk => h2 k hk⟩
/-- What turns but one block of the call's own is growth. -/
theorem Kp.gr_at {w w1 w2 : World} {r : Nat} (h : Gr w w1) (hk : Kp (· = r) w1 w2) (hr : w.heap.size ≤ r) : Gr w w2 :=
  Below.trans h (⟨hk.os, hk.tape, hk.output, hk.size, fun k h1 => hk.block k (Nat.lt_of_lt_of_le h1 h.size) (by omega)⟩ : Below w.heap.size w1 w2)
theorem BuiltBds.kp {C : Nat → Prop} {w w' : World} {B : Nat} {v : Value} {l : List Bd} (h : BuiltBds w B v l) (hK : Kp C w w') (hC : ∀ b, B ≤ b → ¬ C b) : BuiltBds w' B v l := by
  refine ⟨h.1, h.2.imp id ?_⟩
  rintro ⟨g, cap, cur, rfl, h2, h3, h4⟩
  exact ⟨g, cap, cur, rfl, h2, by rw [hK.block g (Array.getElem?_eq_some_iff.1 h3).1 (hC g h2)]; exact h3, h4⟩
theorem BuiltBds.ge {w : World} {B : Nat} {v : Value} {l : List Bd} (h : BuiltBds w B v l) {b : Nat} (hb : v.ownBlock = some b) : B ≤ b := by
  rcases h.2 with ⟨rfl, _⟩ | ⟨g, cap, cur, rfl, h2, _⟩
  · cases hb
  · cases hb; exact h2
theorem var_iff {t : Tm} (hf : t.erase.formed = true) (n : Int) : t.erase = varT n ↔ t.k = 1 ∧ t.n = n := by
  cases t with
  | mk k m s p c l =>
    simp only [Tm.k, Tm.n]
    constructor
    · intro h
      rw [Tm.erase, varT] at h
      injection h with h1 h2
      exact ⟨h1, h2⟩
    · rintro ⟨rfl, rfl⟩
      rcases formed_cases2 hf with ⟨n, h, _⟩ | ⟨n, h⟩ | ⟨s', h, _⟩ | ⟨s', l', h, _⟩
      all_goals
        rw [Tm.erase] at h ⊢
        first
          | (injection h with h1 h2 h3 h4; rw [varT, h3, h4]; done)
          | (injection h with h1; exact absurd h1 (by decide))
theorem BuiltBds.gr {w w' : World} {B : Nat} {v : Value} {l : List Bd} (h : BuiltBds w B v l) (hg : Gr w w') : BuiltBds w' B v l := ownsRow_gr h hg
end Go.Proofs.Ytcblmkhhhibddaa

namespace Go.Proofs.Ytcblmkhhhibddaa
open Go.RowKit

def sfRen : Go.Shelf.Ren := ⟨fun | 6 => 90 | 14 => 143 | 15 => 144 | 20 => 182 | 21 => 183 | 22 => 184 | 23 => 185 | 24 => 186 | 25 => 187 | 26 => 188 | 27 => 189 | 28 => 190 | 29 => 191 | 46 => 218 | 47 => 219 | 48 => 220 | 49 => 221 | 50 => 222 | 57 => 230 | n => n, fun | 0 => 0 | 3 => 3 | 4 => 4 | 5 => 5 | 9 => 9 | 22 => 44 | 24 => 117 | 25 => 124 | 39 => 175 | 45 => 214 | 46 => 215 | 50 => 219 | 53 => 222 | 55 => 224 | 66 => 242 | 70 => 208 | 76 => 251 | 77 => 252 | n => n, fun n => n⟩

set_option maxRecDepth 100000 in
theorem sfLays : Go.Proofs.SlLaysF0.n6 Try.prog sfRen := {
  mixed := by kernel_rfl
  f6 := ⟨Try.f90.name, by kernel_rfl, Try.func90.trans (congrArg some (by kernel_rfl))⟩
  f14 := ⟨Try.f143.name, by kernel_rfl, Try.func143.trans (congrArg some (by kernel_rfl))⟩
  f15 := Try.func144.trans (congrArg some (by kernel_rfl))
  f20 := ⟨Try.f182.name, by kernel_rfl, Try.func182.trans (congrArg some (by kernel_rfl))⟩
  f21 := ⟨Try.f183.name, by kernel_rfl, Try.func183.trans (congrArg some (by kernel_rfl))⟩
  f22 := ⟨Try.f184.name, by kernel_rfl, Try.func184.trans (congrArg some (by kernel_rfl))⟩
  f23 := ⟨Try.f185.name, by kernel_rfl, Try.func185.trans (congrArg some (by kernel_rfl))⟩
  f24 := ⟨Try.f186.name, by kernel_rfl, Try.func186.trans (congrArg some (by kernel_rfl))⟩
  f25 := ⟨Try.f187.name, by kernel_rfl, Try.func187.trans (congrArg some (by kernel_rfl))⟩
  f26 := ⟨Try.f188.name, by kernel_rfl, Try.func188.trans (congrArg some (by kernel_rfl))⟩
  f27 := ⟨Try.f189.name, by kernel_rfl, Try.func189.trans (congrArg some (by kernel_rfl))⟩
  f28 := Try.func190.trans (congrArg some (by kernel_rfl))
  f29 := Try.func191.trans (congrArg some (by kernel_rfl))
  f46 := ⟨Try.f218.name, by kernel_rfl, Try.func218.trans (congrArg some (by kernel_rfl))⟩
  f47 := Try.func219.trans (congrArg some (by kernel_rfl))
  f48 := Try.func220.trans (congrArg some (by kernel_rfl))
  f49 := ⟨Try.f221.name, by kernel_rfl, Try.func221.trans (congrArg some (by kernel_rfl))⟩
  f50 := ⟨Try.f222.name, by kernel_rfl, Try.func222.trans (congrArg some (by kernel_rfl))⟩
  f57 := ⟨Try.f230.name, by kernel_rfl, Try.func230.trans (congrArg some (by kernel_rfl))⟩
  t0 := Try.underlying0
  a0 := Try.isAgg0
  z0 := Try.sizeOf0
  v0 := Try.zeroValue0
  t3 := Try.underlying3
  a3 := Try.isAgg3
  z3 := Try.sizeOf3
  v3 := Try.zeroValue3
  t4 := Try.underlying4
  a4 := Try.isAgg4
  z4 := Try.sizeOf4
  v4 := Try.zeroValue4
  t5 := Try.underlying5
  a5 := Try.isAgg5
  z5 := Try.sizeOf5
  v5 := Try.zeroValue5
  t9 := Try.underlying9
  a9 := Try.isAgg9
  z9 := Try.sizeOf9
  v9 := Try.zeroValue9
  t22 := Try.underlying44
  a22 := Try.isAgg44
  z22 := Try.sizeOf44
  v22 := Try.zeroValue44
  t25 := Try.underlying124
  a25 := Try.isAgg124
  z25 := Try.sizeOf124
  v25 := Try.zeroValue124
  t39 := Try.underlying175
  a39 := Try.isAgg175
  z39 := Try.sizeOf175
  v39 := Try.zeroValue175
  t45 := Try.underlying214
  a45 := Try.isAgg214
  z45 := Try.sizeOf214
  v45 := Try.zeroValue214
  t46 := Try.underlying215
  a46 := Try.isAgg215
  z46 := Try.sizeOf215
  v46 := Try.zeroValue215
  t50 := Try.underlying219
  a50 := Try.isAgg219
  z50 := Try.sizeOf219
  v50 := Try.zeroValue219
  t53 := Try.underlying222
  a53 := Try.isAgg222
  z53 := Try.sizeOf222
  v53 := Try.zeroValue222
  t55 := Try.underlying224
  a55 := Try.isAgg224
  z55 := Try.sizeOf224
  v55 := Try.zeroValue224
  t66 := Try.underlying242
  a66 := Try.isAgg242
  z66 := Try.sizeOf242
  v66 := Try.zeroValue242
  t70 := Try.underlying208
  a70 := Try.isAgg208
  z70 := Try.sizeOf208
  v70 := Try.zeroValue208
  t76 := Try.underlying251
  a76 := Try.isAgg251
  z76 := Try.sizeOf251
  v76 := Try.zeroValue251
  t77 := Try.underlying252
  a77 := Try.isAgg252
  z77 := Try.sizeOf252
  v77 := Try.zeroValue252 }
end Go.Proofs.Ytcblmkhhhibddaa

namespace Go.Proofs.Ytcblmkhhhibddaa
open Go.RowKit Go.Lib Go.Sort

instance : Inhabited Bd := ⟨⟨0, varTm 0⟩⟩
def cmpB (x y : Bd) : Int := cmpI x.v y.v

set_option maxHeartbeats 1000000 in
set_option maxRecDepth 100000 in
theorem binds1_calls (x y : Bd) (w : World) : Calls Try.prog 198 #[.agg #[.int .i64 x.v, .int .i64 x.t.k, .int .i64 x.t.n, .string x.t.s, .slice x.t.p x.t.l.length x.t.c], .agg #[.int .i64 y.v, .int .i64 y.t.k, .int .i64 y.t.n, .string y.t.s, .slice y.t.p y.t.l.length y.t.c]] w fun e w' => e = .returned (.int .i64 (cmpB x y)) ∧ ∃ q os', w' = grow (w.drewN q) os' := by
  have hcon := fun W' => compare_int64 x.v y.v W'
  unfold cmpB
  generalize cmpI x.v y.v = r at hcon ⊢
  go_enter Try.func198, Try.ntmps198
  go_wp2_with (go_at_call 92; refine (hcon _).mono ?_; rintro e w' ⟨rfl, rfl⟩)
  go_ret
  exact ⟨rfl, 0, _, by rw [alloc_eq_grow, alloc_eq_grow, grow_grow]; rfl⟩

theorem cmpLaysB (blk off size : Nat) (w : World) : CmpLays Try.prog 198 #[] Bd.cells 5 cmpB blk off size w :=
  fun _ _ _ _ x y => binds1_calls x y _

theorem ltB (x y : Bd) : ltOf cmpB x y = decide (x.v < y.v) := by
  unfold ltOf cmpB
  by_cases h : x.v < y.v
  · rw [decide_eq_true h, decide_eq_true ((cmpI_negD _ _).2 h)]
  · rw [decide_eq_false h, decide_eq_false (fun h2 => h ((cmpI_negD _ _).1 h2))]
theorem swoB : SWO (ltOf cmpB) where
  irrefl x := by rw [ltB]; simp
  trans x y z h1 h2 := by rw [ltB] at *; simp at *; omega
  ntrans x y z h1 h2 := by rw [ltB] at *; simp at *; omega

theorem bdcells_len : ∀ l : List Bd, (l.flatMap Bd.cells).length = l.length * 5
  | [] => rfl
  | x :: xs => by rw [List.flatMap_cons, List.length_append, bdcells_len xs, List.length_cons, Bd.cells, Tm.cells]; simp; omega
theorem bdcells_at : ∀ {l : List Bd} {i : Nat} {x : Bd}, l[i]? = some x → ∀ j, j < 5 → (l.flatMap Bd.cells)[i * 5 + j]? = x.cells[j]?
  | y :: ys, 0, x, h, j, hj => by
    simp only [List.getElem?_cons_zero, Option.some.injEq] at h
    subst h
    rw [List.flatMap_cons, Nat.zero_mul, Nat.zero_add, List.getElem?_append_left (by simp [Bd.cells, Tm.cells]; omega)]
  | y :: ys, i + 1, x, h, j, hj => by
    simp only [List.getElem?_cons_succ] at h
    rw [List.flatMap_cons, List.getElem?_append_right (by simp [Bd.cells, Tm.cells]; omega), ← bdcells_at h j hj]
    simp only [Bd.cells, Tm.cells, List.length_cons, List.length_nil]
    congr 1
    omega
theorem flatB (l : List Bd) : (flatK Bd.cells 5 l.toArray).toList = l.flatMap Bd.cells := by
  apply List.ext_getElem?
  intro t
  by_cases ht : t < l.length * 5
  · have hi : t / 5 < l.length := by omega
    have h1 := bdcells_at (List.getElem?_eq_getElem hi) (t % 5) (by omega)
    rw [show t / 5 * 5 + t % 5 = t by omega] at h1
    rw [h1, Array.getElem?_toList]
    have h2 := get_flatK Bd.cells 5 l.toArray t (by simpa using ht)
    have h3 : t < (flatK Bd.cells 5 l.toArray).size := by rw [size_flatK]; simpa using ht
    rw [getElem!_pos (flatK Bd.cells 5 l.toArray) t h3] at h2
    rw [Array.getElem?_eq_getElem h3, h2]
    have h4 : (l.toArray)[t / 5]! = l[t / 5] := by rw [getElem!_pos l.toArray (t / 5) (by simpa using hi)]; simp
    have h5 : t % 5 < (l[t / 5].cells).length := by simp [Bd.cells, Tm.cells]; omega
    rw [h4, getElem!_pos (l[t / 5].cells) (t % 5) h5, List.getElem?_eq_getElem h5]
  · rw [List.getElem?_eq_none (by simp; omega), List.getElem?_eq_none (by rw [bdcells_len]; omega)]

theorem holds_vals {w : World} {g : Nat} {cur L : Array Value} {e : TypeId} (hb : w.heap[g]? = some (.cells cur e (0, 0))) (ht : cur.toList.take L.size = L.toList) : Holds id w g 0 L := by
  intro j hj
  refine ⟨?_, by simp [World.frozen?, hb]⟩
  have h1 : (cur.toList.take L.size)[j]? = L.toList[j]? := by rw [ht]
  rw [List.getElem?_take_of_lt hj, Array.getElem?_toList, Array.getElem?_toList] at h1
  rw [Nat.zero_add, cell_of_row w g j _ _ _ hb, h1]
  simp [hj]
theorem put_otherV {w : World} {g n k : Nat} (d : Array Value) (hne : g ≠ k) : (putRow id (Go.Sort.ahead w n) g 0 d).heap[k]? = w.heap[k]? := by
  simp [putRow, mapBlock, Go.Sort.ahead, Array.getElem?_modify, hne]
theorem put_sameV {w : World} {g n : Nat} {cur : Array Value} {e : TypeId} (d : Array Value) (hb : w.heap[g]? = some (.cells cur e (0, 0))) : (putRow id (Go.Sort.ahead w n) g 0 d).heap[g]? = some (.cells (putCells id 0 d cur) e (0, 0)) := by
  simp [putRow, mapBlock, Go.Sort.ahead, Array.getElem?_modify, hb, onCells]
theorem take_putV (cur d : Array Value) (h : d.size ≤ cur.size) : (putCells id 0 d cur).toList.take d.size = d.toList := by
  apply List.ext_getElem?
  intro j
  by_cases hj : j < d.size
  · rw [List.getElem?_take_of_lt hj, Array.getElem?_toList]
    simp [putCells, hj, show j < cur.size by omega]
  · rw [List.getElem?_take_eq_none (by omega), List.getElem?_eq_none (by simp; omega)]

/-- slices.SortFunc of binds of the call's own. -/
theorem sortBds_calls (B : Nat) (v : Value) (lo : List Bd) (w : World) (h : BuiltBds w B v lo) (hn : lo.length ≤ 1099511627777) (hB : B ≤ w.heap.size) :
    Calls Try.prog 90 #[v, .func (.func 198) #[] #[]] w fun e w' => e = .returned (.tuple #[]) ∧ ∃ lo', lo'.Perm lo ∧ lo'.Pairwise (fun x y => x.v ≤ y.v) ∧ BuiltBds w' B v lo' ∧ Below B w w' := by
  rcases h.2 with ⟨hv, h0⟩ | ⟨g, cap, cur, rfl, hg0, hblk, hnc, hcm, hsz, htk⟩
  · obtain rfl : lo = [] := List.eq_nil_of_length_eq_zero h0
    rw [hv] at h ⊢
    refine (Go.Proofs.AnyF.slices_SortFunc_none sfLays none 0 _ w).mono ?_
    rintro e w' ⟨rfl, rfl⟩
    exact ⟨rfl, [], List.Perm.refl _, List.Pairwise.nil, h, Below.refl _ _⟩
  · have hgl : g < w.heap.size := (Array.getElem?_eq_some_iff.1 hblk).1
    have hH : HoldsK Bd.cells 5 w g 0 lo.toArray := holds_vals hblk (by
      rw [size_flatK, flatB]; simpa using htk)
    have hcall := Go.Proofs.AnyQ.slices_SortFunc sfLays 5 (fun w => Try.isAgg117 w) (fun w => Try.sizeOf117 w) Bd.cells (fun _ => rfl) (fun x v hv => by simp [Bd.cells, Tm.cells] at hv; rcases hv with rfl | rfl | rfl | rfl | rfl <;> rfl) cmpB swoB 198 #[] g 0 cap lo.toArray w
      (fun args w => by kernel_rfl) (cmpLaysB _ _ _ _) hH hgl (by simp; omega)
    rw [show lo.toArray.size = lo.length from by simp] at hcall
    refine hcall.mono ?_
    rintro e w' ⟨rfl, d', n, os, hp, hs, rfl⟩
    have hds : d'.size = lo.length := by rw [hp.1]; simp
    have hpl : d'.toList.Perm lo := by
      have := hp.2.2
      rw [show d'.extract 0 lo.length = d' by rw [← hds]; simp] at this
      simpa using this
    refine ⟨rfl, d'.toList, hpl, ?_, ?_, ?_⟩
    · rw [List.pairwise_iff_getElem]
      intro i j hi hj hij
      have hi' : i < d'.size := by simpa using hi
      have hj' : j < d'.size := by simpa using hj
      have := hs i j (Nat.zero_le _) hij (by omega)
      rw [ltB, getElem!_pos d' j hj', getElem!_pos d' i hi'] at this
      have := of_decide_eq_false this
      simp only [Array.getElem_toList]
      omega
    · refine ⟨by rw [bdcells_len], .inr ⟨g, cap, putCells id 0 (flatK Bd.cells 5 d') cur, by simp [hds], hg0, ?_, by simpa [hds] using hnc, hcm, ?_, ?_⟩⟩
      · exact (heap_grow_old _ _ (by simpa [putRow, putRowK, mapBlock, Go.Sort.ahead] using hgl)).trans (put_sameV _ hblk)
      · simpa [putCells] using hsz
      · have := take_putV cur (flatK Bd.cells 5 d') (by rw [size_flatK, hds, hsz]; exact Nat.mul_le_mul_right 5 hnc)
        rw [size_flatK] at this
        rw [Array.length_toList, this]
        exact flatB d'.toList
    · refine ⟨rfl, rfl, rfl, by simp [sortWorldK, putRowK, putRow, mapBlock, Go.Sort.ahead, grow], fun k hk => ?_⟩
      exact (heap_grow_old _ _ (Nat.lt_of_lt_of_le (Nat.lt_of_lt_of_le hk hB) (by simp [putRow, putRowK, mapBlock, Go.Sort.ahead]))).trans (put_otherV _ (by omega))
end Go.Proofs.Ytcblmkhhhibddaa

namespace Go.Proofs.Ytcblmkhhhibddaa
open Go.RowKit Go.Lib

/-- What has been made is a slice of binds. -/
theorem BuiltBds.bds {w : World} {B : Nat} {v : Value} {l : List Bd} (h : BuiltBds w B v l) (hl : l.length * 64 ≤ 140737488351232) (hs : ∀ y ∈ l, y.t.In w ∧ In64 y.v) :
    ∃ p c, v = .slice p l.length c ∧ (Bds.mk p c l).In w := by
  rcases h.2 with ⟨rfl, h1⟩ | ⟨g, cap, cur, h0, hbg, hg, hnc, hcm, hcs, htake⟩
  · have hn : l = [] := List.eq_nil_of_length_eq_zero h1
    subst hn
    exact ⟨none, 0, rfl, Nat.le_refl _, ⟨by simp, by simp⟩, .inl rfl, fun y hy => by simp at hy⟩
  · simp only [maxLen] at hcm
    refine ⟨some ⟨g, 0, none⟩, cap, h0, hnc, ⟨hl, by simp only; omega⟩, .inr ⟨g, 0, rfl, ?_⟩, hs⟩
    intro i x hx
    have hi : i < l.length := (List.getElem?_eq_some_iff.1 hx).1
    subst h0
    have hat : ∀ j, j < 5 → w.cell? ⟨g, 0 + i * 5 + j, none⟩ = x.cells[j]? := by
      intro j hj
      rw [Nat.zero_add, World.ownsRow.cellAt h _ (by omega)]
      exact bdcells_at hx j hj
    exact ⟨hat 0 (by omega), hat 1 (by omega), hat 2 (by omega), hat 3 (by omega), hat 4 (by omega)⟩

theorem asc_of : ∀ (l : List Bd) (last : Int), (∀ y ∈ l, last < y.v ∧ y.v ≤ 1099511627776) → l.Pairwise (fun x y => x.v ≤ y.v) → (l.map Bd.v).Nodup → ascB last l = true
  | [], _, _, _, _ => rfl
  | x :: xs, last, h1, h2, h3 => by
    rw [List.pairwise_cons] at h2
    rw [List.map_cons, List.nodup_cons] at h3
    have hx := h1 x (by simp)
    rw [ascB, decide_eq_true hx.1, decide_eq_true hx.2, Bool.true_and, Bool.true_and]
    refine asc_of xs x.v (fun y hy => ⟨?_, (h1 y (by simp [hy])).2⟩) h2.2 h3.2
    have h4 := h2.1 y hy
    have h5 : x.v ≠ y.v := fun e => h3.1 (List.mem_map.2 ⟨y, hy, e.symm⟩)
    omega

/-- The substitution that a map is. -/
def IsBinds (f : Int → Option T) (l : List Bd) : Prop :=
  ascB (-1) l = true ∧ (∀ n t, (∃ y ∈ l, y.v = n ∧ y.t.erase = t) ↔ (f n = some t ∧ t ≠ varT n)) ∧ ∀ y ∈ l, y.t.erase.formed = true ∧ 0 ≤ y.v ∧ y.v ≤ 1099511627776
def RetBinds (S : Nat → Prop) (f : Int → Option T) (w : World) (e : Ending) (w' : World) : Prop :=
  ∃ p c l, e = .returned (.slice p l.length c) ∧ (Bds.mk p c l).In w' ∧ IsBinds f l ∧ (∀ y ∈ l, y.t.On S) ∧ Gr w w'

theorem binds_ret {S : Nat → Prop} {f : Int → Option T} {E : Array MapEntry} {seen : Array Nat} {w w' : World} {B : Nat} {v : Value} {lo lo' : List Bd} (hcol : Col f E seen lo) (hall : ∀ e ∈ E.toList, seen.contains e.born = true) (hin : ∀ n t, f n = some t → ∃ e ∈ E.toList, e.key = kI64 n) (hr : ∀ n, f n ≠ none → 0 ≤ n ∧ n ≤ 1099511627776)
    (hlo : ∀ y ∈ lo, y.t.In w ∧ y.t.On S ∧ y.t.erase.formed = true ∧ 0 ≤ y.v ∧ y.v ≤ 1099511627776) (hp : lo'.Perm lo) (hs : lo'.Pairwise (fun x y => x.v ≤ y.v)) (hb : BuiltBds w' B v lo') (hg : Gr w w') : RetBinds S f w (.returned v) w' := by
  have hlen := hcol.len hr
  have hlen' : lo'.length = lo.length := hp.length_eq
  obtain ⟨p, c, rfl, hB⟩ := hb.bds (by omega) fun y hy => by
    have := hlo y (hp.mem_iff.1 hy)
    exact ⟨Tm.In_below hg this.1, by constructor <;> omega⟩
  refine ⟨p, c, lo', rfl, hB, ⟨asc_of lo' (-1) (fun y hy => ?_) hs ((hp.map Bd.v).nodup_iff.2 hcol.1), fun n t => ?_, fun y hy => ?_⟩, fun y hy => (hlo y (hp.mem_iff.1 hy)).2.1, hg⟩
  · have := hlo y (hp.mem_iff.1 hy)
    omega
  · rw [← hcol.all hall hin n t]
    constructor <;> rintro ⟨y, hy, h⟩
    · exact ⟨y, hp.mem_iff.1 hy, h⟩
    · exact ⟨y, hp.mem_iff.2 hy, h⟩
  · exact (hlo y (hp.mem_iff.1 hy)).2.2
end Go.Proofs.Ytcblmkhhhibddaa

namespace Go.Proofs.Ytcblmkhhhibddaa
open Go.RowKit Go.Maps Go.Lib
open Go.ChangeMaps (setBlock)

set_option maxHeartbeats 4000000 in
set_option maxRecDepth 100000 in
theorem binds_calls {S : Nat → Prop} (b : Nat) (f : Int → Option T) (w : World) (hm : TMap S w b f) : Calls Try.prog 162 #[.map (some b)] w (RetBinds S f w) := by
  generalize hQ : RetBinds S f w = Q
  have HQ := Lib.hid hQ
  clear hQ
  obtain ⟨E, c, hb, hold, hbn, hkn, hent, hin⟩ := hm.entries
  have hr4 : ∀ n, f n ≠ none → 0 ≤ n ∧ n ≤ 1099511627776 := hm.2.2
  have hbl : b < w.heap.size := (Array.getElem?_eq_some_iff.1 hb).1
  have Hb := Lib.hid hb
  have Hold := Lib.hid hold
  have Hbn := Lib.hid hbn
  have Hkn := Lib.hid hkn
  have Hent := Lib.hid hent
  have Hin := Lib.hid hin
  have Hr4 := Lib.hid hr4
  clear hold hbn hkn hent hin hr4 hm
  have hrg0 := run_range_map (P := Try.prog) w 106 2 25 b E c Try.underlying106 hb
  go_enter Try.func162, Try.ntmps162
  try simp only [List.append_eq, List.cons_append, List.nil_append]
  go_wp2_with fail
  go_loopg [3] ((leftOf E #[]).size) (fun m v wr => ∃ (seen : Array Nat) (lo : List Bd), m = (leftOf E seen).size ∧ wr.heap[w.heap.size]? = some (.mapIter (some b) c seen c) ∧ BuiltBds wr (w.heap.size + 1) v lo ∧ Gr w wr ∧ w.heap.size < wr.heap.size ∧ Hid (Col f E seen lo) ∧ Hid (∀ y ∈ lo, y.t.In w ∧ y.t.On S ∧ y.t.erase.formed = true ∧ 0 ≤ y.v ∧ y.v ≤ 1099511627776))
  case atStart => exact ⟨#[], [], rfl, heap_alloc_new w _, World.ownsRow_nil _ _ _ 5, (by go_grown), (by simp), Col.start, fun y hy => nomatch hy⟩
  case round =>
    obtain ⟨seen, lo, rfl, hr, hrow, gr, hsz, hcol, hlo⟩ := hrel
    have hbr : wr.heap[b]? = some (.map E c) := (gr.block b hbl).trans Hb.out
    have Hrow := Lib.hid hrow
    clear hrow
    rcases run_next_at (P := Try.prog) wr 0 w.heap.size b c c seen E c hr hbr Hold.out (Nat.le_refl _) with ⟨h0, hnext⟩ | ⟨e, he, w1, hw1, hnext⟩
    · have Hall := Lib.hid (all_seen E seen h0)
      go_upto_region 7 with fail
      have Hlen := Lib.hid (Col.len hcol.out Hr4.out)
      go_wp2_with (first
        | (go_at_call 90; refine (sortBds_calls (w.heap.size + 1) _ lo wr Hrow.out Hlen.out hsz).mono ?_; rintro e w1 ⟨rfl, lo', hp, hs, hb1, hbw⟩; have Hend := Lib.hid (binds_ret hcol.out Hall.out Hin.out Hr4.out hlo.out hp hs hb1 (Below.trans gr (Below.mono hbw (Nat.le_succ _)))); clear hp hs hb1 hbw)
        | fail)
      try go_ret
      rw [← HQ.out]
      exact Hend.out
    · obtain ⟨hem, hes⟩ := mem_left he
      have hlt := left_shrinks E seen e he
      obtain ⟨hkp, hr2⟩ := kp_step (o' := .mapIter (some b) c (seen.push e.born) c) hr hw1
      generalize setBlock w1 w.heap.size (.mapIter (some b) c (seen.push e.born) c) = w2 at hnext hkp hr2
      have g2 : Gr w w2 := Kp.gr_at gr hkp (Nat.le_refl _)
      have hbr2 : w2.heap[b]? = some (.map E c) := (g2.block b hbl).trans Hb.out
      have hentry := run_entry_at (P := Try.prog) w2 w.heap.size b c seen E c e hr2 hbr2 hem Hbn.out
      have hsz2 : w.heap.size < w2.heap.size := Nat.lt_of_lt_of_le hsz hkp.size
      have Hrow2 := Lib.hid (BuiltBds.kp Hrow.out hkp (fun x hx h => by omega))
      obtain ⟨n, tm, hkey, hval, hfn, htin, hform, hton, hn0, hn1⟩ := Hent.out e hem
      have Htv := Lib.hid (show tm.val = .agg #[.int .i64 tm.k, .int .i64 tm.n, .string tm.s, .slice tm.p tm.l.length tm.c] from rfl)
      rw [hkey, hval, Htv.out] at hnext hentry
      simp only [kI64] at hnext hentry
      have Hem := Lib.hid hem
      have Hes := Lib.hid hes
      have Hkey := Lib.hid hkey
      have Hfn := Lib.hid hfn
      clear hem hes hkey hfn hval he hw1 hkp hr hbr
      go_upto_region 5 with fail
      have hB := BlkT.new w2 25 #[.int .i64 tm.k, .int .i64 tm.n, .string tm.s, .slice tm.p tm.l.length tm.c]
      have gB : Gr w2 (w2.alloc (.cells #[.int .i64 tm.k, .int .i64 tm.n, .string tm.s, .slice tm.p tm.l.length tm.c] 25)) := by go_grown
      generalize w2.alloc (.cells #[.int .i64 tm.k, .int .i64 tm.n, .string tm.s, .slice tm.p tm.l.length tm.c] 25) = wB at *
      have hrB : wB.heap[w.heap.size]? = some (.mapIter (some b) c (seen.push e.born) c) := (gB.block _ hsz2).trans hr2
      have grB : Gr w wB := g2.trans gB
      have hszB : w.heap.size < wB.heap.size := Nat.lt_of_lt_of_le hsz2 gB.size
      generalize w2.heap.size = H at *
      have HB := Lib.hid hB
      have HrB := Lib.hid hrB
      have HrowB := Lib.hid (Hrow2.out.gr gB)
      have Hvar := Lib.hid (var_iff hform n)
      clear hB hrB hr2 gB g2 hbr2 hentry hnext
      have t0 := HB.out.cell 0 (v := .int .i64 tm.k) rfl
      have t1 := HB.out.cell 1 (v := .int .i64 tm.n) rfl
      by_cases hv : tm.k = 1 ∧ tm.n = n
      · have Hcol := Lib.hid (Col.skip hcol.out Hbn.out Hem.out Hkey.out (by rw [Hfn.out, Hvar.out.2 hv]))
        obtain ⟨hv1, hv2⟩ := hv
        have hk1 : (tm.k != 1) = false := by simp [hv1]
        have hk2 : (tm.n != n) = false := by simp [hv2]
        clear hv1 hv2
        go_wp2_with fail
        go_roundg ((leftOf E (seen.push e.born)).size)
        case measure => exact hlt
        case rel => exact ⟨_, lo, rfl, HrB.out, HrowB.out, grB, hszB, Hcol.out, hlo.out⟩
      · have Hcol := Lib.hid (Col.snoc hcol.out Hbn.out Hkn.out Hem.out Hes.out Hkey.out Hfn.out (fun h => hv (Hvar.out.1 h)))
        have Hlen := Lib.hid (Col.len Hcol.out Hr4.out)
        have t2 := HB.out.cell 2 (v := .string tm.s) rfl
        have t3 := HB.out.cell 3 (v := .slice tm.p tm.l.length tm.c) rfl
        have Hlo := Lib.hid (show ∀ y ∈ lo ++ [Bd.mk n tm], y.t.In w ∧ y.t.On S ∧ y.t.erase.formed = true ∧ 0 ≤ y.v ∧ y.v ≤ 1099511627776 from fun y hy => by
          rcases List.mem_append.1 hy with hy | hy
          · exact hlo.out y hy
          · rw [List.mem_singleton] at hy
            subst hy
            exact ⟨htin, hton, hform, hn0, hn1⟩)
        have Hlen2 : (lo.length + 1) * 64 ≤ 140737488351232 := by
          have := Hlen.out
          rw [List.length_append, List.length_singleton] at this
          omega
        have Hgo := Lib.hid (show ∀ w4 v', BuiltBds w4 (w.heap.size + 1) v' (lo ++ [⟨n, tm⟩]) → Below (w.heap.size + 1) wB w4 → ∃ (seen' : Array Nat) (lo' : List Bd), (leftOf E (seen.push e.born)).size = (leftOf E seen').size ∧ w4.heap[w.heap.size]? = some (.mapIter (some b) c seen' c) ∧ BuiltBds w4 (w.heap.size + 1) v' lo' ∧ Gr w w4 ∧ w.heap.size < w4.heap.size ∧ Hid (Col f E seen' lo') ∧ Hid (∀ y ∈ lo', y.t.In w ∧ y.t.On S ∧ y.t.erase.formed = true ∧ 0 ≤ y.v ∧ y.v ≤ 1099511627776) from fun w4 v' h1 h2 =>
          ⟨_, _, rfl, (h2.block _ (Nat.lt_succ_self _)).trans HrB.out, h1, Below.trans grB (Below.mono h2 (Nat.le_succ _)), Nat.lt_of_lt_of_le hszB h2.size, Hcol, Hlo⟩)
        have Hor : Hid (tm.k ≠ 1 ∨ tm.n ≠ n) := by
          show _ ∨ _
          by_cases h1 : tm.k = 1
          · exact .inr fun h2 => hv ⟨h1, h2⟩
          · exact .inl h1
        clear hv
        rcases Hor.out with h1 | h1
        · have hk1 : (tm.k != 1) = true := by simp [h1]
          clear h1
          go_wp2_with (first
            | (refine wpList_append_bd rfl _ _ rfl rfl (w.heap.size + 1) _ lo ⟨n, tm⟩ wB.heap.size 1 (by rfl) (by rfl) (HrowB.out.gr (by go_grown)) (by simp; omega) Hlen2 (BlkT.new wB _ _) ?_
               intro v' w4 h2 h3 h4)
            | fail)
          go_roundg ((leftOf E (seen.push e.born)).size)
          case measure => exact hlt
          case rel => exact Hgo.out w4 v' h2 (Below.trans (Below.mono (show Gr wB _ by go_grown) hszB) (grownBy_below h3 (by simp; omega) fun b hb => HrowB.out.ge hb))
        · cases hk1 : (tm.k != 1) with
          | true =>
            clear h1
            go_wp2_with (first
              | (refine wpList_append_bd rfl _ _ rfl rfl (w.heap.size + 1) _ lo ⟨n, tm⟩ wB.heap.size 1 (by rfl) (by rfl) (HrowB.out.gr (by go_grown)) (by simp; omega) Hlen2 (BlkT.new wB _ _) ?_
                 intro v' w4 h2 h3 h4)
              | fail)
            go_roundg ((leftOf E (seen.push e.born)).size)
            case measure => exact hlt
            case rel => exact Hgo.out w4 v' h2 (Below.trans (Below.mono (show Gr wB _ by go_grown) hszB) (grownBy_below h3 (by simp; omega) fun b hb => HrowB.out.ge hb))
          | false =>
            have hk2 : (tm.n != n) = true := by simp [h1]
            clear h1
            go_wp2_with (first
              | (refine wpList_append_bd rfl _ _ rfl rfl (w.heap.size + 1) _ lo ⟨n, tm⟩ wB.heap.size 1 (by rfl) (by rfl) (HrowB.out.gr (by go_grown)) (by simp; omega) Hlen2 (BlkT.new wB _ _) ?_
                 intro v' w4 h2 h3 h4)
              | fail)
            go_roundg ((leftOf E (seen.push e.born)).size)
            case measure => exact hlt
            case rel => exact Hgo.out w4 v' h2 (Below.trans (Below.mono (show Gr wB _ by go_grown) hszB) (grownBy_below h3 (by simp; omega) fun b hb => HrowB.out.ge hb))
end Go.Proofs.Ytcblmkhhhibddaa

namespace Go.Proofs.Ytcblmkhhhibddaa
open Go.RowKit Go.Maps Go.Lib

theorem TMap.made (S : Nat → Prop) (w : World) : TMap S (w.alloc (.map #[] 0)) w.heap.size (fun _ => none) :=
  ⟨⟨fun _ => none, ⟨#[], 0, heap_alloc_new _ _, (fun _ he => nomatch he), List.nodup_nil, fun _ _ => ⟨fun h => (nomatch h), fun ⟨_, he, _⟩ => nomatch he⟩⟩, fun _ => rfl⟩, Stm.made kI64 w, fun _ h => absurd rfl h⟩

theorem TMap.store {S : Nat → Prop} {w : World} {b : Nat} {f : Int → Option T} (h : TMap S w b f) (hb : ∀ x, S x → x ≠ b) {n : Int} (hn : 0 ≤ n ∧ n ≤ 1099511627776) {tm : Tm} (hin : tm.In w) (hf : tm.erase.formed = true) (hon : tm.On S) :
    ∃ w', (Instr.mapUpdate 106 (.map (some b)) (.int .i64 n) tm.val).run Try.prog w = .ok () w' ∧ TMap S w' b (fun x => if x = n then some tm.erase else f x) ∧ w.grownBy w' (some b) := by
  obtain ⟨⟨g, h1, h2⟩, h3, h4⟩ := h
  obtain ⟨w', hr, hg, hgb, hs⟩ := h1.updateS h3 (int_keyed Try.underlying2) Try.underlying106 (x := n) (keyOf_int_mk Try.underlying2 (wf_64 (by constructor <;> omega))) (fun y hy => kI64_inj hy) tm.val (g := fun x => if x = n then some tm.val else g x) (if_pos rfl) (fun y hy => if_neg hy)
  have hk : Kp (· = b) w w' := Kp.of_grownBy hgb rfl
  refine ⟨w', hr, ⟨⟨_, hg, fun x => ?_⟩, hs, fun x hx => ?_⟩, hgb⟩
  · by_cases hx : x = n
    · simp only [if_pos hx]
      exact ⟨tm, rfl, in_after' hin hon fun y hy hl _ => World.cell?_of_block (hk.block y hl (hb y hy)), rfl, hf, hon⟩
    · simp only [if_neg hx]
      have := h2 x
      cases hfx : f x with
      | none => rw [hfx] at this; exact this
      | some t =>
        rw [hfx] at this
        obtain ⟨u, i1, i2, i3, i4, i5⟩ := this
        exact ⟨u, i1, in_after' i2 i5 fun y hy hl _ => World.cell?_of_block (hk.block y hl (hb y hy)), i3, i4, i5⟩
  · by_cases hxn : x = n
    · subst hxn; exact hn
    · exact h4 x (by simpa [hxn] using hx)
end Go.Proofs.Ytcblmkhhhibddaa

namespace Go.Proofs.Ytcblmkhhhibddaa
open Go.RowKit Go.Maps Go.Lib

/-- Binds laid into a map, one after another. -/
def putAll (g : Bd → T) (l : List Bd) (f : Int → Option T) : Int → Option T := l.foldl (fun f y => fun x => if x = y.v then some (g y) else f x) f
/-- P4: the map of a composition. -/
def compM (s u : List Bd) : Int → Option T := putAll (fun y => T.map (lookupT u) y.t.erase) s (putAll (fun y => y.t.erase) u (fun _ => none))
def compErr (s u : List Bd) : Int := if bindsErr s = 2 ∨ bindsErr u = 2 then 2 else if bindsErr s ≠ 0 ∨ bindsErr u ≠ 0 then 1 else 0

theorem putAll_snoc (g : Bd → T) (l : List Bd) (f : Int → Option T) (k : Nat) (hk : k < l.length) : putAll g (l.take (k + 1)) f = fun x => if x = l[k].v then some (g l[k]) else putAll g (l.take k) f x := by
  rw [List.take_succ_eq_append_getElem hk, putAll, List.foldl_append]
  rfl
theorem lookup_formed {l : List Bd} (hf : (l.all fun y => y.t.erase.formed) = true) : ∀ n, 0 ≤ n → n ≤ 1099511627776 → (lookupT l n).formed = true := by
  induction l with
  | nil => intro n h1 h2; simp [lookupT, varT, T.formed, h1, h2]
  | cons x xs ih =>
    intro n h1 h2
    rw [List.all_cons, Bool.and_eq_true] at hf
    rw [lookupT]
    by_cases h : x.v = n
    · rw [if_pos h]; exact hf.1
    · rw [if_neg h]; exact ih hf.2 n h1 h2
theorem bindsErr_zero {l : List Bd} (h : bindsErr l = 0) : (l.all fun y => y.t.erase.formed) = true ∧ ascB (-1) l = true := by
  rw [bindsErr] at h
  by_cases h1 : (l.all fun y => y.t.erase.formed) = true
  · rw [if_pos h1] at h
    by_cases h2 : ascB (-1) l = true
    · exact ⟨h1, h2⟩
    · rw [if_neg h2] at h; cases h
  · rw [if_neg h1] at h; cases h
theorem formed_at {l : List Bd} (hf : (l.all fun y => y.t.erase.formed) = true) (k : Nat) (hk : k < l.length) : l[k].t.erase.formed = true := List.all_eq_true.1 hf _ (List.getElem_mem hk)
theorem asc_at {l : List Bd} (h : ascB (-1) l = true) (k : Nat) (hk : k < l.length) : 0 ≤ l[k].v ∧ l[k].v ≤ 1099511627776 := by
  have := (asc_spec l (-1) h).1 k hk
  omega

/-- Compose: an errno with nothing, or the binds of the map. -/
def RetComp (s u : List Bd) (w : World) (e : Ending) (w' : World) : Prop :=
  ∃ p c l, e = .returned (.tuple #[.slice p l.length c, .int .i64 (compErr s u)]) ∧ (Bds.mk p c l).In w' ∧ Gr w w' ∧ (compErr s u ≠ 0 → l = []) ∧ (compErr s u = 0 → IsBinds (compM s u) l)
theorem comp_err {s u : List Bd} {w w' : World} {e : Int} (he : compErr s u = e) (h0 : e ≠ 0) (hg : Gr w w') : RetComp s u w (.returned (.tuple #[.slice none 0 0, .int .i64 e])) w' :=
  ⟨none, 0, [], by rw [he]; rfl, ⟨Nat.le_refl _, ⟨by simp, by simp⟩, .inl rfl, fun y hy => nomatch hy⟩, hg, fun _ => rfl, fun h => absurd (he.symm.trans h) h0⟩
theorem bindsErr_cases3 (l : List Bd) : bindsErr l = 0 ∨ bindsErr l = 1 ∨ bindsErr l = 2 := by
  rw [bindsErr]; repeat' split
  all_goals simp
end Go.Proofs.Ytcblmkhhhibddaa
