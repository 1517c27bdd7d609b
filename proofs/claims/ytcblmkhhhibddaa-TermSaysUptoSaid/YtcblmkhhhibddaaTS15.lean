/-
  Slices of binds that a call makes by append; an iterator's step turns one block.
  The laying of slices.SortFunc at binds. Printed by gen_ddd.py.
  slices.SortFunc at binds, by the variable.
  What term.Binds hands back.
  term.Binds: the walk.
  A map of terms: made, stored into.
  term.Compose: what it computes; the walk.
  hornref.Compose, plain: a bind is put where it belongs; two lists of binds of one map say the same.
-/
import Derived.Test.YtcblmkhhhibddaaTS14
import Derived.Test.YtcblmkhhhibddaaTS03
import Derived.Test.YtcblmkhhhibddaaTS06
import Derived.Shelf.SlSortCmp.NoneTotal
import Derived.Test.YtcblmkhhhibddaaTS08
namespace Go.Proofs.Ytcblmkhhhibddaa
open Go.RowKit Go.Maps Go.Lib
open Go.ChangeMaps (setBlock)

/-- The slice v of the call's own (blocks from B on) holds the binds l. -/
def BuiltBds (w : World) (B : Nat) (v : Value) (l : List Bd) : Prop := w.ownsRow B 117 5 v l.length (l.flatMap Bd.cells)

/-- append of one bind. -/
theorem wpList_append_bd {P : Program} {w : World} {ops : Array Oper} {rest : List Oper} {o : Oper} {a : Act} {Q : Exit → Act → World → Prop} (hgd : o.guard = none) (s y : Operand)
    (ho : o.op = .call { callee := .builtin .append, args := #[s, y], argTypes := #[44, 44] }) (hP : P = Try.prog)
    (B : Nat) (v : Value) (l : List Bd) (x : Bd) (b c : Nat) (hs : a.eval s = v) (hy : a.eval y = .slice (some ⟨b, 0, none⟩) 1 c) (h : BuiltBds w B v l) (hB : B ≤ w.heap.size) (hl : (l.length + 1) * 64 ≤ 140737488351232)
    (hX : BlkT w b 117 (bdCells x))
    (hK : ∀ v' w', BuiltBds w' B v' (l ++ [x]) → w.grownBy w' v.ownBlock → (v'.ownBlock = v.ownBlock ∨ v'.ownBlock = some w.heap.size) → wpList P ops Q rest (a.put o.dst v') w') : wpList P ops Q (o :: rest) a w := by
  subst hP
  refine wpList_append_one hgd s y 44 117 ho Try.underlying44 infoBd rfl (by decide) B v l.length (l.flatMap Bd.cells) b c x.cells hs hy h hB rfl ?_ ?_ (by simp only [maxLen]; omega) (by omega) ?_
  · intro j u hu
    match j, hu with
    | 0, hu => cases hu; exact hX.cell 0 rfl
    | 1, hu => cases hu; exact hX.cell 1 rfl
    | 2, hu => cases hu; exact hX.cell 2 rfl
    | 3, hu => cases hu; exact hX.cell 3 rfl
    | 4, hu => cases hu; exact hX.cell 4 rfl
    | j + 5, hu => simp [Bd.cells, Tm.cells] at hu
  · intro u hu
    simp only [Bd.cells, Tm.cells, List.mem_cons, List.mem_nil_iff, or_false] at hu
    rcases hu with rfl | rfl | rfl | rfl | rfl <;> rfl
  · intro v' w' h2 h3 h4
    refine hK v' w' ?_ h3 h4
    show w'.ownsRow B _ 5 v' _ _
    rw [List.length_append, List.flatMap_append]
    simpa using h2

theorem kp_step {w w1 : World} {r : Nat} {o o' : Obj} (hr : w.heap[r]? = some o) (h1 : w1 = w ∨ w1 = w.drew) : Kp (· = r) w (setBlock w1 r o') ∧ (setBlock w1 r o').heap[r]? = some o' := by
  have hr1 : w1.heap[r]? = some o := by rcases h1 with rfl | rfl <;> exact hr
  obtain ⟨hs, h2⟩ := MapKept.heap_set (o' := o') hr1
  refine ⟨?_, hs⟩
  rcases h1 with rfl | rfl
  · exact ⟨rfl, rfl, rfl, by simp [setBlock], fun k _ hk => h2 k hk⟩
  · exact ⟨rfl, rfl, rfl, by simp [setBlock], fun k _ hk => h2 k hk⟩
/-- What turns but one block of the call's own is growth. -/
theorem Kp.gr_at {w w1 w2 : World} {r : Nat} (h : Gr w w1) (hk : Kp (· = r) w1 w2) (hr : w.heap.size ≤ r) : Gr w w2 :=
  Below.trans h (⟨hk.os, hk.tape, hk.output, hk.size, fun k h1 => hk.block k (Nat.lt_of_lt_of_le h1 h.size) (by omega)⟩ : Below w.heap.size w1 w2)
theorem BuiltBds.kp {C : Nat → Prop} {w w' : World} {B : Nat} {v : Value} {l : List Bd} (h : BuiltBds w B v l) (hK : Kp C w w') (hC : ∀ b, B ≤ b → ¬ C b) : BuiltBds w' B v l := by
  refine ⟨h.1, h.2.imp id ?_⟩
  rintro ⟨g, cap, cur, rfl, h2, h3, h4⟩
  exact ⟨g, cap, cur, rfl, h2, by rw [hK.block g (Array.getElem?_eq_some_iff.1 h3).1 (hC g h2)]; exact h3, h4⟩
theorem BuiltBds.ge {w : World} {B : Nat} {v : Value} {l : List Bd} (h : BuiltBds w B v l) {b : Nat} (hb : v.ownBlock = some b) : B ≤ b := by
  rcases h.2 with ⟨rfl, _⟩ | ⟨g, cap, cur, rfl, h2, _⟩
  · cases hb
  · cases hb; exact h2
theorem BuiltBds.gr {w w' : World} {B : Nat} {v : Value} {l : List Bd} (h : BuiltBds w B v l) (hg : Gr w w') : BuiltBds w' B v l := ownsRow_gr h hg
end Go.Proofs.Ytcblmkhhhibddaa

namespace Go.Proofs.Ytcblmkhhhibddaa
open Go.RowKit

def sfRen : Go.Shelf.Ren := ⟨fun | 6 => 90 | 14 => 143 | 15 => 144 | 20 => 182 | 21 => 183 | 22 => 184 | 23 => 185 | 24 => 186 | 25 => 187 | 26 => 188 | 27 => 189 | 28 => 190 | 29 => 191 | 46 => 218 | 47 => 219 | 48 => 220 | 49 => 221 | 50 => 222 | 57 => 230 | n => n, fun | 0 => 0 | 3 => 3 | 4 => 4 | 5 => 5 | 9 => 9 | 22 => 44 | 24 => 117 | 25 => 124 | 39 => 175 | 45 => 214 | 46 => 215 | 50 => 219 | 53 => 222 | 55 => 224 | 66 => 242 | 70 => 208 | 76 => 251 | 77 => 252 | n => n, fun n => n⟩

set_option maxRecDepth 100000 in
theorem sfLays : Go.Proofs.SlLaysF0.n6 Try.prog sfRen := {
  mixed := by kernel_rfl
  f6 := ⟨Try.f90.name, by kernel_rfl, Try.func90.trans (congrArg some (by kernel_rfl))⟩
  f14 := ⟨Try.f143.name, by kernel_rfl, Try.func143.trans (congrArg some (by kernel_rfl))⟩
  f15 := Try.func144.trans (congrArg some (by kernel_rfl))
  f20 := ⟨Try.f182.name, by kernel_rfl, Try.func182.trans (congrArg some (by kernel_rfl))⟩
  f21 := ⟨Try.f183.name, by kernel_rfl, Try.func183.trans (congrArg some (by kernel_rfl))⟩
  f22 := ⟨Try.f184.name, by kernel_rfl, Try.func184.trans (congrArg some (by kernel_rfl))⟩
  f23 := ⟨Try.f185.name, by kernel_rfl, Try.func185.trans (congrArg some (by kernel_rfl))⟩
  f24 := ⟨Try.f186.name, by kernel_rfl, Try.func186.trans (congrArg some (by kernel_rfl))⟩
  f25 := ⟨Try.f187.name, by kernel_rfl, Try.func187.trans (congrArg some (by kernel_rfl))⟩
  f26 := ⟨Try.f188.name, by kernel_rfl, Try.func188.trans (congrArg some (by kernel_rfl))⟩
  f27 := ⟨Try.f189.name, by kernel_rfl, Try.func189.trans (congrArg some (by kernel_rfl))⟩
  f28 := Try.func190.trans (congrArg some (by kernel_rfl))
  f29 := Try.func191.trans (congrArg some (by kernel_rfl))
  f46 := ⟨Try.f218.name, by kernel_rfl, Try.func218.trans (congrArg some (by kernel_rfl))⟩
  f47 := Try.func219.trans (congrArg some (by kernel_rfl))
  f48 := Try.func220.trans (congrArg some (by kernel_rfl))
  f49 := ⟨Try.f221.name, by kernel_rfl, Try.func221.trans (congrArg some (by kernel_rfl))⟩
  f50 := ⟨Try.f222.name, by kernel_rfl, Try.func222.trans (congrArg some (by kernel_rfl))⟩
  f57 := ⟨Try.f230.name, by kernel_rfl, Try.func230.trans (congrArg some (by kernel_rfl))⟩
  t0 := Try.underlying0
  a0 := Try.isAgg0
  z0 := Try.sizeOf0
  v0 := Try.zeroValue0
  t3 := Try.underlying3
  a3 := Try.isAgg3
  z3 := Try.sizeOf3
  v3 := Try.zeroValue3
  t4 := Try.underlying4
  a4 := Try.isAgg4
  z4 := Try.sizeOf4
  v4 := Try.zeroValue4
  t5 := Try.underlying5
  a5 := Try.isAgg5
  z5 := Try.sizeOf5
  v5 := Try.zeroValue5
  t9 := Try.underlying9
  a9 := Try.isAgg9
  z9 := Try.sizeOf9
  v9 := Try.zeroValue9
  t22 := Try.underlying44
  a22 := Try.isAgg44
  z22 := Try.sizeOf44
  v22 := Try.zeroValue44
  t25 := Try.underlying124
  a25 := Try.isAgg124
  z25 := Try.sizeOf124
  v25 := Try.zeroValue124
  t39 := Try.underlying175
  a39 := Try.isAgg175
  z39 := Try.sizeOf175
  v39 := Try.zeroValue175
  t45 := Try.underlying214
  a45 := Try.isAgg214
  z45 := Try.sizeOf214
  v45 := Try.zeroValue214
  t46 := Try.underlying215
  a46 := Try.isAgg215
  z46 := Try.sizeOf215
  v46 := Try.zeroValue215
  t50 := Try.underlying219
  a50 := Try.isAgg219
  z50 := Try.sizeOf219
  v50 := Try.zeroValue219
  t53 := Try.underlying222
  a53 := Try.isAgg222
  z53 := Try.sizeOf222
  v53 := Try.zeroValue222
  t55 := Try.underlying224
  a55 := Try.isAgg224
  z55 := Try.sizeOf224
  v55 := Try.zeroValue224
  t66 := Try.underlying242
  a66 := Try.isAgg242
  z66 := Try.sizeOf242
  v66 := Try.zeroValue242
  t70 := Try.underlying208
  a70 := Try.isAgg208
  z70 := Try.sizeOf208
  v70 := Try.zeroValue208
  t76 := Try.underlying251
  a76 := Try.isAgg251
  z76 := Try.sizeOf251
  v76 := Try.zeroValue251
  t77 := Try.underlying252
  a77 := Try.isAgg252
  z77 := Try.sizeOf252
  v77 := Try.zeroValue252 }
end Go.Proofs.Ytcblmkhhhibddaa

namespace Go.Proofs.Ytcblmkhhhibddaa
open Go.RowKit Go.Lib Go.Sort

instance : Inhabited Bd := ⟨⟨0, varTm 0⟩⟩
def cmpB (x y : Bd) : Int := cmpI x.v y.v

theorem ltB (x y : Bd) : ltOf cmpB x y = decide (x.v < y.v) := by
  unfold ltOf cmpB
  by_cases h : x.v < y.v
  · rw [decide_eq_true h, decide_eq_true ((cmpI_negD _ _).2 h)]
  · rw [decide_eq_false h, decide_eq_false (fun h2 => h ((cmpI_negD _ _).1 h2))]
theorem swoB : SWO (ltOf cmpB) where
  irrefl x := by rw [ltB]; simp
  trans x y z h1 h2 := by rw [ltB] at *; simp at *; omega
  ntrans x y z h1 h2 := by rw [ltB] at *; simp at *; omega

theorem bdcells_len : ∀ l : List Bd, (l.flatMap Bd.cells).length = l.length * 5
  | [] => rfl
  | x :: xs => by rw [List.flatMap_cons, List.length_append, bdcells_len xs, List.length_cons, Bd.cells, Tm.cells]; simp; omega
theorem bdcells_at : ∀ {l : List Bd} {i : Nat} {x : Bd}, l[i]? = some x → ∀ j, j < 5 → (l.flatMap Bd.cells)[i * 5 + j]? = x.cells[j]?
  | y :: ys, 0, x, h, j, hj => by
    simp only [List.getElem?_cons_zero, Option.some.injEq] at h
    subst h
    rw [List.flatMap_cons, Nat.zero_mul, Nat.zero_add, List.getElem?_append_left (by simp [Bd.cells, Tm.cells]; omega)]
  | y :: ys, i + 1, x, h, j, hj => by
    simp only [List.getElem?_cons_succ] at h
    rw [List.flatMap_cons, List.getElem?_append_right (by simp [Bd.cells, Tm.cells]; omega), ← bdcells_at h j hj]
    simp only [Bd.cells, Tm.cells, List.length_cons, List.length_nil]
    congr 1
    omega
theorem flatB (l : List Bd) : (flatK Bd.cells 5 l.toArray).toList = l.flatMap Bd.cells := by
  apply List.ext_getElem?
  intro t
  by_cases ht : t < l.length * 5
  · have hi : t / 5 < l.length := by omega
    have h1 := bdcells_at (List.getElem?_eq_getElem hi) (t % 5) (by omega)
    rw [show t / 5 * 5 + t % 5 = t by omega] at h1
    rw [h1, Array.getElem?_toList]
    have h2 := get_flatK Bd.cells 5 l.toArray t (by simpa using ht)
    have h3 : t < (flatK Bd.cells 5 l.toArray).size := by rw [size_flatK]; simpa using ht
    rw [getElem!_pos (flatK Bd.cells 5 l.toArray) t h3] at h2
    rw [Array.getElem?_eq_getElem h3, h2]
    have h4 : (l.toArray)[t / 5]! = l[t / 5] := by rw [getElem!_pos l.toArray (t / 5) (by simpa using hi)]; simp
    have h5 : t % 5 < (l[t / 5].cells).length := by simp [Bd.cells, Tm.cells]; omega
    rw [h4, getElem!_pos (l[t / 5].cells) (t % 5) h5, List.getElem?_eq_getElem h5]
  · rw [List.getElem?_eq_none (by simp; omega), List.getElem?_eq_none (by rw [bdcells_len]; omega)]

theorem holds_vals {w : World} {g : Nat} {cur L : Array Value} {e : TypeId} (hb : w.heap[g]? = some (.cells cur e (0, 0))) (ht : cur.toList.take L.size = L.toList) : Holds id w g 0 L := by
  intro j hj
  refine ⟨?_, by simp [World.frozen?, hb]⟩
  have h1 : (cur.toList.take L.size)[j]? = L.toList[j]? := by rw [ht]
  rw [List.getElem?_take_of_lt hj, Array.getElem?_toList, Array.getElem?_toList] at h1
  rw [Nat.zero_add, cell_of_row w g j _ _ _ hb, h1]
  simp [hj]
theorem put_otherV {w : World} {g n k : Nat} (d : Array Value) (hne : g ≠ k) : (putRow id (Go.Sort.ahead w n) g 0 d).heap[k]? = w.heap[k]? := by
  simp [putRow, mapBlock, Go.Sort.ahead, Array.getElem?_modify, hne]
theorem put_sameV {w : World} {g n : Nat} {cur : Array Value} {e : TypeId} (d : Array Value) (hb : w.heap[g]? = some (.cells cur e (0, 0))) : (putRow id (Go.Sort.ahead w n) g 0 d).heap[g]? = some (.cells (putCells id 0 d cur) e (0, 0)) := by
  simp [putRow, mapBlock, Go.Sort.ahead, Array.getElem?_modify, hb, onCells]
theorem take_putV (cur d : Array Value) (h : d.size ≤ cur.size) : (putCells id 0 d cur).toList.take d.size = d.toList := by
  apply List.ext_getElem?
  intro j
  by_cases hj : j < d.size
  · rw [List.getElem?_take_of_lt hj, Array.getElem?_toList]
    simp [putCells, hj, show j < cur.size by omega]
  · rw [List.getElem?_take_eq_none (by omega), List.getElem?_eq_none (by simp; omega)]

end Go.Proofs.Ytcblmkhhhibddaa

namespace Go.Proofs.Ytcblmkhhhibddaa
open Go.RowKit Go.Lib

/-- What has been made is a slice of binds. -/
theorem BuiltBds.bds {w : World} {B : Nat} {v : Value} {l : List Bd} (h : BuiltBds w B v l) (hl : l.length * 64 ≤ 140737488351232) (hs : ∀ y ∈ l, y.t.In w ∧ In64 y.v) :
    ∃ p c, v = .slice p l.length c ∧ (Bds.mk p c l).In w := by
  rcases h.2 with ⟨rfl, h1⟩ | ⟨g, cap, cur, h0, hbg, hg, hnc, hcm, hcs, htake⟩
  · have hn : l = [] := List.eq_nil_of_length_eq_zero h1
    subst hn
    exact ⟨none, 0, rfl, Nat.le_refl _, ⟨by simp, by simp⟩, .inl rfl, fun y hy => by simp at hy⟩
  · simp only [maxLen] at hcm
    refine ⟨some ⟨g, 0, none⟩, cap, h0, hnc, ⟨hl, by simp only; omega⟩, .inr ⟨g, 0, rfl, ?_⟩, hs⟩
    intro i x hx
    have hi : i < l.length := (List.getElem?_eq_some_iff.1 hx).1
    subst h0
    have hat : ∀ j, j < 5 → w.cell? ⟨g, 0 + i * 5 + j, none⟩ = x.cells[j]? := by
      intro j hj
      rw [Nat.zero_add, World.ownsRow.cellAt h _ (by omega)]
      exact bdcells_at hx j hj
    exact ⟨hat 0 (by omega), hat 1 (by omega), hat 2 (by omega), hat 3 (by omega), hat 4 (by omega)⟩

theorem asc_of : ∀ (l : List Bd) (last : Int), (∀ y ∈ l, last < y.v ∧ y.v ≤ 1099511627776) → l.Pairwise (fun x y => x.v ≤ y.v) → (l.map Bd.v).Nodup → ascB last l = true
  | [], _, _, _, _ => rfl
  | x :: xs, last, h1, h2, h3 => by
    rw [List.pairwise_cons] at h2
    rw [List.map_cons, List.nodup_cons] at h3
    have hx := h1 x (by simp)
    rw [ascB, decide_eq_true hx.1, decide_eq_true hx.2, Bool.true_and, Bool.true_and]
    refine asc_of xs x.v (fun y hy => ⟨?_, (h1 y (by simp [hy])).2⟩) h2.2 h3.2
    have h4 := h2.1 y hy
    have h5 : x.v ≠ y.v := fun e => h3.1 (List.mem_map.2 ⟨y, hy, e.symm⟩)
    omega

/-- The substitution that a map is. -/
def IsBinds (f : Int → Option T) (l : List Bd) : Prop :=
  ascB (-1) l = true ∧ (∀ n t, (∃ y ∈ l, y.v = n ∧ y.t.erase = t) ↔ (f n = some t ∧ t ≠ varT n)) ∧ ∀ y ∈ l, y.t.erase.formed = true ∧ 0 ≤ y.v ∧ y.v ≤ 1099511627776
end Go.Proofs.Ytcblmkhhhibddaa

namespace Go.Proofs.Ytcblmkhhhibddaa
open Go.RowKit Go.Maps Go.Lib
open Go.ChangeMaps (setBlock)

end Go.Proofs.Ytcblmkhhhibddaa

namespace Go.Proofs.Ytcblmkhhhibddaa
open Go.RowKit Go.Maps Go.Lib

theorem TMap.made (S : Nat → Prop) (w : World) : TMap S (w.alloc (.map #[] 0)) w.heap.size (fun _ => none) :=
  ⟨⟨fun _ => none, ⟨#[], 0, heap_alloc_new _ _, (fun _ he => nomatch he), List.nodup_nil, fun _ _ => ⟨fun h => (nomatch h), fun ⟨_, he, _⟩ => nomatch he⟩⟩, fun _ => rfl⟩, Stm.made kI64 w, fun _ h => absurd rfl h⟩

theorem TMap.store {S : Nat → Prop} {w : World} {b : Nat} {f : Int → Option T} (h : TMap S w b f) (hb : ∀ x, S x → x ≠ b) {n : Int} (hn : 0 ≤ n ∧ n ≤ 1099511627776) {tm : Tm} (hin : tm.In w) (hf : tm.erase.formed = true) (hon : tm.On S) :
    ∃ w', (Instr.mapUpdate 106 (.map (some b)) (.int .i64 n) tm.val).run Try.prog w = .ok () w' ∧ TMap S w' b (fun x => if x = n then some tm.erase else f x) ∧ w.grownBy w' (some b) := by
  obtain ⟨⟨g, h1, h2⟩, h3, h4⟩ := h
  obtain ⟨w', hr, hg, hgb, hs⟩ := h1.updateS h3 (int_keyed Try.underlying2) Try.underlying106 (x := n) (keyOf_int_mk Try.underlying2 (wf_64 (by constructor <;> omega))) (fun y hy => kI64_inj hy) tm.val (g := fun x => if x = n then some tm.val else g x) (if_pos rfl) (fun y hy => if_neg hy)
  have hk : Kp (· = b) w w' := Kp.of_grownBy hgb rfl
  refine ⟨w', hr, ⟨⟨_, hg, fun x => ?_⟩, hs, fun x hx => ?_⟩, hgb⟩
  · by_cases hx : x = n
    · simp only [if_pos hx]
      exact ⟨tm, rfl, in_after' hin hon fun y hy hl _ => World.cell?_of_block (hk.block y hl (hb y hy)), rfl, hf, hon⟩
    · simp only [if_neg hx]
      have := h2 x
      cases hfx : f x with
      | none => rw [hfx] at this; exact this
      | some t =>
        rw [hfx] at this
        obtain ⟨u, i1, i2, i3, i4, i5⟩ := this
        exact ⟨u, i1, in_after' i2 i5 fun y hy hl _ => World.cell?_of_block (hk.block y hl (hb y hy)), i3, i4, i5⟩
  · by_cases hxn : x = n
    · subst hxn; exact hn
    · exact h4 x (by simpa [hxn] using hx)
end Go.Proofs.Ytcblmkhhhibddaa

namespace Go.Proofs.Ytcblmkhhhibddaa
open Go.RowKit Go.Maps Go.Lib

/-- Binds laid into a map, one after another. -/
def putAll (g : Bd → T) (l : List Bd) (f : Int → Option T) : Int → Option T := l.foldl (fun f y => fun x => if x = y.v then some (g y) else f x) f
/-- P4: the map of a composition. -/
def compM (s u : List Bd) : Int → Option T := putAll (fun y => T.map (lookupT u) y.t.erase) s (putAll (fun y => y.t.erase) u (fun _ => none))
end Go.Proofs.Ytcblmkhhhibddaa

namespace Go.Proofs.Ytcblmkhhhibddaa
open Go.RowKit Go.Maps Go.Lib

/-- A bind put behind those of smaller variables. -/
def placeL : List Bd → Bd → List Bd
  | [], x => [x]
  | y :: ys, x => if y.v < x.v then y :: placeL ys x else x :: y :: ys
theorem placeL_at (x : Bd) : ∀ (l : List Bd) (k : Nat), k ≤ l.length → (∀ (j : Nat) (h : j < l.length), j < k → l[j].v < x.v) → (∀ (h : k < l.length), ¬ l[k].v < x.v) → placeL l x = l.take k ++ x :: l.drop k
  | [], 0, _, _, _ => rfl
  | y :: ys, 0, _, _, h => by
    have h0 : ¬ y.v < x.v := h (by simp)
    rw [placeL, if_neg h0]; rfl
  | y :: ys, k + 1, hk, h1, h2 => by
    have h0 : y.v < x.v := h1 0 (by simp) (by omega)
    rw [placeL, if_pos h0, placeL_at x ys k (by simpa using hk) (fun j hj hjk => h1 (j + 1) (by simpa using hj) (by omega)) (fun hk' => h2 (by simpa using hk'))]
    rfl
theorem placeL_mem (x : Bd) : ∀ (l : List Bd) (y : Bd), y ∈ placeL l x ↔ y = x ∨ y ∈ l
  | [], y => by simp [placeL]
  | z :: zs, y => by
    rw [placeL]
    split
    · rw [List.mem_cons, placeL_mem x zs y, List.mem_cons]
      constructor
      · rintro (h | h | h)
        · exact .inr (.inl h)
        · exact .inl h
        · exact .inr (.inr h)
      · rintro (h | h | h)
        · exact .inr (.inl h)
        · exact .inl h
        · exact .inr (.inr h)
    · rw [List.mem_cons]
theorem placeL_length (x : Bd) : ∀ l : List Bd, (placeL l x).length = l.length + 1
  | [] => rfl
  | y :: ys => by
    rw [placeL]
    split
    · rw [List.length_cons, placeL_length x ys, List.length_cons]
    · rfl
theorem asc_place (x : Bd) (hx : x.v ≤ 1099511627776) : ∀ (l : List Bd) (last : Int), ascB last l = true → last < x.v → (∀ y ∈ l, y.v ≠ x.v) → ascB last (placeL l x) = true
  | [], last, _, h1, _ => by
    rw [placeL, ascB, ascB, decide_eq_true h1, decide_eq_true hx]; rfl
  | y :: ys, last, h, h1, h2 => by
    rw [ascB, Bool.and_eq_true, Bool.and_eq_true, decide_eq_true_eq, decide_eq_true_eq] at h
    have hne := h2 y (by simp)
    rw [placeL]
    split
    · rename_i hlt
      rw [ascB, decide_eq_true h.1, decide_eq_true h.2.1, asc_place x hx ys y.v h.2.2 hlt fun z hz => h2 z (by simp [hz])]
      rfl
    · rename_i hlt
      rw [ascB, ascB, decide_eq_true h1, decide_eq_true hx, decide_eq_true (show x.v < y.v by omega), decide_eq_true h.2.1, h.2.2]
      rfl

/-- A new variable in the map. -/
def putF (f : Int → Option T) (n : Int) (t : T) : Int → Option T := fun m => if m = n then some t else f m

theorem IsBinds.place {f : Int → Option T} {l : List Bd} (h : IsBinds f l) {x : Bd} (hf : x.t.erase.formed = true) (hv : 0 ≤ x.v ∧ x.v ≤ 1099511627776) (hn : f x.v = none) (hne : x.t.erase ≠ varT x.v) : IsBinds (putF f x.v x.t.erase) (placeL l x) := by
  have hfree : ∀ y ∈ l, y.v ≠ x.v := fun y hy e => by
    have := ((h.2.1 y.v y.t.erase).1 ⟨y, hy, rfl, rfl⟩).1
    rw [e, hn] at this
    cases this
  refine ⟨asc_place x hv.2 l (-1) h.1 (by omega) hfree, fun m t => ?_, fun y hy => ?_⟩
  · rw [putF]
    by_cases hm : m = x.v
    · rw [if_pos hm]
      constructor
      · rintro ⟨y, hy, h1, h2⟩
        rcases (placeL_mem x l y).1 hy with rfl | hy
        · exact ⟨by rw [h2], by rw [← h2, hm]; exact hne⟩
        · exact absurd (h1.trans hm) (hfree y hy)
      · rintro ⟨h1, _⟩
        exact ⟨x, (placeL_mem x l x).2 (.inl rfl), hm.symm, Option.some.inj h1⟩
    · rw [if_neg hm, ← h.2.1 m t]
      constructor
      · rintro ⟨y, hy, h1, h2⟩
        rcases (placeL_mem x l y).1 hy with rfl | hy
        · exact absurd h1.symm hm
        · exact ⟨y, hy, h1, h2⟩
      · rintro ⟨y, hy, h1, h2⟩
        exact ⟨y, (placeL_mem x l y).2 (.inr hy), h1, h2⟩
  · rcases (placeL_mem x l y).1 hy with rfl | hy
    · exact ⟨hf, hv⟩
    · exact h.2.2 y hy
theorem IsBinds.len {f : Int → Option T} {l : List Bd} (h : IsBinds f l) : l.length ≤ 1099511627777 := by
  have hnd : (l.map Bd.v).Nodup := by
    have hs := (asc_spec l (-1) h.1).2
    rw [List.Nodup, List.pairwise_map, List.pairwise_iff_getElem]
    intro i j hi hj hij
    have := hs i j hi hj hij
    omega
  have := nodup_le 1099511627777 (l.map Bd.v) hnd fun x hx => by
    obtain ⟨y, hy, rfl⟩ := List.mem_map.1 hx
    have := (h.2.2 y hy).2
    omega
  rwa [List.length_map] at this

/-- The variables and terms, without addresses. -/
def seeBds (l : List Bd) : List (Int × T) := l.map fun y => (y.v, y.t.erase)
theorem pairs_uniq : ∀ l l' : List (Int × T), l.Pairwise (fun a b => a.1 < b.1) → l'.Pairwise (fun a b => a.1 < b.1) → (∀ a, a ∈ l ↔ a ∈ l') → l = l'
  | [], [], _, _, _ => rfl
  | [], b :: ys, _, _, h => nomatch (h b).2 (by simp)
  | a :: xs, [], _, _, h => nomatch (h a).1 (by simp)
  | a :: xs, b :: ys, h1, h2, h => by
    rw [List.pairwise_cons] at h1 h2
    have hab : a = b := by
      rcases List.mem_cons.1 ((h a).1 (by simp)) with e | h3
      · exact e
      · rcases List.mem_cons.1 ((h b).2 (by simp)) with e | h4
        · exact e.symm
        · have h5 := h2.1 a h3
          have h6 := h1.1 b h4
          omega
    subst hab
    rw [pairs_uniq xs ys h1.2 h2.2 fun c => ?_]
    constructor
    · intro hc
      rcases List.mem_cons.1 ((h c).1 (by simp [hc])) with rfl | h3
      · have := h1.1 _ hc; omega
      · exact h3
    · intro hc
      rcases List.mem_cons.1 ((h c).2 (by simp [hc])) with rfl | h3
      · have := h2.1 _ hc; omega
      · exact h3
theorem seeBds_pairwise {l : List Bd} (h : ascB (-1) l = true) : (seeBds l).Pairwise (fun a b => a.1 < b.1) := by
  have hs := (asc_spec l (-1) h).2
  rw [seeBds, List.pairwise_map, List.pairwise_iff_getElem]
  intro i j hi hj hij
  exact hs i j hi hj hij
theorem IsBinds.uniq {f : Int → Option T} {l l' : List Bd} (h : IsBinds f l) (h' : IsBinds f l') : seeBds l = seeBds l' := by
  refine pairs_uniq _ _ (seeBds_pairwise h.1) (seeBds_pairwise h'.1) fun a => ?_
  have hm : ∀ l : List Bd, a ∈ seeBds l ↔ ∃ y ∈ l, y.v = a.1 ∧ y.t.erase = a.2 := fun l => by
    rw [seeBds, List.mem_map]
    constructor
    · rintro ⟨y, hy, rfl⟩; exact ⟨y, hy, rfl, rfl⟩
    · rintro ⟨y, hy, h1, h2⟩; exact ⟨y, hy, by rw [h1, h2]⟩
  rw [hm, hm, h.2.1, h'.2.1]
theorem seeBds_at {l l' : List Bd} (h : seeBds l = seeBds l') : l.length = l'.length ∧ ∀ (k : Nat) (hk : k < l.length) (hk' : k < l'.length), l[k].v = l'[k].v ∧ l[k].t.erase = l'[k].t.erase := by
  have hl : l.length = l'.length := by
    have := congrArg List.length h
    simpa [seeBds] using this
  refine ⟨hl, fun k hk hk' => ?_⟩
  have h1 : (seeBds l)[k]? = (seeBds l')[k]? := by rw [h]
  simp only [seeBds, List.getElem?_map, List.getElem?_eq_getElem hk, List.getElem?_eq_getElem hk', Option.map_some, Option.some.injEq, Prod.mk.injEq] at h1
  exact h1

/-! ### The map of a composition, as the document builds it -/
theorem putAll_none (g : Bd → T) (n : Int) : ∀ (l : List Bd) (f : Int → Option T), (∀ y ∈ l, y.v ≠ n) → putAll g l f n = f n
  | [], _, _ => rfl
  | y :: ys, f, h => by
    have := putAll_none g n ys (fun x => if x = y.v then some (g y) else f x) fun z hz => h z (by simp [hz])
    rw [show putAll g (y :: ys) f n = putAll g ys (fun x => if x = y.v then some (g y) else f x) n from rfl, this, if_neg fun e => h y (by simp) e.symm]
/-- Is the variable among those of the binds? -/
def hasV (l : List Bd) (n : Int) : Bool := l.any fun y => decide (y.v = n)
theorem hasV_iff (l : List Bd) (n : Int) : hasV l n = true ↔ ∃ y ∈ l, y.v = n := by
  simp [hasV, List.any_eq_true]
end Go.Proofs.Ytcblmkhhhibddaa
