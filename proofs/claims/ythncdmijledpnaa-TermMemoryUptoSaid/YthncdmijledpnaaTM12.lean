/-
  The laying of slices.SortFunc at binds. Printed by gen_ddd.py.
  slices.SortFunc at binds, by the variable.
  What term.Binds hands back.
  term.Binds: the walk.
  A map of terms: made, stored into.
  term.Compose: what it computes; the walk.
  term.Map with a function that keeps nothing: what it makes is a tree: no two of its rows share a block; term.Copy.
-/
import Derived.Test.YthncdmijledpnaaTM11
import Derived.Shelf.SlSortCmp.NoneTotal
import Derived.Test.YthncdmijledpnaaTM04
import Derived.Test.YthncdmijledpnaaTM08
namespace Go.Proofs.Ythncdmijledpnaa
open Go.RowKit

def sfRen : Go.Shelf.Ren := ⟨fun | 6 => 91 | 14 => 157 | 15 => 158 | 20 => 194 | 21 => 195 | 22 => 196 | 23 => 197 | 24 => 198 | 25 => 199 | 26 => 200 | 27 => 201 | 28 => 202 | 29 => 203 | 46 => 225 | 47 => 226 | 48 => 227 | 49 => 228 | 50 => 229 | 57 => 241 | n => n, fun | 0 => 0 | 3 => 3 | 4 => 4 | 5 => 5 | 9 => 9 | 22 => 44 | 24 => 115 | 25 => 122 | 39 => 191 | 45 => 227 | 46 => 228 | 50 => 232 | 53 => 235 | 55 => 237 | 66 => 255 | 70 => 221 | 76 => 270 | 77 => 271 | n => n, fun n => n⟩

set_option maxRecDepth 100000 in
theorem sfLays : Go.Proofs.SlLaysF0.n6 Try.prog sfRen := {
  mixed := by kernel_rfl
  f6 := ⟨Try.f91.name, by kernel_rfl, Try.func91.trans (congrArg some (by kernel_rfl))⟩
  f14 := ⟨Try.f157.name, by kernel_rfl, Try.func157.trans (congrArg some (by kernel_rfl))⟩
  f15 := Try.func158.trans (congrArg some (by kernel_rfl))
  f20 := ⟨Try.f194.name, by kernel_rfl, Try.func194.trans (congrArg some (by kernel_rfl))⟩
  f21 := ⟨Try.f195.name, by kernel_rfl, Try.func195.trans (congrArg some (by kernel_rfl))⟩
  f22 := ⟨Try.f196.name, by kernel_rfl, Try.func196.trans (congrArg some (by kernel_rfl))⟩
  f23 := ⟨Try.f197.name, by kernel_rfl, Try.func197.trans (congrArg some (by kernel_rfl))⟩
  f24 := ⟨Try.f198.name, by kernel_rfl, Try.func198.trans (congrArg some (by kernel_rfl))⟩
  f25 := ⟨Try.f199.name, by kernel_rfl, Try.func199.trans (congrArg some (by kernel_rfl))⟩
  f26 := ⟨Try.f200.name, by kernel_rfl, Try.func200.trans (congrArg some (by kernel_rfl))⟩
  f27 := ⟨Try.f201.name, by kernel_rfl, Try.func201.trans (congrArg some (by kernel_rfl))⟩
  f28 := Try.func202.trans (congrArg some (by kernel_rfl))
  f29 := Try.func203.trans (congrArg some (by kernel_rfl))
  f46 := ⟨Try.f225.name, by kernel_rfl, Try.func225.trans (congrArg some (by kernel_rfl))⟩
  f47 := Try.func226.trans (congrArg some (by kernel_rfl))
  f48 := Try.func227.trans (congrArg some (by kernel_rfl))
  f49 := ⟨Try.f228.name, by kernel_rfl, Try.func228.trans (congrArg some (by kernel_rfl))⟩
  f50 := ⟨Try.f229.name, by kernel_rfl, Try.func229.trans (congrArg some (by kernel_rfl))⟩
  f57 := ⟨Try.f241.name, by kernel_rfl, Try.func241.trans (congrArg some (by kernel_rfl))⟩
  t0 := Try.underlying0
  a0 := Try.isAgg0
  z0 := Try.sizeOf0
  v0 := Try.zeroValue0
  t3 := Try.underlying3
  a3 := Try.isAgg3
  z3 := Try.sizeOf3
  v3 := Try.zeroValue3
  t4 := Try.underlying4
  a4 := Try.isAgg4
  z4 := Try.sizeOf4
  v4 := Try.zeroValue4
  t5 := Try.underlying5
  a5 := Try.isAgg5
  z5 := Try.sizeOf5
  v5 := Try.zeroValue5
  t9 := Try.underlying9
  a9 := Try.isAgg9
  z9 := Try.sizeOf9
  v9 := Try.zeroValue9
  t22 := Try.underlying44
  a22 := Try.isAgg44
  z22 := Try.sizeOf44
  v22 := Try.zeroValue44
  t25 := Try.underlying122
  a25 := Try.isAgg122
  z25 := Try.sizeOf122
  v25 := Try.zeroValue122
  t39 := Try.underlying191
  a39 := Try.isAgg191
  z39 := Try.sizeOf191
  v39 := Try.zeroValue191
  t45 := Try.underlying227
  a45 := Try.isAgg227
  z45 := Try.sizeOf227
  v45 := Try.zeroValue227
  t46 := Try.underlying228
  a46 := Try.isAgg228
  z46 := Try.sizeOf228
  v46 := Try.zeroValue228
  t50 := Try.underlying232
  a50 := Try.isAgg232
  z50 := Try.sizeOf232
  v50 := Try.zeroValue232
  t53 := Try.underlying235
  a53 := Try.isAgg235
  z53 := Try.sizeOf235
  v53 := Try.zeroValue235
  t55 := Try.underlying237
  a55 := Try.isAgg237
  z55 := Try.sizeOf237
  v55 := Try.zeroValue237
  t66 := Try.underlying255
  a66 := Try.isAgg255
  z66 := Try.sizeOf255
  v66 := Try.zeroValue255
  t70 := Try.underlying221
  a70 := Try.isAgg221
  z70 := Try.sizeOf221
  v70 := Try.zeroValue221
  t76 := Try.underlying270
  a76 := Try.isAgg270
  z76 := Try.sizeOf270
  v76 := Try.zeroValue270
  t77 := Try.underlying271
  a77 := Try.isAgg271
  z77 := Try.sizeOf271
  v77 := Try.zeroValue271 }
end Go.Proofs.Ythncdmijledpnaa

namespace Go.Proofs.Ythncdmijledpnaa
open Go.RowKit Go.Lib Go.Sort

instance : Inhabited Bd := ⟨⟨0, varTm 0⟩⟩
def cmpB (x y : Bd) : Int := cmpI x.v y.v

set_option maxHeartbeats 1000000 in
set_option maxRecDepth 100000 in
theorem binds1_calls (x y : Bd) (w : World) : Calls Try.prog 181 #[.agg #[.int .i64 x.v, .int .i64 x.t.k, .int .i64 x.t.n, .string x.t.s, .slice x.t.p x.t.l.length x.t.c], .agg #[.int .i64 y.v, .int .i64 y.t.k, .int .i64 y.t.n, .string y.t.s, .slice y.t.p y.t.l.length y.t.c]] w fun e w' => e = .returned (.int .i64 (cmpB x y)) ∧ ∃ q os', w' = grow (w.drewN q) os' := by
  have hcon := fun W' => compare_int64 x.v y.v W'
  unfold cmpB
  generalize cmpI x.v y.v = r at hcon ⊢
  go_enter Try.func181, Try.ntmps181
  go_wp2_with (go_at_call 93; refine (hcon _).mono ?_; rintro e w' ⟨rfl, rfl⟩)
  go_ret
  exact ⟨rfl, 0, _, by rw [alloc_eq_grow, alloc_eq_grow, grow_grow]; rfl⟩

theorem cmpLaysB (blk off size : Nat) (w : World) : CmpLays Try.prog 181 #[] Bd.cells 5 cmpB blk off size w :=
  fun _ _ _ _ x y => binds1_calls x y _

theorem ltB (x y : Bd) : ltOf cmpB x y = decide (x.v < y.v) := by
  unfold ltOf cmpB
  by_cases h : x.v < y.v
  · rw [decide_eq_true h, decide_eq_true ((cmpI_negD _ _).2 h)]
  · rw [decide_eq_false h, decide_eq_false (fun h2 => h ((cmpI_negD _ _).1 h2))]
theorem swoB : SWO (ltOf cmpB) where
  irrefl x := by rw [ltB]; simp
  trans x y z h1 h2 := by rw [ltB] at *; simp at *; omega
  ntrans x y z h1 h2 := by rw [ltB] at *; simp at *; omega

theorem bdcells_len : ∀ l : List Bd, (l.flatMap Bd.cells).length = l.length * 5
  | [] => rfl
  | x :: xs => by rw [List.flatMap_cons, List.length_append, bdcells_len xs, List.length_cons, Bd.cells, Tm.cells]; simp; omega
theorem bdcells_at : ∀ {l : List Bd} {i : Nat} {x : Bd}, l[i]? = some x → ∀ j, j < 5 → (l.flatMap Bd.cells)[i * 5 + j]? = x.cells[j]?
  | y :: ys, 0, x, h, j, hj => by
    simp only [List.getElem?_cons_zero, Option.some.injEq] at h
    subst h
    rw [List.flatMap_cons, Nat.zero_mul, Nat.zero_add, List.getElem?_append_left (by simp [Bd.cells, Tm.cells]; omega)]
  | y :: ys, i + 1, x, h, j, hj => by
    simp only [List.getElem?_cons_succ] at h
    rw [List.flatMap_cons, List.getElem?_append_right (by simp [Bd.cells, Tm.cells]; omega), ← bdcells_at h j hj]
    simp only [Bd.cells, Tm.cells, List.length_cons, List.length_nil]
    congr 1
    omega
theorem flatB (l : List Bd) : (flatK Bd.cells 5 l.toArray).toList = l.flatMap Bd.cells := by
  apply List.ext_getElem?
  intro t
  by_cases ht : t < l.length * 5
  · have hi : t / 5 < l.length := by omega
    have h1 := bdcells_at (List.getElem?_eq_getElem hi) (t % 5) (by omega)
    rw [show t / 5 * 5 + t % 5 = t by omega] at h1
    rw [h1, Array.getElem?_toList]
    have h2 := get_flatK Bd.cells 5 l.toArray t (by simpa using ht)
    have h3 : t < (flatK Bd.cells 5 l.toArray).size := by rw [size_flatK]; simpa using ht
    rw [getElem!_pos (flatK Bd.cells 5 l.toArray) t h3] at h2
    rw [Array.getElem?_eq_getElem h3, h2]
    have h4 : (l.toArray)[t / 5]! = l[t / 5] := by rw [getElem!_pos l.toArray (t / 5) (by simpa using hi)]; simp
    have h5 : t % 5 < (l[t / 5].cells).length := by simp [Bd.cells, Tm.cells]; omega
    rw [h4, getElem!_pos (l[t / 5].cells) (t % 5) h5, List.getElem?_eq_getElem h5]
  · rw [List.getElem?_eq_none (by simp; omega), List.getElem?_eq_none (by rw [bdcells_len]; omega)]

theorem holds_vals {w : World} {g : Nat} {cur L : Array Value} {e : TypeId} (hb : w.heap[g]? = some (.cells cur e (0, 0))) (ht : cur.toList.take L.size = L.toList) : Holds id w g 0 L := by
  intro j hj
  refine ⟨?_, by simp [World.frozen?, hb]⟩
  have h1 : (cur.toList.take L.size)[j]? = L.toList[j]? := by rw [ht]
  rw [List.getElem?_take_of_lt hj, Array.getElem?_toList, Array.getElem?_toList] at h1
  rw [Nat.zero_add, cell_of_row w g j _ _ _ hb, h1]
  simp [hj]
theorem put_otherV {w : World} {g n k : Nat} (d : Array Value) (hne : g ≠ k) : (putRow id (Go.Sort.ahead w n) g 0 d).heap[k]? = w.heap[k]? := by
  simp [putRow, mapBlock, Go.Sort.ahead, Array.getElem?_modify, hne]
theorem put_sameV {w : World} {g n : Nat} {cur : Array Value} {e : TypeId} (d : Array Value) (hb : w.heap[g]? = some (.cells cur e (0, 0))) : (putRow id (Go.Sort.ahead w n) g 0 d).heap[g]? = some (.cells (putCells id 0 d cur) e (0, 0)) := by
  simp [putRow, mapBlock, Go.Sort.ahead, Array.getElem?_modify, hb, onCells]
theorem take_putV (cur d : Array Value) (h : d.size ≤ cur.size) : (putCells id 0 d cur).toList.take d.size = d.toList := by
  apply List.ext_getElem?
  intro j
  by_cases hj : j < d.size
  · rw [List.getElem?_take_of_lt hj, Array.getElem?_toList]
    simp [putCells, hj, show j < cur.size by omega]
  · rw [List.getElem?_take_eq_none (by omega), List.getElem?_eq_none (by simp; omega)]

/-- slices.SortFunc of binds of the call's own. -/
theorem sortBds_calls (B : Nat) (v : Value) (lo : List Bd) (w : World) (h : BuiltBds w B v lo) (hn : lo.length ≤ 1099511627777) (hB : B ≤ w.heap.size) :
    Calls Try.prog 91 #[v, .func (.func 181) #[] #[]] w fun e w' => e = .returned (.tuple #[]) ∧ ∃ lo', lo'.Perm lo ∧ lo'.Pairwise (fun x y => x.v ≤ y.v) ∧ BuiltBds w' B v lo' ∧ Below B w w' := by
  rcases h.2 with ⟨hv, h0⟩ | ⟨g, cap, cur, rfl, hg0, hblk, hnc, hcm, hsz, htk⟩
  · obtain rfl : lo = [] := List.eq_nil_of_length_eq_zero h0
    rw [hv] at h ⊢
    refine (Go.Proofs.AnyF.slices_SortFunc_none sfLays none 0 _ w).mono ?_
    rintro e w' ⟨rfl, rfl⟩
    exact ⟨rfl, [], List.Perm.refl _, List.Pairwise.nil, h, Below.refl _ _⟩
  · have hgl : g < w.heap.size := (Array.getElem?_eq_some_iff.1 hblk).1
    have hH : HoldsK Bd.cells 5 w g 0 lo.toArray := holds_vals hblk (by
      rw [size_flatK, flatB]; simpa using htk)
    have hcall := Go.Proofs.AnyQ.slices_SortFunc sfLays 5 (fun w => Try.isAgg115 w) (fun w => Try.sizeOf115 w) Bd.cells (fun _ => rfl) (fun x v hv => by simp [Bd.cells, Tm.cells] at hv; rcases hv with rfl | rfl | rfl | rfl | rfl <;> rfl) cmpB swoB 181 #[] g 0 cap lo.toArray w
      (fun args w => by kernel_rfl) (cmpLaysB _ _ _ _) hH hgl (by simp; omega)
    rw [show lo.toArray.size = lo.length from by simp] at hcall
    refine hcall.mono ?_
    rintro e w' ⟨rfl, d', n, os, hp, hs, rfl⟩
    have hds : d'.size = lo.length := by rw [hp.1]; simp
    have hpl : d'.toList.Perm lo := by
      have := hp.2.2
      rw [show d'.extract 0 lo.length = d' by rw [← hds]; simp] at this
      simpa using this
    refine ⟨rfl, d'.toList, hpl, ?_, ?_, ?_⟩
    · rw [List.pairwise_iff_getElem]
      intro i j hi hj hij
      have hi' : i < d'.size := by simpa using hi
      have hj' : j < d'.size := by simpa using hj
      have := hs i j (Nat.zero_le _) hij (by omega)
      rw [ltB, getElem!_pos d' j hj', getElem!_pos d' i hi'] at this
      have := of_decide_eq_false this
      simp only [Array.getElem_toList]
      omega
    · refine ⟨by rw [bdcells_len], .inr ⟨g, cap, putCells id 0 (flatK Bd.cells 5 d') cur, by simp [hds], hg0, ?_, by simpa [hds] using hnc, hcm, ?_, ?_⟩⟩
      · exact (heap_grow_old _ _ (by simpa [putRow, putRowK, mapBlock, Go.Sort.ahead] using hgl)).trans (put_sameV _ hblk)
      · simpa [putCells] using hsz
      · have := take_putV cur (flatK Bd.cells 5 d') (by rw [size_flatK, hds, hsz]; exact Nat.mul_le_mul_right 5 hnc)
        rw [size_flatK] at this
        rw [Array.length_toList, this]
        exact flatB d'.toList
    · refine ⟨rfl, rfl, rfl, by simp [sortWorldK, putRowK, putRow, mapBlock, Go.Sort.ahead, grow], fun k hk => ?_⟩
      exact (heap_grow_old _ _ (Nat.lt_of_lt_of_le (Nat.lt_of_lt_of_le hk hB) (by simp [putRow, putRowK, mapBlock, Go.Sort.ahead]))).trans (put_otherV _ (by omega))
end Go.Proofs.Ythncdmijledpnaa

namespace Go.Proofs.Ythncdmijledpnaa
open Go.RowKit Go.Lib

/-- What has been made is a slice of binds. -/
theorem BuiltBds.bds {w : World} {B : Nat} {v : Value} {l : List Bd} (h : BuiltBds w B v l) (hl : l.length * 64 ≤ 140737488351232) (hs : ∀ y ∈ l, y.t.In w ∧ In64 y.v) :
    ∃ p c, v = .slice p l.length c ∧ (Bds.mk p c l).In w := by
  rcases h.2 with ⟨rfl, h1⟩ | ⟨g, cap, cur, h0, hbg, hg, hnc, hcm, hcs, htake⟩
  · have hn : l = [] := List.eq_nil_of_length_eq_zero h1
    subst hn
    exact ⟨none, 0, rfl, Nat.le_refl _, ⟨by simp, by simp⟩, .inl rfl, fun y hy => by simp at hy⟩
  · simp only [maxLen] at hcm
    refine ⟨some ⟨g, 0, none⟩, cap, h0, hnc, ⟨hl, by simp only; omega⟩, .inr ⟨g, 0, rfl, ?_⟩, hs⟩
    intro i x hx
    have hi : i < l.length := (List.getElem?_eq_some_iff.1 hx).1
    subst h0
    have hat : ∀ j, j < 5 → w.cell? ⟨g, 0 + i * 5 + j, none⟩ = x.cells[j]? := by
      intro j hj
      rw [Nat.zero_add, World.ownsRow.cellAt h _ (by omega)]
      exact bdcells_at hx j hj
    exact ⟨hat 0 (by omega), hat 1 (by omega), hat 2 (by omega), hat 3 (by omega), hat 4 (by omega)⟩

theorem asc_of : ∀ (l : List Bd) (last : Int), (∀ y ∈ l, last < y.v ∧ y.v ≤ 1099511627776) → l.Pairwise (fun x y => x.v ≤ y.v) → (l.map Bd.v).Nodup → ascB last l = true
  | [], _, _, _, _ => rfl
  | x :: xs, last, h1, h2, h3 => by
    rw [List.pairwise_cons] at h2
    rw [List.map_cons, List.nodup_cons] at h3
    have hx := h1 x (by simp)
    rw [ascB, decide_eq_true hx.1, decide_eq_true hx.2, Bool.true_and, Bool.true_and]
    refine asc_of xs x.v (fun y hy => ⟨?_, (h1 y (by simp [hy])).2⟩) h2.2 h3.2
    have h4 := h2.1 y hy
    have h5 : x.v ≠ y.v := fun e => h3.1 (List.mem_map.2 ⟨y, hy, e.symm⟩)
    omega

/-- The substitution that a map is. -/
def IsBinds (f : Int → Option T) (l : List Bd) : Prop :=
  ascB (-1) l = true ∧ (∀ n t, (∃ y ∈ l, y.v = n ∧ y.t.erase = t) ↔ (f n = some t ∧ t ≠ varT n)) ∧ ∀ y ∈ l, y.t.erase.formed = true ∧ 0 ≤ y.v ∧ y.v ≤ 1099511627776
end Go.Proofs.Ythncdmijledpnaa

namespace Go.Proofs.Ythncdmijledpnaa
open Go.RowKit Go.Maps Go.Lib
open Go.ChangeMaps (setBlock)

end Go.Proofs.Ythncdmijledpnaa

namespace Go.Proofs.Ythncdmijledpnaa
open Go.RowKit Go.Maps Go.Lib

theorem TMap.made (S : Nat → Prop) (w : World) : TMap S (w.alloc (.map #[] 0)) w.heap.size (fun _ => none) :=
  ⟨⟨fun _ => none, ⟨#[], 0, heap_alloc_new _ _, (fun _ he => nomatch he), List.nodup_nil, fun _ _ => ⟨fun h => (nomatch h), fun ⟨_, he, _⟩ => nomatch he⟩⟩, fun _ => rfl⟩, Stm.made kI64 w, fun _ h => absurd rfl h⟩

theorem TMap.store {S : Nat → Prop} {w : World} {b : Nat} {f : Int → Option T} (h : TMap S w b f) (hb : ∀ x, S x → x ≠ b) {n : Int} (hn : 0 ≤ n ∧ n ≤ 1099511627776) {tm : Tm} (hin : tm.In w) (hf : tm.erase.formed = true) (hon : tm.On S) :
    ∃ w', (Instr.mapUpdate 104 (.map (some b)) (.int .i64 n) tm.val).run Try.prog w = .ok () w' ∧ TMap S w' b (fun x => if x = n then some tm.erase else f x) ∧ w.grownBy w' (some b) := by
  obtain ⟨⟨g, h1, h2⟩, h3, h4⟩ := h
  obtain ⟨w', hr, hg, hgb, hs⟩ := h1.updateS h3 (int_keyed Try.underlying2) Try.underlying104 (x := n) (keyOf_int_mk Try.underlying2 (wf_64 (by constructor <;> omega))) (fun y hy => kI64_inj hy) tm.val (g := fun x => if x = n then some tm.val else g x) (if_pos rfl) (fun y hy => if_neg hy)
  have hk : Kp (· = b) w w' := Kp.of_grownBy hgb rfl
  refine ⟨w', hr, ⟨⟨_, hg, fun x => ?_⟩, hs, fun x hx => ?_⟩, hgb⟩
  · by_cases hx : x = n
    · simp only [if_pos hx]
      exact ⟨tm, rfl, in_after' hin hon fun y hy hl _ => World.cell?_of_block (hk.block y hl (hb y hy)), rfl, hf, hon⟩
    · simp only [if_neg hx]
      have := h2 x
      cases hfx : f x with
      | none => rw [hfx] at this; exact this
      | some t =>
        rw [hfx] at this
        obtain ⟨u, i1, i2, i3, i4, i5⟩ := this
        exact ⟨u, i1, in_after' i2 i5 fun y hy hl _ => World.cell?_of_block (hk.block y hl (hb y hy)), i3, i4, i5⟩
  · by_cases hxn : x = n
    · subst hxn; exact hn
    · exact h4 x (by simpa [hxn] using hx)
end Go.Proofs.Ythncdmijledpnaa

namespace Go.Proofs.Ythncdmijledpnaa
open Go.RowKit Go.Maps Go.Lib

/-- Binds laid into a map, one after another. -/
def putAll (g : Bd → T) (l : List Bd) (f : Int → Option T) : Int → Option T := l.foldl (fun f y => fun x => if x = y.v then some (g y) else f x) f
/-- P4: the map of a composition. -/
def compM (s u : List Bd) : Int → Option T := putAll (fun y => T.map (lookupT u) y.t.erase) s (putAll (fun y => y.t.erase) u (fun _ => none))
def compErr (s u : List Bd) : Int := if bindsErr s = 2 ∨ bindsErr u = 2 then 2 else if bindsErr s ≠ 0 ∨ bindsErr u ≠ 0 then 1 else 0

theorem putAll_snoc (g : Bd → T) (l : List Bd) (f : Int → Option T) (k : Nat) (hk : k < l.length) : putAll g (l.take (k + 1)) f = fun x => if x = l[k].v then some (g l[k]) else putAll g (l.take k) f x := by
  rw [List.take_succ_eq_append_getElem hk, putAll, List.foldl_append]
  rfl
theorem lookup_formed {l : List Bd} (hf : (l.all fun y => y.t.erase.formed) = true) : ∀ n, 0 ≤ n → n ≤ 1099511627776 → (lookupT l n).formed = true := by
  induction l with
  | nil => intro n h1 h2; simp [lookupT, varT, T.formed, h1, h2]
  | cons x xs ih =>
    intro n h1 h2
    rw [List.all_cons, Bool.and_eq_true] at hf
    rw [lookupT]
    by_cases h : x.v = n
    · rw [if_pos h]; exact hf.1
    · rw [if_neg h]; exact ih hf.2 n h1 h2
theorem bindsErr_zero {l : List Bd} (h : bindsErr l = 0) : (l.all fun y => y.t.erase.formed) = true ∧ ascB (-1) l = true := by
  rw [bindsErr] at h
  by_cases h1 : (l.all fun y => y.t.erase.formed) = true
  · rw [if_pos h1] at h
    by_cases h2 : ascB (-1) l = true
    · exact ⟨h1, h2⟩
    · rw [if_neg h2] at h; cases h
  · rw [if_neg h1] at h; cases h
theorem formed_at {l : List Bd} (hf : (l.all fun y => y.t.erase.formed) = true) (k : Nat) (hk : k < l.length) : l[k].t.erase.formed = true := List.all_eq_true.1 hf _ (List.getElem_mem hk)
theorem asc_at {l : List Bd} (h : ascB (-1) l = true) (k : Nat) (hk : k < l.length) : 0 ≤ l[k].v ∧ l[k].v ≤ 1099511627776 := by
  have := (asc_spec l (-1) h).1 k hk
  omega

theorem bindsErr_cases3 (l : List Bd) : bindsErr l = 0 ∨ bindsErr l = 1 ∨ bindsErr l = 2 := by
  rw [bindsErr]; repeat' split
  all_goals simp
end Go.Proofs.Ythncdmijledpnaa

namespace Go.Proofs.Ythncdmijledpnaa
open Go.RowKit

mutual
/-- The rows of a term lie each on a block of its own, between lo and hi, a row ahead of what is in it. -/
def Tm.Tree (lo hi : Nat) : Tm → Prop
  | .mk _ _ _ p _ l => l = [] ∨ ∃ b, p = some ⟨b, 0, none⟩ ∧ lo ≤ b ∧ b < hi ∧ Tm.TreeL (b + 1) hi l
def Tm.TreeL (lo hi : Nat) : List Tm → Prop
  | [] => True
  | x :: xs => ∃ mid, lo ≤ mid ∧ mid ≤ hi ∧ Tm.Tree lo mid x ∧ Tm.TreeL mid hi xs
end
mutual
theorem Tm.Tree.mono : ∀ {t : Tm} {lo hi lo' hi' : Nat}, lo' ≤ lo → hi ≤ hi' → t.Tree lo hi → t.Tree lo' hi'
  | .mk _ _ _ p _ l, lo, hi, lo', hi', h1, h2, h => by
    rw [Tm.Tree] at h ⊢
    refine h.imp id ?_
    rintro ⟨b, hp, h3, h4, h5⟩
    exact ⟨b, hp, by omega, by omega, Tm.TreeL.mono (Nat.le_refl _) h2 h5⟩
theorem Tm.TreeL.mono : ∀ {l : List Tm} {lo hi lo' hi' : Nat}, lo' ≤ lo → hi ≤ hi' → Tm.TreeL lo hi l → Tm.TreeL lo' hi' l
  | [], _, _, _, _, _, _, _ => by rw [Tm.TreeL]; trivial
  | x :: xs, lo, hi, lo', hi', h1, h2, h => by
    rw [Tm.TreeL] at h ⊢
    obtain ⟨mid, h3, h4, h5, h6⟩ := h
    exact ⟨mid, by omega, by omega, Tm.Tree.mono h1 (Nat.le_refl _) h5, Tm.TreeL.mono (Nat.le_refl _) h2 h6⟩
end
theorem Tm.TreeL.snoc : ∀ {l : List Tm} {x : Tm} {lo mid hi : Nat}, lo ≤ mid → mid ≤ hi → Tm.TreeL lo mid l → x.Tree mid hi → Tm.TreeL lo hi (l ++ [x])
  | [], x, lo, mid, hi, h1, h2, _, h => by
    rw [List.nil_append, Tm.TreeL]
    exact ⟨hi, by omega, Nat.le_refl _, Tm.Tree.mono h1 (Nat.le_refl _) h, by rw [Tm.TreeL]; trivial⟩
  | y :: ys, x, lo, mid, hi, h1, h2, h3, h => by
    rw [Tm.TreeL] at h3
    obtain ⟨m, h4, h5, h6, h7⟩ := h3
    rw [List.cons_append, Tm.TreeL]
    exact ⟨m, h4, by omega, h6, Tm.TreeL.snoc h5 h2 h7 h⟩
theorem Tm.tree_nil {k n : Int} {s : ByteArray} {p : Option Addr} {c lo hi : Nat} : (Tm.mk k n s p c []).Tree lo hi := by rw [Tm.Tree]; exact .inl rfl

/-- A term in memory is handed back, that lies whole. -/
def RetTmT (S : Nat → Prop) (t : T) (w : World) (e : Ending) (w' : World) : Prop := ∃ b : Tm, b.In w' ∧ b.erase = t ∧ e = .returned b.val ∧ Gr w w' ∧ b.On S ∧ b.Whole w' ∧ b.Tree w.heap.size w'.heap.size
/-- A function value that may be called: what it makes of a variable, whatever has grown since. -/
def MapFnT (fv : Value) (f : Int → T) (w0 : World) : Prop :=
  ∃ (fid : FuncId) (cap : Array Value), fv = .func (.func fid) #[] cap ∧ (∀ (n : Int) (w : World), (callFunc fid (#[.int .i64 n] ++ cap)).run Try.prog w = .ok (.enter fid (#[.int .i64 n] ++ cap)) w) ∧
    ∀ (n : Int) (w : World), Gr w0 w → In64 n → Calls Try.prog fid (#[.int .i64 n] ++ cap) w (RetTmT (w.heap.size ≤ ·) (f n) w)
theorem MapFnT.gr {fv : Value} {f : Int → T} {w0 w1 : World} (h : MapFnT fv f w0) (hg : Gr w0 w1) : MapFnT fv f w1 := by
  obtain ⟨fid, cap, h1, h2, h3⟩ := h
  exact ⟨fid, cap, h1, h2, fun n w hw hn => h3 n w (hg.trans hw) hn⟩

set_option maxHeartbeats 2000000 in
set_option maxRecDepth 100000 in
theorem mapT_var (n : Int) (s : ByteArray) (p : Option Addr) (c : Nat) (l : List Tm) (fv : Value) (f : Int → T) (w : World) (h : (Tm.mk 1 n s p c l).In w) (hf : MapFnT fv f w) :
    Calls Try.prog 126 #[(Tm.mk 1 n s p c l).val, fv] w (RetTmT (w.heap.size ≤ ·) (f n) w) := by
  rw [Tm.In] at h
  obtain ⟨hk, hn, hs, hlc, hc, hp, hIn⟩ := h
  clear hp hIn
  obtain ⟨fid, cap, rfl, hq, hcall⟩ := hf
  have Hcall := Lib.hid hcall
  have Hn := Lib.hid hn
  clear hcall
  simp only [Tm.val, Tm.k, Tm.n, Tm.s, Tm.p, Tm.c, Tm.l]
  go_enter Try.func126, Try.ntmps126
  go_wp2_with fail
  refine (Hcall.out n _ (by go_grown) Hn.out).mono ?_
  rintro e w1 ⟨bm, hin, he, rfl, hb1, hon, hwh, htr⟩
  obtain ⟨⟨y0, y1, y2, y3⟩, ⟨f0, f1, f2, f3⟩, hlt⟩ := (Blk4.gr (Blk4.new _ _ _ _ _) hb1).parts
  simp only [World.size_alloc] at y0 y1 y2 y3 f0 f1 f2 f3 hlt hon
  have g1 : Gr w w1 := below_step hb1 (by go_grown)
  have hs0 : w.heap.size + 1 < w1.heap.size := hlt
  have Htr := Lib.hid (htr.mono (lo' := w.heap.size) (by simp; omega) (Nat.le_refl _))
  have Hin := Lib.hid hin
  have Hon := Lib.hid hon
  have He := Lib.hid he
  have Hwh := Lib.hid hwh
  clear hin hon he hb1 hwh htr
  obtain ⟨k', n', s', p', c', l'⟩ := bm
  simp only [Tm.val, Tm.k, Tm.n, Tm.s, Tm.p, Tm.c, Tm.l]
  go_wp2_with fail
  refine bodyPost_ret (v := (Tm.mk k' n' s' p' c' l').val) (by simp [results, Try.results126, go_sem, Tm.val, Tm.k, Tm.n, Tm.s, Tm.p, Tm.c, Tm.l, y0, y1, y2, y3]) rfl ?_
  have hfin : ∀ W, Kp (fun b => b = w.heap.size + 1) w1 W → RetTmT (w.heap.size ≤ ·) (f n) w (.returned (Tm.mk k' n' s' p' c' l').val) W := fun W hK =>
    ⟨Tm.mk k' n' s' p' c' l', in_after' Hin.out Hon.out (fun b h1 h2 o => World.cell?_of_block (hK.block b h2 (by omega))), He.out, rfl, Below.trans g1 (hK.below (B := w.heap.size) (fun b hb => by omega) g1.size), Hon.out.mono fun b hb => by omega,
      Tm.Whole.same (fun b hb => hK.block b hb.2 (by have := hb.1; omega)) (Tm.On.and Hon.out Hin.out.on) Hwh.out, Htr.out.mono (Nat.le_refl _) hK.size⟩
  exact hfin _ (Kp.set4 rfl)

set_option maxHeartbeats 2000000 in
set_option maxRecDepth 100000 in
theorem mapT_leaf (k n : Int) (s : ByteArray) (p : Option Addr) (c : Nat) (l : List Tm) (fv : Value) (w : World) (h : (Tm.mk k n s p c l).In w) (hk1 : k ≠ 1) (hk4 : k ≠ 4) :
    Calls Try.prog 126 #[(Tm.mk k n s p c l).val, fv] w (RetTmT (w.heap.size ≤ ·) (.mk k n s.toList []) w) := by
  rw [Tm.In] at h
  obtain ⟨hk, hn, hs, hlc, hc, hp, hIn⟩ := h
  clear hp hIn
  have hk1' : (k == 1) = false := beq_eq_false_iff_ne.2 hk1
  have hk4' : (k == 4) = false := beq_eq_false_iff_ne.2 hk4
  have Hk := Lib.hid hk
  have Hn := Lib.hid hn
  have Hs := Lib.hid hs
  clear hk1 hk4 hk hn hs
  simp only [Tm.val, Tm.k, Tm.n, Tm.s, Tm.p, Tm.c, Tm.l]
  go_enter Try.func126, Try.ntmps126
  go_wp2_with fail
  refine bodyPost_ret (v := (Tm.mk k n s none 0 []).val) (by simp [results, Try.results126, go_sem, Tm.val, Tm.k, Tm.n, Tm.s, Tm.p, Tm.c, Tm.l]) rfl ⟨Tm.mk k n s none 0 [], ?_, by simp [Tm.erase, Tm.eraseL], rfl, by go_grown, ?_, ?_, Tm.tree_nil⟩
  · rw [Tm.In, Tm.InL]
    exact ⟨Hk.out, Hn.out, Hs.out, Nat.le_refl _, ⟨by simp, by omega⟩, .inl rfl, trivial⟩
  · rw [Tm.On, Tm.OnL]; exact ⟨.inl rfl, trivial⟩
  · rw [Tm.Whole, Tm.WholeL]; exact ⟨.inl ⟨rfl, rfl, rfl⟩, trivial⟩

set_option maxHeartbeats 4000000 in
set_option maxRecDepth 100000 in
theorem mapT_any (N : Nat) : ∀ (t : Tm) (fv : Value) (f : Int → T) (w : World), SizeOf.sizeOf t ≤ N → t.In w → t.erase.formed = true → MapFnT fv f w →
    Calls Try.prog 126 #[t.val, fv] w (RetTmT (w.heap.size ≤ ·) (T.map f t.erase) w) := by
  induction N with
  | zero => intro t fv f w h; cases t; simp at h
  | succ N ih =>
    intro t fv f w hN h hfm hf
    obtain ⟨k, n, s, p, c, l⟩ := t
    by_cases hk1 : k = 1
    · subst hk1
      rw [Tm.erase, T.map, if_pos rfl]
      exact mapT_var n s p c l fv f w h hf
    by_cases hk4 : k = 4
    · subst hk4
      obtain ⟨rfl, h100, hl1, hl50, hfl⟩ := formed_elem rfl hfm
      have hsz := fun x (hx : x ∈ l) => Tm.sizeOf_mem hx 4 0 s p c
      have HT := Lib.hid h
      have HSl := Lib.hid h.sl
      rw [Tm.In] at h
      obtain ⟨hk, hn, hs, hlc, hc, hp, hIn⟩ := h
      obtain ⟨b, o, rfl⟩ := HSl.out.ptr (by omega)
      have hbl : b < w.heap.size := Tm.row_lt (by rcases hp with rfl | ⟨b', o', he, hr⟩; · simp at hl1
                                                  · cases he; exact hr) (by rintro rfl; simp at hl1)
      obtain ⟨fid, cap, rfl, hq, hcall⟩ := hf
      have Hf : Hid (MapFnT (.func (.func fid) #[] cap) f w) := ⟨fid, cap, rfl, hq, hcall⟩
      have Hih := Lib.hid ih
      have Hsz := Lib.hid hsz
      have Hfl := Lib.hid hfl
      have Hs := Lib.hid hs
      clear hp hIn hcall hq ih hsz hfl hk hn hfm
      obtain ⟨i0, hi, hz0, hz1, hz2⟩ := info_parts infoTermM
      have Hi := Lib.hid hi
      clear hi
      rw [Tm.erase, T.map, if_neg (by decide), if_pos rfl]
      simp only [Tm.val, Tm.k, Tm.n, Tm.s, Tm.p, Tm.c, Tm.l]
      go_enter Try.func126, Try.ntmps126
      go_wp2_with
        (refine wpList_make_full _ rfl _ _ 23 rfl (w.heap.size) 25 i0 _ 4 Try.underlying23 Hi.out hz0 hz1 .i64 .i64 _ _ l.length rfl rfl rfl rfl (by rw [hz2]; omega) (by simp only [maxLen]; omega) (by simp; omega) ?_
         intro w1 hown hgrow
         have HF := fill_made (S := fun _ => False) hown
         have HA := (after_make hgrow).2
         obtain ⟨⟨b0, b1, b2, b3⟩, _, _⟩ := (after_make hgrow).1.parts
         clear hown hgrow)
      obtain ⟨HB, HR, g1⟩ := HA.out
      replace HB := Lib.hid HB
      replace HR := Lib.hid HR
      have hg2 : w.heap.size + 1 + 1 < w1.heap.size := HF.out.lt
      clear b0 b1 b2 b3 HA
      go_loopw [25] (fun i wr => ∃ k : Nat, k ≤ l.length ∧ i = .int .i64 k ∧ Hid (∃ lm : List Tm, lm.length = k ∧ Tm.eraseL lm = T.mapL f (Tm.eraseL (l.take k)) ∧ Filling wr (w.heap.size + 1 + 1) (fun _ => False) (w.heap.size + 1 + 1) l.length lm ∧ Tm.WholeL wr lm ∧ Tm.TreeL (w.heap.size + 1 + 1 + 1) wr.heap.size lm) ∧ Below (w.heap.size + 1 + 1) w1 wr)
        (fun i _ => l.length - (intOf i).toNat)
      case atStart => exact ⟨0, Nat.zero_le _, rfl, ⟨[], rfl, by simp [T.mapL, Tm.eraseL], HF.out, by rw [Tm.WholeL]; trivial, by rw [Tm.TreeL]; trivial⟩, Below.refl _ _⟩
      case round =>
        obtain ⟨k, hk, rfl, hlm, hb⟩ := hrel
        have hbs := hb.size
        have gr : Gr w wr := Below.trans g1 (hb.mono (by omega))
        have HB' : Hid _ := Lib.hid (HB.out.below hb (by omega))
        have HR' : Hid _ := Lib.hid (HR.out.below hb (by omega))
        by_cases hlt : k < l.length
        · obtain ⟨⟨c0, c1, c2, c3⟩, hx, _⟩ := (HSl.out.mono gr).elem k hlt
          have Hx := Lib.hid hx
          have hmem : l[k] ∈ l := List.getElem_mem hlt
          have Hz := Hsz.out _ hmem
          have Hfx := Lib.hid (Hfl.out _ hmem)
          have Htk : Hid (T.mapL f (Tm.eraseL (l.take (k + 1))) = T.mapL f (Tm.eraseL (l.take k)) ++ [T.map f l[k].erase]) := T.mapL_erase f l k hlt
          clear hx hmem
          generalize hxe : l[k] = x at *
          go_wp2_with fail
          refine (Hih.out x _ f _ (by omega) (Tm.In_below (by go_grown) Hx.out) Hfx.out (Hf.out.gr (by go_grown))).mono ?_
          rintro e w2 ⟨xm, hin, he, rfl, hb2, hon, hwh, htr⟩
          obtain ⟨lm, hl0, he0, hF, hWL, hTL⟩ := hlm.out
          have hg12 : Gr wr w2 := below_step hb2 (by go_grown)
          have HWL := Lib.hid (Tm.WholeL.same (S := (· < wr.heap.size)) (fun b hb => hg12.block b hb) (hF.2.2.2.2.mono fun b hb => hb.2.1) hWL)
          have HLon := Lib.hid (hF.2.2.2.2.mono (S' := fun b => b < w2.heap.size ∧ b ≠ w.heap.size + 1 + 1) fun b hb => ⟨Nat.lt_of_lt_of_le hb.2.1 hg12.size, hb.2.2⟩)
          have Hwh := Lib.hid hwh
          have HTL := Lib.hid (Tm.TreeL.snoc (hi := w2.heap.size) (by omega) hg12.size hTL (Tm.Tree.mono (lo' := wr.heap.size) (by simp) (Nat.le_refl _) htr))
          have hF2 : Filling w2 (w.heap.size + 1 + 1) (fun _ => False) (w.heap.size + 1 + 1) l.length lm := Filling.gr (w := wr) hF (below_step hb2 (by go_grown))
          have HF2 := Lib.hid hF2
          have g2 : Below (w.heap.size + 1 + 1) w1 w2 := Below.trans hb ((show Gr wr w2 from below_step hb2 (by go_grown)).mono (by omega))
          obtain ⟨⟨q0, r0⟩, fr0⟩ := hF2.spot (j := k * 4) (by omega)
          obtain ⟨⟨q1, r1⟩, fr1⟩ := hF2.spot (j := k * 4 + 1) (by omega)
          obtain ⟨⟨q2, r2⟩, fr2⟩ := hF2.spot (j := k * 4 + 2) (by omega)
          obtain ⟨⟨q3, r3⟩, fr3⟩ := hF2.spot (j := k * 4 + 3) (by omega)
          have hs2 := hb2.size
          simp only [World.size_alloc] at hs2 hon
          have Hl0 := Lib.hid hl0
          have He0 := Lib.hid he0
          have Hin := Lib.hid hin
          have Hon := Lib.hid hon
          have He := Lib.hid he
          clear hF hF2 hl0 he0 hin hon he hb2 hlm hwh hWL hg12 htr hTL
          obtain ⟨k', n', s', p', c', l'⟩ := xm
          simp only [Tm.val, Tm.k, Tm.n, Tm.s, Tm.p, Tm.c, Tm.l]
          go_wp2_with fail
          go_roundw
          case rel =>
            refine ⟨k + 1, by omega, by go_num, ⟨lm ++ [.mk k' n' s' p' c' l'], by simp [Hl0.out], by rw [eraseL_append, He0.out, Htk.out]; simp [Tm.eraseL, He.out], ?_, ?_, Tm.TreeL.mono (Nat.le_refl _) (by simp) HTL.out⟩, by go_grown⟩
            rotate_left
            · exact Tm.WholeL_append (Tm.WholeL.same (fun b hb => (Kp.set4 (C := fun x => x = w.heap.size + 1 + 1) rfl).block b hb.1 hb.2) HLon.out HWL.out)
                (by rw [Tm.WholeL, Tm.WholeL]; exact ⟨Tm.Whole.same (fun b hb => (Kp.set4 (C := fun x => x = w.heap.size + 1 + 1) rfl).block b hb.2 (by have := hb.1; omega)) (Tm.On.and Hon.out Hin.out.on) Hwh.out, trivial⟩)
            have := HF2.out.store (x := .mk k' n' s' p' c' l') (by rw [Hl0.out]; exact hlt) Hin.out (Hon.out.mono fun b hb => ?_)
            · rw [Hl0.out] at this
              simpa only [Tm.k, Tm.n, Tm.s, Tm.p, Tm.c, Tm.l] using this
            · exact ⟨.inr (by omega), by omega⟩
          case measure => simp [intOf]; omega
        · obtain rfl : k = l.length := by omega
          obtain ⟨lm, hl0, he0, hF, hWL, hTL⟩ := hlm.out
          have HTL := Lib.hid hTL
          have HWL := Lib.hid hWL
          have HLon := Lib.hid hF.2.2.2.2
          obtain ⟨⟨b0, b1, b2, b3⟩, ⟨e0, e1, e2, e3⟩, hbs1⟩ := HB'.out.parts
          obtain ⟨⟨y0, y1, y2, y3⟩, ⟨f0, f1, f2, f3⟩, hbs2⟩ := HR'.out.parts
          have HF := Lib.hid hF
          have Hl0 := Lib.hid hl0
          have He0 := Lib.hid he0
          clear hF hl0 he0 hlm hWL hTL
          go_wp2_with fail
          refine bodyPost_ret (v := (Tm.mk 4 0 s (some ⟨w.heap.size + 1 + 1, 0, none⟩) l.length lm).val) (by simp [results, Try.results126, go_sem, Tm.val, Tm.k, Tm.n, Tm.s, Tm.p, Tm.c, Tm.l, Hl0.out, y0, y1, y2, y3]) rfl ?_
          have hsl := HF.out.sl Hl0.out (by omega)
          have hin : (Tm.mk 4 0 s (some ⟨w.heap.size + 1 + 1, 0, none⟩) l.length lm).In wr := compTm_in Hs.out hsl.1
          have hon : (Tm.mk 4 0 s (some ⟨w.heap.size + 1 + 1, 0, none⟩) l.length lm).On (fun b => w.heap.size + 1 + 1 ≤ b) := by
            rw [Tm.On]
            exact ⟨hsl.2.1.imp id fun ⟨b, o, h1, h2⟩ => ⟨b, o, h1, h2.elim (fun h => h.elim) id⟩, hsl.2.2.mono fun b hb => hb.elim (fun h => h.elim) id⟩
          have hwhole : (Tm.mk 4 0 s (some ⟨w.heap.size + 1 + 1, 0, none⟩) l.length lm).Whole wr := by
            obtain ⟨_, _, ⟨cur, hc1, hc2, _⟩, _⟩ := HF.out
            rw [Tm.Whole]
            exact ⟨.inr ⟨by rintro rfl; have := Hl0.out; simp at this; omega, _, cur, rfl, Hl0.out.symm, hc1, by rw [hc2, Hl0.out]⟩, HWL.out⟩
          have hfin : ∀ W, Kp (fun b => b = w.heap.size ∨ b = w.heap.size + 1) wr W → RetTmT (w.heap.size ≤ ·) (.mk 4 0 s.toList (T.mapL f (Tm.eraseL l))) w (.returned (Tm.mk 4 0 s (some ⟨w.heap.size + 1 + 1, 0, none⟩) l.length lm).val) W := fun W hK =>
            ⟨_, in_after' hin hon (fun b h1 h2 o => World.cell?_of_block (hK.block b h2 (by omega))), by rw [Tm.erase, He0.out, List.take_length], rfl, Below.trans gr (hK.below (B := w.heap.size) (fun b hb => by omega) gr.size), hon.mono fun b hb => by omega,
              Tm.Whole.same (fun b hb => hK.block b hb.2 (by have := hb.1; omega)) (Tm.On.and hon hin.on) hwhole,
              by rw [Tm.Tree]; exact .inr ⟨_, rfl, by omega, by have := hK.size; omega, Tm.TreeL.mono (Nat.le_refl _) hK.size HTL.out⟩⟩
          exact hfin _ ((Kp.set (C := fun b => b = w.heap.size ∨ b = w.heap.size + 1) (.inl rfl)).trans (Kp.set4 (C := fun b => b = w.heap.size ∨ b = w.heap.size + 1) (.inr rfl)))
    · rw [Tm.erase, T.map, if_neg hk1, if_neg hk4]
      exact mapT_leaf k n s p c l fv w h hk1 hk4


theorem mapT_calls {t : Tm} {fv : Value} {f : Int → T} {w : World} (h : t.In w) (hf : t.erase.formed = true) (hm : MapFnT fv f w) :
    Calls Try.prog 126 #[t.val, fv] w (RetTmT (w.heap.size ≤ ·) (T.map f t.erase) w) := mapT_any _ t fv f w (Nat.le_refl _) h hf hm

theorem mapFnT_V (w : World) : MapFnT (.func (.func 87) #[] #[]) varT w :=
  ⟨87, #[], rfl, fun n w => by kernel_rfl, fun n w _ hn => (vV_calls n w).mono fun e w' ⟨he, hg⟩ =>
    ⟨varTm n, varTm_in hn w', varTm_erase n, he, hg, varTm_on n, by rw [varTm, Tm.Whole, Tm.WholeL]; exact ⟨.inl ⟨rfl, rfl, rfl⟩, trivial⟩, Tm.tree_nil⟩⟩

set_option maxHeartbeats 400000 in
/-- term.Copy: the same term in new memory, a tree. -/
theorem copyT_calls {t : Tm} {w : World} (h : t.In w) (hf : t.erase.formed = true) : Calls Try.prog 82 #[t.val] w (RetTmT (w.heap.size ≤ ·) t.erase w) := by
  have H := Lib.hid h
  have Hf := Lib.hid hf
  clear h hf
  simp only [Tm.val]
  go_enter Try.func82, Try.ntmps82
  go_wp2_with fail
  refine (mapT_calls (t := t) (Tm.In_below (by go_grown) H.out) Hf.out (mapFnT_V _)).mono ?_
  rw [T.map_varT Hf.out]
  rintro e w1 ⟨bm, hin, he, rfl, hb1, hon, hwh, htr⟩
  obtain ⟨⟨y0, y1, y2, y3⟩, ⟨f0, f1, f2, f3⟩, hlt⟩ := (Blk4.gr (Blk4.new _ _ _ _ _) hb1).parts
  simp only [World.size_alloc] at y0 y1 y2 y3 f0 f1 f2 f3 hlt hon
  have g1 : Gr w w1 := below_step hb1 (by go_grown)
  have Hin := Lib.hid hin
  have Hon := Lib.hid hon
  have He := Lib.hid he
  have Hwh := Lib.hid hwh
  have Htr := Lib.hid (htr.mono (lo' := w.heap.size) (by simp; omega) (Nat.le_refl _))
  clear hin hon he hb1 hwh htr
  obtain ⟨k', n', s', p', c', l'⟩ := bm
  simp only [Tm.val, Tm.k, Tm.n, Tm.s, Tm.p, Tm.c, Tm.l]
  go_wp2_with fail
  refine bodyPost_ret (v := (Tm.mk k' n' s' p' c' l').val) (by simp [results, Try.results82, go_sem, Tm.val, Tm.k, Tm.n, Tm.s, Tm.p, Tm.c, Tm.l, y0, y1, y2, y3]) rfl ?_
  have hfin : ∀ W, Kp (fun b => b = w.heap.size + 1) w1 W → RetTmT (w.heap.size ≤ ·) _ w (.returned (Tm.mk k' n' s' p' c' l').val) W := fun W hK =>
    ⟨Tm.mk k' n' s' p' c' l', in_after' Hin.out Hon.out (fun b h1 h2 o => World.cell?_of_block (hK.block b h2 (by omega))), He.out, rfl, Below.trans g1 (hK.below (B := w.heap.size) (fun b hb => by omega) g1.size), Hon.out.mono fun b hb => by omega,
      Tm.Whole.same (fun b hb => hK.block b hb.2 (by have := hb.1; omega)) (Tm.On.and Hon.out Hin.out.on) Hwh.out, Htr.out.mono (Nat.le_refl _) hK.size⟩
  exact hfin _ (Kp.set4 rfl)
end Go.Proofs.Ythncdmijledpnaa
