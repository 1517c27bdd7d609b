/-
  term.Variables: the variables of terms in their order.
  term.Variables: the variables of terms in their order.
  term.Rename.
-/
import Derived.Test.YthncdmijledpnaaTM18
import Derived.Test.YthncdmijledpnaaTM09
import Derived.Test.YthncdmijledpnaaTM05
import Derived.Maps.AppendAt
import Derived.Test.YthncdmijledpnaaTM08
namespace Go.Proofs.Ythncdmijledpnaa
open Go.RowKit Go.Shelf Go.Maps

attribute [local go_sem] Oper.semAt_some

theorem round_any {m m' : Nat} {P : Program} {l : Nat} {f : FuncId} {tmps : Array Value} {assign body : Code} {w : World} {R : Ending → World → Prop}
    (h : RoundIn Fence.wide m P l f tmps assign body w R) : RoundIn Fence.wide m' P l f tmps assign body w R := ⟨h.1, fun c cs _ => h.2 c cs (fun d h => by cases h)⟩
theorem yield_any {m m' : Nat} {P : Program} {l : Nat} {args : Array Value} {W : World} {R : Ending → World → Prop} (h : YieldAt Fence.wide m P l args W R) : YieldAt Fence.wide m' P l args W R := by
  obtain ⟨fn, tmps, assign, body, hy, hR⟩ := h
  exact ⟨fn, tmps, assign, body, hy, round_any hR⟩

theorem FitO.below {O n₀ : Nat} {w W : World} (h : FitO O n₀ w) (hg : Gr w W) : FitO O n₀ W := by
  obtain ⟨v, h1, h2⟩ := h
  exact ⟨v, hg.at h1, fun b e => ⟨(h2 b e).1, Nat.lt_of_lt_of_le (h2 b e).2 hg.size⟩⟩

set_option maxHeartbeats 1000000 in
/-- term.Parts$1: an iterator over the parts. -/
theorem parts_stops (n O n₀ Bt : Nat) (t : Tm) (xs : List Pt) (w : World) (hin : t.In w) (hon : t.On (· < n₀)) (hn₀ : n₀ ≤ w.heap.size) (hO : n₀ ≤ O) (hfit : FitO O n₀ w) (hxs : xs.map Subtype.val = t.pre)
    (hB : Blk4 w Bt (.int .i64 t.k) (.int .i64 t.n) (.string t.s) (.slice t.p t.l.length t.c)) :
    SeqStopsK Fence.wide n Try.prog 206 #[.pointer (some ⟨Bt, 0, none⟩)] (fun x : Pt => #[.agg #[.int .i64 x.1.k, .int .i64 x.1.n, .string x.1.s, .slice x.1.p x.1.l.length x.1.c]]) (Kv O) (fun ys => ys = xs) (fun pre => pre <+: xs) xs.length w := by
  intro l J Jx W hW hJ _ hY h0
  have hW' : Gr w W := hW
  obtain ⟨⟨b0, b1, b2, b3⟩, _, _⟩ := (hB.gr hW').parts
  have hp := Lib.hid (partsY_any O l n₀ xs.length J Jx (fun pre W o h => hJ pre W _ none h (World.grownBy_alloc W o none) (fun r e => by cases e)) (fun m pre x W hj hl => yield_any (hY pre x W hj hl)) hO _ t (n - 1) xs [] W (Nat.le_refl _) (Tm.In_below hW' hin) hon (Nat.le_trans hn₀ hW'.size) (hfit.below hW') hxs h0 (by simp))
  have Hv := Lib.hid (show t.val = .agg #[.int .i64 t.k, .int .i64 t.n, .string t.s, .slice t.p t.l.length t.c] from rfl)
  refine callsIn_of_wp Try.func206 rfl trivial ?_ rfl
  simp only [Try.ntmps206, List.size_toArray, List.length_cons, List.length_nil, Nat.reduceAdd, Nat.reduceSub, Array.replicate_succ, Array.replicate_zero, List.push_toArray, List.append_toArray, List.nil_append, List.cons_append]
  gi_wp2_with (refine ⟨trivial, fun h => (by cases h), ?_⟩; gi_at_call 207; rewrite [← Hv.out]; refine hp.out.mono ?_; rintro e W1 (⟨rfl, hJ1, _⟩ | ⟨rfl, q, hq, hx⟩))
  · go_end0
    exact ⟨⟨_, rfl⟩, .inl ⟨_, rfl, by simpa using hJ1⟩⟩
  · go_end0
    exact ⟨⟨_, rfl⟩, .inr ⟨q, hq, by simpa using hx⟩⟩

set_option maxHeartbeats 1000000 in
/-- term.Parts. -/
theorem parts_calls (k nn : Int) (s : ByteArray) (p : Option Addr) (len c : Nat) (w : World) : Calls Try.prog 165 #[.agg #[.int .i64 k, .int .i64 nn, .string s, .slice p len c]] w fun e w' =>
    e = .returned (.func (.func 206) #[] #[.pointer (some ⟨w.heap.size, 0, none⟩)]) ∧ w' = w.alloc (.cells #[.int .i64 k, .int .i64 nn, .string s, .slice p len c] 25) := by
  go_enter Try.func165, Try.ntmps165
  go_wp2_with fail
  go_ret
  exact ⟨rfl, rfl⟩

def kNum (n : Int) : Value := .int .i64 n
theorem kNum_inj {x y : Int} (h : kNum y = kNum x) : y = x := by simpa [kNum] using h
def seenF (V : List Int) (n : Int) : Option Value := if n ∈ V then some (.int .i64 1) else none

/-- The state of the loop: the list's variable, the list, the map's variable, the map. -/
def VSt (n₀ O S M : Nat) (V : List Int) (W : World) : Prop :=
  ∃ v, W.heap[O]? = some (.cells #[v] 42) ∧ IntsOwn W n₀ v V ∧ W.heap[S]? = some (.cells #[.map (some M)] 206) ∧ GMap 2 kNum W M (seenF V)

theorem IntsOwn.sameAt {w w' : World} {B : Nat} {v : Value} {L : List Int} (h : IntsOwn w B v L) (hs : ∀ g, v.ownBlock = some g → w'.heap[g]? = w.heap[g]?) : IntsOwn w' B v L := by
  refine ⟨h.1, ?_⟩
  rcases h.2 with hn | ⟨g, cap, cur, rfl, hb, hgg, rest⟩
  · exact .inl hn
  · exact .inr ⟨g, cap, cur, rfl, hb, (hs g (by simp [Value.ownBlock])).trans hgg, rest⟩
/-- The row of a list is cells. -/
theorem IntsOwn.cells {w : World} {B : Nat} {v : Value} {L : List Int} (h : IntsOwn w B v L) {g : Nat} (hg : v.ownBlock = some g) : ∃ cur, w.heap[g]? = some (.cells cur 2) ∧ B ≤ g := by
  rcases h.2 with ⟨rfl, _⟩ | ⟨g', cap, cur, rfl, hb, hgg, _⟩
  · simp [Value.ownBlock] at hg
  · obtain rfl : g' = g := by simpa [Value.ownBlock] using hg
    exact ⟨cur, hgg, hb⟩
theorem IntsOwn.fit {w : World} {B O : Nat} {v : Value} {L : List Int} (h : IntsOwn w B v L) (hO : w.cell? ⟨O, 0, none⟩ = some v) : FitO O B w :=
  ⟨v, hO, fun b e => by obtain ⟨cur, h1, h2⟩ := h.cells e; exact ⟨h2, (Array.getElem?_eq_some_iff.1 h1).1⟩⟩

theorem VSt.same {n₀ O S M : Nat} {V : List Int} {W W' : World} (h : VSt n₀ O S M V W) (hs : ∀ b, (b = M ∨ ∃ cur t, W.heap[b]? = some (.cells cur t)) → W'.heap[b]? = W.heap[b]?) : VSt n₀ O S M V W' := by
  obtain ⟨v, h1, h2, h3, h4⟩ := h
  exact ⟨v, (hs O (.inr ⟨_, _, h1⟩)).trans h1, h2.sameAt (fun g hg => by obtain ⟨cur, h5, _⟩ := h2.cells hg; exact hs g (.inr ⟨_, _, h5⟩)), (hs S (.inr ⟨_, _, h3⟩)).trans h3, h4.same (hs M (.inl rfl))⟩
theorem VSt.gr {n₀ O S M : Nat} {V : List Int} {W W' : World} (h : VSt n₀ O S M V W) (hg : Gr W W') : VSt n₀ O S M V W' := by
  have hM : M < W.heap.size := h.choose_spec.2.2.2.lt
  refine h.same fun b hb => hg.block b ?_
  rcases hb with rfl | ⟨cur, t, hb⟩
  · exact hM
  · exact (Array.getElem?_eq_some_iff.1 hb).1
theorem VSt.lts {n₀ O S M : Nat} {V : List Int} {W : World} (h : VSt n₀ O S M V W) : O < W.heap.size ∧ S < W.heap.size ∧ M < W.heap.size := by
  obtain ⟨v, h1, h2, h3, h4⟩ := h
  exact ⟨(Array.getElem?_eq_some_iff.1 h1).1, (Array.getElem?_eq_some_iff.1 h3).1, h4.lt⟩
theorem VSt.fit {n₀ O S M : Nat} {V : List Int} {W : World} (h : VSt n₀ O S M V W) : FitO O n₀ W := by
  obtain ⟨v, h1, h2, h3, h4⟩ := h
  have := cell_of_row W O 0 _ _ _ h1
  exact h2.fit (by simpa using this)

/-- Marks of loops over iterators, each of which is to be shut. -/
def Marks (n₀ B : Nat) (W : World) (Ds : List Nat) : Prop := Ds.Nodup ∧ ∀ D ∈ Ds, n₀ ≤ D ∧ D < B ∧ W.heap[D]? = some (.deferred (some []))
abbrev marked (Ds : List Nat) : List Deferred := Ds.map fun D => { target := .collected D, args := #[] }

theorem own_vst (n₀ O S M B : Nat) (V : List Pt → List Int) (hM : M < B) : OwnFrom B (fun pre W => VSt n₀ O S M (V pre) W) := by
  intro pre A W row h hg hr
  have hM' : M < A.heap.size := h.lts.2.2
  refine h.same fun b hb => ?_
  rcases hb with rfl | ⟨cur, t, hb⟩
  · exact hg.block _ hM' fun e => by have := (hr _ e.symm).1; omega
  · refine hg.block b (Array.getElem?_eq_some_iff.1 hb).1 fun e => ?_
    obtain ⟨_, o, ho, hc⟩ := hr b e.symm
    rw [hb] at ho
    cases ho
    cases hc
theorem own_marks (n₀ B : Nat) (Ds : List Nat) : OwnFrom B (fun (_ : List Pt) W => Marks n₀ B W Ds) := by
  intro pre A W row h hg hr
  refine ⟨h.1, fun D hD => ?_⟩
  obtain ⟨h1, h2, h3⟩ := h.2 D hD
  exact ⟨h1, h2, (hg.block D (Array.getElem?_eq_some_iff.1 h3).1 fun e => by have := (hr _ e.symm).1; omega).trans h3⟩

/-- A function whose loops over iterators have left marks behind goes its way out. -/
theorem leaves_marks {F : Fence} {n : Nat} {P : Program} {fn : Func} {tmps : Array Value} {R : Ending → World → Prop} : ∀ (Ds : List Nat) (W : World), Ds.Nodup → (∀ D ∈ Ds, W.heap[D]? = some (.deferred (some []))) →
    (∀ W', Kp (· ∈ Ds) W W' → LeavesIn F n P fn tmps R [] .returning W') → LeavesInM F n P fn tmps R (marked Ds) .returning W
  | [], W, _, _, h => h W (Kp.refl _ _)
  | D :: Ds, W, hn, hd, h => by
    rw [List.nodup_cons] at hn
    have hD := hd D (List.mem_cons_self ..)
    have hK : Kp (· ∈ D :: Ds) W (W.putObj D (.deferred none)) := ⟨rfl, rfl, rfl, by simp, fun k _ hc => World.putObj_heap_other fun e => hc (by rw [e]; exact List.mem_cons_self ..)⟩
    refine ⟨by simp, .inl ⟨D, _, rfl, run_takeDeferred hD, leaves_marks Ds _ hn.2 (fun D' hD' => ?_) fun W' hW' => h W' (hK.trans (hW'.mono fun b hb => List.mem_cons_of_mem _ hb))⟩⟩
    have hne : D' ≠ D := fun e => hn.1 (e ▸ hD')
    exact (World.putObj_heap_other hne).trans (hd D' (List.mem_cons_of_mem _ hD'))

/-- One round that has seen a new variable. -/
theorem see_step {n₀ O S M : Nat} {V : List Int} {W w' w1 : World} {tmp : Obj} {v v' : Value} {n : Int} (hO : W.heap[O]? = some (.cells #[v] 42)) (hr : IntsOwn W n₀ v V) (hS : W.heap[S]? = some (.cells #[.map (some M)] 206))
    (hM : GMap 2 kNum W M (seenF V)) (hu : GMap 2 kNum w' M (seenF (V ++ [n]))) (hg : W.grownBy w' (some M)) (hn₀ : n₀ ≤ W.heap.size) (hO' : n₀ ≤ O) (hMn : n₀ ≤ M)
    (h1 : IntsOwn w1 n₀ v' (V ++ [n])) (h2 : (w'.alloc tmp).grownBy w1 v.ownBlock) (h3 : v'.ownBlock = v.ownBlock ∨ v'.ownBlock = some (w'.alloc tmp).heap.size) :
    (w1.cell? ⟨O, 0, none⟩ = some v ∧ w1.frozen? ⟨O, 0, none⟩ = false) ∧ VSt n₀ O S M (V ++ [n]) (w1.setCell ⟨O, 0, none⟩ v') ∧ Below n₀ W (w1.setCell ⟨O, 0, none⟩ v') ∧ Kv O W (w1.setCell ⟨O, 0, none⟩ v') ∧
      (∀ B, M < B → KeepsFrom B W (w1.setCell ⟨O, 0, none⟩ v')) ∧ ∀ D : Nat, W.heap[D]? = some (Obj.deferred (some [])) → (w1.setCell ⟨O, 0, none⟩ v').heap[D]? = some (Obj.deferred (some [])) := by
  obtain ⟨E, cl, hMo, _⟩ := hM
  have hMo0 := hMo
  have cellsM : ∀ {b : Nat} {cur : Array Value} {t : TypeId}, W.heap[b]? = some (.cells cur t) → w'.heap[b]? = some (.cells cur t) := fun {b cur t} hb =>
    (hg.block b (Array.getElem?_eq_some_iff.1 hb).1 fun e => by cases e; rw [hMo] at hb; cases hb).trans hb
  have bO : Go.Boxed w' O 42 v := cellsM hO
  have bS : Go.Boxed w' S 206 (.map (some M)) := cellsM hS
  have hrow' : IntsOwn w' n₀ v V := hr.sameAt fun g hgv => by obtain ⟨cur, hc, _⟩ := hr.cells hgv; rw [cellsM hc, hc]
  have hszg := hg.size
  have hOl : O < W.heap.size := (Array.getElem?_eq_some_iff.1 hO).1
  obtain ⟨a1, a2, a3, a4, a5⟩ := bO.appended (by decide) hrow' (Nat.le_trans hn₀ hszg) hO' h1 h2
  have hs1 := h2.size
  have hs2 : w1.heap.size ≤ (w1.setCell ⟨O, 0, none⟩ v').heap.size := by simp
  have hMl : M < W.heap.size := (Array.getElem?_eq_some_iff.1 hMo).1
  have hMw' := hu.lt
  have hBel : Below n₀ W w' := (Below.refl n₀ W).grown hg hn₀ fun j e => by cases e; exact hMn
  have hOM : M ≠ O := by rintro rfl; rw [hO] at hMo; cases hMo
  have hSO : S ≠ O := by rintro rfl; rw [hO] at hS; have := hS; simp at this
  have hMv : v.ownBlock ≠ some M := fun e => by obtain ⟨cur, hc, _⟩ := hr.cells e; rw [hMo] at hc; cases hc
  obtain ⟨E', cl', hMo', hrest⟩ := hu
  have hMo2 : (w1.setCell ⟨O, 0, none⟩ v').heap[M]? = w'.heap[M]? := by
    rw [Below.heap_setCell _ _ _ _ hOM, h2.block M (by simp; omega) (Ne.symm hMv), Below.heap_alloc w' tmp M hMw']
  have hrowO : some O ≠ v.ownBlock := bO.not_row (by decide) hrow'
  refine ⟨⟨a1.cell, a1.frozen⟩, ⟨v', a2, a3, ?_, ⟨E', cl', hMo2.trans hMo', hrest⟩⟩, hBel.trans a5, ?_, fun B hB => (KeepsFrom.of_grownBy hg fun j e => by cases e; exact hB).trans (a4.from B), fun D hD => a4.same D _ ((hg.block D (Array.getElem?_eq_some_iff.1 hD).1 fun e => by cases e; rw [hMo0] at hD; cases hD).trans hD) rfl⟩
  · have b1 : Go.Boxed w1 S 206 (.map (some M)) := (bS.alloc tmp).kept h2 (bS.not_row (by decide) hrow')
    exact b1.other hSO v'
  · refine ⟨by simp at hs1; omega, fun u hu hub => ?_⟩
    have huv : u = v := by
      have := cell_of_row W O 0 _ _ _ hO
      simp only [List.getElem?_toArray, List.getElem?_cons_zero] at this
      rw [this] at hu
      exact (Option.some.inj hu).symm
    subst huv
    refine ⟨v', a2.cell, fun b e => ?_, fun b o c hc hbO hbv => ?_⟩
    · have hbl : b < (w1.setCell ⟨O, 0, none⟩ v').heap.size := by
        obtain ⟨cur, hcur, _⟩ := IntsOwn.cells (w := w1.setCell ⟨O, 0, none⟩ v') (L := V ++ [n]) (B := n₀) a3 e
        exact (Array.getElem?_eq_some_iff.1 hcur).1
      refine ⟨hbl, ?_⟩
      rcases h3 with h3 | h3
      · exact .inl (h3 ▸ e)
      · rw [h3] at e
        cases e
        exact .inr (by simp; omega)
    · have hbl := World.block_lt_of_cell? _ _ hc
      simp only at hbl
      have hbM : b ≠ M := by
        rintro rfl
        unfold World.cell? at hc
        simp only [hMo0] at hc
        cases hc
      rw [cell_set_ne hbO, World.cell?_of_block (h2.block b (by simp; omega) (Ne.symm hbv)), World.cell?_alloc_past _ _ _ (show b < w'.heap.size by omega), World.cell?_of_block (hg.block b hbl fun e => hbM (by cases e; rfl))]
      exact hc
end Go.Proofs.Ythncdmijledpnaa

namespace Go.Proofs.Ythncdmijledpnaa
open Go.RowKit Go.Shelf Go.Maps

attribute [local go_sem] Oper.semAt_some

theorem zero_int' (w : World) : (zeroValue 3).run Try.prog w = .ok (.int .i64 0) w := by kernel_rfl

set_option maxHeartbeats 4000000 in
set_option maxRecDepth 100000 in
theorem variables_calls (p : Option Addr) (c : Nat) (l : List Tm) (w : World) (h : Tm.Sl w p c l) (hf : ∀ x ∈ l, x.erase.fmd = true) :
    Calls Try.prog 111 #[.slice p l.length c] w fun e w' => ∃ v, e = .returned v ∧ IntsOwn w' w.heap.size v (T.varsL (Tm.eraseL l) []) ∧ Gr w w' := by
  have hlc : l.length ≤ c := h.1
  have hl64 : l.length * 56 ≤ 140737488351232 := h.2.1.1
  have hc64 : c ≤ 9223372036854775807 := h.2.1.2
  have HIn := Lib.hid h.2.2.2
  have HSl := Lib.hid h
  have HF := Lib.hid hf
  clear h hf
  obtain ⟨i0, hi, hz0, hz1, hz2⟩ := info_parts infoI64
  have Hi := Lib.hid hi
  clear hi
  have hmm := @run_makeMap Try.prog
  refine (callsIn_wide (n := 9)).1 ?_
  refine callsIn_of_wp_marks Try.func111 rfl trivial ?_ rfl
  simp only [Try.ntmps111, List.size_toArray, List.length_cons, List.length_nil, Nat.reduceAdd, Nat.reduceSub, Array.replicate_succ, Array.replicate_zero, List.push_toArray, List.append_toArray, List.nil_append, List.cons_append]
  gi_wp2
  have hst0 : VSt w.heap.size (w.heap.size + 1 + 1) (w.heap.size + 1) w.heap.size [] (((w.alloc (.map #[] 0)).alloc (.cells #[.map (some w.heap.size)] 206)).alloc (.cells #[.slice none 0 0] 42)) := by
    have e1 := heap_alloc_new ((w.alloc (.map #[] 0)).alloc (.cells #[.map (some w.heap.size)] 206)) (.cells #[.slice none 0 0] 42)
    have e2 := heap_alloc_new (w.alloc (.map #[] 0)) (.cells #[.map (some w.heap.size)] 206)
    simp only [World.size_alloc] at e1 e2
    have e3 := (Below.heap_alloc ((w.alloc (.map #[] 0)).alloc (.cells #[.map (some w.heap.size)] 206)) (.cells #[.slice none 0 0] 42) (w.heap.size + 1) (by simp)).trans e2
    refine ⟨_, e1, IntsOwn.nil _ _, e3, ?_⟩
    exact ((GMap.made 2 kNum w).ext (g := seenF []) (fun x => by simp [seenF])).gr (by go_grown)
  have g0 : Gr w (((w.alloc (.map #[] 0)).alloc (.cells #[.map (some w.heap.size)] 206)).alloc (.cells #[.slice none 0 0] 42)) := by go_grown
  generalize (((w.alloc (.map #[] 0)).alloc (.cells #[.map (some w.heap.size)] 206)).alloc (.cells #[.slice none 0 0] 42)) = wA at *
  clear hmm
  refine wpIn_loop (fun a W => ∃ (k : Nat) (u6 u12 u13 u14 u15 u16 u36 : Value) (Ds : List Nat), k ≤ l.length ∧
      a = { tmps := #[.slice p l.length c, undef, .slice none 0 0, .pointer (some ⟨w.heap.size + 1, 0, none⟩), .pointer (some ⟨w.heap.size + 1 + 1, 0, none⟩), undef, u6, undef, .map (some w.heap.size), .slice p l.length c, .int .i64 l.length, .int .i64 k, u12, u13, u14, u15, u16, undef, undef, undef, undef, undef, undef, undef, undef, undef, undef, undef, undef, undef, undef, undef, undef, undef, undef, undef, u36, undef], defers := marked Ds } ∧
      Marks w.heap.size W.heap.size W Ds ∧ VSt w.heap.size (w.heap.size + 1 + 1) (w.heap.size + 1) w.heap.size (T.varsL (Tm.eraseL (l.take k)) []) W ∧ Gr w W)
    (fun a _ => l.length - (intOf (a.tmps.getD 11 undef)).toNat) ?_ ?_
  · exact ⟨0, _, _, _, _, _, _, _, [], Nat.zero_le _, rfl, ⟨List.nodup_nil, fun D hD => by cases hD⟩, by rw [List.take_zero, Tm.eraseL, T.varsL]; exact hst0, g0⟩
  rintro _ W ⟨k, u6, u12, u13, u14, u15, u16, u36, Ds, hk, rfl, hmk, hst, gr⟩
  by_cases hlt : k < l.length
  · obtain ⟨b, o, rfl⟩ := HSl.out.ptr (by omega)
    obtain ⟨⟨c0, c1, c2, c3⟩, _, _⟩ := (HSl.out.mono gr).elem k hlt
    have hmem : l[k] ∈ l := List.getElem_mem hlt
    have Hx := Lib.hid (Tm.InL_mem HIn.out _ hmem)
    have Hfx := Lib.hid (HF.out _ hmem)
    have Hv1 := Lib.hid (varsL_step l k hlt [])
    clear hmem
    generalize l[k] = x at *
    gi_wp2_with (refine ⟨trivial, ?_⟩; gi_at_call 165; refine (callsIn_wide.2 (parts_calls _ _ _ _ _ _ _)).mono ?_; rintro e w' ⟨rfl, rfl⟩)
    have gB : Gr W ((W.alloc (.cells #[.int .i64 x.k, .int .i64 x.n, .string x.s, .slice x.p x.l.length x.c] 25)).alloc (.cells #[.int .i64 x.k, .int .i64 x.n, .string x.s, .slice x.p x.l.length x.c] 25)) := by go_grown
    have hBt := Blk4.new (W.alloc (.cells #[.int .i64 x.k, .int .i64 x.n, .string x.s, .slice x.p x.l.length x.c] 25)) (.int .i64 x.k) (.int .i64 x.n) (.string x.s) (.slice x.p x.l.length x.c)
    have hsz : ((W.alloc (.cells #[.int .i64 x.k, .int .i64 x.n, .string x.s, .slice x.p x.l.length x.c] 25)).alloc (.cells #[.int .i64 x.k, .int .i64 x.n, .string x.s, .slice x.p x.l.length x.c] 25)).heap.size = W.heap.size + 2 := by simp
    simp only [World.size_alloc] at hBt
    generalize (W.alloc (.cells #[.int .i64 x.k, .int .i64 x.n, .string x.s, .slice x.p x.l.length x.c] 25)).alloc (.cells #[.int .i64 x.k, .int .i64 x.n, .string x.s, .slice x.p x.l.length x.c] 25) = W2 at *
    have hst2 := hst.gr gB
    have g2 : Gr w W2 := gr.trans gB
    have hon : x.On (· < w.heap.size) := Hx.out.on
    have hx2 := Tm.In_below g2 Hx.out
    obtain ⟨xs, hxs⟩ := Tm.pre_ok Hx.out Hfx.out
    have hmk2 : Marks w.heap.size W2.heap.size W2 Ds := ⟨hmk.1, fun D hD => by obtain ⟨m1, m2, m3⟩ := hmk.2 D hD; exact ⟨m1, by omega, (gB.block D m2).trans m3⟩⟩
    have hVok : VarsOkB (T.varsL (Tm.eraseL (l.take k)) []) := VarsOkB.varsL _ VarsOkB.nil (fmdL_erase fun y hy => HF.out y (List.mem_of_mem_take hy))
    have HV0 := Lib.hid hVok
    have hMl := hst2.lts
    clear hVok hst hmk c0 c1 c2 c3 hsz
    have Hsee := Lib.hid (see_vars x (T.varsL (Tm.eraseL (l.take k)) []) xs Hfx.out hxs)
    generalize T.varsL (Tm.eraseL (l.take k)) [] = V0 at *
    have hgs := g2.size
    refine wpIn_rangeFunc_ownH rfl (by decide) (gf := 206) (lb := #[.pointer (some ⟨W.heap.size + 1, 0, none⟩)]) rfl trivial (enters_of Try.func206 (by kernel_rfl) rfl)
      (parts_stops 8 (w.heap.size + 1 + 1) w.heap.size (W.heap.size + 1) x xs W2 hx2 hon g2.size (by omega) hst2.fit hxs hBt) Kv.trans (fun A l o o' _ ho hc _ => Kv.putObj o' ho hc) (Below.refl _ _) (fun _ => rfl)
      (fun pre W' => (VSt w.heap.size (w.heap.size + 1 + 1) (w.heap.size + 1) w.heap.size (seeAll V0 pre) W' ∧ Below w.heap.size w W') ∧ Marks w.heap.size W2.heap.size W' Ds)
      (fun _ _ _ => False)
      (OwnFrom.and (OwnFrom.and (own_vst _ _ _ _ _ _ (by omega)) (ownFrom_below (Nat.le_refl _) (by omega))) (own_marks _ _ _))
      (fun _ _ _ _ _ hs _ _ => hs)
      ⟨⟨hst2, g2⟩, hmk2⟩
      (fun y a' W' => ∃ Bx, w.heap.size + 1 + 1 < Bx ∧ Blk4 W' Bx (.int .i64 y.1.k) (.int .i64 y.1.n) (.string y.1.s) (.slice y.1.p y.1.l.length y.1.c) ∧
        a' = { tmps := #[.slice (some ⟨b, o, none⟩) l.length c, undef, .slice none 0 0, .pointer (some ⟨w.heap.size + 1, 0, none⟩), .pointer (some ⟨w.heap.size + 1 + 1, 0, none⟩), undef, .pointer (some ⟨W.heap.size, 0, none⟩), .pointer (some ⟨Bx, 0, none⟩), .map (some w.heap.size), .slice (some ⟨b, o, none⟩) l.length c, .int .i64 l.length, .int .i64 k, .bool true, .pointer (some ⟨b, o + k * 4, none⟩), .agg #[.int .i64 x.k, .int .i64 x.n, .string x.s, .slice x.p x.l.length x.c], .agg #[.int .i64 x.k, .int .i64 x.n, .string x.s, .slice x.p x.l.length x.c], .func (.func 206) #[] #[.pointer (some ⟨W.heap.size + 1, 0, none⟩)], .agg #[.int .i64 y.1.k, .int .i64 y.1.n, .string y.1.s, .slice y.1.p y.1.l.length y.1.c], undef, undef, undef, undef, undef, undef, undef, undef, undef, undef, undef, undef, undef, undef, undef, undef, undef, undef, u36, undef], defers := [] })
      (fun y a' _ X Y row hs hg hr => by
        obtain ⟨Bx, h1, h2, h3⟩ := hs
        exact ⟨Bx, h1, (hg.block Bx (Array.getElem?_eq_some_iff.1 h2).1 fun e => by
          obtain ⟨_, o, ho, hc⟩ := hr Bx e.symm
          rw [show X.heap[Bx]? = _ from h2] at ho
          cases ho
          cases hc).trans h2, h3⟩)
      ?assign ?body ?done ?stop
    case assign =>
      rintro l2 pre y W' K ⟨⟨hst', hB'⟩, hmk'⟩ hK
      gi_wp2
      have gN : Gr W' (W'.alloc (.cells #[.int .i64 y.1.k, .int .i64 y.1.n, .string y.1.s, .slice y.1.p y.1.l.length y.1.c] 25)) := by go_grown
      exact hK _ _ ((KeepsOthers.alloc _ _).from _) (Kv.alloc _ _ _) ⟨⟨hst'.gr gN, hB'.trans (gN.mono hB'.size)⟩, ⟨hmk'.1, fun D hD => by obtain ⟨m1, m2, m3⟩ := hmk'.2 D hD; exact ⟨m1, m2, (gN.block D (Array.getElem?_eq_some_iff.1 m3).1).trans m3⟩⟩⟩ ⟨W'.heap.size, hst'.lts.1, Blk4.new _ _ _ _ _, rfl⟩
    case body =>
      rintro l2 pre y a' W' hl2 _ ⟨⟨hst', hB'⟩, hmk'⟩ ⟨Bx, hBx, hbx, rfl⟩ hlt2
      have hone : y.1.k = 1 → seeAll V0 (pre ++ [y]) = withVar (seeAll V0 pre) y.1.n := fun e => by rw [seeAll_snoc, seeOne, if_pos e]
      have hnone : y.1.k ≠ 1 → seeAll V0 (pre ++ [y]) = seeAll V0 pre := fun e => by rw [seeAll_snoc, seeOne, if_neg e]
      refine wpIn_mono (Q := fun e _ W'' => e = .normal ∧ KeepsFrom W2.heap.size W' W'' ∧ Kv (w.heap.size + 1 + 1) W' W'' ∧ (VSt w.heap.size (w.heap.size + 1 + 1) (w.heap.size + 1) w.heap.size (seeAll V0 (pre ++ [y])) W'' ∧ Below w.heap.size w W'') ∧ Marks w.heap.size W2.heap.size W'' Ds) ?_ (by rintro e a W'' ⟨rfl, h⟩; exact h)
      have hfin : ∀ (V' : List Int) (a : Act) (W'' : World), seeAll V0 (pre ++ [y]) = V' → KeepsFrom W2.heap.size W' W'' ∧ Kv (w.heap.size + 1 + 1) W' W'' ∧ (VSt w.heap.size (w.heap.size + 1 + 1) (w.heap.size + 1) w.heap.size V' W'' ∧ Below w.heap.size w W'') ∧ Marks w.heap.size W2.heap.size W'' Ds →
        (fun (e : Exit) (_ : Act) (W'' : World) => e = .normal ∧ KeepsFrom W2.heap.size W' W'' ∧ Kv (w.heap.size + 1 + 1) W' W'' ∧ (VSt w.heap.size (w.heap.size + 1 + 1) (w.heap.size + 1) w.heap.size (seeAll V0 (pre ++ [y])) W'' ∧ Below w.heap.size w W'') ∧ Marks w.heap.size W2.heap.size W'' Ds) .normal a W'' := fun V' a W'' e h => ⟨rfl, by rw [e]; exact h⟩
      generalize (fun (e : Exit) (_ : Act) (W'' : World) => e = .normal ∧ KeepsFrom W2.heap.size W' W'' ∧ Kv (w.heap.size + 1 + 1) W' W'' ∧ (VSt w.heap.size (w.heap.size + 1 + 1) (w.heap.size + 1) w.heap.size (seeAll V0 (pre ++ [y])) W'' ∧ Below w.heap.size w W'') ∧ Marks w.heap.size W2.heap.size W'' Ds) = Q at hfin ⊢
      have Hfin := Lib.hid hfin
      clear hfin
      generalize seeAll V0 (pre ++ [y]) = VN at *
      obtain ⟨⟨kk, n, sn, pp, cc, ll⟩, hy⟩ := y
      dsimp only [Tm.k, Tm.n, Tm.s, Tm.p, Tm.c, Tm.l] at hbx hy hone hnone ⊢
      obtain ⟨v, h1, h2, h3, h4⟩ := hst'
      obtain ⟨⟨x0, x1, x2, x3⟩, _, _⟩ := hbx.parts
      have hVok : VarsOkB (seeAll V0 pre) := HV0.out.seeAll pre
      have hlen := hVok.len
      clear hVok
      have cO := cell_of_row W' (w.heap.size + 1 + 1) 0 _ _ _ h1
      have cS := cell_of_row W' (w.heap.size + 1) 0 _ _ _ h3
      simp only [List.getElem?_toArray, List.getElem?_cons_zero] at cO cS
      have hBs := hB'.size
      by_cases hk1 : kk = 1
      · subst hk1
        have hn : 0 ≤ n ∧ n ≤ 1099515822080 := hy.2.2.2.2 rfl
        have hkey := keyOf_int_mk Try.underlying2 (wf_64 (c := n) ⟨by omega, by omega⟩)
        have hL := (GMap.run h4 (int_keyed Try.underlying2) Try.underlying206 (zero_int' W') (x := n) hkey).1
        by_cases hm : n ∈ seeAll V0 pre
        · have hs : seenF (seeAll V0 pre) n = some (.int .i64 1) := if_pos hm
          rw [hs] at hL
          simp only [Option.getD_some, kNum] at hL
          have hsv : Hid (VN = seeAll V0 pre) := (hone rfl).trans (if_pos hm)
          clear hone hnone
          gi_wp2
          exact Hfin.out _ _ _ hsv.out ⟨KeepsFrom.refl _ _, Kv.refl _ _, ⟨⟨v, h1, h2, h3, h4⟩, hB'⟩, hmk'⟩
        · have hs : seenF (seeAll V0 pre) n = none := if_neg hm
          rw [hs] at hL
          simp only [Option.getD_none, kNum] at hL
          have hsv : Hid (VN = seeAll V0 pre ++ [n]) := (hone rfl).trans (if_neg hm)
          clear hone hnone
          obtain ⟨w1, hu, hm1, hg1⟩ := GMap.update h4 (int_keyed Try.underlying2) Try.underlying206 (x := n) hkey (fun y h => kNum_inj h) (.int .i64 1) (g := seenF (seeAll V0 pre ++ [n]))
            (by rw [seenF, if_pos (by simp)]) (fun z hz => by simp [seenF, hz])
          simp only [kNum] at hu
          have cellsM : ∀ {b : Nat} {cur : Array Value} {t : TypeId}, W'.heap[b]? = some (.cells cur t) → w1.heap[b]? = some (.cells cur t) := fun {b cur t} hb =>
            (hg1.block b (Array.getElem?_eq_some_iff.1 hb).1 fun e => by cases e; obtain ⟨E, cl, hMo, _⟩ := h4; rw [hMo] at hb; cases hb).trans hb
          have cO1 := cell_of_row w1 (w.heap.size + 1 + 1) 0 _ _ _ (cellsM h1)
          simp only [List.getElem?_toArray, List.getElem?_cons_zero] at cO1
          have x1' := cell_of_row w1 Bx 1 _ _ _ (cellsM hbx)
          simp only [List.getElem?_toArray, List.getElem?_cons_succ, List.getElem?_cons_zero] at x1'
          have hrow : IntsOwn w1 w.heap.size v (seeAll V0 pre) := h2.sameAt fun g hgv => by obtain ⟨cur, hc, _⟩ := h2.cells hgv; rw [cellsM hc, hc]
          have hs1 := hg1.size
          gi_wp2_with go_loud
            (gi_at_builtin
             refine wpListIn_append_own_at _ rfl _ _ 42 rfl w.heap.size 2 i0 (.int .i64 0) 1 8 Try.underlying42 Hi.out hz0 hz1 hz2 rfl (by decide) v _ _ rfl (hrow.gr (by go_grown)) ⟨w1.heap.size, 0, none⟩ 1 1 [.int .i64 n] rfl rfl (cell_one_new _ _ _) (by simp [Value.oneCell']) (by simp only [maxLen]; omega) (by omega) (by simp; omega) ?_
             intro v' w2 hown' hgrow _ hat
             obtain ⟨g', cap', rfl⟩ := ownsRow_succ hown'
             have hown2 : IntsOwn w2 w.heap.size (.slice (some ⟨g', 0, none⟩) ((seeAll V0 pre).length + 1) cap') (seeAll V0 pre ++ [n]) := by unfold IntsOwn; rw [List.length_append, List.map_append]; exact hown'
             have hsee := see_step h1 h2 h3 h4 hm1 hg1 hBs (by omega) (Nat.le_refl _) hown2 hgrow hat
             have HSee := Lib.hid hsee
             obtain ⟨⟨cO2, fO2⟩, _⟩ := hsee
             clear hown2)
          obtain ⟨_, p2, p3, p4, p5, p6⟩ := HSee.out
          exact Hfin.out _ _ _ hsv.out ⟨p5 _ (by omega), p4, ⟨p2, hB'.trans p3⟩, ⟨hmk'.1, fun D hD => by obtain ⟨m1, m2, m3⟩ := hmk'.2 D hD; exact ⟨m1, m2, p6 D m3⟩⟩⟩
      · have hk' : (kk == 1) = false := beq_eq_false_iff_ne.2 hk1
        have hsv : Hid (VN = seeAll V0 pre) := hnone hk1
        clear hone hnone
        gi_wp2
        exact Hfin.out _ _ _ hsv.out ⟨KeepsFrom.refl _ _, Kv.refl _ _, ⟨⟨v, h1, h2, h3, h4⟩, hB'⟩, hmk'⟩
    case done =>
      rintro D ys W' hD rfl ⟨⟨hst', hB'⟩, hmk'⟩ hK
      rw [Hsee.out, ← Hv1.out] at hst'
      gi_wp2
      refine ⟨⟨k + 1, _, _, _, _, _, _, _, D :: Ds, by omega, by go_num, ⟨List.nodup_cons.2 ⟨fun hm => by have := (hmk'.2 D hm).2.1; omega, hmk'.1⟩, fun D' hD' => ?_⟩, hst', hB'⟩, by simp [intOf]; omega⟩
      rcases List.mem_cons.1 hD' with rfl | hD'
      · exact ⟨by omega, (Array.getElem?_eq_some_iff.1 hK).1, hK⟩
      · obtain ⟨m1, m2, m3⟩ := hmk'.2 D' hD'
        exact ⟨m1, (Array.getElem?_eq_some_iff.1 m3).1, m3⟩
    case stop =>
      rintro D c' pre W' _ _ h _
      exact h.elim
  · obtain rfl : k = l.length := by omega
    obtain ⟨v, h1, h2, h3, h4⟩ := hst
    have cO := cell_of_row W (w.heap.size + 1 + 1) 0 _ _ _ h1
    simp only [List.getElem?_toArray, List.getElem?_cons_zero] at cO
    gi_wp2
    refine leaves_marks Ds W hmk.1 (fun D hD => (hmk.2 D hD).2.2) fun W' hK => ⟨_, results_tmp rfl _ _ _, v, rfl, ?_, Below.trans gr (hK.below (B := w.heap.size) (fun b hb => (hmk.2 b hb).1) gr.size)⟩
    rw [List.take_length] at h2
    exact h2.sameAt fun g hg => by
      obtain ⟨cur, hc, _⟩ := h2.cells hg
      exact hK.block g (Array.getElem?_eq_some_iff.1 hc).1 fun hD => by
        have := (hmk.2 g hD).2.2
        rw [hc] at this
        cases this
end Go.Proofs.Ythncdmijledpnaa

namespace Go.Proofs.Ythncdmijledpnaa
open Go.RowKit Go.Maps Go.Lib

end Go.Proofs.Ythncdmijledpnaa
