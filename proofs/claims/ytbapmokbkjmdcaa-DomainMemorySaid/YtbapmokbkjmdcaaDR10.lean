/-
  domain.vars: the variables of a constraint.
  An engine in memory: what engines of one problem share, its own domains, the list of what is to be looked at.
  The list of the constraints that are to be looked at: it may lie in the spare room of a row that engines share.
-/
import Derived.Test.YtbapmokbkjmdcaaDR09
import Derived.Test.YtbapmokbkjmdcaaShelf
import Derived.Deep.AppendSrc
namespace Go.Proofs.Ytbapmokbkjmdcaa
open Go.RowKit Go.Maps Go.Lib Go.Sort

theorem mem_compact_iff {zs : List Int} {x : Int} : x ∈ Lib.compact zs ↔ x ∈ zs := by
  unfold Lib.compact Lib.compactUpTo
  constructor
  · intro h
    obtain ⟨i, hi, rfl⟩ := List.mem_map.1 h
    have hi' : i < zs.length := List.mem_range.1 (List.mem_filter.1 hi).1
    simp [getElem!_pos, hi']
  · intro h
    obtain ⟨i, hi, he⟩ := List.getElem_of_mem h
    have hk : ∀ j, j < zs.length → ∃ k, k ≤ j ∧ keeps zs.toArray k = true ∧ zs.toArray[k]! = zs.toArray[j]! := by
      intro j
      induction j with
      | zero => exact fun _ => ⟨0, Nat.le_refl _, by simp [keeps], rfl⟩
      | succ j ih =>
        intro hj
        by_cases he : zs.toArray[j + 1]! = zs.toArray[j]!
        · obtain ⟨k, h1, h2, h3⟩ := ih (by omega)
          exact ⟨k, by omega, h2, h3.trans he.symm⟩
        · exact ⟨j + 1, Nat.le_refl _, by rw [keeps]; exact decide_eq_true (.inr (by simpa using he)), rfl⟩
    obtain ⟨k, h1, h2, h3⟩ := hk i hi
    refine List.mem_map.2 ⟨k, List.mem_filter.2 ⟨List.mem_range.2 (by omega), h2⟩, ?_⟩
    show zs.toArray[k]! = x
    rw [h3, getElem!_pos zs.toArray i (by simpa using hi)]
    simpa using he

theorem holds_row {w : World} {g : Nat} {cur : Array Value} {e : TypeId} {L : List Int} (hb : w.heap[g]? = some (.cells cur e (0, 0))) (ht : cur.toList.take L.length = L.map (Value.int .i64)) : Holds (Value.int .i64) w g 0 L.toArray := by
  intro j hj
  have hj' : j < L.length := by simpa using hj
  refine ⟨?_, by simp [World.frozen?, hb]⟩
  have h1 : (cur.toList.take L.length)[j]? = (L.map (Value.int .i64))[j]? := by rw [ht]
  rw [List.getElem?_take_of_lt hj', Array.getElem?_toList] at h1
  rw [Nat.zero_add, cell_of_row w g j _ _ _ hb, h1]
  simp [hj']
theorem kp_putRow {w : World} {n g o : Nat} (d : Array Int) : Kp (· = g) w (putRow (Value.int .i64) (Go.Sort.ahead w n) g o d) :=
  ⟨rfl, rfl, rfl, by simp [putRow, mapBlock, Go.Sort.ahead], fun k _ hk => by
    have hgk : ¬ g = k := fun e => hk e.symm
    simp [putRow, mapBlock, Go.Sort.ahead, Array.getElem?_modify, hgk]⟩
theorem gr_grow (w : World) (os : Array Obj) : Gr w (Go.Sort.grow w os) := ⟨rfl, rfl, rfl, by simp [Go.Sort.grow], fun k hk => heap_grow_old w os hk⟩

/-- What vars says. -/
def RetVs (vs : List Int) (w : World) (e : Ending) (w' : World) : Prop := ∃ p c l, e = .returned (.slice p l.length c) ∧ IntSl w' p c l ∧ (∀ u, u ∈ l ↔ u ∈ vs) ∧ Gr w w' ∧ (∀ a, p = some a → l ≠ [] → w.heap.size ≤ a.block) ∧ l.length ≤ vs.length

set_option maxHeartbeats 4000000 in
set_option maxRecDepth 100000 in
theorem vars_calls (x : Cn) (w : World) (hx : x.In w) (hl8 : x.vs.length ≤ 1000) : Calls Try.prog 51 #[x.val] w (RetVs x.vs w) := by
  have hR : Hid (∀ p c l w', IntSl w' p c l → (∀ u, u ∈ l ↔ u ∈ x.vs) → Gr w w' → (∀ a, p = some a → l ≠ [] → w.heap.size ≤ a.block) → l.length ≤ x.vs.length → RetVs x.vs w (.returned (.slice p l.length c)) w') := fun p c l w' h1 h2 h3 h4 h5 => ⟨p, c, l, rfl, h1, h2, h3, h4, h5⟩
  generalize RetVs x.vs w = Q at hR ⊢
  have HV := Lib.hid hx.vars
  have hlc := HV.out.1
  have hcc := HV.out.2.1
  clear hx
  rw [show x.val = .agg #[.int .i64 x.k, .slice x.vp x.vs.length x.vc, .slice x.cp x.cs.length x.cc, .int .i64 x.op, .int .i64 x.c] from rfl]
  go_enter Try.func51, Try.ntmps51
  try simp only [List.append_eq, List.cons_append, List.nil_append]
  go_upto_region 1 with fail
  have hB := CnBlk.new w x
  have gA : Gr w (w.alloc (.cells #[.int .i64 x.k, .slice x.vp x.vs.length x.vc, .slice x.cp x.cs.length x.cc, .int .i64 x.op, .int .i64 x.c] 42)) := by go_grown
  generalize w.alloc (.cells #[.int .i64 x.k, .slice x.vp x.vs.length x.vc, .slice x.cp x.cs.length x.cc, .int .i64 x.op, .int .i64 x.c] 42) = wA at *
  obtain ⟨-, b1, -, -, -⟩ := hB.cells
  have HG := Lib.hid gA
  replace HV := Lib.hid (HV.out.mono gA)
  clear hB gA
  generalize x.vs = vs at *
  generalize x.vp = vp at *
  generalize x.vc = vc at *
  by_cases h0 : vs = []
  · subst h0
    cases vp with
    | none =>
      have HF := Lib.hid (hR.out none 0 [] wA ⟨Nat.le_refl _, by omega, (fun n hn => (List.not_mem_nil hn).elim), .inl rfl⟩ (fun u => Iff.rfl) HG.out (fun _ _ h => absurd rfl h) (Nat.le_refl _))
      have Hcl := Lib.hid (Try.slices_Clone_int_nil 0 vc wA)
      go_wp2_with (first
        | (go_at_call 58; refine Hcl.out.mono ?_; rintro e1 w1 ⟨rfl, rfl⟩)
        | (go_at_call 59; refine (Try.slices_Sort_int_none none 0 _).mono ?_; rintro e1 w2 ⟨rfl, rfl⟩)
        | (go_at_call 60; refine (Try.slices_Compact_int_empty none 0 _).mono ?_; rintro e1 w3 ⟨rfl, rfl⟩)
        | fail)
      exact HF.out
    | some a =>
      have Hcl := Lib.hid (Try.slices_Clone_int_zero a vc wA)
      go_upto_region 2 with (first
        | (go_at_call 58; refine Hcl.out.mono ?_; rintro e1 w1 ⟨v1, rfl, hown, hne, hb⟩; have HB := Lib.hid (show Gr wA w1 from hb); have HO := Lib.hid hown; have HNE := Lib.hid hne; clear hb hown hne)
        | fail)
      obtain ⟨g, cap, rfl, hcap⟩ : ∃ g cap, v1 = .slice (some ⟨g, 0, none⟩) 0 cap ∧ cap ≤ 9223372036854775807 := by
        rcases HO.out.2 with ⟨h, _⟩ | ⟨g, cap, cur, h, _, _, _, h2, _⟩
        · exact absurd h HNE.out
        · exact ⟨g, cap, h, h2⟩
      have HF := Lib.hid (hR.out (some ⟨g, 0, none⟩) cap [] w1 ⟨Nat.zero_le _, hcap, (fun n hn => (List.not_mem_nil hn).elim), .inl rfl⟩ (fun u => Iff.rfl) (HG.out.trans HB.out) (fun _ _ h => absurd rfl h) (Nat.le_refl _))
      go_wp2_with (first
        | (go_at_call 59; refine (Try.slices_Sort_int_none (some ⟨g, 0, none⟩) cap _).mono ?_; rintro e1 w2 ⟨rfl, rfl⟩)
        | (go_at_call 60; refine (Try.slices_Compact_int_empty (some ⟨g, 0, none⟩) cap _).mono ?_; rintro e1 w3 ⟨rfl, rfl⟩)
        | fail)
      exact HF.out
  · obtain ⟨b, o, rfl, hb, hr⟩ := HV.out.ptr (List.length_pos_iff.2 h0)
    have Hcl := Lib.hid (Try.slices_Clone_int b o vs.length vc vs wA (Nat.le_refl _) (by omega) (fun j hj => by
      rw [hr j vs[j] (List.getElem?_eq_getElem hj), List.getD_eq_getElem?_getD, List.getElem?_eq_getElem hj]; rfl))
    clear hr hb
    go_upto_region 2 with (first
      | (go_at_call 58; refine Hcl.out.mono ?_; rintro e1 w1 ⟨v1, rfl, hown, hne, hb⟩; have HB := Lib.hid (show Gr wA w1 from hb); have HO := Lib.hid hown; have HNE := Lib.hid hne; clear hb hown hne)
      | fail)
    obtain ⟨g, cap, cur, rfl, hg0, hblk, hn, hcap, hsz, htk⟩ := HO.out.2.resolve_left fun h => HNE.out h.1
    rw [List.take_of_length_le (Nat.le_refl _), Nat.mul_one] at htk
    have hcap' : cap ≤ 9223372036854775807 := hcap
    have hH1 := holds_row hblk htk
    have hgl : g < w1.heap.size := (Array.getElem?_eq_some_iff.1 hblk).1
    obtain ⟨st, hst⟩ : ∃ st, (vs.mergeSort fun x y => decide (x ≤ y)) = st := ⟨_, rfl⟩
    have hlen : st.length = vs.length := by rw [← hst]; exact List.length_mergeSort _
    have hmem : ∀ u, u ∈ st ↔ u ∈ vs := fun u => by rw [← hst]; exact (List.mergeSort_perm vs _).mem_iff
    have Hs := Lib.hid (Try.slices_Sort_int (cap := cap) g 0 vs w1 hH1 hgl (by omega))
    rw [hst] at Hs
    have HSW : Hid (∀ n os, let W := Go.Sort.grow (putRow (Value.int .i64) (Go.Sort.ahead w1 n) g 0 st.toArray) os; Holds (Value.int .i64) W g 0 st.toArray ∧ Kp (· = g) w1 W ∧ g < W.heap.size) := fun n os => by
      have hl0 : g < (putRow (Value.int .i64) (Go.Sort.ahead w1 n) g 0 st.toArray).heap.size := by simpa [putRow, mapBlock, Go.Sort.ahead] using hgl
      refine ⟨holds_grow _ _ _ _ _ _ hl0 (holds_putRow _ _ _ _ _ _ (holds_ahead _ _ n _ _ _ hH1) (by simpa using hlen)), (kp_putRow _).trans (Kp.of_gr (gr_grow _ _)), ?_⟩
      exact Nat.lt_of_lt_of_le hl0 (gr_grow _ _).size
    have hcl : (Lib.compact st).length ≤ st.length := by
      unfold Lib.compact Lib.compactUpTo
      rw [List.length_map]
      exact Nat.le_trans (List.length_filter_le _ _) (by simp)
    have HIn := Lib.hid HV.out.2.2.1
    have HFin : Hid (∀ W q, Holds (Value.int .i64) W g 0 st.toArray → Kp (· = g) w1 W → g < W.heap.size → Q (.returned (.slice (some ⟨g, 0, none⟩) (Lib.compact st).length cap)) (putRow (Value.int .i64) (Go.Sort.ahead W q) g 0 (Lib.compact st ++ List.replicate (st.length - (Lib.compact st).length) 0).toArray)) := fun W q hW hk hl => by
      have hP := holds_putRow (Value.int .i64) (Go.Sort.ahead W q) g 0 st.toArray (Lib.compact st ++ List.replicate (st.length - (Lib.compact st).length) 0).toArray (holds_ahead _ _ q _ _ _ hW) (by simp; omega)
      refine hR.out _ cap (Lib.compact st) _ ⟨by omega, hcap', fun n hn => HIn.out n ((hmem n).1 (mem_compact_iff.1 hn)), .inr ⟨g, 0, rfl, by simpa [putRow, mapBlock, Go.Sort.ahead] using hl, fun i n hi => ?_⟩⟩ (fun u => mem_compact_iff.trans (hmem u)) ?_ (fun a ha _ => by cases ha; have := HG.out.size; exact Nat.le_trans this hg0) (by omega)
      · obtain ⟨hil, hie⟩ := List.getElem?_eq_some_iff.1 hi
        rw [(hP i (by simp; omega)).1, getElem!_pos _ i (by simp; omega)]
        simp [List.getElem_append_left hil, hie]
      · exact Below.trans (HG.out.trans HB.out) ((hk.trans (kp_putRow _)).below (B := w.heap.size) (fun b hb => by rw [hb]; have := HG.out.size; omega) (HG.out.trans HB.out).size)
    clear hH1 hblk hcap hsz htk hst hcl hmem HO HNE hgl hg0
    have HLen := Lib.hid hlen
    go_upto_region 3 with (first
      | (go_at_call 59; refine Hs.out.mono ?_; rintro e1 w2 ⟨rfl, n2, os2, hw2⟩; have HW2 := Lib.hid (HSW.out n2 os2); rewrite [← hw2] at HW2; clear hw2)
      | fail)
    have Hcp := Lib.hid (Try.slices_Compact_int g 0 cap st w2 HW2.out.1 (by omega) (by omega))
    rw [hlen] at Hcp
    go_wp2_with (first
      | (go_at_call 60; refine Hcp.out.mono ?_; rintro e1 w3 ⟨rfl, q3, hw3⟩; have HW3 := Lib.hid (HFin.out w2 q3 HW2.out.1 HW2.out.2.1 HW2.out.2.2); rewrite [hlen, ← hw3] at HW3; clear hw3)
      | fail)
    exact HW3.out
end Go.Proofs.Ytbapmokbkjmdcaa

namespace Go.Proofs.Ytbapmokbkjmdcaa
open Go.RowKit Go.Maps Go.Lib

theorem Kp.more {C C' : Nat → Prop} {w0 w w' : World} (h : Kp C w0 w) (k : Kp C' w w') (hC : ∀ b, b < w0.heap.size → C' b → C b) : Kp C w0 w' :=
  ⟨k.os.trans h.os, k.tape.trans h.tape, k.output.trans h.output, Nat.le_trans h.size k.size, fun i hi hn => (k.block i (Nat.lt_of_lt_of_le hi h.size) fun hc => hn (hC i hi hc)).trans (h.block i hi hn)⟩

/-- A block of cells of such a type. -/
def OfT (w : World) (b : Nat) (t : TypeId) : Prop := ∃ cur : Array Value, w.heap[b]? = some (.cells cur t (0, 0))
theorem OfT.ne {w : World} {a b : Nat} {t u : TypeId} (h : OfT w a t) (k : OfT w b u) (hne : t ≠ u) : a ≠ b := fun e => by
  subst e
  obtain ⟨c, h⟩ := h
  obtain ⟨d, k⟩ := k
  rw [h] at k
  exact hne (by cases k; rfl)
theorem OfT.of {w : World} {b : Nat} {t : TypeId} {vs : Array Value} (h : BlkT w b t vs) : OfT w b t := ⟨vs, h⟩
theorem OfT.lt {w : World} {b : Nat} {t : TypeId} (h : OfT w b t) : b < w.heap.size := by
  obtain ⟨c, h⟩ := h
  exact (Array.getElem?_eq_some_iff.1 h).1
theorem OfT.gr {w w' : World} {b : Nat} {t : TypeId} (h : OfT w b t) (hg : Gr w w') : OfT w' b t := by
  have := h.lt
  obtain ⟨c, h⟩ := h
  exact ⟨c, (hg.block b this).trans h⟩

/-- What engines of one problem share. -/
structure Fam where
  P0 : Value
  pc : Option Addr
  cc : Nat
  C : List Cn
  N : Nat
  U : List (List Int)
  vv : List Value
  uB : Nat
  uc : Nat
def Fam.cons (F : Fam) : List Con := F.C.map Cn.con
def Fam.UB (F : Fam) (b : Nat) : Prop := ∃ v ∈ F.vv, v.ownBlock = some b

/-- A row of constraints. -/
def CnsAt (w : World) (p : Option Addr) (C : List Cn) : Prop := C = [] ∨ ∃ b o, p = some ⟨b, o, none⟩ ∧ b < w.heap.size ∧ ∀ (i : Nat) (x : Cn), C[i]? = some x → ∀ (j : Nat) (v : Value), x.arr[j]? = some v → w.cell? ⟨b, o + (i * 5 + j), none⟩ = some v
theorem CnsAt.mono {w w' : World} {p : Option Addr} {C : List Cn} (h : CnsAt w p C) (hg : Gr w w') : CnsAt w' p C := by
  refine h.imp id ?_
  rintro ⟨b, o, hp, hb, hr⟩
  exact ⟨b, o, hp, Nat.lt_of_lt_of_le hb hg.size, fun i x hx j v hv => hg.at (hr i x hx j v hv)⟩

structure FamOk (F : Fam) (w0 : World) : Prop where
  cns : CnsAt w0 F.pc F.C
  ins : ∀ x ∈ F.C, x.In w0
  oks : ∀ x ∈ F.C, x.con.ok F.N = true
  len : F.C.length ≤ F.cc ∧ F.cc ≤ 9223372036854775807
  few : F.C.length ≤ 100
  uses : UsesOk F.cons F.U F.N
  lenU : F.vv.length = F.U.length
  fewN : F.N ≤ 50 ∧ F.N ≤ F.uc ∧ F.uc ≤ 9223372036854775807
  p0 : ∃ p n c, F.P0 = .slice p n c
  apart : ∀ (i j : Nat) (v v' : Value), i ≠ j → F.vv[i]? = some v → F.vv[j]? = some v' → ∀ g, v.ownBlock = some g → v'.ownBlock ≠ some g
structure FamW (F : Fam) (w0 w : World) : Prop where
  gr : Gr w0 w
  blk : ∃ cells : Array Value, BlkT w F.uB 40 cells ∧ ∀ (i : Nat) (v : Value), F.vv[i]? = some v → cells[i]? = some v
  own : ∀ (i : Nat) (v : Value) (u : List Int), F.vv[i]? = some v → F.U[i]? = some u → w.ownsRow w0.heap.size 3 1 v u.length (u.map (.int .i64))
  geB : w0.heap.size ≤ F.uB

theorem ownsRow_type {w : World} {B : Nat} {e : TypeId} {v : Value} {n : Nat} {xs : List Value} (h : w.ownsRow B e 1 v n xs) {g : Nat} (hg : v.ownBlock = some g) : OfT w g e ∧ B ≤ g := by
  rcases h.2 with ⟨rfl, _⟩ | ⟨g', cap, cur, rfl, h1, h2, _⟩
  · cases hg
  · cases hg; exact ⟨⟨cur, h2⟩, h1⟩
theorem ownsRow_kp {w w' : World} {B : Nat} {e : TypeId} {v : Value} {n : Nat} {xs : List Value} {C : Nat → Prop} (h : w.ownsRow B e 1 v n xs) (hk : Kp C w w') (hC : ∀ g, v.ownBlock = some g → ¬ C g) : w'.ownsRow B e 1 v n xs := by
  refine ⟨h.1, h.2.imp id ?_⟩
  rintro ⟨g, cap, cur, rfl, h2, h3, h4⟩
  exact ⟨g, cap, cur, rfl, h2, by rw [hk.block g (Array.getElem?_eq_some_iff.1 h3).1 (hC g rfl)]; exact h3, h4⟩
theorem FamW.gr' {F : Fam} {w0 w w' : World} (h : FamW F w0 w) (hg : Gr w w') : FamW F w0 w' := by
  obtain ⟨cells, h1, h2⟩ := h.blk
  exact ⟨Below.trans h.gr (hg.mono h.gr.size), ⟨cells, h1.gr hg, h2⟩, fun i v u hv hu => ownsRow_gr (h.own i v u hv hu) hg, h.geB⟩
theorem FamW.kpT {F : Fam} {w0 w w' : World} (h : FamW F w0 w) {C : Nat → Prop} (hk : Kp C w w') {τ : TypeId} (hC : ∀ b, C b → OfT w b τ ∧ w0.heap.size ≤ b) (h1 : τ ≠ 40) (h2 : τ ≠ 3) (_ : F.vv.length = F.U.length) : FamW F w0 w' := by
  obtain ⟨cells, hb, hc⟩ := h.blk
  refine ⟨Below.trans h.gr (hk.below (fun b hb => (hC b hb).2) h.gr.size), ⟨cells, hb.kp hk fun hh => OfT.ne (hC _ hh).1 (.of hb) h1 rfl, hc⟩, fun i v u hv hu => ?_, h.geB⟩
  have ho := h.own i v u hv hu
  exact ownsRow_kp ho hk fun g hg hh => OfT.ne (hC g hh).1 (ownsRow_type ho hg).1 h2 rfl

/-- An engine: e, with domains D in the block dB. -/
structure EngW (F : Fam) (w0 : World) (e dB : Nat) (D : List (List Int)) (w : World) : Prop where
  blk : ∃ dp dc, BlkT w e 63 #[F.P0, .slice F.pc F.C.length F.cc, .slice dp D.length dc, .slice (some ⟨F.uB, 0, none⟩) F.N F.uc] ∧ D.length ≤ dc ∧ dc ≤ 9223372036854775807 ∧ (0 < D.length → dp = some ⟨dB, 0, none⟩)
  len : D.length = F.N
  row : 0 < D.length → ∃ vs : Array Value, BlkT w dB 38 vs ∧ ∀ (i : Nat) (d : List Int), D[i]? = some d → ∃ v, vs[i]? = some v ∧ IntsOwn w w0.heap.size v d
  near : ∀ d ∈ D, ∀ y ∈ d, Near y
  short : ∀ d ∈ D, d.length ≤ 100
  ge : w0.heap.size ≤ e ∧ w0.heap.size ≤ dB
theorem Near.in64 {n : Int} (h : Near n) : In64 n := ⟨by have := h.1; omega, by have := h.2; omega⟩
theorem EngW.kp {F : Fam} {w0 : World} {e dB : Nat} {D : List (List Int)} {w w' : World} {C : Nat → Prop} (h : EngW F w0 e dB D w) (hk : Kp C w w') (he : ¬ C e) (hd : ¬ C dB) (hr : ∀ g, OfT w g 2 → ¬ C g) : EngW F w0 e dB D w' := by
  obtain ⟨dp, dc, h1, h2, h3⟩ := h.blk
  refine ⟨⟨dp, dc, h1.kp hk he, h2, h3⟩, h.len, fun h0 => ?_, h.near, h.short, h.ge⟩
  obtain ⟨vs, k1, k2⟩ := h.row h0
  refine ⟨vs, k1.kp hk hd, fun i d hi => ?_⟩
  obtain ⟨v, k3, k4⟩ := k2 i d hi
  exact ⟨v, k3, ownsRow_kp k4 hk fun g hg => hr g (ownsRow_type k4 hg).1⟩
theorem EngW.gr {F : Fam} {w0 : World} {e dB : Nat} {D : List (List Int)} {w w' : World} (h : EngW F w0 e dB D w) (hg : Gr w w') : EngW F w0 e dB D w' := h.kp (C := fun _ => False) (Kp.of_gr hg) id id fun _ _ => id
/-- Turns of blocks of another type. -/
theorem EngW.kpT {F : Fam} {w0 : World} {e dB : Nat} {D : List (List Int)} {w w' : World} {C : Nat → Prop} (h : EngW F w0 e dB D w) (hk : Kp C w w') {τ : TypeId} (hC : ∀ b, C b → OfT w b τ) (h1 : τ ≠ 63) (h2 : τ ≠ 38) (h3 : τ ≠ 2) : EngW F w0 e dB D w' := by
  obtain ⟨dp, dc, hb, _⟩ := h.blk
  by_cases h0 : 0 < D.length
  · obtain ⟨vs, k1, _⟩ := h.row h0
    exact h.kp hk (fun hc => OfT.ne (hC _ hc) (.of hb) h1 rfl) (fun hc => OfT.ne (hC _ hc) (.of k1) h2 rfl) fun g hg hc => OfT.ne (hC _ hc) hg h3 rfl
  · obtain ⟨dp, dc, hb, h4, h5⟩ := h.blk
    exact ⟨⟨dp, dc, hb.kp hk fun hc => OfT.ne (hC _ hc) (.of hb) h1 rfl, h4, h5⟩, h.len, fun h => absurd h h0, h.near, h.short, h.ge⟩
theorem EngW.engD {F : Fam} {w0 : World} {e dB : Nat} {D : List (List Int)} {w : World} (h : EngW F w0 e dB D w) : EngD w e D := by
  obtain ⟨dp, dc, h1, h2, h3, h4⟩ := h.blk
  refine ⟨dp, dc, h1.cell 2 rfl, h2, h3, ?_⟩
  by_cases h0 : 0 < D.length
  · obtain ⟨vs, k1, k2⟩ := h.row h0
    refine .inr ⟨dB, 0, h4 h0, k1.lt, fun i d hi => ?_⟩
    obtain ⟨v, k3, k4⟩ := k2 i d hi
    obtain ⟨q, c, rfl⟩ := k4.form
    exact ⟨q, c, by rw [Nat.zero_add]; exact k1.cell i k3, (k4.sl fun n hn => (h.near d (List.mem_of_getElem? hi) n hn).in64).2⟩
  · exact .inl (List.eq_nil_of_length_eq_zero (by omega))
/-- The number's row is replaced. -/
theorem EngW.store {F : Fam} {w0 : World} {e dB : Nat} {D : List (List Int)} {w : World} (h : EngW F w0 e dB D w) {i : Nat} (hi : i < D.length) {v : Value} {d : List Int} (hv : IntsOwn w w0.heap.size v d) (hn : ∀ y ∈ d, Near y) (hs : d.length ≤ 100) : EngW F w0 e dB (D.set i d) (w.setCell ⟨dB, i, none⟩ v) := by
  obtain ⟨dp, dc, h1, h2, h3, h4⟩ := h.blk
  obtain ⟨vs, k1, k2⟩ := h.row (by omega)
  have hkp : Kp (· = dB) w (w.setCell ⟨dB, i, none⟩ v) := Kp.set rfl
  have hed : ¬ e = dB := OfT.ne (.of h1) (.of k1) (by decide)
  have hrow : ∀ g, OfT w g 2 → ¬ g = dB := fun g hg => OfT.ne hg (.of k1) (by decide)
  refine ⟨⟨dp, dc, by rw [List.length_set]; exact h1.kp hkp hed, by rw [List.length_set]; exact h2, h3, by rw [List.length_set]; exact h4⟩, by rw [List.length_set]; exact h.len, fun _ => ⟨vs.setIfInBounds i v, k1.set i v, fun j d' hj => ?_⟩, fun d' hd' y hy => ?_, fun d' hd' => ?_, h.ge⟩
  · by_cases hij : i = j
    · subst hij
      rw [List.getElem?_set_self hi] at hj
      cases hj
      obtain ⟨v0, k3, _⟩ := k2 i _ (List.getElem?_eq_getElem hi)
      exact ⟨v, Array.getElem?_setIfInBounds_self_of_lt (Array.getElem?_eq_some_iff.1 k3).1, ownsRow_kp hv hkp fun g hg => hrow g (ownsRow_type hv hg).1⟩
    · rw [List.getElem?_set_ne hij] at hj
      obtain ⟨v', k3, k4⟩ := k2 j d' hj
      exact ⟨v', by rw [Array.getElem?_setIfInBounds_ne hij]; exact k3, ownsRow_kp k4 hkp fun g hg => hrow g (ownsRow_type k4 hg).1⟩
  · rcases List.mem_or_eq_of_mem_set hd' with hd' | rfl
    · exact h.near d' hd' y hy
    · exact hn y hy
  · rcases List.mem_or_eq_of_mem_set hd' with hd' | rfl
    · exact h.short d' hd'
    · exact hs

end Go.Proofs.Ytbapmokbkjmdcaa

namespace Go.Proofs.Ytbapmokbkjmdcaa
open Go.RowKit Go.Maps Go.Lib

structure TodoM (F : Fam) (w0 w : World) (p : Option Addr) (c : Nat) (T : List Int) : Prop where
  sl : IntSl w p c T
  room : (p = none ∧ T = [] ∧ c = 0) ∨ ∃ (g o : Nat) (cur : Array Value), p = some ⟨g, o, none⟩ ∧ w.heap[g]? = some (.cells cur 3 (0, 0)) ∧ o + c ≤ cur.size ∧ w0.heap.size ≤ g ∧ (T.length < c → ∀ (i : Nat) (v : Value) (u : List Int), F.vv[i]? = some v → F.U[i]? = some u → v.ownBlock = some g → u.length ≤ o + T.length)
theorem TodoM.kpT {F : Fam} {w0 w w' : World} {p : Option Addr} {c : Nat} {T : List Int} {C : Nat → Prop} (h : TodoM F w0 w p c T) (hk : Kp C w w') {τ : TypeId} (hC : ∀ b, C b → OfT w b τ) (hτ : τ ≠ 3) : TodoM F w0 w' p c T := by
  rcases h.room with ⟨rfl, rfl, rfl⟩ | ⟨g, o, cur, rfl, h1, h2, h3, h4⟩
  · exact ⟨⟨h.sl.1, h.sl.2.1, h.sl.2.2.1, .inl rfl⟩, .inl ⟨rfl, rfl, rfl⟩⟩
  · have hgC : ¬ C g := fun hc => OfT.ne (hC g hc) ⟨cur, h1⟩ hτ rfl
    have hlt := (Array.getElem?_eq_some_iff.1 h1).1
    have hb := (hk.block g hlt hgC).trans h1
    refine ⟨⟨h.sl.1, h.sl.2.1, h.sl.2.2.1, ?_⟩, .inr ⟨g, o, cur, rfl, hb, h2, h3, h4⟩⟩
    by_cases h0 : T = []
    · exact .inl h0
    · obtain ⟨b, o', hp, hb', hr⟩ := h.sl.ptr (List.length_pos_iff.2 h0)
      cases hp
      exact .inr ⟨g, o, rfl, Nat.lt_of_lt_of_le hlt hk.size, fun i n hi => (World.cell?_of_block (hk.block g hlt hgC)).trans (hr i n hi)⟩
theorem TodoM.gr {F : Fam} {w0 w w' : World} {p : Option Addr} {c : Nat} {T : List Int} (h : TodoM F w0 w p c T) (hg : Gr w w') : TodoM F w0 w' p c T := h.kpT (C := fun _ => False) (Kp.of_gr hg) (τ := 40) (fun _ => False.elim) (by decide)
/-- The first is taken. -/
theorem TodoM.tail {F : Fam} {w0 w : World} {p : Option Addr} {c : Nat} {k : Int} {T : List Int} (h : TodoM F w0 w p c (k :: T)) : ∃ g o, p = some ⟨g, o, none⟩ ∧ w.cell? ⟨g, o, none⟩ = some (.int .i64 k) ∧ ∀ pq, pq = (if c = 1 then some ⟨g, o, none⟩ else some ⟨g, o + 1, none⟩) → TodoM F w0 w pq (c - 1) T := by
  obtain ⟨g, o, hp, hb, hc, ht⟩ := h.sl.tail
  refine ⟨g, o, hp, hc, fun pq hpq => ⟨ht pq hpq, ?_⟩⟩
  obtain ⟨g', o', cur, hp', h1, h2, h3, h4⟩ := h.room.resolve_left fun h => by cases h.2.1
  rw [hp] at hp'
  cases hp'
  have hl := h.sl.1
  rw [List.length_cons] at hl
  by_cases hc1 : c = 1
  · rw [if_pos hc1] at hpq
    exact .inr ⟨g, o, cur, hpq, h1, by omega, h3, fun hh => by omega⟩
  · rw [if_neg hc1] at hpq
    refine .inr ⟨g, o + 1, cur, hpq, h1, by omega, h3, fun hh i v u hv hu hg => ?_⟩
    have := h4 (by rw [List.length_cons]; omega) i v u hv hu hg
    rw [List.length_cons] at this
    omega
/-- A row that engines share. -/
theorem TodoM.shared {F : Fam} {w0 w : World} (hF : FamOk F w0) (hw : FamW F w0 w) {i : Nat} {u : List Int} (hu : F.U[i]? = some u) (hin : ∀ k ∈ u, In64 k) : ∃ p c, F.vv[i]? = some (.slice p u.length c) ∧ TodoM F w0 w p c u := by
  have hi := (List.getElem?_eq_some_iff.1 hu).1
  obtain ⟨v, hv⟩ : ∃ v, F.vv[i]? = some v := ⟨_, List.getElem?_eq_getElem (by rw [hF.lenU]; exact hi)⟩
  have ho := hw.own i v u hv hu
  rcases ho.2 with ⟨rfl, h0⟩ | ⟨g, cap, cur, rfl, h1, h2, h3, h4, h5, h6⟩
  · have : u = [] := List.eq_nil_of_length_eq_zero h0
    subst this
    exact ⟨none, 0, hv, ⟨Nat.le_refl _, by omega, hin, .inl rfl⟩, .inl ⟨rfl, rfl, rfl⟩⟩
  · rw [Nat.mul_one] at h5 h6
    refine ⟨_, _, hv, ⟨h3, h4, hin, .inr ⟨g, 0, rfl, (Array.getElem?_eq_some_iff.1 h2).1, fun j n hj => ?_⟩⟩, .inr ⟨g, 0, cur, rfl, h2, by omega, h1, fun _ j v' u' hv' hu' hg => ?_⟩⟩
    · have hjl := (List.getElem?_eq_some_iff.1 hj).1
      have : (cur.toList.take u.length)[j]? = (u.map (Value.int .i64))[j]? := by rw [h6]
      rw [List.getElem?_take_of_lt hjl, List.getElem?_map, hj, Array.getElem?_toList] at this
      rw [Nat.zero_add, cell_of_row w g j _ _ _ h2, this]; rfl
    · by_cases hij : i = j
      · subst hij
        rw [hu] at hu'; cases hu'; omega
      · exact absurd hg (hF.apart i j _ v' hij hv hv' g rfl)
/-- A row of the call's own. -/
theorem TodoM.own {F : Fam} {w0 w : World} {v : Value} {T : List Int} (ho : w.ownsRow w0.heap.size 3 1 v T.length (T.map (.int .i64))) (hin : ∀ k ∈ T, In64 k) (hn : ∀ g, v.ownBlock = some g → ¬ F.UB g) : ∃ p c, v = .slice p T.length c ∧ TodoM F w0 w p c T := by
  rcases ho.2 with ⟨rfl, h0⟩ | ⟨g, cap, cur, rfl, h1, h2, h3, h4, h5, h6⟩
  · have : T = [] := List.eq_nil_of_length_eq_zero h0
    subst this
    exact ⟨none, 0, rfl, ⟨Nat.le_refl _, by omega, hin, .inl rfl⟩, .inl ⟨rfl, rfl, rfl⟩⟩
  · rw [Nat.mul_one] at h5 h6
    refine ⟨_, _, rfl, ⟨h3, h4, hin, .inr ⟨g, 0, rfl, (Array.getElem?_eq_some_iff.1 h2).1, fun j n hj => ?_⟩⟩, .inr ⟨g, 0, cur, rfl, h2, by omega, h1, fun _ j v' u' hv' hu' hg => ?_⟩⟩
    · have hjl := (List.getElem?_eq_some_iff.1 hj).1
      have : (cur.toList.take T.length)[j]? = (T.map (Value.int .i64))[j]? := by rw [h6]
      rw [List.getElem?_take_of_lt hjl, List.getElem?_map, hj, Array.getElem?_toList] at this
      rw [Nat.zero_add, cell_of_row w g j _ _ _ h2, this]; rfl
    · exact absurd ⟨v', List.mem_of_getElem? hv', hg⟩ (hn g rfl)

theorem infoInt : (Try.prog.info? 3).map (fun i => (i.zero, i.size, i.bytes)) = some (some (.int .i64 0), 1, 8) := by kernel_rfl
theorem sl_snoc {w : World} {g o c : Nat} {T : List Int} {k : Int} (h : IntSl w (some ⟨g, o, none⟩) c T) (hk : In64 k) (hc : w.cell? ⟨g, o + T.length, none⟩ = some (.int .i64 k)) (hl : T.length + 1 ≤ c) (hg : g < w.heap.size) : IntSl w (some ⟨g, o, none⟩) c (T ++ [k]) := by
  refine ⟨by simpa using hl, h.2.1, fun n hn => (List.mem_append.1 hn).elim (h.2.2.1 n) fun hn => by rw [List.mem_singleton.1 hn]; exact hk, .inr ⟨g, o, rfl, hg, fun i n hi => ?_⟩⟩
  by_cases hlt : i < T.length
  · rw [List.getElem?_append_left hlt] at hi
    obtain ⟨b, o', hp, _, hr⟩ := h.ptr (by omega)
    cases hp
    exact hr i n hi
  · have : i = T.length := by
      have := (List.getElem?_eq_some_iff.1 hi).1
      simp at this; omega
    subst this
    simp at hi
    rw [hc, hi]
/-- One more: where there is room, or in new memory. -/
theorem TodoM.push {F : Fam} {w0 w : World} {p : Option Addr} {c : Nat} {T : List Int} (h : TodoM F w0 w p c T) (_ : FamOk F w0) (hw : FamW F w0 w) {k : Int} (hk : In64 k) (hT : T.length ≤ 1000) (ty : TypeId) (b cb : Nat) (hb : w.cell? ⟨b, 0, none⟩ = some (.int .i64 k)) :
    ∃ p' c' w', (Builtin.append_ #[40, 40] ty #[.slice p T.length c, .slice (some ⟨b, 0, none⟩) 1 cb]).run Try.prog w = .ok (.slice p' (T.length + 1) c') w' ∧ TodoM F w0 w' p' c' (T ++ [k]) ∧ FamW F w0 w' ∧
      Kp (fun x => OfT w x 3 ∧ w0.heap.size ≤ x ∧ ∃ a, p = some a ∧ a.block = x) w w' ∧ ∀ a', p' = some a' → (∃ a, p = some a ∧ a.block = a'.block) ∨ w.heap.size ≤ a'.block := by
  obtain ⟨i0, hi, hz0, hz1, hz2⟩ := info_parts infoInt
  have hnews : ∀ j u, [Value.int .i64 k][j]? = some u → w.cell? ((⟨b, 0, none⟩ : Addr).add j) = some u := fun j u hu => by
    match j, hu with
    | 0, hu => cases hu; exact hb
    | j + 1, hu => simp at hu
  have hone : ∀ u ∈ [Value.int .i64 k], u.oneCell' = true := fun u hu => by rw [List.mem_singleton.1 hu]; rfl
  -- a new row
  have hnew : ∀ (cap : Nat) (cells : Array Value) (wd : World), wd = w.drew.alloc (.cells cells 3) → T.length + 1 ≤ cap → cap ≤ maxLen → cells.size = cap → (∀ (i : Nat) (n : Int), (T ++ [k])[i]? = some n → cells[i]? = some (Value.int .i64 n)) → TodoM F w0 wd (some ⟨w.heap.size, 0, none⟩) cap (T ++ [k]) ∧ FamW F w0 wd ∧ Gr w wd := by
    rintro cap cells _ rfl h1 h2 h3 h4
    have hg : Gr w (w.drew.alloc (.cells cells 3)) := by go_grown
    have hbl : (w.drew.alloc (.cells cells 3)).heap[w.heap.size]? = some (.cells cells 3 (0, 0)) := heap_alloc_new w.drew _
    have hlt : w.heap.size < (w.drew.alloc (.cells cells 3)).heap.size := (Array.getElem?_eq_some_iff.1 hbl).1
    refine ⟨⟨⟨by simpa using h1, h2, fun n hn => (List.mem_append.1 hn).elim (h.sl.2.2.1 n) fun hn => by rw [List.mem_singleton.1 hn]; exact hk, .inr ⟨w.heap.size, 0, rfl, hlt, fun i n hi => ?_⟩⟩, .inr ⟨w.heap.size, 0, cells, rfl, hbl, by omega, hw.gr.size, fun _ i v u hv hu hg' => ?_⟩⟩, hw.gr' hg, hg⟩
    · rw [Nat.zero_add, cell_of_row _ _ i _ _ _ hbl, h4 i n hi]
    · have := (ownsRow_type (hw.own i v u hv hu) hg').1.lt
      omega
  have hcellz : ∀ (m : Nat) (i : Nat) (n : Int), (T ++ [k])[i]? = some n → ((T.map (Value.int .i64)).toArray ++ [Value.int .i64 k].toArray ++ Builtin.zeroCells (Value.int .i64 0).cells m)[i]? = some (Value.int .i64 n) := fun m i n hi => by
    have hil := (List.getElem?_eq_some_iff.1 hi).1
    rw [Array.getElem?_append_left (by simpa using hil)]
    have : ((T.map (Value.int .i64)).toArray ++ [Value.int .i64 k].toArray) = ((T ++ [k]).map (Value.int .i64)).toArray := by simp
    rw [this, List.getElem?_toArray, List.getElem?_map, hi]; rfl
  have hz1' : i0.size = 1 := hz1
  have hz2' : i0.bytes = 8 := hz2
  rcases h.room with ⟨rfl, rfl, rfl⟩ | ⟨g, o, cur, rfl, h1, h2, h3, h4⟩
  · have hr := run_append_nil (P := Try.prog) w 40 ty 3 i0 (.int .i64 0) Try.underlying40 hi hz0 ⟨b, 0, none⟩ 1 cb [.int .i64 k] (by rw [hz1']; rfl) hnews (by omega) (by omega) (by rw [hz2']; omega)
    obtain ⟨k1, k2, k3⟩ := hnew _ _ _ rfl (grownCap_ge w 1 0 3) (grownCap_le_maxLen w 1 0 3 (by decide)) (by simp [size_zeroCells, Value.cells]; have := grownCap_ge w 1 0 3; omega) (hcellz (grownCap w 1 0 3 - 1))
    refine ⟨_, _, _, hr.trans (by simp), k1, k2, Kp.of_gr k3, fun a' ha => by cases ha; exact .inr (Nat.le_refl _)⟩
  · have hlt := (Array.getElem?_eq_some_iff.1 h1).1
    by_cases hroom : T.length + 1 ≤ c
    · have hcl : o + T.length < cur.size := by omega
      have hsrc := Src.ofSlice (P := Try.prog) w (size := i0.size) (tx := 40) (e' := 3) Try.underlying40 ⟨b, 0, none⟩ 1 cb [.int .i64 k] (by rw [hz1']; rfl) hnews hone
      have hr := run_append_room_src (P := Try.prog) w 40 40 ty 3 i0 Try.underlying40 hi g o T.length c _ 1 [.int .i64 k] hsrc hroom (fun j hj => by
        have : j = 0 := by simpa using hj
        subst this
        rw [hz1', Nat.mul_one, Nat.add_zero, cell_of_row w g _ _ _ _ h1, Array.getElem?_eq_getElem hcl]; rfl) (fun j _ => frozen_of_row w g _ _ _ h1)
      rw [hz1', Nat.mul_one] at hr
      have hset : w.setCells g (o + T.length) [.int .i64 k] = w.setCell ⟨g, o + T.length, none⟩ (.int .i64 k) := rfl
      rw [hset] at hr
      have hkp : Kp (· = g) w (w.setCell ⟨g, o + T.length, none⟩ (.int .i64 k)) := Kp.set rfl
      have hb1 := heap_setCell_same _ g (o + T.length) _ _ (.int .i64 k) h1
      have hcell : ∀ m, m ≠ o + T.length → (w.setCell ⟨g, o + T.length, none⟩ (.int .i64 k)).cell? ⟨g, m, none⟩ = w.cell? ⟨g, m, none⟩ := fun m hm => by
        rw [cell_of_row _ g m _ _ _ hb1, cell_of_row _ g m _ _ _ h1, Array.getElem?_setIfInBounds_ne (fun e => hm e.symm)]
      have hsl' : IntSl (w.setCell ⟨g, o + T.length, none⟩ (.int .i64 k)) (some ⟨g, o, none⟩) c T := ⟨h.sl.1, h.sl.2.1, h.sl.2.2.1, by
        by_cases h0 : T = []
        · exact .inl h0
        · obtain ⟨b', o', hp, _, hr'⟩ := h.sl.ptr (List.length_pos_iff.2 h0)
          cases hp
          refine .inr ⟨g, o, rfl, Nat.lt_of_lt_of_le hlt hkp.size, fun i n hi' => ?_⟩
          have := (List.getElem?_eq_some_iff.1 hi').1
          rw [hcell _ (by omega)]
          exact hr' i n hi'⟩
      have hnewc : (w.setCell ⟨g, o + T.length, none⟩ (.int .i64 k)).cell? ⟨g, o + T.length, none⟩ = some (.int .i64 k) := by
        rw [cell_of_row _ g _ _ _ _ hb1, Array.getElem?_setIfInBounds_self_of_lt hcl]
      obtain ⟨cells, hub, hcs⟩ := hw.blk
      refine ⟨_, _, _, hr, ⟨sl_snoc hsl' hk hnewc hroom (Nat.lt_of_lt_of_le hlt hkp.size), .inr ⟨g, o, _, rfl, hb1, by simpa using h2, h3, fun hh i v u hv hu hg => ?_⟩⟩, ⟨Below.trans hw.gr (hkp.below (fun b hb => by rw [hb]; exact h3) hw.gr.size), ⟨cells, hub.kp hkp fun e => OfT.ne (⟨cur, h1⟩ : OfT w g 3) (.of hub) (by decide) e.symm, hcs⟩, fun i v u hv hu => ?_, hw.geB⟩, hkp.mono fun x hx => ⟨by rw [hx]; exact ⟨cur, h1⟩, by rw [hx]; exact h3, ⟨g, o, none⟩, rfl, hx.symm⟩, fun a' ha => by cases ha; exact .inl ⟨_, rfl, rfl⟩⟩
      · rw [List.length_append]
        have := h4 (by omega) i v u hv hu hg
        omega
      · have ho := hw.own i v u hv hu
        by_cases hvg : v.ownBlock = some g
        · have hul := h4 (by omega) i v u hv hu hvg
          refine ⟨ho.1, ho.2.imp id ?_⟩
          rintro ⟨g', cap, cur', rfl, q1, q2, q3, q4, q5, q6⟩
          cases hvg
          rw [h1] at q2
          cases q2
          refine ⟨g', cap, _, rfl, q1, hb1, q3, q4, by simpa using q5, ?_⟩
          rw [Nat.mul_one] at q6 ⊢
          rw [← q6]
          apply List.ext_getElem?
          intro m
          rw [List.getElem?_take, List.getElem?_take]
          split
          · rw [Array.getElem?_toList, Array.getElem?_toList, Array.getElem?_setIfInBounds_ne (by omega)]
          · rfl
        · exact ownsRow_kp ho hkp fun g' hg' e => hvg (by rw [hg', e])
    · have hTc : T.length = c := by have := h.sl.1; omega
      have holds : ∀ j u, (T.map (Value.int .i64))[j]? = some u → w.cell? ((⟨g, o, none⟩ : Addr).add j) = some u := fun j u hu => by
        rw [List.getElem?_map] at hu
        cases hl : T[j]? with
        | none => rw [hl] at hu; cases hu
        | some x =>
          rw [hl] at hu
          cases hu
          obtain ⟨b', o', hp, _, hr'⟩ := h.sl.ptr (by have := (List.getElem?_eq_some_iff.1 hl).1; omega)
          cases hp
          rw [Go.WideShapes.add_plain]
          exact hr' j x hl
      have hr := run_append_grow (P := Try.prog) w 40 ty 3 i0 (.int .i64 0) Try.underlying40 hi hz0 ⟨g, o, none⟩ T.length c (T.map (Value.int .i64)) (by rw [hz1', List.length_map, Nat.mul_one]) holds ⟨b, 0, none⟩ 1 cb [.int .i64 k] (by rw [hz1']; rfl) hnews (by omega) (by omega) (growslice_fits (by omega) (by rw [hz2']; omega))
      have hge := grownCap_ge w (T.length + 1) c 3
      obtain ⟨k1, k2, k3⟩ := hnew _ _ _ rfl hge (grownCap_le_maxLen w (T.length + 1) c 3 (by simp only [maxLen]; omega)) (by simp [size_zeroCells, Value.cells]; omega) (hcellz (grownCap w (T.length + 1) c 3 - (T.length + 1)))
      exact ⟨_, _, _, hr, k1, k2, Kp.of_gr k3, fun a' ha => by cases ha; exact .inr (Nat.le_refl _)⟩
end Go.Proofs.Ytbapmokbkjmdcaa
