/-
  What a base holds, in general; (*base.View).Next in general.
  (*base.Base).View and Look where the base has one clause.
  (*base.Base).View in general.
  slices.Insert at []int in general.
-/
import Derived.Test.YtjdoflfdlhpbmaaGreatBF12
import Derived.Test.YtjdoflfdlhpbmaaGreatBF11
import Derived.Shelf.Spec.SlicesInsert
import Derived.Shelf.Spec.SlicesInsertGrow
namespace Go.Proofs.YtjdoflfdlhpbmaaGreat
open Go.RowKit Go.Maps Go.Lib

/-- A clause and its id, in memory; without its addresses. -/
structure Hd where
  i : Int
  h : Tm
  b : Tm
structure HdT where
  i : Int
  h : T
  b : T
def Hd.er (x : Hd) : HdT := ⟨x.i, x.h.erase, x.b.erase⟩
def Hd.cells (x : Hd) : List Value := heldCells x.i x.h x.b

/-- A list of clauses, that lies on S. -/
structure HSl (S : Nat → Prop) (w : World) (p : Option Addr) (c : Nat) (L : List Hd) : Prop where
  len : L.length ≤ c
  bd : L.length * 120 ≤ 140737488351232
  cap : c ≤ 9223372036854775807
  row : L = [] ∨ ∃ b o, p = some ⟨b, o, none⟩ ∧ S b ∧ b < w.heap.size ∧ ∀ i x, L[i]? = some x → ∀ j v, x.cells[j]? = some v → w.cell? ⟨b, o + i * 9 + j, none⟩ = some v
  els : ∀ x ∈ L, x.h.In w ∧ x.b.In w ∧ x.h.erase.formed = true ∧ x.b.erase.formed = true ∧ x.h.On S ∧ x.b.On S
theorem HSl.kp {C S : Nat → Prop} {w w' : World} {p : Option Addr} {c : Nat} {L : List Hd} (h : HSl S w p c L) (hK : Kp C w w') (hC : ∀ b, S b → ¬ C b) : HSl S w' p c L := by
  refine ⟨h.len, h.bd, h.cap, h.row.imp id ?_, fun x hx => ?_⟩
  · rintro ⟨b, o, hp, hb, hl, hr⟩
    exact ⟨b, o, hp, hb, Nat.lt_of_lt_of_le hl hK.size, fun i x hx j v hv => (World.cell?_of_block (hK.block b hl (hC b hb))).trans (hr i x hx j v hv)⟩
  · obtain ⟨h1, h2, h3, h4, h5, h6⟩ := h.els x hx
    exact ⟨in_after' h1 h5 fun b hb hl o => World.cell?_of_block (hK.block b hl (hC b hb)), in_after' h2 h6 fun b hb hl o => World.cell?_of_block (hK.block b hl (hC b hb)), h3, h4, h5, h6⟩
theorem HSl.gr {S : Nat → Prop} {w w' : World} {p : Option Addr} {c : Nat} {L : List Hd} (h : HSl S w p c L) (hg : Gr w w') : HSl S w' p c L := h.kp (C := fun _ => False) (Kp.of_gr hg) fun _ _ h => h
theorem HSl.tail {S : Nat → Prop} {w : World} {b o c : Nat} {x : Hd} {L : List Hd} {q : Option Addr} (h : HSl S w (some ⟨b, o, none⟩) c (x :: L)) (hq : L ≠ [] → q = some ⟨b, o + 9, none⟩) : HSl S w q (c - 1) L := by
  have hl := h.len
  have hb := h.bd
  simp only [List.length_cons] at hl hb
  refine ⟨by omega, by omega, by have := h.cap; omega, ?_, fun y hy => h.els y (List.mem_cons_of_mem _ hy)⟩
  by_cases hL : L = []
  · exact .inl hL
  · rcases h.row with h0 | ⟨b', o', hp, hS, hlt, hr⟩
    · cases h0
    · cases hp
      refine .inr ⟨b, o + 9, hq hL, hS, hlt, fun i y hy j v hv => ?_⟩
      have := hr (i + 1) y (by simpa using hy) j v hv
      rwa [show o + (i + 1) * 9 + j = o + 9 + i * 9 + j by omega] at this

/-- The first clause that is let through, and what is behind it. -/
def nextT (g : T) : List HdT → Option (HdT × List HdT)
  | [] => none
  | x :: xs => if letsT g x.h then some (x, xs) else nextT g xs

/-- What a view tells next. -/
def RetNext (S : Nat → Prop) (V : Nat) (G : Tm) (r : Option (HdT × List HdT)) (w : World) (e : Ending) (w' : World) : Prop :=
  ∃ (L : List Hd) (p : Option Addr) (c : Nat), BlkT w' V 110 #[.slice p L.length c, .int .i64 G.k, .int .i64 G.n, .string G.s, .slice G.p G.l.length G.c] ∧ HSl S w' p c L ∧ Kp (fun b => b = V) w w' ∧
    match r with
    | none => L = [] ∧ e = .returned (.tuple #[.int .i64 0, clVal zeroTm zeroTm, .bool false])
    | some (x, rest) => L.map Hd.er = rest ∧ ∃ h b : Tm, e = .returned (.tuple #[.int .i64 x.i, clVal h b, .bool true]) ∧ h.In w' ∧ b.In w' ∧ h.erase = x.h ∧ b.erase = x.b ∧ h.On (w.heap.size ≤ ·) ∧ b.On (w.heap.size ≤ ·)

set_option maxHeartbeats 8000000 in
set_option maxRecDepth 100000 in
theorem next_calls (S : Nat → Prop) (V : Nat) (G : Tm) (L : List Hd) (p : Option Addr) (c : Nat) (w : World) (hS : ¬ S V) (hSl : ∀ b, S b → b < w.heap.size) (hB : BlkT w V 110 #[.slice p L.length c, .int .i64 G.k, .int .i64 G.n, .string G.s, .slice G.p G.l.length G.c]) (hL : HSl S w p c L) (hG : G.In w) (hGo : G.On S) (hpr : ∀ x ∈ L, G.l = [] ∨ (0 < G.l.length ∧ 0 < x.h.l.length)) :
    Calls Tryz.prog 31 #[.pointer (some ⟨V, 0, none⟩)] w (RetNext S V G (nextT G.erase (L.map Hd.er)) w) := by
  generalize hr : nextT G.erase (L.map Hd.er) = r
  have hR : Hid (∀ e w', RetNext S V G r w e w' → RetNext S V G r w e w') := fun _ _ h => h
  generalize hQ : RetNext S V G r w = Q at hR ⊢
  rw [← hQ] at hR
  have HQ := Lib.hid hQ
  clear hQ
  have HBl := Lib.hid hB
  have HL := Lib.hid hL
  have HG := Lib.hid hG
  have HGo := Lib.hid hGo
  have Hpr := Lib.hid hpr
  have Hr := Lib.hid hr
  have HSl' := Lib.hid hSl
  have hVl := hB.lt
  have hVS : Hid (∀ b, S b → ¬ (b = V)) := fun b hb e => hS (e ▸ hb)
  clear hB hL hG hGo hpr hr hSl
  go_enter Tryz.func31, Tryz.ntmps31
  try simp only [List.append_eq, List.cons_append, List.nil_append]
  go_upto_region 1 with fail
  have hN : Blk8 (w.alloc (.cells #[.int .i64 0, .int .i64 0, .string ⟨#[]⟩, .slice none 0 0, .int .i64 0, .int .i64 0, .string ⟨#[]⟩, .slice none 0 0] 29)) w.heap.size (.int .i64 0) (.int .i64 0) (.string ⟨#[]⟩) (.slice none 0 0) (.int .i64 0) (.int .i64 0) (.string ⟨#[]⟩) (.slice none 0 0) := heap_alloc_new _ _
  have gA : Gr w (w.alloc (.cells #[.int .i64 0, .int .i64 0, .string ⟨#[]⟩, .slice none 0 0, .int .i64 0, .int .i64 0, .string ⟨#[]⟩, .slice none 0 0] 29)) := by go_grown
  generalize w.alloc (.cells #[.int .i64 0, .int .i64 0, .string ⟨#[]⟩, .slice none 0 0, .int .i64 0, .int .i64 0, .string ⟨#[]⟩, .slice none 0 0] 29) = wA at *
  have hszA : w.heap.size < wA.heap.size := hN.lt
  have HR := Lib.hid hN
  clear hN
  go_wp2_with fail
  go_loopg [4] L.length (fun n x wr => x = .bool false ∧ ∃ (L' : List Hd) (p' : Option Addr) (c' : Nat), n = L'.length ∧ Hid (nextT G.erase (L'.map Hd.er) = r) ∧ Hid (∀ x ∈ L', G.l = [] ∨ (0 < G.l.length ∧ 0 < x.h.l.length)) ∧ Hid (BlkT wr V 110 #[.slice p' L'.length c', .int .i64 G.k, .int .i64 G.n, .string G.s, .slice G.p G.l.length G.c]) ∧ Hid (HSl S wr p' c' L') ∧ Hid (Blk8 wr w.heap.size (.int .i64 0) (.int .i64 0) (.string ⟨#[]⟩) (.slice none 0 0) (.int .i64 0) (.int .i64 0) (.string ⟨#[]⟩) (.slice none 0 0)) ∧ Hid (Kp (fun b => b = V) w wr) ∧ w.heap.size < wr.heap.size)
  case atStart => exact ⟨rfl, L, p, c, rfl, Hr.out, Hpr.out, HBl.out.gr gA, HL.out.gr gA, HR.out, Kp.of_gr gA, hszA⟩
  case round =>
    obtain ⟨rfl, L', p', c', rfl, Hr', Hpr', HB', HL', HR', HK, hws⟩ := hrel
    have v0 := HB'.out.cell 0 (v := .slice p' L'.length c') rfl
    rcases L' with _ | ⟨x, xs⟩
    · simp only [List.length_nil] at v0
      obtain ⟨y0, y1, y2, y3, y4, y5, y6, y7⟩ := HR'.out.cells
      obtain ⟨f0, f1, f2, f3, f4, f5, f6, f7⟩ := HR'.out.open_
      have hrn : r = none := Hr'.out.symm
      subst hrn
      have hfin : Hid (∀ W, Kp (fun b => b = w.heap.size) wr W → Q (.returned (.tuple #[.int .i64 0, clVal zeroTm zeroTm, .bool false])) W) := fun W hK => by
        rw [← HQ.out]
        exact ⟨[], p', c', HB'.out.kp hK (by omega), HL'.out.kp hK (fun b hb e => by have := HSl'.out b hb; omega), (((HK.out.mono (C' := fun b => b = V ∨ b = w.heap.size) fun b h => .inl h).trans (hK.mono fun b h => .inr h)).weaken fun b hb h => h.resolve_right (by omega)), rfl, rfl⟩
      go_wp2_with fail
      refine bodyPost_ret (v := .tuple #[.int .i64 0, clVal zeroTm zeroTm, .bool false]) (by simp (maxDischargeDepth := 9) [results, Tryz.results31, go_sem, clVal, zeroTm, Tm.k, Tm.n, Tm.s, Tm.p, Tm.c, Tm.l, y0, y1, y2, y3, y4, y5, y6, y7]) rfl ?_
      exact hfin.out _ ((Kp.set4 (C := fun b => b = w.heap.size) rfl).trans (Kp.set4 (C := fun b => b = w.heap.size) rfl))
    · obtain ⟨b, o, rfl, hbS, hbl, hrow⟩ := HL'.out.row.resolve_left (by simp)
      obtain ⟨ih, ib, fh, fb, oh, ob⟩ := HL'.out.els x (by simp)
      have HrowX := Lib.hid (fun j v hv => hrow 0 x rfl j v hv)
      have FH := Lib.hid fh
      have FB := Lib.hid fb
      have OH := Lib.hid oh
      have OB := Lib.hid ob
      have IH := Lib.hid ih
      have IB := Lib.hid ib
      clear hrow ih ib fh fb oh ob
      have z0 := HrowX.out 0 _ rfl
      have z1 := HrowX.out 1 _ rfl
      have z2 := HrowX.out 2 _ rfl
      have z3 := HrowX.out 3 _ rfl
      have z4 := HrowX.out 4 _ rfl
      have z5 := HrowX.out 5 _ rfl
      have z6 := HrowX.out 6 _ rfl
      have z7 := HrowX.out 7 _ rfl
      have z8 := HrowX.out 8 _ rfl
      simp only [Nat.zero_mul, Nat.add_zero] at z0 z1 z2 z3 z4 z5 z6 z7 z8
      have hcl := HL'.out.len
      have hcc := HL'.out.cap
      simp only [List.length_cons] at v0 hcl
      go_upto_region 3 with fail
      have hH := BlkT.new wr 73 #[.int .i64 x.i, .int .i64 x.h.k, .int .i64 x.h.n, .string x.h.s, .slice x.h.p x.h.l.length x.h.c, .int .i64 x.b.k, .int .i64 x.b.n, .string x.b.s, .slice x.b.p x.b.l.length x.b.c]
      have gB : Gr wr (wr.alloc (.cells #[.int .i64 x.i, .int .i64 x.h.k, .int .i64 x.h.n, .string x.h.s, .slice x.h.p x.h.l.length x.h.c, .int .i64 x.b.k, .int .i64 x.b.n, .string x.b.s, .slice x.b.p x.b.l.length x.b.c] 73)) := by go_grown
      generalize wr.alloc (.cells #[.int .i64 x.i, .int .i64 x.h.k, .int .i64 x.h.n, .string x.h.s, .slice x.h.p x.h.l.length x.h.c, .int .i64 x.b.k, .int .i64 x.b.n, .string x.b.s, .slice x.b.p x.b.l.length x.b.c] 73) = wB at *
      replace HR' := Lib.hid (HR'.out.gr gB)
      replace HB' := Lib.hid (HB'.out.gr gB)
      replace HL' := Lib.hid (HL'.out.gr gB)
      replace HK := Lib.hid (HK.out.trans (Kp.of_gr gB))
      have hwsB : w.heap.size < wB.heap.size := by have := gB.size; omega
      generalize wr.heap.size = H at *
      have HH := Lib.hid hH
      clear hH gB v0 z0 z1 z2 z3 z4 z5 z6 z7 z8
      have v0 := HB'.out.cell 0 (v := .slice (some ⟨b, o, none⟩) (xs.length + 1) c') rfl
      have f0 := HB'.out.open_ 0
      go_upto_region 4 with fail
      obtain ⟨q, hq⟩ : ∃ q : Option Addr, q = (if c' = 1 then some ⟨b, o, none⟩ else some ⟨b, o + 9, none⟩ : Option Addr) := ⟨_, rfl⟩
      rw [← hq]
      have hk : Kp (fun x => x = V) wB (wB.setCell ⟨V, 0, none⟩ (.slice q xs.length (c' - 1))) := Kp.set rfl
      have hB2 := HB'.out.set 0 (.slice q xs.length (c' - 1))
      simp only [List.setIfInBounds_toArray, List.set_cons_zero] at hB2
      generalize wB.setCell ⟨V, 0, none⟩ (.slice q xs.length (c' - 1)) = wC at *
      replace HK := Lib.hid (HK.out.trans hk)
      have hszC := hk.size
      replace HH := Lib.hid (HH.out.kp hk (by omega))
      replace HR' := Lib.hid (HR'.out.kp hk (by omega))
      have HLC := Lib.hid (HL'.out.kp hk hVS.out)
      have HT := Lib.hid (HSl.tail (q := q) HLC.out (fun hne => by
        rw [hq, if_neg]
        intro e
        apply hne
        exact List.eq_nil_of_length_eq_zero (by omega)))
      replace HB' := Lib.hid hB2
      clear hk hB2 v0 f0 hq
      have IHC := Lib.hid (HLC.out.els x (by simp)).1
      have IBC := Lib.hid (HLC.out.els x (by simp)).2.1
      have GC := Lib.hid (in_after' (S := S) HG.out HGo.out (W := wC) fun y hy hlt o => World.cell?_of_block (HK.out.block y hlt (hVS.out y hy)))
      have Hhv := Lib.hid (show x.h.val = .agg #[.int .i64 x.h.k, .int .i64 x.h.n, .string x.h.s, .slice x.h.p x.h.l.length x.h.c] from rfl)
      have Hgv := Lib.hid (show G.val = .agg #[.int .i64 G.k, .int .i64 G.n, .string G.s, .slice G.p G.l.length G.c] from rfl)
      have Hprx := Lib.hid (Hpr'.out x (by simp))
      have Hprs : Hid (∀ y ∈ xs, G.l = [] ∨ (0 < G.l.length ∧ 0 < y.h.l.length)) := fun y hy => Hpr'.out y (List.mem_cons_of_mem _ hy)
      have v1 := HB'.out.cell 1 (v := .int .i64 G.k) rfl
      have v2 := HB'.out.cell 2 (v := .int .i64 G.n) rfl
      have v3 := HB'.out.cell 3 (v := .string G.s) rfl
      have v4 := HB'.out.cell 4 (v := .slice G.p G.l.length G.c) rfl
      have z0 := HH.out.cell 0 rfl
      have z1 := HH.out.cell 1 rfl
      have z2 := HH.out.cell 2 rfl
      have z3 := HH.out.cell 3 rfl
      have z4 := HH.out.cell 4 rfl
      have z5 := HH.out.cell 5 rfl
      have z6 := HH.out.cell 6 rfl
      have z7 := HH.out.cell 7 rfl
      have z8 := HH.out.cell 8 rfl
      refine wp_region_rely [fx (.pointer (some ⟨V, 0, none⟩)), fx (.pointer (some ⟨V, 0, none⟩)), fx (.pointer (some ⟨V, 1, none⟩)), fx G.val, fx (.pointer (some ⟨H, 1, none⟩)), fx (.pointer (some ⟨H, 1, none⟩)), fx x.h.val, fx (.bool (letsT G.erase x.h.erase))]
        (by kernel_rfl) (by kernel_rfl) (by repeat (first | exact Stable.nil | refine Stable.fix ?_)) ?_ ?_
      · refine ⟨?_, ?_, ?_, ?_, ?_, ?_, ?_, ?a7, trivial⟩
        all_goals
          intro a wp hg hold
          have h0 : a.tmps[0]?.getD undef = .pointer (some ⟨V, 0, none⟩) := hold 0 rfl
          have h5 : a.tmps[5]?.getD undef = .pointer (some ⟨H, 0, none⟩) := hold 5 rfl
          clear hold
          have y1 := Gr.at hg v1
          have y2 := Gr.at hg v2
          have y3 := Gr.at hg v3
          have y4 := Gr.at hg v4
          have x0 := Gr.at hg z0
          have x1 := Gr.at hg z1
          have x2 := Gr.at hg z2
          have x3 := Gr.at hg z3
          have x4 := Gr.at hg z4
          have x5 := Gr.at hg z5
          have x6 := Gr.at hg z6
          have x7 := Gr.at hg z7
          have x8 := Gr.at hg z8
          clear v1 v2 v3 v4 z0 z1 z2 z3 z4 z5 z6 z7 z8
          simp [predsImp, Region.binds, dstAt, fx]
          intros
          first
            | (rw [if_pos (by simp [*])]
               intro K hK)
            | (rename_i K hK)
          go_simp
        case a7 =>
          refine (lets_gen (t := G) (u := x.h) (Tm.In_below hg GC.out) (Tm.In_below hg IHC.out) Hprx.out).mono ?_
          rintro e w10 ⟨rfl, hg2⟩
          exact hK _ _ rfl hg2
        all_goals exact hK _ _ rfl (Gr.rfl' _)
      · intro wd hg
        rintro _ rfl _ rfl _ rfl _ rfl _ rfl _ rfl _ rfl _ rfl
        replace HK := Lib.hid (HK.out.trans (Kp.of_gr hg))
        replace HH := Lib.hid (HH.out.gr hg)
        replace HR' := Lib.hid (HR'.out.gr hg)
        replace HB' := Lib.hid (HB'.out.gr hg)
        replace HT := Lib.hid (HT.out.gr hg)
        replace IHC := Lib.hid (Tm.In_below hg IHC.out)
        replace IBC := Lib.hid (Tm.In_below hg IBC.out)
        have hszd := hg.size
        clear hg v1 v2 v3 v4 z0 z1 z2 z3 z4 z5 z6 z7 z8
        simp only [finAll, Act.put, List.setIfInBounds_toArray, List.set_cons_succ, List.set_cons_zero]
        have Hr2 := Hr'.out
        rw [List.map_cons, nextT, show (x.er).h = x.h.erase from rfl] at Hr2
        cases hlet : letsT G.erase x.h.erase with
        | false =>
          have Hr3 : Hid (nextT G.erase (xs.map Hd.er) = r) := by show _ = _; rw [← Hr2, hlet]; rfl
          clear Hr2 hlet
          go_wp2_with fail
          go_roundg xs.length
          case measure => simp
          case rel => exact ⟨rfl, xs, q, c' - 1, rfl, Hr3.out, Hprs.out, HB'.out, HT.out, HR'.out, HK.out, by omega⟩
        | true =>
          obtain rfl : r = some (x.er, xs.map Hd.er) := by rw [← Hr2, hlet]; rfl
          clear Hr2 hlet
          go_upto_region 5 with fail
          have z0 := HH.out.cell 0 rfl
          have z1 := HH.out.cell 1 rfl
          have z2 := HH.out.cell 2 rfl
          have z3 := HH.out.cell 3 rfl
          have z4 := HH.out.cell 4 rfl
          have z5 := HH.out.cell 5 rfl
          have z6 := HH.out.cell 6 rfl
          have z7 := HH.out.cell 7 rfl
          have z8 := HH.out.cell 8 rfl
          refine wp_region_rely_tail 5 [fx (.pointer (some ⟨H, 0, none⟩)), fx (.int .i64 x.i), fx (.pointer (some ⟨H, 1, none⟩)), fx (clVal x.h x.b), clNew (wd.heap.size ≤ ·) x.h.erase x.b.erase]
            (by kernel_rfl) (by kernel_rfl) (by decide) (by repeat (first | exact Stable.nil | refine Stable.fix ?_ | refine Stable.cons clNew_stable ?_)) ?_ ?_
          · refine ⟨?_, ?_, ?_, ?_, ?a4, trivial⟩
            all_goals
              intro a wp hg hold
              have h5 : a.tmps[5]?.getD undef = .pointer (some ⟨H, 0, none⟩) := hold 5 rfl
              clear hold
              have x0 := Gr.at hg z0
              have x1 := Gr.at hg z1
              have x2 := Gr.at hg z2
              have x3 := Gr.at hg z3
              have x4 := Gr.at hg z4
              have x5 := Gr.at hg z5
              have x6 := Gr.at hg z6
              have x7 := Gr.at hg z7
              have x8 := Gr.at hg z8
              clear z0 z1 z2 z3 z4 z5 z6 z7 z8
              simp [predsImp, Region.binds, dstAt, fx]
              intros
              first
                | (rw [if_pos (by simp [*])]
                   intro K hK)
                | (rename_i K hK)
              go_simp
            case a4 =>
              refine (copied_calls x.h x.b wp (Tm.In_below hg IHC.out) (Tm.In_below hg IBC.out) FH.out FB.out).mono ?_
              rintro e w10 ⟨h2, b2, rfl, i1, i2, j1, j2, o1, o2, hg2⟩
              exact hK _ _ ⟨h2, b2, rfl, i1, i2, j1, j2, o1.mono fun x hx => Nat.le_trans hg.size hx, o2.mono fun x hx => Nat.le_trans hg.size hx⟩ hg2
            all_goals exact hK _ _ rfl (Gr.rfl' _)
          · intro we hg
            rintro _ rfl _ rfl _ rfl _ rfl _ ⟨h2, b2, rfl, i1, i2, j1, j2, o1, o2⟩
            replace HK := Lib.hid (HK.out.trans (Kp.of_gr hg))
            replace HR' := Lib.hid (HR'.out.gr hg)
            replace HB' := Lib.hid (HB'.out.gr hg)
            replace HT := Lib.hid (HT.out.gr hg)
            have hsze := hg.size
            have I1 := Lib.hid i1
            have I2 := Lib.hid i2
            have J1 := Lib.hid j1
            have J2 := Lib.hid j2
            have O1 := Lib.hid o1
            have O2 := Lib.hid o2
            clear hg z0 z1 z2 z3 z4 z5 z6 z7 z8 i1 i2 j1 j2 o1 o2
            obtain ⟨y0, y1, y2, y3, y4, y5, y6, y7⟩ := HR'.out.cells
            obtain ⟨f0, f1, f2, f3, f4, f5, f6, f7⟩ := HR'.out.open_
            simp only [finAll, Act.put, List.setIfInBounds_toArray, List.set_cons_succ, List.set_cons_zero, clVal_four, List.drop_succ_cons, List.drop_zero, List.take_zero]
            go_wp2_with fail
            have hfin : Hid (∀ W, Kp (fun b => b = w.heap.size) we W → Q (.returned (.tuple #[.int .i64 x.i, clVal h2 b2, .bool true])) W) := fun W hK => by
              rw [← HQ.out]
              exact ⟨xs, q, c' - 1, HB'.out.kp hK (by omega), HT.out.kp hK (fun b hb e => by have := HSl'.out b hb; omega), (((HK.out.mono (C' := fun b => b = V ∨ b = w.heap.size) fun b h => .inl h).trans (hK.mono fun b h => .inr h)).weaken fun b hb h => h.resolve_right (by omega)), rfl, h2, b2, rfl,
                in_after' I1.out O1.out (fun y h1 hx o => World.cell?_of_block (hK.block y hx (by omega))), in_after' I2.out O2.out (fun y h1 hx o => World.cell?_of_block (hK.block y hx (by omega))), J1.out, J2.out, O1.out.mono fun y hy => by omega, O2.out.mono fun y hy => by omega⟩
            refine bodyPost_ret (v := .tuple #[.int .i64 x.i, clVal h2 b2, .bool true]) (by simp (maxDischargeDepth := 9) [results, Tryz.results31, go_sem, clVal, y0, y1, y2, y3, y4, y5, y6, y7]) rfl ?_
            exact hfin.out _ ((Kp.set4 (C := fun b => b = w.heap.size) rfl).trans (Kp.set4 (C := fun b => b = w.heap.size) rfl))
end Go.Proofs.YtjdoflfdlhpbmaaGreat

namespace Go.Proofs.YtjdoflfdlhpbmaaGreat
open Go.RowKit Go.Maps Go.Lib

def viewV (hv : Value) (t : T) : VP := fun v w => ∃ G : Tm, v = .agg #[hv, .int .i64 G.k, .int .i64 G.n, .string G.s, .slice G.p G.l.length G.c] ∧ G.In w ∧ G.erase = t
theorem viewV_stable {hv : Value} {t : T} : ∀ v w w', viewV hv t v w → Gr w w' → viewV hv t v w' := fun _ _ _ ⟨G, h1, h2, h3⟩ hg => ⟨G, h1, Tm.In_below hg h2, h3⟩
def boxV (hv : Value) (t : T) (B0 : Nat) : VP := fun v w => ∃ (V : Nat) (G : Tm), v = .pointer (some ⟨V, 0, none⟩) ∧ B0 ≤ V ∧ BlkT w V 110 #[hv, .int .i64 G.k, .int .i64 G.n, .string G.s, .slice G.p G.l.length G.c] ∧ G.erase = t
theorem boxV_stable {hv : Value} {t : T} {B0 : Nat} : ∀ v w w', boxV hv t B0 v w → Gr w w' → boxV hv t B0 v w' := fun _ _ _ ⟨V, G, h1, h2, h3, h4⟩ hg => ⟨V, G, h1, h2, h3.gr hg, h4⟩

def RetView (w : World) (e : Ending) (w' : World) : Prop := ∃ (V g cap : Nat) (G h b : Tm), e = .returned (.tuple #[.pointer (some ⟨V, 0, none⟩), .int .i64 0]) ∧ OneView w' V g cap G h b ∧ 1 ≤ cap ∧ w.heap.size ≤ V ∧ Gr w w'

theorem erase_nil {G H : Tm} (h : G.erase = H.erase) (hl : H.l = []) : G.l = [] := by
  obtain ⟨k, n, s, p, c, l⟩ := G
  obtain ⟨k', n', s', p', c', l'⟩ := H
  simp only [Tm.l] at hl ⊢
  subst hl
  rw [Tm.erase, Tm.erase, Tm.eraseL] at h
  injection h with _ _ _ h
  have := Tm.eraseL_length l
  rw [h] at this
  exact List.eq_nil_of_length_eq_zero this.symm

set_option maxHeartbeats 8000000 in
set_option maxRecDepth 100000 in
theorem view_calls (B M1 M2 : Nat) (G : Tm) (t u : T) (w : World) (hB : OneBase w B M1 M2 G.s G.l.length t u) (hG : G.In w) (fG : G.erase.formed = true) (cG : G.erase.callable = true) (aG : G.l = []) (ft : t.formed = true) (fu : u.formed = true) (hs : G.s.size ≤ 1000) :
    Calls Tryz.prog 30 #[.pointer (some ⟨B, 0, none⟩), G.val] w (RetView w) := by
  have hR : Hid (∀ (V g cap : Nat) (G h b : Tm) (w' : World), OneView w' V g cap G h b → 1 ≤ cap → w.heap.size ≤ V → Gr w w' → RetView w (.returned (.tuple #[.pointer (some ⟨V, 0, none⟩), .int .i64 0])) w') := fun V g cap G h b w' h1 h2 h3 h4 => ⟨V, g, cap, G, h, b, rfl, h1, h2, h3, h4⟩
  generalize hQ : RetView w = Q at hR ⊢
  clear hQ
  have hl0 : G.l.length ≤ 1000 := by rw [aG]; simp
  have Hkey := Lib.hid (keyOf_bpred (s := G.s) (n := (G.l.length : Int)) (by simp only [maxLen]; omega) (wf_64 ⟨by omega, by omega⟩))
  have hl64 : IntKind.i64.wrap (G.l.length : Int) = G.l.length := IntWalk.i64_in _ (by omega)
  obtain ⟨⟨av, hbl⟩, ⟨hv, f, hm1, hf1, h, b, ho, ih, ib, eh, eb⟩, _⟩ := hB
  obtain ⟨g, cap, rfl, hcap, hcs⟩ := row_cells ho
  have HCs := Lib.hid hcs
  have HBl := Lib.hid hbl
  have HM1 := Lib.hid hm1
  have HF1 := Lib.hid hf1
  have IH := Lib.hid ih
  have IB := Lib.hid ib
  have FH : Hid (h.erase.formed = true) := by show _ = _; rw [eh]; exact ft
  have FB : Hid (b.erase.formed = true) := by show _ = _; rw [eb]; exact fu
  have HG := Lib.hid hG
  have FG := Lib.hid fG
  have CGc := Lib.hid cG
  have AG := Lib.hid aG
  have hff : Hid (T.formedL (Tm.eraseL [G]) = true) := Lib.hid ((formedL_one G).trans fG)
  clear hbl hm1 hf1 ho ih ib eh eb ft fu hcs hG fG cG aG
  have Hgv := Lib.hid (show G.val = .agg #[.int .i64 G.k, .int .i64 G.n, .string G.s, .slice G.p G.l.length G.c] from rfl)
  rw [Hgv.out]
  go_enter Tryz.func30, Tryz.ntmps30
  try simp only [List.append_eq, List.cons_append, List.nil_append]
  go_upto_region 1 with fail
  have hN := Blk4.new w (.int .i64 G.k) (.int .i64 G.n) (.string G.s) (.slice G.p G.l.length G.c)
  have gA : Gr w (w.alloc (.cells #[.int .i64 G.k, .int .i64 G.n, .string G.s, .slice G.p G.l.length G.c] 24)) := by go_grown
  generalize w.alloc (.cells #[.int .i64 G.k, .int .i64 G.n, .string G.s, .slice G.p G.l.length G.c] 24) = wA at *
  have HT := Lib.hid hN
  clear hN
  obtain ⟨⟨t0, t1, t2, t3⟩, _, _⟩ := HT.out.parts
  go_upto_region 3 with (first
    | (go_at_call 18; refine (all_calls (one_new (t := G) (Tm.In_below gA HG.out) (Gr.rfl' _))).mono ?_; rintro e wB ⟨rfl, hb⟩; rewrite [hff.out]; have g2 : Gr wA wB := below_step hb (by go_grown); replace HT := Lib.hid (HT.out.gr g2); have gB := gA.trans g2; clear hb g2 t0 t1 t2 t3; obtain ⟨⟨t0, t1, t2, t3⟩, _, _⟩ := HT.out.parts)
    | fail)
  go_upto_region 5 with (first
    | (go_at_call 22; rewrite [← Hgv.out]; refine (callable_calls _ _).mono ?_; rw [CGc.out]; rintro e wC ⟨rfl, hb⟩; replace HT := Lib.hid (HT.out.gr hb); have gC := gB.trans hb; clear hb t0 t1 t2 t3; obtain ⟨⟨t0, t1, t2, t3⟩, _, _⟩ := HT.out.parts)
    | fail)
  have b2 := (HBl.out.gr gC).cell 2 (v := .map (some M1)) rfl
  refine wp_region_rely [fx (.pointer (some ⟨B, 0, none⟩)), fx (.pointer (some ⟨B, 0, none⟩)), fx (.pointer (some ⟨B, 2, none⟩)), fx (.map (some M1)), fx G.val, fx (.agg #[.string G.s, .int .i64 G.l.length]), fx (.slice (some ⟨g, 0, none⟩) 1 cap), fx G.val, tmIs (wC.heap.size ≤ ·) G.erase, viewV (.slice (some ⟨g, 0, none⟩) 1 cap) G.erase, boxV (.slice (some ⟨g, 0, none⟩) 1 cap) G.erase wC.heap.size, boxV (.slice (some ⟨g, 0, none⟩) 1 cap) G.erase wC.heap.size, fx (.int .i64 0)]
    (by kernel_rfl) (by kernel_rfl) (by repeat (first | exact Stable.nil | refine Stable.fix ?_ | refine Stable.cons tmIs_stable ?_ | refine Stable.cons viewV_stable ?_ | refine Stable.cons boxV_stable ?_)) ?_ ?_
  · refine ⟨?_, ?_, ?_, ?_, ?_, ?a5, ?_, ?_, ?a8, ?a9, ?a10, ?a11, ?_, trivial⟩
    all_goals
      intro a wr hg hold
      have h0 : a.tmps[0]?.getD undef = .pointer (some ⟨B, 0, none⟩) := hold 0 rfl
      have h3 : a.tmps[3]?.getD undef = .pointer (some ⟨w.heap.size, 0, none⟩) := hold 3 rfl
      clear hold
      have y2 := Gr.at hg b2
      have x0 := Gr.at hg t0
      have x1 := Gr.at hg t1
      have x2 := Gr.at hg t2
      have x3 := Gr.at hg t3
      have hlk := (GMap.run (HM1.out.gr (gC.trans hg)) bpred_keyed Tryz.underlying54 (zero_held wr) (x := (G.s, (G.l.length : Int))) Hkey.out).1
      rw [HF1.out] at hlk
      simp only [kPred, Option.getD_some] at hlk
      clear b2 t0 t1 t2 t3
      simp [predsImp, Region.binds, dstAt, fx]
      intros
      first
        | (rw [if_pos (by simp [*])]
           intro K hK)
        | (rename_i K hK)
      go_simp
    case a5 =>
      refine (of_calls G wr).mono ?_
      rintro e w10 ⟨rfl, hg2⟩
      exact hK _ _ rfl hg2
    case a8 =>
      refine (copy_calls (t := G) (Tm.In_below (gC.trans hg) HG.out) FG.out).mono ?_
      rintro e w10 ⟨z, i1, i2, rfl, ib, i3⟩
      exact hK _ _ ⟨z, rfl, i1, i2, i3.mono fun b hb => Nat.le_trans hg.size hb⟩ ib
    case a9 =>
      have hq : tmIs (wC.heap.size ≤ ·) G.erase (a.tmps[21]?.getD undef) wr := by assumption
      obtain ⟨z, e1, i1, j1, _⟩ := hq
      rw [e1]
      simp only [Tm.val]
      go_simp
      exact hK _ _ ⟨z, rfl, i1, j1⟩ (Gr.rfl' _)
    case a10 =>
      have hq : viewV (.slice (some ⟨g, 0, none⟩) 1 cap) G.erase (a.tmps[22]?.getD undef) wr := by assumption
      obtain ⟨z, e1, i1, j1⟩ := hq
      rw [e1]
      go_simp
      exact hK _ _ ⟨_, z, rfl, hg.size, BlkT.new wr 110 #[.slice (some ⟨g, 0, none⟩) 1 cap, .int .i64 z.k, .int .i64 z.n, .string z.s, .slice z.p z.l.length z.c], j1⟩ (by go_grown)
    case a11 =>
      have hq : boxV (.slice (some ⟨g, 0, none⟩) 1 cap) G.erase wC.heap.size (a.tmps[23]?.getD undef) wr := by assumption
      exact hK _ _ hq (Gr.rfl' _)
    all_goals exact hK _ _ rfl (Gr.rfl' _)
  · intro wd hg
    rintro _ rfl _ rfl _ rfl _ rfl _ rfl _ rfl _ rfl _ rfl v8 _ v9 _ v10 _ _ ⟨V, z, rfl, hVs, hVb, hz⟩ _ rfl
    have gD := gC.trans hg
    have hVs' : w.heap.size ≤ V := Nat.le_trans gC.size hVs
    have hgl : g < w.heap.size := World.block_lt_of_cell? _ _ (HCs.out 0 _ rfl)
    have hone : Hid (OneView wd V g cap z h b) := ⟨hVb, fun j x hx => Gr.at gD (HCs.out j x hx), Tm.In_below gD IH.out, Tm.In_below gD IB.out, FH.out, FB.out, erase_nil hz AG.out, by omega, IH.out.on.mono fun x hx => by omega, IB.out.on.mono fun x hx => by omega⟩
    clear hg b2 t0 t1 t2 t3 hVb
    simp only [finAll, Act.put, List.setIfInBounds_toArray, List.set_cons_succ, List.set_cons_zero]
    go_wp2_with fail
    exact hR.out V g cap z h b _ hone.out hcap hVs' gD
end Go.Proofs.YtjdoflfdlhpbmaaGreat

namespace Go.Proofs.YtjdoflfdlhpbmaaGreat
open Go.RowKit Go.Maps Go.Lib

/-- A view is handed back: what it is. -/
def RetViewG (S : Nat → Prop) (g : T) (L : List HdT) (w : World) (e : Ending) (w' : World) : Prop := ∃ (V : Nat) (p : Option Addr) (c : Nat) (M : List Hd) (G : Tm), e = .returned (.tuple #[.pointer (some ⟨V, 0, none⟩), .int .i64 0]) ∧
  BlkT w' V 110 #[.slice p M.length c, .int .i64 G.k, .int .i64 G.n, .string G.s, .slice G.p G.l.length G.c] ∧ HSl S w' p c M ∧ M.map Hd.er = L ∧ G.In w' ∧ G.erase = g ∧ G.On (fun x => w.heap.size ≤ x ∧ x ≠ V) ∧ w.heap.size ≤ V ∧ Gr w w'

def boxG (hv : Value) (t : T) (B0 : Nat) : VP := fun v w => ∃ (V : Nat) (G : Tm), v = .pointer (some ⟨V, 0, none⟩) ∧ B0 ≤ V ∧ BlkT w V 110 #[hv, .int .i64 G.k, .int .i64 G.n, .string G.s, .slice G.p G.l.length G.c] ∧ G.In w ∧ G.erase = t ∧ G.On (fun x => B0 ≤ x ∧ x ≠ V)
theorem boxG_stable {hv : Value} {t : T} {B0 : Nat} : ∀ v w w', boxG hv t B0 v w → Gr w w' → boxG hv t B0 v w' := fun _ _ _ ⟨V, G, h1, h2, h3, h4, h5⟩ hg => ⟨V, G, h1, h2, h3.gr hg, Tm.In_below hg h4, h5⟩
def viewG (hv : Value) (t : T) (B0 : Nat) : VP := fun v w => ∃ G : Tm, v = .agg #[hv, .int .i64 G.k, .int .i64 G.n, .string G.s, .slice G.p G.l.length G.c] ∧ G.In w ∧ G.erase = t ∧ G.On (B0 ≤ ·)
theorem viewG_stable {hv : Value} {t : T} {B0 : Nat} : ∀ v w w', viewG hv t B0 v w → Gr w w' → viewG hv t B0 v w' := fun _ _ _ ⟨G, h1, h2, h3⟩ hg => ⟨G, h1, Tm.In_below hg h2, h3⟩

set_option maxHeartbeats 8000000 in
set_option maxRecDepth 100000 in
theorem view_gen (S : Nat → Prop) (B M1 : Nat) (v0 v1 v3 : Value) (f : ByteArray × Int → Option Value) (G : Tm) (p : Option Addr) (c : Nat) (L : List Hd) (w : World) (hB : BlkT w B 57 #[v0, v1, .map (some M1), v3]) (hM : GMap 68 kPred w M1 f)
    (hf : (f (G.s, (G.l.length : Int))).getD (.slice none 0 0) = .slice p L.length c) (hL : HSl S w p c L) (hG : G.In w) (fG : G.erase.formed = true) (cG : G.erase.callable = true) :
    Calls Tryz.prog 30 #[.pointer (some ⟨B, 0, none⟩), G.val] w (RetViewG S G.erase (L.map Hd.er) w) := by
  have hR : Hid (∀ (V : Nat) (G' : Tm) (w' : World), BlkT w' V 110 #[.slice p L.length c, .int .i64 G'.k, .int .i64 G'.n, .string G'.s, .slice G'.p G'.l.length G'.c] → HSl S w' p c L → G'.In w' → G'.erase = G.erase → G'.On (fun x => w.heap.size ≤ x ∧ x ≠ V) → w.heap.size ≤ V → Gr w w' → RetViewG S G.erase (L.map Hd.er) w (.returned (.tuple #[.pointer (some ⟨V, 0, none⟩), .int .i64 0])) w') := fun V G' w' h1 h2 h3 h4 h5 h6 h7 => ⟨V, p, c, L, G', rfl, h1, h2, rfl, h3, h4, h5, h6, h7⟩
  generalize hQ : RetViewG S G.erase (L.map Hd.er) w = Q at hR ⊢
  clear hQ
  obtain ⟨hs, hl⟩ := tm_small fG
  have Hkey := Lib.hid (keyOf_bpred (s := G.s) (n := (G.l.length : Int)) (by simp only [maxLen]; omega) (wf_64 ⟨by omega, by omega⟩))
  have hl64 : IntKind.i64.wrap (G.l.length : Int) = G.l.length := IntWalk.i64_in _ (by omega)
  have HBl := Lib.hid hB
  have HM1 := Lib.hid hM
  have HF1 := Lib.hid hf
  have HL := Lib.hid hL
  have HG := Lib.hid hG
  have FG := Lib.hid fG
  have CGc := Lib.hid cG
  have hff : Hid (T.formedL (Tm.eraseL [G]) = true) := Lib.hid ((formedL_one G).trans fG)
  clear hB hM hf hL hG fG cG
  have Hgv := Lib.hid (show G.val = .agg #[.int .i64 G.k, .int .i64 G.n, .string G.s, .slice G.p G.l.length G.c] from rfl)
  rw [Hgv.out]
  go_enter Tryz.func30, Tryz.ntmps30
  try simp only [List.append_eq, List.cons_append, List.nil_append]
  go_upto_region 1 with fail
  have hN := Blk4.new w (.int .i64 G.k) (.int .i64 G.n) (.string G.s) (.slice G.p G.l.length G.c)
  have gA : Gr w (w.alloc (.cells #[.int .i64 G.k, .int .i64 G.n, .string G.s, .slice G.p G.l.length G.c] 24)) := by go_grown
  generalize w.alloc (.cells #[.int .i64 G.k, .int .i64 G.n, .string G.s, .slice G.p G.l.length G.c] 24) = wA at *
  have HT := Lib.hid hN
  clear hN
  obtain ⟨⟨t0, t1, t2, t3⟩, _, _⟩ := HT.out.parts
  go_upto_region 3 with (first
    | (go_at_call 18; refine (all_calls (one_new (t := G) (Tm.In_below gA HG.out) (Gr.rfl' _))).mono ?_; rintro e wB ⟨rfl, hb⟩; rewrite [hff.out]; have g2 : Gr wA wB := below_step hb (by go_grown); replace HT := Lib.hid (HT.out.gr g2); have gB := gA.trans g2; clear hb g2 t0 t1 t2 t3; obtain ⟨⟨t0, t1, t2, t3⟩, _, _⟩ := HT.out.parts)
    | fail)
  go_upto_region 5 with (first
    | (go_at_call 22; rewrite [← Hgv.out]; refine (callable_calls _ _).mono ?_; rw [CGc.out]; rintro e wC ⟨rfl, hb⟩; replace HT := Lib.hid (HT.out.gr hb); have gC := gB.trans hb; clear hb t0 t1 t2 t3; obtain ⟨⟨t0, t1, t2, t3⟩, _, _⟩ := HT.out.parts)
    | fail)
  have b2 := (HBl.out.gr gC).cell 2 (v := .map (some M1)) rfl
  refine wp_region_rely [fx (.pointer (some ⟨B, 0, none⟩)), fx (.pointer (some ⟨B, 0, none⟩)), fx (.pointer (some ⟨B, 2, none⟩)), fx (.map (some M1)), fx G.val, fx (.agg #[.string G.s, .int .i64 G.l.length]), fx (.slice p L.length c), fx G.val, tmIs (wC.heap.size ≤ ·) G.erase, viewG (.slice p L.length c) G.erase wC.heap.size, boxG (.slice p L.length c) G.erase wC.heap.size, boxG (.slice p L.length c) G.erase wC.heap.size, fx (.int .i64 0)]
    (by kernel_rfl) (by kernel_rfl) (by repeat (first | exact Stable.nil | refine Stable.fix ?_ | refine Stable.cons tmIs_stable ?_ | refine Stable.cons viewG_stable ?_ | refine Stable.cons boxG_stable ?_)) ?_ ?_
  · refine ⟨?_, ?_, ?_, ?_, ?_, ?a5, ?_, ?_, ?a8, ?a9, ?a10, ?a11, ?_, trivial⟩
    all_goals
      intro a wr hg hold
      have h0 : a.tmps[0]?.getD undef = .pointer (some ⟨B, 0, none⟩) := hold 0 rfl
      have h3 : a.tmps[3]?.getD undef = .pointer (some ⟨w.heap.size, 0, none⟩) := hold 3 rfl
      clear hold
      have y2 := Gr.at hg b2
      have x0 := Gr.at hg t0
      have x1 := Gr.at hg t1
      have x2 := Gr.at hg t2
      have x3 := Gr.at hg t3
      have hlk := (GMap.run (HM1.out.gr (gC.trans hg)) bpred_keyed Tryz.underlying54 (zero_held wr) (x := (G.s, (G.l.length : Int))) Hkey.out).1
      rw [HF1.out] at hlk
      simp only [kPred] at hlk
      clear b2 t0 t1 t2 t3
      simp [predsImp, Region.binds, dstAt, fx]
      intros
      first
        | (rw [if_pos (by simp [*])]
           intro K hK)
        | (rename_i K hK)
      go_simp
    case a5 =>
      refine (of_calls G wr).mono ?_
      rintro e w10 ⟨rfl, hg2⟩
      exact hK _ _ rfl hg2
    case a8 =>
      refine (copy_calls (t := G) (Tm.In_below (gC.trans hg) HG.out) FG.out).mono ?_
      rintro e w10 ⟨z, i1, i2, rfl, ib, i3⟩
      exact hK _ _ ⟨z, rfl, i1, i2, i3.mono fun b hb => Nat.le_trans hg.size hb⟩ ib
    case a9 =>
      have hq : tmIs (wC.heap.size ≤ ·) G.erase (a.tmps[21]?.getD undef) wr := by assumption
      obtain ⟨z, e1, i1, j1, o1⟩ := hq
      rw [e1]
      simp only [Tm.val]
      go_simp
      exact hK _ _ ⟨z, rfl, i1, j1, o1⟩ (Gr.rfl' _)
    case a10 =>
      have hq : viewG (.slice p L.length c) G.erase wC.heap.size (a.tmps[22]?.getD undef) wr := by assumption
      obtain ⟨z, e1, i1, j1, o1⟩ := hq
      rw [e1]
      go_simp
      have hgn : Gr wr (wr.alloc (.cells #[.slice p L.length c, .int .i64 z.k, .int .i64 z.n, .string z.s, .slice z.p z.l.length z.c] 110)) := by go_grown
      exact hK _ _ ⟨_, z, rfl, hg.size, BlkT.new wr 110 #[.slice p L.length c, .int .i64 z.k, .int .i64 z.n, .string z.s, .slice z.p z.l.length z.c], Tm.In_below hgn i1, j1, (Tm.On.and o1 i1.on).mono fun b hb => ⟨hb.1, Nat.ne_of_lt hb.2⟩⟩ hgn
    case a11 =>
      have hq : boxG (.slice p L.length c) G.erase wC.heap.size (a.tmps[23]?.getD undef) wr := by assumption
      exact hK _ _ hq (Gr.rfl' _)
    all_goals exact hK _ _ rfl (Gr.rfl' _)
  · intro wd hg
    rintro _ rfl _ rfl _ rfl _ rfl _ rfl _ rfl _ rfl _ rfl v8 _ v9 _ v10 _ _ ⟨V, z, rfl, hVs, hVb, hzi, hz, hzo⟩ _ rfl
    have gD := gC.trans hg
    have hcs := gC.size
    have hfin : Hid (Q (.returned (.tuple #[.pointer (some ⟨V, 0, none⟩), .int .i64 0])) wd) := hR.out V z wd hVb (HL.out.gr gD) hzi hz (hzo.mono fun b hb => ⟨Nat.le_trans hcs hb.1, hb.2⟩) (Nat.le_trans hcs hVs) gD
    clear hg b2 t0 t1 t2 t3 hVb hzi hzo
    simp only [finAll, Act.put, List.setIfInBounds_toArray, List.set_cons_succ, List.set_cons_zero]
    go_wp2_with fail
    exact hfin.out
end Go.Proofs.YtjdoflfdlhpbmaaGreat

namespace Go.Proofs.YtjdoflfdlhpbmaaGreat
open Go.RowKit Go.Maps Go.Lib

def insRen : Go.Shelf.Ren := ⟨fun | 21 => 29 | 27 => 55 | 28 => 56 | 35 => 75 | 39 => 86 | n => n, fun | 0 => 0 | 3 => 3 | 4 => 4 | 22 => 36 | n => n, fun | n => n⟩

set_option maxRecDepth 100000 in
theorem insLays : Go.Proofs.Lays2.n21 Tryz.prog insRen := {
  mixed := by kernel_rfl
  f21 := Tryz.func29.trans (congrArg some (by kernel_rfl))
  f27 := Tryz.func55.trans (congrArg some (by kernel_rfl))
  f28 := Tryz.func56.trans (congrArg some (by kernel_rfl))
  f35 := Tryz.func75.trans (congrArg some (by kernel_rfl))
  f39 := Tryz.func86.trans (congrArg some (by kernel_rfl))
  t0 := Tryz.underlying0
  a0 := Tryz.isAgg0
  z0 := Tryz.sizeOf0
  v0 := Tryz.zeroValue0
  t3 := Tryz.underlying3
  a3 := Tryz.isAgg3
  z3 := Tryz.sizeOf3
  v3 := Tryz.zeroValue3
  t4 := Tryz.underlying4
  a4 := Tryz.isAgg4
  z4 := Tryz.sizeOf4
  v4 := Tryz.zeroValue4
  t22 := Tryz.underlying36
  a22 := Tryz.isAgg36
  z22 := Tryz.sizeOf36
  v22 := Tryz.zeroValue36
  i3 := infoInt }

end Go.Proofs.YtjdoflfdlhpbmaaGreat
