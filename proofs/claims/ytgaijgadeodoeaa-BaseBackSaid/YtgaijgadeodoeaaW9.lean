/-
  base.lets without Args, (*base.View).Next of one clause.
-/
import Derived.Test.YtgaijgadeodoeaaW8
namespace Go.Proofs.Ytgaijgadeodoeaa
open Go.RowKit Go.Maps Go.Lib

set_option maxRecDepth 100000 in
theorem lets_calls (t u : Tm) (w : World) (ht : t.l = []) : Calls Try.prog 153 #[t.val, u.val] w (Ret (.bool true) w) := by
  have hR : Hid (∀ w', Gr w w' → Ret (.bool true) w (.returned (.bool true)) w') := fun w' hg => ⟨rfl, hg⟩
  generalize hQ : Ret (.bool true) w = Q at hR ⊢
  clear hQ
  obtain ⟨k, n, s, p, c, l⟩ := t
  simp only [Tm.l] at ht
  subst ht
  simp only [Tm.val, Tm.k, Tm.n, Tm.s, Tm.p, Tm.c, Tm.l, List.length_nil]
  go_enter Try.func153, Try.ntmps153
  try simp only [List.append_eq, List.cons_append, List.nil_append]
  go_wp2_with fail
  exact hR.out _ (by go_grown)

/-- What a view is, with its one clause ahead. -/
structure OneView (w : World) (V g cap : Nat) (G h b : Tm) : Prop where
  blk : BlkT w V 162 #[.slice (some ⟨g, 0, none⟩) 1 cap, .int .i64 G.k, .int .i64 G.n, .string G.s, .slice G.p G.l.length G.c]
  row : ∀ j u, (heldCells 1 h b)[j]? = some u → w.cell? ⟨g, j, none⟩ = some u
  inh : h.In w
  inb : b.In w
  fh : h.erase.formed = true
  fb : b.erase.formed = true
  args : G.l = []
  apart : g ≠ V
  oh : h.On (· ≠ V)
  ob : b.On (· ≠ V)

/-- The clause, its id, and that it is there. -/
def RetFirst (V : Nat) (w : World) (e : Ending) (w' : World) : Prop := ∃ h b : Tm, e = .returned (.tuple #[.int .i64 1, clVal h b, .bool true]) ∧ (∃ q c g0 g1 g2 g3, BlkT w' V 162 #[.slice q 0 c, g0, g1, g2, g3]) ∧ Kp (fun x => x = V) w w'

set_option maxHeartbeats 8000000 in
set_option maxRecDepth 100000 in
theorem next_first (V g cap : Nat) (G h b : Tm) (w : World) (hV : OneView w V g cap G h b) (hcap : 1 ≤ cap) : Calls Try.prog 120 #[.pointer (some ⟨V, 0, none⟩)] w (RetFirst V w) := by
  have hR : Hid (∀ (h b : Tm) (w' : World), (∃ q c g0 g1 g2 g3, BlkT w' V 162 #[.slice q 0 c, g0, g1, g2, g3]) → Kp (fun x => x = V) w w' → RetFirst V w (.returned (.tuple #[.int .i64 1, clVal h b, .bool true])) w') := fun h b w' h1 h2 => ⟨h, b, rfl, h1, h2⟩
  generalize hQ : RetFirst V w = Q at hR ⊢
  clear hQ
  obtain ⟨hbl, hrow, ih, ib, fh, fb, ha, hap, oh, ob⟩ := hV
  have HBl := Lib.hid hbl
  have HRow := Lib.hid hrow
  have IH := Lib.hid ih
  have IB := Lib.hid ib
  have FH := Lib.hid fh
  have FB := Lib.hid fb
  have HA := Lib.hid ha
  have OH := Lib.hid oh
  have OB := Lib.hid ob
  have hVl := hbl.lt
  clear hbl hrow ih ib fh fb ha oh ob
  go_enter Try.func120, Try.ntmps120
  try simp only [List.append_eq, List.cons_append, List.nil_append]
  go_upto_region 1 with fail
  have hN : Blk8 (w.alloc (.cells #[.int .i64 0, .int .i64 0, .string ⟨#[]⟩, .slice none 0 0, .int .i64 0, .int .i64 0, .string ⟨#[]⟩, .slice none 0 0] 57)) w.heap.size (.int .i64 0) (.int .i64 0) (.string ⟨#[]⟩) (.slice none 0 0) (.int .i64 0) (.int .i64 0) (.string ⟨#[]⟩) (.slice none 0 0) := heap_alloc_new _ _
  have gA : Gr w (w.alloc (.cells #[.int .i64 0, .int .i64 0, .string ⟨#[]⟩, .slice none 0 0, .int .i64 0, .int .i64 0, .string ⟨#[]⟩, .slice none 0 0] 57)) := by go_grown
  generalize w.alloc (.cells #[.int .i64 0, .int .i64 0, .string ⟨#[]⟩, .slice none 0 0, .int .i64 0, .int .i64 0, .string ⟨#[]⟩, .slice none 0 0] 57) = wA at *
  have HR := Lib.hid hN
  clear hN
  go_wp2_with fail
  go_loopg [4] 0 (fun _ x wr => x = .bool false ∧ wA = wr)
  case atStart => exact ⟨rfl, rfl⟩
  case round =>
    obtain ⟨rfl, rfl⟩ := hrel
    have v0 := (HBl.out.gr gA).cell 0 (v := .slice (some ⟨g, 0, none⟩) 1 cap) rfl
    have z0 := Gr.at gA (HRow.out 0 _ rfl)
    have z1 := Gr.at gA (HRow.out 1 _ rfl)
    have z2 := Gr.at gA (HRow.out 2 _ rfl)
    have z3 := Gr.at gA (HRow.out 3 _ rfl)
    have z4 := Gr.at gA (HRow.out 4 _ rfl)
    have z5 := Gr.at gA (HRow.out 5 _ rfl)
    have z6 := Gr.at gA (HRow.out 6 _ rfl)
    have z7 := Gr.at gA (HRow.out 7 _ rfl)
    have z8 := Gr.at gA (HRow.out 8 _ rfl)
    go_upto_region 3 with fail
    have hH := BlkT.new wA 114 #[.int .i64 1, .int .i64 h.k, .int .i64 h.n, .string h.s, .slice h.p h.l.length h.c, .int .i64 b.k, .int .i64 b.n, .string b.s, .slice b.p b.l.length b.c]
    have gB : Gr wA (wA.alloc (.cells #[.int .i64 1, .int .i64 h.k, .int .i64 h.n, .string h.s, .slice h.p h.l.length h.c, .int .i64 b.k, .int .i64 b.n, .string b.s, .slice b.p b.l.length b.c] 114)) := by go_grown
    generalize wA.alloc (.cells #[.int .i64 1, .int .i64 h.k, .int .i64 h.n, .string h.s, .slice h.p h.l.length h.c, .int .i64 b.k, .int .i64 b.n, .string b.s, .slice b.p b.l.length b.c] 114) = wB at *
    have hsr := HR.out.lt
    generalize wA.heap.size = H at *
    have gAB := gA.trans gB
    have HH := Lib.hid hH
    replace HR := Lib.hid (HR.out.gr gB)
    replace HBl := Lib.hid (HBl.out.gr gAB)
    clear hH gA gB v0 z0 z1 z2 z3 z4 z5 z6 z7 z8
    have v0 := HBl.out.cell 0 (v := .slice (some ⟨g, 0, none⟩) 1 cap) rfl
    have f0 := HBl.out.open_ 0
    go_upto_region 4 with fail
    generalize (if cap = 1 then some ⟨g, 0, none⟩ else some ⟨g, 9, none⟩ : Option Addr) = q
    have hk : Kp (fun x => x = V) wB (wB.setCell ⟨V, 0, none⟩ (.slice q 0 (cap - 1))) := Kp.set rfl
    have hB2 := HBl.out.set 0 (.slice q 0 (cap - 1))
    simp only [List.setIfInBounds_toArray, List.set_cons_zero] at hB2
    generalize wB.setCell ⟨V, 0, none⟩ (.slice q 0 (cap - 1)) = wC at *
    have kw : Kp (fun x => x = V) w wC := (Kp.of_gr gAB).trans hk
    have hVH : V < H := by omega
    replace HH := Lib.hid (HH.out.kp hk (by omega))
    replace HR := Lib.hid (HR.out.kp hk (by omega))
    replace HBl := Lib.hid hB2
    have IH2 := Lib.hid (in_after' (S := (· ≠ V)) IH.out OH.out (W := wC) fun x hx hlt o => World.cell?_of_block (kw.block x hlt hx))
    have IB2 := Lib.hid (in_after' (S := (· ≠ V)) IB.out OB.out (W := wC) fun x hx hlt o => World.cell?_of_block (kw.block x hlt hx))
    clear hk hB2 v0 f0 gAB
    have Hhv := Lib.hid (show h.val = .agg #[.int .i64 h.k, .int .i64 h.n, .string h.s, .slice h.p h.l.length h.c] from rfl)
    have Hgv := Lib.hid (show G.val = .agg #[.int .i64 G.k, .int .i64 G.n, .string G.s, .slice G.p G.l.length G.c] from rfl)
    have v1 := HBl.out.cell 1 (v := .int .i64 G.k) rfl
    have v2 := HBl.out.cell 2 (v := .int .i64 G.n) rfl
    have v3 := HBl.out.cell 3 (v := .string G.s) rfl
    have v4 := HBl.out.cell 4 (v := .slice G.p G.l.length G.c) rfl
    have z0 := HH.out.cell 0 rfl
    have z1 := HH.out.cell 1 rfl
    have z2 := HH.out.cell 2 rfl
    have z3 := HH.out.cell 3 rfl
    have z4 := HH.out.cell 4 rfl
    have z5 := HH.out.cell 5 rfl
    have z6 := HH.out.cell 6 rfl
    have z7 := HH.out.cell 7 rfl
    have z8 := HH.out.cell 8 rfl
    refine wp_region_rely [fx (.pointer (some ⟨V, 0, none⟩)), fx (.pointer (some ⟨V, 0, none⟩)), fx (.pointer (some ⟨V, 1, none⟩)), fx G.val, fx (.pointer (some ⟨H, 1, none⟩)), fx (.pointer (some ⟨H, 1, none⟩)), fx h.val, fx (.bool true)]
      (by kernel_rfl) (by kernel_rfl) (by repeat (first | exact Stable.nil | refine Stable.fix ?_)) ?_ ?_
    · refine ⟨?_, ?_, ?_, ?_, ?_, ?_, ?_, ?a7, trivial⟩
      all_goals
        intro a wr hg hold
        have h0 : a.tmps[0]?.getD undef = .pointer (some ⟨V, 0, none⟩) := hold 0 rfl
        have h5 : a.tmps[5]?.getD undef = .pointer (some ⟨H, 0, none⟩) := hold 5 rfl
        clear hold
        have y1 := Gr.at hg v1
        have y2 := Gr.at hg v2
        have y3 := Gr.at hg v3
        have y4 := Gr.at hg v4
        have x0 := Gr.at hg z0
        have x1 := Gr.at hg z1
        have x2 := Gr.at hg z2
        have x3 := Gr.at hg z3
        have x4 := Gr.at hg z4
        have x5 := Gr.at hg z5
        have x6 := Gr.at hg z6
        have x7 := Gr.at hg z7
        have x8 := Gr.at hg z8
        clear v1 v2 v3 v4 z0 z1 z2 z3 z4 z5 z6 z7 z8
        simp [predsImp, Region.binds, dstAt, fx, wantedE, Act.eval]
        intros
        first
          | (rw [if_pos (by simp [*])]
             intro K hK)
          | (rename_i K hK)
        go_simp
      case a7 =>
        refine (lets_calls G h wr HA.out).mono ?_
        rintro e w10 ⟨rfl, hg2⟩
        exact hK _ _ rfl hg2
      all_goals exact hK _ _ rfl (Gr.rfl' _)
    · intro wd hg
      rintro _ rfl _ rfl _ rfl _ rfl _ rfl _ rfl _ rfl _ rfl
      replace kw := kw.trans (Kp.of_gr hg)
      replace HH := Lib.hid (HH.out.gr hg)
      replace HR := Lib.hid (HR.out.gr hg)
      replace HBl := Lib.hid (HBl.out.gr hg)
      replace IH2 := Lib.hid (Tm.In_below hg IH2.out)
      replace IB2 := Lib.hid (Tm.In_below hg IB2.out)
      clear hg v1 v2 v3 v4 z0 z1 z2 z3 z4 z5 z6 z7 z8
      simp only [finAll, Act.put, List.setIfInBounds_toArray, List.set_cons_succ, List.set_cons_zero, List.drop_succ_cons, List.drop_zero, List.take_zero]
      go_upto_region 5 with fail
      have z0 := HH.out.cell 0 rfl
      have z1 := HH.out.cell 1 rfl
      have z2 := HH.out.cell 2 rfl
      have z3 := HH.out.cell 3 rfl
      have z4 := HH.out.cell 4 rfl
      have z5 := HH.out.cell 5 rfl
      have z6 := HH.out.cell 6 rfl
      have z7 := HH.out.cell 7 rfl
      have z8 := HH.out.cell 8 rfl
      refine wp_region_rely_tail 5 [fx (.pointer (some ⟨H, 0, none⟩)), fx (.int .i64 1), fx (.pointer (some ⟨H, 1, none⟩)), fx (clVal h b), clNew (wd.heap.size ≤ ·) h.erase b.erase]
        (by kernel_rfl) (by kernel_rfl) (by decide) (by repeat (first | exact Stable.nil | refine Stable.fix ?_ | refine Stable.cons clNew_stable ?_)) ?_ ?_
      · refine ⟨?_, ?_, ?_, ?_, ?a4, trivial⟩
        all_goals
          intro a wr hg hold
          have h5 : a.tmps[5]?.getD undef = .pointer (some ⟨H, 0, none⟩) := hold 5 rfl
          clear hold
          have x0 := Gr.at hg z0
          have x1 := Gr.at hg z1
          have x2 := Gr.at hg z2
          have x3 := Gr.at hg z3
          have x4 := Gr.at hg z4
          have x5 := Gr.at hg z5
          have x6 := Gr.at hg z6
          have x7 := Gr.at hg z7
          have x8 := Gr.at hg z8
          clear z0 z1 z2 z3 z4 z5 z6 z7 z8
          simp [predsImp, Region.binds, dstAt, fx, wantedE, Act.eval]
          intros
          first
            | (rw [if_pos (by simp [*])]
               intro K hK)
            | (rename_i K hK)
          go_simp
        case a4 =>
          refine (copied_calls h b wr (Tm.In_below hg IH2.out) (Tm.In_below hg IB2.out) FH.out FB.out).mono ?_
          rintro e w10 ⟨h2, b2, rfl, i1, i2, j1, j2, o1, o2, hg2⟩
          exact hK _ _ ⟨h2, b2, rfl, i1, i2, j1, j2, o1.mono fun x hx => Nat.le_trans hg.size hx, o2.mono fun x hx => Nat.le_trans hg.size hx⟩ hg2
        all_goals exact hK _ _ rfl (Gr.rfl' _)
      · intro we hg
        rintro _ rfl _ rfl _ rfl _ rfl _ ⟨h2, b2, rfl, _⟩
        replace kw := kw.trans (Kp.of_gr hg)
        replace HR := Lib.hid (HR.out.gr hg)
        replace HBl := Lib.hid (HBl.out.gr hg)
        clear hg z0 z1 z2 z3 z4 z5 z6 z7 z8
        obtain ⟨y0, y1, y2, y3, y4, y5, y6, y7⟩ := HR.out.cells
        obtain ⟨f0, f1, f2, f3, f4, f5, f6, f7⟩ := HR.out.open_
        simp only [finAll, Act.put, List.setIfInBounds_toArray, List.set_cons_succ, List.set_cons_zero, clVal_four, List.drop_succ_cons, List.drop_zero, List.take_zero]
        go_wp2_with fail
        have hfin : Hid (∀ W, Kp (fun x => x = w.heap.size) we W → Q (.returned (.tuple #[.int .i64 1, clVal h2 b2, .bool true])) W) := fun W hK =>
          hR.out h2 b2 W ⟨q, _, _, _, _, _, HBl.out.kp hK (by omega)⟩ (Kp.weaken (fun x hx h => by rcases h with h | h; exact h; omega) ((kw.mono (C' := fun x => x = V ∨ x = w.heap.size) fun x hx => .inl hx).trans (hK.mono fun x hx => .inr hx)))
        refine bodyPost_ret (v := .tuple #[.int .i64 1, clVal h2 b2, .bool true]) (by simp (maxDischargeDepth := 9) [results, Try.results120, go_sem, clVal, y0, y1, y2, y3, y4, y5, y6, y7]) rfl ?_
        exact hfin.out _ ((Kp.set4 (C := fun x => x = w.heap.size) rfl).trans (Kp.set4 (C := fun x => x = w.heap.size) rfl))

set_option maxHeartbeats 2000000 in
set_option maxRecDepth 100000 in
theorem next_end (V : Nat) (q : Option Addr) (c : Nat) (g0 g1 g2 g3 : Value) (w : World) (hB : BlkT w V 162 #[.slice q 0 c, g0, g1, g2, g3]) :
    Calls Try.prog 120 #[.pointer (some ⟨V, 0, none⟩)] w fun e w' => e = .returned (.tuple #[.int .i64 0, clVal zeroTm zeroTm, .bool false]) ∧ Gr w w' := by
  have hR : Hid (∀ (w' : World), Gr w w' → (fun (e : Ending) (w' : World) => e = .returned (.tuple #[.int .i64 0, clVal zeroTm zeroTm, .bool false]) ∧ Gr w w') (.returned (.tuple #[.int .i64 0, clVal zeroTm zeroTm, .bool false])) w') := fun w' h => ⟨rfl, h⟩
  generalize hQ : (fun (e : Ending) (w' : World) => e = .returned (.tuple #[.int .i64 0, clVal zeroTm zeroTm, .bool false]) ∧ Gr w w') = Q at hR ⊢
  clear hQ
  have HBl := Lib.hid hB
  clear hB
  go_enter Try.func120, Try.ntmps120
  try simp only [List.append_eq, List.cons_append, List.nil_append]
  go_upto_region 1 with fail
  have hN : Blk8 (w.alloc (.cells #[.int .i64 0, .int .i64 0, .string ⟨#[]⟩, .slice none 0 0, .int .i64 0, .int .i64 0, .string ⟨#[]⟩, .slice none 0 0] 57)) w.heap.size (.int .i64 0) (.int .i64 0) (.string ⟨#[]⟩) (.slice none 0 0) (.int .i64 0) (.int .i64 0) (.string ⟨#[]⟩) (.slice none 0 0) := heap_alloc_new _ _
  have gA : Gr w (w.alloc (.cells #[.int .i64 0, .int .i64 0, .string ⟨#[]⟩, .slice none 0 0, .int .i64 0, .int .i64 0, .string ⟨#[]⟩, .slice none 0 0] 57)) := by go_grown
  generalize w.alloc (.cells #[.int .i64 0, .int .i64 0, .string ⟨#[]⟩, .slice none 0 0, .int .i64 0, .int .i64 0, .string ⟨#[]⟩, .slice none 0 0] 57) = wA at *
  have HR := Lib.hid hN
  clear hN
  have v0 := (HBl.out.gr gA).cell 0 (v := .slice q 0 c) rfl
  obtain ⟨y0, y1, y2, y3, y4, y5, y6, y7⟩ := HR.out.cells
  obtain ⟨f0, f1, f2, f3, f4, f5, f6, f7⟩ := HR.out.open_
  go_wp2_with fail
  go_loopg [4] 0 (fun _ x wr => x = .bool false ∧ wA = wr)
  case atStart => exact ⟨rfl, rfl⟩
  case round =>
    obtain ⟨rfl, rfl⟩ := hrel
    go_wp2_with fail
    refine bodyPost_ret (v := .tuple #[.int .i64 0, clVal zeroTm zeroTm, .bool false]) (by simp (maxDischargeDepth := 9) [results, Try.results120, go_sem, clVal, zeroTm, Tm.k, Tm.n, Tm.s, Tm.p, Tm.c, Tm.l, y0, y1, y2, y3, y4, y5, y6, y7]) rfl ?_
    exact hR.out _ (by go_grown)
end Go.Proofs.Ytgaijgadeodoeaa
