/-
  Blocks of any type; base.New, base.of, base.copied.
  slices.Grow, slices.Concat and slices.Insert where a base has its first clause.
  slices.Concat and slices.Insert where a base has its first clause.
-/
import Derived.Test.YtjdoflfdlhpbmaaDoorBP08
import Derived.Test.YtjdoflfdlhpbmaaDoorBP06
import Derived.Test.YtjdoflfdlhpbmaaDoorBP02
import Derived.Lib.AppendZeros
import Derived.Deep.LoopGhost
import Derived.Deep.CutRange
import Derived.Deep.CutBlock
import Derived.Deep.Light
namespace Go.Proofs.YtjdoflfdlhpbmaaDoor
open Go.RowKit Go.Maps

theorem blocks88 (w : World) (v0 v1 v2 v3 v4 v5 v6 v7 u0 u1 u2 u3 u4 u5 u6 u7 : Value) :
    Hid (Blk8 ((w.alloc (.cells #[v0, v1, v2, v3, v4, v5, v6, v7] 36)).alloc (.cells #[u0, u1, u2, u3, u4, u5, u6, u7] 36)) w.heap.size v0 v1 v2 v3 v4 v5 v6 v7) ∧
    Hid (Blk8 ((w.alloc (.cells #[v0, v1, v2, v3, v4, v5, v6, v7] 36)).alloc (.cells #[u0, u1, u2, u3, u4, u5, u6, u7] 36)) (w.heap.size + 1) u0 u1 u2 u3 u4 u5 u6 u7) ∧
    Gr w ((w.alloc (.cells #[v0, v1, v2, v3, v4, v5, v6, v7] 36)).alloc (.cells #[u0, u1, u2, u3, u4, u5, u6, u7] 36)) := by
  have h0 : Blk8 (w.alloc (.cells #[v0, v1, v2, v3, v4, v5, v6, v7] 36)) w.heap.size v0 v1 v2 v3 v4 v5 v6 v7 := heap_alloc_new _ _
  have h1 : Blk8 ((w.alloc (.cells #[v0, v1, v2, v3, v4, v5, v6, v7] 36)).alloc (.cells #[u0, u1, u2, u3, u4, u5, u6, u7] 36)) (w.alloc (.cells #[v0, v1, v2, v3, v4, v5, v6, v7] 36)).heap.size u0 u1 u2 u3 u4 u5 u6 u7 := heap_alloc_new _ _
  rw [World.size_alloc] at h1
  exact ⟨h0.gr (by go_grown), h1, by go_grown⟩

/-- The value is a clause of such two terms. -/
def clNew (S : Nat → Prop) (t u : T) : VP := fun v w => ∃ h b : Tm, v = clVal h b ∧ h.In w ∧ b.In w ∧ h.erase = t ∧ b.erase = u ∧ h.On S ∧ b.On S
theorem clNew_stable {S : Nat → Prop} {t u : T} : ∀ v w w', clNew S t u v w → Gr w w' → clNew S t u v w' := fun _ _ _ ⟨h, b, h1, h2, h3, h4⟩ hg => ⟨h, b, h1, Tm.In_below hg h2, Tm.In_below hg h3, h4⟩
theorem clVal_four (h b : Tm) : clVal h b = .agg #[.int .i64 h.k, .int .i64 h.n, .string h.s, .slice h.p h.l.length h.c, .int .i64 b.k, .int .i64 b.n, .string b.s, .slice b.p b.l.length b.c] := rfl

/-- A clause in memory of its own is handed back. -/
def RetCl (S : Nat → Prop) (t u : T) (w : World) (e : Ending) (w' : World) : Prop := ∃ h b : Tm, e = .returned (clVal h b) ∧ h.In w' ∧ b.In w' ∧ h.erase = t ∧ b.erase = u ∧ h.On S ∧ b.On S ∧ Gr w w'

set_option maxHeartbeats 2000000 in
set_option maxRecDepth 100000 in
theorem copied_calls (h b : Tm) (w : World) (hh : h.In w) (hb : b.In w) (fh : h.erase.formed = true) (fb : b.erase.formed = true) : Calls Tryd.prog 65 #[clVal h b] w (RetCl (w.heap.size ≤ ·) h.erase b.erase w) := by
  have Hh := Lib.hid hh
  have Hb := Lib.hid hb
  have Fh := Lib.hid fh
  have Fb := Lib.hid fb
  have hR : Hid (∀ (hm bm : Tm) (w' : World), hm.In w' → bm.In w' → hm.erase = h.erase → bm.erase = b.erase → hm.On (w.heap.size ≤ ·) → bm.On (w.heap.size ≤ ·) → Gr w w' → RetCl (w.heap.size ≤ ·) h.erase b.erase w (.returned (clVal hm bm)) w') := fun hm bm w' h1 h2 h3 h4 h5 h6 hg => ⟨hm, bm, rfl, h1, h2, h3, h4, h5, h6, hg⟩
  generalize hQ : RetCl (w.heap.size ≤ ·) h.erase b.erase w = Q at *
  clear hQ hh hb fh fb
  rw [clVal_eq]
  go_enter Tryd.func65, Tryd.ntmps65
  try simp only [List.append_eq, List.cons_append, List.nil_append]
  go_upto_region 1 with fail
  obtain ⟨HB, HR, gA⟩ := blocks88 w (.int .i64 h.k) (.int .i64 h.n) (.string h.s) (.slice h.p h.l.length h.c) (.int .i64 b.k) (.int .i64 b.n) (.string b.s) (.slice b.p b.l.length b.c) (.int .i64 0) (.int .i64 0) (.string ⟨#[]⟩) (.slice none 0 0) (.int .i64 0) (.int .i64 0) (.string ⟨#[]⟩) (.slice none 0 0)
  generalize (w.alloc (.cells #[.int .i64 h.k, .int .i64 h.n, .string h.s, .slice h.p h.l.length h.c, .int .i64 b.k, .int .i64 b.n, .string b.s, .slice b.p b.l.length b.c] 36)).alloc (.cells #[.int .i64 0, .int .i64 0, .string ⟨#[]⟩, .slice none 0 0, .int .i64 0, .int .i64 0, .string ⟨#[]⟩, .slice none 0 0] 36) = w1 at *
  obtain ⟨c0, c1, c2, c3, c4, c5, c6, c7⟩ := HB.out.cells
  have hltR := HR.out.lt
  refine wp_region_rely_tail 7 [fx (.pointer (some ⟨w.heap.size, 0, none⟩)), fx h.val, tmIs (w1.heap.size ≤ ·) h.erase, fx (.pointer (some ⟨w.heap.size, 4, none⟩)), fx b.val, tmIs (w1.heap.size ≤ ·) b.erase, clNew (w1.heap.size ≤ ·) h.erase b.erase]
    (by kernel_rfl) (by kernel_rfl) (by decide) (by repeat (first | exact Stable.nil | refine Stable.fix ?_ | refine Stable.cons tmIs_stable ?_ | refine Stable.cons clNew_stable ?_)) ?_ ?_
  · refine ⟨?_, ?_, ?a2, ?_, ?_, ?a5, ?a6, trivial⟩
    all_goals
      intro a wr hg hold
      have h1 : a.tmps[1]?.getD undef = .pointer (some ⟨w.heap.size, 0, none⟩) := hold 1 rfl
      clear hold
      have z0 := Gr.at hg c0
      have z1 := Gr.at hg c1
      have z2 := Gr.at hg c2
      have z3 := Gr.at hg c3
      have z4 := Gr.at hg c4
      have z5 := Gr.at hg c5
      have z6 := Gr.at hg c6
      have z7 := Gr.at hg c7
      have gr1 : Gr w wr := gA.trans hg
      clear c0 c1 c2 c3 c4 c5 c6 c7
      simp [predsImp, Region.binds, dstAt, fx]
      intros
      first
        | (rw [if_pos (by simp [*])]
           intro K hK)
        | (rename_i K hK)
      go_simp
    case a2 =>
      refine (copy_calls (t := h) (Tm.In_below gr1 Hh.out) Fh.out).mono ?_
      rintro e w10 ⟨z, i1, i2, rfl, ib, i3⟩
      exact hK _ _ ⟨z, rfl, i1, i2, i3.mono fun b hb => Nat.le_trans hg.size hb⟩ ib
    case a5 =>
      refine (copy_calls (t := b) (Tm.In_below gr1 Hb.out) Fb.out).mono ?_
      rintro e w10 ⟨z, i1, i2, rfl, ib, i3⟩
      exact hK _ _ ⟨z, rfl, i1, i2, i3.mono fun b hb => Nat.le_trans hg.size hb⟩ ib
    case a6 =>
      have hp : tmIs (w1.heap.size ≤ ·) h.erase (a.tmps[5]?.getD undef) wr := by assumption
      have hq : tmIs (w1.heap.size ≤ ·) b.erase (a.tmps[8]?.getD undef) wr := by assumption
      obtain ⟨r1, e1, i1, j1, o1⟩ := hp
      obtain ⟨r2, e2, i2, j2, o2⟩ := hq
      rw [e1, e2]
      simp only [Tm.val]
      go_simp
      exact hK _ _ ⟨r1, r2, rfl, i1, i2, j1, j2, o1, o2⟩ (Gr.rfl' _)
    all_goals exact hK _ _ rfl (Gr.rfl' _)
  · intro wr hg
    have gr1 : Gr w wr := gA.trans hg
    obtain ⟨y0, y1, y2, y3, y4, y5, y6, y7⟩ := (HR.out.gr hg).cells
    obtain ⟨f0, f1, f2, f3, f4, f5, f6, f7⟩ := (HR.out.gr hg).open_
    rintro _ rfl _ rfl _ ⟨_, rfl, _, _, _⟩ _ rfl _ rfl _ ⟨_, rfl, _, _, _⟩ _ ⟨r1, r2, rfl, i1, i2, j1, j2, o1, o2⟩
    have hs1 := gA.size
    have hsg := hg.size
    have I1 := Lib.hid i1
    have I2 := Lib.hid i2
    have J1 := Lib.hid j1
    have J2 := Lib.hid j2
    have O1 := Lib.hid o1
    have O2 := Lib.hid o2
    clear i1 i2 j1 j2 o1 o2 c0 c1 c2 c3 c4 c5 c6 c7
    simp only [finAll, Act.put, List.setIfInBounds_toArray, List.set_cons_succ, List.set_cons_zero, clVal_four, List.drop_succ_cons, List.drop_zero, List.take_zero]
    have hfin : Hid (∀ W, Kp (fun b => b = w.heap.size + 1) wr W → Q (.returned (clVal r1 r2)) W) := by
      intro W hK
      refine hR.out r1 r2 W (in_after' I1.out O1.out fun b h1 hb o => World.cell?_of_block (hK.block b hb (by omega))) (in_after' I2.out O2.out fun b h1 hb o => World.cell?_of_block (hK.block b hb (by omega))) J1.out J2.out (O1.out.mono fun b hb => by omega) (O2.out.mono fun b hb => by omega) (Below.trans gr1 (hK.below (B := w.heap.size) (fun b hb => by omega) (by omega)))
    go_wp2_with fail
    refine bodyPost_ret (v := clVal r1 r2) (by simp (maxDischargeDepth := 9) [results, Tryd.results65, go_sem, clVal, y0, y1, y2, y3, y4, y5, y6, y7]) rfl ?_
    exact hfin.out _ ((Kp.set4 (C := fun b => b = w.heap.size + 1) rfl).trans (Kp.set4 (C := fun b => b = w.heap.size + 1) rfl))

set_option maxRecDepth 100000 in
theorem of_calls (t : Tm) (w : World) : Calls Tryd.prog 63 #[t.val] w (Ret (.agg #[.string t.s, .int .i64 t.l.length]) w) := by
  have hR : Hid (∀ w', Gr w w' → Ret (.agg #[.string t.s, .int .i64 t.l.length]) w (.returned (.agg #[.string t.s, .int .i64 t.l.length])) w') := fun w' hg => ⟨rfl, hg⟩
  generalize hQ : Ret (.agg #[.string t.s, .int .i64 t.l.length]) w = Q at hR ⊢
  clear hQ
  simp only [Tm.val]
  go_enter Tryd.func63, Tryd.ntmps63
  go_wp2_with fail
  exact bodyPost_ret (v := .agg #[.string t.s, .int .i64 t.l.length]) (by simp (maxDischargeDepth := 9) [results, Tryd.results63, go_sem]) rfl (hR.out _ (by go_grown))

/-- A new base: its world. -/
theorem new_calls (w : World) : Calls Tryd.prog 6 #[] w fun e w' => e = .returned (.pointer (some ⟨w.heap.size + 1 + 1, 0, none⟩)) ∧
    w' = ((w.alloc (.map #[] 0)).alloc (.map #[] 0)).alloc (.cells #[.int .i64 0, .slice none 0 0, .map (some w.heap.size), .map (some (w.heap.size + 1))] 61) := by
  have hmm := @run_makeMap Tryd.prog
  go_enter Tryd.func6, Tryd.ntmps6
  go_wp2_with fail
  exact bodyPost_ret (v := .pointer (some ⟨w.heap.size + 1 + 1, 0, none⟩)) (by simp [results, Tryd.results6, go_sem]) rfl ⟨rfl, rfl⟩
end Go.Proofs.YtjdoflfdlhpbmaaDoor

namespace Go.Proofs.YtjdoflfdlhpbmaaDoor
open Go.RowKit Go.Maps Go.Lib


theorem infoHeld : (Tryd.prog.info? 115).map (fun i => (i.zero, i.size, i.bytes)) = some (some (.agg #[.int .i64 0, .int .i64 0, .int .i64 0, .string ⟨#[]⟩, .slice none 0 0, .int .i64 0, .int .i64 0, .string ⟨#[]⟩, .slice none 0 0]), 9, 120) := by kernel_rfl
abbrev HD : TypeId := 115

end Go.Proofs.YtjdoflfdlhpbmaaDoor

namespace Go.Proofs.YtjdoflfdlhpbmaaDoor
open Go.RowKit Go.Maps Go.Lib

theorem row_form {w : World} {base size n : Nat} {e : TypeId} {v : Value} {xs : List Value} (h : w.ownsRow base e size v n xs) : ∃ q cp, v = .slice q n cp ∧ n ≤ cp := by
  rcases h.2 with ⟨rfl, rfl⟩ | ⟨g, cap, cur, rfl, _, _, h, _⟩
  · exact ⟨none, 0, rfl, Nat.le_refl _⟩
  · exact ⟨_, _, rfl, h⟩

end Go.Proofs.YtjdoflfdlhpbmaaDoor
