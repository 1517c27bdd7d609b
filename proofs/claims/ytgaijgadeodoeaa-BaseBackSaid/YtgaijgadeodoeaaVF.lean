/-
  base.plain
-/
import Derived.Test.YtgaijgadeodoeaaVE
namespace Go.Proofs.Ytgaijgadeodoeaa
open Go.RowKit

theorem blocks84 (w : World) (u0 u1 u2 u3 u4 u5 u6 u7 v0 v1 v2 v3 : Value) :
    Hid (Blk8 ((w.alloc (.cells #[u0, u1, u2, u3, u4, u5, u6, u7] 57)).alloc (.cells #[v0, v1, v2, v3] 28)) w.heap.size u0 u1 u2 u3 u4 u5 u6 u7) ∧
    Hid (Blk4 ((w.alloc (.cells #[u0, u1, u2, u3, u4, u5, u6, u7] 57)).alloc (.cells #[v0, v1, v2, v3] 28)) (w.heap.size + 1) v0 v1 v2 v3) ∧
    Gr w ((w.alloc (.cells #[u0, u1, u2, u3, u4, u5, u6, u7] 57)).alloc (.cells #[v0, v1, v2, v3] 28)) := by
  have h1 : Blk8 (w.alloc (.cells #[u0, u1, u2, u3, u4, u5, u6, u7] 57)) w.heap.size u0 u1 u2 u3 u4 u5 u6 u7 := heap_alloc_new _ _
  have h2 := Blk4.new (w.alloc (.cells #[u0, u1, u2, u3, u4, u5, u6, u7] 57)) v0 v1 v2 v3
  rw [World.size_alloc] at h2
  exact ⟨h1.gr (by go_grown), h2, by go_grown⟩

theorem clVal_eq (h b : Tm) : clVal h b = .agg #[.int .i64 h.k, .int .i64 h.n, .string h.s, .slice h.p h.l.length h.c, .int .i64 b.k, .int .i64 b.n, .string b.s, .slice b.p b.l.length b.c] := rfl

/-- A term in memory is handed back. -/
def RetT (t : T) (w : World) (e : Ending) (w' : World) : Prop := ∃ bm : Tm, bm.In w' ∧ bm.erase = t ∧ e = .returned bm.val ∧ Gr w w'

set_option maxHeartbeats 2000000 in
set_option maxRecDepth 100000 in
theorem plain_calls (h b : Tm) (w : World) (hh : h.In w) (hb : b.In w) : Calls Try.prog 85 #[clVal h b] w (RetT (clauseT h.erase b.erase) w) := by
  have Hh := Lib.hid hh
  have Hb := Lib.hid hb
  have hR : Hid (∀ bm : Tm, bm.erase = clauseT h.erase b.erase → ∀ w', bm.In w' → Gr w w' → RetT (clauseT h.erase b.erase) w (.returned bm.val) w') := fun bm he w' hi hg => ⟨bm, hi, he, rfl, hg⟩
  have hC := Lib.hid (show clauseT h.erase b.erase = if b.erase.isOf sTrue 0 then h.erase else compT sNeck [h.erase, b.erase] from rfl)
  generalize clauseT h.erase b.erase = r at *
  generalize hQ : RetT r w = Q at *
  clear hQ hh hb
  have Hhv := Lib.hid (show h.val = .agg #[.int .i64 h.k, .int .i64 h.n, .string h.s, .slice h.p h.l.length h.c] from rfl)
  have Hbv := Lib.hid (show b.val = .agg #[.int .i64 b.k, .int .i64 b.n, .string b.s, .slice b.p b.l.length b.c] from rfl)
  have HN := Lib.hid (show b.erase.isOf (ByteArray.mk #[116, 114, 117, 101]).toList 0 = b.erase.isOf sTrue 0 by rw [blTrue])
  rw [clVal_eq]
  go_enter Try.func85, Try.ntmps85
  try simp only [List.append_eq, List.cons_append, List.nil_append]
  go_upto_region 1 with fail
  obtain ⟨HB, HR, gA⟩ := blocks84 w (.int .i64 h.k) (.int .i64 h.n) (.string h.s) (.slice h.p h.l.length h.c) (.int .i64 b.k) (.int .i64 b.n) (.string b.s) (.slice b.p b.l.length b.c) (.int .i64 0) (.int .i64 0) (.string ⟨#[]⟩) (.slice none 0 0)
  generalize (w.alloc (.cells #[.int .i64 h.k, .int .i64 h.n, .string h.s, .slice h.p h.l.length h.c, .int .i64 b.k, .int .i64 b.n, .string b.s, .slice b.p b.l.length b.c] 57)).alloc (.cells #[.int .i64 0, .int .i64 0, .string ⟨#[]⟩, .slice none 0 0] 28) = wA at *
  have hszA : w.heap.size + 1 < wA.heap.size := HR.out.parts.2.2
  obtain ⟨c0, c1, c2, c3, c4, c5, c6, c7⟩ := HB.out.cells
  cases hj : b.erase.isOf sTrue 0 with
  | true =>
    replace HN := Lib.hid (HN.out.trans hj)
    have hr : Hid (h.erase = r) := by show _ = _; rw [hC.out, hj]; rfl
    clear hj
    go_wp2_with (first
      | (go_at_call 65; rewrite [← Hbv.out]; refine (is_calls _ _ _ _).mono ?_; rintro e w2 ⟨rfl, hb⟩; rewrite [HN.out]; have g2 := gA.trans hb; obtain ⟨⟨y0, y1, y2, y3⟩, ⟨f0, f1, f2, f3⟩, hlt⟩ := (HR.out.gr hb).parts; have HB2 := Lib.hid (HB.out.gr hb); clear hb c0 c1 c2 c3 c4 c5 c6 c7; obtain ⟨c0, c1, c2, c3, c4, c5, c6, c7⟩ := HB2.out.cells)
      | fail)
    refine bodyPost_ret (v := h.val) (by simp (maxDischargeDepth := 9) [results, Try.results85, go_sem, Tm.val, y0, y1, y2, y3]) rfl ?_
    have hg : Gr w ((((w2.setCell ⟨w.heap.size + 1, 0, none⟩ (.int .i64 h.k)).setCell ⟨w.heap.size + 1, 1, none⟩ (.int .i64 h.n)).setCell ⟨w.heap.size + 1, 2, none⟩ (.string h.s)).setCell ⟨w.heap.size + 1, 3, none⟩ (.slice h.p h.l.length h.c)) := by go_grown
    exact hR.out h hr.out _ (Tm.In_below hg Hh.out) hg
  | false =>
    replace HN := Lib.hid (HN.out.trans hj)
    have hr : Hid (compT sNeck [h.erase, b.erase] = r) := by show _ = _; rw [hC.out, hj]; rfl
    clear hj
    go_wp2_with (first
      | (go_at_call 65; rewrite [← Hbv.out]; refine (is_calls _ _ _ _).mono ?_; rintro e w2 ⟨rfl, hb⟩; rewrite [HN.out]; have g2 := gA.trans hb; have HR2 := Lib.hid (HR.out.gr hb); have HB2 := Lib.hid (HB.out.gr hb); clear hb c0 c1 c2 c3 c4 c5 c6 c7; obtain ⟨c0, c1, c2, c3, c4, c5, c6, c7⟩ := HB2.out.cells)
      | (go_at_call 73; refine (comp_calls _ _ _ _ _).mono ?_; rintro e w3 ⟨rfl, hb⟩; have hsl := Lib.hid (two_new (t := h) (u := b) (Tm.In_below g2 Hh.out) (Tm.In_below g2 Hb.out) hb); have gb : Gr w2 w3 := below_step hb (by go_grown); obtain ⟨⟨y0, y1, y2, y3⟩, ⟨f0, f1, f2, f3⟩, hlt⟩ := (HR2.out.gr gb).parts; have g3 := g2.trans gb; clear hb c0 c1 c2 c3 c4 c5 c6 c7)
      | fail)
    refine bodyPost_ret (v := (compTm ⟨#[58, 45]⟩ (some ⟨w2.heap.size, 0, none⟩) 2 [h, b]).val) (by simp (maxDischargeDepth := 9) [results, Try.results85, go_sem, compTm, Tm.val, Tm.k, Tm.n, Tm.s, Tm.p, Tm.c, Tm.l, y0, y1, y2, y3]) rfl ?_
    have hs2 := g2.size
    have hR2 := HR2.out.parts.2.2
    refine hR.out (compTm ⟨#[58, 45]⟩ (some ⟨w2.heap.size, 0, none⟩) 2 [h, b]) (by rw [compTm, Tm.erase, Tm.eraseL, Tm.eraseL, Tm.eraseL, blNeck]; exact hr.out) _ ?_ (by go_grown)
    refine in_after' (S := fun x => x ≠ w.heap.size + 1) (compTm_in (by decide) hsl.out) ?_ fun x h1 h2 o => by rw [cell_set_ne h1, cell_set_ne h1, cell_set_ne h1, cell_set_ne h1]
    rw [compTm, Tm.On, Tm.OnL, Tm.OnL, Tm.OnL]
    exact ⟨.inr ⟨_, _, rfl, by omega⟩, Hh.out.on.mono fun x hx => by omega, Hb.out.on.mono fun x hx => by omega, trivial⟩

end Go.Proofs.Ytgaijgadeodoeaa
