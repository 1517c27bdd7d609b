/-
  base.Plain
  slices.Insert and (*base.Base).Add where the base is new.
  (*base.Base).Add where the base is new.
  (*base.Base).Get where the base has one clause.
  base.lets without Args, (*base.View).Next of one clause.
  A clause, as a term, makes the same clause (no program here).
  Facts for the bases that the laws make (no program here).
  slices.Grow and slices.Concat at lists of what a base holds.
-/
import Derived.Test.YtjdoflfdlhpbmaaDoorBP08
import Derived.Test.YtjdoflfdlhpbmaaDoorBP10
import Derived.Test.YtjdoflfdlhpbmaaDoorBP09
import Derived.Deep.QuietTactic
import Derived.BigRegion
import Derived.Test.YtjdoflfdlhpbmaaDoorBP04
namespace Go.Proofs.YtjdoflfdlhpbmaaDoor
open Go.RowKit

def plainAns (h b : T) : T × Int := (if plainErr reserved h b = 0 then clauseT h b else zeroT, plainErr reserved h b)
theorem plainAns_bad {h b : T} {E : Int} (hE : plainErr reserved h b = E) (h0 : E ≠ 0) : plainAns h b = (zeroT, E) := by rw [plainAns, hE, if_neg h0]
theorem plainAns_ok {h b : T} (hE : plainErr reserved h b = 0) : plainAns h b = (clauseT h b, 0) := by rw [plainAns, hE, if_pos rfl]

set_option maxHeartbeats 8000000 in
set_option maxRecDepth 100000 in
theorem Plain_calls (h b : Tm) (w : World) (hh : h.In w) (hb : b.In w) : Calls Tryd.prog 62 #[clVal h b] w (RetTE (plainAns h.erase b.erase) w) := by
  have Hh := Lib.hid hh
  have Hb := Lib.hid hb
  have hR0 : Hid (∀ E : Int, plainErr reserved h.erase b.erase = E → E ≠ 0 → ∀ w', Gr w w' → RetTE (plainAns h.erase b.erase) w (.returned (.tuple #[zeroTm.val, .int .i64 E])) w') := fun E hE h0 w' hg => by rw [plainAns_bad hE h0]; exact ⟨zeroTm, rfl, zeroTm_in _, zeroTm_erase, hg⟩
  have hR1 : Hid (plainErr reserved h.erase b.erase = 0 → ∀ (bm : Tm), bm.erase = clauseT h.erase b.erase → ∀ w', bm.In w' → Gr w w' → RetTE (plainAns h.erase b.erase) w (.returned (.tuple #[bm.val, .int .i64 0])) w') := fun hE bm he w' hi hg => by rw [plainAns_ok hE]; exact ⟨bm, rfl, hi, he, hg⟩
  have hPE := Lib.hid (show plainErr reserved h.erase b.erase = if h.erase.formed && b.erase.formed then (match T.make reserved (clauseT h.erase b.erase) with
    | none => 7
    | some (h', b') => if T.same h' h.erase && T.same b' b.erase then 0 else 7) else 2 from rfl)
  generalize hQ : RetTE (plainAns h.erase b.erase) w = Q at *
  clear hQ hh hb
  generalize plainErr reserved h.erase b.erase = E at *
  have hfl : Hid (T.formedL (Tm.eraseL [h, b]) = (h.erase.formed && b.erase.formed)) := by show _ = _; rw [Tm.eraseL, Tm.eraseL, Tm.eraseL, T.formedL, T.formedL, T.formedL, Bool.and_true]
  have Hcv := Lib.hid (clVal_eq h b)
  have Hhv := Lib.hid (show h.val = .agg #[.int .i64 h.k, .int .i64 h.n, .string h.s, .slice h.p h.l.length h.c] from rfl)
  have Hbv := Lib.hid (show b.val = .agg #[.int .i64 b.k, .int .i64 b.n, .string b.s, .slice b.p b.l.length b.c] from rfl)
  rw [clVal_eq]
  go_enter Tryd.func62, Tryd.ntmps62
  try simp only [List.append_eq, List.cons_append, List.nil_append]
  go_upto_region 1 with fail
  obtain ⟨HB, HR, gA⟩ := blocks84 w (.int .i64 h.k) (.int .i64 h.n) (.string h.s) (.slice h.p h.l.length h.c) (.int .i64 b.k) (.int .i64 b.n) (.string b.s) (.slice b.p b.l.length b.c) (.int .i64 0) (.int .i64 0) (.string ⟨#[]⟩) (.slice none 0 0)
  generalize (w.alloc (.cells #[.int .i64 h.k, .int .i64 h.n, .string h.s, .slice h.p h.l.length h.c, .int .i64 b.k, .int .i64 b.n, .string b.s, .slice b.p b.l.length b.c] 36)).alloc (.cells #[.int .i64 0, .int .i64 0, .string ⟨#[]⟩, .slice none 0 0] 34) = wA at *
  have hszA : w.heap.size + 1 < wA.heap.size := HR.out.parts.2.2
  obtain ⟨c0, c1, c2, c3, c4, c5, c6, c7⟩ := HB.out.cells
  cases hf : (h.erase.formed && b.erase.formed) with
  | false =>
    have hv := Lib.hid (hR0.out 2 (by rw [hPE.out, hf]; rfl) (by decide))
    have hff := Lib.hid (hfl.out.trans hf)
    clear hf
    go_wp2_with (first
      | (go_at_call 31; refine (all_calls (two_new (t := h) (u := b) (Tm.In_below gA Hh.out) (Tm.In_below gA Hb.out) (Gr.rfl' _))).mono ?_; rintro e w' ⟨rfl, hb⟩; rewrite [hff.out]; have g2 : Gr wA w' := below_step hb (by go_grown); obtain ⟨⟨y0, y1, y2, y3⟩, ⟨f0, f1, f2, f3⟩, hlt⟩ := (HR.out.gr g2).parts; clear hb c0 c1 c2 c3 c4 c5 c6 c7)
      | fail)
    exact bodyPost_ret (by simp (maxDischargeDepth := 9) [results, Tryd.results62, go_sem, zeroTm, Tm.val, Tm.k, Tm.n, Tm.s, Tm.p, Tm.c, Tm.l, y0, y1, y2, y3]) rfl (hv.out _ (by have := gA.trans g2; go_grown))
  | true =>
    have hff := Lib.hid (hfl.out.trans hf)
    have Hf := Lib.hid (Bool.and_eq_true_iff.1 hf)
    have Hcf := Lib.hid (clause_formed Hf.out.1 Hf.out.2)
    have hPE2 : Hid (E = match T.make reserved (clauseT h.erase b.erase) with
      | none => 7
      | some (h', b') => if T.same h' h.erase && T.same b' b.erase then 0 else 7) := by show _ = _; rw [hPE.out, hf]; rfl
    clear hf
    go_upto_region 4 with (first
      | (go_at_call 31; refine (all_calls (two_new (t := h) (u := b) (Tm.In_below gA Hh.out) (Tm.In_below gA Hb.out) (Gr.rfl' _))).mono ?_; rintro e w' ⟨rfl, hb⟩; rewrite [hff.out]; have g2 : Gr wA w' := below_step hb (by go_grown); have HB2 := Lib.hid (HB.out.gr g2); have HR2 := Lib.hid (HR.out.gr g2); clear hb c0 c1 c2 c3 c4 c5 c6 c7; obtain ⟨c0, c1, c2, c3, c4, c5, c6, c7⟩ := HB2.out.cells)
      | (go_at_call 112; rewrite [← Hcv.out]; refine (plain_calls h b _ (Tm.In_below (gA.trans g2) Hh.out) (Tm.In_below (gA.trans g2) Hb.out)).mono ?_; rintro e w3 ⟨pm, hpi, hpe, rfl, hg⟩; have Hpi := Lib.hid hpi; have Hpe := Lib.hid hpe; have g3 := g2.trans hg; have HB3 := Lib.hid (HB2.out.gr hg); have HR3 := Lib.hid (HR2.out.gr hg); have Hpv := Lib.hid (show pm.val = .agg #[.int .i64 pm.k, .int .i64 pm.n, .string pm.s, .slice pm.p pm.l.length pm.c] from rfl); rewrite [Hpv.out]; clear hpi hpe hg c0 c1 c2 c3 c4 c5 c6 c7)
      | fail)
    have hK := Blk4.new w3 (.int .i64 pm.k) (.int .i64 pm.n) (.string pm.s) (.slice pm.p pm.l.length pm.c)
    have g4' : Gr w3 (w3.alloc (.cells #[.int .i64 pm.k, .int .i64 pm.n, .string pm.s, .slice pm.p pm.l.length pm.c] 34)) := by go_grown
    generalize w3.alloc (.cells #[.int .i64 pm.k, .int .i64 pm.n, .string pm.s, .slice pm.p pm.l.length pm.c] 34) = w4 at *
    have g4 := g3.trans g4'
    have HB4 := Lib.hid (HB3.out.gr g4')
    have HR4 := Lib.hid (HR3.out.gr g4')
    have HK4 := Lib.hid hK
    have Hp4 := Lib.hid (Tm.In_below g4' Hpi.out)
    clear hK g4'
    obtain ⟨⟨p0, p1, p2, p3⟩, _, _⟩ := HK4.out.parts
    go_upto_region 5 with (first
      | (go_at_call 113; rewrite [← Hpv.out]; refine (Make_calls pm w4 Hp4.out).mono ?_; rintro e w5 ⟨hm, bm, rfl, hmi, hbi, hme, hg⟩; rw [Hpe.out] at hme ⊢; have Hmi := Lib.hid hmi; have Hbi := Lib.hid hbi; have Hme := Lib.hid hme; have g5 := g4.trans hg; have HB5 := Lib.hid (HB4.out.gr hg); have HR5 := Lib.hid (HR4.out.gr hg); have HK5 := Lib.hid (HK4.out.gr hg); have Hp5 := Lib.hid (Tm.In_below hg Hp4.out); rewrite [clVal_eq]; clear hmi hbi hme hg p0 p1 p2 p3)
      | fail)
    have hD : Blk8 (w5.alloc (.cells #[.int .i64 hm.k, .int .i64 hm.n, .string hm.s, .slice hm.p hm.l.length hm.c, .int .i64 bm.k, .int .i64 bm.n, .string bm.s, .slice bm.p bm.l.length bm.c] 36)) w5.heap.size (.int .i64 hm.k) (.int .i64 hm.n) (.string hm.s) (.slice hm.p hm.l.length hm.c) (.int .i64 bm.k) (.int .i64 bm.n) (.string bm.s) (.slice bm.p bm.l.length bm.c) := heap_alloc_new _ _
    have g6' : Gr w5 (w5.alloc (.cells #[.int .i64 hm.k, .int .i64 hm.n, .string hm.s, .slice hm.p hm.l.length hm.c, .int .i64 bm.k, .int .i64 bm.n, .string bm.s, .slice bm.p bm.l.length bm.c] 36)) := by go_grown
    generalize w5.alloc (.cells #[.int .i64 hm.k, .int .i64 hm.n, .string hm.s, .slice hm.p hm.l.length hm.c, .int .i64 bm.k, .int .i64 bm.n, .string bm.s, .slice bm.p bm.l.length bm.c] 36) = w6 at *
    have g6 : Gr w w6 := (gA.trans g5).trans g6'
    have HB6 := Lib.hid (HB5.out.gr g6')
    have HR6 := Lib.hid (HR5.out.gr g6')
    have HK6 := Lib.hid (HK5.out.gr g6')
    have HD6 := Lib.hid hD
    have Hmi6 := Lib.hid (Tm.In_below g6' Hmi.out)
    have Hbi6 := Lib.hid (Tm.In_below g6' Hbi.out)
    have Hp6 := Lib.hid (Tm.In_below g6' Hp5.out)
    have Hmv := Lib.hid (show hm.val = .agg #[.int .i64 hm.k, .int .i64 hm.n, .string hm.s, .slice hm.p hm.l.length hm.c] from rfl)
    have Hbmv := Lib.hid (show bm.val = .agg #[.int .i64 bm.k, .int .i64 bm.n, .string bm.s, .slice bm.p bm.l.length bm.c] from rfl)
    clear hD g6'
    obtain ⟨c0, c1, c2, c3, c4, c5, c6, c7⟩ := HB6.out.cells
    obtain ⟨d0, d1, d2, d3, d4, d5, d6, d7⟩ := HD6.out.cells
    cases hmk : T.make reserved (clauseT h.erase b.erase) with
    | none =>
      have hv := Lib.hid (hR0.out 7 (by rw [hPE2.out, hmk]) (by decide))
      rewrite [makeAns_none Hcf.out hmk]
      clear hmk
      obtain ⟨⟨y0, y1, y2, y3⟩, ⟨f0, f1, f2, f3⟩, hlt⟩ := HR6.out.parts
      go_wp2_with fail
      exact bodyPost_ret (by simp (maxDischargeDepth := 9) [results, Tryd.results62, go_sem, zeroTm, Tm.val, Tm.k, Tm.n, Tm.s, Tm.p, Tm.c, Tm.l, y0, y1, y2, y3]) rfl (hv.out _ (by go_grown))
    | some hb' =>
      obtain ⟨h', b'⟩ := hb'
      have hme := Hme.out
      rw [makeAns_some Hcf.out hmk] at hme
      simp only [Prod.mk.injEq] at hme
      have hff2 := make_formed Hcf.out hmk
      have hE : Hid (E = if T.same h' h.erase && T.same b' b.erase then 0 else 7) := by show _ = _; rw [hPE2.out, hmk]
      rewrite [makeAns_some Hcf.out hmk]
      have Hq := Lib.hid hme
      have hz1 : Hid (T.order h.erase hm.erase = 0 ↔ h.erase = h') := by show _ ↔ _; rw [hme.1]; exact order_zero _ _ Hf.out.1 hff2.1
      have hz2 : Hid (T.order b.erase bm.erase = 0 ↔ b.erase = b') := by show _ ↔ _; rw [hme.2]; exact order_zero _ _ Hf.out.2 hff2.2
      generalize ho1 : T.order h.erase hm.erase = o1 at hz1
      generalize ho2 : T.order b.erase bm.erase = o2 at hz2
      have Ho1 := Lib.hid ho1
      have Ho2 := Lib.hid ho2
      clear hmk hme hff2 ho1 ho2
      by_cases e1 : o1 = 0
      · subst e1
        have h1 := hz1.out.1 rfl
        by_cases e2 : o2 = 0
        · subst e2
          have h2 := hz2.out.1 rfl
          have hv := Lib.hid (hR1.out (by rw [hE.out, ← h1, ← h2, (same_iff _ _).2 rfl, (same_iff _ _).2 rfl]; rfl))
          clear h1 h2
          go_wp2_with (first
            | (go_at_call 114; rewrite [← Hhv.out, ← Hmv.out]; refine (order_calls (t := h) (u := hm) (Tm.In_below g6 Hh.out) Hmi6.out).mono ?_; rw [Ho1.out]; rintro e w7 ⟨rfl, hb⟩; have HB7 := Lib.hid (HB6.out.gr hb); have HR7 := Lib.hid (HR6.out.gr hb); have HK7 := Lib.hid (HK6.out.gr hb); have HD7 := Lib.hid (HD6.out.gr hb); have g7 := g6.trans hb; have Hbi7 := Lib.hid (Tm.In_below hb Hbi6.out); have Hp7 := Lib.hid (Tm.In_below hb Hp6.out); clear hb c0 c1 c2 c3 c4 c5 c6 c7 d0 d1 d2 d3 d4 d5 d6 d7; obtain ⟨c0, c1, c2, c3, c4, c5, c6, c7⟩ := HB7.out.cells; obtain ⟨d0, d1, d2, d3, d4, d5, d6, d7⟩ := HD7.out.cells; obtain ⟨⟨y0, y1, y2, y3⟩, ⟨f0, f1, f2, f3⟩, hlt⟩ := HR7.out.parts)
            | (go_at_call 114; rewrite [← Hbv.out, ← Hbmv.out]; refine (order_calls (t := b) (u := bm) (Tm.In_below g7 Hb.out) Hbi7.out).mono ?_; rw [Ho2.out]; rintro e w8 ⟨rfl, hb⟩; have g8 := g7.trans hb; have HR8 := Lib.hid (HR7.out.gr hb); have HK8 := Lib.hid (HK7.out.gr hb); have Hp8 := Lib.hid (Tm.In_below hb Hp7.out); clear hb c0 c1 c2 c3 c4 c5 c6 c7 d0 d1 d2 d3 d4 d5 d6 d7 y0 y1 y2 y3 f0 f1 f2 f3 hlt; obtain ⟨⟨y0, y1, y2, y3⟩, ⟨f0, f1, f2, f3⟩, hlt⟩ := HR8.out.parts; obtain ⟨⟨p0, p1, p2, p3⟩, _, _⟩ := HK8.out.parts)
            | (go_at_call 115; rewrite [← Hpv.out]; refine (copy_calls (t := pm) Hp8.out (Hpe.out ▸ Hcf.out)).mono ?_; rintro e w9 ⟨cm, hci, hce, rfl, hcb, hco⟩; have Hci := Lib.hid hci; have Hce := Lib.hid (hce.trans Hpe.out); have Hco := Lib.hid hco; have hs8 := HR8.out.parts.2.2; have g9 := g8.trans hcb; obtain ⟨kc, nc, sc, pc, cc, lc⟩ := cm; rewrite [tm_val]; clear p0 p1 p2 p3 y0 y1 y2 y3 f0 f1 f2 f3 hlt; obtain ⟨⟨y0, y1, y2, y3⟩, ⟨f0, f1, f2, f3⟩, hlt⟩ := (HR8.out.gr hcb).parts; clear hci hce hco hcb)
            | fail)
          refine bodyPost_ret (v := .tuple #[(Tm.mk kc nc sc pc cc lc).val, .int .i64 0]) (by simp (maxDischargeDepth := 9) [results, Tryd.results62, go_sem, Tm.val, Tm.k, Tm.n, Tm.s, Tm.p, Tm.c, Tm.l, y0, y1, y2, y3]) rfl ?_
          refine hv.out (.mk kc nc sc pc cc lc) Hce.out _ ?_ (by go_grown)
          exact in_after' Hci.out Hco.out fun x hx1 hx2 o => by
            have h3 : x ≠ w.heap.size + 1 := by omega
            rw [cell_set_ne h3, cell_set_ne h3, cell_set_ne h3, cell_set_ne h3]
        · have h2 : ¬ b.erase = b' := fun e => e2 (hz2.out.2 e)
          have hv := Lib.hid (hR0.out 7 (by
            rw [hE.out]
            cases hs : T.same b' b.erase
            · rw [Bool.and_false]; rfl
            · exact absurd ((same_iff _ _).1 hs).symm h2) (by decide))
          have e2' : (o2 == 0) = false := beq_eq_false_iff_ne.2 e2
          clear h1 h2
          go_wp2_with (first
            | (go_at_call 114; rewrite [← Hhv.out, ← Hmv.out]; refine (order_calls (t := h) (u := hm) (Tm.In_below g6 Hh.out) Hmi6.out).mono ?_; rw [Ho1.out]; rintro e w7 ⟨rfl, hb⟩; have HB7 := Lib.hid (HB6.out.gr hb); have HR7 := Lib.hid (HR6.out.gr hb); have HK7 := Lib.hid (HK6.out.gr hb); have HD7 := Lib.hid (HD6.out.gr hb); have g7 := g6.trans hb; have Hbi7 := Lib.hid (Tm.In_below hb Hbi6.out); have Hp7 := Lib.hid (Tm.In_below hb Hp6.out); clear hb c0 c1 c2 c3 c4 c5 c6 c7 d0 d1 d2 d3 d4 d5 d6 d7; obtain ⟨c0, c1, c2, c3, c4, c5, c6, c7⟩ := HB7.out.cells; obtain ⟨d0, d1, d2, d3, d4, d5, d6, d7⟩ := HD7.out.cells; obtain ⟨⟨y0, y1, y2, y3⟩, ⟨f0, f1, f2, f3⟩, hlt⟩ := HR7.out.parts)
            | (go_at_call 114; rewrite [← Hbv.out, ← Hbmv.out]; refine (order_calls (t := b) (u := bm) (Tm.In_below g7 Hb.out) Hbi7.out).mono ?_; rw [Ho2.out]; rintro e w8 ⟨rfl, hb⟩; have g8 := g7.trans hb; have HR8 := Lib.hid (HR7.out.gr hb); have HK8 := Lib.hid (HK7.out.gr hb); have Hp8 := Lib.hid (Tm.In_below hb Hp7.out); clear hb c0 c1 c2 c3 c4 c5 c6 c7 d0 d1 d2 d3 d4 d5 d6 d7 y0 y1 y2 y3 f0 f1 f2 f3 hlt; obtain ⟨⟨y0, y1, y2, y3⟩, ⟨f0, f1, f2, f3⟩, hlt⟩ := HR8.out.parts; obtain ⟨⟨p0, p1, p2, p3⟩, _, _⟩ := HK8.out.parts)
            | fail)
          exact bodyPost_ret (by simp (maxDischargeDepth := 9) [results, Tryd.results62, go_sem, zeroTm, Tm.val, Tm.k, Tm.n, Tm.s, Tm.p, Tm.c, Tm.l, y0, y1, y2, y3]) rfl (hv.out _ (by go_grown))
      · have h1 : ¬ h.erase = h' := fun e => e1 (hz1.out.2 e)
        have hv := Lib.hid (hR0.out 7 (by
          rw [hE.out]
          cases hs : T.same h' h.erase
          · rfl
          · exact absurd ((same_iff _ _).1 hs).symm h1) (by decide))
        have e1' : (o1 == 0) = false := beq_eq_false_iff_ne.2 e1
        clear h1
        go_wp2_with (first
          | (go_at_call 114; rewrite [← Hhv.out, ← Hmv.out]; refine (order_calls (t := h) (u := hm) (Tm.In_below g6 Hh.out) Hmi6.out).mono ?_; rw [Ho1.out]; rintro e w7 ⟨rfl, hb⟩; have HB7 := Lib.hid (HB6.out.gr hb); have HR7 := Lib.hid (HR6.out.gr hb); have HK7 := Lib.hid (HK6.out.gr hb); have HD7 := Lib.hid (HD6.out.gr hb); have g7 := g6.trans hb; have Hbi7 := Lib.hid (Tm.In_below hb Hbi6.out); have Hp7 := Lib.hid (Tm.In_below hb Hp6.out); clear hb c0 c1 c2 c3 c4 c5 c6 c7 d0 d1 d2 d3 d4 d5 d6 d7; obtain ⟨c0, c1, c2, c3, c4, c5, c6, c7⟩ := HB7.out.cells; obtain ⟨d0, d1, d2, d3, d4, d5, d6, d7⟩ := HD7.out.cells; obtain ⟨⟨y0, y1, y2, y3⟩, ⟨f0, f1, f2, f3⟩, hlt⟩ := HR7.out.parts)
          | fail)
        exact bodyPost_ret (by simp (maxDischargeDepth := 9) [results, Tryd.results62, go_sem, zeroTm, Tm.val, Tm.k, Tm.n, Tm.s, Tm.p, Tm.c, Tm.l, y0, y1, y2, y3]) rfl (hv.out _ (by go_grown))
end Go.Proofs.YtjdoflfdlhpbmaaDoor

namespace Go.Proofs.YtjdoflfdlhpbmaaDoor
open Go.RowKit Go.Maps Go.Lib

theorem infoInt : (Tryd.prog.info? 3).map (fun i => (i.zero, i.size, i.bytes)) = some (some (.int .i64 0), 1, 8) := by kernel_rfl

/-! ### What a base is -/
theorem bpred_row : 110 < Tryd.prog.types.size := of_decide_eq_true (by kernel_rfl)
theorem bpred_wide : (match Tryd.prog.underlying 110 with | some (.array _ _) | some (.struct _) => true | _ => false) = true := by rw [Tryd.underlying110]
set_option maxRecDepth 100000 in
theorem bpred_law : WideMaps.KeyLaw Tryd.prog 110 := deep_law_laid laidOut_ (m := 2) (by omega) bpred_row (by kernel_rfl) bpred_wide
theorem bpred_keyed : Keyed Tryd.prog 110 := Keyed.of_law bpred_law
def bpredLit (s : List UInt8) (n : Int) : Lit := .string (keyBytes [.string s, .int .i64 n])
theorem keyOf_bpred {s : ByteArray} {n : Int} (hs : s.size ≤ maxLen) (hn : (Lit.int .i64 n).wf = true) : keyOf Tryd.prog 110 (.agg #[.string s, .int .i64 n]) = some (bpredLit s.data.toList n) := by
  have hk : Tryd.prog.keyType 110 = true := by kernel_rfl
  have hc : Tryd.prog.cellsOf 110 = 2 := by kernel_rfl
  have hcs : Tryd.prog.cellsOf 9 = 1 := by kernel_rfl
  have hci : Tryd.prog.cellsOf 3 = 1 := by kernel_rfl
  have hf : (Value.agg #[.string s, .int .i64 n]).formed Tryd.prog 110 = true := by simp [Value.formed, Tryd.underlying110, hc]
  obtain ⟨m, hm⟩ : ∃ m, Tryd.prog.types.size = m + 1 := ⟨Tryd.prog.types.size - 1, by have := bpred_row; omega⟩
  unfold keyOf
  rw [Tryd.underlying110]
  simp only [hk, hf, Bool.and_self, if_true]
  rw [show Tryd.prog.types.size + 1 = (m + 1) + 1 by omega]
  unfold Program.keyLits
  simp only [Tryd.underlying110]
  unfold Program.keyLits
  simp [Value.cells, hc, hcs, hci, Tryd.underlying9, Tryd.underlying3, hs, hn, bpredLit]

def kPred (x : ByteArray × Int) : Value := .agg #[.string x.1, .int .i64 x.2]
def kInt (n : Int) : Value := .int .i64 n
theorem kPred_inj {x y : ByteArray × Int} (h : kPred y = kPred x) : y = x := by
  obtain ⟨s, n⟩ := x
  obtain ⟨s', n'⟩ := y
  simpa [kPred] using h
theorem kInt_inj {x y : Int} (h : kInt y = kInt x) : y = x := by simpa [kInt] using h
theorem zero_held (w : World) : (zeroValue 112).run Tryd.prog w = .ok (.slice none 0 0) w := by kernel_rfl
theorem zero_bpred (w : World) : (zeroValue 110).run Tryd.prog w = .ok (.agg #[.string ⟨#[]⟩, .int .i64 0]) w := by kernel_rfl

/-- A base in which nothing is. -/
structure NewBase (w : World) (B M1 M2 : Nat) : Prop where
  blk : BlkT w B 61 #[.int .i64 0, .slice none 0 0, .map (some M1), .map (some M2)]
  m1 : GMap 110 kPred w M1 fun _ => none
  m2 : GMap 3 kInt w M2 fun _ => none
  n1 : M1 ≠ B
  n2 : M2 ≠ B
  n3 : M1 ≠ M2

def heldCells (i : Int) (h b : Tm) : List Value := [.int .i64 i, .int .i64 h.k, .int .i64 h.n, .string h.s, .slice h.p h.l.length h.c, .int .i64 b.k, .int .i64 b.n, .string b.s, .slice b.p b.l.length b.c]
theorem heldCells_one (i : Int) (h b : Tm) : ∀ u ∈ heldCells i h b, u.oneCell' = true := by
  intro u hu
  simp only [heldCells, List.mem_cons, List.mem_nil_iff, or_false] at hu
  rcases hu with rfl | rfl | rfl | rfl | rfl | rfl | rfl | rfl | rfl <;> rfl

/-- A base with one clause, of such a predicate. -/
structure OneBase (w : World) (B M1 M2 : Nat) (s : ByteArray) (n : Int) (t u : T) : Prop where
  blk : ∃ v, BlkT w B 61 #[.int .i64 1, v, .map (some M1), .map (some M2)]
  m1 : ∃ hv f, GMap 110 kPred w M1 f ∧ f (s, n) = some hv ∧ ∃ h b : Tm, w.ownsRow 0 115 9 hv 1 (heldCells 1 h b) ∧ h.In w ∧ b.In w ∧ h.erase = t ∧ b.erase = u
  m2 : ∃ f, GMap 3 kInt w M2 f ∧ f 1 = some (.agg #[.string s, .int .i64 n])

theorem OneBase.gr {w w' : World} {B M1 M2 : Nat} {s : ByteArray} {n : Int} {t u : T} (h : OneBase w B M1 M2 s n t u) (hg : Gr w w') : OneBase w' B M1 M2 s n t u := by
  obtain ⟨⟨v, h1⟩, ⟨hv, f, h2, h3, a, b, h4, h5, h6, h7⟩, ⟨f2, h8, h9⟩⟩ := h
  exact ⟨⟨v, h1.gr hg⟩, ⟨hv, f, h2.gr hg, h3, a, b, ownsRow_gr h4 hg, Tm.In_below hg h5, Tm.In_below hg h6, h7⟩, ⟨f2, h8.gr hg, h9⟩⟩

/-! ### What is made on the way -/
theorem row_le {w : World} {base base' size n : Nat} {e : TypeId} {v : Value} {xs : List Value} (h : w.ownsRow base e size v n xs) (hb : base' ≤ base) : w.ownsRow base' e size v n xs :=
  ⟨h.1, h.2.imp id fun ⟨g, cap, cur, hv, hg, r⟩ => ⟨g, cap, cur, hv, Nat.le_trans hb hg, r⟩⟩
end Go.Proofs.YtjdoflfdlhpbmaaDoor

namespace Go.Proofs.YtjdoflfdlhpbmaaDoor
open Go.RowKit Go.Maps Go.Lib

end Go.Proofs.YtjdoflfdlhpbmaaDoor

namespace Go.Proofs.YtjdoflfdlhpbmaaDoor
open Go.RowKit Go.Maps Go.Lib

end Go.Proofs.YtjdoflfdlhpbmaaDoor

namespace Go.Proofs.YtjdoflfdlhpbmaaDoor
open Go.RowKit Go.Maps Go.Lib

set_option maxRecDepth 100000 in
theorem lets_calls (t u : Tm) (w : World) (ht : t.l = []) : Calls Tryd.prog 75 #[t.val, u.val] w (Ret (.bool true) w) := by
  have hR : Hid (∀ w', Gr w w' → Ret (.bool true) w (.returned (.bool true)) w') := fun w' hg => ⟨rfl, hg⟩
  generalize hQ : Ret (.bool true) w = Q at hR ⊢
  clear hQ
  obtain ⟨k, n, s, p, c, l⟩ := t
  simp only [Tm.l] at ht
  subst ht
  simp only [Tm.val, Tm.k, Tm.n, Tm.s, Tm.p, Tm.c, Tm.l, List.length_nil]
  go_enter Tryd.func75, Tryd.ntmps75
  try simp only [List.append_eq, List.cons_append, List.nil_append]
  go_wp2_with fail
  exact hR.out _ (by go_grown)

end Go.Proofs.YtjdoflfdlhpbmaaDoor

namespace Go.Proofs.YtjdoflfdlhpbmaaDoor

theorem map_atom (f : Int → T) {k n : Int} {s : List UInt8} (h1 : k ≠ 1) (h4 : k ≠ 4) : T.map f (.mk k n s []) = .mk k n s [] := by rw [T.map, if_neg h1, if_neg h4]
theorem map_comp (f : Int → T) (n : Int) (s : List UInt8) (l : List T) : T.map f (.mk 4 n s l) = .mk 4 n s (T.mapL f l) := by rw [T.map, if_neg (by decide), if_pos rfl]




theorem map_head (f : Int → T) {p : T} (hf : p.formed = true) (hc : p.callable = true) : (T.map f p).k = p.k ∧ (T.map f p).s = p.s ∧ (T.map f p).l.length = p.l.length := by
  obtain ⟨k, n, s, l⟩ := p
  rcases formed_args hf with ⟨rfl, _⟩ | ⟨h4, rfl⟩
  · rw [map_comp]
    exact ⟨rfl, rfl, T.mapL_length f l⟩
  · have h1 : k ≠ 1 := by rintro rfl; simp [T.callable, T.k] at hc
    rw [map_atom f h1 h4]
    exact ⟨rfl, rfl, rfl⟩

end Go.Proofs.YtjdoflfdlhpbmaaDoor

namespace Go.Proofs.YtjdoflfdlhpbmaaDoor

theorem formed_small {t : T} (h : t.formed = true) : t.s.length ≤ 100 ∧ t.l.length ≤ 50 := by
  obtain ⟨k, n, s, l⟩ := t
  by_cases h1 : k = 1
  · subst h1
    obtain ⟨_, rfl, rfl⟩ := formed_var h
    exact ⟨by simp [T.s], by simp [T.l]⟩
  rcases formed_args h with ⟨rfl, _⟩ | ⟨h4, rfl⟩
  · rw [T.formed] at h
    simp only [show ¬ (4 : Int) = 1 by decide, show ¬ (4 : Int) = 2 by decide, show ¬ (4 : Int) = 3 by decide, if_false, if_true, Bool.and_eq_true, decide_eq_true_eq] at h
    simp only [T.s, T.l]
    omega
  · rw [T.formed] at h
    simp only [T.s, T.l]
    by_cases h2 : k = 2
    · subst h2
      simp at h
      simp [h]
    · by_cases h3 : k = 3
      · subst h3
        simp at h
        simp [h]
      · simp [h1, h2, h3, h4] at h

theorem eq_of_toList {a b : ByteArray} (h : a.toList = b.toList) : a = b := by
  rw [Go.ByteArray.toList_eq, Go.ByteArray.toList_eq] at h
  cases a
  cases b
  congr 1
  exact Array.toList_inj.1 h

theorem size_toList (a : ByteArray) : a.toList.length = a.size := by rw [Go.ByteArray.toList_eq]; rfl

theorem tm_small {t : Tm} (h : t.erase.formed = true) : t.s.size ≤ 1000 ∧ t.l.length ≤ 1000 := by
  obtain ⟨h1, h2⟩ := formed_small h
  obtain ⟨k, n, s, p, c, l⟩ := t
  rw [Tm.erase] at h1 h2
  simp only [T.s, T.l, Tm.eraseL_length, size_toList] at h1 h2
  exact ⟨by simp only [Tm.s]; omega, by simp only [Tm.l]; omega⟩

end Go.Proofs.YtjdoflfdlhpbmaaDoor

namespace Go.Proofs.YtjdoflfdlhpbmaaDoor
open Go.RowKit Go.Lib

/-- A slice, and the cells that it holds. -/
structure Rw where
  p : Option Addr
  n : Nat
  c : Nat
  cs : List Value
def Rw.In (sz : Nat) (w : World) (r : Rw) : Prop := r.cs.length = r.n * sz ∧ (∀ u ∈ r.cs, u.oneCell' = true) ∧ (r.n = 0 ∨ ∃ b o, r.p = some ⟨b, o, none⟩ ∧ ∀ j u, r.cs[j]? = some u → w.cell? ⟨b, o + j, none⟩ = some u)
def sumN (rs : List Rw) : Nat := (rs.map Rw.n).sum
theorem sumN_take (rs : List Rw) (k : Nat) (h : k < rs.length) : sumN (rs.take (k + 1)) = sumN (rs.take k) + rs[k].n := by
  rw [sumN, sumN, List.take_succ_eq_append_getElem h, List.map_append, List.sum_append]
  simp
theorem sumN_le (rs : List Rw) (k : Nat) : sumN (rs.take k) ≤ sumN rs := by
  conv => rhs; rw [sumN, ← List.take_append_drop k rs, List.map_append, List.sum_append]
  exact Nat.le_add_right _ _
theorem flat_take (rs : List Rw) (k : Nat) (h : k < rs.length) : (rs.take (k + 1)).flatMap Rw.cs = (rs.take k).flatMap Rw.cs ++ rs[k].cs := by
  rw [List.take_succ_eq_append_getElem h, List.flatMap_append]
  simp

set_option maxHeartbeats 1000000 in
set_option maxRecDepth 100000 in
theorem growH_some (n : Nat) (hn : 0 < n) (hb : n * 120 ≤ 140737488351232) (w : World) : Calls Tryd.prog 116 #[.slice none 0 0, .int .i64 n] w fun e w' => ∃ v, e = .returned v ∧ w'.ownsRow w.heap.size 115 9 v 0 [] ∧ Gr w w' := by
  obtain ⟨i0, hi, hz0, hz1, hz2⟩ := info_parts infoHeld
  have hr := run_append_nil_zeros (P := Tryd.prog) w 112 3 112 115 i0 _ .i64 .i64 Tryd.underlying112 Tryd.underlying3 hi hz0 n hn (by rw [hz1]; decide) (by omega) (by rw [hz2]; omega)
  have hge : n ≤ grownCap w n 0 115 := grownCap_ge w n 0 _
  have hcm : grownCap w n 0 115 ≤ maxLen := grownCap_le_maxLen w n 0 _ (by simp only [maxLen]; omega)
  generalize grownCap w n 0 115 = C at *
  generalize hw1 : w.drew.alloc _ = w1 at hr
  have hown : w1.ownsRow w.heap.size 115 9 (.slice (some ⟨w.heap.size, 0, none⟩) 0 C) 0 [] := by
    rw [← hw1]
    refine ⟨by simp, .inr ⟨w.heap.size, C, _, rfl, Nat.le_refl _, heap_alloc_new w.drew _, Nat.zero_le _, hcm, ?_, by simp⟩⟩
    have h9 : (Value.cells (.agg #[.int .i64 0, .int .i64 0, .int .i64 0, .string ⟨#[]⟩, .slice none 0 0, .int .i64 0, .int .i64 0, .string ⟨#[]⟩, .slice none 0 0])).size = 9 := rfl
    rw [Array.size_append, size_zeroCells, size_zeroCells, h9]
    omega
  have hgr : Gr w w1 := by rw [← hw1]; go_grown
  clear hw1
  have Hr := Lib.hid hr
  generalize hQ : (fun (e : Ending) (w' : World) => ∃ v, e = .returned v ∧ w'.ownsRow w.heap.size 115 9 v 0 [] ∧ Gr w w') = Q
  have hR : Hid (∀ v, w1.ownsRow w.heap.size 115 9 v 0 [] → Q (.returned v) w1) := fun v h => by rw [← hQ]; exact ⟨v, rfl, h, hgr⟩
  have Ho := Lib.hid hown
  have hw0 : IntKind.i64.wrap (n : Int) = n := IntWalk.i64_in _ (by omega)
  have hne : ¬ ((n : Int) < 0) := by omega
  have hpo : (0 : Int) < n := by omega
  clear hQ hr hown hgr hi hz0 hz1 hz2 hge hcm i0
  go_enter Tryd.func116, Tryd.ntmps116
  go_wp2_with (first
    | (refine wpList_append_run w rfl _ _ _ _ rfl _ _ (by rfl) (by rfl) _ _ Hr.out ?_)
    | fail)
  exact hR.out _ Ho.out

set_option maxRecDepth 100000 in
theorem growH_calls (n : Nat) (hb : n * 120 ≤ 140737488351232) (w : World) : Calls Tryd.prog 116 #[.slice none 0 0, .int .i64 n] w fun e w' => ∃ v, e = .returned v ∧ w'.ownsRow w.heap.size 115 9 v 0 [] ∧ Gr w w' := by
  by_cases hn : 0 < n
  · exact growH_some n hn hb w
  · obtain rfl : n = 0 := by omega
    generalize hQ : (fun (e : Ending) (w' : World) => ∃ v, e = .returned v ∧ w'.ownsRow w.heap.size 115 9 v 0 [] ∧ Gr w w') = Q
    have hR : Hid (∀ w1, Gr w w1 → Q (.returned (.slice none 0 0)) w1) := fun w1 h => by rw [← hQ]; exact ⟨_, rfl, World.ownsRow_nil _ _ _ _, h⟩
    clear hQ
    go_enter Tryd.func116, Tryd.ntmps116
    go_wp2_with fail
    exact hR.out _ (by go_grown)

set_option maxHeartbeats 2000000 in
set_option maxRecDepth 100000 in
theorem concatH_calls (a : Nat) (rs : List Rw) (w : World) (hrs : ∀ r ∈ rs, r.In 9 w) (hc : ∀ i r, rs[i]? = some r → w.cell? ⟨a, i, none⟩ = some (.slice r.p r.n r.c)) (hsum : sumN rs * 120 ≤ 140737488351232) (hk : rs.length ≤ 1000) :
    Calls Tryd.prog 64 #[.slice (some ⟨a, 0, none⟩) rs.length rs.length] w fun e w' => ∃ v, e = .returned v ∧ w'.ownsRow w.heap.size 115 9 v (sumN rs) (rs.flatMap Rw.cs) ∧ Gr w w' := by
  generalize hQ : (fun (e : Ending) (w' : World) => ∃ v, e = .returned v ∧ w'.ownsRow w.heap.size 115 9 v (sumN rs) (rs.flatMap Rw.cs) ∧ Gr w w') = Q
  have hR : Hid (∀ v w', w'.ownsRow w.heap.size 115 9 v (sumN rs) (rs.flatMap Rw.cs) → Gr w w' → Q (.returned v) w') := fun v w' h hg => by rw [← hQ]; exact ⟨v, rfl, h, hg⟩
  clear hQ
  have Hrs := Lib.hid hrs
  have Hc := Lib.hid hc
  have Hsum := Lib.hid hsum
  clear hrs hc
  go_enter Tryd.func64, Tryd.ntmps64
  try simp only [List.append_eq, List.cons_append, List.nil_append]
  go_wp2_with fail
  go_loopg [3, 11] rs.length (fun m s i wr => ∃ k : Nat, k ≤ rs.length ∧ m = rs.length - k ∧ s = .int .i64 (sumN (rs.take k) : Nat) ∧ i = .int .i64 k ∧ w = wr)
  case atStart => exact ⟨0, Nat.zero_le _, rfl, rfl, rfl, rfl⟩
  case round =>
    obtain ⟨k, hkl, rfl, rfl, rfl, rfl⟩ := hrel
    by_cases hlt : k < rs.length
    · have cj := Hc.out k rs[k] (List.getElem?_eq_getElem hlt)
      have hst := sumN_take rs k hlt
      have hle : sumN (rs.take (k + 1)) ≤ sumN rs := sumN_le rs (k + 1)
      have hs64 := Hsum.out
      generalize sumN (rs.take k) = S0 at *
      generalize hS1 : sumN (rs.take (k + 1)) = S1 at *
      generalize rs[k] = r at *
      have hw1 : IntKind.i64.wrap ((S0 : Int) + (r.n : Int)) = (S1 : Nat) := by rw [IntWalk.i64_in _ (by omega)]; omega
      have hne : ¬ (((S1 : Nat) : Int) < 0) := by omega
      clear hst hle hs64
      go_wp2_with fail
      go_roundg (rs.length - (k + 1))
      case measure => omega
      case rel => exact ⟨k + 1, by omega, rfl, by rw [hS1], by go_num, rfl⟩
    · obtain rfl : k = rs.length := by omega
      have hta : sumN (rs.take rs.length) = sumN rs := by rw [List.take_length]
      rw [hta]
      have Hgr := Lib.hid (growH_calls (sumN rs) hsum w)
      clear hta
      go_wp2_with (first
        | (go_at_call 116; refine Hgr.out.mono ?_; rintro e w2 ⟨v0, rfl, ho, hg⟩; have Ho := Lib.hid ho; have Hg := hg; clear ho hg)
        | fail)
      go_loopg [6, 27] rs.length (fun n v i wr => ∃ (j : Nat) (u : Value), u = v ∧ j ≤ rs.length ∧ n = rs.length - j ∧ i = .int .i64 j ∧ Gr w wr ∧ Hid (wr.ownsRow w.heap.size 115 9 u (sumN (rs.take j)) ((rs.take j).flatMap Rw.cs)))
      case atStart => exact ⟨0, _, rfl, Nat.zero_le _, rfl, rfl, Hg, Ho⟩
      case round =>
        obtain ⟨i0, hi, hz0, hz1, hz2⟩ := info_parts infoHeld
        obtain ⟨j, v, rfl, hj, rfl, rfl, gr, ho⟩ := hrel
        by_cases hlt : j < rs.length
        · have cj := Gr.at gr (Hc.out j rs[j] (List.getElem?_eq_getElem hlt))
          have hin := Hrs.out rs[j] (List.getElem_mem hlt)
          have hst := sumN_take rs j hlt
          have hfl := flat_take rs j hlt
          have hle : sumN (rs.take (j + 1)) ≤ sumN rs := sumN_le rs (j + 1)
          have hs64 := Hsum.out
          generalize hS0 : sumN (rs.take j) = S0 at *
          generalize hS1 : sumN (rs.take (j + 1)) = S1 at *
          generalize hF0 : (rs.take j).flatMap Rw.cs = F0 at *
          generalize rs[j] = r at *
          obtain ⟨p, n, c, cs⟩ := r
          simp only at cj hst hfl hin
          have ho' := ho.out
          by_cases h0 : n = 0
          · subst h0
            have hcs0 : cs = [] := List.eq_nil_of_length_eq_zero (by have := hin.1; simpa using this)
            obtain ⟨q, cp, rfl, hcp⟩ := row_form ho'
            have hr := run_append_empty (P := Tryd.prog) wr 112 112 115 i0 Tryd.underlying112 hi q _ cp p c hcp
            have Hr := Lib.hid hr
            have hnx : Hid (wr.ownsRow w.heap.size 115 9 (.slice q S0 cp) S1 ((rs.take (j + 1)).flatMap Rw.cs)) := by
              show World.ownsRow _ _ _ _ _ _ _
              rw [hfl, hcs0, List.append_nil, hst]
              exact ho'
            clear hr ho' hst hfl hle hs64 hin hcs0 hi hz0 hz1 hz2
            go_wp2_with (first
              | (refine wpList_append_run wr rfl _ _ _ _ rfl _ _ (by rfl) (by rfl) _ _ Hr.out ?_)
              | fail)
            go_roundg (rs.length - (j + 1))
            case measure => omega
            case rel => exact ⟨j + 1, _, rfl, by omega, rfl, by go_num, gr, by rw [hS1]; exact hnx⟩
          · obtain ⟨hcl, hone, h0' | ⟨b, o, hp, hcells⟩⟩ := hin
            · exact absurd h0' h0
            · simp only at hp hcl hone hcells
              subst hp
              obtain ⟨v', w', hr, h2, h3, h4⟩ := run_append_own_fresh (P := Tryd.prog) wr w.heap.size 112 112 115 i0 _ 9 120 Tryd.underlying112 hi hz0 hz1 hz2 rfl (by decide) v S0 F0 ho'
                ⟨b, o, none⟩ n c cs hcl (fun j u hu => by rw [Go.WideShapes.add_plain]; exact Gr.at gr (hcells j u hu)) hone (by simp only [maxLen]; omega) (by omega) gr.size (by omega)
              have Hr := Lib.hid hr
              have hlt' := ho'.lt
              have gr' : Gr w w' := Below.trans gr (grownBy_below h3 gr.size fun k hk => (hlt' k hk).1)
              have hnx : Hid (w'.ownsRow w.heap.size 115 9 v' S1 ((rs.take (j + 1)).flatMap Rw.cs)) := by
                show World.ownsRow _ _ _ _ _ _ _
                rw [hfl, hst]
                exact h2
              clear hr h2 h3 h4 ho' hst hfl hle hs64 hcl hone hcells hi hz0 hz1 hz2 hlt'
              go_wp2_with (first
                | (refine wpList_append_run wr rfl _ _ _ _ rfl _ _ (by rfl) (by rfl) _ _ Hr.out ?_)
                | fail)
              go_roundg (rs.length - (j + 1))
              case measure => omega
              case rel => exact ⟨j + 1, _, rfl, by omega, rfl, by go_num, gr', by rw [hS1]; exact hnx⟩
        · obtain rfl : j = rs.length := by omega
          have ho' : Hid (wr.ownsRow w.heap.size 115 9 v (sumN rs) (rs.flatMap Rw.cs)) := by
            have h := ho.out
            rw [List.take_length] at h
            exact h
          go_wp2_with fail
          exact hR.out v _ ho'.out gr
end Go.Proofs.YtjdoflfdlhpbmaaDoor
