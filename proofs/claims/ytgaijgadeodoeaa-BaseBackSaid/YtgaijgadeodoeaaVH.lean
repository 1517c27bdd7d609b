/-
  base.Plain
-/
import Derived.Test.YtgaijgadeodoeaaVF
import Derived.Test.YtgaijgadeodoeaaVG
import Derived.Test.YtgaijgadeodoeaaP1
namespace Go.Proofs.Ytgaijgadeodoeaa
open Go.RowKit

def plainAns (h b : T) : T × Int := (if plainErr reserved h b = 0 then clauseT h b else zeroT, plainErr reserved h b)
theorem plainAns_bad {h b : T} {E : Int} (hE : plainErr reserved h b = E) (h0 : E ≠ 0) : plainAns h b = (zeroT, E) := by rw [plainAns, hE, if_neg h0]
theorem plainAns_ok {h b : T} (hE : plainErr reserved h b = 0) : plainAns h b = (clauseT h b, 0) := by rw [plainAns, hE, if_pos rfl]

set_option maxHeartbeats 8000000 in
set_option maxRecDepth 100000 in
theorem Plain_calls (h b : Tm) (w : World) (hh : h.In w) (hb : b.In w) : Calls Try.prog 37 #[clVal h b] w (RetTE (plainAns h.erase b.erase) w) := by
  have Hh := Lib.hid hh
  have Hb := Lib.hid hb
  have hR0 : Hid (∀ E : Int, plainErr reserved h.erase b.erase = E → E ≠ 0 → ∀ w', Gr w w' → RetTE (plainAns h.erase b.erase) w (.returned (.tuple #[zeroTm.val, .int .i64 E])) w') := fun E hE h0 w' hg => by rw [plainAns_bad hE h0]; exact ⟨zeroTm, rfl, zeroTm_in _, zeroTm_erase, hg⟩
  have hR1 : Hid (plainErr reserved h.erase b.erase = 0 → ∀ (bm : Tm), bm.erase = clauseT h.erase b.erase → ∀ w', bm.In w' → Gr w w' → RetTE (plainAns h.erase b.erase) w (.returned (.tuple #[bm.val, .int .i64 0])) w') := fun hE bm he w' hi hg => by rw [plainAns_ok hE]; exact ⟨bm, rfl, hi, he, hg⟩
  have hPE := Lib.hid (show plainErr reserved h.erase b.erase = if h.erase.formed && b.erase.formed then (match T.make reserved (clauseT h.erase b.erase) with
    | none => 7
    | some (h', b') => if T.same h' h.erase && T.same b' b.erase then 0 else 7) else 2 from rfl)
  generalize hQ : RetTE (plainAns h.erase b.erase) w = Q at *
  clear hQ hh hb
  generalize plainErr reserved h.erase b.erase = E at *
  have hfl : Hid (T.formedL (Tm.eraseL [h, b]) = (h.erase.formed && b.erase.formed)) := by show _ = _; rw [Tm.eraseL, Tm.eraseL, Tm.eraseL, T.formedL, T.formedL, T.formedL, Bool.and_true]
  have Hcv := Lib.hid (clVal_eq h b)
  have Hhv := Lib.hid (show h.val = .agg #[.int .i64 h.k, .int .i64 h.n, .string h.s, .slice h.p h.l.length h.c] from rfl)
  have Hbv := Lib.hid (show b.val = .agg #[.int .i64 b.k, .int .i64 b.n, .string b.s, .slice b.p b.l.length b.c] from rfl)
  rw [clVal_eq]
  go_enter Try.func37, Try.ntmps37
  try simp only [List.append_eq, List.cons_append, List.nil_append]
  go_upto_region 1 with fail
  obtain ⟨HB, HR, gA⟩ := blocks84 w (.int .i64 h.k) (.int .i64 h.n) (.string h.s) (.slice h.p h.l.length h.c) (.int .i64 b.k) (.int .i64 b.n) (.string b.s) (.slice b.p b.l.length b.c) (.int .i64 0) (.int .i64 0) (.string ⟨#[]⟩) (.slice none 0 0)
  generalize (w.alloc (.cells #[.int .i64 h.k, .int .i64 h.n, .string h.s, .slice h.p h.l.length h.c, .int .i64 b.k, .int .i64 b.n, .string b.s, .slice b.p b.l.length b.c] 57)).alloc (.cells #[.int .i64 0, .int .i64 0, .string ⟨#[]⟩, .slice none 0 0] 28) = wA at *
  have hszA : w.heap.size + 1 < wA.heap.size := HR.out.parts.2.2
  obtain ⟨c0, c1, c2, c3, c4, c5, c6, c7⟩ := HB.out.cells
  cases hf : (h.erase.formed && b.erase.formed) with
  | false =>
    have hv := Lib.hid (hR0.out 2 (by rw [hPE.out, hf]; rfl) (by decide))
    have hff := Lib.hid (hfl.out.trans hf)
    clear hf
    go_wp2_with (first
      | (go_at_call 42; refine (all_calls (two_new (t := h) (u := b) (Tm.In_below gA Hh.out) (Tm.In_below gA Hb.out) (Gr.rfl' _))).mono ?_; rintro e w' ⟨rfl, hb⟩; rewrite [hff.out]; have g2 : Gr wA w' := below_step hb (by go_grown); obtain ⟨⟨y0, y1, y2, y3⟩, ⟨f0, f1, f2, f3⟩, hlt⟩ := (HR.out.gr g2).parts; clear hb c0 c1 c2 c3 c4 c5 c6 c7)
      | fail)
    exact bodyPost_ret (by simp (maxDischargeDepth := 9) [results, Try.results37, go_sem, zeroTm, Tm.val, Tm.k, Tm.n, Tm.s, Tm.p, Tm.c, Tm.l, y0, y1, y2, y3]) rfl (hv.out _ (by have := gA.trans g2; go_grown))
  | true =>
    have hff := Lib.hid (hfl.out.trans hf)
    have Hf := Lib.hid (Bool.and_eq_true_iff.1 hf)
    have Hcf := Lib.hid (clause_formed Hf.out.1 Hf.out.2)
    have hPE2 : Hid (E = match T.make reserved (clauseT h.erase b.erase) with
      | none => 7
      | some (h', b') => if T.same h' h.erase && T.same b' b.erase then 0 else 7) := by show _ = _; rw [hPE.out, hf]; rfl
    clear hf
    go_upto_region 4 with (first
      | (go_at_call 42; refine (all_calls (two_new (t := h) (u := b) (Tm.In_below gA Hh.out) (Tm.In_below gA Hb.out) (Gr.rfl' _))).mono ?_; rintro e w' ⟨rfl, hb⟩; rewrite [hff.out]; have g2 : Gr wA w' := below_step hb (by go_grown); have HB2 := Lib.hid (HB.out.gr g2); have HR2 := Lib.hid (HR.out.gr g2); clear hb c0 c1 c2 c3 c4 c5 c6 c7; obtain ⟨c0, c1, c2, c3, c4, c5, c6, c7⟩ := HB2.out.cells)
      | (go_at_call 85; rewrite [← Hcv.out]; refine (plain_calls h b _ (Tm.In_below (gA.trans g2) Hh.out) (Tm.In_below (gA.trans g2) Hb.out)).mono ?_; rintro e w3 ⟨pm, hpi, hpe, rfl, hg⟩; have Hpi := Lib.hid hpi; have Hpe := Lib.hid hpe; have g3 := g2.trans hg; have HB3 := Lib.hid (HB2.out.gr hg); have HR3 := Lib.hid (HR2.out.gr hg); have Hpv := Lib.hid (show pm.val = .agg #[.int .i64 pm.k, .int .i64 pm.n, .string pm.s, .slice pm.p pm.l.length pm.c] from rfl); rewrite [Hpv.out]; clear hpi hpe hg c0 c1 c2 c3 c4 c5 c6 c7)
      | fail)
    have hK := Blk4.new w3 (.int .i64 pm.k) (.int .i64 pm.n) (.string pm.s) (.slice pm.p pm.l.length pm.c)
    have g4' : Gr w3 (w3.alloc (.cells #[.int .i64 pm.k, .int .i64 pm.n, .string pm.s, .slice pm.p pm.l.length pm.c] 28)) := by go_grown
    generalize w3.alloc (.cells #[.int .i64 pm.k, .int .i64 pm.n, .string pm.s, .slice pm.p pm.l.length pm.c] 28) = w4 at *
    have g4 := g3.trans g4'
    have HB4 := Lib.hid (HB3.out.gr g4')
    have HR4 := Lib.hid (HR3.out.gr g4')
    have HK4 := Lib.hid hK
    have Hp4 := Lib.hid (Tm.In_below g4' Hpi.out)
    clear hK g4'
    obtain ⟨⟨p0, p1, p2, p3⟩, _, _⟩ := HK4.out.parts
    go_upto_region 5 with (first
      | (go_at_call 36; rewrite [← Hpv.out]; refine (Make_calls pm w4 Hp4.out).mono ?_; rintro e w5 ⟨hm, bm, rfl, hmi, hbi, hme, hg⟩; rw [Hpe.out] at hme ⊢; have Hmi := Lib.hid hmi; have Hbi := Lib.hid hbi; have Hme := Lib.hid hme; have g5 := g4.trans hg; have HB5 := Lib.hid (HB4.out.gr hg); have HR5 := Lib.hid (HR4.out.gr hg); have HK5 := Lib.hid (HK4.out.gr hg); have Hp5 := Lib.hid (Tm.In_below hg Hp4.out); rewrite [clVal_eq]; clear hmi hbi hme hg p0 p1 p2 p3)
      | fail)
    have hD : Blk8 (w5.alloc (.cells #[.int .i64 hm.k, .int .i64 hm.n, .string hm.s, .slice hm.p hm.l.length hm.c, .int .i64 bm.k, .int .i64 bm.n, .string bm.s, .slice bm.p bm.l.length bm.c] 57)) w5.heap.size (.int .i64 hm.k) (.int .i64 hm.n) (.string hm.s) (.slice hm.p hm.l.length hm.c) (.int .i64 bm.k) (.int .i64 bm.n) (.string bm.s) (.slice bm.p bm.l.length bm.c) := heap_alloc_new _ _
    have g6' : Gr w5 (w5.alloc (.cells #[.int .i64 hm.k, .int .i64 hm.n, .string hm.s, .slice hm.p hm.l.length hm.c, .int .i64 bm.k, .int .i64 bm.n, .string bm.s, .slice bm.p bm.l.length bm.c] 57)) := by go_grown
    generalize w5.alloc (.cells #[.int .i64 hm.k, .int .i64 hm.n, .string hm.s, .slice hm.p hm.l.length hm.c, .int .i64 bm.k, .int .i64 bm.n, .string bm.s, .slice bm.p bm.l.length bm.c] 57) = w6 at *
    have g6 : Gr w w6 := (gA.trans g5).trans g6'
    have HB6 := Lib.hid (HB5.out.gr g6')
    have HR6 := Lib.hid (HR5.out.gr g6')
    have HK6 := Lib.hid (HK5.out.gr g6')
    have HD6 := Lib.hid hD
    have Hmi6 := Lib.hid (Tm.In_below g6' Hmi.out)
    have Hbi6 := Lib.hid (Tm.In_below g6' Hbi.out)
    have Hp6 := Lib.hid (Tm.In_below g6' Hp5.out)
    have Hmv := Lib.hid (show hm.val = .agg #[.int .i64 hm.k, .int .i64 hm.n, .string hm.s, .slice hm.p hm.l.length hm.c] from rfl)
    have Hbmv := Lib.hid (show bm.val = .agg #[.int .i64 bm.k, .int .i64 bm.n, .string bm.s, .slice bm.p bm.l.length bm.c] from rfl)
    clear hD g6'
    obtain ⟨c0, c1, c2, c3, c4, c5, c6, c7⟩ := HB6.out.cells
    obtain ⟨d0, d1, d2, d3, d4, d5, d6, d7⟩ := HD6.out.cells
    cases hmk : T.make reserved (clauseT h.erase b.erase) with
    | none =>
      have hv := Lib.hid (hR0.out 7 (by rw [hPE2.out, hmk]) (by decide))
      rewrite [makeAns_none Hcf.out hmk]
      clear hmk
      obtain ⟨⟨y0, y1, y2, y3⟩, ⟨f0, f1, f2, f3⟩, hlt⟩ := HR6.out.parts
      go_wp2_with fail
      exact bodyPost_ret (by simp (maxDischargeDepth := 9) [results, Try.results37, go_sem, zeroTm, Tm.val, Tm.k, Tm.n, Tm.s, Tm.p, Tm.c, Tm.l, y0, y1, y2, y3]) rfl (hv.out _ (by go_grown))
    | some hb' =>
      obtain ⟨h', b'⟩ := hb'
      have hme := Hme.out
      rw [makeAns_some Hcf.out hmk] at hme
      simp only [Prod.mk.injEq] at hme
      have hff2 := make_formed Hcf.out hmk
      have hE : Hid (E = if T.same h' h.erase && T.same b' b.erase then 0 else 7) := by show _ = _; rw [hPE2.out, hmk]
      rewrite [makeAns_some Hcf.out hmk]
      have Hq := Lib.hid hme
      have hz1 : Hid (T.order h.erase hm.erase = 0 ↔ h.erase = h') := by show _ ↔ _; rw [hme.1]; exact order_zero _ _ Hf.out.1 hff2.1
      have hz2 : Hid (T.order b.erase bm.erase = 0 ↔ b.erase = b') := by show _ ↔ _; rw [hme.2]; exact order_zero _ _ Hf.out.2 hff2.2
      generalize ho1 : T.order h.erase hm.erase = o1 at hz1
      generalize ho2 : T.order b.erase bm.erase = o2 at hz2
      have Ho1 := Lib.hid ho1
      have Ho2 := Lib.hid ho2
      clear hmk hme hff2 ho1 ho2
      by_cases e1 : o1 = 0
      · subst e1
        have h1 := hz1.out.1 rfl
        by_cases e2 : o2 = 0
        · subst e2
          have h2 := hz2.out.1 rfl
          have hv := Lib.hid (hR1.out (by rw [hE.out, ← h1, ← h2, (same_iff _ _).2 rfl, (same_iff _ _).2 rfl]; rfl))
          clear h1 h2
          go_wp2_with (first
            | (go_at_call 43; rewrite [← Hhv.out, ← Hmv.out]; refine (order_calls (t := h) (u := hm) (Tm.In_below g6 Hh.out) Hmi6.out).mono ?_; rw [Ho1.out]; rintro e w7 ⟨rfl, hb⟩; have HB7 := Lib.hid (HB6.out.gr hb); have HR7 := Lib.hid (HR6.out.gr hb); have HK7 := Lib.hid (HK6.out.gr hb); have HD7 := Lib.hid (HD6.out.gr hb); have g7 := g6.trans hb; have Hbi7 := Lib.hid (Tm.In_below hb Hbi6.out); have Hp7 := Lib.hid (Tm.In_below hb Hp6.out); clear hb c0 c1 c2 c3 c4 c5 c6 c7 d0 d1 d2 d3 d4 d5 d6 d7; obtain ⟨c0, c1, c2, c3, c4, c5, c6, c7⟩ := HB7.out.cells; obtain ⟨d0, d1, d2, d3, d4, d5, d6, d7⟩ := HD7.out.cells; obtain ⟨⟨y0, y1, y2, y3⟩, ⟨f0, f1, f2, f3⟩, hlt⟩ := HR7.out.parts)
            | (go_at_call 43; rewrite [← Hbv.out, ← Hbmv.out]; refine (order_calls (t := b) (u := bm) (Tm.In_below g7 Hb.out) Hbi7.out).mono ?_; rw [Ho2.out]; rintro e w8 ⟨rfl, hb⟩; have g8 := g7.trans hb; have HR8 := Lib.hid (HR7.out.gr hb); have HK8 := Lib.hid (HK7.out.gr hb); have Hp8 := Lib.hid (Tm.In_below hb Hp7.out); clear hb c0 c1 c2 c3 c4 c5 c6 c7 d0 d1 d2 d3 d4 d5 d6 d7 y0 y1 y2 y3 f0 f1 f2 f3 hlt; obtain ⟨⟨y0, y1, y2, y3⟩, ⟨f0, f1, f2, f3⟩, hlt⟩ := HR8.out.parts; obtain ⟨⟨p0, p1, p2, p3⟩, _, _⟩ := HK8.out.parts)
            | (go_at_call 86; rewrite [← Hpv.out]; refine (copy_calls (t := pm) Hp8.out (Hpe.out ▸ Hcf.out)).mono ?_; rintro e w9 ⟨cm, hci, hce, rfl, hcb, hco⟩; have Hci := Lib.hid hci; have Hce := Lib.hid (hce.trans Hpe.out); have Hco := Lib.hid hco; have hs8 := HR8.out.parts.2.2; have g9 := g8.trans hcb; obtain ⟨kc, nc, sc, pc, cc, lc⟩ := cm; rewrite [tm_val]; clear p0 p1 p2 p3 y0 y1 y2 y3 f0 f1 f2 f3 hlt; obtain ⟨⟨y0, y1, y2, y3⟩, ⟨f0, f1, f2, f3⟩, hlt⟩ := (HR8.out.gr hcb).parts; clear hci hce hco hcb)
            | fail)
          refine bodyPost_ret (v := .tuple #[(Tm.mk kc nc sc pc cc lc).val, .int .i64 0]) (by simp (maxDischargeDepth := 9) [results, Try.results37, go_sem, hlt, Tm.val, Tm.k, Tm.n, Tm.s, Tm.p, Tm.c, Tm.l, y0, y1, y2, y3]) rfl ?_
          refine hv.out (.mk kc nc sc pc cc lc) Hce.out _ ?_ (by go_grown)
          exact in_after' Hci.out Hco.out fun x hx1 hx2 o => by
            have h3 : x ≠ w.heap.size + 1 := by omega
            rw [cell_set_ne h3, cell_set_ne h3, cell_set_ne h3, cell_set_ne h3]
        · have h2 : ¬ b.erase = b' := fun e => e2 (hz2.out.2 e)
          have hv := Lib.hid (hR0.out 7 (by
            rw [hE.out]
            cases hs : T.same b' b.erase
            · rw [Bool.and_false]; rfl
            · exact absurd ((same_iff _ _).1 hs).symm h2) (by decide))
          have e2' : (o2 == 0) = false := beq_eq_false_iff_ne.2 e2
          clear h1 h2
          go_wp2_with (first
            | (go_at_call 43; rewrite [← Hhv.out, ← Hmv.out]; refine (order_calls (t := h) (u := hm) (Tm.In_below g6 Hh.out) Hmi6.out).mono ?_; rw [Ho1.out]; rintro e w7 ⟨rfl, hb⟩; have HB7 := Lib.hid (HB6.out.gr hb); have HR7 := Lib.hid (HR6.out.gr hb); have HK7 := Lib.hid (HK6.out.gr hb); have HD7 := Lib.hid (HD6.out.gr hb); have g7 := g6.trans hb; have Hbi7 := Lib.hid (Tm.In_below hb Hbi6.out); have Hp7 := Lib.hid (Tm.In_below hb Hp6.out); clear hb c0 c1 c2 c3 c4 c5 c6 c7 d0 d1 d2 d3 d4 d5 d6 d7; obtain ⟨c0, c1, c2, c3, c4, c5, c6, c7⟩ := HB7.out.cells; obtain ⟨d0, d1, d2, d3, d4, d5, d6, d7⟩ := HD7.out.cells; obtain ⟨⟨y0, y1, y2, y3⟩, ⟨f0, f1, f2, f3⟩, hlt⟩ := HR7.out.parts)
            | (go_at_call 43; rewrite [← Hbv.out, ← Hbmv.out]; refine (order_calls (t := b) (u := bm) (Tm.In_below g7 Hb.out) Hbi7.out).mono ?_; rw [Ho2.out]; rintro e w8 ⟨rfl, hb⟩; have g8 := g7.trans hb; have HR8 := Lib.hid (HR7.out.gr hb); have HK8 := Lib.hid (HK7.out.gr hb); have Hp8 := Lib.hid (Tm.In_below hb Hp7.out); clear hb c0 c1 c2 c3 c4 c5 c6 c7 d0 d1 d2 d3 d4 d5 d6 d7 y0 y1 y2 y3 f0 f1 f2 f3 hlt; obtain ⟨⟨y0, y1, y2, y3⟩, ⟨f0, f1, f2, f3⟩, hlt⟩ := HR8.out.parts; obtain ⟨⟨p0, p1, p2, p3⟩, _, _⟩ := HK8.out.parts)
            | fail)
          exact bodyPost_ret (by simp (maxDischargeDepth := 9) [results, Try.results37, go_sem, zeroTm, Tm.val, Tm.k, Tm.n, Tm.s, Tm.p, Tm.c, Tm.l, y0, y1, y2, y3]) rfl (hv.out _ (by go_grown))
      · have h1 : ¬ h.erase = h' := fun e => e1 (hz1.out.2 e)
        have hv := Lib.hid (hR0.out 7 (by
          rw [hE.out]
          cases hs : T.same h' h.erase
          · rfl
          · exact absurd ((same_iff _ _).1 hs).symm h1) (by decide))
        have e1' : (o1 == 0) = false := beq_eq_false_iff_ne.2 e1
        clear h1
        go_wp2_with (first
          | (go_at_call 43; rewrite [← Hhv.out, ← Hmv.out]; refine (order_calls (t := h) (u := hm) (Tm.In_below g6 Hh.out) Hmi6.out).mono ?_; rw [Ho1.out]; rintro e w7 ⟨rfl, hb⟩; have HB7 := Lib.hid (HB6.out.gr hb); have HR7 := Lib.hid (HR6.out.gr hb); have HK7 := Lib.hid (HK6.out.gr hb); have HD7 := Lib.hid (HD6.out.gr hb); have g7 := g6.trans hb; have Hbi7 := Lib.hid (Tm.In_below hb Hbi6.out); have Hp7 := Lib.hid (Tm.In_below hb Hp6.out); clear hb c0 c1 c2 c3 c4 c5 c6 c7 d0 d1 d2 d3 d4 d5 d6 d7; obtain ⟨c0, c1, c2, c3, c4, c5, c6, c7⟩ := HB7.out.cells; obtain ⟨d0, d1, d2, d3, d4, d5, d6, d7⟩ := HD7.out.cells; obtain ⟨⟨y0, y1, y2, y3⟩, ⟨f0, f1, f2, f3⟩, hlt⟩ := HR7.out.parts)
          | fail)
        exact bodyPost_ret (by simp (maxDischargeDepth := 9) [results, Try.results37, go_sem, zeroTm, Tm.val, Tm.k, Tm.n, Tm.s, Tm.p, Tm.c, Tm.l, y0, y1, y2, y3]) rfl (hv.out _ (by go_grown))
end Go.Proofs.Ytgaijgadeodoeaa
