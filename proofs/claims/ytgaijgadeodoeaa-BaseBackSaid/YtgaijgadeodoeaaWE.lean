/-
  hornkeep.BaseBack: the walk
-/
import Derived.Test.YtgaijgadeodoeaaWD
import Derived.Test.YtgaijgadeodoeaaT2
namespace Go.Proofs.Ytgaijgadeodoeaa
open Go.RowKit Go.Maps Go.Lib

set_option maxHeartbeats 8000000 in
set_option maxRecDepth 100000 in
theorem baseBack_walk (t : Tm) (w : World) (ht : t.In w) : Calls Try.prog 11 #[t.val] w (Ret (.bool true) w) := by
  have hR : Hid (∀ b, true = b → ∀ w', Gr w w' → Ret (.bool true) w (.returned (.bool b)) w') := fun b hb w' hg => ⟨by rw [hb], hg⟩
  generalize hQ : Ret (.bool true) w = Q at hR ⊢
  clear hQ
  have Ht := Lib.hid ht
  clear ht
  have Htv := Lib.hid (show t.val = .agg #[.int .i64 t.k, .int .i64 t.n, .string t.s, .slice t.p t.l.length t.c] from rfl)
  rw [Htv.out]
  go_enter Try.func11, Try.ntmps11
  try simp only [List.append_eq, List.cons_append, List.nil_append]
  go_upto_region 1 with fail
  have hN := Blk4.new w (.int .i64 t.k) (.int .i64 t.n) (.string t.s) (.slice t.p t.l.length t.c)
  have gw : Gr w (w.alloc (.cells #[.int .i64 t.k, .int .i64 t.n, .string t.s, .slice t.p t.l.length t.c] 28)) := by go_grown
  generalize w.alloc (.cells #[.int .i64 t.k, .int .i64 t.n, .string t.s, .slice t.p t.l.length t.c] 28) = w1 at *
  have HT := Lib.hid hN
  clear hN
  replace Ht := Lib.hid (Tm.In_below gw Ht.out)
  go_upto_region 3 with (first
    | (go_at_call 35; refine (thereBase_calls _).mono ?_; rintro e w2 ⟨rfl, hb⟩; replace HT := Lib.hid (HT.out.gr hb); replace Ht := Lib.hid (Tm.In_below hb Ht.out); replace gw := gw.trans hb; clear hb )
    | fail)
  obtain ⟨⟨t0, t1, t2, t3⟩, _, _⟩ := HT.out.parts
  go_upto_region 4 with (first
    | (go_at_call 36; rewrite [← Htv.out]; refine (Make_calls t _ Ht.out).mono ?_; rintro e w3 ⟨hm, bm, rfl, hi, hi2, he, hb⟩; have Hhm := Lib.hid hi; have Hbm := Lib.hid hi2; have He := Lib.hid he; rewrite [clVal_eq]; clear hi hi2 he; replace gw := gw.trans hb; clear hb t0 t1 t2 t3 HT Ht)
    | fail)
  have hN : Blk8 (w3.alloc (.cells #[.int .i64 hm.k, .int .i64 hm.n, .string hm.s, .slice hm.p hm.l.length hm.c, .int .i64 bm.k, .int .i64 bm.n, .string bm.s, .slice bm.p bm.l.length bm.c] 57)) w3.heap.size (.int .i64 hm.k) (.int .i64 hm.n) (.string hm.s) (.slice hm.p hm.l.length hm.c) (.int .i64 bm.k) (.int .i64 bm.n) (.string bm.s) (.slice bm.p bm.l.length bm.c) := heap_alloc_new _ _
  have hga : Gr w3 (w3.alloc (.cells #[.int .i64 hm.k, .int .i64 hm.n, .string hm.s, .slice hm.p hm.l.length hm.c, .int .i64 bm.k, .int .i64 bm.n, .string bm.s, .slice bm.p bm.l.length bm.c] 57)) := by go_grown
  generalize w3.alloc (.cells #[.int .i64 hm.k, .int .i64 hm.n, .string hm.s, .slice hm.p hm.l.length hm.c, .int .i64 bm.k, .int .i64 bm.n, .string bm.s, .slice bm.p bm.l.length bm.c] 57) = w4 at *
  have HC := Lib.hid hN
  have hs_c3 : w.heap.size ≤ w3.heap.size := gw.size
  generalize w3.heap.size = c3 at *
  replace Hhm := Lib.hid (Tm.In_below hga Hhm.out)
  replace Hbm := Lib.hid (Tm.In_below hga Hbm.out)
  replace gw := gw.trans hga
  clear hN hga
  have Hcv := Lib.hid (clVal_eq hm bm)
  have Hhv := Lib.hid (show hm.val = .agg #[.int .i64 hm.k, .int .i64 hm.n, .string hm.s, .slice hm.p hm.l.length hm.c] from rfl)
  have Hbv := Lib.hid (show bm.val = .agg #[.int .i64 bm.k, .int .i64 bm.n, .string bm.s, .slice bm.p bm.l.length bm.c] from rfl)
  cases hf : t.erase.formed with
  | false =>
    rewrite [makeAns_bad hf]
    clear hf
    go_wp2_with fail
    exact hR.out _ rfl _ gw
  | true =>
  cases hmk : T.make reserved t.erase with
  | none =>
    rewrite [makeAns_none hf hmk]
    clear hf hmk
    go_wp2_with fail
    exact hR.out _ rfl _ gw
  | some hb' =>
  obtain ⟨h', b'⟩ := hb'
  have he := He.out
  rw [makeAns_some hf hmk] at he
  simp only [Prod.mk.injEq] at he
  obtain ⟨rfl, rfl⟩ := he
  rewrite [makeAns_some hf hmk]
  have hff := make_formed hf hmk
  have FHm := Lib.hid hff.1
  have FBm := Lib.hid hff.2
  have HPE := Lib.hid (plainErr_made res_neck hf hmk same_refl)
  have HPA := Lib.hid (plainAns_ok HPE.out)
  have HMA := Lib.hid (makeAns_some (clause_formed hff.1 hff.2) (make_again res_neck hf hmk))
  have HSm := Lib.hid (tm_small hff.1)
  clear hf hmk hff He
  obtain ⟨c0, c1, c2, c3, c4, c5, c6, c7⟩ := HC.out.cells
  go_upto_region 7 with (first
    | (go_at_call 37; rewrite [← Hcv.out]; refine (Plain_calls hm bm _ Hhm.out Hbm.out).mono ?_; rw [HPA.out]; rintro e w5 ⟨p1, rfl, hi, he, hb⟩; have Hp1 := Lib.hid hi; have Ep1 := Lib.hid he; have Vp1 := Lib.hid (show p1.val = .agg #[.int .i64 p1.k, .int .i64 p1.n, .string p1.s, .slice p1.p p1.l.length p1.c] from rfl); rewrite [Vp1.out]; clear hi he; replace HC := Lib.hid (HC.out.gr hb); replace Hhm := Lib.hid (Tm.In_below hb Hhm.out); replace Hbm := Lib.hid (Tm.In_below hb Hbm.out); replace gw := gw.trans hb; clear hb c0 c1 c2 c3 c4 c5 c6 c7)
    | fail)
  have hN := Blk4.new w5 (.int .i64 p1.k) (.int .i64 p1.n) (.string p1.s) (.slice p1.p p1.l.length p1.c)
  have hga : Gr w5 (w5.alloc (.cells #[.int .i64 p1.k, .int .i64 p1.n, .string p1.s, .slice p1.p p1.l.length p1.c] 28)) := by go_grown
  generalize w5.alloc (.cells #[.int .i64 p1.k, .int .i64 p1.n, .string p1.s, .slice p1.p p1.l.length p1.c] 28) = w6 at *
  have HP := Lib.hid hN
  generalize w5.heap.size = q_HP at *
  replace HC := Lib.hid (HC.out.gr hga)
  replace Hp1 := Lib.hid (Tm.In_below hga Hp1.out)
  replace Hhm := Lib.hid (Tm.In_below hga Hhm.out)
  replace Hbm := Lib.hid (Tm.In_below hga Hbm.out)
  replace gw := gw.trans hga
  clear hN hga
  obtain ⟨⟨p0, p1', p2, p3⟩, _, _⟩ := HP.out.parts
  go_upto_region 8 with (first
    | (go_at_call 36; rewrite [← Vp1.out]; refine (Make_calls p1 _ Hp1.out).mono ?_; rw [Ep1.out, HMA.out]; rintro e w7 ⟨dh, db, rfl, hi, hi2, he, hb⟩; have Hdh := Lib.hid hi; have Hdb := Lib.hid hi2; have Ed := Lib.hid he; have Vdh := Lib.hid (show dh.val = .agg #[.int .i64 dh.k, .int .i64 dh.n, .string dh.s, .slice dh.p dh.l.length dh.c] from rfl); have Vdb := Lib.hid (show db.val = .agg #[.int .i64 db.k, .int .i64 db.n, .string db.s, .slice db.p db.l.length db.c] from rfl); rewrite [clVal_eq]; clear hi hi2 he; replace HC := Lib.hid (HC.out.gr hb); replace Hhm := Lib.hid (Tm.In_below hb Hhm.out); replace Hbm := Lib.hid (Tm.In_below hb Hbm.out); replace gw := gw.trans hb; clear hb p0 p1' p2 p3 HP)
    | fail)
  have hN : Blk8 (w7.alloc (.cells #[.int .i64 dh.k, .int .i64 dh.n, .string dh.s, .slice dh.p dh.l.length dh.c, .int .i64 db.k, .int .i64 db.n, .string db.s, .slice db.p db.l.length db.c] 57)) w7.heap.size (.int .i64 dh.k) (.int .i64 dh.n) (.string dh.s) (.slice dh.p dh.l.length dh.c) (.int .i64 db.k) (.int .i64 db.n) (.string db.s) (.slice db.p db.l.length db.c) := heap_alloc_new _ _
  have hga : Gr w7 (w7.alloc (.cells #[.int .i64 dh.k, .int .i64 dh.n, .string dh.s, .slice dh.p dh.l.length dh.c, .int .i64 db.k, .int .i64 db.n, .string db.s, .slice db.p db.l.length db.c] 57)) := by go_grown
  generalize w7.alloc (.cells #[.int .i64 dh.k, .int .i64 dh.n, .string dh.s, .slice dh.p dh.l.length dh.c, .int .i64 db.k, .int .i64 db.n, .string db.s, .slice db.p db.l.length db.c] 57) = w8 at *
  have HD := Lib.hid hN
  have hs_d7 : w.heap.size ≤ w7.heap.size := gw.size
  generalize w7.heap.size = d7 at *
  replace HC := Lib.hid (HC.out.gr hga)
  replace Hdh := Lib.hid (Tm.In_below hga Hdh.out)
  replace Hdb := Lib.hid (Tm.In_below hga Hdb.out)
  replace Hhm := Lib.hid (Tm.In_below hga Hhm.out)
  replace Hbm := Lib.hid (Tm.In_below hga Hbm.out)
  replace gw := gw.trans hga
  clear hN hga
  have hed := Ed.out
  simp only [Prod.mk.injEq] at hed
  have S1 : Hid (T.same hm.erase dh.erase = true) := by show _ = _; rw [hed.1]; exact same_refl _
  have S2 : Hid (T.same bm.erase db.erase = true) := by show _ = _; rw [hed.2]; exact same_refl _
  clear hed Ed
  obtain ⟨c0, c1, c2, c3, c4, c5, c6, c7⟩ := HC.out.cells
  obtain ⟨d0, d1, d2, d3, d4, d5, d6, d7⟩ := HD.out.cells
  go_upto_region 10 with (first
    | (go_at_call 15; rewrite [← Hhv.out, ← Vdh.out]; refine (same_calls (t := hm) (u := dh) Hhm.out Hdh.out).mono ?_; rw [S1.out]; rintro e w9 ⟨rfl, hb⟩; replace HC := Lib.hid (HC.out.gr hb); replace HD := Lib.hid (HD.out.gr hb); replace Hdh := Lib.hid (Tm.In_below hb Hdh.out); replace Hdb := Lib.hid (Tm.In_below hb Hdb.out); replace Hhm := Lib.hid (Tm.In_below hb Hhm.out); replace Hbm := Lib.hid (Tm.In_below hb Hbm.out); replace gw := gw.trans hb; clear hb c0 c1 c2 c3 c4 c5 c6 c7 d0 d1 d2 d3 d4 d5 d6 d7; obtain ⟨c0, c1, c2, c3, c4, c5, c6, c7⟩ := HC.out.cells; obtain ⟨d0, d1, d2, d3, d4, d5, d6, d7⟩ := HD.out.cells)
    | (go_at_call 15; rewrite [← Hbv.out, ← Vdb.out]; refine (same_calls (t := bm) (u := db) Hbm.out Hdb.out).mono ?_; rw [S2.out]; rintro e w10 ⟨rfl, hb⟩; replace HC := Lib.hid (HC.out.gr hb); replace HD := Lib.hid (HD.out.gr hb); replace Hdh := Lib.hid (Tm.In_below hb Hdh.out); replace Hdb := Lib.hid (Tm.In_below hb Hdb.out); replace Hhm := Lib.hid (Tm.In_below hb Hhm.out); replace Hbm := Lib.hid (Tm.In_below hb Hbm.out); replace gw := gw.trans hb; clear hb c0 c1 c2 c3 c4 c5 c6 c7 d0 d1 d2 d3 d4 d5 d6 d7)
    | fail)
  clear HD Hdh Hdb Vdh Vdb S1 S2
  obtain ⟨wz, hwz⟩ : ∃ wz : World, wz = w10 := ⟨_, rfl⟩
  obtain ⟨hnb, gN⟩ := new_base w10
  have HNB := Lib.hid hnb
  have hCl := HC.out.lt
  clear hnb
  go_upto_region 11 with (first
    | (go_at_call 38; refine (new_calls w10).mono ?_; rintro e w' ⟨rfl, rfl⟩)
    | fail)
  have OHm := Lib.hid (Hhm.out.on)
  have OBm := Lib.hid (Hbm.out.on)
  have gws := gw.size
  generalize ((w10.alloc (.map #[] 0)).alloc (.map #[] 0)).alloc (.cells #[.int .i64 0, .slice none 0 0, .map (some w10.heap.size), .map (some (w10.heap.size + 1))] 107) = w11 at *
  have hB0 : w10.heap.size ≤ w10.heap.size + 1 + 1 := by omega
  have hM20 : w10.heap.size ≤ w10.heap.size + 1 := by omega
  generalize w10.heap.size + 1 + 1 = B at *
  generalize w10.heap.size + 1 = M2 at *
  obtain ⟨M1, hM1e⟩ : ∃ M1, M1 = w10.heap.size := ⟨_, rfl⟩
  replace HNB : Hid (NewBase w11 B M1 M2) := by rw [hM1e]; exact HNB
  have hM10 : w10.heap.size ≤ M1 := by omega
  clear hM1e hwz
  replace HC := Lib.hid (HC.out.gr gN)
  replace Hhm := Lib.hid (Tm.In_below gN Hhm.out)
  replace Hbm := Lib.hid (Tm.In_below gN Hbm.out)
  replace gw := gw.trans gN
  clear gN
  obtain ⟨c0, c1, c2, c3, c4, c5, c6, c7⟩ := HC.out.cells
  go_upto_region 12 with (first
    | (go_at_call 39; rewrite [← Hcv.out]; refine (add_calls B M1 M2 hm bm true _ (· < w10.heap.size) HNB.out Hhm.out Hbm.out OHm.out OBm.out (fun x hx h => by omega) HPE.out FHm.out FBm.out HSm.out.1 HSm.out.2).mono ?_; rintro e w12 ⟨rfl, hone, hkp⟩; have HO := Lib.hid hone; replace Hhm := Lib.hid (in_after' Hhm.out OHm.out (W := w12) fun x hx hlt o => World.cell?_of_block (hkp.block x hlt (by omega))); replace Hbm := Lib.hid (in_after' Hbm.out OBm.out (W := w12) fun x hx hlt o => World.cell?_of_block (hkp.block x hlt (by omega))); replace HC := Lib.hid (HC.out.kp hkp (by omega)); replace gw : Gr w w12 := Below.trans gw (hkp.below (B := w.heap.size) (fun x hx => by omega) gw.size); clear hone hkp c0 c1 c2 c3 c4 c5 c6 c7)
    | fail)
  go_upto_region 13 with (first
    | (go_at_call 40; refine (get_calls B M1 M2 hm.s hm.l.length hm.erase bm.erase _ HO.out FHm.out FBm.out HSm.out.1 ⟨by omega, by have := HSm.out.2; omega⟩).mono ?_; rintro e w13 ⟨xh, xb, rfl, hi, hi2, j1, j2, hb⟩; have Hxh := Lib.hid hi; have Hxb := Lib.hid hi2; have J1 := Lib.hid j1; have J2 := Lib.hid j2; have Vxh := Lib.hid (show xh.val = .agg #[.int .i64 xh.k, .int .i64 xh.n, .string xh.s, .slice xh.p xh.l.length xh.c] from rfl); have Vxb := Lib.hid (show xb.val = .agg #[.int .i64 xb.k, .int .i64 xb.n, .string xb.s, .slice xb.p xb.l.length xb.c] from rfl); rewrite [clVal_eq]; clear hi hi2 j1 j2; replace HC := Lib.hid (HC.out.gr hb); replace Hhm := Lib.hid (Tm.In_below hb Hhm.out); replace Hbm := Lib.hid (Tm.In_below hb Hbm.out); replace gw := gw.trans hb; clear hb )
    | fail)
  have hN : Blk8 (w13.alloc (.cells #[.int .i64 xh.k, .int .i64 xh.n, .string xh.s, .slice xh.p xh.l.length xh.c, .int .i64 xb.k, .int .i64 xb.n, .string xb.s, .slice xb.p xb.l.length xb.c] 57)) w13.heap.size (.int .i64 xh.k) (.int .i64 xh.n) (.string xh.s) (.slice xh.p xh.l.length xh.c) (.int .i64 xb.k) (.int .i64 xb.n) (.string xb.s) (.slice xb.p xb.l.length xb.c) := heap_alloc_new _ _
  have hga : Gr w13 (w13.alloc (.cells #[.int .i64 xh.k, .int .i64 xh.n, .string xh.s, .slice xh.p xh.l.length xh.c, .int .i64 xb.k, .int .i64 xb.n, .string xb.s, .slice xb.p xb.l.length xb.c] 57)) := by go_grown
  generalize w13.alloc (.cells #[.int .i64 xh.k, .int .i64 xh.n, .string xh.s, .slice xh.p xh.l.length xh.c, .int .i64 xb.k, .int .i64 xb.n, .string xb.s, .slice xb.p xb.l.length xb.c] 57) = w14 at *
  have HX := Lib.hid hN
  have hs_x13 : w.heap.size ≤ w13.heap.size := gw.size
  generalize w13.heap.size = x13 at *
  replace HC := Lib.hid (HC.out.gr hga)
  replace Hxh := Lib.hid (Tm.In_below hga Hxh.out)
  replace Hxb := Lib.hid (Tm.In_below hga Hxb.out)
  replace Hhm := Lib.hid (Tm.In_below hga Hhm.out)
  replace Hbm := Lib.hid (Tm.In_below hga Hbm.out)
  replace gw := gw.trans hga
  clear hN hga
  have S1 : Hid (T.same xh.erase hm.erase = true) := by show _ = _; rw [J1.out]; exact same_refl _
  have S2 : Hid (T.same xb.erase bm.erase = true) := by show _ = _; rw [J2.out]; exact same_refl _
  obtain ⟨c0, c1, c2, c3, c4, c5, c6, c7⟩ := HC.out.cells
  obtain ⟨d0, d1, d2, d3, d4, d5, d6, d7⟩ := HX.out.cells
  go_wp2_with (first
    | (go_at_call 15; rewrite [← Hhv.out, ← Vxh.out]; refine (same_calls (t := xh) (u := hm) Hxh.out Hhm.out).mono ?_; rw [S1.out]; rintro e w15 ⟨rfl, hb⟩; replace HC := Lib.hid (HC.out.gr hb); replace HX := Lib.hid (HX.out.gr hb); replace Hxh := Lib.hid (Tm.In_below hb Hxh.out); replace Hxb := Lib.hid (Tm.In_below hb Hxb.out); replace Hhm := Lib.hid (Tm.In_below hb Hhm.out); replace Hbm := Lib.hid (Tm.In_below hb Hbm.out); replace gw := gw.trans hb; clear hb c0 c1 c2 c3 c4 c5 c6 c7 d0 d1 d2 d3 d4 d5 d6 d7; obtain ⟨c0, c1, c2, c3, c4, c5, c6, c7⟩ := HC.out.cells; obtain ⟨d0, d1, d2, d3, d4, d5, d6, d7⟩ := HX.out.cells)
    | (go_at_call 15; rewrite [← Hbv.out, ← Vxb.out]; refine (same_calls (t := xb) (u := bm) Hxb.out Hbm.out).mono ?_; rw [S2.out]; rintro e w16 ⟨rfl, hb⟩; replace HC := Lib.hid (HC.out.gr hb); replace HX := Lib.hid (HX.out.gr hb); replace Hxh := Lib.hid (Tm.In_below hb Hxh.out); replace Hxb := Lib.hid (Tm.In_below hb Hxb.out); replace Hhm := Lib.hid (Tm.In_below hb Hhm.out); replace Hbm := Lib.hid (Tm.In_below hb Hbm.out); replace gw := gw.trans hb; clear hb c0 c1 c2 c3 c4 c5 c6 c7 d0 d1 d2 d3 d4 d5 d6 d7)
    | fail)
  exact hR.out _ rfl _ gw
end Go.Proofs.Ytgaijgadeodoeaa
