/-
  hornlaw.BaseMakes: the walk
-/
import Derived.Test.YtgaijgadeodoeaaDoorVI
import Derived.Test.YtgaijgadeodoeaaDoorVK
import Derived.Test.YtgaijgadeodoeaaDoorVC
import Derived.Test.YtgaijgadeodoeaaDoorF5
namespace Go.Proofs.YtgaijgadeodoeaaDoor
open Go.RowKit

theorem bodyAns_pair {t : T} (h : t.formed = true) : (bodyAns t).1 = (T.body t).getD zeroT ∧ (((bodyAns t).2 = 0 ∧ (T.body t).isSome = true) ∨ ((bodyAns t).2 = 7 ∧ (T.body t).isSome = false)) := by
  cases hb : T.body t with
  | none => rw [bodyAns_none h hb]; exact ⟨rfl, .inr ⟨rfl, rfl⟩⟩
  | some u => rw [bodyAns_some h hb]; exact ⟨rfl, .inl ⟨rfl, rfl⟩⟩
theorem makeAns_pair {t : T} (h : t.formed = true) : (makeAns t).1 = (T.make reserved t).getD (zeroT, zeroT) ∧ (((makeAns t).2 = 0 ∧ (T.make reserved t).isSome = true) ∨ ((makeAns t).2 = 7 ∧ (T.make reserved t).isSome = false)) := by
  cases hb : T.make reserved t with
  | none => rw [makeAns_none h hb]; exact ⟨rfl, .inr ⟨rfl, rfl⟩⟩
  | some u => rw [makeAns_some h hb]; exact ⟨rfl, .inl ⟨rfl, rfl⟩⟩
theorem rbody_getD {bm : Tm} {r : Option T} (h1 : ∀ u, r = some u → bm.erase = u) (h2 : r = none → bm.erase = zeroT) : bm.erase = r.getD zeroT := by
  cases r with
  | none => exact h2 rfl
  | some u => exact h1 u rfl

set_option maxHeartbeats 8000000 in
set_option maxRecDepth 100000 in
theorem baseMakes_walk (t : Tm) (x : Clv) (s : ByteArray) (n : Int) (w : World) (m : Int) (hm : w.cell? ⟨0, 0, none⟩ = some (.int .i64 m)) (ht : t.In w) (hx : x.In w) (_ : s.size ≤ 140737488351232) (_ : In64 n) :
    Calls Tryd.prog 5 #[t.val, x.val, .string s, .int .i64 n] w (Ret (.bool true) w) := by
  have hR : Hid (∀ b, true = b → ∀ w', Gr w w' → Ret (.bool true) w (.returned (.bool b)) w') := fun b hb w' hg => ⟨by rw [hb], hg⟩
  generalize hQ : Ret (.bool true) w = Q at hR ⊢
  clear hQ
  obtain ⟨xh, xb⟩ := x
  have Ht := Lib.hid ht
  have Hon := Lib.hid ht.on
  have Hxh := Lib.hid hx.1
  have Hxb := Lib.hid hx.2
  have HM := Lib.hid hm
  clear ht hx hm
  have Htv := Lib.hid (show t.val = .agg #[.int .i64 t.k, .int .i64 t.n, .string t.s, .slice t.p t.l.length t.c] from rfl)
  have Hxv := Lib.hid (show clVal xh xb = .agg #[.int .i64 xh.k, .int .i64 xh.n, .string xh.s, .slice xh.p xh.l.length xh.c, .int .i64 xb.k, .int .i64 xb.n, .string xb.s, .slice xb.p xb.l.length xb.c] from rfl)
  rw [show (Clv.mk xh xb).val = clVal xh xb from rfl, Htv.out, Hxv.out]
  simp only at Hxh Hxb
  go_enter Tryd.func5, Tryd.ntmps5
  try simp only [List.append_eq, List.cons_append, List.nil_append]
  go_upto_region 1 with fail
  obtain ⟨HT, HC, gw⟩ := blocks48 w (.int .i64 t.k) (.int .i64 t.n) (.string t.s) (.slice t.p t.l.length t.c) (.int .i64 xh.k) (.int .i64 xh.n) (.string xh.s) (.slice xh.p xh.l.length xh.c) (.int .i64 xb.k) (.int .i64 xb.n) (.string xb.s) (.slice xb.p xb.l.length xb.c)
  generalize (w.alloc (.cells #[.int .i64 t.k, .int .i64 t.n, .string t.s, .slice t.p t.l.length t.c] 38)).alloc (.cells #[.int .i64 xh.k, .int .i64 xh.n, .string xh.s, .slice xh.p xh.l.length xh.c, .int .i64 xb.k, .int .i64 xb.n, .string xb.s, .slice xb.p xb.l.length xb.c] 40) = w1 at *
  replace Ht := Lib.hid (Tm.In_below gw Ht.out)
  replace Hxh := Lib.hid (Tm.In_below gw Hxh.out)
  replace Hxb := Lib.hid (Tm.In_below gw Hxb.out)
  obtain ⟨⟨rt0, rt1, rt2, rt3⟩, _, _⟩ := HT.out.parts
  go_upto_region 2 with (first
    | (go_at_call 14; rewrite [← Htv.out]; refine (Body_calls t _ Ht.out).mono ?_; rintro e w2 ⟨b1, rfl, hi, he, hb⟩; have Hb1 := Lib.hid hi; have Eb1 := Lib.hid he; have Vb1 := Lib.hid (show b1.val = .agg #[.int .i64 b1.k, .int .i64 b1.n, .string b1.s, .slice b1.p b1.l.length b1.c] from rfl); rewrite [Vb1.out]; clear hi he; replace HT := Lib.hid (HT.out.gr hb); replace HC := Lib.hid (HC.out.gr hb); replace Ht := Lib.hid (Tm.In_below hb Ht.out); replace Hxh := Lib.hid (Tm.In_below hb Hxh.out); replace Hxb := Lib.hid (Tm.In_below hb Hxb.out); replace gw := gw.trans hb; clear hb rt0 rt1 rt2 rt3)
    | fail)
  have hN : Blk4 (w2.alloc (.cells #[.int .i64 b1.k, .int .i64 b1.n, .string b1.s, .slice b1.p b1.l.length b1.c] 38)) w2.heap.size (.int .i64 b1.k) (.int .i64 b1.n) (.string b1.s) (.slice b1.p b1.l.length b1.c) := Blk4.new _ _ _ _ _
  have hga : Gr w2 (w2.alloc (.cells #[.int .i64 b1.k, .int .i64 b1.n, .string b1.s, .slice b1.p b1.l.length b1.c] 38)) := by go_grown
  generalize w2.alloc (.cells #[.int .i64 b1.k, .int .i64 b1.n, .string b1.s, .slice b1.p b1.l.length b1.c] 38) = w3 at *
  generalize w2.heap.size = a_HB at *
  replace HT := Lib.hid (HT.out.gr hga)
  replace HC := Lib.hid (HC.out.gr hga)
  replace Ht := Lib.hid (Tm.In_below hga Ht.out)
  replace Hxh := Lib.hid (Tm.In_below hga Hxh.out)
  replace Hxb := Lib.hid (Tm.In_below hga Hxb.out)
  replace Hb1 := Lib.hid (Tm.In_below hga Hb1.out)
  replace gw := gw.trans hga
  have HB := Lib.hid hN
  clear hN hga
  obtain ⟨⟨rt0, rt1, rt2, rt3⟩, _, _⟩ := HT.out.parts
  go_upto_region 3 with (first
    | (go_at_call 15; rewrite [← Htv.out]; refine (Make_calls t _ Ht.out).mono ?_; rintro e w4 ⟨dh, db, rfl, hi, hi2, he, hb⟩; have Hdh := Lib.hid hi; have Hdb := Lib.hid hi2; have Ed := Lib.hid he; have Vdh := Lib.hid (show dh.val = .agg #[.int .i64 dh.k, .int .i64 dh.n, .string dh.s, .slice dh.p dh.l.length dh.c] from rfl); have Vdb := Lib.hid (show db.val = .agg #[.int .i64 db.k, .int .i64 db.n, .string db.s, .slice db.p db.l.length db.c] from rfl); rewrite [clVal_eq]; clear hi hi2 he; replace HT := Lib.hid (HT.out.gr hb); replace HC := Lib.hid (HC.out.gr hb); replace HB := Lib.hid (HB.out.gr hb); replace Ht := Lib.hid (Tm.In_below hb Ht.out); replace Hxh := Lib.hid (Tm.In_below hb Hxh.out); replace Hxb := Lib.hid (Tm.In_below hb Hxb.out); replace Hb1 := Lib.hid (Tm.In_below hb Hb1.out); replace gw := gw.trans hb; clear hb rt0 rt1 rt2 rt3)
    | fail)
  have hN : Blk8 (w4.alloc (.cells #[.int .i64 dh.k, .int .i64 dh.n, .string dh.s, .slice dh.p dh.l.length dh.c, .int .i64 db.k, .int .i64 db.n, .string db.s, .slice db.p db.l.length db.c] 40)) w4.heap.size (.int .i64 dh.k) (.int .i64 dh.n) (.string dh.s) (.slice dh.p dh.l.length dh.c) (.int .i64 db.k) (.int .i64 db.n) (.string db.s) (.slice db.p db.l.length db.c) := heap_alloc_new _ _
  have hga : Gr w4 (w4.alloc (.cells #[.int .i64 dh.k, .int .i64 dh.n, .string dh.s, .slice dh.p dh.l.length dh.c, .int .i64 db.k, .int .i64 db.n, .string db.s, .slice db.p db.l.length db.c] 40)) := by go_grown
  generalize w4.alloc (.cells #[.int .i64 dh.k, .int .i64 dh.n, .string dh.s, .slice dh.p dh.l.length dh.c, .int .i64 db.k, .int .i64 db.n, .string db.s, .slice db.p db.l.length db.c] 40) = w5 at *
  generalize w4.heap.size = a_HD at *
  replace HT := Lib.hid (HT.out.gr hga)
  replace HC := Lib.hid (HC.out.gr hga)
  replace HB := Lib.hid (HB.out.gr hga)
  replace Ht := Lib.hid (Tm.In_below hga Ht.out)
  replace Hxh := Lib.hid (Tm.In_below hga Hxh.out)
  replace Hxb := Lib.hid (Tm.In_below hga Hxb.out)
  replace Hb1 := Lib.hid (Tm.In_below hga Hb1.out)
  replace Hdh := Lib.hid (Tm.In_below hga Hdh.out)
  replace Hdb := Lib.hid (Tm.In_below hga Hdb.out)
  replace gw := gw.trans hga
  have HD := Lib.hid hN
  clear hN hga
  obtain ⟨rc0, rc1, rc2, rc3, rc4, rc5, rc6, rc7⟩ := HC.out.cells
  go_upto_region 4 with (first
    | (go_at_call 16; rewrite [← Hxv.out]; refine (Plain_calls xh xb _ Hxh.out Hxb.out).mono ?_; rintro e w6 ⟨p1, rfl, hi, he, hb⟩; have Hp1 := Lib.hid hi; have Ep1 := Lib.hid he; have Vp1 := Lib.hid (show p1.val = .agg #[.int .i64 p1.k, .int .i64 p1.n, .string p1.s, .slice p1.p p1.l.length p1.c] from rfl); rewrite [Vp1.out]; clear hi he; replace HT := Lib.hid (HT.out.gr hb); replace HC := Lib.hid (HC.out.gr hb); replace HB := Lib.hid (HB.out.gr hb); replace HD := Lib.hid (HD.out.gr hb); replace Ht := Lib.hid (Tm.In_below hb Ht.out); replace Hxh := Lib.hid (Tm.In_below hb Hxh.out); replace Hxb := Lib.hid (Tm.In_below hb Hxb.out); replace Hb1 := Lib.hid (Tm.In_below hb Hb1.out); replace Hdh := Lib.hid (Tm.In_below hb Hdh.out); replace Hdb := Lib.hid (Tm.In_below hb Hdb.out); replace gw := gw.trans hb; clear hb rc0 rc1 rc2 rc3 rc4 rc5 rc6 rc7)
    | fail)
  have hN : Blk4 (w6.alloc (.cells #[.int .i64 p1.k, .int .i64 p1.n, .string p1.s, .slice p1.p p1.l.length p1.c] 38)) w6.heap.size (.int .i64 p1.k) (.int .i64 p1.n) (.string p1.s) (.slice p1.p p1.l.length p1.c) := Blk4.new _ _ _ _ _
  have hga : Gr w6 (w6.alloc (.cells #[.int .i64 p1.k, .int .i64 p1.n, .string p1.s, .slice p1.p p1.l.length p1.c] 38)) := by go_grown
  generalize w6.alloc (.cells #[.int .i64 p1.k, .int .i64 p1.n, .string p1.s, .slice p1.p p1.l.length p1.c] 38) = w7 at *
  generalize w6.heap.size = a_HP at *
  replace HT := Lib.hid (HT.out.gr hga)
  replace HC := Lib.hid (HC.out.gr hga)
  replace HB := Lib.hid (HB.out.gr hga)
  replace HD := Lib.hid (HD.out.gr hga)
  replace Ht := Lib.hid (Tm.In_below hga Ht.out)
  replace Hxh := Lib.hid (Tm.In_below hga Hxh.out)
  replace Hxb := Lib.hid (Tm.In_below hga Hxb.out)
  replace Hb1 := Lib.hid (Tm.In_below hga Hb1.out)
  replace Hdh := Lib.hid (Tm.In_below hga Hdh.out)
  replace Hdb := Lib.hid (Tm.In_below hga Hdb.out)
  replace Hp1 := Lib.hid (Tm.In_below hga Hp1.out)
  replace gw := gw.trans hga
  have HP := Lib.hid hN
  clear hN hga
  go_upto_region 6 with (first
    | (go_at_call 17; refine (reserved_calls _ _ _).mono ?_; rintro e w8 ⟨rfl, hb⟩; replace HT := Lib.hid (HT.out.gr hb); replace HC := Lib.hid (HC.out.gr hb); replace HB := Lib.hid (HB.out.gr hb); replace HD := Lib.hid (HD.out.gr hb); replace HP := Lib.hid (HP.out.gr hb); replace Ht := Lib.hid (Tm.In_below hb Ht.out); replace Hxh := Lib.hid (Tm.In_below hb Hxh.out); replace Hxb := Lib.hid (Tm.In_below hb Hxb.out); replace Hb1 := Lib.hid (Tm.In_below hb Hb1.out); replace Hdh := Lib.hid (Tm.In_below hb Hdh.out); replace Hdb := Lib.hid (Tm.In_below hb Hdb.out); replace Hp1 := Lib.hid (Tm.In_below hb Hp1.out); replace gw := gw.trans hb; clear hb )
    | (go_at_call 18; refine (rreserved_calls _ _ _ m (Gr.at gw HM.out)).mono ?_; rintro e w9 ⟨rfl, hb⟩; replace HT := Lib.hid (HT.out.gr hb); replace HC := Lib.hid (HC.out.gr hb); replace HB := Lib.hid (HB.out.gr hb); replace HD := Lib.hid (HD.out.gr hb); replace HP := Lib.hid (HP.out.gr hb); replace Ht := Lib.hid (Tm.In_below hb Ht.out); replace Hxh := Lib.hid (Tm.In_below hb Hxh.out); replace Hxb := Lib.hid (Tm.In_below hb Hxb.out); replace Hb1 := Lib.hid (Tm.In_below hb Hb1.out); replace Hdh := Lib.hid (Tm.In_below hb Hdh.out); replace Hdb := Lib.hid (Tm.In_below hb Hdb.out); replace Hp1 := Lib.hid (Tm.In_below hb Hp1.out); replace gw := gw.trans hb; clear hb )
    | fail)
  obtain ⟨rc0, rc1, rc2, rc3, rc4, rc5, rc6, rc7⟩ := HC.out.cells
  go_upto_region 7 with (first
    | (go_at_call 19; rewrite [← Hxv.out]; refine (rPlain_calls xh xb _ m (Gr.at gw HM.out) Hxh.out Hxb.out).mono ?_; rintro e w10 ⟨q1, rfl, hi, he, hb⟩; have Hq1 := Lib.hid hi; have Eq1 := Lib.hid he; have Vq1 := Lib.hid (show q1.val = .agg #[.int .i64 q1.k, .int .i64 q1.n, .string q1.s, .slice q1.p q1.l.length q1.c] from rfl); rewrite [Vq1.out]; clear hi he; replace HT := Lib.hid (HT.out.gr hb); replace HC := Lib.hid (HC.out.gr hb); replace HB := Lib.hid (HB.out.gr hb); replace HD := Lib.hid (HD.out.gr hb); replace HP := Lib.hid (HP.out.gr hb); replace Ht := Lib.hid (Tm.In_below hb Ht.out); replace Hxh := Lib.hid (Tm.In_below hb Hxh.out); replace Hxb := Lib.hid (Tm.In_below hb Hxb.out); replace Hb1 := Lib.hid (Tm.In_below hb Hb1.out); replace Hdh := Lib.hid (Tm.In_below hb Hdh.out); replace Hdb := Lib.hid (Tm.In_below hb Hdb.out); replace Hp1 := Lib.hid (Tm.In_below hb Hp1.out); replace gw := gw.trans hb; clear hb rc0 rc1 rc2 rc3 rc4 rc5 rc6 rc7)
    | fail)
  have hN : Blk4 (w10.alloc (.cells #[.int .i64 q1.k, .int .i64 q1.n, .string q1.s, .slice q1.p q1.l.length q1.c] 38)) w10.heap.size (.int .i64 q1.k) (.int .i64 q1.n) (.string q1.s) (.slice q1.p q1.l.length q1.c) := Blk4.new _ _ _ _ _
  have hga : Gr w10 (w10.alloc (.cells #[.int .i64 q1.k, .int .i64 q1.n, .string q1.s, .slice q1.p q1.l.length q1.c] 38)) := by go_grown
  generalize w10.alloc (.cells #[.int .i64 q1.k, .int .i64 q1.n, .string q1.s, .slice q1.p q1.l.length q1.c] 38) = w11 at *
  generalize w10.heap.size = a_HQ at *
  replace HT := Lib.hid (HT.out.gr hga)
  replace HC := Lib.hid (HC.out.gr hga)
  replace HB := Lib.hid (HB.out.gr hga)
  replace HD := Lib.hid (HD.out.gr hga)
  replace HP := Lib.hid (HP.out.gr hga)
  replace Ht := Lib.hid (Tm.In_below hga Ht.out)
  replace Hxh := Lib.hid (Tm.In_below hga Hxh.out)
  replace Hxb := Lib.hid (Tm.In_below hga Hxb.out)
  replace Hb1 := Lib.hid (Tm.In_below hga Hb1.out)
  replace Hdh := Lib.hid (Tm.In_below hga Hdh.out)
  replace Hdb := Lib.hid (Tm.In_below hga Hdb.out)
  replace Hp1 := Lib.hid (Tm.In_below hga Hp1.out)
  replace Hq1 := Lib.hid (Tm.In_below hga Hq1.out)
  replace gw := gw.trans hga
  have HQ := Lib.hid hN
  clear hN hga
  obtain ⟨⟨rp0, rp1, rp2, rp3⟩, _, _⟩ := HP.out.parts
  obtain ⟨⟨rq0, rq1, rq2, rq3⟩, _, _⟩ := HQ.out.parts
  have Hs : Hid (T.same p1.erase q1.erase = true) := by show _ = _; rw [Ep1.out, Eq1.out]; exact (same_iff _ _).2 rfl
  generalize (plainAns xh.erase xb.erase).2 = E at *
  go_upto_region 9 with (first
    | (go_at_call 20; rewrite [← Vp1.out, ← Vq1.out]; refine (same_calls (t := p1) (u := q1) Hp1.out Hq1.out).mono ?_; rintro e w12 ⟨rfl, hb⟩; rewrite [Hs.out]; replace HT := Lib.hid (HT.out.gr hb); replace HC := Lib.hid (HC.out.gr hb); replace HB := Lib.hid (HB.out.gr hb); replace HD := Lib.hid (HD.out.gr hb); replace HP := Lib.hid (HP.out.gr hb); replace HQ := Lib.hid (HQ.out.gr hb); replace Ht := Lib.hid (Tm.In_below hb Ht.out); replace Hxh := Lib.hid (Tm.In_below hb Hxh.out); replace Hxb := Lib.hid (Tm.In_below hb Hxb.out); replace Hb1 := Lib.hid (Tm.In_below hb Hb1.out); replace Hdh := Lib.hid (Tm.In_below hb Hdh.out); replace Hdb := Lib.hid (Tm.In_below hb Hdb.out); replace Hp1 := Lib.hid (Tm.In_below hb Hp1.out); replace Hq1 := Lib.hid (Tm.In_below hb Hq1.out); replace gw := gw.trans hb; clear hb rp0 rp1 rp2 rp3 rq0 rq1 rq2 rq3)
    | fail)
  clear HC HP HQ Hp1 Hq1 Hxh Hxb Vp1 Vq1 Ep1 Eq1 Hs Hxv
  cases hf : t.erase.formed with
  | false =>
    have Hf := Lib.hid hf
    have zb : Hid (b1.erase = zeroT) := by show _ = _; rw [Eb1.out, bodyAns_bad hf]
    have zd := Ed.out
    rw [makeAns_bad hf] at zd
    simp only [Prod.mk.injEq] at zd
    have zdh := Lib.hid zd.1
    have zdb := Lib.hid zd.2
    rewrite [bodyAns_bad hf, makeAns_bad hf]
    clear hf zd Eb1 Ed
    obtain ⟨⟨rt0, rt1, rt2, rt3⟩, _, _⟩ := HT.out.parts
    go_upto_region 10 with (first
      | (go_at_call 21; rewrite [← Htv.out]; refine (rformed_calls (t := t) Ht.out).mono ?_; rintro e w13 ⟨rfl, hb⟩; rewrite [Hf.out]; replace HT := Lib.hid (HT.out.gr hb); replace HB := Lib.hid (HB.out.gr hb); replace HD := Lib.hid (HD.out.gr hb); replace Ht := Lib.hid (Tm.In_below hb Ht.out); replace Hb1 := Lib.hid (Tm.In_below hb Hb1.out); replace Hdh := Lib.hid (Tm.In_below hb Hdh.out); replace Hdb := Lib.hid (Tm.In_below hb Hdb.out); replace gw := gw.trans hb; clear hb rt0 rt1 rt2 rt3)
      | fail)
    obtain ⟨⟨rb0, rb1, rb2, rb3⟩, _, _⟩ := HB.out.parts
    obtain ⟨rd0, rd1, rd2, rd3, rd4, rd5, rd6, rd7⟩ := HD.out.cells
    go_wp2_with (first
      | (go_at_call 22; rewrite [← Vb1.out]; refine (none_calls zb.out _).mono ?_; rintro e w14 ⟨rfl, hb⟩; replace HT := Lib.hid (HT.out.gr hb); replace HB := Lib.hid (HB.out.gr hb); replace HD := Lib.hid (HD.out.gr hb); replace Ht := Lib.hid (Tm.In_below hb Ht.out); replace Hb1 := Lib.hid (Tm.In_below hb Hb1.out); replace Hdh := Lib.hid (Tm.In_below hb Hdh.out); replace Hdb := Lib.hid (Tm.In_below hb Hdb.out); replace gw := gw.trans hb; clear hb rb0 rb1 rb2 rb3 rd0 rd1 rd2 rd3 rd4 rd5 rd6 rd7; obtain ⟨⟨rb0, rb1, rb2, rb3⟩, _, _⟩ := HB.out.parts; obtain ⟨rd0, rd1, rd2, rd3, rd4, rd5, rd6, rd7⟩ := HD.out.cells)
      | (go_at_call 22; rewrite [← Vdh.out]; refine (none_calls zdh.out _).mono ?_; rintro e w15 ⟨rfl, hb⟩; replace HT := Lib.hid (HT.out.gr hb); replace HB := Lib.hid (HB.out.gr hb); replace HD := Lib.hid (HD.out.gr hb); replace Ht := Lib.hid (Tm.In_below hb Ht.out); replace Hb1 := Lib.hid (Tm.In_below hb Hb1.out); replace Hdh := Lib.hid (Tm.In_below hb Hdh.out); replace Hdb := Lib.hid (Tm.In_below hb Hdb.out); replace gw := gw.trans hb; clear hb rb0 rb1 rb2 rb3 rd0 rd1 rd2 rd3 rd4 rd5 rd6 rd7; obtain ⟨⟨rb0, rb1, rb2, rb3⟩, _, _⟩ := HB.out.parts; obtain ⟨rd0, rd1, rd2, rd3, rd4, rd5, rd6, rd7⟩ := HD.out.cells)
      | (go_at_call 22; rewrite [← Vdb.out]; refine (none_calls zdb.out _).mono ?_; rintro e w16 ⟨rfl, hb⟩; replace HT := Lib.hid (HT.out.gr hb); replace HB := Lib.hid (HB.out.gr hb); replace HD := Lib.hid (HD.out.gr hb); replace Ht := Lib.hid (Tm.In_below hb Ht.out); replace Hb1 := Lib.hid (Tm.In_below hb Hb1.out); replace Hdh := Lib.hid (Tm.In_below hb Hdh.out); replace Hdb := Lib.hid (Tm.In_below hb Hdb.out); replace gw := gw.trans hb; clear hb rb0 rb1 rb2 rb3 rd0 rd1 rd2 rd3 rd4 rd5 rd6 rd7; obtain ⟨⟨rb0, rb1, rb2, rb3⟩, _, _⟩ := HB.out.parts; obtain ⟨rd0, rd1, rd2, rd3, rd4, rd5, rd6, rd7⟩ := HD.out.cells)
      | fail)
    exact hR.out _ rfl _ (by go_grown)
  | true =>
  have Hf := Lib.hid hf
  have HB1 := bodyAns_pair hf
  have HM1 := makeAns_pair hf
  rw [← Eb1.out] at HB1
  rw [← Ed.out] at HM1
  generalize (bodyAns t.erase).2 = e1 at *
  generalize (makeAns t.erase).2 = f1 at *
  have HB2 := Lib.hid HB1
  have HM2 := Lib.hid HM1
  clear hf HB1 HM1 Eb1 Ed
  obtain ⟨⟨rt0, rt1, rt2, rt3⟩, _, _⟩ := HT.out.parts
  go_upto_region 11 with (first
    | (go_at_call 21; rewrite [← Htv.out]; refine (rformed_calls (t := t) Ht.out).mono ?_; rintro e w13 ⟨rfl, hb⟩; rewrite [Hf.out]; replace HT := Lib.hid (HT.out.gr hb); replace HB := Lib.hid (HB.out.gr hb); replace HD := Lib.hid (HD.out.gr hb); replace Ht := Lib.hid (Tm.In_below hb Ht.out); replace Hb1 := Lib.hid (Tm.In_below hb Hb1.out); replace Hdh := Lib.hid (Tm.In_below hb Hdh.out); replace Hdb := Lib.hid (Tm.In_below hb Hdb.out); replace gw := gw.trans hb; clear hb rt0 rt1 rt2 rt3)
    | fail)
  obtain ⟨⟨rt0, rt1, rt2, rt3⟩, _, _⟩ := HT.out.parts
  have hgs := gw.size
  go_upto_region 12 with (first
    | (go_at_call 23; rewrite [← Htv.out]; refine (rbody_calls (t := t) (S := (· < w.heap.size)) (w := w13) Ht.out Hf.out Hon.out (fun b hb => Nat.lt_of_lt_of_le hb hgs)).mono ?_; rintro e w14 ⟨x1, ok, rfl, hi, hok, hu, hb, _, hz⟩; have Hx1 := Lib.hid hi; have Ex1 := Lib.hid (rbody_getD hu hz); have Ok1 := Lib.hid hok; have Vx1 := Lib.hid (show x1.val = .agg #[.int .i64 x1.k, .int .i64 x1.n, .string x1.s, .slice x1.p x1.l.length x1.c] from rfl); rewrite [Vx1.out]; clear hi hok hu hz; replace HT := Lib.hid (HT.out.gr hb); replace HB := Lib.hid (HB.out.gr hb); replace HD := Lib.hid (HD.out.gr hb); replace Ht := Lib.hid (Tm.In_below hb Ht.out); replace Hb1 := Lib.hid (Tm.In_below hb Hb1.out); replace Hdh := Lib.hid (Tm.In_below hb Hdh.out); replace Hdb := Lib.hid (Tm.In_below hb Hdb.out); replace gw := gw.trans hb; clear hb rt0 rt1 rt2 rt3)
    | fail)
  have hN : Blk4 (w14.alloc (.cells #[.int .i64 x1.k, .int .i64 x1.n, .string x1.s, .slice x1.p x1.l.length x1.c] 38)) w14.heap.size (.int .i64 x1.k) (.int .i64 x1.n) (.string x1.s) (.slice x1.p x1.l.length x1.c) := Blk4.new _ _ _ _ _
  have hga : Gr w14 (w14.alloc (.cells #[.int .i64 x1.k, .int .i64 x1.n, .string x1.s, .slice x1.p x1.l.length x1.c] 38)) := by go_grown
  generalize w14.alloc (.cells #[.int .i64 x1.k, .int .i64 x1.n, .string x1.s, .slice x1.p x1.l.length x1.c] 38) = w15 at *
  generalize w14.heap.size = a_HX at *
  replace HT := Lib.hid (HT.out.gr hga)
  replace HB := Lib.hid (HB.out.gr hga)
  replace HD := Lib.hid (HD.out.gr hga)
  replace Ht := Lib.hid (Tm.In_below hga Ht.out)
  replace Hb1 := Lib.hid (Tm.In_below hga Hb1.out)
  replace Hdh := Lib.hid (Tm.In_below hga Hdh.out)
  replace Hdb := Lib.hid (Tm.In_below hga Hdb.out)
  replace Hx1 := Lib.hid (Tm.In_below hga Hx1.out)
  replace gw := gw.trans hga
  have HX := Lib.hid hN
  clear hN hga
  obtain ⟨⟨rt0, rt1, rt2, rt3⟩, _, _⟩ := HT.out.parts
  go_upto_region 13 with (first
    | (go_at_call 24; rewrite [← Htv.out]; refine (rMake_calls t _ m (Gr.at gw HM.out) Ht.out Hf.out).mono ?_; rintro e w16 ⟨yh, yb, rfl, hi, hi2, he, hb⟩; have Hyh := Lib.hid hi; have Hyb := Lib.hid hi2; have Ey := Lib.hid he; have Vyh := Lib.hid (show yh.val = .agg #[.int .i64 yh.k, .int .i64 yh.n, .string yh.s, .slice yh.p yh.l.length yh.c] from rfl); have Vyb := Lib.hid (show yb.val = .agg #[.int .i64 yb.k, .int .i64 yb.n, .string yb.s, .slice yb.p yb.l.length yb.c] from rfl); rewrite [clVal_eq]; clear hi hi2 he; replace HT := Lib.hid (HT.out.gr hb); replace HB := Lib.hid (HB.out.gr hb); replace HD := Lib.hid (HD.out.gr hb); replace HX := Lib.hid (HX.out.gr hb); replace Ht := Lib.hid (Tm.In_below hb Ht.out); replace Hb1 := Lib.hid (Tm.In_below hb Hb1.out); replace Hdh := Lib.hid (Tm.In_below hb Hdh.out); replace Hdb := Lib.hid (Tm.In_below hb Hdb.out); replace Hx1 := Lib.hid (Tm.In_below hb Hx1.out); replace gw := gw.trans hb; clear hb rt0 rt1 rt2 rt3)
    | fail)
  have hN : Blk8 (w16.alloc (.cells #[.int .i64 yh.k, .int .i64 yh.n, .string yh.s, .slice yh.p yh.l.length yh.c, .int .i64 yb.k, .int .i64 yb.n, .string yb.s, .slice yb.p yb.l.length yb.c] 40)) w16.heap.size (.int .i64 yh.k) (.int .i64 yh.n) (.string yh.s) (.slice yh.p yh.l.length yh.c) (.int .i64 yb.k) (.int .i64 yb.n) (.string yb.s) (.slice yb.p yb.l.length yb.c) := heap_alloc_new _ _
  have hga : Gr w16 (w16.alloc (.cells #[.int .i64 yh.k, .int .i64 yh.n, .string yh.s, .slice yh.p yh.l.length yh.c, .int .i64 yb.k, .int .i64 yb.n, .string yb.s, .slice yb.p yb.l.length yb.c] 40)) := by go_grown
  generalize w16.alloc (.cells #[.int .i64 yh.k, .int .i64 yh.n, .string yh.s, .slice yh.p yh.l.length yh.c, .int .i64 yb.k, .int .i64 yb.n, .string yb.s, .slice yb.p yb.l.length yb.c] 40) = w17 at *
  generalize w16.heap.size = a_HY at *
  replace HT := Lib.hid (HT.out.gr hga)
  replace HB := Lib.hid (HB.out.gr hga)
  replace HD := Lib.hid (HD.out.gr hga)
  replace HX := Lib.hid (HX.out.gr hga)
  replace Ht := Lib.hid (Tm.In_below hga Ht.out)
  replace Hb1 := Lib.hid (Tm.In_below hga Hb1.out)
  replace Hdh := Lib.hid (Tm.In_below hga Hdh.out)
  replace Hdb := Lib.hid (Tm.In_below hga Hdb.out)
  replace Hx1 := Lib.hid (Tm.In_below hga Hx1.out)
  replace Hyh := Lib.hid (Tm.In_below hga Hyh.out)
  replace Hyb := Lib.hid (Tm.In_below hga Hyb.out)
  replace gw := gw.trans hga
  have HY := Lib.hid hN
  clear hN hga
  have hd := HM2.out.1
  rw [← Ey.out] at hd
  simp only [Prod.mk.injEq] at hd
  have S1 : Hid (T.same b1.erase x1.erase = true) := by show _ = _; rw [HB2.out.1, Ex1.out]; exact (same_iff _ _).2 rfl
  have S2 : Hid (T.same dh.erase yh.erase = true) := by show _ = _; rw [hd.1]; exact (same_iff _ _).2 rfl
  have S3 : Hid (T.same db.erase yb.erase = true) := by show _ = _; rw [hd.2]; exact (same_iff _ _).2 rfl
  have R1 := HB2.out.2
  rw [← Ok1.out] at R1
  have R2 := HM2.out.2
  generalize (T.make reserved t.erase).isSome = too at *
  clear hd HB2 HM2 Ey Ex1 Ok1
  obtain ⟨⟨rb0, rb1, rb2, rb3⟩, _, _⟩ := HB.out.parts
  obtain ⟨rd0, rd1, rd2, rd3, rd4, rd5, rd6, rd7⟩ := HD.out.cells
  obtain ⟨⟨rx0, rx1, rx2, rx3⟩, _, _⟩ := HX.out.parts
  obtain ⟨ry0, ry1, ry2, ry3, ry4, ry5, ry6, ry7⟩ := HY.out.cells
  rcases R1 with ⟨rfl, rfl⟩ | ⟨rfl, rfl⟩ <;> rcases R2 with ⟨rfl, rfl⟩ | ⟨rfl, rfl⟩
  all_goals
    go_wp2_with (first
      | (go_at_call 20; rewrite [← Vb1.out, ← Vx1.out]; refine (same_calls (t := b1) (u := x1) Hb1.out Hx1.out).mono ?_; rintro e w18 ⟨rfl, hb⟩; rewrite [S1.out]; replace HT := Lib.hid (HT.out.gr hb); replace HB := Lib.hid (HB.out.gr hb); replace HD := Lib.hid (HD.out.gr hb); replace HX := Lib.hid (HX.out.gr hb); replace HY := Lib.hid (HY.out.gr hb); replace Ht := Lib.hid (Tm.In_below hb Ht.out); replace Hb1 := Lib.hid (Tm.In_below hb Hb1.out); replace Hdh := Lib.hid (Tm.In_below hb Hdh.out); replace Hdb := Lib.hid (Tm.In_below hb Hdb.out); replace Hx1 := Lib.hid (Tm.In_below hb Hx1.out); replace Hyh := Lib.hid (Tm.In_below hb Hyh.out); replace Hyb := Lib.hid (Tm.In_below hb Hyb.out); replace gw := gw.trans hb; clear hb rb0 rb1 rb2 rb3 rd0 rd1 rd2 rd3 rd4 rd5 rd6 rd7 rx0 rx1 rx2 rx3 ry0 ry1 ry2 ry3 ry4 ry5 ry6 ry7; obtain ⟨⟨rb0, rb1, rb2, rb3⟩, _, _⟩ := HB.out.parts; obtain ⟨rd0, rd1, rd2, rd3, rd4, rd5, rd6, rd7⟩ := HD.out.cells; obtain ⟨⟨rx0, rx1, rx2, rx3⟩, _, _⟩ := HX.out.parts; obtain ⟨ry0, ry1, ry2, ry3, ry4, ry5, ry6, ry7⟩ := HY.out.cells)
      | (go_at_call 20; rewrite [← Vdh.out, ← Vyh.out]; refine (same_calls (t := dh) (u := yh) Hdh.out Hyh.out).mono ?_; rintro e w19 ⟨rfl, hb⟩; rewrite [S2.out]; replace HT := Lib.hid (HT.out.gr hb); replace HB := Lib.hid (HB.out.gr hb); replace HD := Lib.hid (HD.out.gr hb); replace HX := Lib.hid (HX.out.gr hb); replace HY := Lib.hid (HY.out.gr hb); replace Ht := Lib.hid (Tm.In_below hb Ht.out); replace Hb1 := Lib.hid (Tm.In_below hb Hb1.out); replace Hdh := Lib.hid (Tm.In_below hb Hdh.out); replace Hdb := Lib.hid (Tm.In_below hb Hdb.out); replace Hx1 := Lib.hid (Tm.In_below hb Hx1.out); replace Hyh := Lib.hid (Tm.In_below hb Hyh.out); replace Hyb := Lib.hid (Tm.In_below hb Hyb.out); replace gw := gw.trans hb; clear hb rb0 rb1 rb2 rb3 rd0 rd1 rd2 rd3 rd4 rd5 rd6 rd7 rx0 rx1 rx2 rx3 ry0 ry1 ry2 ry3 ry4 ry5 ry6 ry7; obtain ⟨⟨rb0, rb1, rb2, rb3⟩, _, _⟩ := HB.out.parts; obtain ⟨rd0, rd1, rd2, rd3, rd4, rd5, rd6, rd7⟩ := HD.out.cells; obtain ⟨⟨rx0, rx1, rx2, rx3⟩, _, _⟩ := HX.out.parts; obtain ⟨ry0, ry1, ry2, ry3, ry4, ry5, ry6, ry7⟩ := HY.out.cells)
      | (go_at_call 20; rewrite [← Vdb.out, ← Vyb.out]; refine (same_calls (t := db) (u := yb) Hdb.out Hyb.out).mono ?_; rintro e w20 ⟨rfl, hb⟩; rewrite [S3.out]; replace HT := Lib.hid (HT.out.gr hb); replace HB := Lib.hid (HB.out.gr hb); replace HD := Lib.hid (HD.out.gr hb); replace HX := Lib.hid (HX.out.gr hb); replace HY := Lib.hid (HY.out.gr hb); replace Ht := Lib.hid (Tm.In_below hb Ht.out); replace Hb1 := Lib.hid (Tm.In_below hb Hb1.out); replace Hdh := Lib.hid (Tm.In_below hb Hdh.out); replace Hdb := Lib.hid (Tm.In_below hb Hdb.out); replace Hx1 := Lib.hid (Tm.In_below hb Hx1.out); replace Hyh := Lib.hid (Tm.In_below hb Hyh.out); replace Hyb := Lib.hid (Tm.In_below hb Hyb.out); replace gw := gw.trans hb; clear hb rb0 rb1 rb2 rb3 rd0 rd1 rd2 rd3 rd4 rd5 rd6 rd7 rx0 rx1 rx2 rx3 ry0 ry1 ry2 ry3 ry4 ry5 ry6 ry7; obtain ⟨⟨rb0, rb1, rb2, rb3⟩, _, _⟩ := HB.out.parts; obtain ⟨rd0, rd1, rd2, rd3, rd4, rd5, rd6, rd7⟩ := HD.out.cells; obtain ⟨⟨rx0, rx1, rx2, rx3⟩, _, _⟩ := HX.out.parts; obtain ⟨ry0, ry1, ry2, ry3, ry4, ry5, ry6, ry7⟩ := HY.out.cells)
      | fail)
    exact hR.out _ rfl _ (by go_grown)

end Go.Proofs.YtgaijgadeodoeaaDoor
