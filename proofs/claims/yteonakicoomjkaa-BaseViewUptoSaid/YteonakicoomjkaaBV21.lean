/-
  hornkeep.BaseView: the walk
-/
import Derived.Test.YteonakicoomjkaaBV20
import Derived.Test.YteonakicoomjkaaBV03
import Derived.Deep.CutRange
namespace Go.Proofs.Yteonakicoomjkaa
open Go.RowKit Go.Maps Go.Lib

set_option maxHeartbeats 16000000 in
set_option maxRecDepth 100000 in
theorem baseView_walk (l more : Tms) (goal : Tm) (out : Ints) (w : World) (hl : l.In w) (hm : more.In w) (hg : goal.In w) (ho : out.In w) (zl : l.l.length ≤ 1048576) (zm : more.l.length ≤ 1048576) (zo : out.l.length ≤ 1048576) :
    Calls Try.prog 6 #[l.val, more.val, goal.val, out.val] w (Ret (.bool true) w) := by
  have hR : Hid (∀ b, true = b → ∀ w', Gr w w' → Ret (.bool true) w (.returned (.bool b)) w') := fun b hb w' hg => ⟨by rw [hb], hg⟩
  generalize hQ : Ret (.bool true) w = Q at hR ⊢
  clear hQ
  obtain ⟨lp, lc, L⟩ := l
  obtain ⟨mp, mc, M⟩ := more
  obtain ⟨op, oc, N⟩ := out
  simp only at zl zm zo
  have HL := Lib.hid (show Tm.Sl w lp lc L from hl)
  have HM := Lib.hid (show Tm.Sl w mp mc M from hm)
  have HN := Lib.hid ho
  have Hg := Lib.hid hg
  have hLc := hl.1
  have hLc2 := hl.2.1
  have hMc := hm.1
  have hMc2 := hm.2.1
  have hNc := ho.1
  have hNc2 := ho.2.1
  simp only at hLc hLc2 hMc hMc2 hNc hNc2
  clear hl hm hg ho
  have Hgv := Lib.hid (show goal.val = .agg #[.int .i64 goal.k, .int .i64 goal.n, .string goal.s, .slice goal.p goal.l.length goal.c] from rfl)
  simp only [Tms.val, Ints.val]
  rw [Hgv.out]
  go_enter Try.func6, Try.ntmps6
  try simp only [List.append_eq, List.cons_append, List.nil_append]
  go_upto_region 1 with fail
  have hT := Blk4.new w (.int .i64 goal.k) (.int .i64 goal.n) (.string goal.s) (.slice goal.p goal.l.length goal.c)
  have gw : Gr w (w.alloc (.cells #[.int .i64 goal.k, .int .i64 goal.n, .string goal.s, .slice goal.p goal.l.length goal.c] 24)) := by go_grown
  have hs1 : (w.alloc (.cells #[.int .i64 goal.k, .int .i64 goal.n, .string goal.s, .slice goal.p goal.l.length goal.c] 24)).heap.size = w.heap.size + 1 := World.size_alloc _ _
  generalize w.alloc (.cells #[.int .i64 goal.k, .int .i64 goal.n, .string goal.s, .slice goal.p goal.l.length goal.c] 24) = w1 at *
  have HT := Lib.hid hT
  clear hT
  have Mk1 : Hid True := trivial
  have Mk2 : Hid True := trivial
  go_upto_region 4 with (first
    | (go_at_call 28; refine (thereBase_calls _).mono ?_; rintro e w2 ⟨rfl, hb⟩; have g12 : Gr w1 w2 := hb; clear hb)
    | (go_at_call 31; clear Mk1; refine (new_calls _).mono ?_; rintro e w3 ⟨rfl, hw3⟩; have hNB := (new_base w2).1; rewrite [← hw3] at hNB; have g23 : Gr w2 w3 := by rw [hw3]; go_grown
       have Hs3 : Hid (w3.heap.size = w2.heap.size + 1 + 1 + 1) := by show _ = _; rw [hw3]; simp
       have HNB := Lib.hid hNB
       clear hw3 hNB)
    | (go_at_call 31; clear Mk2; refine (new_calls _).mono ?_; rintro e w4 ⟨rfl, hw4⟩; have hNB := (new_base w3).1; rewrite [← hw4] at hNB; have g34 : Gr w3 w4 := by rw [hw4]; go_grown
       have Hs4 : Hid (w4.heap.size = w3.heap.size + 1 + 1 + 1) := by show _ = _; rw [hw4]; simp
       have HNU := Lib.hid hNB
       clear hw4 hNB)
    | fail)
  have hs3 := Hs3.out
  have hs4 := Hs4.out
  have hTwo : Two w2.heap.size w4 (w2.heap.size + 1 + 1) w2.heap.size (w2.heap.size + 1) (.slice none 0 0) newSt (w3.heap.size + 1 + 1) w3.heap.size (w3.heap.size + 1) (.slice none 0 0) newSt := by
    have hnil : ∀ x, ¬ ((Value.slice none 0 0).ownBlock = some x) := fun x h => by cases h
    refine ⟨BaseG.new ⟨HNB.out.blk.gr g34, HNB.out.m1.gr g34, HNB.out.m2.gr g34, HNB.out.n1, HNB.out.n2, HNB.out.n3⟩ fun _ h => h.2.1, BaseG.new HNU.out fun _ h => h.2.2, fun x h1 h2 => ?_, fun x h1 => ?_, fun x h1 => ?_⟩
    · rcases h1 with h1 | h1 | h1 | h1
      · rcases h2 with h2 | h2 | h2 | h2
        · omega
        · omega
        · omega
        · exact hnil x h2
      · rcases h2 with h2 | h2 | h2 | h2
        · omega
        · omega
        · omega
        · exact hnil x h2
      · rcases h2 with h2 | h2 | h2 | h2
        · omega
        · omega
        · omega
        · exact hnil x h2
      · exact hnil x h1
    · rcases h1 with h1 | h1 | h1 | h1
      · omega
      · omega
      · omega
      · exact absurd h1 (hnil x)
    · rcases h1 with h1 | h1 | h1 | h1
      · omega
      · omega
      · omega
      · exact absurd h1 (hnil x)
  have g24 : Gr w2 w4 := g23.trans g34
  have gw2 : Gr w w2 := gw.trans g12
  replace HT := Lib.hid (HT.out.gr g12)
  have hlo : w.heap.size + 1 ≤ w2.heap.size := by have := g12.size; omega
  clear hs1 hs3 hs4 Hs3 Hs4 g34 g23 HNB HNU gw g12
  generalize hBe : w2.heap.size + 1 + 1 = B at *
  generalize hM2e : w2.heap.size + 1 = M2 at *
  generalize hUe : w3.heap.size + 1 + 1 = U at *
  generalize hN2e : w3.heap.size + 1 = N2 at *
  generalize hN1e : w3.heap.size = N1 at *
  clear hN1e hUe hN2e
  have HTwo := Lib.hid hTwo
  clear hTwo
  go_wp2_with fail
  go_loopg [11] L.length (fun m i wr => ∃ (k : Nat) (va vu : Value) (st su : BSt), k ≤ L.length ∧ m = L.length - k ∧ i = .int .i64 k ∧ Hid (Two w2.heap.size wr B w2.heap.size M2 va st U N1 N2 vu su) ∧ Hid (st.last = su.last ∧ ∀ y, su.pr y = st.pr y) ∧ (0 ≤ st.last ∧ st.last ≤ k) ∧ Gr w2 wr)
  case atStart => exact ⟨0, _, _, _, _, Nat.zero_le _, rfl, rfl, HTwo.out, ⟨rfl, fun _ => rfl⟩, ⟨Int.le_refl _, Int.le_refl _⟩, g24⟩
  case round =>
    obtain ⟨k, va, vu, st, su, hk, rfl, rfl, HTw, HSm, hlast, gr⟩ := hrel
    have grl := gr.size
    have gwr : Gr w wr := gw2.trans gr
    by_cases hlt : k < L.length
    · obtain ⟨bR, oR, rfl⟩ := HL.out.ptr (by omega)
      obtain ⟨⟨x0, x1, x2, x3⟩, hx, _⟩ := (HL.out.mono gwr).elem k hlt
      generalize L[k] = x at *
      have Hx := Lib.hid hx
      have Hxv := Lib.hid (show x.val = .agg #[.int .i64 x.k, .int .i64 x.n, .string x.s, .slice x.p x.l.length x.c] from rfl)
      clear hx
      rcases make_cases x.erase with ⟨h0, b0, hmk, fh, fb, hpe⟩ | ⟨E, hmk, hE⟩
      · have HMk := Lib.hid hmk
        have Fh := Lib.hid fh
        have Fb := Lib.hid fb
        have Hpe := Lib.hid hpe
        clear hmk fh fb hpe
        go_upto_region 8 with (first
          | (go_at_call 29; rewrite [← Hxv.out]; refine (Make_callsO x _ Hx.out).mono ?_; rw [HMk.out]; rintro e w5 ⟨hm, bm, rfl, hi, hi2, he, hb, o1, o2⟩; simp only [Prod.mk.injEq] at he; have Hhi := Lib.hid hi; have Hbi := Lib.hid hi2; have He := Lib.hid he; have Ho1 := Lib.hid o1; have Ho2 := Lib.hid o2; have Hcv := Lib.hid (clVal_eq hm bm); rewrite [clVal_eq]; clear hi hi2 he o1 o2 x0 x1 x2 x3)
          | fail)
        have hC : Blk8 (w5.alloc (.cells #[.int .i64 hm.k, .int .i64 hm.n, .string hm.s, .slice hm.p hm.l.length hm.c, .int .i64 bm.k, .int .i64 bm.n, .string bm.s, .slice bm.p bm.l.length bm.c] 41)) w5.heap.size (.int .i64 hm.k) (.int .i64 hm.n) (.string hm.s) (.slice hm.p hm.l.length hm.c) (.int .i64 bm.k) (.int .i64 bm.n) (.string bm.s) (.slice bm.p bm.l.length bm.c) := heap_alloc_new _ _
        have gC : Gr w5 (w5.alloc (.cells #[.int .i64 hm.k, .int .i64 hm.n, .string hm.s, .slice hm.p hm.l.length hm.c, .int .i64 bm.k, .int .i64 bm.n, .string bm.s, .slice bm.p bm.l.length bm.c] 41)) := by go_grown
        generalize w5.alloc (.cells #[.int .i64 hm.k, .int .i64 hm.n, .string hm.s, .slice hm.p hm.l.length hm.c, .int .i64 bm.k, .int .i64 bm.n, .string bm.s, .slice bm.p bm.l.length bm.c] 41) = w6 at *
        have HC := Lib.hid hC
        have g6 : Gr wr w6 := hb.trans gC
        have hs5 := hb.size
        have hs6 := gC.size
        have HMb := Lib.hid HTw.out.b.lt
        have HMu := Lib.hid HTw.out.u.lt
        replace HTw := Lib.hid (HTw.out.gr g6)
        replace Hhi := Lib.hid (Tm.In_below gC Hhi.out)
        replace Hbi := Lib.hid (Tm.In_below gC Hbi.out)
        obtain ⟨e1, e2⟩ := He.out
        have HSmall := Lib.hid (tm_small (t := hm) (by rw [e1]; exact Fh.out))
        have Hpe2 := Lib.hid (show plainErr reserved hm.erase bm.erase = 0 by rw [e1, e2]; exact Hpe.out)
        have HFh := Lib.hid (show hm.erase.formed = true by rw [e1]; exact Fh.out)
        have HFb := Lib.hid (show bm.erase.formed = true by rw [e2]; exact Fb.out)
        obtain ⟨c0, c1, c2, c3, c4, c5, c6, c7⟩ := HC.out.cells
        go_upto_region 10 with (first
          | (go_at_call 32; rewrite [← Hcv.out]; refine (add_gen _ B w2.heap.size M2 va st hm bm false w6 HTw.out.b Hhi.out Hbi.out (Ho1.out.mono fun y hy e => by subst e; have := HMb.out y (.inl rfl); omega) (Ho2.out.mono fun y hy e => by subst e; have := HMb.out y (.inl rfl); omega) HTw.out.hS Hpe2.out HFh.out HFb.out HSmall.out.1 HSmall.out.2 hlast.1 (by omega)).mono ?_; rintro e w7 ⟨va2, st2, hadd, rfl, hB2, hk2, hown⟩; have HAdd := Lib.hid hadd; have HTw2 := Lib.hid (HTw.out.step (by omega) hB2 hk2 hown); have HK2 := Lib.hid hk2; clear hadd hB2 hk2 hown c0 c1 c2 c3 c4 c5 c6 c7)
          | fail)
        have hs7 := HK2.out.size
        have hnb : ∀ y, wr.heap.size ≤ y → ¬ Mut B w2.heap.size M2 va y := fun y hy hm => by have := HMb.out y hm; omega
        replace HC := Lib.hid (HC.out.kp HK2.out (hnb _ hs5))
        replace Hhi := Lib.hid (tm_kp Hhi.out Ho1.out hnb HK2.out)
        replace Hbi := Lib.hid (tm_kp Hbi.out Ho2.out hnb HK2.out)
        have g7 : Gr w2 w7 := Below.trans (gr.trans g6) (HK2.out.below HTw.out.lob (by have := gr.size; have := g6.size; omega))
        have hsl := HSm.out.1
        clear hnb
        obtain ⟨c0, c1, c2, c3, c4, c5, c6, c7⟩ := HC.out.cells
        go_wp2_with (first
          | (go_at_call 32; rewrite [← Hcv.out]; refine (add_gen _ U N1 N2 vu su hm bm false w7 HTw2.out.symm.b Hhi.out Hbi.out (Ho1.out.mono fun y hy e => by subst e; have := HMu.out y (.inl rfl); omega) (Ho2.out.mono fun y hy e => by subst e; have := HMu.out y (.inl rfl); omega) HTw2.out.symm.hS Hpe2.out HFh.out HFb.out HSmall.out.1 HSmall.out.2 (by omega) (by omega)).mono ?_; rintro e w8 ⟨vu2, su2, hadd, rfl, hB2, hk2, hown⟩; have HAdd2 := Lib.hid hadd; have HTw3 := Lib.hid (HTw2.out.symm.step (by omega) hB2 hk2 hown).symm; have g8 : Gr w2 w8 := Below.trans g7 (hk2.below HTw2.out.lou (by omega)); clear hadd hB2 hk2 hown c0 c1 c2 c3 c4 c5 c6 c7)
          | fail)
        go_roundg (L.length - (k + 1))
        case measure => omega
        case rel => exact ⟨k + 1, va2, vu2, st2, su2, by omega, rfl, by go_num, HTw3.out, added_same HAdd.out HAdd2.out HSm.out.1 HSm.out.2, by rw [HAdd.out.last]; exact ⟨by omega, by omega⟩, g8⟩
      · have hE2 : (E == 0) = false := beq_eq_false_iff_ne.2 hE
        have HMk := Lib.hid hmk
        clear hmk hE
        go_upto_region 8 with (first
          | (go_at_call 29; rewrite [← Hxv.out]; refine (Make_callsO x _ Hx.out).mono ?_; rw [HMk.out]; rintro e w5 ⟨hm, bm, rfl, hi, hi2, he, hb, o1, o2⟩; rewrite [clVal_eq]; clear hi hi2 he o1 o2 x0 x1 x2 x3)
          | fail)
        have gC : Gr w5 (w5.alloc (.cells #[.int .i64 hm.k, .int .i64 hm.n, .string hm.s, .slice hm.p hm.l.length hm.c, .int .i64 bm.k, .int .i64 bm.n, .string bm.s, .slice bm.p bm.l.length bm.c] 41)) := by go_grown
        generalize w5.alloc (.cells #[.int .i64 hm.k, .int .i64 hm.n, .string hm.s, .slice hm.p hm.l.length hm.c, .int .i64 bm.k, .int .i64 bm.n, .string bm.s, .slice bm.p bm.l.length bm.c] 41) = w6 at *
        have g6 : Gr wr w6 := hb.trans gC
        go_wp2_with fail
        go_roundg (L.length - (k + 1))
        case measure => omega
        case rel => exact ⟨k + 1, va, vu, st, su, by omega, rfl, by go_num, HTw.out.gr g6, HSm.out, ⟨hlast.1, by omega⟩, gr.trans g6⟩
    · obtain rfl : k = L.length := by omega
      replace HT := Lib.hid (HT.out.gr gr)
      have Hgi := Lib.hid (Tm.In_below gwr Hg.out)
      have Mk3 : Hid True := trivial
      have Mk4 : Hid True := trivial
      obtain ⟨⟨q0, q1, q2, q3⟩, _, _⟩ := HT.out.parts
      obtain ⟨hfm, hcl⟩ | ⟨E, hE, hE0⟩ : (goal.erase.formed = true ∧ goal.erase.callable = true) ∨ ∃ E : Int, ((goal.erase.formed = false ∧ E = 2) ∨ (goal.erase.formed = true ∧ goal.erase.callable = false ∧ E = 7)) ∧ (E == 0) = false := by
        cases hf : goal.erase.formed with
        | false => exact .inr ⟨2, .inl ⟨rfl, rfl⟩, rfl⟩
        | true =>
          cases hc : goal.erase.callable with
          | false => exact .inr ⟨7, .inr ⟨rfl, rfl, rfl⟩, rfl⟩
          | true => exact .inl ⟨rfl, rfl⟩
      rotate_left
      · have HE := Lib.hid hE
        have hE1 : (E != 0) = true := by simp [bne, hE0]
        clear hE
        go_wp2_with (first
          | (go_at_call 34; clear Mk3; rewrite [← Hgv.out]; refine (view_bad B goal _ Hgi.out E HE.out).mono ?_; rintro e w5 ⟨rfl, hb⟩; have g5 : Gr w2 w5 := gr.trans hb; replace HT := Lib.hid (HT.out.gr hb); replace Hgi := Lib.hid (Tm.In_below hb Hgi.out); clear hb q0 q1 q2 q3; obtain ⟨⟨q0, q1, q2, q3⟩, _, _⟩ := HT.out.parts)
          | (go_at_call 34; clear Mk4; rewrite [← Hgv.out]; refine (view_bad U goal _ Hgi.out E HE.out).mono ?_; rintro e w6 ⟨rfl, hb⟩; have g6 : Gr w2 w6 := g5.trans hb; clear hb q0 q1 q2 q3)
          | fail)
        exact hR.out _ (by simp) _ (gw2.trans g6)
      have Hfm := Lib.hid hfm
      have Hcl := Lib.hid hcl
      obtain ⟨gb, hgb, hrb⟩ := HTw.out.b.m1
      obtain ⟨pb, cb, Lb, hvb, hLb, heb⟩ := (hrb (goal.s, (goal.l.length : Int))).get
      obtain ⟨gu, hgu, hru⟩ := HTw.out.u.m1
      obtain ⟨pu, cu, Lu, hvu, hLu, heu⟩ := (hru (goal.s, (goal.l.length : Int))).get
      have HVb := Lib.hid (And.intro hgb (And.intro hvb hLb))
      have HVu := Lib.hid (And.intro hgu (And.intro hvu hLu))
      have hlb : (Lb.length : Int) ≤ st.last := by
        have h1 : Lb.length = ((st.pr (goal.s, (goal.l.length : Int))).getD []).length := by rw [← heb, List.length_map]
        rw [h1]
        cases hx : st.pr (goal.s, (goal.l.length : Int)) with
        | none => exact hlast.1
        | some E => exact HTw.out.b.bdp _ _ hx
      have HOk : Hid (eOk goal.erase (Lb.map Hd.er)) := by
        refine hds_eOk fun x hx => ?_
        rw [heb] at hx
        cases hy : st.pr (goal.s, (goal.l.length : Int)) with
        | none => rw [hy] at hx; cases hx
        | some E => rw [hy] at hx; exact HTw.out.b.hds _ _ hy x hx
      have HEq : Hid (Lb.map Hd.er = Lu.map Hd.er) := by show _ = _; rw [heb, heu, HSm.out.2]
      clear hfm hcl hgb hvb hLb hgu hvu hLu hrb hru heb heu
      go_upto_region 12 with (first
        | (go_at_call 34; clear Mk3; rewrite [← Hgv.out]; refine (view_gen (TwoS wr B w2.heap.size M2 va U N1 N2 vu) B w2.heap.size _ _ _ gb goal pb cb Lb wr HTw.out.b.blk HVb.out.1 HVb.out.2.1 HVb.out.2.2 Hgi.out Hfm.out Hcl.out).mono ?_; rintro e w5 ⟨V, pv, cv, Lv, G1, rfl, hV, hLv, heLv, hG1, eG1, oG1, nV, gv⟩; have HV := Lib.hid (And.intro hV (And.intro hLv (And.intro hG1 oG1))); have HeL := Lib.hid heLv; have EG1 := Lib.hid eG1; have NV := Lib.hid nV; replace HT := Lib.hid (HT.out.gr gv); replace Hgi := Lib.hid (Tm.In_below gv Hgi.out); clear hV hLv heLv hG1 eG1 oG1 nV q0 q1 q2 q3)
        | fail)
      obtain ⟨⟨q0, q1, q2, q3⟩, _, _⟩ := HT.out.parts
      go_upto_region 13 with (first
        | (go_at_call 34; clear Mk4; rewrite [← Hgv.out]; refine (view_gen (TwoS wr B w2.heap.size M2 va U N1 N2 vu) U N1 _ _ _ gu goal pu cu Lu w5 (HTw.out.u.blk.gr gv) (HVu.out.1.gr gv) HVu.out.2.1 (HVu.out.2.2.gr gv) Hgi.out Hfm.out Hcl.out).mono ?_; rintro e w6 ⟨Y, py, cy, Ly, G2, rfl, hY, hLy, heLy, hG2, eG2, oG2, nY, gy⟩; have HPh := Lib.hid (Ph.make HTw.out (by omega) gv gy HV.out.1 HV.out.2.1 HV.out.2.2.1 HV.out.2.2.2 NV.out hY hLy hG2 oG2 nY); have HeL2 := Lib.hid heLy; have EG2 := Lib.hid eG2; clear hY hLy heLy hG2 eG2 oG2 nY q0 q1 q2 q3)
        | fail)
      have g26 : Gr w2 w6 := (gr.trans gv).trans gy
      have hlv : Lv.length ≤ 1048576 := by
        have h1 : Lv.length = Lb.length := by have := congrArg List.length HeL.out; simpa using this
        omega
      have HOk2 : Hid (Lv.map Hd.er = Ly.map Hd.er ∧ eOk goal.erase (Lv.map Hd.er)) := by
        refine ⟨?_, ?_⟩
        · rw [HeL.out, HeL2.out, HEq.out]
        · rw [HeL.out]; exact HOk.out
      generalize hSv : (fun x => x < w6.heap.size ∧ ¬ Mut B w2.heap.size M2 va x ∧ x ≠ V ∧ x ≠ Y) = Sv at *
      clear hSv HV NV HVb HVu HeL HeL2 HEq HOk HTw HSm gv gy
      go_wp2_with fail
      obtain ⟨NN, hNM, hNO, hNb, hNe⟩ : ∃ NN : Nat, M.length ≤ NN ∧ N.length ≤ NN ∧ NN ≤ 1048576 ∧ (NN = M.length ∨ NN = N.length) := by
        by_cases h : M.length ≤ N.length
        · exact ⟨N.length, h, Nat.le_refl _, zo, .inr rfl⟩
        · exact ⟨M.length, Nat.le_refl _, by omega, zm, .inl rfl⟩
      go_loopg [18] (NN + Lv.length) (fun m i wr => ∃ (k : Nat) (va2 : Value) (st2 : BSt) (p1 : Option Addr) (c1 : Nat) (L1 : List Hd) (p2 : Option Addr) (c2 : Nat) (L2 : List Hd), m = (NN - k) + L1.length ∧ i = .int .i64 k ∧ (NN - k) + k + L1.length ≤ NN + Lv.length ∧ Hid (Ph w2.heap.size wr B w2.heap.size M2 va2 st2 V Y Sv p1 c1 L1 G1 p2 c2 L2 G2) ∧ Hid (L1.map Hd.er = L2.map Hd.er ∧ eOk goal.erase (L1.map Hd.er)) ∧ (0 ≤ st2.last ∧ st2.last ≤ L.length + k ∧ st2.last ≤ L.length + M.length) ∧ Gr w2 wr)
      case atStart => exact ⟨0, va, st, pv, cv, Lv, py, cy, Ly, by omega, rfl, by omega, HPh.out, HOk2.out, ⟨hlast.1, by omega, by omega⟩, g26⟩
      case round =>
        obtain ⟨k, va2, st2, p1, c1, L1, p2, c2, L2, rfl, rfl, hkb, HPh2, HSm, hlast2, gr2⟩ := hrel
        have grl2 := gr2.size
        clear HPh g26 HOk2 grl gr hlast
        go_upto_if 80 with fail
        go_cut [] from 75 to 156 (fun wx => ∃ (va3 : Value) (st3 : BSt), Hid (Ph w2.heap.size wx B w2.heap.size M2 va3 st3 V Y Sv p1 c1 L1 G1 p2 c2 L2 G2) ∧ (0 ≤ st3.last ∧ st3.last ≤ L.length + k + 1 ∧ st3.last ≤ L.length + M.length) ∧ Gr w2 wx)
        case first =>
          by_cases hkm : k < M.length
          · obtain ⟨bR, oR, rfl⟩ := HM.out.ptr (by omega)
            obtain ⟨⟨x0, x1, x2, x3⟩, hx, _⟩ := (HM.out.mono (gw2.trans gr2)).elem k hkm
            generalize M[k] = x at *
            have Hx := Lib.hid hx
            have Hxv := Lib.hid (show x.val = .agg #[.int .i64 x.k, .int .i64 x.n, .string x.s, .slice x.p x.l.length x.c] from rfl)
            clear hx
            rcases make_cases x.erase with ⟨h0, b0, hmk, fh, fb, hpe⟩ | ⟨E, hmk, hE⟩
            · have HMk := Lib.hid hmk
              have Fh := Lib.hid fh
              have Fb := Lib.hid fb
              have Hpe := Lib.hid hpe
              clear hmk fh fb hpe
              go_upto_region 19 with (first
                | (go_at_call 29; rewrite [← Hxv.out]; refine (Make_callsO x _ Hx.out).mono ?_; rw [HMk.out]; rintro e w7 ⟨hm, bm, rfl, hi, hi2, he, hb, o1, o2⟩; simp only [Prod.mk.injEq] at he; have Hhi := Lib.hid hi; have Hbi := Lib.hid hi2; have He := Lib.hid he; have Ho1 := Lib.hid o1; have Ho2 := Lib.hid o2; have Hcv := Lib.hid (clVal_eq hm bm); rewrite [clVal_eq]; clear hi hi2 he o1 o2 x0 x1 x2 x3)
                | fail)
              have hC : Blk8 (w7.alloc (.cells #[.int .i64 hm.k, .int .i64 hm.n, .string hm.s, .slice hm.p hm.l.length hm.c, .int .i64 bm.k, .int .i64 bm.n, .string bm.s, .slice bm.p bm.l.length bm.c] 41)) w7.heap.size (.int .i64 hm.k) (.int .i64 hm.n) (.string hm.s) (.slice hm.p hm.l.length hm.c) (.int .i64 bm.k) (.int .i64 bm.n) (.string bm.s) (.slice bm.p bm.l.length bm.c) := heap_alloc_new _ _
              have gC : Gr w7 (w7.alloc (.cells #[.int .i64 hm.k, .int .i64 hm.n, .string hm.s, .slice hm.p hm.l.length hm.c, .int .i64 bm.k, .int .i64 bm.n, .string bm.s, .slice bm.p bm.l.length bm.c] 41)) := by go_grown
              generalize w7.alloc (.cells #[.int .i64 hm.k, .int .i64 hm.n, .string hm.s, .slice hm.p hm.l.length hm.c, .int .i64 bm.k, .int .i64 bm.n, .string bm.s, .slice bm.p bm.l.length bm.c] 41) = w8 at *
              have HC := Lib.hid hC
              have g8 : Gr wr w8 := hb.trans gC
              have hs7 := hb.size
              have hs8 := gC.size
              have HMb := Lib.hid HPh2.out.b.lt
              replace HPh2 := Lib.hid (HPh2.out.gr g8)
              replace Hhi := Lib.hid (Tm.In_below gC Hhi.out)
              replace Hbi := Lib.hid (Tm.In_below gC Hbi.out)
              obtain ⟨e1, e2⟩ := He.out
              have HSmall := Lib.hid (tm_small (t := hm) (by rw [e1]; exact Fh.out))
              have Hpe2 := Lib.hid (show plainErr reserved hm.erase bm.erase = 0 by rw [e1, e2]; exact Hpe.out)
              have HFh := Lib.hid (show hm.erase.formed = true by rw [e1]; exact Fh.out)
              have HFb := Lib.hid (show bm.erase.formed = true by rw [e2]; exact Fb.out)
              obtain ⟨c0, c1', c2', c3, c4, c5, c6, c7⟩ := HC.out.cells
              go_wp2_with (first
                | (go_at_call 32; rewrite [← Hcv.out]; refine (add_gen _ B w2.heap.size M2 va2 st2 hm bm _ w8 HPh2.out.b Hhi.out Hbi.out (Ho1.out.mono fun y hy e => by subst e; have := HMb.out y (.inl rfl); omega) (Ho2.out.mono fun y hy e => by subst e; have := HMb.out y (.inl rfl); omega) (fun y hy => hy.1) Hpe2.out HFh.out HFb.out HSmall.out.1 HSmall.out.2 hlast2.1 (by omega)).mono ?_; rintro e w9 ⟨va3, st3, hadd, rfl, hB2, hk2, hown⟩; have HAdd := Lib.hid hadd; have HPh3 := Lib.hid (HPh2.out.step (by omega) hB2 hk2 hown); have g9 : Gr w2 w9 := Below.trans (gr2.trans g8) (hk2.below HPh2.out.lob (by omega)); clear hadd hB2 hk2 hown c0 c1' c2' c3 c4 c5 c6 c7)
                | fail)
              go_meet
              exact ⟨va3, st3, HPh3.out, by rw [HAdd.out.last]; exact ⟨by omega, by omega, by omega⟩, g9⟩
            · have hE2 : (E == 0) = false := beq_eq_false_iff_ne.2 hE
              have HMk := Lib.hid hmk
              clear hmk hE
              go_upto_region 19 with (first
                | (go_at_call 29; rewrite [← Hxv.out]; refine (Make_callsO x _ Hx.out).mono ?_; rw [HMk.out]; rintro e w7 ⟨hm, bm, rfl, hi, hi2, he, hb, o1, o2⟩; rewrite [clVal_eq]; clear hi hi2 he o1 o2 x0 x1 x2 x3)
                | fail)
              have gC : Gr w7 (w7.alloc (.cells #[.int .i64 hm.k, .int .i64 hm.n, .string hm.s, .slice hm.p hm.l.length hm.c, .int .i64 bm.k, .int .i64 bm.n, .string bm.s, .slice bm.p bm.l.length bm.c] 41)) := by go_grown
              generalize w7.alloc (.cells #[.int .i64 hm.k, .int .i64 hm.n, .string hm.s, .slice hm.p hm.l.length hm.c, .int .i64 bm.k, .int .i64 bm.n, .string bm.s, .slice bm.p bm.l.length bm.c] 41) = w8 at *
              have g8 : Gr wr w8 := hb.trans gC
              go_wp2_with fail
              go_meet
              exact ⟨va2, st2, HPh2.out.gr g8, ⟨by omega, by omega, by omega⟩, gr2.trans g8⟩
          · go_wp2_with fail
            go_meet
            exact ⟨va2, st2, HPh2.out, ⟨by omega, by omega, by omega⟩, gr2⟩
        case rest =>
          obtain ⟨va3, st3, HPh3, hl3, gr3⟩ := hcut
          clear HPh2 gr2 grl2 hlast2
          have grl3 := gr3.size
          go_upto_if 100 with fail
          go_cut [] from 75 to 156 (fun wx => ∃ (va4 : Value) (st4 : BSt), Hid (Ph w2.heap.size wx B w2.heap.size M2 va4 st4 V Y Sv p1 c1 L1 G1 p2 c2 L2 G2) ∧ (0 ≤ st4.last ∧ st4.last ≤ L.length + k + 1 ∧ st4.last ≤ L.length + M.length) ∧ Gr w2 wx)
          case first =>
            by_cases hkn : k < N.length
            · obtain ⟨bo, oo, hop, _, hcell⟩ := HN.out.2.2.1.resolve_left (fun e => by rw [show N = [] from e] at hkn; cases hkn)
              obtain rfl : op = some ⟨bo, oo, none⟩ := hop
              have x0 := Gr.at (gw2.trans gr3) (hcell k _ (List.getElem?_eq_getElem hkn))
              have hid : In64 N[k] := HN.out.2.2.2 _ (List.getElem_mem hkn)
              clear hcell
              generalize N[k] = id at *
              cases hw : st3.wh id with
              | none =>
                have HW := Lib.hid hw
                clear hw
                go_wp2_with (first
                  | (go_at_call 35; refine (remove_gen _ B w2.heap.size M2 va3 st3 id wc HPh3.out.b (fun y hy => hy.1) hid (by omega)).mono ?_; intro e w7 hret; obtain ⟨rfl, hb⟩ := remG_none HW.out hret; clear hret)
                  | fail)
                go_meet
                exact ⟨va3, st3, HPh3.out.gr hb, hl3, gr3.trans hb⟩
              | some kk =>
                have HW := Lib.hid hw
                clear hw
                go_wp2_with (first
                  | (go_at_call 35; refine (remove_gen _ B w2.heap.size M2 va3 st3 id wc HPh3.out.b (fun y hy => hy.1) hid (by omega)).mono ?_; intro e w7 hret; obtain ⟨va4, st4, hrem, rfl, hB2, hk2, hown⟩ := remG_some HW.out hret; have HRem := Lib.hid hrem; have HPh4 := Lib.hid (HPh3.out.step (by omega) hB2 hk2 hown); have g7 : Gr w2 w7 := Below.trans gr3 (hk2.below HPh3.out.lob (by omega)); clear hret hrem hB2 hk2 hown)
                  | fail)
                go_meet
                exact ⟨va4, st4, HPh4.out, by rw [HRem.out.last]; exact hl3, g7⟩
            · go_wp2_with fail
              go_meet
              exact ⟨va3, st3, HPh3.out, hl3, gr3⟩
          case rest =>
            obtain ⟨va4, st4, HPh4, hl4, gr4⟩ := hcut
            clear HPh3 gr3 grl3 hl3
            obtain ⟨r, hr⟩ : ∃ r, nextT goal.erase (L1.map Hd.er) = r := ⟨_, rfl⟩
            have HRr := Lib.hid hr
            have hrl := restOf_len goal.erase (L1.map Hd.er)
            have hok3 := HSm.out.2.rest
            rw [hr] at hrl hok3
            simp only [List.length_map] at hrl
            have HOk3 := Lib.hid hok3
            clear hr hok3
            have HA1 := Lib.hid (eOk.tm (G := G1) (L := L1) (by rw [EG1.out]; exact HSm.out.2))
            have HA2 := Lib.hid (eOk.tm (G := G2) (L := L2) (by rw [EG2.out, ← HSm.out.1]; exact HSm.out.2))
            have hYl := HPh4.out.u.lt
            have Mk5 : Hid True := trivial
            have Mk6 : Hid True := trivial
            have Mk7 : Hid True := trivial
            have Mk8 : Hid True := trivial
            rcases r with _ | ⟨x, rr⟩
            · have hx3 : L1.length = L1.length := rfl
              go_upto_region 24 with (first
                | (go_at_call 36; clear Mk5; refine (next_calls Sv V G1 L1 p1 c1 wc (fun h => (HPh4.out.sv V h).2.2.1 rfl) (fun y hy => (HPh4.out.sv y hy).1) HPh4.out.v HPh4.out.lv HPh4.out.gv.1 HPh4.out.gv.2 HA1.out).mono ?_; rw [EG1.out, HRr.out]; intro e w8 hret; obtain ⟨p3, c3, L3, hph, hm3, hk3, h3, b3, rfl, i3, j3, ih3, ib3, o3, q3⟩ := HPh4.out.next2 hret; have HPh5 := Lib.hid hph; have HM3 := Lib.hid hm3; have HK3 := Lib.hid hk3; have I3 := Lib.hid i3; have J3 := Lib.hid j3; have EH3 := Lib.hid ih3; have EB3 := Lib.hid ib3; have O3 := Lib.hid o3; have P3 := Lib.hid q3; rewrite [clVal_eq]; clear hret hph hm3 hk3 i3 j3 ih3 ib3 o3 q3)
                | fail)
              have hC : Blk8 (w8.alloc (.cells #[.int .i64 h3.k, .int .i64 h3.n, .string h3.s, .slice h3.p h3.l.length h3.c, .int .i64 b3.k, .int .i64 b3.n, .string b3.s, .slice b3.p b3.l.length b3.c] 41)) w8.heap.size (.int .i64 h3.k) (.int .i64 h3.n) (.string h3.s) (.slice h3.p h3.l.length h3.c) (.int .i64 b3.k) (.int .i64 b3.n) (.string b3.s) (.slice b3.p b3.l.length b3.c) := heap_alloc_new _ _
              have gC : Gr w8 (w8.alloc (.cells #[.int .i64 h3.k, .int .i64 h3.n, .string h3.s, .slice h3.p h3.l.length h3.c, .int .i64 b3.k, .int .i64 b3.n, .string b3.s, .slice b3.p b3.l.length b3.c] 41)) := by go_grown
              generalize w8.alloc (.cells #[.int .i64 h3.k, .int .i64 h3.n, .string h3.s, .slice h3.p h3.l.length h3.c, .int .i64 b3.k, .int .i64 b3.n, .string b3.s, .slice b3.p b3.l.length b3.c] 41) = w9 at *
              have HC3 := Lib.hid hC
              have hs8 := HK3.out.size
              have hs9 := gC.size
              have hc3l := hC.lt
              have g9 : Gr w2 w9 := Below.trans gr4 ((HK3.out.below (B := w2.heap.size) (fun y e => by rw [e]; exact HPh4.out.lov) gr4.size).trans (gC.mono (by have := gr4.size; omega)))
              generalize w8.heap.size = X3 at *
              replace HPh5 := Lib.hid (HPh5.out.gr gC)
              replace I3 := Lib.hid (Tm.In_below gC I3.out)
              replace J3 := Lib.hid (Tm.In_below gC J3.out)
              clear hC gC
              go_upto_region 25 with (first
                | (go_at_call 36; clear Mk6; refine (next_calls Sv Y G2 L2 p2 c2 w9 (fun h => (HPh5.out.sv Y h).2.2.2 rfl) (fun y hy => (HPh5.out.sv y hy).1) HPh5.out.u HPh5.out.lu HPh5.out.gu.1 HPh5.out.gu.2 HA2.out).mono ?_; rw [EG2.out, ← HSm.out.1, HRr.out]; intro e w10 hret; obtain ⟨p4, c4, L4, hph, hm4, hk4, h4, b4, rfl, i4, j4, ih4, ib4, o4, q4⟩ := HPh5.out.symm.next2 hret; have HPh6 := Lib.hid hph.symm; have HM4 := Lib.hid hm4; have HK4 := Lib.hid hk4; have I4 := Lib.hid i4; have J4 := Lib.hid j4; have EH4 := Lib.hid ih4; have EB4 := Lib.hid ib4; rewrite [clVal_eq]; clear hret hph hm4 hk4 i4 j4 ih4 ib4 o4 q4)
                | fail)
              have hC : Blk8 (w10.alloc (.cells #[.int .i64 h4.k, .int .i64 h4.n, .string h4.s, .slice h4.p h4.l.length h4.c, .int .i64 b4.k, .int .i64 b4.n, .string b4.s, .slice b4.p b4.l.length b4.c] 41)) w10.heap.size (.int .i64 h4.k) (.int .i64 h4.n) (.string h4.s) (.slice h4.p h4.l.length h4.c) (.int .i64 b4.k) (.int .i64 b4.n) (.string b4.s) (.slice b4.p b4.l.length b4.c) := heap_alloc_new _ _
              have gC : Gr w10 (w10.alloc (.cells #[.int .i64 h4.k, .int .i64 h4.n, .string h4.s, .slice h4.p h4.l.length h4.c, .int .i64 b4.k, .int .i64 b4.n, .string b4.s, .slice b4.p b4.l.length b4.c] 41)) := by go_grown
              generalize w10.alloc (.cells #[.int .i64 h4.k, .int .i64 h4.n, .string h4.s, .slice h4.p h4.l.length h4.c, .int .i64 b4.k, .int .i64 b4.n, .string b4.s, .slice b4.p b4.l.length b4.c] 41) = w11 at *
              have HC4 := Lib.hid hC
              have hs10 := HK4.out.size
              have hcY : ∀ y, wc.heap.size ≤ y → ¬ y = Y := fun y hy e => by omega
              replace HC3 := Lib.hid ((HC3.out.kp HK4.out (hcY _ hs8)).gr gC)
              replace I3 := Lib.hid (Tm.In_below gC (tm_kp I3.out O3.out hcY HK4.out))
              replace J3 := Lib.hid (Tm.In_below gC (tm_kp J3.out P3.out hcY HK4.out))
              replace HPh6 := Lib.hid (HPh6.out.gr gC)
              replace I4 := Lib.hid (Tm.In_below gC I4.out)
              replace J4 := Lib.hid (Tm.In_below gC J4.out)
              have g11 : Gr w2 w11 := Below.trans g9 ((HK4.out.below (B := w2.heap.size) (fun y e => by rw [e]; exact HPh4.out.lou) g9.size).trans (gC.mono (by have := g9.size; omega)))
              have V3h := Lib.hid (show h3.val = .agg #[.int .i64 h3.k, .int .i64 h3.n, .string h3.s, .slice h3.p h3.l.length h3.c] from rfl)
              have V3b := Lib.hid (show b3.val = .agg #[.int .i64 b3.k, .int .i64 b3.n, .string b3.s, .slice b3.p b3.l.length b3.c] from rfl)
              have V4h := Lib.hid (show h4.val = .agg #[.int .i64 h4.k, .int .i64 h4.n, .string h4.s, .slice h4.p h4.l.length h4.c] from rfl)
              have V4b := Lib.hid (show b4.val = .agg #[.int .i64 b4.k, .int .i64 b4.n, .string b4.s, .slice b4.p b4.l.length b4.c] from rfl)
              have HS1 := Lib.hid (show T.same h3.erase h4.erase = true by rw [EH3.out, EH4.out]; exact same_refl _)
              have HS2 := Lib.hid (show T.same b3.erase b4.erase = true by rw [EB3.out, EB4.out]; exact same_refl _)
              clear hC gC hcY
              obtain ⟨c0', c1', c2', c3', c4', c5', c6', c7'⟩ := HC3.out.cells; obtain ⟨d0', d1', d2', d3', d4', d5', d6', d7'⟩ := HC4.out.cells
              go_upto_if 142 with (first
                | (go_at_call 17; clear Mk7; rewrite [← V3h.out, ← V4h.out]; refine (same_calls I3.out I4.out).mono ?_; rw [HS1.out]; rintro e w12 ⟨rfl, hb⟩; replace HC3 := Lib.hid (HC3.out.gr hb); replace HC4 := Lib.hid (HC4.out.gr hb); replace I3 := Lib.hid (Tm.In_below hb I3.out); replace J3 := Lib.hid (Tm.In_below hb J3.out); replace I4 := Lib.hid (Tm.In_below hb I4.out); replace J4 := Lib.hid (Tm.In_below hb J4.out); replace HPh6 := Lib.hid (HPh6.out.gr hb); replace g11 := g11.trans hb; clear hb c0' c1' c2' c3' c4' c5' c6' c7' d0' d1' d2' d3' d4' d5' d6' d7'; obtain ⟨c0', c1', c2', c3', c4', c5', c6', c7'⟩ := HC3.out.cells; obtain ⟨d0', d1', d2', d3', d4', d5', d6', d7'⟩ := HC4.out.cells)
                | (go_at_call 17; clear Mk8; rewrite [← V3b.out, ← V4b.out]; refine (same_calls J3.out J4.out).mono ?_; rw [HS2.out]; rintro e w13 ⟨rfl, hb⟩; replace HC3 := Lib.hid (HC3.out.gr hb); replace HC4 := Lib.hid (HC4.out.gr hb); replace I3 := Lib.hid (Tm.In_below hb I3.out); replace J3 := Lib.hid (Tm.In_below hb J3.out); replace I4 := Lib.hid (Tm.In_below hb I4.out); replace J4 := Lib.hid (Tm.In_below hb J4.out); replace HPh6 := Lib.hid (HPh6.out.gr hb); replace g11 := g11.trans hb; clear hb c0' c1' c2' c3' c4' c5' c6' c7' d0' d1' d2' d3' d4' d5' d6' d7')
                | fail)
              have hL3 : L3.length = 0 := by have := congrArg List.length HM3.out; simpa [restOf] using this
              by_cases hkm : M.length ≤ k
              · by_cases hkn : N.length ≤ k
                · go_wp2_with fail
                  exact hR.out _ rfl _ (gw2.trans g11)
                · go_wp2_with fail
                  go_roundg (NN - (k + 1) + L3.length)
                  case measure => omega
                  case rel => exact ⟨k + 1, va4, st4, p3, c3, L3, p4, c4, L4, rfl, by go_num, by omega, HPh6.out, ⟨by rw [HM3.out, HM4.out], by rw [HM3.out]; exact HOk3.out⟩, ⟨hl4.1, by omega, hl4.2.2⟩, g11⟩
              · go_wp2_with fail
                go_roundg (NN - (k + 1) + L3.length)
                case measure => omega
                case rel => exact ⟨k + 1, va4, st4, p3, c3, L3, p4, c4, L4, rfl, by go_num, by omega, HPh6.out, ⟨by rw [HM3.out, HM4.out], by rw [HM3.out]; exact HOk3.out⟩, ⟨hl4.1, by omega, hl4.2.2⟩, g11⟩
            · have hrr : rr.length < L1.length := hrl.2 x rr rfl
              go_upto_region 24 with (first
                | (go_at_call 36; clear Mk5; refine (next_calls Sv V G1 L1 p1 c1 wc (fun h => (HPh4.out.sv V h).2.2.1 rfl) (fun y hy => (HPh4.out.sv y hy).1) HPh4.out.v HPh4.out.lv HPh4.out.gv.1 HPh4.out.gv.2 HA1.out).mono ?_; rw [EG1.out, HRr.out]; intro e w8 hret; obtain ⟨p3, c3, L3, hph, hm3, hk3, h3, b3, rfl, i3, j3, ih3, ib3, o3, q3⟩ := HPh4.out.next2 hret; have HPh5 := Lib.hid hph; have HM3 := Lib.hid hm3; have HK3 := Lib.hid hk3; have I3 := Lib.hid i3; have J3 := Lib.hid j3; have EH3 := Lib.hid ih3; have EB3 := Lib.hid ib3; have O3 := Lib.hid o3; have P3 := Lib.hid q3; rewrite [clVal_eq]; clear hret hph hm3 hk3 i3 j3 ih3 ib3 o3 q3)
                | fail)
              have hC : Blk8 (w8.alloc (.cells #[.int .i64 h3.k, .int .i64 h3.n, .string h3.s, .slice h3.p h3.l.length h3.c, .int .i64 b3.k, .int .i64 b3.n, .string b3.s, .slice b3.p b3.l.length b3.c] 41)) w8.heap.size (.int .i64 h3.k) (.int .i64 h3.n) (.string h3.s) (.slice h3.p h3.l.length h3.c) (.int .i64 b3.k) (.int .i64 b3.n) (.string b3.s) (.slice b3.p b3.l.length b3.c) := heap_alloc_new _ _
              have gC : Gr w8 (w8.alloc (.cells #[.int .i64 h3.k, .int .i64 h3.n, .string h3.s, .slice h3.p h3.l.length h3.c, .int .i64 b3.k, .int .i64 b3.n, .string b3.s, .slice b3.p b3.l.length b3.c] 41)) := by go_grown
              generalize w8.alloc (.cells #[.int .i64 h3.k, .int .i64 h3.n, .string h3.s, .slice h3.p h3.l.length h3.c, .int .i64 b3.k, .int .i64 b3.n, .string b3.s, .slice b3.p b3.l.length b3.c] 41) = w9 at *
              have HC3 := Lib.hid hC
              have hs8 := HK3.out.size
              have hs9 := gC.size
              have hc3l := hC.lt
              have g9 : Gr w2 w9 := Below.trans gr4 ((HK3.out.below (B := w2.heap.size) (fun y e => by rw [e]; exact HPh4.out.lov) gr4.size).trans (gC.mono (by have := gr4.size; omega)))
              generalize w8.heap.size = X3 at *
              replace HPh5 := Lib.hid (HPh5.out.gr gC)
              replace I3 := Lib.hid (Tm.In_below gC I3.out)
              replace J3 := Lib.hid (Tm.In_below gC J3.out)
              clear hC gC
              go_upto_region 25 with (first
                | (go_at_call 36; clear Mk6; refine (next_calls Sv Y G2 L2 p2 c2 w9 (fun h => (HPh5.out.sv Y h).2.2.2 rfl) (fun y hy => (HPh5.out.sv y hy).1) HPh5.out.u HPh5.out.lu HPh5.out.gu.1 HPh5.out.gu.2 HA2.out).mono ?_; rw [EG2.out, ← HSm.out.1, HRr.out]; intro e w10 hret; obtain ⟨p4, c4, L4, hph, hm4, hk4, h4, b4, rfl, i4, j4, ih4, ib4, o4, q4⟩ := HPh5.out.symm.next2 hret; have HPh6 := Lib.hid hph.symm; have HM4 := Lib.hid hm4; have HK4 := Lib.hid hk4; have I4 := Lib.hid i4; have J4 := Lib.hid j4; have EH4 := Lib.hid ih4; have EB4 := Lib.hid ib4; rewrite [clVal_eq]; clear hret hph hm4 hk4 i4 j4 ih4 ib4 o4 q4)
                | fail)
              have hC : Blk8 (w10.alloc (.cells #[.int .i64 h4.k, .int .i64 h4.n, .string h4.s, .slice h4.p h4.l.length h4.c, .int .i64 b4.k, .int .i64 b4.n, .string b4.s, .slice b4.p b4.l.length b4.c] 41)) w10.heap.size (.int .i64 h4.k) (.int .i64 h4.n) (.string h4.s) (.slice h4.p h4.l.length h4.c) (.int .i64 b4.k) (.int .i64 b4.n) (.string b4.s) (.slice b4.p b4.l.length b4.c) := heap_alloc_new _ _
              have gC : Gr w10 (w10.alloc (.cells #[.int .i64 h4.k, .int .i64 h4.n, .string h4.s, .slice h4.p h4.l.length h4.c, .int .i64 b4.k, .int .i64 b4.n, .string b4.s, .slice b4.p b4.l.length b4.c] 41)) := by go_grown
              generalize w10.alloc (.cells #[.int .i64 h4.k, .int .i64 h4.n, .string h4.s, .slice h4.p h4.l.length h4.c, .int .i64 b4.k, .int .i64 b4.n, .string b4.s, .slice b4.p b4.l.length b4.c] 41) = w11 at *
              have HC4 := Lib.hid hC
              have hs10 := HK4.out.size
              have hcY : ∀ y, wc.heap.size ≤ y → ¬ y = Y := fun y hy e => by omega
              replace HC3 := Lib.hid ((HC3.out.kp HK4.out (hcY _ hs8)).gr gC)
              replace I3 := Lib.hid (Tm.In_below gC (tm_kp I3.out O3.out hcY HK4.out))
              replace J3 := Lib.hid (Tm.In_below gC (tm_kp J3.out P3.out hcY HK4.out))
              replace HPh6 := Lib.hid (HPh6.out.gr gC)
              replace I4 := Lib.hid (Tm.In_below gC I4.out)
              replace J4 := Lib.hid (Tm.In_below gC J4.out)
              have g11 : Gr w2 w11 := Below.trans g9 ((HK4.out.below (B := w2.heap.size) (fun y e => by rw [e]; exact HPh4.out.lou) g9.size).trans (gC.mono (by have := g9.size; omega)))
              have V3h := Lib.hid (show h3.val = .agg #[.int .i64 h3.k, .int .i64 h3.n, .string h3.s, .slice h3.p h3.l.length h3.c] from rfl)
              have V3b := Lib.hid (show b3.val = .agg #[.int .i64 b3.k, .int .i64 b3.n, .string b3.s, .slice b3.p b3.l.length b3.c] from rfl)
              have V4h := Lib.hid (show h4.val = .agg #[.int .i64 h4.k, .int .i64 h4.n, .string h4.s, .slice h4.p h4.l.length h4.c] from rfl)
              have V4b := Lib.hid (show b4.val = .agg #[.int .i64 b4.k, .int .i64 b4.n, .string b4.s, .slice b4.p b4.l.length b4.c] from rfl)
              have HS1 := Lib.hid (show T.same h3.erase h4.erase = true by rw [EH3.out, EH4.out]; exact same_refl _)
              have HS2 := Lib.hid (show T.same b3.erase b4.erase = true by rw [EB3.out, EB4.out]; exact same_refl _)
              clear hC gC hcY
              obtain ⟨c0', c1', c2', c3', c4', c5', c6', c7'⟩ := HC3.out.cells; obtain ⟨d0', d1', d2', d3', d4', d5', d6', d7'⟩ := HC4.out.cells
              go_upto_if 142 with (first
                | (go_at_call 17; clear Mk7; rewrite [← V3h.out, ← V4h.out]; refine (same_calls I3.out I4.out).mono ?_; rw [HS1.out]; rintro e w12 ⟨rfl, hb⟩; replace HC3 := Lib.hid (HC3.out.gr hb); replace HC4 := Lib.hid (HC4.out.gr hb); replace I3 := Lib.hid (Tm.In_below hb I3.out); replace J3 := Lib.hid (Tm.In_below hb J3.out); replace I4 := Lib.hid (Tm.In_below hb I4.out); replace J4 := Lib.hid (Tm.In_below hb J4.out); replace HPh6 := Lib.hid (HPh6.out.gr hb); replace g11 := g11.trans hb; clear hb c0' c1' c2' c3' c4' c5' c6' c7' d0' d1' d2' d3' d4' d5' d6' d7'; obtain ⟨c0', c1', c2', c3', c4', c5', c6', c7'⟩ := HC3.out.cells; obtain ⟨d0', d1', d2', d3', d4', d5', d6', d7'⟩ := HC4.out.cells)
                | (go_at_call 17; clear Mk8; rewrite [← V3b.out, ← V4b.out]; refine (same_calls J3.out J4.out).mono ?_; rw [HS2.out]; rintro e w13 ⟨rfl, hb⟩; replace HC3 := Lib.hid (HC3.out.gr hb); replace HC4 := Lib.hid (HC4.out.gr hb); replace I3 := Lib.hid (Tm.In_below hb I3.out); replace J3 := Lib.hid (Tm.In_below hb J3.out); replace I4 := Lib.hid (Tm.In_below hb I4.out); replace J4 := Lib.hid (Tm.In_below hb J4.out); replace HPh6 := Lib.hid (HPh6.out.gr hb); replace g11 := g11.trans hb; clear hb c0' c1' c2' c3' c4' c5' c6' c7' d0' d1' d2' d3' d4' d5' d6' d7')
                | fail)
              have hL3 : L3.length = rr.length := by have := congrArg List.length HM3.out; simpa [restOf] using this
              go_wp2_with fail
              go_roundg (NN - (k + 1) + L3.length)
              case measure => omega
              case rel => exact ⟨k + 1, va4, st4, p3, c3, L3, p4, c4, L4, rfl, by go_num, by omega, HPh6.out, ⟨by rw [HM3.out, HM4.out], by rw [HM3.out]; exact HOk3.out⟩, ⟨hl4.1, by omega, hl4.2.2⟩, g11⟩
end Go.Proofs.Yteonakicoomjkaa
