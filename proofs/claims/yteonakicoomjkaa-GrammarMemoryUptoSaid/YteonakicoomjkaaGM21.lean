/-
  grammar's goal of a sequence
-/
import Derived.Test.YteonakicoomjkaaGM20
namespace Go.Proofs.Yteonakicoomjkaa
open Go.RowKit Go.Lib

set_option maxHeartbeats 8000000 in
set_option maxRecDepth 100000 in
theorem gw_join1 (t x y : Tm) (M : Nat) (m : Int) (w : World) (h : GIn t x y M m w) (u v : Tm) (hl : t.l = [u, v]) (hiu : goalOf u) (hiv : goalOf v) (hv : T.goal reserved t.erase x.erase y.erase m = match T.goal reserved u.erase x.erase (varT m) (m + 1) with | none => none | some (u1, m1) => match T.goal reserved v.erase (varT m) y.erase m1 with | none => none | some (u2, m2) => some (compT t.s.toList [u1, u2], m2)) (hk1 : (t.k == 1) = false) (hk2 : (t.k == 2) = false) (c_comma : t.erase.isOf sComma 2 = true) :
    Calls Try.prog 85 #[.pointer (some ⟨M, 0, none⟩), t.val, x.val, y.val] w (RetG (T.goal reserved t.erase x.erase y.erase m) M w) := by
  rw [hv]
  generalize hQ : RetG (match T.goal reserved u.erase x.erase (varT m) (m + 1) with | none => none | some (u1, m1) => match T.goal reserved v.erase (varT m) y.erase m1 with | none => none | some (u2, m2) => some (compT t.s.toList [u1, u2], m2)) M w = Q
  have HQ := Lib.hid hQ
  have H := Lib.hid h
  have hMl : M < w.heap.size := h.hM.lt
  have hm1 := h.hm
  clear hQ h hv
  have Htv := Lib.hid (show t.val = .agg #[.int .i64 t.k, .int .i64 t.n, .string t.s, .slice t.p t.l.length t.c] from rfl)
  have Hxv := Lib.hid (show x.val = .agg #[.int .i64 x.k, .int .i64 x.n, .string x.s, .slice x.p x.l.length x.c] from rfl)
  have Hyv := Lib.hid (show y.val = .agg #[.int .i64 y.k, .int .i64 y.n, .string y.s, .slice y.p y.l.length y.c] from rfl)
  have Hl := Lib.hid hl
  have Hiu := Lib.hid hiu
  have Hiv := Lib.hid hiv
  clear hl hiu hiv
  have E0 := Lib.hid (show t.erase.isOf (ByteArray.mk #[44]).toList 2 = true by rw [bl44c]; exact c_comma)
  clear c_comma
  simp only [Tm.val]
  go_enter Try.func85, Try.ntmps85
  try simp only [List.append_eq, List.cons_append, List.nil_append]
  go_upto_region 1 with fail
  obtain ⟨HT, HX, HY, HR, gA⟩ := four_blocks w (.int .i64 t.k) (.int .i64 t.n) (.string t.s) (.slice t.p t.l.length t.c) (.int .i64 x.k) (.int .i64 x.n) (.string x.s) (.slice x.p x.l.length x.c) (.int .i64 y.k) (.int .i64 y.n) (.string y.s) (.slice y.p y.l.length y.c) (.int .i64 0) (.int .i64 0) (.string ⟨#[]⟩) (.slice none 0 0) _ rfl
  generalize ((((w.alloc (.cells #[.int .i64 t.k, .int .i64 t.n, .string t.s, .slice t.p t.l.length t.c] 24)).alloc (.cells #[.int .i64 x.k, .int .i64 x.n, .string x.s, .slice x.p x.l.length x.c] 24)).alloc (.cells #[.int .i64 y.k, .int .i64 y.n, .string y.s, .slice y.p y.l.length y.c] 24)).alloc (.cells #[.int .i64 0, .int .i64 0, .string ⟨#[]⟩, .slice none 0 0] 24)) = wA at *
  have HRl := Lib.hid (show w.heap.size + 1 + 1 + 1 < wA.heap.size from HR.out.parts.2.2)
  have Hto2 := Lib.hid (Tm.On.and (on_maker H.out.hM H.out.ht) (in_ne (R := w.heap.size + 1 + 1 + 1) H.out.ht (by omega)))
  have Hxo2 := Lib.hid (Tm.On.and (on_maker H.out.hM H.out.hx) (in_ne (R := w.heap.size + 1 + 1 + 1) H.out.hx (by omega)))
  have Hyo2 := Lib.hid (Tm.On.and (on_maker H.out.hM H.out.hy) (in_ne (R := w.heap.size + 1 + 1 + 1) H.out.hy (by omega)))
  have hS2 : (∀ c, wA.heap.size ≤ c → (fun b => b ≠ M ∧ b ≠ w.heap.size + 1 + 1 + 1) c) ∧ (∀ b, (fun b => b ≠ M ∧ b ≠ w.heap.size + 1 + 1 + 1) b → b ≠ M) ∧ (∀ b, (fun b => b ≠ M ∧ b ≠ w.heap.size + 1 + 1 + 1) b → b ≠ w.heap.size + 1 + 1 + 1) ∧ (∀ b, b ≠ M → b ≠ w.heap.size + 1 + 1 + 1 → (fun b => b ≠ M ∧ b ≠ w.heap.size + 1 + 1 + 1) b) :=
    ⟨fun c hc => ⟨by have := HRl.out; omega, by have := HRl.out; omega⟩, fun _ h => h.1, fun _ h => h.2, fun _ h1 h2 => ⟨h1, h2⟩⟩
  generalize (fun b => b ≠ M ∧ b ≠ w.heap.size + 1 + 1 + 1) = S2 at Hto2 Hxo2 Hyo2 hS2
  have HS2 := Lib.hid hS2
  clear hS2
  have HSW : Hid (wA.heap.size ≤ wA.heap.size) := Nat.le_refl _
  obtain ⟨⟨t0, t1, t2, t3⟩, _, _⟩ := HT.out.parts
  obtain ⟨⟨x0, x1, x2, x3⟩, _, _⟩ := HX.out.parts
  obtain ⟨⟨y0, y1, y2, y3⟩, _, _⟩ := HY.out.parts
  go_upto_region 7 with (first
    | (go_at_call 76; rewrite [← Htv.out]; refine (is_calls _ _ _ _).mono ?_; rintro e w1 ⟨rfl, hb⟩; (first | rewrite [E0.out] | rewrite [E1.out] | rewrite [E2.out] | rewrite [E3.out] | rewrite [E4.out] | rewrite [E5.out] | rewrite [E6.out] | rewrite [E7.out] | rewrite [E8.out]); replace gA := Gr.trans gA hb; replace HSW := Lib.hid (Nat.le_trans HSW.out hb.size); replace HT := Lib.hid (HT.out.gr hb); replace HX := Lib.hid (HX.out.gr hb); replace HY := Lib.hid (HY.out.gr hb); replace HR := Lib.hid (HR.out.gr hb); clear t0 t1 t2 t3 x0 x1 x2 x3 y0 y1 y2 y3 hb; obtain ⟨⟨t0, t1, t2, t3⟩, _, _⟩ := HT.out.parts; obtain ⟨⟨x0, x1, x2, x3⟩, _, _⟩ := HX.out.parts; obtain ⟨⟨y0, y1, y2, y3⟩, _, _⟩ := HY.out.parts)
    | fail)
  have gw := gA
  have hM1 := H.out.hM.gr gw
  obtain ⟨bt, ot, hp, ⟨hui, u0, u1, u2, u3⟩, hvi, v0, v1, v2, v3⟩ := args_two Hl.out (Tm.In_below gw H.out.ht)
  have hbM : bt ≠ M := by
    have h1 := on_maker H.out.hM H.out.ht
    obtain ⟨k, n, s, p, c, l⟩ := t
    have hl := Hl.out
    simp only [Tm.l] at hl
    subst hl
    rw [Tm.On] at h1
    rcases h1.1 with h2 | ⟨b', o', hp', h3⟩
    · cases h2
    · simp only [Tm.p] at hp
      rw [hp] at hp'
      cases hp'
      exact h3
  have HP := Lib.hid hp
  have Hui := Lib.hid hui
  have Hvi := Lib.hid hvi
  have Huv := Lib.hid (show u.val = .agg #[.int .i64 u.k, .int .i64 u.n, .string u.s, .slice u.p u.l.length u.c] from rfl)
  have Hvv := Lib.hid (show v.val = .agg #[.int .i64 v.k, .int .i64 v.n, .string v.s, .slice v.p v.l.length v.c] from rfl)
  have Htf := Lib.hid (two_formed Hl.out H.out.hf)
  have hsz := Htf.out.2
  clear hui hvi hp
  have hm2 : m + 1 ≤ 1099515822080 ∧ m + 1 + (u.erase.size : Int) ≤ 1099515822080 := by omega
  go_upto_region 8 with (first
    | (go_at_call 81; refine (anew_calls M m _ hM1 ⟨by omega, by omega⟩).mono ?_; rintro e w2 ⟨rfl, hM2, hK2⟩; have HM2 := Lib.hid hM2; have HK2 := Lib.hid hK2; rewrite [varTm_val]; clear hM2 hK2)
    | fail)
  have hB0 := Blk4.new w2 (.int .i64 1) (.int .i64 m) (.string ⟨#[]⟩) (.slice none 0 0)
  have gB : Gr w2 (w2.alloc (.cells #[.int .i64 1, .int .i64 m, .string ⟨#[]⟩, .slice none 0 0] 24)) := by go_grown
  have hpv : w2.heap.size < (w2.alloc (.cells #[.int .i64 1, .int .i64 m, .string ⟨#[]⟩, .slice none 0 0] 24)).heap.size := by simp
  generalize w2.alloc (.cells #[.int .i64 1, .int .i64 m, .string ⟨#[]⟩, .slice none 0 0] 24) = w3 at *
  have k13 : Kp (· = M) w1 w3 := HK2.out.trans (Kp.of_gr gB)
  have kw : Kp (· = M) w w3 := (Kp.of_gr gw).trans k13
  have hM3 : MakerAt M (m + 1) w3 := HM2.out.gr gB
  replace HT := Lib.hid (HT.out.kp k13 (by omega))
  replace HX := Lib.hid (HX.out.kp k13 (by omega))
  replace HY := Lib.hid (HY.out.kp k13 (by omega))
  replace HR := Lib.hid (HR.out.kp k13 (by omega))
  have HV := Lib.hid hB0
  have hwv : w.heap.size + 1 + 1 + 1 < w2.heap.size := by have := HR.out.parts.2.2; have := HK2.out.size; have := HRl.out; have := HSW.out; omega
  have HSV := Lib.hid (show w1.heap.size ≤ w3.heap.size from k13.size)
  have HZ : Hid (∀ b, w3.heap.size ≤ b → ¬ (b = M)) := fun b hb => by have := kw.size; omega
  replace u0 := Kp.cell k13 u0 (show ¬ (bt = M) from hbM)
  replace u1 := Kp.cell k13 u1 (show ¬ (bt = M) from hbM)
  replace u2 := Kp.cell k13 u2 (show ¬ (bt = M) from hbM)
  replace u3 := Kp.cell k13 u3 (show ¬ (bt = M) from hbM)
  replace v0 := Kp.cell k13 v0 (show ¬ (bt = M) from hbM)
  replace v1 := Kp.cell k13 v1 (show ¬ (bt = M) from hbM)
  replace v2 := Kp.cell k13 v2 (show ¬ (bt = M) from hbM)
  replace v3 := Kp.cell k13 v3 (show ¬ (bt = M) from hbM)
  have HuO := Lib.hid (on_maker hM1 Hui.out)
  have HvO := Lib.hid (on_maker hM1 Hvi.out)
  have Hu3 := Lib.hid (in_kp Hui.out HuO.out (fun _ h => h) k13)
  have Hv3 := Lib.hid (in_kp Hvi.out HvO.out (fun _ h => h) k13)
  have HxO := Lib.hid (on_maker H.out.hM H.out.hx)
  have HyO := Lib.hid (on_maker H.out.hM H.out.hy)
  have Hx3 := Lib.hid (in_kp H.out.hx HxO.out (fun _ h => h) kw)
  have Hy3 := Lib.hid (in_kp H.out.hy HyO.out (fun _ h => h) kw)
  have HM3 := Lib.hid hM3
  have Hvm := Lib.hid (show (varTm m).val = .agg #[.int .i64 1, .int .i64 m, .string ⟨#[]⟩, .slice none 0 0] from rfl)
  have hpvM : w2.heap.size ≠ M := by omega
  generalize w2.heap.size = pv at *
  clear hM3 hB0 gB t0 t1 t2 t3 x0 x1 x2 x3 y0 y1 y2 y3 k13
  obtain ⟨⟨t0, t1, t2, t3⟩, _, _⟩ := HT.out.parts
  obtain ⟨⟨x0, x1, x2, x3⟩, _, _⟩ := HX.out.parts
  obtain ⟨⟨y0, y1, y2, y3⟩, _, _⟩ := HY.out.parts
  obtain ⟨⟨z0, z1, z2, z3⟩, _, _⟩ := HV.out.parts
  rw [HP.out, Hl.out] at t3
  refine wp_region_relyJ 9 [fx (.pointer (some ⟨M, 0, none⟩)), fx (.pointer (some ⟨w.heap.size, 3, none⟩)), fx (.slice (some ⟨bt, ot, none⟩) 2 t.c), fx (.pointer (some ⟨bt, ot, none⟩)), fx (.agg #[.int .i64 u.k, .int .i64 u.n, .string u.s, .slice u.p u.l.length u.c]), fx (.agg #[.int .i64 x.k, .int .i64 x.n, .string x.s, .slice x.p x.l.length x.c]), fx (.agg #[.int .i64 1, .int .i64 m, .string ⟨#[]⟩, .slice none 0 0]), okTm S2 ((T.goal reserved u.erase x.erase (varT m) (m + 1)).map Prod.fst), zeroBlk w3.heap.size]
    (fun w w' => Kp (· = M) w w') (JG 7 (MakerAt M (m + 1)) (fun w' => ∃ u' m', T.goal reserved u.erase x.erase (varT m) (m + 1) = some (u', m') ∧ MakerAt M m' w')) (by kernel_rfl) (by kernel_rfl) (by decide) (by kernel_rfl) (fun _ _ h => Kp.of_gr h) (fun _ _ _ h k => Kp.trans h k) (fun _ hg => JG.start (HM3.out.gr hg)) (by repeat (first | exact StableR.nil | refine StableR.fix ?_ | refine StableR.cons (okTm_kp HS2.out.2.1) ?_ | refine StableR.cons (okSl_kp HS2.out.2.1) ?_ | refine StableR.cons (tmIs_kp HS2.out.2.1) ?_ | refine StableR.cons (zeroBlk_kp HZ.out) ?_)) ?_ ?_
  · refine ⟨stepJ_plain (fun _ _ h => Kp.of_gr h) (fun _ _ _ hj hg => JG.other (by decide : 0 ≠ 7) (fun h => MakerAt.gr h hg) (fun ⟨u', m', h1, h2⟩ => ⟨u', m', h1, h2.gr hg⟩) hj) ?_, stepJ_plain (fun _ _ h => Kp.of_gr h) (fun _ _ _ hj hg => JG.other (by decide : 1 ≠ 7) (fun h => MakerAt.gr h hg) (fun ⟨u', m', h1, h2⟩ => ⟨u', m', h1, h2.gr hg⟩) hj) ?_, stepJ_plain (fun _ _ h => Kp.of_gr h) (fun _ _ _ hj hg => JG.other (by decide : 2 ≠ 7) (fun h => MakerAt.gr h hg) (fun ⟨u', m', h1, h2⟩ => ⟨u', m', h1, h2.gr hg⟩) hj) ?_, stepJ_plain (fun _ _ h => Kp.of_gr h) (fun _ _ _ hj hg => JG.other (by decide : 3 ≠ 7) (fun h => MakerAt.gr h hg) (fun ⟨u', m', h1, h2⟩ => ⟨u', m', h1, h2.gr hg⟩) hj) ?_, stepJ_plain (fun _ _ h => Kp.of_gr h) (fun _ _ _ hj hg => JG.other (by decide : 4 ≠ 7) (fun h => MakerAt.gr h hg) (fun ⟨u', m', h1, h2⟩ => ⟨u', m', h1, h2.gr hg⟩) hj) ?_, stepJ_plain (fun _ _ h => Kp.of_gr h) (fun _ _ _ hj hg => JG.other (by decide : 5 ≠ 7) (fun h => MakerAt.gr h hg) (fun ⟨u', m', h1, h2⟩ => ⟨u', m', h1, h2.gr hg⟩) hj) ?_, stepJ_plain (fun _ _ h => Kp.of_gr h) (fun _ _ _ hj hg => JG.other (by decide : 6 ≠ 7) (fun h => MakerAt.gr h hg) (fun ⟨u', m', h1, h2⟩ => ⟨u', m', h1, h2.gr hg⟩) hj) ?_, ?a7, stepJ_plain (fun _ _ h => Kp.of_gr h) (fun _ _ _ hj hg => JG.other (by decide : 8 ≠ 7) (fun h => MakerAt.gr h hg) (fun ⟨u', m', h1, h2⟩ => ⟨u', m', h1, h2.gr hg⟩) hj) ?b8, trivial⟩
    case a7 =>
      intro listed fr wr hj hl hpre hg hdef hold
      have Hdef := Lib.hid hdef
      clear hdef
      have h0 : fr.tmps[0]?.getD undef = .pointer (some ⟨M, 0, none⟩) := hold 0 rfl
      have h5 : fr.tmps[5]?.getD undef = .pointer (some ⟨w.heap.size, 0, none⟩) := hold 5 rfl
      have h6 : fr.tmps[6]?.getD undef = .pointer (some ⟨w.heap.size + 1, 0, none⟩) := hold 6 rfl
      have h7 : fr.tmps[7]?.getD undef = .pointer (some ⟨w.heap.size + 1 + 1, 0, none⟩) := hold 7 rfl
      have h9 : fr.tmps[9]?.getD undef = .pointer (some ⟨pv, 0, none⟩) := hold 9 rfl
      clear hold
      have t0' := Kp.cell hg t0 (show ¬ (w.heap.size = M) by omega)
      have t1' := Kp.cell hg t1 (show ¬ (w.heap.size = M) by omega)
      have t2' := Kp.cell hg t2 (show ¬ (w.heap.size = M) by omega)
      have t3' := Kp.cell hg t3 (show ¬ (w.heap.size = M) by omega)
      have x0' := Kp.cell hg x0 (show ¬ (w.heap.size + 1 = M) by omega)
      have x1' := Kp.cell hg x1 (show ¬ (w.heap.size + 1 = M) by omega)
      have x2' := Kp.cell hg x2 (show ¬ (w.heap.size + 1 = M) by omega)
      have x3' := Kp.cell hg x3 (show ¬ (w.heap.size + 1 = M) by omega)
      have y0' := Kp.cell hg y0 (show ¬ (w.heap.size + 1 + 1 = M) by omega)
      have y1' := Kp.cell hg y1 (show ¬ (w.heap.size + 1 + 1 = M) by omega)
      have y2' := Kp.cell hg y2 (show ¬ (w.heap.size + 1 + 1 = M) by omega)
      have y3' := Kp.cell hg y3 (show ¬ (w.heap.size + 1 + 1 = M) by omega)
      have z0' := Kp.cell hg z0 (show ¬ (pv = M) by omega)
      have z1' := Kp.cell hg z1 (show ¬ (pv = M) by omega)
      have z2' := Kp.cell hg z2 (show ¬ (pv = M) by omega)
      have z3' := Kp.cell hg z3 (show ¬ (pv = M) by omega)
      have u0' := Kp.cell hg u0 (show ¬ (bt = M) by omega)
      have u1' := Kp.cell hg u1 (show ¬ (bt = M) by omega)
      have u2' := Kp.cell hg u2 (show ¬ (bt = M) by omega)
      have u3' := Kp.cell hg u3 (show ¬ (bt = M) by omega)
      have v0' := Kp.cell hg v0 (show ¬ (bt = M) by omega)
      have v1' := Kp.cell hg v1 (show ¬ (bt = M) by omega)
      have v2' := Kp.cell hg v2 (show ¬ (bt = M) by omega)
      have v3' := Kp.cell hg v3 (show ¬ (bt = M) by omega)
      have Kr : Hid (Kp (· = M) w wr) := kw.trans hg
      have Hg : Hid (Kp (· = M) w3 wr) := hg
      clear t0 t1 t2 t3 x0 x1 x2 x3 y0 y1 y2 y3 z0 z1 z2 z3 u0 u1 u2 u3 v0 v1 v2 v3
      simp [predsImp, Region.binds, dstAt, fx]
      intros
      rename_i K hK
      go_simp
      rewrite [← Huv.out, ← Hxv.out, ← Hvm.out]
      have hMr := JG.before hj hl
      have hcall := Hiu.out x (varTm m) M (m + 1) wr ⟨in_kp Hu3.out HuO.out (fun _ h => h) Hg.out, in_kp Hx3.out HxO.out (fun _ h => h) Hg.out, varTm_in' ⟨by omega, by omega⟩ wr, hMr, Htf.out.1.1, H.out.fx, by rw [varTm_erase]; exact varT_fmd ⟨by omega, by omega⟩, by omega, by omega⟩
      rw [varTm_erase] at hcall
      refine hcall.mono ?_
      rintro e w10 (⟨a1, m1, hg1, bm, rfl, hin, he, hM10, hk10⟩ | ⟨hg1, ⟨c9, rfl⟩, hk10⟩)
      · have hfd := (goal_fmd reserved _ u.erase x.erase (varT m) a1 (m + 1) m1 (Nat.le_refl _) Htf.out.1.1 H.out.fx (varT_fmd ⟨by omega, by omega⟩) (by omega) (by omega) hg1).1
        exact hK _ _ ⟨a1, by rw [hg1]; rfl, bm, rfl, hin, he, (Tm.On.and (on_maker hM10 hin) (on_zero (HR.out.kp (Hg.out.trans hk10) (by omega)) hin (by rw [he]; exact hfd))).mono fun b hb => HS2.out.2.2.2 b hb.1 hb.2⟩ hk10 (JG.after hl ⟨a1, m1, hg1, hM10⟩)
      · refine (show bodyPost _ _ _ (.panic _) _ _ from ⟨Hdef.out, ?_⟩)
        rw [← HQ.out, hg1]
        exact .inr ⟨rfl, ⟨_, rfl⟩, Kr.out.trans hk10⟩
    case b8 =>
      intro fr wr hg hold
      have h0 : fr.tmps[0]?.getD undef = .pointer (some ⟨M, 0, none⟩) := hold 0 rfl
      have h5 : fr.tmps[5]?.getD undef = .pointer (some ⟨w.heap.size, 0, none⟩) := hold 5 rfl
      have h6 : fr.tmps[6]?.getD undef = .pointer (some ⟨w.heap.size + 1, 0, none⟩) := hold 6 rfl
      have h7 : fr.tmps[7]?.getD undef = .pointer (some ⟨w.heap.size + 1 + 1, 0, none⟩) := hold 7 rfl
      have h9 : fr.tmps[9]?.getD undef = .pointer (some ⟨pv, 0, none⟩) := hold 9 rfl
      clear hold
      have t0' := Kp.cell hg t0 (show ¬ (w.heap.size = M) by omega)
      have t1' := Kp.cell hg t1 (show ¬ (w.heap.size = M) by omega)
      have t2' := Kp.cell hg t2 (show ¬ (w.heap.size = M) by omega)
      have t3' := Kp.cell hg t3 (show ¬ (w.heap.size = M) by omega)
      have x0' := Kp.cell hg x0 (show ¬ (w.heap.size + 1 = M) by omega)
      have x1' := Kp.cell hg x1 (show ¬ (w.heap.size + 1 = M) by omega)
      have x2' := Kp.cell hg x2 (show ¬ (w.heap.size + 1 = M) by omega)
      have x3' := Kp.cell hg x3 (show ¬ (w.heap.size + 1 = M) by omega)
      have y0' := Kp.cell hg y0 (show ¬ (w.heap.size + 1 + 1 = M) by omega)
      have y1' := Kp.cell hg y1 (show ¬ (w.heap.size + 1 + 1 = M) by omega)
      have y2' := Kp.cell hg y2 (show ¬ (w.heap.size + 1 + 1 = M) by omega)
      have y3' := Kp.cell hg y3 (show ¬ (w.heap.size + 1 + 1 = M) by omega)
      have z0' := Kp.cell hg z0 (show ¬ (pv = M) by omega)
      have z1' := Kp.cell hg z1 (show ¬ (pv = M) by omega)
      have z2' := Kp.cell hg z2 (show ¬ (pv = M) by omega)
      have z3' := Kp.cell hg z3 (show ¬ (pv = M) by omega)
      have u0' := Kp.cell hg u0 (show ¬ (bt = M) by omega)
      have u1' := Kp.cell hg u1 (show ¬ (bt = M) by omega)
      have u2' := Kp.cell hg u2 (show ¬ (bt = M) by omega)
      have u3' := Kp.cell hg u3 (show ¬ (bt = M) by omega)
      have v0' := Kp.cell hg v0 (show ¬ (bt = M) by omega)
      have v1' := Kp.cell hg v1 (show ¬ (bt = M) by omega)
      have v2' := Kp.cell hg v2 (show ¬ (bt = M) by omega)
      have v3' := Kp.cell hg v3 (show ¬ (bt = M) by omega)
      have Kr : Hid (Kp (· = M) w wr) := kw.trans hg
      have Hg : Hid (Kp (· = M) w3 wr) := hg
      clear t0 t1 t2 t3 x0 x1 x2 x3 y0 y1 y2 y3 z0 z1 z2 z3 u0 u1 u2 u3 v0 v1 v2 v3
      simp [predsImp]
      intro K hK
      go_simp
      exact hK _ _ ⟨_, rfl, hg.size, Blk4.new _ _ _ _ _⟩ (by go_grown)
    all_goals
      intro fr wr hg hold
      have h0 : fr.tmps[0]?.getD undef = .pointer (some ⟨M, 0, none⟩) := hold 0 rfl
      have h5 : fr.tmps[5]?.getD undef = .pointer (some ⟨w.heap.size, 0, none⟩) := hold 5 rfl
      have h6 : fr.tmps[6]?.getD undef = .pointer (some ⟨w.heap.size + 1, 0, none⟩) := hold 6 rfl
      have h7 : fr.tmps[7]?.getD undef = .pointer (some ⟨w.heap.size + 1 + 1, 0, none⟩) := hold 7 rfl
      have h9 : fr.tmps[9]?.getD undef = .pointer (some ⟨pv, 0, none⟩) := hold 9 rfl
      clear hold
      have t0' := Kp.cell hg t0 (show ¬ (w.heap.size = M) by omega)
      have t1' := Kp.cell hg t1 (show ¬ (w.heap.size = M) by omega)
      have t2' := Kp.cell hg t2 (show ¬ (w.heap.size = M) by omega)
      have t3' := Kp.cell hg t3 (show ¬ (w.heap.size = M) by omega)
      have x0' := Kp.cell hg x0 (show ¬ (w.heap.size + 1 = M) by omega)
      have x1' := Kp.cell hg x1 (show ¬ (w.heap.size + 1 = M) by omega)
      have x2' := Kp.cell hg x2 (show ¬ (w.heap.size + 1 = M) by omega)
      have x3' := Kp.cell hg x3 (show ¬ (w.heap.size + 1 = M) by omega)
      have y0' := Kp.cell hg y0 (show ¬ (w.heap.size + 1 + 1 = M) by omega)
      have y1' := Kp.cell hg y1 (show ¬ (w.heap.size + 1 + 1 = M) by omega)
      have y2' := Kp.cell hg y2 (show ¬ (w.heap.size + 1 + 1 = M) by omega)
      have y3' := Kp.cell hg y3 (show ¬ (w.heap.size + 1 + 1 = M) by omega)
      have z0' := Kp.cell hg z0 (show ¬ (pv = M) by omega)
      have z1' := Kp.cell hg z1 (show ¬ (pv = M) by omega)
      have z2' := Kp.cell hg z2 (show ¬ (pv = M) by omega)
      have z3' := Kp.cell hg z3 (show ¬ (pv = M) by omega)
      have u0' := Kp.cell hg u0 (show ¬ (bt = M) by omega)
      have u1' := Kp.cell hg u1 (show ¬ (bt = M) by omega)
      have u2' := Kp.cell hg u2 (show ¬ (bt = M) by omega)
      have u3' := Kp.cell hg u3 (show ¬ (bt = M) by omega)
      have v0' := Kp.cell hg v0 (show ¬ (bt = M) by omega)
      have v1' := Kp.cell hg v1 (show ¬ (bt = M) by omega)
      have v2' := Kp.cell hg v2 (show ¬ (bt = M) by omega)
      have v3' := Kp.cell hg v3 (show ¬ (bt = M) by omega)
      have Kr : Hid (Kp (· = M) w wr) := kw.trans hg
      have Hg : Hid (Kp (· = M) w3 wr) := hg
      clear t0 t1 t2 t3 x0 x1 x2 x3 y0 y1 y2 y3 z0 z1 z2 z3 u0 u1 u2 u3 v0 v1 v2 v3
      simp [predsImp, Region.binds, dstAt, fx]
      intros
      rename_i K hK
      go_simp
    all_goals exact hK _ _ rfl (Gr.rfl' _)
  · intro w9 hg hj
    rintro _ rfl _ rfl _ rfl _ rfl _ rfl _ rfl _ rfl v7 ⟨a0, ha0, bm, rfl, hin, he, hon⟩ v8 ⟨B, rfl, hB, hz⟩
    obtain ⟨a1, m1, hg1, hM9⟩ := JG.done hj (by decide)
    have hk9 : Kp (· = M) w3 w9 := hg
    rw [hg1] at ha0
    obtain rfl : a1 = a0 := Option.some.inj ha0
    have hgd := goal_fmd reserved _ u.erase x.erase (varT m) a1 (m + 1) m1 (Nat.le_refl _) Htf.out.1.1 H.out.fx (varT_fmd ⟨by omega, by omega⟩) (by omega) (by omega) hg1
    have hm3 : m1 + (v.erase.size : Int) ≤ 1099515822080 ∧ 0 ≤ m1 := by omega
    have hbO : bm.On (· ≠ B) := on_zero hz hin (by rw [he]; exact hgd.1)
    have HG1 := Lib.hid hg1
    have HE := Lib.hid he
    have HFd := Lib.hid hgd.1
    have hBM : B ≠ M := by have := kw.size; omega
    have hBw : w.heap.size + 1 + 1 + 1 < B ∧ w.heap.size ≤ B := by omega
    have hBpv : pv ≠ B := by omega
    have hub : bt ≠ B := by have := World.block_lt_of_cell? _ _ u0; simp only at this; omega
    replace kw := kw.trans hk9
    replace HT := Lib.hid (HT.out.kp hk9 (by omega))
    replace HX := Lib.hid (HX.out.kp hk9 (by omega))
    replace HY := Lib.hid (HY.out.kp hk9 (by omega))
    replace HR := Lib.hid (HR.out.kp hk9 (by omega))
    replace HV := Lib.hid (HV.out.kp hk9 (by omega))
    have HvO3 := Lib.hid Hv3.out.on
    have HyO3 := Lib.hid Hy3.out.on
    replace Hv3 := Lib.hid (in_kp Hv3.out HvO.out (fun _ h => h) hk9)
    replace Hy3 := Lib.hid (in_kp Hy3.out HyO.out (fun _ h => h) hk9)
    replace v0 := Kp.cell hk9 v0 (show ¬ (bt = M) from hbM)
    replace v1 := Kp.cell hk9 v1 (show ¬ (bt = M) from hbM)
    replace v2 := Kp.cell hk9 v2 (show ¬ (bt = M) from hbM)
    replace v3 := Kp.cell hk9 v3 (show ¬ (bt = M) from hbM)
    have Hin := Lib.hid hin
    have Hbv := Lib.hid (show bm.val = .agg #[.int .i64 bm.k, .int .i64 bm.n, .string bm.s, .slice bm.p bm.l.length bm.c] from rfl)
    obtain ⟨⟨r0, r1, r2, r3⟩, ⟨f0, f1, f2, f3⟩, hlt⟩ := hz.parts
    have HZb := Lib.hid hz
    have HM9 := Lib.hid hM9
    have Hk9s := Lib.hid hk9.size
    clear hin he hon hg hj hg1 ha0 hgd hz hM9 hk9 t0 t1 t2 t3 x0 x1 x2 x3 y0 y1 y2 y3 z0 z1 z2 z3 u0 u1 u2 u3
    rw [Hbv.out]
    simp only [finAll, Act.put, List.setIfInBounds_toArray, List.set_cons_succ, List.set_cons_zero, List.drop_succ_cons, List.drop_zero, List.take_zero]
    go_upto_region 9 with fail
    have kB : Kp (· = B) w9 ((((w9.setCell ⟨B, 0, none⟩ (.int .i64 bm.k)).setCell ⟨B, 1, none⟩ (.int .i64 bm.n)).setCell ⟨B, 2, none⟩ (.string bm.s)).setCell ⟨B, 3, none⟩ (.slice bm.p bm.l.length bm.c)) := Kp.set4 (C := fun b => b = B) rfl
    have hBb := blk4_set4 HZb.out (.int .i64 bm.k) (.int .i64 bm.n) (.string bm.s) (.slice bm.p bm.l.length bm.c)
    generalize ((((w9.setCell ⟨B, 0, none⟩ (.int .i64 bm.k)).setCell ⟨B, 1, none⟩ (.int .i64 bm.n)).setCell ⟨B, 2, none⟩ (.string bm.s)).setCell ⟨B, 3, none⟩ (.slice bm.p bm.l.length bm.c)) = wB at *
    have kwB : Kp (· = M) w wB := ((kw.mono (C' := fun b => b = M ∨ b = B) fun _ h => .inl h).trans (kB.mono fun _ h => .inr h)).weaken fun b hb hc => hc.resolve_right (by omega)
    have HMB := Lib.hid (HM9.out.kp kB (by omega))
    have HbmB := Lib.hid (in_kp Hin.out hbO (fun _ h => h) kB)
    have HvB := Lib.hid (in_kp Hv3.out HvO3.out (fun b hb => (by have : b < w3.heap.size := hb; omega)) kB)
    have HyB := Lib.hid (in_kp Hy3.out HyO3.out (fun b hb => (by have : b < w3.heap.size := hb; omega)) kB)
    replace HT := Lib.hid (HT.out.kp kB (by omega))
    replace HY := Lib.hid (HY.out.kp kB (by omega))
    replace HR := Lib.hid (HR.out.kp kB (by omega))
    replace HV := Lib.hid (HV.out.kp kB (by omega))
    have HBk := Lib.hid hBb
    have HbO2 : Hid (bm.On S2) := (Tm.On.and (on_maker HMB.out HbmB.out) (on_zero HR.out HbmB.out (by rw [HE.out]; exact HFd.out))).mono fun b hb => HS2.out.2.2.2 b hb.1 hb.2
    have hub2 : bt ≠ B := hub
    replace v0 := Kp.cell kB v0 (show ¬ (bt = B) from hub)
    replace v1 := Kp.cell kB v1 (show ¬ (bt = B) from hub)
    replace v2 := Kp.cell kB v2 (show ¬ (bt = B) from hub)
    replace v3 := Kp.cell kB v3 (show ¬ (bt = B) from hub)
    have hsB := kB.size
    have HSB : Hid (∀ c, wB.heap.size ≤ c → S2 c) := fun c hc => HS2.out.1 c (by have := HSW.out; have := Hk9s.out; have := HSV.out; omega)
    clear kB hBb r0 r1 r2 r3 f0 f1 f2 f3 hlt hbO HZ
    obtain ⟨⟨t0, t1, t2, t3⟩, _, _⟩ := HT.out.parts
    obtain ⟨⟨y0, y1, y2, y3⟩, _, _⟩ := HY.out.parts
    obtain ⟨⟨z0, z1, z2, z3⟩, _, _⟩ := HV.out.parts
    obtain ⟨⟨r0, r1, r2, r3⟩, _, _⟩ := HBk.out.parts
    rw [HP.out, Hl.out] at t3
    refine wp_region_relyJ 13 [fx (.pointer (some ⟨w.heap.size, 2, none⟩)), fx (.string t.s), fx (.agg #[.int .i64 bm.k, .int .i64 bm.n, .string bm.s, .slice bm.p bm.l.length bm.c]), fx (.pointer (some ⟨M, 0, none⟩)), fx (.pointer (some ⟨w.heap.size, 3, none⟩)), fx (.slice (some ⟨bt, ot, none⟩) 2 t.c), fx (.pointer (some ⟨bt, ot + 4, none⟩)), fx (.agg #[.int .i64 v.k, .int .i64 v.n, .string v.s, .slice v.p v.l.length v.c]), fx (.agg #[.int .i64 1, .int .i64 m, .string ⟨#[]⟩, .slice none 0 0]), fx (.agg #[.int .i64 y.k, .int .i64 y.n, .string y.s, .slice y.p y.l.length y.c]), okTm S2 ((T.goal reserved v.erase (varT m) y.erase m1).map Prod.fst), okSl S2 ((T.goal reserved v.erase (varT m) y.erase m1).map fun r => [a1, r.1]), okTm S2 ((T.goal reserved v.erase (varT m) y.erase m1).map fun r => compT t.s.toList [a1, r.1])]
      (fun w w' => Kp (· = M) w w') (JG 10 (MakerAt M m1) (fun w' => ∃ u' m', T.goal reserved v.erase (varT m) y.erase m1 = some (u', m') ∧ MakerAt M m' w')) (by kernel_rfl) (by kernel_rfl) (by decide) (by kernel_rfl) (fun _ _ h => Kp.of_gr h) (fun _ _ _ h k => Kp.trans h k) (fun _ hg => JG.start (HMB.out.gr hg)) (by repeat (first | exact StableR.nil | refine StableR.fix ?_ | refine StableR.cons (okTm_kp HS2.out.2.1) ?_ | refine StableR.cons (okSl_kp HS2.out.2.1) ?_ | refine StableR.cons (tmIs_kp HS2.out.2.1) ?_)) ?_ ?_
    · refine ⟨stepJ_plain (fun _ _ h => Kp.of_gr h) (fun _ _ _ hj hg => JG.other (by decide : 0 ≠ 10) (fun h => MakerAt.gr h hg) (fun ⟨u', m', h1, h2⟩ => ⟨u', m', h1, h2.gr hg⟩) hj) ?_, stepJ_plain (fun _ _ h => Kp.of_gr h) (fun _ _ _ hj hg => JG.other (by decide : 1 ≠ 10) (fun h => MakerAt.gr h hg) (fun ⟨u', m', h1, h2⟩ => ⟨u', m', h1, h2.gr hg⟩) hj) ?_, stepJ_plain (fun _ _ h => Kp.of_gr h) (fun _ _ _ hj hg => JG.other (by decide : 2 ≠ 10) (fun h => MakerAt.gr h hg) (fun ⟨u', m', h1, h2⟩ => ⟨u', m', h1, h2.gr hg⟩) hj) ?_, stepJ_plain (fun _ _ h => Kp.of_gr h) (fun _ _ _ hj hg => JG.other (by decide : 3 ≠ 10) (fun h => MakerAt.gr h hg) (fun ⟨u', m', h1, h2⟩ => ⟨u', m', h1, h2.gr hg⟩) hj) ?_, stepJ_plain (fun _ _ h => Kp.of_gr h) (fun _ _ _ hj hg => JG.other (by decide : 4 ≠ 10) (fun h => MakerAt.gr h hg) (fun ⟨u', m', h1, h2⟩ => ⟨u', m', h1, h2.gr hg⟩) hj) ?_, stepJ_plain (fun _ _ h => Kp.of_gr h) (fun _ _ _ hj hg => JG.other (by decide : 5 ≠ 10) (fun h => MakerAt.gr h hg) (fun ⟨u', m', h1, h2⟩ => ⟨u', m', h1, h2.gr hg⟩) hj) ?_, stepJ_plain (fun _ _ h => Kp.of_gr h) (fun _ _ _ hj hg => JG.other (by decide : 6 ≠ 10) (fun h => MakerAt.gr h hg) (fun ⟨u', m', h1, h2⟩ => ⟨u', m', h1, h2.gr hg⟩) hj) ?_, stepJ_plain (fun _ _ h => Kp.of_gr h) (fun _ _ _ hj hg => JG.other (by decide : 7 ≠ 10) (fun h => MakerAt.gr h hg) (fun ⟨u', m', h1, h2⟩ => ⟨u', m', h1, h2.gr hg⟩) hj) ?_, stepJ_plain (fun _ _ h => Kp.of_gr h) (fun _ _ _ hj hg => JG.other (by decide : 8 ≠ 10) (fun h => MakerAt.gr h hg) (fun ⟨u', m', h1, h2⟩ => ⟨u', m', h1, h2.gr hg⟩) hj) ?_, stepJ_plain (fun _ _ h => Kp.of_gr h) (fun _ _ _ hj hg => JG.other (by decide : 9 ≠ 10) (fun h => MakerAt.gr h hg) (fun ⟨u', m', h1, h2⟩ => ⟨u', m', h1, h2.gr hg⟩) hj) ?_, ?a10, stepJ_plain (fun _ _ h => Kp.of_gr h) (fun _ _ _ hj hg => JG.other (by decide : 11 ≠ 10) (fun h => MakerAt.gr h hg) (fun ⟨u', m', h1, h2⟩ => ⟨u', m', h1, h2.gr hg⟩) hj) ?b11, stepJ_plain (fun _ _ h => Kp.of_gr h) (fun _ _ _ hj hg => JG.other (by decide : 12 ≠ 10) (fun h => MakerAt.gr h hg) (fun ⟨u', m', h1, h2⟩ => ⟨u', m', h1, h2.gr hg⟩) hj) ?b12, trivial⟩
      case a10 =>
        intro listed fr wr hj hl hpre hg hdef hold
        have Hdef := Lib.hid hdef
        clear hdef
        have h0 : fr.tmps[0]?.getD undef = .pointer (some ⟨M, 0, none⟩) := hold 0 rfl
        have h5 : fr.tmps[5]?.getD undef = .pointer (some ⟨w.heap.size, 0, none⟩) := hold 5 rfl
        have h7 : fr.tmps[7]?.getD undef = .pointer (some ⟨w.heap.size + 1 + 1, 0, none⟩) := hold 7 rfl
        have h9 : fr.tmps[9]?.getD undef = .pointer (some ⟨pv, 0, none⟩) := hold 9 rfl
        have h10 : fr.tmps[10]?.getD undef = .pointer (some ⟨B, 0, none⟩) := hold 10 rfl
        clear hold
        have t0' := Kp.cell hg t0 (show ¬ (w.heap.size = M) by omega)
        have t1' := Kp.cell hg t1 (show ¬ (w.heap.size = M) by omega)
        have t2' := Kp.cell hg t2 (show ¬ (w.heap.size = M) by omega)
        have t3' := Kp.cell hg t3 (show ¬ (w.heap.size = M) by omega)
        have y0' := Kp.cell hg y0 (show ¬ (w.heap.size + 1 + 1 = M) by omega)
        have y1' := Kp.cell hg y1 (show ¬ (w.heap.size + 1 + 1 = M) by omega)
        have y2' := Kp.cell hg y2 (show ¬ (w.heap.size + 1 + 1 = M) by omega)
        have y3' := Kp.cell hg y3 (show ¬ (w.heap.size + 1 + 1 = M) by omega)
        have z0' := Kp.cell hg z0 (show ¬ (pv = M) by omega)
        have z1' := Kp.cell hg z1 (show ¬ (pv = M) by omega)
        have z2' := Kp.cell hg z2 (show ¬ (pv = M) by omega)
        have z3' := Kp.cell hg z3 (show ¬ (pv = M) by omega)
        have r0' := Kp.cell hg r0 (show ¬ (B = M) by omega)
        have r1' := Kp.cell hg r1 (show ¬ (B = M) by omega)
        have r2' := Kp.cell hg r2 (show ¬ (B = M) by omega)
        have r3' := Kp.cell hg r3 (show ¬ (B = M) by omega)
        have v0' := Kp.cell hg v0 (show ¬ (bt = M) by omega)
        have v1' := Kp.cell hg v1 (show ¬ (bt = M) by omega)
        have v2' := Kp.cell hg v2 (show ¬ (bt = M) by omega)
        have v3' := Kp.cell hg v3 (show ¬ (bt = M) by omega)
        have Kr : Hid (Kp (· = M) w wr) := kwB.trans hg
        have Hg : Hid (Kp (· = M) wB wr) := hg
        clear t0 t1 t2 t3 y0 y1 y2 y3 z0 z1 z2 z3 r0 r1 r2 r3 v0 v1 v2 v3
        simp [predsImp, Region.binds, dstAt, fx]
        intros
        rename_i K hK
        go_simp
        rewrite [← Hvv.out, ← Hyv.out, ← Hvm.out]
        have hMr := JG.before hj hl
        have hcall := Hiv.out (varTm m) y M m1 wr ⟨in_kp HvB.out HvO.out (fun _ h => h) Hg.out, varTm_in' ⟨by omega, by omega⟩ wr, in_kp HyB.out HyO.out (fun _ h => h) Hg.out, hMr, Htf.out.1.2, by rw [varTm_erase]; exact varT_fmd ⟨by omega, by omega⟩, H.out.fy, by omega, by omega⟩
        rw [varTm_erase] at hcall
        refine hcall.mono ?_
        rintro e w10 (⟨a2, m2, hg2, b2, rfl, hin, he, hM10, hk10⟩ | ⟨hg2, ⟨c9, rfl⟩, hk10⟩)
        · have hfd := (goal_fmd reserved _ v.erase (varT m) y.erase a2 m1 m2 (Nat.le_refl _) Htf.out.1.2 (varT_fmd ⟨by omega, by omega⟩) H.out.fy (by omega) (by omega) hg2).1
          exact hK _ _ ⟨a2, by rw [hg2]; rfl, b2, rfl, hin, he, (Tm.On.and (on_maker hM10 hin) (on_zero (HR.out.kp (Hg.out.trans hk10) (by omega)) hin (by rw [he]; exact hfd))).mono fun b hb => HS2.out.2.2.2 b hb.1 hb.2⟩ hk10 (JG.after hl ⟨a2, m2, hg2, hM10⟩)
        · refine (show bodyPost _ _ _ (.panic _) _ _ from ⟨Hdef.out, ?_⟩)
          rw [← HQ.out, HG1.out]
          dsimp only
          rw [hg2]
          exact .inr ⟨rfl, ⟨_, rfl⟩, Kr.out.trans hk10⟩
      case b11 =>
        intro fr wr hg hold
        have h0 : fr.tmps[0]?.getD undef = .pointer (some ⟨M, 0, none⟩) := hold 0 rfl
        have h5 : fr.tmps[5]?.getD undef = .pointer (some ⟨w.heap.size, 0, none⟩) := hold 5 rfl
        have h7 : fr.tmps[7]?.getD undef = .pointer (some ⟨w.heap.size + 1 + 1, 0, none⟩) := hold 7 rfl
        have h9 : fr.tmps[9]?.getD undef = .pointer (some ⟨pv, 0, none⟩) := hold 9 rfl
        have h10 : fr.tmps[10]?.getD undef = .pointer (some ⟨B, 0, none⟩) := hold 10 rfl
        clear hold
        have t0' := Kp.cell hg t0 (show ¬ (w.heap.size = M) by omega)
        have t1' := Kp.cell hg t1 (show ¬ (w.heap.size = M) by omega)
        have t2' := Kp.cell hg t2 (show ¬ (w.heap.size = M) by omega)
        have t3' := Kp.cell hg t3 (show ¬ (w.heap.size = M) by omega)
        have y0' := Kp.cell hg y0 (show ¬ (w.heap.size + 1 + 1 = M) by omega)
        have y1' := Kp.cell hg y1 (show ¬ (w.heap.size + 1 + 1 = M) by omega)
        have y2' := Kp.cell hg y2 (show ¬ (w.heap.size + 1 + 1 = M) by omega)
        have y3' := Kp.cell hg y3 (show ¬ (w.heap.size + 1 + 1 = M) by omega)
        have z0' := Kp.cell hg z0 (show ¬ (pv = M) by omega)
        have z1' := Kp.cell hg z1 (show ¬ (pv = M) by omega)
        have z2' := Kp.cell hg z2 (show ¬ (pv = M) by omega)
        have z3' := Kp.cell hg z3 (show ¬ (pv = M) by omega)
        have r0' := Kp.cell hg r0 (show ¬ (B = M) by omega)
        have r1' := Kp.cell hg r1 (show ¬ (B = M) by omega)
        have r2' := Kp.cell hg r2 (show ¬ (B = M) by omega)
        have r3' := Kp.cell hg r3 (show ¬ (B = M) by omega)
        have v0' := Kp.cell hg v0 (show ¬ (bt = M) by omega)
        have v1' := Kp.cell hg v1 (show ¬ (bt = M) by omega)
        have v2' := Kp.cell hg v2 (show ¬ (bt = M) by omega)
        have v3' := Kp.cell hg v3 (show ¬ (bt = M) by omega)
        have Kr : Hid (Kp (· = M) w wr) := kwB.trans hg
        have Hg : Hid (Kp (· = M) wB wr) := hg
        clear t0 t1 t2 t3 y0 y1 y2 y3 z0 z1 z2 z3 r0 r1 r2 r3 v0 v1 v2 v3
        simp [predsImp, Region.binds, dstAt, fx]
        rintro h15 ⟨a2, ha2, b2, e21, hin, he, hon⟩ K hK
        replace e21 : fr.tmps[53]?.getD undef = .agg #[.int .i64 b2.k, .int .i64 b2.n, .string b2.s, .slice b2.p b2.l.length b2.c] := e21
        go_simp
        rw [Option.map_eq_some_iff] at ha2
        obtain ⟨⟨a3, m3⟩, hg3, rfl⟩ := ha2
        have hs2 := slIs_two (S := S2) (two_new (t := bm) (u := b2) (in_kp HbmB.out HbO2.out HS2.out.2.1 Hg.out) hin (Gr.rfl' _)) HbO2.out hon (HSB.out _ hg.size)
        rw [HE.out, he] at hs2
        exact hK _ _ ⟨_, by rw [hg3]; rfl, hs2⟩ (by go_grown)
      case b12 =>
        intro fr wr hg hold
        have h0 : fr.tmps[0]?.getD undef = .pointer (some ⟨M, 0, none⟩) := hold 0 rfl
        have h5 : fr.tmps[5]?.getD undef = .pointer (some ⟨w.heap.size, 0, none⟩) := hold 5 rfl
        have h7 : fr.tmps[7]?.getD undef = .pointer (some ⟨w.heap.size + 1 + 1, 0, none⟩) := hold 7 rfl
        have h9 : fr.tmps[9]?.getD undef = .pointer (some ⟨pv, 0, none⟩) := hold 9 rfl
        have h10 : fr.tmps[10]?.getD undef = .pointer (some ⟨B, 0, none⟩) := hold 10 rfl
        clear hold
        have t0' := Kp.cell hg t0 (show ¬ (w.heap.size = M) by omega)
        have t1' := Kp.cell hg t1 (show ¬ (w.heap.size = M) by omega)
        have t2' := Kp.cell hg t2 (show ¬ (w.heap.size = M) by omega)
        have t3' := Kp.cell hg t3 (show ¬ (w.heap.size = M) by omega)
        have y0' := Kp.cell hg y0 (show ¬ (w.heap.size + 1 + 1 = M) by omega)
        have y1' := Kp.cell hg y1 (show ¬ (w.heap.size + 1 + 1 = M) by omega)
        have y2' := Kp.cell hg y2 (show ¬ (w.heap.size + 1 + 1 = M) by omega)
        have y3' := Kp.cell hg y3 (show ¬ (w.heap.size + 1 + 1 = M) by omega)
        have z0' := Kp.cell hg z0 (show ¬ (pv = M) by omega)
        have z1' := Kp.cell hg z1 (show ¬ (pv = M) by omega)
        have z2' := Kp.cell hg z2 (show ¬ (pv = M) by omega)
        have z3' := Kp.cell hg z3 (show ¬ (pv = M) by omega)
        have r0' := Kp.cell hg r0 (show ¬ (B = M) by omega)
        have r1' := Kp.cell hg r1 (show ¬ (B = M) by omega)
        have r2' := Kp.cell hg r2 (show ¬ (B = M) by omega)
        have r3' := Kp.cell hg r3 (show ¬ (B = M) by omega)
        have v0' := Kp.cell hg v0 (show ¬ (bt = M) by omega)
        have v1' := Kp.cell hg v1 (show ¬ (bt = M) by omega)
        have v2' := Kp.cell hg v2 (show ¬ (bt = M) by omega)
        have v3' := Kp.cell hg v3 (show ¬ (bt = M) by omega)
        have Kr : Hid (Kp (· = M) w wr) := kwB.trans hg
        have Hg : Hid (Kp (· = M) wB wr) := hg
        clear t0 t1 t2 t3 y0 y1 y2 y3 z0 z1 z2 z3 r0 r1 r2 r3 v0 v1 v2 v3
        simp [predsImp, Region.binds, dstAt, fx]
        rintro h44 ⟨a', ha', hsl⟩ _ K hK
        go_simp
        refine (comp_ok (s := t.s) hsl H.out.ht.slen).mono ?_
        rintro e w10 ⟨v', rfl, ht, hg2⟩
        rw [Option.map_eq_some_iff] at ha'
        obtain ⟨⟨a3, m3⟩, hg3, rfl⟩ := ha'
        exact hK _ _ ⟨_, by rw [hg3]; rfl, ht⟩ hg2
      all_goals
        intro fr wr hg hold
        have h0 : fr.tmps[0]?.getD undef = .pointer (some ⟨M, 0, none⟩) := hold 0 rfl
        have h5 : fr.tmps[5]?.getD undef = .pointer (some ⟨w.heap.size, 0, none⟩) := hold 5 rfl
        have h7 : fr.tmps[7]?.getD undef = .pointer (some ⟨w.heap.size + 1 + 1, 0, none⟩) := hold 7 rfl
        have h9 : fr.tmps[9]?.getD undef = .pointer (some ⟨pv, 0, none⟩) := hold 9 rfl
        have h10 : fr.tmps[10]?.getD undef = .pointer (some ⟨B, 0, none⟩) := hold 10 rfl
        clear hold
        have t0' := Kp.cell hg t0 (show ¬ (w.heap.size = M) by omega)
        have t1' := Kp.cell hg t1 (show ¬ (w.heap.size = M) by omega)
        have t2' := Kp.cell hg t2 (show ¬ (w.heap.size = M) by omega)
        have t3' := Kp.cell hg t3 (show ¬ (w.heap.size = M) by omega)
        have y0' := Kp.cell hg y0 (show ¬ (w.heap.size + 1 + 1 = M) by omega)
        have y1' := Kp.cell hg y1 (show ¬ (w.heap.size + 1 + 1 = M) by omega)
        have y2' := Kp.cell hg y2 (show ¬ (w.heap.size + 1 + 1 = M) by omega)
        have y3' := Kp.cell hg y3 (show ¬ (w.heap.size + 1 + 1 = M) by omega)
        have z0' := Kp.cell hg z0 (show ¬ (pv = M) by omega)
        have z1' := Kp.cell hg z1 (show ¬ (pv = M) by omega)
        have z2' := Kp.cell hg z2 (show ¬ (pv = M) by omega)
        have z3' := Kp.cell hg z3 (show ¬ (pv = M) by omega)
        have r0' := Kp.cell hg r0 (show ¬ (B = M) by omega)
        have r1' := Kp.cell hg r1 (show ¬ (B = M) by omega)
        have r2' := Kp.cell hg r2 (show ¬ (B = M) by omega)
        have r3' := Kp.cell hg r3 (show ¬ (B = M) by omega)
        have v0' := Kp.cell hg v0 (show ¬ (bt = M) by omega)
        have v1' := Kp.cell hg v1 (show ¬ (bt = M) by omega)
        have v2' := Kp.cell hg v2 (show ¬ (bt = M) by omega)
        have v3' := Kp.cell hg v3 (show ¬ (bt = M) by omega)
        have Kr : Hid (Kp (· = M) w wr) := kwB.trans hg
        have Hg : Hid (Kp (· = M) wB wr) := hg
        clear t0 t1 t2 t3 y0 y1 y2 y3 z0 z1 z2 z3 r0 r1 r2 r3 v0 v1 v2 v3
        simp [predsImp, Region.binds, dstAt, fx]
        intros
        rename_i K hK
        go_simp
      all_goals exact hK _ _ rfl (Gr.rfl' _)
    · intro wc hg hj
      rintro _ rfl _ rfl _ rfl _ rfl _ rfl _ rfl _ rfl _ rfl _ rfl _ rfl v10 _ v11 _ v12 ⟨a4, ha4, ⟨kb, nb, sb, pb, cb, lb⟩, rfl, hin, he, hon⟩
      obtain ⟨a2, m2, hg2, hM9⟩ := JG.done hj (by decide)
      have hk9 : Kp (· = M) wB wc := hg
      have k9 : Kp (· = M) w wc := kwB.trans hk9
      have hab : a4 = compT t.s.toList [a1, a2] := by rw [hg2] at ha4; exact (Option.some.inj ha4).symm
      have HB := Lib.hid (And.intro hin (And.intro he hon))
      have HG2 := Lib.hid (And.intro hg2 (And.intro hM9 (And.intro k9 hab)))
      obtain ⟨⟨s0, s1, s2, s3⟩, ⟨f0, f1, f2, f3⟩, hlt⟩ := (HR.out.kp hk9 (by omega)).parts
      clear hin he hon hg hj hg2 hM9 hk9 hab ha4 t0 t1 t2 t3 y0 y1 y2 y3 z0 z1 z2 z3 r0 r1 r2 r3 v0 v1 v2 v3
      simp only [tm_val]
      simp only [finAll, Act.put, List.setIfInBounds_toArray, List.set_cons_succ, List.set_cons_zero, List.drop_succ_cons, List.drop_zero, List.take_zero]
      go_wp2_with fail
      refine bodyPost_ret (v := (Tm.mk kb nb sb pb cb lb).val) (by simp (maxDischargeDepth := 9) [results, Try.results85, go_sem, tm_val, s0, s1, s2, s3]) rfl ?_
      rw [← HQ.out]
      obtain ⟨hin, he, hon⟩ := HB.out
      obtain ⟨hg2, hM9, k9, hab⟩ := HG2.out
      rw [HG1.out]
      dsimp only
      rw [hg2]
      exact ret_gm hin (he.trans hab) hon HS2.out.2.2.1 k9 (by omega) hM9 (by omega) _ _ _ _

end Go.Proofs.Yteonakicoomjkaa
