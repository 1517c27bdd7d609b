/-
  grammar's goal of what is denied
  grammar's goals.
  grammar.guard's deferred closure: what it does to a frame that panics, and to one that returns.
-/
import Derived.Test.YteonakicoomjkaaGM20
import Derived.Test.YteonakicoomjkaaGM18
import Derived.Test.YteonakicoomjkaaGM19
import Derived.Test.YteonakicoomjkaaGM21
import Derived.Test.YteonakicoomjkaaGM22
import Derived.Test.YteonakicoomjkaaGM23
import Derived.Defers
import Derived.Recover
namespace Go.Proofs.Yteonakicoomjkaa
open Go.RowKit Go.Lib

set_option maxHeartbeats 8000000 in
set_option maxRecDepth 100000 in
theorem gw_not (t x y : Tm) (M : Nat) (m : Int) (w : World) (h : GIn t x y M m w) (u : Tm) (hl : t.l = [u]) (hiu : goalOf u) (hv : T.goal reserved t.erase x.erase y.erase m = match T.goal reserved u.erase x.erase (varT m) (m + 1) with | none => none | some (u1, m1) => some (bothT (compT sNot [u1]) (eqT x.erase y.erase), m1)) (hk1 : (t.k == 1) = false) (hk2 : (t.k == 2) = false) (c_comma : t.erase.isOf sComma 2 = false) (c_arrow : t.erase.isOf sArrow 2 = false) (c_semi : t.erase.isOf sSemi 2 = false) (c_not : t.erase.isOf sNot 1 = true) :
    Calls Try.prog 85 #[.pointer (some ⟨M, 0, none⟩), t.val, x.val, y.val] w (RetG (T.goal reserved t.erase x.erase y.erase m) M w) := by
  rw [hv]
  generalize hQ : RetG (match T.goal reserved u.erase x.erase (varT m) (m + 1) with | none => none | some (u1, m1) => some (bothT (compT sNot [u1]) (eqT x.erase y.erase), m1)) M w = Q
  have HQ := Lib.hid hQ
  have H := Lib.hid h
  have hMl : M < w.heap.size := h.hM.lt
  have hm1 := h.hm
  clear hQ h hv
  have Htv := Lib.hid (show t.val = .agg #[.int .i64 t.k, .int .i64 t.n, .string t.s, .slice t.p t.l.length t.c] from rfl)
  have Hxv := Lib.hid (show x.val = .agg #[.int .i64 x.k, .int .i64 x.n, .string x.s, .slice x.p x.l.length x.c] from rfl)
  have Hyv := Lib.hid (show y.val = .agg #[.int .i64 y.k, .int .i64 y.n, .string y.s, .slice y.p y.l.length y.c] from rfl)
  have Hl := Lib.hid hl
  have Hiu := Lib.hid hiu
  clear hl hiu
  have E0 := Lib.hid (show t.erase.isOf (ByteArray.mk #[44]).toList 2 = false by rw [bl44c]; exact c_comma)
  have E1 := Lib.hid (show t.erase.isOf (ByteArray.mk #[45, 62]).toList 2 = false by rw [bl4562]; exact c_arrow)
  have E2 := Lib.hid (show t.erase.isOf (ByteArray.mk #[59]).toList 2 = false by rw [bl59]; exact c_semi)
  have E3 := Lib.hid (show t.erase.isOf (ByteArray.mk #[92, 43]).toList 1 = true by rw [blNot]; exact c_not)
  clear c_comma c_arrow c_semi c_not
  simp only [Tm.val]
  go_enter Try.func85, Try.ntmps85
  try simp only [List.append_eq, List.cons_append, List.nil_append]
  go_upto_region 1 with fail
  obtain ⟨HT, HX, HY, HR, gA⟩ := four_blocks w (.int .i64 t.k) (.int .i64 t.n) (.string t.s) (.slice t.p t.l.length t.c) (.int .i64 x.k) (.int .i64 x.n) (.string x.s) (.slice x.p x.l.length x.c) (.int .i64 y.k) (.int .i64 y.n) (.string y.s) (.slice y.p y.l.length y.c) (.int .i64 0) (.int .i64 0) (.string ⟨#[]⟩) (.slice none 0 0) _ rfl
  generalize ((((w.alloc (.cells #[.int .i64 t.k, .int .i64 t.n, .string t.s, .slice t.p t.l.length t.c] 24)).alloc (.cells #[.int .i64 x.k, .int .i64 x.n, .string x.s, .slice x.p x.l.length x.c] 24)).alloc (.cells #[.int .i64 y.k, .int .i64 y.n, .string y.s, .slice y.p y.l.length y.c] 24)).alloc (.cells #[.int .i64 0, .int .i64 0, .string ⟨#[]⟩, .slice none 0 0] 24)) = wA at *
  have HRl := Lib.hid (show w.heap.size + 1 + 1 + 1 < wA.heap.size from HR.out.parts.2.2)
  have Hto2 := Lib.hid (Tm.On.and (on_maker H.out.hM H.out.ht) (in_ne (R := w.heap.size + 1 + 1 + 1) H.out.ht (by omega)))
  have Hxo2 := Lib.hid (Tm.On.and (on_maker H.out.hM H.out.hx) (in_ne (R := w.heap.size + 1 + 1 + 1) H.out.hx (by omega)))
  have Hyo2 := Lib.hid (Tm.On.and (on_maker H.out.hM H.out.hy) (in_ne (R := w.heap.size + 1 + 1 + 1) H.out.hy (by omega)))
  have hS2 : (∀ c, wA.heap.size ≤ c → (fun b => b ≠ M ∧ b ≠ w.heap.size + 1 + 1 + 1) c) ∧ (∀ b, (fun b => b ≠ M ∧ b ≠ w.heap.size + 1 + 1 + 1) b → b ≠ M) ∧ (∀ b, (fun b => b ≠ M ∧ b ≠ w.heap.size + 1 + 1 + 1) b → b ≠ w.heap.size + 1 + 1 + 1) ∧ (∀ b, b ≠ M → b ≠ w.heap.size + 1 + 1 + 1 → (fun b => b ≠ M ∧ b ≠ w.heap.size + 1 + 1 + 1) b) :=
    ⟨fun c hc => ⟨by have := HRl.out; omega, by have := HRl.out; omega⟩, fun _ h => h.1, fun _ h => h.2, fun _ h1 h2 => ⟨h1, h2⟩⟩
  generalize (fun b => b ≠ M ∧ b ≠ w.heap.size + 1 + 1 + 1) = S2 at Hto2 Hxo2 Hyo2 hS2
  have HS2 := Lib.hid hS2
  clear hS2
  have HSW : Hid (wA.heap.size ≤ wA.heap.size) := Nat.le_refl _
  obtain ⟨⟨t0, t1, t2, t3⟩, _, _⟩ := HT.out.parts
  obtain ⟨⟨x0, x1, x2, x3⟩, _, _⟩ := HX.out.parts
  obtain ⟨⟨y0, y1, y2, y3⟩, _, _⟩ := HY.out.parts
  go_upto_region 14 with (first
    | (go_at_call 76; rewrite [← Htv.out]; refine (is_calls _ _ _ _).mono ?_; rintro e w1 ⟨rfl, hb⟩; (first | rewrite [E0.out] | rewrite [E1.out] | rewrite [E2.out] | rewrite [E3.out] | rewrite [E4.out] | rewrite [E5.out] | rewrite [E6.out] | rewrite [E7.out] | rewrite [E8.out]); replace gA := Gr.trans gA hb; replace HSW := Lib.hid (Nat.le_trans HSW.out hb.size); replace HT := Lib.hid (HT.out.gr hb); replace HX := Lib.hid (HX.out.gr hb); replace HY := Lib.hid (HY.out.gr hb); replace HR := Lib.hid (HR.out.gr hb); clear t0 t1 t2 t3 x0 x1 x2 x3 y0 y1 y2 y3 hb; obtain ⟨⟨t0, t1, t2, t3⟩, _, _⟩ := HT.out.parts; obtain ⟨⟨x0, x1, x2, x3⟩, _, _⟩ := HX.out.parts; obtain ⟨⟨y0, y1, y2, y3⟩, _, _⟩ := HY.out.parts)
    | fail)
  have gw := gA
  have hM1 := H.out.hM.gr gw
  obtain ⟨bt, ot, hp, hui, u0, u1, u2, u3⟩ := args_one Hl.out (Tm.In_below gw H.out.ht)
  have hbM : bt ≠ M := by
    have h1 := on_maker H.out.hM H.out.ht
    obtain ⟨k, n, s, p, c, l⟩ := t
    have hl := Hl.out
    simp only [Tm.l] at hl
    subst hl
    rw [Tm.On] at h1
    rcases h1.1 with h2 | ⟨b', o', hp', h3⟩
    · cases h2
    · simp only [Tm.p] at hp
      rw [hp] at hp'
      cases hp'
      exact h3
  have Hui := Lib.hid hui
  have Huv := Lib.hid (show u.val = .agg #[.int .i64 u.k, .int .i64 u.n, .string u.s, .slice u.p u.l.length u.c] from rfl)
  have Htf := Lib.hid (one_formed Hl.out H.out.hf)
  have hsz := Htf.out.2
  have HM1 := Lib.hid hM1
  have kw : Kp (· = M) w w1 := Kp.of_gr gw
  have hwv : w.heap.size + 1 + 1 + 1 < w1.heap.size := HR.out.parts.2.2
  have HuO := Lib.hid (on_maker hM1 Hui.out)
  have HxO := Lib.hid (on_maker H.out.hM H.out.hx)
  have HyO := Lib.hid (on_maker H.out.hM H.out.hy)
  have Hx3 := Lib.hid (in_kp H.out.hx HxO.out (fun _ h => h) kw)
  have Hy3 := Lib.hid (in_kp H.out.hy HyO.out (fun _ h => h) kw)
  have Hvm := Lib.hid (show (varTm m).val = .agg #[.int .i64 1, .int .i64 m, .string ⟨#[]⟩, .slice none 0 0] from rfl)
  have HS1 : Hid (∀ c, w1.heap.size ≤ c → S2 c) := fun c hc => HS2.out.1 c (Nat.le_trans HSW.out hc)
  rw [hp, Hl.out] at t3
  clear hui hp hM1
  refine wp_region_relyJ 15 [fx (.pointer (some ⟨M, 0, none⟩)), fx (.pointer (some ⟨w.heap.size, 3, none⟩)), fx (.slice (some ⟨bt, ot, none⟩) 1 t.c), fx (.pointer (some ⟨bt, ot, none⟩)), fx (.agg #[.int .i64 u.k, .int .i64 u.n, .string u.s, .slice u.p u.l.length u.c]), fx (.agg #[.int .i64 x.k, .int .i64 x.n, .string x.s, .slice x.p x.l.length x.c]), fx (.pointer (some ⟨M, 0, none⟩)), fx (.agg #[.int .i64 1, .int .i64 m, .string ⟨#[]⟩, .slice none 0 0]), okTm S2 ((T.goal reserved u.erase x.erase (varT m) (m + 1)).map Prod.fst), okSl S2 ((T.goal reserved u.erase x.erase (varT m) (m + 1)).map fun r => [r.1]), okTm S2 ((T.goal reserved u.erase x.erase (varT m) (m + 1)).map fun r => compT sNot [r.1]), fx (.agg #[.int .i64 x.k, .int .i64 x.n, .string x.s, .slice x.p x.l.length x.c]), fx (.agg #[.int .i64 y.k, .int .i64 y.n, .string y.s, .slice y.p y.l.length y.c]), tmIs S2 (eqT x.erase y.erase), okTm S2 ((T.goal reserved u.erase x.erase (varT m) (m + 1)).map fun r => bothT (compT sNot [r.1]) (eqT x.erase y.erase))]
    (fun w w' => Kp (· = M) w w') (JH 7 8 (MakerAt M m) (MakerAt M (m + 1)) (fun w' => ∃ u' m', T.goal reserved u.erase x.erase (varT m) (m + 1) = some (u', m') ∧ MakerAt M m' w')) (by kernel_rfl) (by kernel_rfl) (by decide) (by kernel_rfl) (fun _ _ h => Kp.of_gr h) (fun _ _ _ h k => Kp.trans h k) (fun _ hg => JH.start (HM1.out.gr hg)) (by repeat (first | exact StableR.nil | refine StableR.fix ?_ | refine StableR.cons (okTm_kp HS2.out.2.1) ?_ | refine StableR.cons (okSl_kp HS2.out.2.1) ?_ | refine StableR.cons (tmIs_kp HS2.out.2.1) ?_)) ?_ ?_
  · refine ⟨stepJ_plain (fun _ _ h => Kp.of_gr h) (fun _ _ _ hj hg => JH.other (by decide : 0 ≠ 7) (by decide : 0 ≠ 8) (fun h => MakerAt.gr h hg) (fun h => MakerAt.gr h hg) (fun ⟨u', m', h1, h2⟩ => ⟨u', m', h1, h2.gr hg⟩) hj) ?_, stepJ_plain (fun _ _ h => Kp.of_gr h) (fun _ _ _ hj hg => JH.other (by decide : 1 ≠ 7) (by decide : 1 ≠ 8) (fun h => MakerAt.gr h hg) (fun h => MakerAt.gr h hg) (fun ⟨u', m', h1, h2⟩ => ⟨u', m', h1, h2.gr hg⟩) hj) ?_, stepJ_plain (fun _ _ h => Kp.of_gr h) (fun _ _ _ hj hg => JH.other (by decide : 2 ≠ 7) (by decide : 2 ≠ 8) (fun h => MakerAt.gr h hg) (fun h => MakerAt.gr h hg) (fun ⟨u', m', h1, h2⟩ => ⟨u', m', h1, h2.gr hg⟩) hj) ?_, stepJ_plain (fun _ _ h => Kp.of_gr h) (fun _ _ _ hj hg => JH.other (by decide : 3 ≠ 7) (by decide : 3 ≠ 8) (fun h => MakerAt.gr h hg) (fun h => MakerAt.gr h hg) (fun ⟨u', m', h1, h2⟩ => ⟨u', m', h1, h2.gr hg⟩) hj) ?_, stepJ_plain (fun _ _ h => Kp.of_gr h) (fun _ _ _ hj hg => JH.other (by decide : 4 ≠ 7) (by decide : 4 ≠ 8) (fun h => MakerAt.gr h hg) (fun h => MakerAt.gr h hg) (fun ⟨u', m', h1, h2⟩ => ⟨u', m', h1, h2.gr hg⟩) hj) ?_, stepJ_plain (fun _ _ h => Kp.of_gr h) (fun _ _ _ hj hg => JH.other (by decide : 5 ≠ 7) (by decide : 5 ≠ 8) (fun h => MakerAt.gr h hg) (fun h => MakerAt.gr h hg) (fun ⟨u', m', h1, h2⟩ => ⟨u', m', h1, h2.gr hg⟩) hj) ?_, stepJ_plain (fun _ _ h => Kp.of_gr h) (fun _ _ _ hj hg => JH.other (by decide : 6 ≠ 7) (by decide : 6 ≠ 8) (fun h => MakerAt.gr h hg) (fun h => MakerAt.gr h hg) (fun ⟨u', m', h1, h2⟩ => ⟨u', m', h1, h2.gr hg⟩) hj) ?_, ?a7, ?a8, stepJ_plain (fun _ _ h => Kp.of_gr h) (fun _ _ _ hj hg => JH.other (by decide : 9 ≠ 7) (by decide : 9 ≠ 8) (fun h => MakerAt.gr h hg) (fun h => MakerAt.gr h hg) (fun ⟨u', m', h1, h2⟩ => ⟨u', m', h1, h2.gr hg⟩) hj) ?b9, stepJ_plain (fun _ _ h => Kp.of_gr h) (fun _ _ _ hj hg => JH.other (by decide : 10 ≠ 7) (by decide : 10 ≠ 8) (fun h => MakerAt.gr h hg) (fun h => MakerAt.gr h hg) (fun ⟨u', m', h1, h2⟩ => ⟨u', m', h1, h2.gr hg⟩) hj) ?b10, stepJ_plain (fun _ _ h => Kp.of_gr h) (fun _ _ _ hj hg => JH.other (by decide : 11 ≠ 7) (by decide : 11 ≠ 8) (fun h => MakerAt.gr h hg) (fun h => MakerAt.gr h hg) (fun ⟨u', m', h1, h2⟩ => ⟨u', m', h1, h2.gr hg⟩) hj) ?_, stepJ_plain (fun _ _ h => Kp.of_gr h) (fun _ _ _ hj hg => JH.other (by decide : 12 ≠ 7) (by decide : 12 ≠ 8) (fun h => MakerAt.gr h hg) (fun h => MakerAt.gr h hg) (fun ⟨u', m', h1, h2⟩ => ⟨u', m', h1, h2.gr hg⟩) hj) ?_, stepJ_plain (fun _ _ h => Kp.of_gr h) (fun _ _ _ hj hg => JH.other (by decide : 13 ≠ 7) (by decide : 13 ≠ 8) (fun h => MakerAt.gr h hg) (fun h => MakerAt.gr h hg) (fun ⟨u', m', h1, h2⟩ => ⟨u', m', h1, h2.gr hg⟩) hj) ?b13, stepJ_plain (fun _ _ h => Kp.of_gr h) (fun _ _ _ hj hg => JH.other (by decide : 14 ≠ 7) (by decide : 14 ≠ 8) (fun h => MakerAt.gr h hg) (fun h => MakerAt.gr h hg) (fun ⟨u', m', h1, h2⟩ => ⟨u', m', h1, h2.gr hg⟩) hj) ?b14, trivial⟩
    case a7 =>
      intro listed fr wr hj hl hpre hg hdef hold
      have Hdef := Lib.hid hdef
      clear hdef
      have h0 : fr.tmps[0]?.getD undef = .pointer (some ⟨M, 0, none⟩) := hold 0 rfl
      have h5 : fr.tmps[5]?.getD undef = .pointer (some ⟨w.heap.size, 0, none⟩) := hold 5 rfl
      have h6 : fr.tmps[6]?.getD undef = .pointer (some ⟨w.heap.size + 1, 0, none⟩) := hold 6 rfl
      have h7 : fr.tmps[7]?.getD undef = .pointer (some ⟨w.heap.size + 1 + 1, 0, none⟩) := hold 7 rfl
      clear hold
      have t0' := Kp.cell hg t0 (show ¬ (w.heap.size = M) by omega)
      have t1' := Kp.cell hg t1 (show ¬ (w.heap.size = M) by omega)
      have t2' := Kp.cell hg t2 (show ¬ (w.heap.size = M) by omega)
      have t3' := Kp.cell hg t3 (show ¬ (w.heap.size = M) by omega)
      have x0' := Kp.cell hg x0 (show ¬ (w.heap.size + 1 = M) by omega)
      have x1' := Kp.cell hg x1 (show ¬ (w.heap.size + 1 = M) by omega)
      have x2' := Kp.cell hg x2 (show ¬ (w.heap.size + 1 = M) by omega)
      have x3' := Kp.cell hg x3 (show ¬ (w.heap.size + 1 = M) by omega)
      have y0' := Kp.cell hg y0 (show ¬ (w.heap.size + 1 + 1 = M) by omega)
      have y1' := Kp.cell hg y1 (show ¬ (w.heap.size + 1 + 1 = M) by omega)
      have y2' := Kp.cell hg y2 (show ¬ (w.heap.size + 1 + 1 = M) by omega)
      have y3' := Kp.cell hg y3 (show ¬ (w.heap.size + 1 + 1 = M) by omega)
      have u0' := Kp.cell hg u0 (show ¬ (bt = M) by omega)
      have u1' := Kp.cell hg u1 (show ¬ (bt = M) by omega)
      have u2' := Kp.cell hg u2 (show ¬ (bt = M) by omega)
      have u3' := Kp.cell hg u3 (show ¬ (bt = M) by omega)
      have Kr : Hid (Kp (· = M) w wr) := kw.trans hg
      have Hg : Hid (Kp (· = M) w1 wr) := hg
      clear t0 t1 t2 t3 x0 x1 x2 x3 y0 y1 y2 y3 u0 u1 u2 u3
      simp [predsImp, Region.binds, dstAt, fx]
      intros
      rename_i K hK
      go_simp
      refine (anew_calls M m wr (JH.first hj hl) ⟨by omega, by omega⟩).mono ?_
      rintro e w10 ⟨rfl, hM10, hk10⟩
      exact hK _ _ rfl hk10 (JH.after1 (by decide) hj hl hM10)
    case a8 =>
      intro listed fr wr hj hl hpre hg hdef hold
      have Hdef := Lib.hid hdef
      clear hdef
      have h0 : fr.tmps[0]?.getD undef = .pointer (some ⟨M, 0, none⟩) := hold 0 rfl
      have h5 : fr.tmps[5]?.getD undef = .pointer (some ⟨w.heap.size, 0, none⟩) := hold 5 rfl
      have h6 : fr.tmps[6]?.getD undef = .pointer (some ⟨w.heap.size + 1, 0, none⟩) := hold 6 rfl
      have h7 : fr.tmps[7]?.getD undef = .pointer (some ⟨w.heap.size + 1 + 1, 0, none⟩) := hold 7 rfl
      clear hold
      have t0' := Kp.cell hg t0 (show ¬ (w.heap.size = M) by omega)
      have t1' := Kp.cell hg t1 (show ¬ (w.heap.size = M) by omega)
      have t2' := Kp.cell hg t2 (show ¬ (w.heap.size = M) by omega)
      have t3' := Kp.cell hg t3 (show ¬ (w.heap.size = M) by omega)
      have x0' := Kp.cell hg x0 (show ¬ (w.heap.size + 1 = M) by omega)
      have x1' := Kp.cell hg x1 (show ¬ (w.heap.size + 1 = M) by omega)
      have x2' := Kp.cell hg x2 (show ¬ (w.heap.size + 1 = M) by omega)
      have x3' := Kp.cell hg x3 (show ¬ (w.heap.size + 1 = M) by omega)
      have y0' := Kp.cell hg y0 (show ¬ (w.heap.size + 1 + 1 = M) by omega)
      have y1' := Kp.cell hg y1 (show ¬ (w.heap.size + 1 + 1 = M) by omega)
      have y2' := Kp.cell hg y2 (show ¬ (w.heap.size + 1 + 1 = M) by omega)
      have y3' := Kp.cell hg y3 (show ¬ (w.heap.size + 1 + 1 = M) by omega)
      have u0' := Kp.cell hg u0 (show ¬ (bt = M) by omega)
      have u1' := Kp.cell hg u1 (show ¬ (bt = M) by omega)
      have u2' := Kp.cell hg u2 (show ¬ (bt = M) by omega)
      have u3' := Kp.cell hg u3 (show ¬ (bt = M) by omega)
      have Kr : Hid (Kp (· = M) w wr) := kw.trans hg
      have Hg : Hid (Kp (· = M) w1 wr) := hg
      clear t0 t1 t2 t3 x0 x1 x2 x3 y0 y1 y2 y3 u0 u1 u2 u3
      have hs7 : listed.getD 7 false = true := hpre { on := 7, ground := .data } (by simp) rfl
      simp [predsImp, Region.binds, dstAt, fx]
      intros
      rename_i K hK
      go_simp
      rewrite [← Huv.out, ← Hxv.out, ← Hvm.out]
      have hMr := JH.second hj hl hs7
      have hcall := Hiu.out x (varTm m) M (m + 1) wr ⟨in_kp Hui.out HuO.out (fun _ h => h) Hg.out, in_kp Hx3.out HxO.out (fun _ h => h) Hg.out, varTm_in' ⟨by omega, by omega⟩ wr, hMr, Htf.out.1, H.out.fx, by rw [varTm_erase]; exact varT_fmd ⟨by omega, by omega⟩, by omega, by omega⟩
      rw [varTm_erase] at hcall
      refine hcall.mono ?_
      rintro e w10 (⟨a1, m1, hg1, bm, rfl, hin, he, hM10, hk10⟩ | ⟨hg1, ⟨c9, rfl⟩, hk10⟩)
      · have hfd := (goal_fmd reserved _ u.erase x.erase (varT m) a1 (m + 1) m1 (Nat.le_refl _) Htf.out.1 H.out.fx (varT_fmd ⟨by omega, by omega⟩) (by omega) (by omega) hg1).1
        exact hK _ _ ⟨a1, by rw [hg1]; rfl, bm, rfl, hin, he, (Tm.On.and (on_maker hM10 hin) (on_zero (HR.out.kp (Hg.out.trans hk10) (by omega)) hin (by rw [he]; exact hfd))).mono fun b hb => HS2.out.2.2.2 b hb.1 hb.2⟩ hk10 (JH.after2 (by decide) hl hs7 ⟨a1, m1, hg1, hM10⟩)
      · refine (show bodyPost _ _ _ (.panic _) _ _ from ⟨Hdef.out, ?_⟩)
        rw [← HQ.out, hg1]
        exact .inr ⟨rfl, ⟨_, rfl⟩, Kr.out.trans hk10⟩
    case b9 =>
      intro fr wr hg hold
      have h0 : fr.tmps[0]?.getD undef = .pointer (some ⟨M, 0, none⟩) := hold 0 rfl
      have h5 : fr.tmps[5]?.getD undef = .pointer (some ⟨w.heap.size, 0, none⟩) := hold 5 rfl
      have h6 : fr.tmps[6]?.getD undef = .pointer (some ⟨w.heap.size + 1, 0, none⟩) := hold 6 rfl
      have h7 : fr.tmps[7]?.getD undef = .pointer (some ⟨w.heap.size + 1 + 1, 0, none⟩) := hold 7 rfl
      clear hold
      have t0' := Kp.cell hg t0 (show ¬ (w.heap.size = M) by omega)
      have t1' := Kp.cell hg t1 (show ¬ (w.heap.size = M) by omega)
      have t2' := Kp.cell hg t2 (show ¬ (w.heap.size = M) by omega)
      have t3' := Kp.cell hg t3 (show ¬ (w.heap.size = M) by omega)
      have x0' := Kp.cell hg x0 (show ¬ (w.heap.size + 1 = M) by omega)
      have x1' := Kp.cell hg x1 (show ¬ (w.heap.size + 1 = M) by omega)
      have x2' := Kp.cell hg x2 (show ¬ (w.heap.size + 1 = M) by omega)
      have x3' := Kp.cell hg x3 (show ¬ (w.heap.size + 1 = M) by omega)
      have y0' := Kp.cell hg y0 (show ¬ (w.heap.size + 1 + 1 = M) by omega)
      have y1' := Kp.cell hg y1 (show ¬ (w.heap.size + 1 + 1 = M) by omega)
      have y2' := Kp.cell hg y2 (show ¬ (w.heap.size + 1 + 1 = M) by omega)
      have y3' := Kp.cell hg y3 (show ¬ (w.heap.size + 1 + 1 = M) by omega)
      have u0' := Kp.cell hg u0 (show ¬ (bt = M) by omega)
      have u1' := Kp.cell hg u1 (show ¬ (bt = M) by omega)
      have u2' := Kp.cell hg u2 (show ¬ (bt = M) by omega)
      have u3' := Kp.cell hg u3 (show ¬ (bt = M) by omega)
      have Kr : Hid (Kp (· = M) w wr) := kw.trans hg
      have Hg : Hid (Kp (· = M) w1 wr) := hg
      clear t0 t1 t2 t3 x0 x1 x2 x3 y0 y1 y2 y3 u0 u1 u2 u3
      simp [predsImp, Region.binds, dstAt]
      rintro ⟨a2, ha2, b2, e21, hin, he, hon⟩ K hK
      replace e21 : fr.tmps[89]?.getD undef = .agg #[.int .i64 b2.k, .int .i64 b2.n, .string b2.s, .slice b2.p b2.l.length b2.c] := e21
      go_simp
      rw [Option.map_eq_some_iff] at ha2
      obtain ⟨⟨a3, m3⟩, hg3, rfl⟩ := ha2
      have hs2 := slIs_one (S := S2) (one_new (t := b2) hin (Gr.rfl' _)) hon (HS1.out _ hg.size)
      rw [he] at hs2
      exact hK _ _ ⟨_, by rw [hg3]; rfl, hs2⟩ (by go_grown)
    case b10 =>
      intro fr wr hg hold
      have h0 : fr.tmps[0]?.getD undef = .pointer (some ⟨M, 0, none⟩) := hold 0 rfl
      have h5 : fr.tmps[5]?.getD undef = .pointer (some ⟨w.heap.size, 0, none⟩) := hold 5 rfl
      have h6 : fr.tmps[6]?.getD undef = .pointer (some ⟨w.heap.size + 1, 0, none⟩) := hold 6 rfl
      have h7 : fr.tmps[7]?.getD undef = .pointer (some ⟨w.heap.size + 1 + 1, 0, none⟩) := hold 7 rfl
      clear hold
      have t0' := Kp.cell hg t0 (show ¬ (w.heap.size = M) by omega)
      have t1' := Kp.cell hg t1 (show ¬ (w.heap.size = M) by omega)
      have t2' := Kp.cell hg t2 (show ¬ (w.heap.size = M) by omega)
      have t3' := Kp.cell hg t3 (show ¬ (w.heap.size = M) by omega)
      have x0' := Kp.cell hg x0 (show ¬ (w.heap.size + 1 = M) by omega)
      have x1' := Kp.cell hg x1 (show ¬ (w.heap.size + 1 = M) by omega)
      have x2' := Kp.cell hg x2 (show ¬ (w.heap.size + 1 = M) by omega)
      have x3' := Kp.cell hg x3 (show ¬ (w.heap.size + 1 = M) by omega)
      have y0' := Kp.cell hg y0 (show ¬ (w.heap.size + 1 + 1 = M) by omega)
      have y1' := Kp.cell hg y1 (show ¬ (w.heap.size + 1 + 1 = M) by omega)
      have y2' := Kp.cell hg y2 (show ¬ (w.heap.size + 1 + 1 = M) by omega)
      have y3' := Kp.cell hg y3 (show ¬ (w.heap.size + 1 + 1 = M) by omega)
      have u0' := Kp.cell hg u0 (show ¬ (bt = M) by omega)
      have u1' := Kp.cell hg u1 (show ¬ (bt = M) by omega)
      have u2' := Kp.cell hg u2 (show ¬ (bt = M) by omega)
      have u3' := Kp.cell hg u3 (show ¬ (bt = M) by omega)
      have Kr : Hid (Kp (· = M) w wr) := kw.trans hg
      have Hg : Hid (Kp (· = M) w1 wr) := hg
      clear t0 t1 t2 t3 x0 x1 x2 x3 y0 y1 y2 y3 u0 u1 u2 u3
      simp [predsImp, Region.binds, dstAt]
      rintro ⟨a', ha', hsl⟩ _ K hK
      go_simp
      refine (comp_ok (s := ⟨#[92, 43]⟩) hsl (by decide)).mono ?_
      rintro e w10 ⟨v', rfl, ht, hg2⟩
      rw [blNot] at ht
      rw [Option.map_eq_some_iff] at ha'
      obtain ⟨⟨a3, m3⟩, hg3, rfl⟩ := ha'
      exact hK _ _ ⟨_, by rw [hg3]; rfl, ht⟩ hg2
    case b13 =>
      intro fr wr hg hold
      have h0 : fr.tmps[0]?.getD undef = .pointer (some ⟨M, 0, none⟩) := hold 0 rfl
      have h5 : fr.tmps[5]?.getD undef = .pointer (some ⟨w.heap.size, 0, none⟩) := hold 5 rfl
      have h6 : fr.tmps[6]?.getD undef = .pointer (some ⟨w.heap.size + 1, 0, none⟩) := hold 6 rfl
      have h7 : fr.tmps[7]?.getD undef = .pointer (some ⟨w.heap.size + 1 + 1, 0, none⟩) := hold 7 rfl
      clear hold
      have t0' := Kp.cell hg t0 (show ¬ (w.heap.size = M) by omega)
      have t1' := Kp.cell hg t1 (show ¬ (w.heap.size = M) by omega)
      have t2' := Kp.cell hg t2 (show ¬ (w.heap.size = M) by omega)
      have t3' := Kp.cell hg t3 (show ¬ (w.heap.size = M) by omega)
      have x0' := Kp.cell hg x0 (show ¬ (w.heap.size + 1 = M) by omega)
      have x1' := Kp.cell hg x1 (show ¬ (w.heap.size + 1 = M) by omega)
      have x2' := Kp.cell hg x2 (show ¬ (w.heap.size + 1 = M) by omega)
      have x3' := Kp.cell hg x3 (show ¬ (w.heap.size + 1 = M) by omega)
      have y0' := Kp.cell hg y0 (show ¬ (w.heap.size + 1 + 1 = M) by omega)
      have y1' := Kp.cell hg y1 (show ¬ (w.heap.size + 1 + 1 = M) by omega)
      have y2' := Kp.cell hg y2 (show ¬ (w.heap.size + 1 + 1 = M) by omega)
      have y3' := Kp.cell hg y3 (show ¬ (w.heap.size + 1 + 1 = M) by omega)
      have u0' := Kp.cell hg u0 (show ¬ (bt = M) by omega)
      have u1' := Kp.cell hg u1 (show ¬ (bt = M) by omega)
      have u2' := Kp.cell hg u2 (show ¬ (bt = M) by omega)
      have u3' := Kp.cell hg u3 (show ¬ (bt = M) by omega)
      have Kr : Hid (Kp (· = M) w wr) := kw.trans hg
      have Hg : Hid (Kp (· = M) w1 wr) := hg
      clear t0 t1 t2 t3 x0 x1 x2 x3 y0 y1 y2 y3 u0 u1 u2 u3
      simp [predsImp, Region.binds, dstAt, fx]
      intros
      rename_i K hK
      go_simp
      rewrite [← Hxv.out, ← Hyv.out]
      refine (equal_calls x y S2 wr (in_kp Hx3.out HxO.out (fun _ h => h) Hg.out) (in_kp Hy3.out HyO.out (fun _ h => h) Hg.out) Hxo2.out Hyo2.out (fun c hc => HS1.out c (Nat.le_trans hg.size hc))).mono ?_
      rintro e w10 ⟨bm, hin, he, rfl, hg2, hon⟩
      exact hK _ _ ⟨bm, rfl, hin, he, hon⟩ hg2
    case b14 =>
      intro fr wr hg hold
      have h0 : fr.tmps[0]?.getD undef = .pointer (some ⟨M, 0, none⟩) := hold 0 rfl
      have h5 : fr.tmps[5]?.getD undef = .pointer (some ⟨w.heap.size, 0, none⟩) := hold 5 rfl
      have h6 : fr.tmps[6]?.getD undef = .pointer (some ⟨w.heap.size + 1, 0, none⟩) := hold 6 rfl
      have h7 : fr.tmps[7]?.getD undef = .pointer (some ⟨w.heap.size + 1 + 1, 0, none⟩) := hold 7 rfl
      clear hold
      have t0' := Kp.cell hg t0 (show ¬ (w.heap.size = M) by omega)
      have t1' := Kp.cell hg t1 (show ¬ (w.heap.size = M) by omega)
      have t2' := Kp.cell hg t2 (show ¬ (w.heap.size = M) by omega)
      have t3' := Kp.cell hg t3 (show ¬ (w.heap.size = M) by omega)
      have x0' := Kp.cell hg x0 (show ¬ (w.heap.size + 1 = M) by omega)
      have x1' := Kp.cell hg x1 (show ¬ (w.heap.size + 1 = M) by omega)
      have x2' := Kp.cell hg x2 (show ¬ (w.heap.size + 1 = M) by omega)
      have x3' := Kp.cell hg x3 (show ¬ (w.heap.size + 1 = M) by omega)
      have y0' := Kp.cell hg y0 (show ¬ (w.heap.size + 1 + 1 = M) by omega)
      have y1' := Kp.cell hg y1 (show ¬ (w.heap.size + 1 + 1 = M) by omega)
      have y2' := Kp.cell hg y2 (show ¬ (w.heap.size + 1 + 1 = M) by omega)
      have y3' := Kp.cell hg y3 (show ¬ (w.heap.size + 1 + 1 = M) by omega)
      have u0' := Kp.cell hg u0 (show ¬ (bt = M) by omega)
      have u1' := Kp.cell hg u1 (show ¬ (bt = M) by omega)
      have u2' := Kp.cell hg u2 (show ¬ (bt = M) by omega)
      have u3' := Kp.cell hg u3 (show ¬ (bt = M) by omega)
      have Kr : Hid (Kp (· = M) w wr) := kw.trans hg
      have Hg : Hid (Kp (· = M) w1 wr) := hg
      clear t0 t1 t2 t3 x0 x1 x2 x3 y0 y1 y2 y3 u0 u1 u2 u3
      simp [predsImp, Region.binds, dstAt]
      rintro ⟨a', ha', b1, e91, i1, he1, o1⟩ ⟨b2, e94, i2, he2, o2⟩ K hK
      go_simp
      rw [Option.map_eq_some_iff] at ha'
      obtain ⟨⟨a3, m3⟩, hg3, rfl⟩ := ha'
      refine (both_calls b1 b2 S2 wr i1 i2 o1 o2 (fun c hc => HS1.out c (Nat.le_trans hg.size hc))).mono ?_
      rintro e w10 ⟨b3, hin, he3, rfl, hg2, hon⟩
      exact hK _ _ ⟨_, by rw [hg3]; rfl, b3, rfl, hin, by rw [he3, he1, he2], hon⟩ hg2
    all_goals
      intro fr wr hg hold
      have h0 : fr.tmps[0]?.getD undef = .pointer (some ⟨M, 0, none⟩) := hold 0 rfl
      have h5 : fr.tmps[5]?.getD undef = .pointer (some ⟨w.heap.size, 0, none⟩) := hold 5 rfl
      have h6 : fr.tmps[6]?.getD undef = .pointer (some ⟨w.heap.size + 1, 0, none⟩) := hold 6 rfl
      have h7 : fr.tmps[7]?.getD undef = .pointer (some ⟨w.heap.size + 1 + 1, 0, none⟩) := hold 7 rfl
      clear hold
      have t0' := Kp.cell hg t0 (show ¬ (w.heap.size = M) by omega)
      have t1' := Kp.cell hg t1 (show ¬ (w.heap.size = M) by omega)
      have t2' := Kp.cell hg t2 (show ¬ (w.heap.size = M) by omega)
      have t3' := Kp.cell hg t3 (show ¬ (w.heap.size = M) by omega)
      have x0' := Kp.cell hg x0 (show ¬ (w.heap.size + 1 = M) by omega)
      have x1' := Kp.cell hg x1 (show ¬ (w.heap.size + 1 = M) by omega)
      have x2' := Kp.cell hg x2 (show ¬ (w.heap.size + 1 = M) by omega)
      have x3' := Kp.cell hg x3 (show ¬ (w.heap.size + 1 = M) by omega)
      have y0' := Kp.cell hg y0 (show ¬ (w.heap.size + 1 + 1 = M) by omega)
      have y1' := Kp.cell hg y1 (show ¬ (w.heap.size + 1 + 1 = M) by omega)
      have y2' := Kp.cell hg y2 (show ¬ (w.heap.size + 1 + 1 = M) by omega)
      have y3' := Kp.cell hg y3 (show ¬ (w.heap.size + 1 + 1 = M) by omega)
      have u0' := Kp.cell hg u0 (show ¬ (bt = M) by omega)
      have u1' := Kp.cell hg u1 (show ¬ (bt = M) by omega)
      have u2' := Kp.cell hg u2 (show ¬ (bt = M) by omega)
      have u3' := Kp.cell hg u3 (show ¬ (bt = M) by omega)
      have Kr : Hid (Kp (· = M) w wr) := kw.trans hg
      have Hg : Hid (Kp (· = M) w1 wr) := hg
      clear t0 t1 t2 t3 x0 x1 x2 x3 y0 y1 y2 y3 u0 u1 u2 u3
      simp [predsImp, Region.binds, dstAt, fx]
      intros
      rename_i K hK
      go_simp
    all_goals exact hK _ _ rfl (Gr.rfl' _)
  · intro wc hg hj
    rintro _ rfl _ rfl _ rfl _ rfl _ rfl _ rfl _ rfl _ rfl v8 _ v9 _ v10 _ _ rfl _ rfl v13 _ v14 ⟨a4, ha4, ⟨kb, nb, sb, pb, cb, lb⟩, rfl, hin, he, hon⟩
    obtain ⟨a2, m2, hg2, hM9⟩ := JH.done hj (by decide)
    have hk9 : Kp (· = M) w1 wc := hg
    have k9 : Kp (· = M) w wc := kw.trans hk9
    have hab : a4 = bothT (compT sNot [a2]) (eqT x.erase y.erase) := by rw [hg2] at ha4; exact (Option.some.inj ha4).symm
    have HB := Lib.hid (And.intro hin (And.intro he hon))
    have HG2 := Lib.hid (And.intro hg2 (And.intro hM9 (And.intro k9 hab)))
    obtain ⟨⟨s0, s1, s2, s3⟩, ⟨f0, f1, f2, f3⟩, hlt⟩ := (HR.out.kp hk9 (by omega)).parts
    clear hin he hon hg hj hg2 hM9 hk9 hab ha4 t0 t1 t2 t3 x0 x1 x2 x3 y0 y1 y2 y3 u0 u1 u2 u3
    simp only [tm_val]
    simp only [finAll, Act.put, List.setIfInBounds_toArray, List.set_cons_succ, List.set_cons_zero, List.drop_succ_cons, List.drop_zero, List.take_zero]
    go_wp2_with fail
    refine bodyPost_ret (v := (Tm.mk kb nb sb pb cb lb).val) (by simp (maxDischargeDepth := 9) [results, Try.results85, go_sem, tm_val, s0, s1, s2, s3]) rfl ?_
    rw [← HQ.out]
    obtain ⟨hin, he, hon⟩ := HB.out
    obtain ⟨hg2, hM9, k9, hab⟩ := HG2.out
    rw [hg2]
    exact ret_gm hin (he.trans hab) hon HS2.out.2.2.1 k9 (by omega) hM9 (by omega) _ _ _ _

end Go.Proofs.Yteonakicoomjkaa

namespace Go.Proofs.Yteonakicoomjkaa
open Go.RowKit Go.Lib

theorem erase_mk (t : Tm) : t.erase = .mk t.k t.n t.s.toList (Tm.eraseL t.l) := by obtain ⟨k, n, s, p, c, l⟩ := t; rw [Tm.erase]; rfl

set_option maxHeartbeats 1000000 in
theorem goal_walk (t : Tm) (ih : ∀ x ∈ t.l, goalOf x) : goalOf t := by
  intro x y M m w h
  have he := erase_mk t
  by_cases h1 : t.k = 1
  · exact gw_var t x y M m w h (by
      have hl : t.l = [] := by
        have hf := h.hf
        rw [he, h1] at hf
        have := congrArg List.length (formed_var hf).2.2
        rw [Tm.eraseL_length] at this
        exact List.eq_nil_of_length_eq_zero this
      rw [he, h1]; exact goal_var) (beq_iff_eq.2 h1)
  have hk1 : (t.k == 1) = false := beq_eq_false_iff_ne.2 h1
  by_cases h2 : t.k = 2
  · exact gw_int t x y M m w h (by rw [he, h2]; exact goal_int) hk1 (beq_iff_eq.2 h2)
  have hk2 : (t.k == 2) = false := beq_eq_false_iff_ne.2 h2
  have hj : t.erase.gJoin = (t.erase.isOf sComma 2 || t.erase.isOf sArrow 2) := rfl
  have hu : t.erase.gUnit = (t.erase.isOf sNil 0 || t.erase.isOf sCurl 0) := rfl
  cases c1 : t.erase.isOf sComma 2 with
  | true =>
    obtain ⟨u, v, hl⟩ := isOf_twoTm c1
    rw [c1] at hj
    have hev : T.goal reserved t.erase x.erase y.erase m = match T.goal reserved u.erase x.erase (varT m) (m + 1) with | none => none | some (u1, m1) => match T.goal reserved v.erase (varT m) y.erase m1 with | none => none | some (u2, m2) => some (compT t.s.toList [u1, u2], m2) := by
      rw [he, hl, Tm.eraseL, Tm.eraseL, Tm.eraseL] at hj ⊢
      exact goal_join h1 h2 hj
    exact gw_join1 t x y M m w h u v hl (ih u (by rw [hl]; simp)) (ih v (by rw [hl]; simp)) hev hk1 hk2 c1
  | false =>
  cases c2 : t.erase.isOf sArrow 2 with
  | true =>
    obtain ⟨u, v, hl⟩ := isOf_twoTm c2
    rw [c1, c2] at hj
    have hev : T.goal reserved t.erase x.erase y.erase m = match T.goal reserved u.erase x.erase (varT m) (m + 1) with | none => none | some (u1, m1) => match T.goal reserved v.erase (varT m) y.erase m1 with | none => none | some (u2, m2) => some (compT t.s.toList [u1, u2], m2) := by
      rw [he, hl, Tm.eraseL, Tm.eraseL, Tm.eraseL] at hj ⊢
      exact goal_join h1 h2 hj
    exact gw_join2 t x y M m w h u v hl (ih u (by rw [hl]; simp)) (ih v (by rw [hl]; simp)) hev hk1 hk2 c1 c2
  | false =>
  rw [c1, c2] at hj
  cases c3 : t.erase.isOf sSemi 2 with
  | true =>
    obtain ⟨u, v, hl⟩ := isOf_twoTm c3
    have hev : T.goal reserved t.erase x.erase y.erase m = match T.goal reserved u.erase x.erase y.erase m with | none => none | some (u1, m1) => match T.goal reserved v.erase x.erase y.erase m1 with | none => none | some (u2, m2) => some (compT sSemi [u1, u2], m2) := by
      have c3' := c3
      rw [he, hl, Tm.eraseL, Tm.eraseL, Tm.eraseL] at hj c3' ⊢
      exact goal_semi h1 h2 hj c3'
    exact gw_semi t x y M m w h u v hl (ih u (by rw [hl]; simp)) (ih v (by rw [hl]; simp)) hev hk1 hk2 c1 c2 c3
  | false =>
  cases c4 : t.erase.isOf sNot 1 with
  | true =>
    obtain ⟨u, hl⟩ := isOf_oneTm c4
    have hev : T.goal reserved t.erase x.erase y.erase m = match T.goal reserved u.erase x.erase (varT m) (m + 1) with | none => none | some (u1, m1) => some (bothT (compT sNot [u1]) (eqT x.erase y.erase), m1) := by
      have c3' := c3
      have c4' := c4
      rw [he, hl, Tm.eraseL, Tm.eraseL] at hj c3' c4' ⊢
      exact goal_not h1 h2 hj c3' c4'
    exact gw_not t x y M m w h u hl (ih u (by rw [hl]; simp)) hev hk1 hk2 c1 c2 c3 c4
  | false =>
  cases c5 : t.erase.isOf sNil 0 with
  | true =>
    rw [c5] at hu
    have hev : T.goal reserved t.erase x.erase y.erase m = some (eqT x.erase y.erase, m) := by
      have c3' := c3
      have c4' := c4
      rw [he] at hj c3' c4' hu ⊢
      exact goal_unit h1 h2 hj c3' c4' hu
    exact gw_unit1 t x y M m w h hev hk1 hk2 c1 c2 c3 c4 c5
  | false =>
  cases c6 : t.erase.isOf sCurl 0 with
  | true =>
    rw [c5, c6] at hu
    have hev : T.goal reserved t.erase x.erase y.erase m = some (eqT x.erase y.erase, m) := by
      have c3' := c3
      have c4' := c4
      rw [he] at hj c3' c4' hu ⊢
      exact goal_unit h1 h2 hj c3' c4' hu
    exact gw_unit2 t x y M m w h hev hk1 hk2 c1 c2 c3 c4 c5 c6
  | false =>
  rw [c5, c6] at hu
  cases c7 : t.erase.isOf sCurl 1 with
  | true =>
    obtain ⟨u, hl⟩ := isOf_oneTm c7
    have hev : T.goal reserved t.erase x.erase y.erase m = match T.body u.erase with | none => none | some ub => some (bothT ub (eqT x.erase y.erase), m) := by
      have c3' := c3
      have c4' := c4
      have c7' := c7
      rw [he, hl, Tm.eraseL, Tm.eraseL] at hj c3' c4' c7' hu ⊢
      exact goal_curl h1 h2 hj c3' c4' hu c7'
    cases hb : T.body u.erase with
    | none =>
      rw [hb] at hev
      exact gw_curlN t x y M m w h u hl hb hev hk1 hk2 c1 c2 c3 c4 c5 c6 c7
    | some ub =>
      rw [hb] at hev
      exact gw_curlS t x y M m w h u hl ub hb hev hk1 hk2 c1 c2 c3 c4 c5 c6 c7
  | false =>
  cases c8 : t.erase.isOf sCut 0 with
  | true =>
    have hev : T.goal reserved t.erase x.erase y.erase m = some (bothT t.erase (eqT x.erase y.erase), m) := by
      have c3' := c3
      have c4' := c4
      have c7' := c7
      have c8' := c8
      rw [he] at hj c3' c4' c7' c8' hu ⊢
      exact goal_cut h1 h2 hj c3' c4' hu c7' c8'
    exact gw_cut t x y M m w h hev hk1 hk2 c1 c2 c3 c4 c5 c6 c7 c8
  | false =>
  cases c9 : t.erase.isOf sDot 2 with
  | true =>
    have hev : T.goal reserved t.erase x.erase y.erase m = (T.words t.erase y.erase).map fun u => (eqT x.erase u, m) := by
      have c3' := c3
      have c4' := c4
      have c7' := c7
      have c8' := c8
      have c9' := c9
      rw [he] at hj c3' c4' c7' c8' c9' hu ⊢
      exact goal_dot h1 h2 hj c3' c4' hu c7' c8' c9'
    exact gw_dot t x y M m w h hev hk1 hk2 c1 c2 c3 c4 c5 c6 c7 c8 c9
  | false =>
  have hev : T.goal reserved t.erase x.erase y.erase m = if t.s.toList = sCallT ∧ 0 < (Tm.eraseL t.l).length then (if 8 < (Tm.eraseL t.l).length + 2 then none else some (compT sCallT (Tm.eraseL t.l ++ [x.erase, y.erase]), m)) else (T.gcall reserved t.erase x.erase y.erase).map fun u => (u, m) := by
    have c3' := c3
    have c4' := c4
    have c7' := c7
    have c8' := c8
    have c9' := c9
    rw [he] at hj c3' c4' c7' c8' c9' hu ⊢
    exact goal_rest h1 h2 hj c3' c4' hu c7' c8' c9'
  rw [Tm.eraseL_length] at hev
  by_cases hs : t.s.toList = sCallT
  · by_cases hl : 0 < t.l.length
    · rw [if_pos ⟨hs, hl⟩] at hev
      by_cases h8 : 8 < t.l.length + 2
      · rw [if_pos h8] at hev
        exact gw_callBig t x y M m w h hs hl h8 hev hk1 hk2 c1 c2 c3 c4 c5 c6 c7 c8 c9
      · rw [if_neg h8] at hev
        exact gw_callSmall t x y M m w h hs hl h8 (by rw [hev, eraseL_append]; simp only [Tm.eraseL]) hk1 hk2 c1 c2 c3 c4 c5 c6 c7 c8 c9
    · rw [if_neg (fun hh => hl hh.2)] at hev
      exact gw_rest2 t x y M m w h hs (by omega) hev hk1 hk2 c1 c2 c3 c4 c5 c6 c7 c8 c9
  · rw [if_neg (fun hh => hs hh.1)] at hev
    exact gw_rest1 t x y M m w h hs hev hk1 hk2 c1 c2 c3 c4 c5 c6 c7 c8 c9

theorem goal_any (N : Nat) : ∀ t : Tm, SizeOf.sizeOf t ≤ N → goalOf t := by
  induction N with
  | zero => intro t h; cases t; simp at h
  | succ N ih =>
    intro t h
    refine goal_walk t fun x hx => ih x ?_
    obtain ⟨k, n, s, p, c, l⟩ := t
    have := Tm.sizeOf_mem (l := l) hx k n s p c
    omega
theorem goal_calls (t : Tm) : goalOf t := goal_any _ t (Nat.le_refl _)
end Go.Proofs.Yteonakicoomjkaa

namespace Go.Proofs.Yteonakicoomjkaa
open Go.RowKit

theorem neqG_nil (w : World) : (binOp .neq 20 .nilIface .nilIface).run Try.prog w = .ok (.bool false) w := by kernel_rfl
theorem neqG_wr (v : Value) (w : World) : (binOp .neq 20 (.iface 177 v) .nilIface).run Try.prog w = .ok (.bool true) w := by kernel_rfl
theorem assertG_wr (v : Value) (w : World) : (Instr.typeAssert (.iface 177 v) 20 177 true).run Try.prog w = .ok (.tuple #[v, .bool true]) w := by kernel_rfl

set_option maxHeartbeats 400000 in
theorem guard_idle (p q : Addr) (w : World) :
    CallsD Try.prog 142 #[.pointer (some p), .pointer (some q)] .returning w fun e u' w' => e = .returned (.tuple #[]) ∧ u' = .returning ∧ w' = w := by
  have q1 := neqG_nil
  refine callsD_of_wpS Try.func142 rfl fun c₀ cs hu => ?_
  apply wpS_seq
  apply wpS_region
  simp [wpOpsS, go_sem, recoverD, hu, Try.ntmps142, Exit.thenS]
  refine wpS_of_wp ?_
  have hfin : ∀ a : Act, a.defers = [] → bodyPostS Try.prog Try.f142 c₀ cs (fun e u' w' => e = Ending.returned (Value.tuple #[]) ∧ u' = FrameMode.returning ∧ w' = w) .normal a (c₀ :: cs) w := by
    intro a ha
    cases c₀
    simp_all [bodyPostS, results, Try.results142]
  generalize bodyPostS Try.prog Try.f142 c₀ cs (fun e u' w' => e = Ending.returned (Value.tuple #[]) ∧ u' = FrameMode.returning ∧ w' = w) = Q at hfin ⊢
  have hfin2 := Lib.hid hfin
  clear hfin hu
  rw [show (#[Value.pointer (some p), Value.pointer (some q)] ++ ((Array.replicate 17 undef).setIfInBounds 3 Value.nilIface).setIfInBounds 0 Value.nilIface) = #[Value.pointer (some p), Value.pointer (some q), .nilIface, undef, undef, .nilIface, undef, undef, undef, undef, undef, undef, undef, undef, undef, undef, undef, undef, undef] from rfl]
  go_wp2_with fail
  exact hfin2.out _ rfl

/-- What the closure leaves. -/
def CaughtG (B C : Nat) (c : Int) (w w' : World) : Prop :=
  (w'.cell? ⟨B, 0, none⟩ = some (.int .i64 0) ∧ w'.cell? ⟨B, 1, none⟩ = some (.int .i64 0) ∧ w'.cell? ⟨B, 2, none⟩ = some (.string ⟨#[]⟩) ∧ w'.cell? ⟨B, 3, none⟩ = some (.slice none 0 0)) ∧ w'.cell? ⟨C, 0, none⟩ = some (.int .i64 c) ∧ Below B w w'

set_option maxHeartbeats 1000000 in
set_option maxRecDepth 100000 in
theorem guard_panicking (B C : Nat) (c : Int) (w : World) (c0 b0 b1 b2 b3 : Value) (hBC : B < C)
    (hb0 : w.cell? ⟨B, 0, none⟩ = some b0) (hb1 : w.cell? ⟨B, 1, none⟩ = some b1) (hb2 : w.cell? ⟨B, 2, none⟩ = some b2) (hb3 : w.cell? ⟨B, 3, none⟩ = some b3) (hc : w.cell? ⟨C, 0, none⟩ = some c0)
    (fb0 : w.frozen? ⟨B, 0, none⟩ = false) (fb1 : w.frozen? ⟨B, 1, none⟩ = false) (fb2 : w.frozen? ⟨B, 2, none⟩ = false) (fb3 : w.frozen? ⟨B, 3, none⟩ = false) (fc : w.frozen? ⟨C, 0, none⟩ = false) :
    CallsD Try.prog 142 #[.pointer (some ⟨B, 0, none⟩), .pointer (some ⟨C, 0, none⟩)] (.panicking ({ v := .iface 177 (.agg #[.int .i64 c]), recovered := false } :: [])) w fun e u' w' =>
      e = .returned (.tuple #[]) ∧ u' = .panicking ({ v := .iface 177 (.agg #[.int .i64 c]), recovered := true } :: []) ∧ CaughtG B C c w w' := by
  have q1 := neqG_wr
  have q2 := assertG_wr
  refine callsD_of_wpS Try.func142 rfl fun c₀ cs hu => ?_
  apply wpS_seq
  apply wpS_region
  simp [wpOpsS, go_sem, recoverD, hu, Try.ntmps142, Exit.thenS]
  refine wpS_of_wp ?_
  have hfin : ∀ (a : Act) (w' : World), a.defers = [] → CaughtG B C c w w' → bodyPostS Try.prog Try.f142 c₀ cs (fun e u' w' => e = Ending.returned (Value.tuple #[]) ∧ u' = FrameMode.panicking [{ v := Value.iface 177 (.agg #[.int .i64 c]), recovered := true }] ∧ CaughtG B C c w w') .normal a ({ fn := c₀.fn, tmps := c₀.tmps, todo := c₀.todo, defers := c₀.defers, mode := FrameMode.panicking [{ v := Value.iface 177 (.agg #[.int .i64 c]), recovered := true }], kind := c₀.kind, roundOf := c₀.roundOf } :: cs) w' := by
    intro a w' ha hw
    cases c₀
    simp_all [bodyPostS, results, Try.results142]
  generalize bodyPostS Try.prog Try.f142 c₀ cs (fun e u' w' => e = Ending.returned (Value.tuple #[]) ∧ u' = FrameMode.panicking [{ v := Value.iface 177 (.agg #[.int .i64 c]), recovered := true }] ∧ CaughtG B C c w w') = Q at hfin ⊢
  generalize ({ fn := c₀.fn, tmps := c₀.tmps, todo := c₀.todo, defers := c₀.defers, mode := FrameMode.panicking [{ v := Value.iface 177 (.agg #[.int .i64 c]), recovered := true }], kind := c₀.kind, roundOf := c₀.roundOf } :: cs) = fr at hfin ⊢
  have hfin2 := Lib.hid hfin
  have lb := World.block_lt_of_cell? _ _ hb0
  have lc := World.block_lt_of_cell? _ _ hc
  clear hfin hu
  rw [show (#[Value.pointer (some ⟨B, 0, none⟩), Value.pointer (some ⟨C, 0, none⟩)] ++ ((Array.replicate 17 undef).setIfInBounds 3 (Value.iface 177 (.agg #[.int .i64 c]))).setIfInBounds 0 (Value.iface 177 (.agg #[.int .i64 c]))) = #[Value.pointer (some ⟨B, 0, none⟩), Value.pointer (some ⟨C, 0, none⟩), (Value.iface 177 (.agg #[.int .i64 c])), undef, undef, (Value.iface 177 (.agg #[.int .i64 c])), undef, undef, undef, undef, undef, undef, undef, undef, undef, undef, undef, undef, undef] from rfl]
  go_wp2_with fail
  go_region
  have hBC' : B ≠ C := by omega
  refine hfin2.out _ _ rfl ⟨⟨?_, ?_, ?_, ?_⟩, by go_cell, by go_grown⟩
  all_goals
    rw [World.cell?_drew, World.cell?_alloc_past _ _ _ (by simpa using lb), cell_set_ne hBC']
    simp [World.cell?_setCell_other, World.cell?_setCell_same', hb0, hb1, hb2, hb3]
end Go.Proofs.Yteonakicoomjkaa
