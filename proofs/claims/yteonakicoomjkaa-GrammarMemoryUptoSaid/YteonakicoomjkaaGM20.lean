/-
  grammar's goal of a part
  grammar's goal of call/n
  A term's one or two Args.
  grammar's goal of {}/1 that is no body
  grammar's goal of {}/1
-/
import Derived.Test.YteonakicoomjkaaGM18
namespace Go.Proofs.Yteonakicoomjkaa
open Go.RowKit Go.Lib

set_option maxHeartbeats 8000000 in
set_option maxRecDepth 100000 in
theorem gw_rest2 (t x y : Tm) (M : Nat) (m : Int) (w : World) (h : GIn t x y M m w) (hs : t.s.toList = sCallT) (hl : t.l.length = 0) (hv : T.goal reserved t.erase x.erase y.erase m = (T.gcall reserved t.erase x.erase y.erase).map fun u => (u, m)) (hk1 : (t.k == 1) = false) (hk2 : (t.k == 2) = false) (c_comma : t.erase.isOf sComma 2 = false) (c_arrow : t.erase.isOf sArrow 2 = false) (c_semi : t.erase.isOf sSemi 2 = false) (c_not : t.erase.isOf sNot 1 = false) (c_nil : t.erase.isOf sNil 0 = false) (c_curl0 : t.erase.isOf sCurl 0 = false) (c_curl1 : t.erase.isOf sCurl 1 = false) (c_cut : t.erase.isOf sCut 0 = false) (c_dot : t.erase.isOf sDot 2 = false) :
    Calls Try.prog 85 #[.pointer (some ⟨M, 0, none⟩), t.val, x.val, y.val] w (RetG (T.goal reserved t.erase x.erase y.erase m) M w) := by
  rw [hv]
  generalize hQ : RetG ((T.gcall reserved t.erase x.erase y.erase).map fun u => (u, m)) M w = Q
  have HQ := Lib.hid hQ
  have H := Lib.hid h
  have hMl : M < w.heap.size := h.hM.lt
  have hm1 := h.hm
  clear hQ h hv
  have Htv := Lib.hid (show t.val = .agg #[.int .i64 t.k, .int .i64 t.n, .string t.s, .slice t.p t.l.length t.c] from rfl)
  have Hxv := Lib.hid (show x.val = .agg #[.int .i64 x.k, .int .i64 x.n, .string x.s, .slice x.p x.l.length x.c] from rfl)
  have Hyv := Lib.hid (show y.val = .agg #[.int .i64 y.k, .int .i64 y.n, .string y.s, .slice y.p y.l.length y.c] from rfl)
  have Hs := Lib.hid (show t.s = ⟨#[99, 97, 108, 108]⟩ from eq_of_toList (by rw [hs, blCall]))
  have Hl := Lib.hid hl
  clear hs hl
  have E0 := Lib.hid (show t.erase.isOf (ByteArray.mk #[44]).toList 2 = false by rw [bl44c]; exact c_comma)
  have E1 := Lib.hid (show t.erase.isOf (ByteArray.mk #[45, 62]).toList 2 = false by rw [bl4562]; exact c_arrow)
  have E2 := Lib.hid (show t.erase.isOf (ByteArray.mk #[59]).toList 2 = false by rw [bl59]; exact c_semi)
  have E3 := Lib.hid (show t.erase.isOf (ByteArray.mk #[92, 43]).toList 1 = false by rw [blNot]; exact c_not)
  have E4 := Lib.hid (show t.erase.isOf (ByteArray.mk #[91, 93]).toList 0 = false by rw [blNil]; exact c_nil)
  have E5 := Lib.hid (show t.erase.isOf (ByteArray.mk #[123, 125]).toList 0 = false by rw [blCurl]; exact c_curl0)
  have E6 := Lib.hid (show t.erase.isOf (ByteArray.mk #[123, 125]).toList 1 = false by rw [blCurl]; exact c_curl1)
  have E7 := Lib.hid (show t.erase.isOf (ByteArray.mk #[33]).toList 0 = false by rw [blCut]; exact c_cut)
  have E8 := Lib.hid (show t.erase.isOf (ByteArray.mk #[46]).toList 2 = false by rw [blDot]; exact c_dot)
  clear c_comma c_arrow c_semi c_not c_nil c_curl0 c_curl1 c_cut c_dot
  simp only [Tm.val]
  go_enter Try.func85, Try.ntmps85
  try simp only [List.append_eq, List.cons_append, List.nil_append]
  go_upto_region 1 with fail
  obtain ⟨HT, HX, HY, HR, gA⟩ := four_blocks w (.int .i64 t.k) (.int .i64 t.n) (.string t.s) (.slice t.p t.l.length t.c) (.int .i64 x.k) (.int .i64 x.n) (.string x.s) (.slice x.p x.l.length x.c) (.int .i64 y.k) (.int .i64 y.n) (.string y.s) (.slice y.p y.l.length y.c) (.int .i64 0) (.int .i64 0) (.string ⟨#[]⟩) (.slice none 0 0) _ rfl
  generalize ((((w.alloc (.cells #[.int .i64 t.k, .int .i64 t.n, .string t.s, .slice t.p t.l.length t.c] 24)).alloc (.cells #[.int .i64 x.k, .int .i64 x.n, .string x.s, .slice x.p x.l.length x.c] 24)).alloc (.cells #[.int .i64 y.k, .int .i64 y.n, .string y.s, .slice y.p y.l.length y.c] 24)).alloc (.cells #[.int .i64 0, .int .i64 0, .string ⟨#[]⟩, .slice none 0 0] 24)) = wA at *
  have HRl := Lib.hid (show w.heap.size + 1 + 1 + 1 < wA.heap.size from HR.out.parts.2.2)
  have Hto2 := Lib.hid (Tm.On.and (on_maker H.out.hM H.out.ht) (in_ne (R := w.heap.size + 1 + 1 + 1) H.out.ht (by omega)))
  have Hxo2 := Lib.hid (Tm.On.and (on_maker H.out.hM H.out.hx) (in_ne (R := w.heap.size + 1 + 1 + 1) H.out.hx (by omega)))
  have Hyo2 := Lib.hid (Tm.On.and (on_maker H.out.hM H.out.hy) (in_ne (R := w.heap.size + 1 + 1 + 1) H.out.hy (by omega)))
  have hS2 : (∀ c, wA.heap.size ≤ c → (fun b => b ≠ M ∧ b ≠ w.heap.size + 1 + 1 + 1) c) ∧ (∀ b, (fun b => b ≠ M ∧ b ≠ w.heap.size + 1 + 1 + 1) b → b ≠ M) ∧ (∀ b, (fun b => b ≠ M ∧ b ≠ w.heap.size + 1 + 1 + 1) b → b ≠ w.heap.size + 1 + 1 + 1) ∧ (∀ b, b ≠ M → b ≠ w.heap.size + 1 + 1 + 1 → (fun b => b ≠ M ∧ b ≠ w.heap.size + 1 + 1 + 1) b) :=
    ⟨fun c hc => ⟨by have := HRl.out; omega, by have := HRl.out; omega⟩, fun _ h => h.1, fun _ h => h.2, fun _ h1 h2 => ⟨h1, h2⟩⟩
  generalize (fun b => b ≠ M ∧ b ≠ w.heap.size + 1 + 1 + 1) = S2 at Hto2 Hxo2 Hyo2 hS2
  have HS2 := Lib.hid hS2
  clear hS2
  have HSW : Hid (wA.heap.size ≤ wA.heap.size) := Nat.le_refl _
  obtain ⟨⟨t0, t1, t2, t3⟩, _, _⟩ := HT.out.parts
  obtain ⟨⟨x0, x1, x2, x3⟩, _, _⟩ := HX.out.parts
  obtain ⟨⟨y0, y1, y2, y3⟩, _, _⟩ := HY.out.parts
  go_upto_region 27 with (first
    | (go_at_call 76; rewrite [← Htv.out]; refine (is_calls _ _ _ _).mono ?_; rintro e w1 ⟨rfl, hb⟩; (first | rewrite [E0.out] | rewrite [E1.out] | rewrite [E2.out] | rewrite [E3.out] | rewrite [E4.out] | rewrite [E5.out] | rewrite [E6.out] | rewrite [E7.out] | rewrite [E8.out]); replace gA := Gr.trans gA hb; replace HSW := Lib.hid (Nat.le_trans HSW.out hb.size); replace HT := Lib.hid (HT.out.gr hb); replace HX := Lib.hid (HX.out.gr hb); replace HY := Lib.hid (HY.out.gr hb); replace HR := Lib.hid (HR.out.gr hb); clear t0 t1 t2 t3 x0 x1 x2 x3 y0 y1 y2 y3 hb; obtain ⟨⟨t0, t1, t2, t3⟩, _, _⟩ := HT.out.parts; obtain ⟨⟨x0, x1, x2, x3⟩, _, _⟩ := HX.out.parts; obtain ⟨⟨y0, y1, y2, y3⟩, _, _⟩ := HY.out.parts)
    | fail)
  rw [Hs.out] at t2
  rw [Hl.out] at t3
  go_upto_region 31 with fail
  clear t2 t3
  obtain ⟨⟨_, _, t2, t3⟩, _, _⟩ := HT.out.parts
  have gw := gA
  have HS2' : Hid (∀ c, w1.heap.size ≤ c → S2 c) := fun c hc => HS2.out.1 c (Nat.le_trans HSW.out hc)
  go_wp2_with (first
    | (go_at_call 82
       rewrite [← Htv.out, ← Hxv.out, ← Hyv.out]
       refine (call_calls t x y S2 _ (Tm.In_below gw H.out.ht) (Tm.In_below gw H.out.hx) (Tm.In_below gw H.out.hy) Hto2.out Hxo2.out Hyo2.out HS2'.out H.out.hf).mono ?_
       rintro e w' (⟨u, hu, ⟨kb, nb, sb, pb, cb, lb⟩, hin, he, rfl, hg, hon⟩ | ⟨hu, ⟨c9, rfl⟩, hg⟩)
       (rewrite [tm_val]
        obtain ⟨⟨r0, r1, r2, r3⟩, ⟨f0, f1, f2, f3⟩, hlt⟩ := (HR.out.gr hg).parts
        have HB := Lib.hid (And.intro hin (And.intro he hon))
        have HU := Lib.hid hu
        have g2 : Gr w w' := Gr.trans gw hg
        clear hin he hon hg hu t0 t1 t2 t3 x0 x1 x2 x3 y0 y1 y2 y3))
    | fail)
  · refine bodyPost_ret (v := (Tm.mk kb nb sb pb cb lb).val) (by simp (maxDischargeDepth := 9) [results, Try.results85, go_sem, tm_val, r0, r1, r2, r3]) rfl ?_
    rw [← HQ.out]
    obtain ⟨hin, he, hon⟩ := HB.out
    rw [HU.out]
    exact ret_gm hin he hon HS2.out.2.2.1 (Kp.of_gr g2) (by omega) (H.out.hM.gr g2) (by omega) _ _ _ _
  · refine ⟨rfl, ?_⟩
    rw [← HQ.out, hu]
    exact .inr ⟨rfl, ⟨_, rfl⟩, Kp.of_gr (Gr.trans gw hg)⟩

end Go.Proofs.Yteonakicoomjkaa

namespace Go.Proofs.Yteonakicoomjkaa
open Go.RowKit Go.Lib

set_option maxHeartbeats 8000000 in
set_option maxRecDepth 100000 in
theorem gw_callBig (t x y : Tm) (M : Nat) (m : Int) (w : World) (h : GIn t x y M m w) (hs : t.s.toList = sCallT) (hl : 0 < t.l.length) (h8 : 8 < t.l.length + 2) (hv : T.goal reserved t.erase x.erase y.erase m = none) (hk1 : (t.k == 1) = false) (hk2 : (t.k == 2) = false) (c_comma : t.erase.isOf sComma 2 = false) (c_arrow : t.erase.isOf sArrow 2 = false) (c_semi : t.erase.isOf sSemi 2 = false) (c_not : t.erase.isOf sNot 1 = false) (c_nil : t.erase.isOf sNil 0 = false) (c_curl0 : t.erase.isOf sCurl 0 = false) (c_curl1 : t.erase.isOf sCurl 1 = false) (c_cut : t.erase.isOf sCut 0 = false) (c_dot : t.erase.isOf sDot 2 = false) :
    Calls Try.prog 85 #[.pointer (some ⟨M, 0, none⟩), t.val, x.val, y.val] w (RetG (T.goal reserved t.erase x.erase y.erase m) M w) := by
  rw [hv]
  generalize hQ : RetG (none) M w = Q
  have HQ := Lib.hid hQ
  have H := Lib.hid h
  have hMl : M < w.heap.size := h.hM.lt
  have hm1 := h.hm
  clear hQ h hv
  have Htv := Lib.hid (show t.val = .agg #[.int .i64 t.k, .int .i64 t.n, .string t.s, .slice t.p t.l.length t.c] from rfl)
  have Hxv := Lib.hid (show x.val = .agg #[.int .i64 x.k, .int .i64 x.n, .string x.s, .slice x.p x.l.length x.c] from rfl)
  have Hyv := Lib.hid (show y.val = .agg #[.int .i64 y.k, .int .i64 y.n, .string y.s, .slice y.p y.l.length y.c] from rfl)
  have Hs := Lib.hid (show t.s = ⟨#[99, 97, 108, 108]⟩ from eq_of_toList (by rw [hs, blCall]))
  have Hl := Lib.hid hl
  have Hpos := Lib.hid (show (0 : Int) < (t.l.length : Int) by omega)
  have Htl := Lib.hid (tm_small H.out.hf).2
  clear hs hl
  have H8 := Lib.hid h8
  clear h8
  have E0 := Lib.hid (show t.erase.isOf (ByteArray.mk #[44]).toList 2 = false by rw [bl44c]; exact c_comma)
  have E1 := Lib.hid (show t.erase.isOf (ByteArray.mk #[45, 62]).toList 2 = false by rw [bl4562]; exact c_arrow)
  have E2 := Lib.hid (show t.erase.isOf (ByteArray.mk #[59]).toList 2 = false by rw [bl59]; exact c_semi)
  have E3 := Lib.hid (show t.erase.isOf (ByteArray.mk #[92, 43]).toList 1 = false by rw [blNot]; exact c_not)
  have E4 := Lib.hid (show t.erase.isOf (ByteArray.mk #[91, 93]).toList 0 = false by rw [blNil]; exact c_nil)
  have E5 := Lib.hid (show t.erase.isOf (ByteArray.mk #[123, 125]).toList 0 = false by rw [blCurl]; exact c_curl0)
  have E6 := Lib.hid (show t.erase.isOf (ByteArray.mk #[123, 125]).toList 1 = false by rw [blCurl]; exact c_curl1)
  have E7 := Lib.hid (show t.erase.isOf (ByteArray.mk #[33]).toList 0 = false by rw [blCut]; exact c_cut)
  have E8 := Lib.hid (show t.erase.isOf (ByteArray.mk #[46]).toList 2 = false by rw [blDot]; exact c_dot)
  clear c_comma c_arrow c_semi c_not c_nil c_curl0 c_curl1 c_cut c_dot
  simp only [Tm.val]
  go_enter Try.func85, Try.ntmps85
  try simp only [List.append_eq, List.cons_append, List.nil_append]
  go_upto_region 1 with fail
  obtain ⟨HT, HX, HY, HR, gA⟩ := four_blocks w (.int .i64 t.k) (.int .i64 t.n) (.string t.s) (.slice t.p t.l.length t.c) (.int .i64 x.k) (.int .i64 x.n) (.string x.s) (.slice x.p x.l.length x.c) (.int .i64 y.k) (.int .i64 y.n) (.string y.s) (.slice y.p y.l.length y.c) (.int .i64 0) (.int .i64 0) (.string ⟨#[]⟩) (.slice none 0 0) _ rfl
  generalize ((((w.alloc (.cells #[.int .i64 t.k, .int .i64 t.n, .string t.s, .slice t.p t.l.length t.c] 24)).alloc (.cells #[.int .i64 x.k, .int .i64 x.n, .string x.s, .slice x.p x.l.length x.c] 24)).alloc (.cells #[.int .i64 y.k, .int .i64 y.n, .string y.s, .slice y.p y.l.length y.c] 24)).alloc (.cells #[.int .i64 0, .int .i64 0, .string ⟨#[]⟩, .slice none 0 0] 24)) = wA at *
  have HRl := Lib.hid (show w.heap.size + 1 + 1 + 1 < wA.heap.size from HR.out.parts.2.2)
  have Hto2 := Lib.hid (Tm.On.and (on_maker H.out.hM H.out.ht) (in_ne (R := w.heap.size + 1 + 1 + 1) H.out.ht (by omega)))
  have Hxo2 := Lib.hid (Tm.On.and (on_maker H.out.hM H.out.hx) (in_ne (R := w.heap.size + 1 + 1 + 1) H.out.hx (by omega)))
  have Hyo2 := Lib.hid (Tm.On.and (on_maker H.out.hM H.out.hy) (in_ne (R := w.heap.size + 1 + 1 + 1) H.out.hy (by omega)))
  have hS2 : (∀ c, wA.heap.size ≤ c → (fun b => b ≠ M ∧ b ≠ w.heap.size + 1 + 1 + 1) c) ∧ (∀ b, (fun b => b ≠ M ∧ b ≠ w.heap.size + 1 + 1 + 1) b → b ≠ M) ∧ (∀ b, (fun b => b ≠ M ∧ b ≠ w.heap.size + 1 + 1 + 1) b → b ≠ w.heap.size + 1 + 1 + 1) ∧ (∀ b, b ≠ M → b ≠ w.heap.size + 1 + 1 + 1 → (fun b => b ≠ M ∧ b ≠ w.heap.size + 1 + 1 + 1) b) :=
    ⟨fun c hc => ⟨by have := HRl.out; omega, by have := HRl.out; omega⟩, fun _ h => h.1, fun _ h => h.2, fun _ h1 h2 => ⟨h1, h2⟩⟩
  generalize (fun b => b ≠ M ∧ b ≠ w.heap.size + 1 + 1 + 1) = S2 at Hto2 Hxo2 Hyo2 hS2
  have HS2 := Lib.hid hS2
  clear hS2
  obtain ⟨⟨t0, t1, t2, t3⟩, _, _⟩ := HT.out.parts
  obtain ⟨⟨x0, x1, x2, x3⟩, _, _⟩ := HX.out.parts
  obtain ⟨⟨y0, y1, y2, y3⟩, _, _⟩ := HY.out.parts
  go_upto_region 27 with (first
    | (go_at_call 76; rewrite [← Htv.out]; refine (is_calls _ _ _ _).mono ?_; rintro e w1 ⟨rfl, hb⟩; (first | rewrite [E0.out] | rewrite [E1.out] | rewrite [E2.out] | rewrite [E3.out] | rewrite [E4.out] | rewrite [E5.out] | rewrite [E6.out] | rewrite [E7.out] | rewrite [E8.out]); replace gA := Gr.trans gA hb; replace HT := Lib.hid (HT.out.gr hb); replace HX := Lib.hid (HX.out.gr hb); replace HY := Lib.hid (HY.out.gr hb); replace HR := Lib.hid (HR.out.gr hb); clear t0 t1 t2 t3 x0 x1 x2 x3 y0 y1 y2 y3 hb; obtain ⟨⟨t0, t1, t2, t3⟩, _, _⟩ := HT.out.parts; obtain ⟨⟨x0, x1, x2, x3⟩, _, _⟩ := HX.out.parts; obtain ⟨⟨y0, y1, y2, y3⟩, _, _⟩ := HY.out.parts)
    | fail)
  rw [Hs.out] at t2
  have hpos := Hpos.out
  have htl := Htl.out
  have h8' : (8 : Int) < (t.l.length : Int) + 2 := by have := H8.out; omega
  go_wp2_with (first
    | (go_at_call 87; refine (fail_calls _ _).mono ?_; rintro e w2 ⟨rfl, hb2⟩)
    | fail)
  refine ⟨rfl, ?_⟩
  rw [← HQ.out]
  exact .inr ⟨rfl, ⟨_, rfl⟩, Kp.of_gr (Gr.trans gA hb2)⟩

set_option maxHeartbeats 8000000 in
set_option maxRecDepth 100000 in
theorem gw_callSmall (t x y : Tm) (M : Nat) (m : Int) (w : World) (h : GIn t x y M m w) (hs : t.s.toList = sCallT) (hl : 0 < t.l.length) (h8 : ¬ 8 < t.l.length + 2) (hv : T.goal reserved t.erase x.erase y.erase m = some (compT sCallT (Tm.eraseL (t.l ++ [x, y])), m)) (hk1 : (t.k == 1) = false) (hk2 : (t.k == 2) = false) (c_comma : t.erase.isOf sComma 2 = false) (c_arrow : t.erase.isOf sArrow 2 = false) (c_semi : t.erase.isOf sSemi 2 = false) (c_not : t.erase.isOf sNot 1 = false) (c_nil : t.erase.isOf sNil 0 = false) (c_curl0 : t.erase.isOf sCurl 0 = false) (c_curl1 : t.erase.isOf sCurl 1 = false) (c_cut : t.erase.isOf sCut 0 = false) (c_dot : t.erase.isOf sDot 2 = false) :
    Calls Try.prog 85 #[.pointer (some ⟨M, 0, none⟩), t.val, x.val, y.val] w (RetG (T.goal reserved t.erase x.erase y.erase m) M w) := by
  rw [hv]
  generalize hQ : RetG (some (compT sCallT (Tm.eraseL (t.l ++ [x, y])), m)) M w = Q
  have HQ := Lib.hid hQ
  have H := Lib.hid h
  have hMl : M < w.heap.size := h.hM.lt
  have hm1 := h.hm
  clear hQ h hv
  have Htv := Lib.hid (show t.val = .agg #[.int .i64 t.k, .int .i64 t.n, .string t.s, .slice t.p t.l.length t.c] from rfl)
  have Hxv := Lib.hid (show x.val = .agg #[.int .i64 x.k, .int .i64 x.n, .string x.s, .slice x.p x.l.length x.c] from rfl)
  have Hyv := Lib.hid (show y.val = .agg #[.int .i64 y.k, .int .i64 y.n, .string y.s, .slice y.p y.l.length y.c] from rfl)
  have Hs := Lib.hid (show t.s = ⟨#[99, 97, 108, 108]⟩ from eq_of_toList (by rw [hs, blCall]))
  have Hl := Lib.hid hl
  have Hpos := Lib.hid (show (0 : Int) < (t.l.length : Int) by omega)
  have Htl := Lib.hid (tm_small H.out.hf).2
  clear hs hl
  have H8 := Lib.hid h8
  clear h8
  have E0 := Lib.hid (show t.erase.isOf (ByteArray.mk #[44]).toList 2 = false by rw [bl44c]; exact c_comma)
  have E1 := Lib.hid (show t.erase.isOf (ByteArray.mk #[45, 62]).toList 2 = false by rw [bl4562]; exact c_arrow)
  have E2 := Lib.hid (show t.erase.isOf (ByteArray.mk #[59]).toList 2 = false by rw [bl59]; exact c_semi)
  have E3 := Lib.hid (show t.erase.isOf (ByteArray.mk #[92, 43]).toList 1 = false by rw [blNot]; exact c_not)
  have E4 := Lib.hid (show t.erase.isOf (ByteArray.mk #[91, 93]).toList 0 = false by rw [blNil]; exact c_nil)
  have E5 := Lib.hid (show t.erase.isOf (ByteArray.mk #[123, 125]).toList 0 = false by rw [blCurl]; exact c_curl0)
  have E6 := Lib.hid (show t.erase.isOf (ByteArray.mk #[123, 125]).toList 1 = false by rw [blCurl]; exact c_curl1)
  have E7 := Lib.hid (show t.erase.isOf (ByteArray.mk #[33]).toList 0 = false by rw [blCut]; exact c_cut)
  have E8 := Lib.hid (show t.erase.isOf (ByteArray.mk #[46]).toList 2 = false by rw [blDot]; exact c_dot)
  clear c_comma c_arrow c_semi c_not c_nil c_curl0 c_curl1 c_cut c_dot
  simp only [Tm.val]
  go_enter Try.func85, Try.ntmps85
  try simp only [List.append_eq, List.cons_append, List.nil_append]
  go_upto_region 1 with fail
  obtain ⟨HT, HX, HY, HR, gA⟩ := four_blocks w (.int .i64 t.k) (.int .i64 t.n) (.string t.s) (.slice t.p t.l.length t.c) (.int .i64 x.k) (.int .i64 x.n) (.string x.s) (.slice x.p x.l.length x.c) (.int .i64 y.k) (.int .i64 y.n) (.string y.s) (.slice y.p y.l.length y.c) (.int .i64 0) (.int .i64 0) (.string ⟨#[]⟩) (.slice none 0 0) _ rfl
  generalize ((((w.alloc (.cells #[.int .i64 t.k, .int .i64 t.n, .string t.s, .slice t.p t.l.length t.c] 24)).alloc (.cells #[.int .i64 x.k, .int .i64 x.n, .string x.s, .slice x.p x.l.length x.c] 24)).alloc (.cells #[.int .i64 y.k, .int .i64 y.n, .string y.s, .slice y.p y.l.length y.c] 24)).alloc (.cells #[.int .i64 0, .int .i64 0, .string ⟨#[]⟩, .slice none 0 0] 24)) = wA at *
  have HRl := Lib.hid (show w.heap.size + 1 + 1 + 1 < wA.heap.size from HR.out.parts.2.2)
  have Hto2 := Lib.hid (Tm.On.and (on_maker H.out.hM H.out.ht) (in_ne (R := w.heap.size + 1 + 1 + 1) H.out.ht (by omega)))
  have Hxo2 := Lib.hid (Tm.On.and (on_maker H.out.hM H.out.hx) (in_ne (R := w.heap.size + 1 + 1 + 1) H.out.hx (by omega)))
  have Hyo2 := Lib.hid (Tm.On.and (on_maker H.out.hM H.out.hy) (in_ne (R := w.heap.size + 1 + 1 + 1) H.out.hy (by omega)))
  have hS2 : (∀ c, wA.heap.size ≤ c → (fun b => b ≠ M ∧ b ≠ w.heap.size + 1 + 1 + 1) c) ∧ (∀ b, (fun b => b ≠ M ∧ b ≠ w.heap.size + 1 + 1 + 1) b → b ≠ M) ∧ (∀ b, (fun b => b ≠ M ∧ b ≠ w.heap.size + 1 + 1 + 1) b → b ≠ w.heap.size + 1 + 1 + 1) ∧ (∀ b, b ≠ M → b ≠ w.heap.size + 1 + 1 + 1 → (fun b => b ≠ M ∧ b ≠ w.heap.size + 1 + 1 + 1) b) :=
    ⟨fun c hc => ⟨by have := HRl.out; omega, by have := HRl.out; omega⟩, fun _ h => h.1, fun _ h => h.2, fun _ h1 h2 => ⟨h1, h2⟩⟩
  generalize (fun b => b ≠ M ∧ b ≠ w.heap.size + 1 + 1 + 1) = S2 at Hto2 Hxo2 Hyo2 hS2
  have HS2 := Lib.hid hS2
  clear hS2
  have HSW : Hid (wA.heap.size ≤ wA.heap.size) := Nat.le_refl _
  obtain ⟨⟨t0, t1, t2, t3⟩, _, _⟩ := HT.out.parts
  obtain ⟨⟨x0, x1, x2, x3⟩, _, _⟩ := HX.out.parts
  obtain ⟨⟨y0, y1, y2, y3⟩, _, _⟩ := HY.out.parts
  go_upto_region 27 with (first
    | (go_at_call 76; rewrite [← Htv.out]; refine (is_calls _ _ _ _).mono ?_; rintro e w1 ⟨rfl, hb⟩; (first | rewrite [E0.out] | rewrite [E1.out] | rewrite [E2.out] | rewrite [E3.out] | rewrite [E4.out] | rewrite [E5.out] | rewrite [E6.out] | rewrite [E7.out] | rewrite [E8.out]); replace gA := Gr.trans gA hb; replace HSW := Lib.hid (Nat.le_trans HSW.out hb.size); replace HT := Lib.hid (HT.out.gr hb); replace HX := Lib.hid (HX.out.gr hb); replace HY := Lib.hid (HY.out.gr hb); replace HR := Lib.hid (HR.out.gr hb); clear t0 t1 t2 t3 x0 x1 x2 x3 y0 y1 y2 y3 hb; obtain ⟨⟨t0, t1, t2, t3⟩, _, _⟩ := HT.out.parts; obtain ⟨⟨x0, x1, x2, x3⟩, _, _⟩ := HX.out.parts; obtain ⟨⟨y0, y1, y2, y3⟩, _, _⟩ := HY.out.parts)
    | fail)
  rw [Hs.out] at t2
  have hpos := Hpos.out
  have htl := Htl.out
  have h8' : ¬ (8 : Int) < (t.l.length : Int) + 2 := by have := H8.out; omega
  have h8d : decide ((8 : Int) < (t.l.length : Int) + 2) = false := decide_eq_false h8'
  go_upto_region 30 with fail
  have gw := gA
  have HS2' : Hid (∀ c, w1.heap.size ≤ c → S2 c) := fun c hc => HS2.out.1 c (Nat.le_trans HSW.out hc)
  go_wp2_with (first
    | (go_at_call 144
       refine (concat_two (l1 := t.l) (l2 := [x, y]) (S := S2) ⟨_, _, _, _, _, rfl, by go_cell, by go_cell, H.out.ht.slw.mono (Gr.trans gw (by go_grown)), two_new (t := x) (u := y) (Tm.In_below gw H.out.hx) (Tm.In_below gw H.out.hy) (by go_grown)⟩ Hto2.out.lw (by rw [Tm.OnL, Tm.OnL, Tm.OnL]; exact ⟨Hxo2.out, Hyo2.out, trivial⟩) (fun c hc => HS2'.out c (Nat.le_trans (by simp; omega) hc)) (by simp; omega)).mono ?_
       rintro e w5 ⟨v', rfl, ⟨p', c', rfl, hsl, hon⟩, hg5⟩
       have HSL := Lib.hid (And.intro hsl hon)
       have g5 : Gr w1 w5 := below_step hg5 (by go_grown)
       clear hsl hon hg5)
    | (go_at_call 84
       refine (comp_ok (s := ⟨#[99, 97, 108, 108]⟩) (S := S2) (l := Tm.eraseL (t.l ++ [x, y])) ⟨p', c', t.l ++ [x, y], by simp, HSL.out.1, rfl, HSL.out.2⟩ (by decide)).mono ?_
       rintro e w' ⟨v', rfl, ⟨⟨kb, nb, sb, pb, cb, lb⟩, rfl, hin, he, hon⟩, hg⟩
       rewrite [tm_val]
       obtain ⟨⟨r0, r1, r2, r3⟩, ⟨f0, f1, f2, f3⟩, hlt⟩ := (HR.out.gr (Gr.trans g5 hg)).parts
       have HB := Lib.hid (And.intro hin (And.intro he hon))
       have g9 : Gr w w' := Gr.trans gw (Gr.trans g5 hg)
       clear hin he hon hg t0 t1 t2 t3 x0 x1 x2 x3 y0 y1 y2 y3)
    | fail)
  refine bodyPost_ret (v := (Tm.mk kb nb sb pb cb lb).val) (by simp (maxDischargeDepth := 9) [results, Try.results85, go_sem, tm_val, r0, r1, r2, r3]) rfl ?_
  rw [← HQ.out]
  obtain ⟨hin, he, hon⟩ := HB.out
  rw [blCall] at he
  exact ret_gm hin he hon HS2.out.2.2.1 (Kp.of_gr g9) (by omega) (H.out.hM.gr g9) (by omega) _ _ _ _

end Go.Proofs.Yteonakicoomjkaa

namespace Go.Proofs.Yteonakicoomjkaa
open Go.RowKit Go.Lib

theorem args_one {t u : Tm} {w : World} (hl : t.l = [u]) (hin : t.In w) : ∃ b o, t.p = some ⟨b, o, none⟩ ∧ u.In w ∧
    w.cell? ⟨b, o, none⟩ = some (.int .i64 u.k) ∧ w.cell? ⟨b, o + 1, none⟩ = some (.int .i64 u.n) ∧ w.cell? ⟨b, o + 2, none⟩ = some (.string u.s) ∧ w.cell? ⟨b, o + 3, none⟩ = some (.slice u.p u.l.length u.c) := by
  obtain ⟨k, n, s, p, c, l⟩ := t
  simp only [Tm.l] at hl
  subst hl
  have hsl := hin.sl
  obtain ⟨b, o, rfl⟩ := hsl.ptr (by simp)
  obtain ⟨⟨u0, u1, u2, u3⟩, hui, _⟩ := hsl.elem 0 (by simp)
  simp only [List.getElem_cons_zero, Nat.zero_mul, Nat.add_zero] at u0 u1 u2 u3 hui
  exact ⟨b, o, rfl, hui, u0, u1, u2, u3⟩
theorem args_two {t u v : Tm} {w : World} (hl : t.l = [u, v]) (hin : t.In w) : ∃ b o, t.p = some ⟨b, o, none⟩ ∧ (u.In w ∧
    w.cell? ⟨b, o, none⟩ = some (.int .i64 u.k) ∧ w.cell? ⟨b, o + 1, none⟩ = some (.int .i64 u.n) ∧ w.cell? ⟨b, o + 2, none⟩ = some (.string u.s) ∧ w.cell? ⟨b, o + 3, none⟩ = some (.slice u.p u.l.length u.c)) ∧ (v.In w ∧
    w.cell? ⟨b, o + 4, none⟩ = some (.int .i64 v.k) ∧ w.cell? ⟨b, o + 4 + 1, none⟩ = some (.int .i64 v.n) ∧ w.cell? ⟨b, o + 4 + 2, none⟩ = some (.string v.s) ∧ w.cell? ⟨b, o + 4 + 3, none⟩ = some (.slice v.p v.l.length v.c)) := by
  obtain ⟨k, n, s, p, c, l⟩ := t
  simp only [Tm.l] at hl
  subst hl
  have hsl := hin.sl
  obtain ⟨b, o, rfl⟩ := hsl.ptr (by simp)
  obtain ⟨⟨u0, u1, u2, u3⟩, hui, _⟩ := hsl.elem 0 (by simp)
  obtain ⟨⟨v0, v1, v2, v3⟩, hvi, _⟩ := hsl.elem 1 (by simp)
  simp only [List.getElem_cons_zero, List.getElem_cons_succ, Nat.zero_mul, Nat.add_zero, Nat.one_mul] at u0 u1 u2 u3 hui v0 v1 v2 v3 hvi
  exact ⟨b, o, rfl, ⟨hui, u0, u1, u2, u3⟩, hvi, v0, v1, v2, v3⟩
theorem one_formed {t u : Tm} (hl : t.l = [u]) (hf : t.erase.formed = true) : u.erase.formed = true ∧ t.erase.size = u.erase.size + 1 := by
  obtain ⟨k, n, s, p, c, l⟩ := t
  simp only [Tm.l] at hl
  subst hl
  rw [Tm.erase, Tm.eraseL, Tm.eraseL] at hf ⊢
  exact ⟨formed_one_inv hf, by rw [T.size, T.sizeL, T.sizeL, Nat.add_zero]⟩
theorem two_formed {t u v : Tm} (hl : t.l = [u, v]) (hf : t.erase.formed = true) : (u.erase.formed = true ∧ v.erase.formed = true) ∧ t.erase.size = u.erase.size + v.erase.size + 1 := by
  obtain ⟨k, n, s, p, c, l⟩ := t
  simp only [Tm.l] at hl
  subst hl
  rw [Tm.erase, Tm.eraseL, Tm.eraseL, Tm.eraseL] at hf ⊢
  obtain ⟨_, _, _, h1, h2⟩ := formed_two_inv hf
  exact ⟨⟨h1, h2⟩, by rw [T.size, T.sizeL, T.sizeL, T.sizeL]; omega⟩
theorem erase_s (t : Tm) : t.erase.s = t.s.toList := by obtain ⟨k, n, s, p, c, l⟩ := t; rfl

/-- A maker of a variable that is in range. -/
theorem varTm_in' {m : Int} (h : 0 ≤ m ∧ m ≤ 1099515822080) (w : World) : (varTm m).In w := varTm_in ⟨by omega, by omega⟩ w

theorem okTm_kp {S C : Nat → Prop} {r : Option T} (hS : ∀ b, S b → ¬ C b) : ∀ v w w', okTm S r v w → Kp C w w' → okTm S r v w' := fun v w w' ⟨u, h1, h2⟩ hg => ⟨u, h1, tmIs_kp hS v w w' h2 hg⟩
theorem okSl_kp {S C : Nat → Prop} {r : Option (List T)} (hS : ∀ b, S b → ¬ C b) : ∀ v w w', okSl S r v w → Kp C w w' → okSl S r v w' := fun v w w' ⟨u, h1, h2⟩ hg => ⟨u, h1, slIs_kp hS v w w' h2 hg⟩

theorem blk4_set4 {w : World} {B : Nat} {u0 u1 u2 u3 : Value} (h : Blk4 w B u0 u1 u2 u3) (v0 v1 v2 v3 : Value) : Blk4 ((((w.setCell ⟨B, 0, none⟩ v0).setCell ⟨B, 1, none⟩ v1).setCell ⟨B, 2, none⟩ v2).setCell ⟨B, 3, none⟩ v3) B v0 v1 v2 v3 := by
  have h0 : (w.setCell ⟨B, 0, none⟩ v0).heap[B]? = some (.cells #[v0, u1, u2, u3] 24) := by rw [heap_setCell_same _ B _ _ _ _ h]; rfl
  have h1 : ((w.setCell ⟨B, 0, none⟩ v0).setCell ⟨B, 1, none⟩ v1).heap[B]? = some (.cells #[v0, v1, u2, u3] 24) := by rw [heap_setCell_same _ B _ _ _ _ h0]; rfl
  have h2 : (((w.setCell ⟨B, 0, none⟩ v0).setCell ⟨B, 1, none⟩ v1).setCell ⟨B, 2, none⟩ v2).heap[B]? = some (.cells #[v0, v1, v2, u3] 24) := by rw [heap_setCell_same _ B _ _ _ _ h1]; rfl
  unfold Blk4
  rw [heap_setCell_same _ B _ _ _ _ h2]; rfl
end Go.Proofs.Yteonakicoomjkaa

namespace Go.Proofs.Yteonakicoomjkaa
open Go.RowKit Go.Lib

set_option maxHeartbeats 8000000 in
set_option maxRecDepth 100000 in
theorem gw_curlN (t x y : Tm) (M : Nat) (m : Int) (w : World) (h : GIn t x y M m w) (u : Tm) (hl : t.l = [u]) (hb : T.body u.erase = none) (hv : T.goal reserved t.erase x.erase y.erase m = none) (hk1 : (t.k == 1) = false) (hk2 : (t.k == 2) = false) (c_comma : t.erase.isOf sComma 2 = false) (c_arrow : t.erase.isOf sArrow 2 = false) (c_semi : t.erase.isOf sSemi 2 = false) (c_not : t.erase.isOf sNot 1 = false) (c_nil : t.erase.isOf sNil 0 = false) (c_curl0 : t.erase.isOf sCurl 0 = false) (c_curl1 : t.erase.isOf sCurl 1 = true) :
    Calls Try.prog 85 #[.pointer (some ⟨M, 0, none⟩), t.val, x.val, y.val] w (RetG (T.goal reserved t.erase x.erase y.erase m) M w) := by
  rw [hv]
  generalize hQ : RetG (none) M w = Q
  have HQ := Lib.hid hQ
  have H := Lib.hid h
  have hMl : M < w.heap.size := h.hM.lt
  have hm1 := h.hm
  clear hQ h hv
  have Htv := Lib.hid (show t.val = .agg #[.int .i64 t.k, .int .i64 t.n, .string t.s, .slice t.p t.l.length t.c] from rfl)
  have Hxv := Lib.hid (show x.val = .agg #[.int .i64 x.k, .int .i64 x.n, .string x.s, .slice x.p x.l.length x.c] from rfl)
  have Hyv := Lib.hid (show y.val = .agg #[.int .i64 y.k, .int .i64 y.n, .string y.s, .slice y.p y.l.length y.c] from rfl)
  have Hl := Lib.hid hl
  have Hb := Lib.hid hb
  clear hl hb
  have E0 := Lib.hid (show t.erase.isOf (ByteArray.mk #[44]).toList 2 = false by rw [bl44c]; exact c_comma)
  have E1 := Lib.hid (show t.erase.isOf (ByteArray.mk #[45, 62]).toList 2 = false by rw [bl4562]; exact c_arrow)
  have E2 := Lib.hid (show t.erase.isOf (ByteArray.mk #[59]).toList 2 = false by rw [bl59]; exact c_semi)
  have E3 := Lib.hid (show t.erase.isOf (ByteArray.mk #[92, 43]).toList 1 = false by rw [blNot]; exact c_not)
  have E4 := Lib.hid (show t.erase.isOf (ByteArray.mk #[91, 93]).toList 0 = false by rw [blNil]; exact c_nil)
  have E5 := Lib.hid (show t.erase.isOf (ByteArray.mk #[123, 125]).toList 0 = false by rw [blCurl]; exact c_curl0)
  have E6 := Lib.hid (show t.erase.isOf (ByteArray.mk #[123, 125]).toList 1 = true by rw [blCurl]; exact c_curl1)
  clear c_comma c_arrow c_semi c_not c_nil c_curl0 c_curl1
  simp only [Tm.val]
  go_enter Try.func85, Try.ntmps85
  try simp only [List.append_eq, List.cons_append, List.nil_append]
  go_upto_region 1 with fail
  obtain ⟨HT, HX, HY, HR, gA⟩ := four_blocks w (.int .i64 t.k) (.int .i64 t.n) (.string t.s) (.slice t.p t.l.length t.c) (.int .i64 x.k) (.int .i64 x.n) (.string x.s) (.slice x.p x.l.length x.c) (.int .i64 y.k) (.int .i64 y.n) (.string y.s) (.slice y.p y.l.length y.c) (.int .i64 0) (.int .i64 0) (.string ⟨#[]⟩) (.slice none 0 0) _ rfl
  generalize ((((w.alloc (.cells #[.int .i64 t.k, .int .i64 t.n, .string t.s, .slice t.p t.l.length t.c] 24)).alloc (.cells #[.int .i64 x.k, .int .i64 x.n, .string x.s, .slice x.p x.l.length x.c] 24)).alloc (.cells #[.int .i64 y.k, .int .i64 y.n, .string y.s, .slice y.p y.l.length y.c] 24)).alloc (.cells #[.int .i64 0, .int .i64 0, .string ⟨#[]⟩, .slice none 0 0] 24)) = wA at *
  have HRl := Lib.hid (show w.heap.size + 1 + 1 + 1 < wA.heap.size from HR.out.parts.2.2)
  have Hto2 := Lib.hid (Tm.On.and (on_maker H.out.hM H.out.ht) (in_ne (R := w.heap.size + 1 + 1 + 1) H.out.ht (by omega)))
  have Hxo2 := Lib.hid (Tm.On.and (on_maker H.out.hM H.out.hx) (in_ne (R := w.heap.size + 1 + 1 + 1) H.out.hx (by omega)))
  have Hyo2 := Lib.hid (Tm.On.and (on_maker H.out.hM H.out.hy) (in_ne (R := w.heap.size + 1 + 1 + 1) H.out.hy (by omega)))
  have hS2 : (∀ c, wA.heap.size ≤ c → (fun b => b ≠ M ∧ b ≠ w.heap.size + 1 + 1 + 1) c) ∧ (∀ b, (fun b => b ≠ M ∧ b ≠ w.heap.size + 1 + 1 + 1) b → b ≠ M) ∧ (∀ b, (fun b => b ≠ M ∧ b ≠ w.heap.size + 1 + 1 + 1) b → b ≠ w.heap.size + 1 + 1 + 1) ∧ (∀ b, b ≠ M → b ≠ w.heap.size + 1 + 1 + 1 → (fun b => b ≠ M ∧ b ≠ w.heap.size + 1 + 1 + 1) b) :=
    ⟨fun c hc => ⟨by have := HRl.out; omega, by have := HRl.out; omega⟩, fun _ h => h.1, fun _ h => h.2, fun _ h1 h2 => ⟨h1, h2⟩⟩
  generalize (fun b => b ≠ M ∧ b ≠ w.heap.size + 1 + 1 + 1) = S2 at Hto2 Hxo2 Hyo2 hS2
  have HS2 := Lib.hid hS2
  clear hS2
  have HSW : Hid (wA.heap.size ≤ wA.heap.size) := Nat.le_refl _
  obtain ⟨⟨t0, t1, t2, t3⟩, _, _⟩ := HT.out.parts
  obtain ⟨⟨x0, x1, x2, x3⟩, _, _⟩ := HX.out.parts
  obtain ⟨⟨y0, y1, y2, y3⟩, _, _⟩ := HY.out.parts
  go_upto_region 19 with (first
    | (go_at_call 76; rewrite [← Htv.out]; refine (is_calls _ _ _ _).mono ?_; rintro e w1 ⟨rfl, hb⟩; (first | rewrite [E0.out] | rewrite [E1.out] | rewrite [E2.out] | rewrite [E3.out] | rewrite [E4.out] | rewrite [E5.out] | rewrite [E6.out] | rewrite [E7.out] | rewrite [E8.out]); replace gA := Gr.trans gA hb; replace HSW := Lib.hid (Nat.le_trans HSW.out hb.size); replace HT := Lib.hid (HT.out.gr hb); replace HX := Lib.hid (HX.out.gr hb); replace HY := Lib.hid (HY.out.gr hb); replace HR := Lib.hid (HR.out.gr hb); clear t0 t1 t2 t3 x0 x1 x2 x3 y0 y1 y2 y3 hb; obtain ⟨⟨t0, t1, t2, t3⟩, _, _⟩ := HT.out.parts; obtain ⟨⟨x0, x1, x2, x3⟩, _, _⟩ := HX.out.parts; obtain ⟨⟨y0, y1, y2, y3⟩, _, _⟩ := HY.out.parts)
    | fail)
  have gw := gA
  have HS2' : Hid (∀ c, w1.heap.size ≤ c → S2 c) := fun c hc => HS2.out.1 c (Nat.le_trans HSW.out hc)

  obtain ⟨bt, ot, hp, hui, u0, u1, u2, u3⟩ := args_one Hl.out (Tm.In_below gw H.out.ht)
  rw [hp, Hl.out] at t3
  have Hui := Lib.hid hui
  have Huv := Lib.hid (show u.val = .agg #[.int .i64 u.k, .int .i64 u.n, .string u.s, .slice u.p u.l.length u.c] from rfl)
  have Huf := Lib.hid (one_formed Hl.out H.out.hf).1
  clear hui hp
  have Hba := Lib.hid (bodyAns_none Huf.out Hb.out)
  go_wp2_with (first
    | (go_at_call 148
       rewrite [← Huv.out]
       refine (Body_calls u _ Hui.out).mono ?_
       rw [Hba.out]
       rintro e w2 ⟨⟨kb, nb, sb, pb, cb, lb⟩, rfl, hin, he, hg⟩
       rewrite [tm_val]
       have g2 : Gr w w2 := Gr.trans gw hg
       clear hin he hg)
    | (go_at_call 87; refine (fail_calls _ _).mono ?_; rintro e w3 ⟨rfl, hb2⟩)
    | fail)
  refine ⟨rfl, ?_⟩
  rw [← HQ.out]
  exact .inr ⟨rfl, ⟨_, rfl⟩, Kp.of_gr (Gr.trans g2 (below_step hb2 (by go_grown)))⟩

end Go.Proofs.Yteonakicoomjkaa

namespace Go.Proofs.Yteonakicoomjkaa
open Go.RowKit Go.Lib

set_option maxHeartbeats 8000000 in
set_option maxRecDepth 100000 in
theorem gw_curlS (t x y : Tm) (M : Nat) (m : Int) (w : World) (h : GIn t x y M m w) (u : Tm) (hl : t.l = [u]) (ub : T) (hb : T.body u.erase = some ub) (hv : T.goal reserved t.erase x.erase y.erase m = some (bothT ub (eqT x.erase y.erase), m)) (hk1 : (t.k == 1) = false) (hk2 : (t.k == 2) = false) (c_comma : t.erase.isOf sComma 2 = false) (c_arrow : t.erase.isOf sArrow 2 = false) (c_semi : t.erase.isOf sSemi 2 = false) (c_not : t.erase.isOf sNot 1 = false) (c_nil : t.erase.isOf sNil 0 = false) (c_curl0 : t.erase.isOf sCurl 0 = false) (c_curl1 : t.erase.isOf sCurl 1 = true) :
    Calls Try.prog 85 #[.pointer (some ⟨M, 0, none⟩), t.val, x.val, y.val] w (RetG (T.goal reserved t.erase x.erase y.erase m) M w) := by
  rw [hv]
  generalize hQ : RetG (some (bothT ub (eqT x.erase y.erase), m)) M w = Q
  have HQ := Lib.hid hQ
  have H := Lib.hid h
  have hMl : M < w.heap.size := h.hM.lt
  have hm1 := h.hm
  clear hQ h hv
  have Htv := Lib.hid (show t.val = .agg #[.int .i64 t.k, .int .i64 t.n, .string t.s, .slice t.p t.l.length t.c] from rfl)
  have Hxv := Lib.hid (show x.val = .agg #[.int .i64 x.k, .int .i64 x.n, .string x.s, .slice x.p x.l.length x.c] from rfl)
  have Hyv := Lib.hid (show y.val = .agg #[.int .i64 y.k, .int .i64 y.n, .string y.s, .slice y.p y.l.length y.c] from rfl)
  have Hl := Lib.hid hl
  have Hb := Lib.hid hb
  clear hl hb
  have E0 := Lib.hid (show t.erase.isOf (ByteArray.mk #[44]).toList 2 = false by rw [bl44c]; exact c_comma)
  have E1 := Lib.hid (show t.erase.isOf (ByteArray.mk #[45, 62]).toList 2 = false by rw [bl4562]; exact c_arrow)
  have E2 := Lib.hid (show t.erase.isOf (ByteArray.mk #[59]).toList 2 = false by rw [bl59]; exact c_semi)
  have E3 := Lib.hid (show t.erase.isOf (ByteArray.mk #[92, 43]).toList 1 = false by rw [blNot]; exact c_not)
  have E4 := Lib.hid (show t.erase.isOf (ByteArray.mk #[91, 93]).toList 0 = false by rw [blNil]; exact c_nil)
  have E5 := Lib.hid (show t.erase.isOf (ByteArray.mk #[123, 125]).toList 0 = false by rw [blCurl]; exact c_curl0)
  have E6 := Lib.hid (show t.erase.isOf (ByteArray.mk #[123, 125]).toList 1 = true by rw [blCurl]; exact c_curl1)
  clear c_comma c_arrow c_semi c_not c_nil c_curl0 c_curl1
  simp only [Tm.val]
  go_enter Try.func85, Try.ntmps85
  try simp only [List.append_eq, List.cons_append, List.nil_append]
  go_upto_region 1 with fail
  obtain ⟨HT, HX, HY, HR, gA⟩ := four_blocks w (.int .i64 t.k) (.int .i64 t.n) (.string t.s) (.slice t.p t.l.length t.c) (.int .i64 x.k) (.int .i64 x.n) (.string x.s) (.slice x.p x.l.length x.c) (.int .i64 y.k) (.int .i64 y.n) (.string y.s) (.slice y.p y.l.length y.c) (.int .i64 0) (.int .i64 0) (.string ⟨#[]⟩) (.slice none 0 0) _ rfl
  generalize ((((w.alloc (.cells #[.int .i64 t.k, .int .i64 t.n, .string t.s, .slice t.p t.l.length t.c] 24)).alloc (.cells #[.int .i64 x.k, .int .i64 x.n, .string x.s, .slice x.p x.l.length x.c] 24)).alloc (.cells #[.int .i64 y.k, .int .i64 y.n, .string y.s, .slice y.p y.l.length y.c] 24)).alloc (.cells #[.int .i64 0, .int .i64 0, .string ⟨#[]⟩, .slice none 0 0] 24)) = wA at *
  have HRl := Lib.hid (show w.heap.size + 1 + 1 + 1 < wA.heap.size from HR.out.parts.2.2)
  have Hto2 := Lib.hid (Tm.On.and (on_maker H.out.hM H.out.ht) (in_ne (R := w.heap.size + 1 + 1 + 1) H.out.ht (by omega)))
  have Hxo2 := Lib.hid (Tm.On.and (on_maker H.out.hM H.out.hx) (in_ne (R := w.heap.size + 1 + 1 + 1) H.out.hx (by omega)))
  have Hyo2 := Lib.hid (Tm.On.and (on_maker H.out.hM H.out.hy) (in_ne (R := w.heap.size + 1 + 1 + 1) H.out.hy (by omega)))
  have hS2 : (∀ c, wA.heap.size ≤ c → (fun b => b ≠ M ∧ b ≠ w.heap.size + 1 + 1 + 1) c) ∧ (∀ b, (fun b => b ≠ M ∧ b ≠ w.heap.size + 1 + 1 + 1) b → b ≠ M) ∧ (∀ b, (fun b => b ≠ M ∧ b ≠ w.heap.size + 1 + 1 + 1) b → b ≠ w.heap.size + 1 + 1 + 1) ∧ (∀ b, b ≠ M → b ≠ w.heap.size + 1 + 1 + 1 → (fun b => b ≠ M ∧ b ≠ w.heap.size + 1 + 1 + 1) b) :=
    ⟨fun c hc => ⟨by have := HRl.out; omega, by have := HRl.out; omega⟩, fun _ h => h.1, fun _ h => h.2, fun _ h1 h2 => ⟨h1, h2⟩⟩
  generalize (fun b => b ≠ M ∧ b ≠ w.heap.size + 1 + 1 + 1) = S2 at Hto2 Hxo2 Hyo2 hS2
  have HS2 := Lib.hid hS2
  clear hS2
  have HSW : Hid (wA.heap.size ≤ wA.heap.size) := Nat.le_refl _
  obtain ⟨⟨t0, t1, t2, t3⟩, _, _⟩ := HT.out.parts
  obtain ⟨⟨x0, x1, x2, x3⟩, _, _⟩ := HX.out.parts
  obtain ⟨⟨y0, y1, y2, y3⟩, _, _⟩ := HY.out.parts
  go_upto_region 19 with (first
    | (go_at_call 76; rewrite [← Htv.out]; refine (is_calls _ _ _ _).mono ?_; rintro e w1 ⟨rfl, hb⟩; (first | rewrite [E0.out] | rewrite [E1.out] | rewrite [E2.out] | rewrite [E3.out] | rewrite [E4.out] | rewrite [E5.out] | rewrite [E6.out] | rewrite [E7.out] | rewrite [E8.out]); replace gA := Gr.trans gA hb; replace HSW := Lib.hid (Nat.le_trans HSW.out hb.size); replace HT := Lib.hid (HT.out.gr hb); replace HX := Lib.hid (HX.out.gr hb); replace HY := Lib.hid (HY.out.gr hb); replace HR := Lib.hid (HR.out.gr hb); clear t0 t1 t2 t3 x0 x1 x2 x3 y0 y1 y2 y3 hb; obtain ⟨⟨t0, t1, t2, t3⟩, _, _⟩ := HT.out.parts; obtain ⟨⟨x0, x1, x2, x3⟩, _, _⟩ := HX.out.parts; obtain ⟨⟨y0, y1, y2, y3⟩, _, _⟩ := HY.out.parts)
    | fail)
  have gw := gA
  have HS2' : Hid (∀ c, w1.heap.size ≤ c → S2 c) := fun c hc => HS2.out.1 c (Nat.le_trans HSW.out hc)

  obtain ⟨bt, ot, hp, hui, u0, u1, u2, u3⟩ := args_one Hl.out (Tm.In_below gw H.out.ht)
  rw [hp, Hl.out] at t3
  have Hui := Lib.hid hui
  have Huv := Lib.hid (show u.val = .agg #[.int .i64 u.k, .int .i64 u.n, .string u.s, .slice u.p u.l.length u.c] from rfl)
  have Huf := Lib.hid (one_formed Hl.out H.out.hf).1
  clear hui hp
  have Hba := Lib.hid (bodyAns_some Huf.out Hb.out)
  have Hub := Lib.hid (body_formed _ u.erase ub (Nat.le_refl _) Huf.out Hb.out)
  go_upto_region 22 with (first
    | (go_at_call 148
       rewrite [← Huv.out]
       refine (Body_calls u _ Hui.out).mono ?_
       rw [Hba.out]
       rintro e w2 ⟨bb, rfl, hin, he, hg⟩
       have HBi := Lib.hid hin
       have HBe := Lib.hid he
       have Hbv := Lib.hid (show bb.val = .agg #[.int .i64 bb.k, .int .i64 bb.n, .string bb.s, .slice bb.p bb.l.length bb.c] from rfl)
       rewrite [Hbv.out]
       have g12 : Gr w1 w2 := hg
       clear hin he hg)
    | fail)
  have hB0 := Blk4.new w2 (.int .i64 bb.k) (.int .i64 bb.n) (.string bb.s) (.slice bb.p bb.l.length bb.c)
  have gB : Gr w2 (w2.alloc (.cells #[.int .i64 bb.k, .int .i64 bb.n, .string bb.s, .slice bb.p bb.l.length bb.c] 24)) := by go_grown
  generalize w2.alloc (.cells #[.int .i64 bb.k, .int .i64 bb.n, .string bb.s, .slice bb.p bb.l.length bb.c] 24) = w3 at *
  have g13 : Gr w1 w3 := Gr.trans g12 gB
  replace gw := Gr.trans gw g13
  replace HT := Lib.hid (HT.out.gr g13)
  replace HX := Lib.hid (HX.out.gr g13)
  replace HY := Lib.hid (HY.out.gr g13)
  replace HR := Lib.hid (HR.out.gr g13)
  have HBb := Lib.hid hB0
  have HBi3 := Lib.hid (Tm.In_below gB HBi.out)
  have HbO : Hid (bb.On S2) := (Tm.On.and (on_maker (H.out.hM.gr gw) HBi3.out) (on_zero HR.out HBi3.out (by rw [HBe.out]; exact fmd_of Hub.out))).mono fun b hb => HS2.out.2.2.2 b hb.1 hb.2
  have HS3 : Hid (∀ c, w3.heap.size ≤ c → S2 c) := fun c hc => HS2'.out c (Nat.le_trans g13.size hc)
  generalize w2.heap.size = pb at *
  clear hB0 gB g12 g13 t0 t1 t2 t3 x0 x1 x2 x3 y0 y1 y2 y3 u0 u1 u2 u3
  obtain ⟨⟨t0, t1, t2, t3⟩, _, _⟩ := HBb.out.parts
  obtain ⟨⟨x0, x1, x2, x3⟩, _, _⟩ := HX.out.parts
  obtain ⟨⟨y0, y1, y2, y3⟩, _, _⟩ := HY.out.parts
  refine wp_region_rely_tail 5 [fx (.agg #[.int .i64 bb.k, .int .i64 bb.n, .string bb.s, .slice bb.p bb.l.length bb.c]), fx (.agg #[.int .i64 x.k, .int .i64 x.n, .string x.s, .slice x.p x.l.length x.c]), fx (.agg #[.int .i64 y.k, .int .i64 y.n, .string y.s, .slice y.p y.l.length y.c]), tmIs S2 (eqT x.erase y.erase), tmIs S2 (bothT ub (eqT x.erase y.erase))]
    (by kernel_rfl) (by kernel_rfl) (by decide) (by repeat (first | exact Stable.nil | refine Stable.fix ?_ | refine Stable.cons tmIs_stable ?_)) ?_ ?_
  · refine ⟨?_, ?_, ?_, ?a3, ?a4, trivial⟩
    case a3 =>
      intro fr wr hg hold
      have h12 : fr.tmps[12]?.getD undef = .pointer (some ⟨pb, 0, none⟩) := hold 12 rfl
      have h6 : fr.tmps[6]?.getD undef = .pointer (some ⟨w.heap.size + 1, 0, none⟩) := hold 6 rfl
      have h7 : fr.tmps[7]?.getD undef = .pointer (some ⟨w.heap.size + 1 + 1, 0, none⟩) := hold 7 rfl
      clear hold
      have t0' := Gr.at hg t0
      have t1' := Gr.at hg t1
      have t2' := Gr.at hg t2
      have t3' := Gr.at hg t3
      have x0' := Gr.at hg x0
      have x1' := Gr.at hg x1
      have x2' := Gr.at hg x2
      have x3' := Gr.at hg x3
      have y0' := Gr.at hg y0
      have y1' := Gr.at hg y1
      have y2' := Gr.at hg y2
      have y3' := Gr.at hg y3
      have gr := Gr.trans gw hg
      clear t0 t1 t2 t3 x0 x1 x2 x3 y0 y1 y2 y3
      simp [predsImp, Region.binds, dstAt, fx]
      intro h19 h20 K hK
      go_simp
      rewrite [← Hxv.out, ← Hyv.out]
      refine (equal_calls x y S2 wr (Tm.In_below gr H.out.hx) (Tm.In_below gr H.out.hy) Hxo2.out Hyo2.out (fun c hc => HS3.out c (Nat.le_trans hg.size hc))).mono ?_
      rintro e w10 ⟨bm, hin, he, rfl, hg2, hon⟩
      exact hK _ _ ⟨bm, rfl, hin, he, hon⟩ hg2
    case a4 =>
      intro fr wr hg hold
      have h12 : fr.tmps[12]?.getD undef = .pointer (some ⟨pb, 0, none⟩) := hold 12 rfl
      have h6 : fr.tmps[6]?.getD undef = .pointer (some ⟨w.heap.size + 1, 0, none⟩) := hold 6 rfl
      have h7 : fr.tmps[7]?.getD undef = .pointer (some ⟨w.heap.size + 1 + 1, 0, none⟩) := hold 7 rfl
      clear hold
      have t0' := Gr.at hg t0
      have t1' := Gr.at hg t1
      have t2' := Gr.at hg t2
      have t3' := Gr.at hg t3
      have x0' := Gr.at hg x0
      have x1' := Gr.at hg x1
      have x2' := Gr.at hg x2
      have x3' := Gr.at hg x3
      have y0' := Gr.at hg y0
      have y1' := Gr.at hg y1
      have y2' := Gr.at hg y2
      have y3' := Gr.at hg y3
      have gr := Gr.trans gw hg
      clear t0 t1 t2 t3 x0 x1 x2 x3 y0 y1 y2 y3
      simp [predsImp, Region.binds, dstAt, fx]
      rintro h18 ⟨bm, e21, hin, he, hon⟩ K hK
      go_simp
      rewrite [← Hbv.out]
      refine (both_calls bb bm S2 wr (Tm.In_below hg HBi3.out) hin HbO.out hon (fun c hc => HS3.out c (Nat.le_trans hg.size hc))).mono ?_
      rintro e w10 ⟨b2, hin2, he2, rfl, hg2, hon2⟩
      exact hK _ _ ⟨b2, rfl, hin2, by rw [he2, he, HBe.out], hon2⟩ hg2
    all_goals
      intro fr wr hg hold
      have h12 : fr.tmps[12]?.getD undef = .pointer (some ⟨pb, 0, none⟩) := hold 12 rfl
      have h6 : fr.tmps[6]?.getD undef = .pointer (some ⟨w.heap.size + 1, 0, none⟩) := hold 6 rfl
      have h7 : fr.tmps[7]?.getD undef = .pointer (some ⟨w.heap.size + 1 + 1, 0, none⟩) := hold 7 rfl
      clear hold
      have t0' := Gr.at hg t0
      have t1' := Gr.at hg t1
      have t2' := Gr.at hg t2
      have t3' := Gr.at hg t3
      have x0' := Gr.at hg x0
      have x1' := Gr.at hg x1
      have x2' := Gr.at hg x2
      have x3' := Gr.at hg x3
      have y0' := Gr.at hg y0
      have y1' := Gr.at hg y1
      have y2' := Gr.at hg y2
      have y3' := Gr.at hg y3
      have gr := Gr.trans gw hg
      clear t0 t1 t2 t3 x0 x1 x2 x3 y0 y1 y2 y3
      simp [predsImp, fx]
      intros
      first
        | (rw [if_pos (by simp [*])]
           intro K hK)
        | (rename_i K hK)
      go_simp
    all_goals exact hK _ _ rfl (Gr.rfl' _)
  · intro w9 hg
    rintro _ rfl _ rfl _ rfl v3 _ v4 ⟨bm, rfl, hin, he, hon⟩
    have HB := Lib.hid (And.intro hin (And.intro he hon))
    have g9 := Gr.trans gw hg
    obtain ⟨⟨r0, r1, r2, r3⟩, ⟨f0, f1, f2, f3⟩, hlt⟩ := (HR.out.gr hg).parts
    obtain ⟨kb, nb, sb, pb, cb, lb⟩ := bm
    clear hin he hon hg t0 t1 t2 t3 x0 x1 x2 x3 y0 y1 y2 y3
    simp only [finAll, Act.put, List.setIfInBounds_toArray, List.set_cons_succ, List.set_cons_zero, List.drop_succ_cons, List.drop_zero, List.take_zero]
    simp only [tm_val]
    go_wp2_with fail
    refine bodyPost_ret (v := (Tm.mk kb nb sb pb cb lb).val) (by simp (maxDischargeDepth := 9) [results, Try.results85, go_sem, tm_val, r0, r1, r2, r3]) rfl ?_
    rw [← HQ.out]
    obtain ⟨hin, he, hon⟩ := HB.out
    exact ret_gm hin he hon HS2.out.2.2.1 (Kp.of_gr g9) (by omega) (H.out.hM.gr g9) (by omega) _ _ _ _

end Go.Proofs.Yteonakicoomjkaa
