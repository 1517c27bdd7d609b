/-
  grammar's goal of [] and {}
  grammar's goal of !
  grammar's goal of a list
  grammar's goal of a part
-/
import Derived.Test.YteonakicoomjkaaGM18
namespace Go.Proofs.Yteonakicoomjkaa
open Go.RowKit Go.Lib

set_option maxHeartbeats 8000000 in
set_option maxRecDepth 100000 in
theorem gw_unit1 (t x y : Tm) (M : Nat) (m : Int) (w : World) (h : GIn t x y M m w) (hv : T.goal reserved t.erase x.erase y.erase m = some (eqT x.erase y.erase, m)) (hk1 : (t.k == 1) = false) (hk2 : (t.k == 2) = false) (c_comma : t.erase.isOf sComma 2 = false) (c_arrow : t.erase.isOf sArrow 2 = false) (c_semi : t.erase.isOf sSemi 2 = false) (c_not : t.erase.isOf sNot 1 = false) (c_nil : t.erase.isOf sNil 0 = true) :
    Calls Try.prog 85 #[.pointer (some ⟨M, 0, none⟩), t.val, x.val, y.val] w (RetG (T.goal reserved t.erase x.erase y.erase m) M w) := by
  rw [hv]
  generalize hQ : RetG (some (eqT x.erase y.erase, m)) M w = Q
  have HQ := Lib.hid hQ
  have H := Lib.hid h
  have hMl : M < w.heap.size := h.hM.lt
  have hm1 := h.hm
  clear hQ h hv
  have Htv := Lib.hid (show t.val = .agg #[.int .i64 t.k, .int .i64 t.n, .string t.s, .slice t.p t.l.length t.c] from rfl)
  have Hxv := Lib.hid (show x.val = .agg #[.int .i64 x.k, .int .i64 x.n, .string x.s, .slice x.p x.l.length x.c] from rfl)
  have Hyv := Lib.hid (show y.val = .agg #[.int .i64 y.k, .int .i64 y.n, .string y.s, .slice y.p y.l.length y.c] from rfl)
  have E0 := Lib.hid (show t.erase.isOf (ByteArray.mk #[44]).toList 2 = false by rw [bl44c]; exact c_comma)
  have E1 := Lib.hid (show t.erase.isOf (ByteArray.mk #[45, 62]).toList 2 = false by rw [bl4562]; exact c_arrow)
  have E2 := Lib.hid (show t.erase.isOf (ByteArray.mk #[59]).toList 2 = false by rw [bl59]; exact c_semi)
  have E3 := Lib.hid (show t.erase.isOf (ByteArray.mk #[92, 43]).toList 1 = false by rw [blNot]; exact c_not)
  have E4 := Lib.hid (show t.erase.isOf (ByteArray.mk #[91, 93]).toList 0 = true by rw [blNil]; exact c_nil)
  clear c_comma c_arrow c_semi c_not c_nil
  simp only [Tm.val]
  go_enter Try.func85, Try.ntmps85
  try simp only [List.append_eq, List.cons_append, List.nil_append]
  go_upto_region 1 with fail
  obtain ⟨HT, HX, HY, HR, gA⟩ := four_blocks w (.int .i64 t.k) (.int .i64 t.n) (.string t.s) (.slice t.p t.l.length t.c) (.int .i64 x.k) (.int .i64 x.n) (.string x.s) (.slice x.p x.l.length x.c) (.int .i64 y.k) (.int .i64 y.n) (.string y.s) (.slice y.p y.l.length y.c) (.int .i64 0) (.int .i64 0) (.string ⟨#[]⟩) (.slice none 0 0) _ rfl
  generalize ((((w.alloc (.cells #[.int .i64 t.k, .int .i64 t.n, .string t.s, .slice t.p t.l.length t.c] 24)).alloc (.cells #[.int .i64 x.k, .int .i64 x.n, .string x.s, .slice x.p x.l.length x.c] 24)).alloc (.cells #[.int .i64 y.k, .int .i64 y.n, .string y.s, .slice y.p y.l.length y.c] 24)).alloc (.cells #[.int .i64 0, .int .i64 0, .string ⟨#[]⟩, .slice none 0 0] 24)) = wA at *
  have HRl := Lib.hid (show w.heap.size + 1 + 1 + 1 < wA.heap.size from HR.out.parts.2.2)
  have Hto2 := Lib.hid (Tm.On.and (on_maker H.out.hM H.out.ht) (in_ne (R := w.heap.size + 1 + 1 + 1) H.out.ht (by omega)))
  have Hxo2 := Lib.hid (Tm.On.and (on_maker H.out.hM H.out.hx) (in_ne (R := w.heap.size + 1 + 1 + 1) H.out.hx (by omega)))
  have Hyo2 := Lib.hid (Tm.On.and (on_maker H.out.hM H.out.hy) (in_ne (R := w.heap.size + 1 + 1 + 1) H.out.hy (by omega)))
  have hS2 : (∀ c, wA.heap.size ≤ c → (fun b => b ≠ M ∧ b ≠ w.heap.size + 1 + 1 + 1) c) ∧ (∀ b, (fun b => b ≠ M ∧ b ≠ w.heap.size + 1 + 1 + 1) b → b ≠ M) ∧ (∀ b, (fun b => b ≠ M ∧ b ≠ w.heap.size + 1 + 1 + 1) b → b ≠ w.heap.size + 1 + 1 + 1) ∧ (∀ b, b ≠ M → b ≠ w.heap.size + 1 + 1 + 1 → (fun b => b ≠ M ∧ b ≠ w.heap.size + 1 + 1 + 1) b) :=
    ⟨fun c hc => ⟨by have := HRl.out; omega, by have := HRl.out; omega⟩, fun _ h => h.1, fun _ h => h.2, fun _ h1 h2 => ⟨h1, h2⟩⟩
  generalize (fun b => b ≠ M ∧ b ≠ w.heap.size + 1 + 1 + 1) = S2 at Hto2 Hxo2 Hyo2 hS2
  have HS2 := Lib.hid hS2
  clear hS2
  have HSW : Hid (wA.heap.size ≤ wA.heap.size) := Nat.le_refl _
  obtain ⟨⟨t0, t1, t2, t3⟩, _, _⟩ := HT.out.parts
  obtain ⟨⟨x0, x1, x2, x3⟩, _, _⟩ := HX.out.parts
  obtain ⟨⟨y0, y1, y2, y3⟩, _, _⟩ := HY.out.parts
  go_upto_region 17 with (first
    | (go_at_call 76; rewrite [← Htv.out]; refine (is_calls _ _ _ _).mono ?_; rintro e w1 ⟨rfl, hb⟩; (first | rewrite [E0.out] | rewrite [E1.out] | rewrite [E2.out] | rewrite [E3.out] | rewrite [E4.out] | rewrite [E5.out] | rewrite [E6.out] | rewrite [E7.out] | rewrite [E8.out]); replace gA := Gr.trans gA hb; replace HSW := Lib.hid (Nat.le_trans HSW.out hb.size); replace HT := Lib.hid (HT.out.gr hb); replace HX := Lib.hid (HX.out.gr hb); replace HY := Lib.hid (HY.out.gr hb); replace HR := Lib.hid (HR.out.gr hb); clear t0 t1 t2 t3 x0 x1 x2 x3 y0 y1 y2 y3 hb; obtain ⟨⟨t0, t1, t2, t3⟩, _, _⟩ := HT.out.parts; obtain ⟨⟨x0, x1, x2, x3⟩, _, _⟩ := HX.out.parts; obtain ⟨⟨y0, y1, y2, y3⟩, _, _⟩ := HY.out.parts)
    | fail)
  have gw := gA
  obtain ⟨⟨r0, r1, r2, r3⟩, ⟨f0, f1, f2, f3⟩, hlt⟩ := HR.out.parts
  clear r0 r1 r2 r3 f0 f1 f2 f3 hlt
  have HS2' : Hid (∀ c, w1.heap.size ≤ c → S2 c) := fun c hc => HS2.out.1 c (Nat.le_trans HSW.out hc)
  go_wp2_with (first
    | (go_at_call 147
       rewrite [← Hxv.out, ← Hyv.out]
       refine (equal_calls x y S2 _ (Tm.In_below gw H.out.hx) (Tm.In_below gw H.out.hy) Hxo2.out Hyo2.out HS2'.out).mono ?_
       rintro e w' ⟨⟨kb, nb, sb, pb, cb, lb⟩, hin, he, rfl, hg, hon⟩
       rewrite [tm_val]
       obtain ⟨⟨r0, r1, r2, r3⟩, ⟨f0, f1, f2, f3⟩, hlt⟩ := (HR.out.gr hg).parts
       have HB := Lib.hid (And.intro hin (And.intro he hon))
       have g2 : Gr w w' := Gr.trans gw hg
       clear hin he hon hg t0 t1 t2 t3 x0 x1 x2 x3 y0 y1 y2 y3)
    | fail)
  refine bodyPost_ret (v := (Tm.mk kb nb sb pb cb lb).val) (by simp (maxDischargeDepth := 9) [results, Try.results85, go_sem, tm_val, r0, r1, r2, r3]) rfl ?_
  rw [← HQ.out]
  obtain ⟨hin, he, hon⟩ := HB.out
  exact ret_gm hin he hon HS2.out.2.2.1 (Kp.of_gr g2) (by omega) (H.out.hM.gr g2) (by omega) _ _ _ _

set_option maxHeartbeats 8000000 in
set_option maxRecDepth 100000 in
theorem gw_unit2 (t x y : Tm) (M : Nat) (m : Int) (w : World) (h : GIn t x y M m w) (hv : T.goal reserved t.erase x.erase y.erase m = some (eqT x.erase y.erase, m)) (hk1 : (t.k == 1) = false) (hk2 : (t.k == 2) = false) (c_comma : t.erase.isOf sComma 2 = false) (c_arrow : t.erase.isOf sArrow 2 = false) (c_semi : t.erase.isOf sSemi 2 = false) (c_not : t.erase.isOf sNot 1 = false) (c_nil : t.erase.isOf sNil 0 = false) (c_curl0 : t.erase.isOf sCurl 0 = true) :
    Calls Try.prog 85 #[.pointer (some ⟨M, 0, none⟩), t.val, x.val, y.val] w (RetG (T.goal reserved t.erase x.erase y.erase m) M w) := by
  rw [hv]
  generalize hQ : RetG (some (eqT x.erase y.erase, m)) M w = Q
  have HQ := Lib.hid hQ
  have H := Lib.hid h
  have hMl : M < w.heap.size := h.hM.lt
  have hm1 := h.hm
  clear hQ h hv
  have Htv := Lib.hid (show t.val = .agg #[.int .i64 t.k, .int .i64 t.n, .string t.s, .slice t.p t.l.length t.c] from rfl)
  have Hxv := Lib.hid (show x.val = .agg #[.int .i64 x.k, .int .i64 x.n, .string x.s, .slice x.p x.l.length x.c] from rfl)
  have Hyv := Lib.hid (show y.val = .agg #[.int .i64 y.k, .int .i64 y.n, .string y.s, .slice y.p y.l.length y.c] from rfl)
  have E0 := Lib.hid (show t.erase.isOf (ByteArray.mk #[44]).toList 2 = false by rw [bl44c]; exact c_comma)
  have E1 := Lib.hid (show t.erase.isOf (ByteArray.mk #[45, 62]).toList 2 = false by rw [bl4562]; exact c_arrow)
  have E2 := Lib.hid (show t.erase.isOf (ByteArray.mk #[59]).toList 2 = false by rw [bl59]; exact c_semi)
  have E3 := Lib.hid (show t.erase.isOf (ByteArray.mk #[92, 43]).toList 1 = false by rw [blNot]; exact c_not)
  have E4 := Lib.hid (show t.erase.isOf (ByteArray.mk #[91, 93]).toList 0 = false by rw [blNil]; exact c_nil)
  have E5 := Lib.hid (show t.erase.isOf (ByteArray.mk #[123, 125]).toList 0 = true by rw [blCurl]; exact c_curl0)
  clear c_comma c_arrow c_semi c_not c_nil c_curl0
  simp only [Tm.val]
  go_enter Try.func85, Try.ntmps85
  try simp only [List.append_eq, List.cons_append, List.nil_append]
  go_upto_region 1 with fail
  obtain ⟨HT, HX, HY, HR, gA⟩ := four_blocks w (.int .i64 t.k) (.int .i64 t.n) (.string t.s) (.slice t.p t.l.length t.c) (.int .i64 x.k) (.int .i64 x.n) (.string x.s) (.slice x.p x.l.length x.c) (.int .i64 y.k) (.int .i64 y.n) (.string y.s) (.slice y.p y.l.length y.c) (.int .i64 0) (.int .i64 0) (.string ⟨#[]⟩) (.slice none 0 0) _ rfl
  generalize ((((w.alloc (.cells #[.int .i64 t.k, .int .i64 t.n, .string t.s, .slice t.p t.l.length t.c] 24)).alloc (.cells #[.int .i64 x.k, .int .i64 x.n, .string x.s, .slice x.p x.l.length x.c] 24)).alloc (.cells #[.int .i64 y.k, .int .i64 y.n, .string y.s, .slice y.p y.l.length y.c] 24)).alloc (.cells #[.int .i64 0, .int .i64 0, .string ⟨#[]⟩, .slice none 0 0] 24)) = wA at *
  have HRl := Lib.hid (show w.heap.size + 1 + 1 + 1 < wA.heap.size from HR.out.parts.2.2)
  have Hto2 := Lib.hid (Tm.On.and (on_maker H.out.hM H.out.ht) (in_ne (R := w.heap.size + 1 + 1 + 1) H.out.ht (by omega)))
  have Hxo2 := Lib.hid (Tm.On.and (on_maker H.out.hM H.out.hx) (in_ne (R := w.heap.size + 1 + 1 + 1) H.out.hx (by omega)))
  have Hyo2 := Lib.hid (Tm.On.and (on_maker H.out.hM H.out.hy) (in_ne (R := w.heap.size + 1 + 1 + 1) H.out.hy (by omega)))
  have hS2 : (∀ c, wA.heap.size ≤ c → (fun b => b ≠ M ∧ b ≠ w.heap.size + 1 + 1 + 1) c) ∧ (∀ b, (fun b => b ≠ M ∧ b ≠ w.heap.size + 1 + 1 + 1) b → b ≠ M) ∧ (∀ b, (fun b => b ≠ M ∧ b ≠ w.heap.size + 1 + 1 + 1) b → b ≠ w.heap.size + 1 + 1 + 1) ∧ (∀ b, b ≠ M → b ≠ w.heap.size + 1 + 1 + 1 → (fun b => b ≠ M ∧ b ≠ w.heap.size + 1 + 1 + 1) b) :=
    ⟨fun c hc => ⟨by have := HRl.out; omega, by have := HRl.out; omega⟩, fun _ h => h.1, fun _ h => h.2, fun _ h1 h2 => ⟨h1, h2⟩⟩
  generalize (fun b => b ≠ M ∧ b ≠ w.heap.size + 1 + 1 + 1) = S2 at Hto2 Hxo2 Hyo2 hS2
  have HS2 := Lib.hid hS2
  clear hS2
  have HSW : Hid (wA.heap.size ≤ wA.heap.size) := Nat.le_refl _
  obtain ⟨⟨t0, t1, t2, t3⟩, _, _⟩ := HT.out.parts
  obtain ⟨⟨x0, x1, x2, x3⟩, _, _⟩ := HX.out.parts
  obtain ⟨⟨y0, y1, y2, y3⟩, _, _⟩ := HY.out.parts
  go_upto_region 17 with (first
    | (go_at_call 76; rewrite [← Htv.out]; refine (is_calls _ _ _ _).mono ?_; rintro e w1 ⟨rfl, hb⟩; (first | rewrite [E0.out] | rewrite [E1.out] | rewrite [E2.out] | rewrite [E3.out] | rewrite [E4.out] | rewrite [E5.out] | rewrite [E6.out] | rewrite [E7.out] | rewrite [E8.out]); replace gA := Gr.trans gA hb; replace HSW := Lib.hid (Nat.le_trans HSW.out hb.size); replace HT := Lib.hid (HT.out.gr hb); replace HX := Lib.hid (HX.out.gr hb); replace HY := Lib.hid (HY.out.gr hb); replace HR := Lib.hid (HR.out.gr hb); clear t0 t1 t2 t3 x0 x1 x2 x3 y0 y1 y2 y3 hb; obtain ⟨⟨t0, t1, t2, t3⟩, _, _⟩ := HT.out.parts; obtain ⟨⟨x0, x1, x2, x3⟩, _, _⟩ := HX.out.parts; obtain ⟨⟨y0, y1, y2, y3⟩, _, _⟩ := HY.out.parts)
    | fail)
  have gw := gA
  obtain ⟨⟨r0, r1, r2, r3⟩, ⟨f0, f1, f2, f3⟩, hlt⟩ := HR.out.parts
  clear r0 r1 r2 r3 f0 f1 f2 f3 hlt
  have HS2' : Hid (∀ c, w1.heap.size ≤ c → S2 c) := fun c hc => HS2.out.1 c (Nat.le_trans HSW.out hc)
  go_wp2_with (first
    | (go_at_call 147
       rewrite [← Hxv.out, ← Hyv.out]
       refine (equal_calls x y S2 _ (Tm.In_below gw H.out.hx) (Tm.In_below gw H.out.hy) Hxo2.out Hyo2.out HS2'.out).mono ?_
       rintro e w' ⟨⟨kb, nb, sb, pb, cb, lb⟩, hin, he, rfl, hg, hon⟩
       rewrite [tm_val]
       obtain ⟨⟨r0, r1, r2, r3⟩, ⟨f0, f1, f2, f3⟩, hlt⟩ := (HR.out.gr hg).parts
       have HB := Lib.hid (And.intro hin (And.intro he hon))
       have g2 : Gr w w' := Gr.trans gw hg
       clear hin he hon hg t0 t1 t2 t3 x0 x1 x2 x3 y0 y1 y2 y3)
    | fail)
  refine bodyPost_ret (v := (Tm.mk kb nb sb pb cb lb).val) (by simp (maxDischargeDepth := 9) [results, Try.results85, go_sem, tm_val, r0, r1, r2, r3]) rfl ?_
  rw [← HQ.out]
  obtain ⟨hin, he, hon⟩ := HB.out
  exact ret_gm hin he hon HS2.out.2.2.1 (Kp.of_gr g2) (by omega) (H.out.hM.gr g2) (by omega) _ _ _ _

end Go.Proofs.Yteonakicoomjkaa

namespace Go.Proofs.Yteonakicoomjkaa
open Go.RowKit Go.Lib

set_option maxHeartbeats 8000000 in
set_option maxRecDepth 100000 in
theorem gw_cut (t x y : Tm) (M : Nat) (m : Int) (w : World) (h : GIn t x y M m w) (hv : T.goal reserved t.erase x.erase y.erase m = some (bothT t.erase (eqT x.erase y.erase), m)) (hk1 : (t.k == 1) = false) (hk2 : (t.k == 2) = false) (c_comma : t.erase.isOf sComma 2 = false) (c_arrow : t.erase.isOf sArrow 2 = false) (c_semi : t.erase.isOf sSemi 2 = false) (c_not : t.erase.isOf sNot 1 = false) (c_nil : t.erase.isOf sNil 0 = false) (c_curl0 : t.erase.isOf sCurl 0 = false) (c_curl1 : t.erase.isOf sCurl 1 = false) (c_cut : t.erase.isOf sCut 0 = true) :
    Calls Try.prog 85 #[.pointer (some ⟨M, 0, none⟩), t.val, x.val, y.val] w (RetG (T.goal reserved t.erase x.erase y.erase m) M w) := by
  rw [hv]
  generalize hQ : RetG (some (bothT t.erase (eqT x.erase y.erase), m)) M w = Q
  have HQ := Lib.hid hQ
  have H := Lib.hid h
  have hMl : M < w.heap.size := h.hM.lt
  have hm1 := h.hm
  clear hQ h hv
  have Htv := Lib.hid (show t.val = .agg #[.int .i64 t.k, .int .i64 t.n, .string t.s, .slice t.p t.l.length t.c] from rfl)
  have Hxv := Lib.hid (show x.val = .agg #[.int .i64 x.k, .int .i64 x.n, .string x.s, .slice x.p x.l.length x.c] from rfl)
  have Hyv := Lib.hid (show y.val = .agg #[.int .i64 y.k, .int .i64 y.n, .string y.s, .slice y.p y.l.length y.c] from rfl)
  have E0 := Lib.hid (show t.erase.isOf (ByteArray.mk #[44]).toList 2 = false by rw [bl44c]; exact c_comma)
  have E1 := Lib.hid (show t.erase.isOf (ByteArray.mk #[45, 62]).toList 2 = false by rw [bl4562]; exact c_arrow)
  have E2 := Lib.hid (show t.erase.isOf (ByteArray.mk #[59]).toList 2 = false by rw [bl59]; exact c_semi)
  have E3 := Lib.hid (show t.erase.isOf (ByteArray.mk #[92, 43]).toList 1 = false by rw [blNot]; exact c_not)
  have E4 := Lib.hid (show t.erase.isOf (ByteArray.mk #[91, 93]).toList 0 = false by rw [blNil]; exact c_nil)
  have E5 := Lib.hid (show t.erase.isOf (ByteArray.mk #[123, 125]).toList 0 = false by rw [blCurl]; exact c_curl0)
  have E6 := Lib.hid (show t.erase.isOf (ByteArray.mk #[123, 125]).toList 1 = false by rw [blCurl]; exact c_curl1)
  have E7 := Lib.hid (show t.erase.isOf (ByteArray.mk #[33]).toList 0 = true by rw [blCut]; exact c_cut)
  clear c_comma c_arrow c_semi c_not c_nil c_curl0 c_curl1 c_cut
  simp only [Tm.val]
  go_enter Try.func85, Try.ntmps85
  try simp only [List.append_eq, List.cons_append, List.nil_append]
  go_upto_region 1 with fail
  obtain ⟨HT, HX, HY, HR, gA⟩ := four_blocks w (.int .i64 t.k) (.int .i64 t.n) (.string t.s) (.slice t.p t.l.length t.c) (.int .i64 x.k) (.int .i64 x.n) (.string x.s) (.slice x.p x.l.length x.c) (.int .i64 y.k) (.int .i64 y.n) (.string y.s) (.slice y.p y.l.length y.c) (.int .i64 0) (.int .i64 0) (.string ⟨#[]⟩) (.slice none 0 0) _ rfl
  generalize ((((w.alloc (.cells #[.int .i64 t.k, .int .i64 t.n, .string t.s, .slice t.p t.l.length t.c] 24)).alloc (.cells #[.int .i64 x.k, .int .i64 x.n, .string x.s, .slice x.p x.l.length x.c] 24)).alloc (.cells #[.int .i64 y.k, .int .i64 y.n, .string y.s, .slice y.p y.l.length y.c] 24)).alloc (.cells #[.int .i64 0, .int .i64 0, .string ⟨#[]⟩, .slice none 0 0] 24)) = wA at *
  have HRl := Lib.hid (show w.heap.size + 1 + 1 + 1 < wA.heap.size from HR.out.parts.2.2)
  have Hto2 := Lib.hid (Tm.On.and (on_maker H.out.hM H.out.ht) (in_ne (R := w.heap.size + 1 + 1 + 1) H.out.ht (by omega)))
  have Hxo2 := Lib.hid (Tm.On.and (on_maker H.out.hM H.out.hx) (in_ne (R := w.heap.size + 1 + 1 + 1) H.out.hx (by omega)))
  have Hyo2 := Lib.hid (Tm.On.and (on_maker H.out.hM H.out.hy) (in_ne (R := w.heap.size + 1 + 1 + 1) H.out.hy (by omega)))
  have hS2 : (∀ c, wA.heap.size ≤ c → (fun b => b ≠ M ∧ b ≠ w.heap.size + 1 + 1 + 1) c) ∧ (∀ b, (fun b => b ≠ M ∧ b ≠ w.heap.size + 1 + 1 + 1) b → b ≠ M) ∧ (∀ b, (fun b => b ≠ M ∧ b ≠ w.heap.size + 1 + 1 + 1) b → b ≠ w.heap.size + 1 + 1 + 1) ∧ (∀ b, b ≠ M → b ≠ w.heap.size + 1 + 1 + 1 → (fun b => b ≠ M ∧ b ≠ w.heap.size + 1 + 1 + 1) b) :=
    ⟨fun c hc => ⟨by have := HRl.out; omega, by have := HRl.out; omega⟩, fun _ h => h.1, fun _ h => h.2, fun _ h1 h2 => ⟨h1, h2⟩⟩
  generalize (fun b => b ≠ M ∧ b ≠ w.heap.size + 1 + 1 + 1) = S2 at Hto2 Hxo2 Hyo2 hS2
  have HS2 := Lib.hid hS2
  clear hS2
  have HSW : Hid (wA.heap.size ≤ wA.heap.size) := Nat.le_refl _
  obtain ⟨⟨t0, t1, t2, t3⟩, _, _⟩ := HT.out.parts
  obtain ⟨⟨x0, x1, x2, x3⟩, _, _⟩ := HX.out.parts
  obtain ⟨⟨y0, y1, y2, y3⟩, _, _⟩ := HY.out.parts
  go_upto_region 24 with (first
    | (go_at_call 76; rewrite [← Htv.out]; refine (is_calls _ _ _ _).mono ?_; rintro e w1 ⟨rfl, hb⟩; (first | rewrite [E0.out] | rewrite [E1.out] | rewrite [E2.out] | rewrite [E3.out] | rewrite [E4.out] | rewrite [E5.out] | rewrite [E6.out] | rewrite [E7.out] | rewrite [E8.out]); replace gA := Gr.trans gA hb; replace HSW := Lib.hid (Nat.le_trans HSW.out hb.size); replace HT := Lib.hid (HT.out.gr hb); replace HX := Lib.hid (HX.out.gr hb); replace HY := Lib.hid (HY.out.gr hb); replace HR := Lib.hid (HR.out.gr hb); clear t0 t1 t2 t3 x0 x1 x2 x3 y0 y1 y2 y3 hb; obtain ⟨⟨t0, t1, t2, t3⟩, _, _⟩ := HT.out.parts; obtain ⟨⟨x0, x1, x2, x3⟩, _, _⟩ := HX.out.parts; obtain ⟨⟨y0, y1, y2, y3⟩, _, _⟩ := HY.out.parts)
    | fail)
  have gw := gA
  have HS2' : Hid (∀ c, w1.heap.size ≤ c → S2 c) := fun c hc => HS2.out.1 c (Nat.le_trans HSW.out hc)
  refine wp_region_rely_tail 5 [fx (.agg #[.int .i64 t.k, .int .i64 t.n, .string t.s, .slice t.p t.l.length t.c]), fx (.agg #[.int .i64 x.k, .int .i64 x.n, .string x.s, .slice x.p x.l.length x.c]), fx (.agg #[.int .i64 y.k, .int .i64 y.n, .string y.s, .slice y.p y.l.length y.c]), tmIs S2 (eqT x.erase y.erase), tmIs S2 (bothT t.erase (eqT x.erase y.erase))]
    (by kernel_rfl) (by kernel_rfl) (by decide) (by repeat (first | exact Stable.nil | refine Stable.fix ?_ | refine Stable.cons tmIs_stable ?_)) ?_ ?_
  · refine ⟨?_, ?_, ?_, ?a3, ?a4, trivial⟩
    case a3 =>
      intro fr wr hg hold
      have h5 : fr.tmps[5]?.getD undef = .pointer (some ⟨w.heap.size, 0, none⟩) := hold 5 rfl
      have h6 : fr.tmps[6]?.getD undef = .pointer (some ⟨w.heap.size + 1, 0, none⟩) := hold 6 rfl
      have h7 : fr.tmps[7]?.getD undef = .pointer (some ⟨w.heap.size + 1 + 1, 0, none⟩) := hold 7 rfl
      clear hold
      have t0' := Gr.at hg t0
      have t1' := Gr.at hg t1
      have t2' := Gr.at hg t2
      have t3' := Gr.at hg t3
      have x0' := Gr.at hg x0
      have x1' := Gr.at hg x1
      have x2' := Gr.at hg x2
      have x3' := Gr.at hg x3
      have y0' := Gr.at hg y0
      have y1' := Gr.at hg y1
      have y2' := Gr.at hg y2
      have y3' := Gr.at hg y3
      have gr := Gr.trans gw hg
      clear t0 t1 t2 t3 x0 x1 x2 x3 y0 y1 y2 y3
      simp [predsImp, Region.binds, dstAt, fx]
      intro h19 h20 K hK
      go_simp
      rewrite [← Hxv.out, ← Hyv.out]
      refine (equal_calls x y S2 wr (Tm.In_below gr H.out.hx) (Tm.In_below gr H.out.hy) Hxo2.out Hyo2.out (fun c hc => HS2'.out c (Nat.le_trans hg.size hc))).mono ?_
      rintro e w10 ⟨bm, hin, he, rfl, hg2, hon⟩
      exact hK _ _ ⟨bm, rfl, hin, he, hon⟩ hg2
    case a4 =>
      intro fr wr hg hold
      have h5 : fr.tmps[5]?.getD undef = .pointer (some ⟨w.heap.size, 0, none⟩) := hold 5 rfl
      have h6 : fr.tmps[6]?.getD undef = .pointer (some ⟨w.heap.size + 1, 0, none⟩) := hold 6 rfl
      have h7 : fr.tmps[7]?.getD undef = .pointer (some ⟨w.heap.size + 1 + 1, 0, none⟩) := hold 7 rfl
      clear hold
      have t0' := Gr.at hg t0
      have t1' := Gr.at hg t1
      have t2' := Gr.at hg t2
      have t3' := Gr.at hg t3
      have x0' := Gr.at hg x0
      have x1' := Gr.at hg x1
      have x2' := Gr.at hg x2
      have x3' := Gr.at hg x3
      have y0' := Gr.at hg y0
      have y1' := Gr.at hg y1
      have y2' := Gr.at hg y2
      have y3' := Gr.at hg y3
      have gr := Gr.trans gw hg
      clear t0 t1 t2 t3 x0 x1 x2 x3 y0 y1 y2 y3
      simp [predsImp, Region.binds, dstAt, fx]
      rintro h18 ⟨bm, e21, hin, he, hon⟩ K hK
      go_simp
      rewrite [← Htv.out]
      refine (both_calls t bm S2 wr (Tm.In_below gr H.out.ht) hin Hto2.out hon (fun c hc => HS2'.out c (Nat.le_trans hg.size hc))).mono ?_
      rintro e w10 ⟨b2, hin2, he2, rfl, hg2, hon2⟩
      exact hK _ _ ⟨b2, rfl, hin2, by rw [he2, he], hon2⟩ hg2
    all_goals
      intro fr wr hg hold
      have h5 : fr.tmps[5]?.getD undef = .pointer (some ⟨w.heap.size, 0, none⟩) := hold 5 rfl
      have h6 : fr.tmps[6]?.getD undef = .pointer (some ⟨w.heap.size + 1, 0, none⟩) := hold 6 rfl
      have h7 : fr.tmps[7]?.getD undef = .pointer (some ⟨w.heap.size + 1 + 1, 0, none⟩) := hold 7 rfl
      clear hold
      have t0' := Gr.at hg t0
      have t1' := Gr.at hg t1
      have t2' := Gr.at hg t2
      have t3' := Gr.at hg t3
      have x0' := Gr.at hg x0
      have x1' := Gr.at hg x1
      have x2' := Gr.at hg x2
      have x3' := Gr.at hg x3
      have y0' := Gr.at hg y0
      have y1' := Gr.at hg y1
      have y2' := Gr.at hg y2
      have y3' := Gr.at hg y3
      have gr := Gr.trans gw hg
      clear t0 t1 t2 t3 x0 x1 x2 x3 y0 y1 y2 y3
      simp [predsImp, fx]
      intros
      first
        | (rw [if_pos (by simp [*])]
           intro K hK)
        | (rename_i K hK)
      go_simp
    all_goals exact hK _ _ rfl (Gr.rfl' _)
  · intro w9 hg
    rintro _ rfl _ rfl _ rfl v3 _ v4 ⟨bm, rfl, hin, he, hon⟩
    have HB := Lib.hid (And.intro hin (And.intro he hon))
    have g9 := Gr.trans gw hg
    obtain ⟨⟨r0, r1, r2, r3⟩, ⟨f0, f1, f2, f3⟩, hlt⟩ := (HR.out.gr hg).parts
    obtain ⟨kb, nb, sb, pb, cb, lb⟩ := bm
    clear hin he hon hg t0 t1 t2 t3 x0 x1 x2 x3 y0 y1 y2 y3
    simp only [finAll, Act.put, List.setIfInBounds_toArray, List.set_cons_succ, List.set_cons_zero, List.drop_succ_cons, List.drop_zero, List.take_zero]
    simp only [tm_val]
    go_wp2_with fail
    refine bodyPost_ret (v := (Tm.mk kb nb sb pb cb lb).val) (by simp (maxDischargeDepth := 9) [results, Try.results85, go_sem, tm_val, r0, r1, r2, r3]) rfl ?_
    rw [← HQ.out]
    obtain ⟨hin, he, hon⟩ := HB.out
    exact ret_gm hin he hon HS2.out.2.2.1 (Kp.of_gr g9) (by omega) (H.out.hM.gr g9) (by omega) _ _ _ _

end Go.Proofs.Yteonakicoomjkaa

namespace Go.Proofs.Yteonakicoomjkaa
open Go.RowKit Go.Lib

set_option maxHeartbeats 8000000 in
set_option maxRecDepth 100000 in
theorem gw_dot (t x y : Tm) (M : Nat) (m : Int) (w : World) (h : GIn t x y M m w) (hv : T.goal reserved t.erase x.erase y.erase m = (T.words t.erase y.erase).map fun u => (eqT x.erase u, m)) (hk1 : (t.k == 1) = false) (hk2 : (t.k == 2) = false) (c_comma : t.erase.isOf sComma 2 = false) (c_arrow : t.erase.isOf sArrow 2 = false) (c_semi : t.erase.isOf sSemi 2 = false) (c_not : t.erase.isOf sNot 1 = false) (c_nil : t.erase.isOf sNil 0 = false) (c_curl0 : t.erase.isOf sCurl 0 = false) (c_curl1 : t.erase.isOf sCurl 1 = false) (c_cut : t.erase.isOf sCut 0 = false) (c_dot : t.erase.isOf sDot 2 = true) :
    Calls Try.prog 85 #[.pointer (some ⟨M, 0, none⟩), t.val, x.val, y.val] w (RetG (T.goal reserved t.erase x.erase y.erase m) M w) := by
  rw [hv]
  generalize hQ : RetG ((T.words t.erase y.erase).map fun u => (eqT x.erase u, m)) M w = Q
  have HQ := Lib.hid hQ
  have H := Lib.hid h
  have hMl : M < w.heap.size := h.hM.lt
  have hm1 := h.hm
  clear hQ h hv
  have Htv := Lib.hid (show t.val = .agg #[.int .i64 t.k, .int .i64 t.n, .string t.s, .slice t.p t.l.length t.c] from rfl)
  have Hxv := Lib.hid (show x.val = .agg #[.int .i64 x.k, .int .i64 x.n, .string x.s, .slice x.p x.l.length x.c] from rfl)
  have Hyv := Lib.hid (show y.val = .agg #[.int .i64 y.k, .int .i64 y.n, .string y.s, .slice y.p y.l.length y.c] from rfl)
  have E0 := Lib.hid (show t.erase.isOf (ByteArray.mk #[44]).toList 2 = false by rw [bl44c]; exact c_comma)
  have E1 := Lib.hid (show t.erase.isOf (ByteArray.mk #[45, 62]).toList 2 = false by rw [bl4562]; exact c_arrow)
  have E2 := Lib.hid (show t.erase.isOf (ByteArray.mk #[59]).toList 2 = false by rw [bl59]; exact c_semi)
  have E3 := Lib.hid (show t.erase.isOf (ByteArray.mk #[92, 43]).toList 1 = false by rw [blNot]; exact c_not)
  have E4 := Lib.hid (show t.erase.isOf (ByteArray.mk #[91, 93]).toList 0 = false by rw [blNil]; exact c_nil)
  have E5 := Lib.hid (show t.erase.isOf (ByteArray.mk #[123, 125]).toList 0 = false by rw [blCurl]; exact c_curl0)
  have E6 := Lib.hid (show t.erase.isOf (ByteArray.mk #[123, 125]).toList 1 = false by rw [blCurl]; exact c_curl1)
  have E7 := Lib.hid (show t.erase.isOf (ByteArray.mk #[33]).toList 0 = false by rw [blCut]; exact c_cut)
  have E8 := Lib.hid (show t.erase.isOf (ByteArray.mk #[46]).toList 2 = true by rw [blDot]; exact c_dot)
  clear c_comma c_arrow c_semi c_not c_nil c_curl0 c_curl1 c_cut c_dot
  simp only [Tm.val]
  go_enter Try.func85, Try.ntmps85
  try simp only [List.append_eq, List.cons_append, List.nil_append]
  go_upto_region 1 with fail
  obtain ⟨HT, HX, HY, HR, gA⟩ := four_blocks w (.int .i64 t.k) (.int .i64 t.n) (.string t.s) (.slice t.p t.l.length t.c) (.int .i64 x.k) (.int .i64 x.n) (.string x.s) (.slice x.p x.l.length x.c) (.int .i64 y.k) (.int .i64 y.n) (.string y.s) (.slice y.p y.l.length y.c) (.int .i64 0) (.int .i64 0) (.string ⟨#[]⟩) (.slice none 0 0) _ rfl
  generalize ((((w.alloc (.cells #[.int .i64 t.k, .int .i64 t.n, .string t.s, .slice t.p t.l.length t.c] 24)).alloc (.cells #[.int .i64 x.k, .int .i64 x.n, .string x.s, .slice x.p x.l.length x.c] 24)).alloc (.cells #[.int .i64 y.k, .int .i64 y.n, .string y.s, .slice y.p y.l.length y.c] 24)).alloc (.cells #[.int .i64 0, .int .i64 0, .string ⟨#[]⟩, .slice none 0 0] 24)) = wA at *
  have HRl := Lib.hid (show w.heap.size + 1 + 1 + 1 < wA.heap.size from HR.out.parts.2.2)
  have Hto2 := Lib.hid (Tm.On.and (on_maker H.out.hM H.out.ht) (in_ne (R := w.heap.size + 1 + 1 + 1) H.out.ht (by omega)))
  have Hxo2 := Lib.hid (Tm.On.and (on_maker H.out.hM H.out.hx) (in_ne (R := w.heap.size + 1 + 1 + 1) H.out.hx (by omega)))
  have Hyo2 := Lib.hid (Tm.On.and (on_maker H.out.hM H.out.hy) (in_ne (R := w.heap.size + 1 + 1 + 1) H.out.hy (by omega)))
  have hS2 : (∀ c, wA.heap.size ≤ c → (fun b => b ≠ M ∧ b ≠ w.heap.size + 1 + 1 + 1) c) ∧ (∀ b, (fun b => b ≠ M ∧ b ≠ w.heap.size + 1 + 1 + 1) b → b ≠ M) ∧ (∀ b, (fun b => b ≠ M ∧ b ≠ w.heap.size + 1 + 1 + 1) b → b ≠ w.heap.size + 1 + 1 + 1) ∧ (∀ b, b ≠ M → b ≠ w.heap.size + 1 + 1 + 1 → (fun b => b ≠ M ∧ b ≠ w.heap.size + 1 + 1 + 1) b) :=
    ⟨fun c hc => ⟨by have := HRl.out; omega, by have := HRl.out; omega⟩, fun _ h => h.1, fun _ h => h.2, fun _ h1 h2 => ⟨h1, h2⟩⟩
  generalize (fun b => b ≠ M ∧ b ≠ w.heap.size + 1 + 1 + 1) = S2 at Hto2 Hxo2 Hyo2 hS2
  have HS2 := Lib.hid hS2
  clear hS2
  have HSW : Hid (wA.heap.size ≤ wA.heap.size) := Nat.le_refl _
  obtain ⟨⟨t0, t1, t2, t3⟩, _, _⟩ := HT.out.parts
  obtain ⟨⟨x0, x1, x2, x3⟩, _, _⟩ := HX.out.parts
  obtain ⟨⟨y0, y1, y2, y3⟩, _, _⟩ := HY.out.parts
  go_upto_region 26 with (first
    | (go_at_call 76; rewrite [← Htv.out]; refine (is_calls _ _ _ _).mono ?_; rintro e w1 ⟨rfl, hb⟩; (first | rewrite [E0.out] | rewrite [E1.out] | rewrite [E2.out] | rewrite [E3.out] | rewrite [E4.out] | rewrite [E5.out] | rewrite [E6.out] | rewrite [E7.out] | rewrite [E8.out]); replace gA := Gr.trans gA hb; replace HSW := Lib.hid (Nat.le_trans HSW.out hb.size); replace HT := Lib.hid (HT.out.gr hb); replace HX := Lib.hid (HX.out.gr hb); replace HY := Lib.hid (HY.out.gr hb); replace HR := Lib.hid (HR.out.gr hb); clear t0 t1 t2 t3 x0 x1 x2 x3 y0 y1 y2 y3 hb; obtain ⟨⟨t0, t1, t2, t3⟩, _, _⟩ := HT.out.parts; obtain ⟨⟨x0, x1, x2, x3⟩, _, _⟩ := HX.out.parts; obtain ⟨⟨y0, y1, y2, y3⟩, _, _⟩ := HY.out.parts)
    | fail)
  have gw := gA
  have HS2' : Hid (∀ c, w1.heap.size ≤ c → S2 c) := fun c hc => HS2.out.1 c (Nat.le_trans HSW.out hc)
  refine wp_region_relyJ 5 [fx (.agg #[.int .i64 x.k, .int .i64 x.n, .string x.s, .slice x.p x.l.length x.c]), fx (.agg #[.int .i64 t.k, .int .i64 t.n, .string t.s, .slice t.p t.l.length t.c]), fx (.agg #[.int .i64 y.k, .int .i64 y.n, .string y.s, .slice y.p y.l.length y.c]), okTm S2 (T.words t.erase y.erase), okTm S2 ((T.words t.erase y.erase).map fun u => eqT x.erase u)]
    Gr (fun _ _ => True) (by kernel_rfl) (by kernel_rfl) (by decide) (by kernel_rfl) (fun _ _ h => h) (fun _ _ _ h k => Gr.trans h k) (fun _ _ => trivial) (by repeat (first | exact StableR.nil | refine StableR.fix ?_ | refine StableR.cons okTm_gr ?_)) ?_ ?_
  · refine ⟨stepJ_plain (fun _ _ h => h) (fun _ _ _ _ _ => trivial) ?_, stepJ_plain (fun _ _ h => h) (fun _ _ _ _ _ => trivial) ?_, stepJ_plain (fun _ _ h => h) (fun _ _ _ _ _ => trivial) ?_, ?a3, stepJ_plain (fun _ _ h => h) (fun _ _ _ _ _ => trivial) ?b4, trivial⟩
    case a3 =>
      intro listed fr wr hj hl hpre hg hdef hold
      have Hdef := Lib.hid hdef
      clear hdef
      have h5 : fr.tmps[5]?.getD undef = .pointer (some ⟨w.heap.size, 0, none⟩) := hold 5 rfl
      have h6 : fr.tmps[6]?.getD undef = .pointer (some ⟨w.heap.size + 1, 0, none⟩) := hold 6 rfl
      have h7 : fr.tmps[7]?.getD undef = .pointer (some ⟨w.heap.size + 1 + 1, 0, none⟩) := hold 7 rfl
      clear hold
      have t0' := Gr.at hg t0
      have t1' := Gr.at hg t1
      have t2' := Gr.at hg t2
      have t3' := Gr.at hg t3
      have x0' := Gr.at hg x0
      have x1' := Gr.at hg x1
      have x2' := Gr.at hg x2
      have x3' := Gr.at hg x3
      have y0' := Gr.at hg y0
      have y1' := Gr.at hg y1
      have y2' := Gr.at hg y2
      have y3' := Gr.at hg y3
      have gr := Gr.trans gw hg
      clear t0 t1 t2 t3 x0 x1 x2 x3 y0 y1 y2 y3
      simp [predsImp, Region.binds, dstAt, fx]
      intro h19 h20 K hK
      go_simp
      rewrite [← Htv.out, ← Hyv.out]
      refine (words_calls t y S2 wr (Tm.In_below gr H.out.ht) (Tm.In_below gr H.out.hy) Hto2.out Hyo2.out (fun c hc => HS2'.out c (Nat.le_trans hg.size hc)) H.out.hf).mono ?_
      rintro e w10 (⟨u, hu, bm, hin, he, rfl, hg2, hon⟩ | ⟨hu, ⟨c9, rfl⟩, hg2⟩)
      · exact hK _ _ ⟨u, hu, bm, rfl, hin, he, hon⟩ hg2
      · refine (show bodyPost _ _ _ (.panic _) _ _ from ⟨Hdef.out, ?_⟩)
        rw [← HQ.out]
        exact .inr ⟨by rw [hu]; rfl, ⟨_, rfl⟩, Kp.of_gr (Gr.trans gr hg2)⟩
    case b4 =>
      intro fr wr hg hold
      have h5 : fr.tmps[5]?.getD undef = .pointer (some ⟨w.heap.size, 0, none⟩) := hold 5 rfl
      have h6 : fr.tmps[6]?.getD undef = .pointer (some ⟨w.heap.size + 1, 0, none⟩) := hold 6 rfl
      have h7 : fr.tmps[7]?.getD undef = .pointer (some ⟨w.heap.size + 1 + 1, 0, none⟩) := hold 7 rfl
      clear hold
      have t0' := Gr.at hg t0
      have t1' := Gr.at hg t1
      have t2' := Gr.at hg t2
      have t3' := Gr.at hg t3
      have x0' := Gr.at hg x0
      have x1' := Gr.at hg x1
      have x2' := Gr.at hg x2
      have x3' := Gr.at hg x3
      have y0' := Gr.at hg y0
      have y1' := Gr.at hg y1
      have y2' := Gr.at hg y2
      have y3' := Gr.at hg y3
      have gr := Gr.trans gw hg
      clear t0 t1 t2 t3 x0 x1 x2 x3 y0 y1 y2 y3
      simp [predsImp, Region.binds, dstAt, fx]
      rintro h18 ⟨u, hu, bm, e21, hin, he, hon⟩ K hK
      go_simp
      rewrite [← Hxv.out]
      refine (equal_calls x bm S2 wr (Tm.In_below gr H.out.hx) hin Hxo2.out hon (fun c hc => HS2'.out c (Nat.le_trans hg.size hc))).mono ?_
      rintro e w10 ⟨b2, hin2, he2, rfl, hg2, hon2⟩
      exact hK _ _ ⟨_, by rw [hu]; rfl, b2, rfl, hin2, by rw [he2, he], hon2⟩ hg2
    all_goals
      intro fr wr hg hold
      have h5 : fr.tmps[5]?.getD undef = .pointer (some ⟨w.heap.size, 0, none⟩) := hold 5 rfl
      have h6 : fr.tmps[6]?.getD undef = .pointer (some ⟨w.heap.size + 1, 0, none⟩) := hold 6 rfl
      have h7 : fr.tmps[7]?.getD undef = .pointer (some ⟨w.heap.size + 1 + 1, 0, none⟩) := hold 7 rfl
      clear hold
      have t0' := Gr.at hg t0
      have t1' := Gr.at hg t1
      have t2' := Gr.at hg t2
      have t3' := Gr.at hg t3
      have x0' := Gr.at hg x0
      have x1' := Gr.at hg x1
      have x2' := Gr.at hg x2
      have x3' := Gr.at hg x3
      have y0' := Gr.at hg y0
      have y1' := Gr.at hg y1
      have y2' := Gr.at hg y2
      have y3' := Gr.at hg y3
      have gr := Gr.trans gw hg
      clear t0 t1 t2 t3 x0 x1 x2 x3 y0 y1 y2 y3
      simp [predsImp, fx]
      intros
      rename_i K hK
      go_simp
    all_goals exact hK _ _ rfl (Gr.rfl' _)
  · intro w9 hg _
    rintro _ rfl _ rfl _ rfl v3 _ v4 ⟨u, hu, bm, rfl, hin, he, hon⟩
    have Hu := Lib.hid hu
    clear hu
    have HB := Lib.hid (And.intro hin (And.intro he hon))
    have g9 := Gr.trans gw hg
    obtain ⟨⟨r0, r1, r2, r3⟩, ⟨f0, f1, f2, f3⟩, hlt⟩ := (HR.out.gr hg).parts
    obtain ⟨kb, nb, sb, pb, cb, lb⟩ := bm
    clear hin he hon hg t0 t1 t2 t3 x0 x1 x2 x3 y0 y1 y2 y3
    simp only [finAll, Act.put, List.setIfInBounds_toArray, List.set_cons_succ, List.set_cons_zero, List.drop_succ_cons, List.drop_zero, List.take_zero]
    simp only [tm_val]
    go_wp2_with fail
    refine bodyPost_ret (v := (Tm.mk kb nb sb pb cb lb).val) (by simp (maxDischargeDepth := 9) [results, Try.results85, go_sem, tm_val, r0, r1, r2, r3]) rfl ?_
    rw [← HQ.out]
    obtain ⟨hin, he, hon⟩ := HB.out
    have hu := Hu.out
    rw [Option.map_eq_some_iff] at hu
    obtain ⟨u', hu', rfl⟩ := hu
    rw [hu']
    exact ret_gm hin he hon HS2.out.2.2.1 (Kp.of_gr g9) (by omega) (H.out.hM.gr g9) (by omega) _ _ _ _

end Go.Proofs.Yteonakicoomjkaa

namespace Go.Proofs.Yteonakicoomjkaa
open Go.RowKit Go.Lib

set_option maxHeartbeats 8000000 in
set_option maxRecDepth 100000 in
theorem gw_rest1 (t x y : Tm) (M : Nat) (m : Int) (w : World) (h : GIn t x y M m w) (hs : t.s.toList ≠ sCallT) (hv : T.goal reserved t.erase x.erase y.erase m = (T.gcall reserved t.erase x.erase y.erase).map fun u => (u, m)) (hk1 : (t.k == 1) = false) (hk2 : (t.k == 2) = false) (c_comma : t.erase.isOf sComma 2 = false) (c_arrow : t.erase.isOf sArrow 2 = false) (c_semi : t.erase.isOf sSemi 2 = false) (c_not : t.erase.isOf sNot 1 = false) (c_nil : t.erase.isOf sNil 0 = false) (c_curl0 : t.erase.isOf sCurl 0 = false) (c_curl1 : t.erase.isOf sCurl 1 = false) (c_cut : t.erase.isOf sCut 0 = false) (c_dot : t.erase.isOf sDot 2 = false) :
    Calls Try.prog 85 #[.pointer (some ⟨M, 0, none⟩), t.val, x.val, y.val] w (RetG (T.goal reserved t.erase x.erase y.erase m) M w) := by
  rw [hv]
  generalize hQ : RetG ((T.gcall reserved t.erase x.erase y.erase).map fun u => (u, m)) M w = Q
  have HQ := Lib.hid hQ
  have H := Lib.hid h
  have hMl : M < w.heap.size := h.hM.lt
  have hm1 := h.hm
  clear hQ h hv
  have Htv := Lib.hid (show t.val = .agg #[.int .i64 t.k, .int .i64 t.n, .string t.s, .slice t.p t.l.length t.c] from rfl)
  have Hxv := Lib.hid (show x.val = .agg #[.int .i64 x.k, .int .i64 x.n, .string x.s, .slice x.p x.l.length x.c] from rfl)
  have Hyv := Lib.hid (show y.val = .agg #[.int .i64 y.k, .int .i64 y.n, .string y.s, .slice y.p y.l.length y.c] from rfl)
  have E0 := Lib.hid (show t.erase.isOf (ByteArray.mk #[44]).toList 2 = false by rw [bl44c]; exact c_comma)
  have E1 := Lib.hid (show t.erase.isOf (ByteArray.mk #[45, 62]).toList 2 = false by rw [bl4562]; exact c_arrow)
  have E2 := Lib.hid (show t.erase.isOf (ByteArray.mk #[59]).toList 2 = false by rw [bl59]; exact c_semi)
  have E3 := Lib.hid (show t.erase.isOf (ByteArray.mk #[92, 43]).toList 1 = false by rw [blNot]; exact c_not)
  have E4 := Lib.hid (show t.erase.isOf (ByteArray.mk #[91, 93]).toList 0 = false by rw [blNil]; exact c_nil)
  have E5 := Lib.hid (show t.erase.isOf (ByteArray.mk #[123, 125]).toList 0 = false by rw [blCurl]; exact c_curl0)
  have E6 := Lib.hid (show t.erase.isOf (ByteArray.mk #[123, 125]).toList 1 = false by rw [blCurl]; exact c_curl1)
  have E7 := Lib.hid (show t.erase.isOf (ByteArray.mk #[33]).toList 0 = false by rw [blCut]; exact c_cut)
  have E8 := Lib.hid (show t.erase.isOf (ByteArray.mk #[46]).toList 2 = false by rw [blDot]; exact c_dot)
  clear c_comma c_arrow c_semi c_not c_nil c_curl0 c_curl1 c_cut c_dot
  simp only [Tm.val]
  go_enter Try.func85, Try.ntmps85
  try simp only [List.append_eq, List.cons_append, List.nil_append]
  go_upto_region 1 with fail
  obtain ⟨HT, HX, HY, HR, gA⟩ := four_blocks w (.int .i64 t.k) (.int .i64 t.n) (.string t.s) (.slice t.p t.l.length t.c) (.int .i64 x.k) (.int .i64 x.n) (.string x.s) (.slice x.p x.l.length x.c) (.int .i64 y.k) (.int .i64 y.n) (.string y.s) (.slice y.p y.l.length y.c) (.int .i64 0) (.int .i64 0) (.string ⟨#[]⟩) (.slice none 0 0) _ rfl
  generalize ((((w.alloc (.cells #[.int .i64 t.k, .int .i64 t.n, .string t.s, .slice t.p t.l.length t.c] 24)).alloc (.cells #[.int .i64 x.k, .int .i64 x.n, .string x.s, .slice x.p x.l.length x.c] 24)).alloc (.cells #[.int .i64 y.k, .int .i64 y.n, .string y.s, .slice y.p y.l.length y.c] 24)).alloc (.cells #[.int .i64 0, .int .i64 0, .string ⟨#[]⟩, .slice none 0 0] 24)) = wA at *
  have HRl := Lib.hid (show w.heap.size + 1 + 1 + 1 < wA.heap.size from HR.out.parts.2.2)
  have Hto2 := Lib.hid (Tm.On.and (on_maker H.out.hM H.out.ht) (in_ne (R := w.heap.size + 1 + 1 + 1) H.out.ht (by omega)))
  have Hxo2 := Lib.hid (Tm.On.and (on_maker H.out.hM H.out.hx) (in_ne (R := w.heap.size + 1 + 1 + 1) H.out.hx (by omega)))
  have Hyo2 := Lib.hid (Tm.On.and (on_maker H.out.hM H.out.hy) (in_ne (R := w.heap.size + 1 + 1 + 1) H.out.hy (by omega)))
  have hS2 : (∀ c, wA.heap.size ≤ c → (fun b => b ≠ M ∧ b ≠ w.heap.size + 1 + 1 + 1) c) ∧ (∀ b, (fun b => b ≠ M ∧ b ≠ w.heap.size + 1 + 1 + 1) b → b ≠ M) ∧ (∀ b, (fun b => b ≠ M ∧ b ≠ w.heap.size + 1 + 1 + 1) b → b ≠ w.heap.size + 1 + 1 + 1) ∧ (∀ b, b ≠ M → b ≠ w.heap.size + 1 + 1 + 1 → (fun b => b ≠ M ∧ b ≠ w.heap.size + 1 + 1 + 1) b) :=
    ⟨fun c hc => ⟨by have := HRl.out; omega, by have := HRl.out; omega⟩, fun _ h => h.1, fun _ h => h.2, fun _ h1 h2 => ⟨h1, h2⟩⟩
  generalize (fun b => b ≠ M ∧ b ≠ w.heap.size + 1 + 1 + 1) = S2 at Hto2 Hxo2 Hyo2 hS2
  have HS2 := Lib.hid hS2
  clear hS2
  have HSW : Hid (wA.heap.size ≤ wA.heap.size) := Nat.le_refl _
  obtain ⟨⟨t0, t1, t2, t3⟩, _, _⟩ := HT.out.parts
  obtain ⟨⟨x0, x1, x2, x3⟩, _, _⟩ := HX.out.parts
  obtain ⟨⟨y0, y1, y2, y3⟩, _, _⟩ := HY.out.parts
  have hs0 : (t.s.toList == [99, 97, 108, 108]) = false := beq_eq_false_iff_ne.2 hs
  have hs2 : (t.s.toList == (ByteArray.mk #[99, 97, 108, 108]).toList) = false := by rw [blCall]; exact hs0
  go_upto_region 31 with (first
    | (go_at_call 76; rewrite [← Htv.out]; refine (is_calls _ _ _ _).mono ?_; rintro e w1 ⟨rfl, hb⟩; (first | rewrite [E0.out] | rewrite [E1.out] | rewrite [E2.out] | rewrite [E3.out] | rewrite [E4.out] | rewrite [E5.out] | rewrite [E6.out] | rewrite [E7.out] | rewrite [E8.out]); replace gA := Gr.trans gA hb; replace HSW := Lib.hid (Nat.le_trans HSW.out hb.size); replace HT := Lib.hid (HT.out.gr hb); replace HX := Lib.hid (HX.out.gr hb); replace HY := Lib.hid (HY.out.gr hb); replace HR := Lib.hid (HR.out.gr hb); clear t0 t1 t2 t3 x0 x1 x2 x3 y0 y1 y2 y3 hb; obtain ⟨⟨t0, t1, t2, t3⟩, _, _⟩ := HT.out.parts; obtain ⟨⟨x0, x1, x2, x3⟩, _, _⟩ := HX.out.parts; obtain ⟨⟨y0, y1, y2, y3⟩, _, _⟩ := HY.out.parts)
    | fail)
  have gw := gA
  have HS2' : Hid (∀ c, w1.heap.size ≤ c → S2 c) := fun c hc => HS2.out.1 c (Nat.le_trans HSW.out hc)
  go_wp2_with (first
    | (go_at_call 82
       rewrite [← Htv.out, ← Hxv.out, ← Hyv.out]
       refine (call_calls t x y S2 _ (Tm.In_below gw H.out.ht) (Tm.In_below gw H.out.hx) (Tm.In_below gw H.out.hy) Hto2.out Hxo2.out Hyo2.out HS2'.out H.out.hf).mono ?_
       rintro e w' (⟨u, hu, ⟨kb, nb, sb, pb, cb, lb⟩, hin, he, rfl, hg, hon⟩ | ⟨hu, ⟨c9, rfl⟩, hg⟩)
       (rewrite [tm_val]
        obtain ⟨⟨r0, r1, r2, r3⟩, ⟨f0, f1, f2, f3⟩, hlt⟩ := (HR.out.gr hg).parts
        have HB := Lib.hid (And.intro hin (And.intro he hon))
        have HU := Lib.hid hu
        have g2 : Gr w w' := Gr.trans gw hg
        clear hin he hon hg hu t0 t1 t2 t3 x0 x1 x2 x3 y0 y1 y2 y3))
    | fail)
  · refine bodyPost_ret (v := (Tm.mk kb nb sb pb cb lb).val) (by simp (maxDischargeDepth := 9) [results, Try.results85, go_sem, tm_val, r0, r1, r2, r3]) rfl ?_
    rw [← HQ.out]
    obtain ⟨hin, he, hon⟩ := HB.out
    rw [HU.out]
    exact ret_gm hin he hon HS2.out.2.2.1 (Kp.of_gr g2) (by omega) (H.out.hM.gr g2) (by omega) _ _ _ _
  · refine ⟨rfl, ?_⟩
    rw [← HQ.out, hu]
    exact .inr ⟨rfl, ⟨_, rfl⟩, Kp.of_gr (Gr.trans gw hg)⟩

end Go.Proofs.Yteonakicoomjkaa
