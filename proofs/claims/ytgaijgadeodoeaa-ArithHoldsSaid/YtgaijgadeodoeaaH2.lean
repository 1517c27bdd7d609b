/-
  arith.Holds
-/
import Derived.Test.YtgaijgadeodoeaaH1
namespace Go.Proofs.Ytgaijgadeodoeaa
open Go.RowKit

set_option maxHeartbeats 4000000 in
set_option maxRecDepth 100000 in
theorem holds_none (s : ByteArray) (a b : Tm) (w : World) (ha : a.In w) (hb : b.In w) (hfa : a.erase.formed = true) (hfb : b.erase.formed = true) (hn : relOf s.toList = none) :
    Calls Try.prog 17 #[.string s, a.val, b.val] w (RetH (false, zeroT, 1) w) := by
  have e0 : (s.toList == [61, 58, 61]) = false := beq_eq_false_iff_ne.2 fun e => by rw [e] at hn; cases hn
  have e1 : (s.toList == [61, 92, 61]) = false := beq_eq_false_iff_ne.2 fun e => by rw [e] at hn; cases hn
  have e2 : (s.toList == [60]) = false := beq_eq_false_iff_ne.2 fun e => by rw [e] at hn; cases hn
  have e3 : (s.toList == [62]) = false := beq_eq_false_iff_ne.2 fun e => by rw [e] at hn; cases hn
  have e4 : (s.toList == [61, 60]) = false := beq_eq_false_iff_ne.2 fun e => by rw [e] at hn; cases hn
  have e5 : (s.toList == [62, 61]) = false := beq_eq_false_iff_ne.2 fun e => by rw [e] at hn; cases hn
  clear hn
  have HT := Lib.hid ha
  have HU := Lib.hid hb
  have Hfa := Lib.hid hfa
  have Hfb := Lib.hid hfb
  clear ha hb hfa hfb
  simp only [Tm.val]
  go_enter Try.func17, Try.ntmps17
  try simp only [List.append_eq, List.cons_append, List.nil_append]
  go_wp2_with fail
  refine (all_calls (l := [a, b]) (two_row (t := a) (u := b) (Tm.In_below (by go_grown) HT.out) (Tm.In_below (by go_grown) HU.out) (by go_cell) (by go_cell) (by go_cell) (by go_cell) (by go_cell) (by go_cell) (by go_cell) (by go_cell))).mono ?_
  rewrite [show T.formedL (Tm.eraseL [a, b]) = (a.erase.formed && b.erase.formed) by simp [Tm.eraseL, T.formedL]]
  rewrite [Hfa.out, Hfb.out]
  rintro e w1 ⟨rfl, hb1⟩
  have HR := (Blk4.old (by have := Blk4.new ((w.alloc (.cells #[.int .i64 a.k, .int .i64 a.n, .string a.s, .slice a.p a.l.length a.c] 28)).alloc (.cells #[.int .i64 b.k, .int .i64 b.n, .string b.s, .slice b.p b.l.length b.c] 28)) (.int .i64 0) (.int .i64 0) (.string ⟨#[]⟩) (.slice none 0 0); simpa only [World.size_alloc] using this) (.cells #[.int .i64 a.k, .int .i64 a.n, .string a.s, .slice a.p a.l.length a.c, .int .i64 b.k, .int .i64 b.n, .string b.s, .slice b.p b.l.length b.c] 28)).gr hb1
  obtain ⟨⟨y0, y1, y2, y3⟩, ⟨f0, f1, f2, f3⟩, hlt⟩ := HR.parts
  have g1 : Gr w w1 := below_step hb1 (by go_grown)
  clear hb1 HR
  go_wp2_with fail
  refine bodyPost_ret (v := .tuple #[.bool false, zeroTm.val, .int .i64 1]) (by simp (maxDischargeDepth := 9) [results, Try.results17, go_sem, zeroTm_val, y0, y1, y2, y3]) rfl ?_
  exact reth (x := false) (t := zeroT) rfl _ (zeroTm_in _) zeroTm_erase rfl (by go_grown)

set_option maxHeartbeats 4000000 in
set_option maxRecDepth 100000 in
theorem holds_bad (s : ByteArray) (a b : Tm) (w : World) (ha : a.In w) (hb : b.In w) (hfa : (a.erase.formed && b.erase.formed) = false) :
    Calls Try.prog 17 #[.string s, a.val, b.val] w (RetH (false, zeroT, 2) w) := by
  have HT := Lib.hid ha
  have HU := Lib.hid hb
  have Hfa := Lib.hid hfa
  clear ha hb hfa
  simp only [Tm.val]
  go_enter Try.func17, Try.ntmps17
  try simp only [List.append_eq, List.cons_append, List.nil_append]
  go_wp2_with fail
  refine (all_calls (l := [a, b]) (two_row (t := a) (u := b) (Tm.In_below (by go_grown) HT.out) (Tm.In_below (by go_grown) HU.out) (by go_cell) (by go_cell) (by go_cell) (by go_cell) (by go_cell) (by go_cell) (by go_cell) (by go_cell))).mono ?_
  rewrite [show T.formedL (Tm.eraseL [a, b]) = (a.erase.formed && b.erase.formed) by simp [Tm.eraseL, T.formedL]]
  rewrite [Hfa.out]
  rintro e w1 ⟨rfl, hb1⟩
  have HR := (Blk4.old (by have := Blk4.new ((w.alloc (.cells #[.int .i64 a.k, .int .i64 a.n, .string a.s, .slice a.p a.l.length a.c] 28)).alloc (.cells #[.int .i64 b.k, .int .i64 b.n, .string b.s, .slice b.p b.l.length b.c] 28)) (.int .i64 0) (.int .i64 0) (.string ⟨#[]⟩) (.slice none 0 0); simpa only [World.size_alloc] using this) (.cells #[.int .i64 a.k, .int .i64 a.n, .string a.s, .slice a.p a.l.length a.c, .int .i64 b.k, .int .i64 b.n, .string b.s, .slice b.p b.l.length b.c] 28)).gr hb1
  obtain ⟨⟨y0, y1, y2, y3⟩, ⟨f0, f1, f2, f3⟩, hlt⟩ := HR.parts
  have g1 : Gr w w1 := below_step hb1 (by go_grown)
  clear hb1 HR
  go_wp2_with fail
  refine bodyPost_ret (v := .tuple #[.bool false, zeroTm.val, .int .i64 2]) (by simp (maxDischargeDepth := 9) [results, Try.results17, go_sem, zeroTm_val, y0, y1, y2, y3]) rfl ?_
  exact reth (x := false) (t := zeroT) rfl _ (zeroTm_in _) zeroTm_erase rfl (by go_grown)
set_option maxHeartbeats 4000000 in
set_option maxRecDepth 100000 in
theorem holds_0 (s : ByteArray) (a b : Tm) (w : World) (ha : a.In w) (hb : b.In w) (hfa : a.erase.formed = true) (hfb : b.erase.formed = true) (hs : s.toList = [61, 58, 61]) :
    Calls Try.prog 17 #[.string s, a.val, b.val] w (RetH (holdsE rEq (evalT a.erase) (evalT b.erase)) w) := by
  generalize hr : holdsE rEq (evalT a.erase) (evalT b.erase) = r
  have Hr := Lib.hid hr
  clear hr
  have HT := Lib.hid ha
  have HU := Lib.hid hb
  have Hfa := Lib.hid hfa
  have Hfb := Lib.hid hfb
  clear ha hb hfa hfb
  simp only [Tm.val]
  go_enter Try.func17, Try.ntmps17
  try simp only [List.append_eq, List.cons_append, List.nil_append]
  go_wp2_with fail
  refine (all_calls (l := [a, b]) (two_row (t := a) (u := b) (Tm.In_below (by go_grown) HT.out) (Tm.In_below (by go_grown) HU.out) (by go_cell) (by go_cell) (by go_cell) (by go_cell) (by go_cell) (by go_cell) (by go_cell) (by go_cell))).mono ?_
  rewrite [show T.formedL (Tm.eraseL [a, b]) = (a.erase.formed && b.erase.formed) by simp [Tm.eraseL, T.formedL]]
  rewrite [Hfa.out, Hfb.out]
  rintro e w1 ⟨rfl, hb1⟩
  have HA : Hid (Blk4 w1 w.heap.size (.int .i64 a.k) (.int .i64 a.n) (.string a.s) (.slice a.p a.l.length a.c)) := (Blk4.old (Blk4.old (Blk4.old (Blk4.new w _ _ _ _) _) _) _).gr hb1
  have HB : Hid (Blk4 w1 (w.heap.size + 1) (.int .i64 b.k) (.int .i64 b.n) (.string b.s) (.slice b.p b.l.length b.c)) := (Blk4.old (Blk4.old (by have := Blk4.new (w.alloc (.cells #[.int .i64 a.k, .int .i64 a.n, .string a.s, .slice a.p a.l.length a.c] 28)) (.int .i64 b.k) (.int .i64 b.n) (.string b.s) (.slice b.p b.l.length b.c); simpa only [World.size_alloc] using this) _) _).gr hb1
  have HR : Hid (Blk4 w1 (w.heap.size + 1 + 1) (.int .i64 0) (.int .i64 0) (.string ⟨#[]⟩) (.slice none 0 0)) := (Blk4.old (by have := Blk4.new ((w.alloc (.cells #[.int .i64 a.k, .int .i64 a.n, .string a.s, .slice a.p a.l.length a.c] 28)).alloc (.cells #[.int .i64 b.k, .int .i64 b.n, .string b.s, .slice b.p b.l.length b.c] 28)) (.int .i64 0) (.int .i64 0) (.string ⟨#[]⟩) (.slice none 0 0); simpa only [World.size_alloc] using this) _).gr hb1
  have g1 : Gr w w1 := below_step hb1 (by go_grown)
  obtain ⟨⟨a0, a1, a2, a3⟩, _, _⟩ := HA.out.parts
  clear hb1
  go_wp2_with fail
  refine (Eval_calls (t := a) (Tm.In_below (by go_grown) HT.out)).mono ?_
  have HRa : Hid (evalR a.erase = match evalT a.erase with | .ok n => (n, zeroT, 0) | .bad b => (0, b, 14)) := by show _ = _; rw [evalR, if_pos Hfa.out]; cases evalT a.erase <;> rfl
  have HRb : Hid (evalR b.erase = match evalT b.erase with | .ok n => (n, zeroT, 0) | .bad b => (0, b, 14)) := by show _ = _; rw [evalR, if_pos Hfb.out]; cases evalT b.erase <;> rfl
  rewrite [HRa.out]
  clear a0 a1 a2 a3
  cases hea : evalT a.erase with
  | bad x =>
    rintro e w2 ⟨zb, hzi, hze, _, rfl, hb2⟩
    have HR2 := HR.out.gr hb2
    have hoff := ball_off HR2 hzi (by rw [hze]; exact evalR_real hea)
    obtain ⟨⟨y0, y1, y2, y3⟩, ⟨f0, f1, f2, f3⟩, hlt⟩ := HR2.parts
    have g2 : Gr w w2 := g1.trans hb2
    have Hzi := Lib.hid hzi
    have Hze := Lib.hid hze
    have Hoff := Lib.hid hoff
    have Hea := Lib.hid hea
    clear hzi hze hoff hb2 HR2 hea HRa HRb
    simp only [Tm.val]
    go_wp2_with fail
    go_region
    all_goals
      go_wp2_with fail
      refine bodyPost_ret (v := .tuple #[.bool false, zb.val, .int .i64 14]) (by simp (maxDischargeDepth := 9) [results, Try.results17, go_sem, Tm.val, y0, y1, y2, y3]) rfl ?_
      refine reth (x := false) (t := x) (n := 14) (by rw [← Hr.out, Hea.out, holdsE_bad1]) _ ?_ Hze.out rfl (by go_grown)
      exact in_after' Hzi.out Hoff.out fun b h1 h2 o => by simp [go_sem, cell_set_ne h1]
  | ok m =>
    rintro e w2 ⟨zb, hzi, hze, hm, rfl, hb2⟩
    have HR2 : Hid _ := Lib.hid (HR.out.gr hb2)
    have HB2 : Hid _ := Lib.hid (HB.out.gr hb2)
    obtain ⟨⟨y0, y1, y2, y3⟩, ⟨f0, f1, f2, f3⟩, hlt⟩ := HR2.out.parts
    obtain ⟨⟨b0, b1, b2, b3⟩, _, hltb⟩ := HB2.out.parts
    have g2 : Gr w w2 := g1.trans hb2
    obtain ⟨p', c', rfl⟩ := zero_form hze
    have Hm := Lib.hid hm
    have Hea := Lib.hid hea
    clear hzi hze hm hb2 hea HRa
    simp only [zero_val]
    go_wp2_with fail
    refine (Eval_calls (t := b) (Tm.In_below (by go_grown) HU.out)).mono ?_
    rewrite [HRb.out]
    have HS2 : Hid _ := Lib.hid (HR2.out.store (.int .i64 0) (.int .i64 0) (.string ⟨#[]⟩) (.slice p' 0 c'))
    clear b0 b1 b2 b3 y0 y1 y2 y3 f0 f1 f2 f3
    cases heb : evalT b.erase with
    | bad x =>
      rintro e w3 ⟨zb, hzi, hze, _, rfl, hb3⟩
      have HR3 := HS2.out.gr hb3
      have hoff := ball_off HR3 hzi (by rw [hze]; exact evalR_real heb)
      obtain ⟨⟨y0, y1, y2, y3⟩, ⟨f0, f1, f2, f3⟩, hlt3⟩ := HR3.parts
      have g3 : Gr w w3 := below_step hb3 (by go_grown)
      have Hzi := Lib.hid hzi
      have Hze := Lib.hid hze
      have Hoff := Lib.hid hoff
      have Heb := Lib.hid heb
      clear hzi hze hoff hb3 HR3 heb HRb
      simp only [Tm.val]
      go_wp2_with fail
      go_region
      all_goals
        go_wp2_with fail
        refine bodyPost_ret (v := .tuple #[.bool false, zb.val, .int .i64 14]) (by simp (maxDischargeDepth := 9) [results, Try.results17, go_sem, Tm.val, y0, y1, y2, y3]) rfl ?_
        refine reth (x := false) (t := x) (n := 14) (by rw [← Hr.out, Hea.out, Heb.out, holdsE_bad2]) _ ?_ Hze.out rfl (by go_grown)
        exact in_after' Hzi.out Hoff.out fun b h1 h2 o => by simp [go_sem, cell_set_ne h1]
    | ok n =>
      rintro e w3 ⟨zb, hzi, hze, hn, rfl, hb3⟩
      have HR3 : Hid _ := Lib.hid (HS2.out.gr hb3)
      have g3 : Gr w w3 := below_step hb3 (by go_grown)
      obtain ⟨⟨y0, y1, y2, y3⟩, ⟨f0, f1, f2, f3⟩, hlt3⟩ := HR3.out.parts
      obtain ⟨p2, c2, rfl⟩ := zero_form hze
      have Heb := Lib.hid heb
      have q3 : ∀ (x y : Value) (w : World), (callFunc 46 #[x, y]).run Try.prog w = .ok (.enter 46 #[x, y]) w := fun _ _ _ => by kernel_rfl
      clear hzi hze hn hb3 heb HRb
      simp only [zero_val]
      go_wp2_with fail
      refine (holds_fn0 m n _).mono ?_
      rintro e w4 ⟨rfl, hb4⟩
      have HS3 := HR3.out.store (.int .i64 0) (.int .i64 0) (.string ⟨#[]⟩) (.slice p2 0 c2)
      have HR4 := HS3.gr hb4
      clear y0 y1 y2 y3 f0 f1 f2 f3 HS3
      obtain ⟨⟨y0, y1, y2, y3⟩, ⟨f0, f1, f2, f3⟩, hlt4⟩ := HR4.parts
      have g4 : Gr w w4 := below_step hb4 (by go_grown)
      clear hb4 HR4
      go_wp2_with fail
      refine bodyPost_ret (v := .tuple #[.bool (rEq m n), zeroTm.val, .int .i64 0]) (by simp (maxDischargeDepth := 9) [results, Try.results17, go_sem, zeroTm_val, y0, y1, y2, y3]) rfl ?_
      exact reth (x := rEq m n) (t := zeroT) (n := 0) (by rw [← Hr.out, Hea.out, Heb.out, holdsE_ok]) _ (zeroTm_in _) zeroTm_erase rfl (by go_grown)

end Go.Proofs.Ytgaijgadeodoeaa
