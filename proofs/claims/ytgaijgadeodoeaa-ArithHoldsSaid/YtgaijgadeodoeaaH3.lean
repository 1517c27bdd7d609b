/-
  hornref.Holds
-/
import Derived.Test.YtgaijgadeodoeaaH1
import Derived.Test.YtgaijgadeodoeaaT3
namespace Go.Proofs.Ytgaijgadeodoeaa
open Go.RowKit

set_option maxHeartbeats 4000000 in
set_option maxRecDepth 100000 in
theorem rholds_none (s : ByteArray) (a b : Tm) (w : World) (ha : a.In w) (hb : b.In w) (hfa : a.erase.formed = true) (hfb : b.erase.formed = true) (hn : relOf s.toList = none) :
    Calls Try.prog 18 #[.string s, a.val, b.val] w (RetH (false, zeroT, 1) w) := by
  have e0 : (s.toList == [61, 58, 61]) = false := beq_eq_false_iff_ne.2 fun e => by rw [e] at hn; cases hn
  have e1 : (s.toList == [61, 92, 61]) = false := beq_eq_false_iff_ne.2 fun e => by rw [e] at hn; cases hn
  have e2 : (s.toList == [60]) = false := beq_eq_false_iff_ne.2 fun e => by rw [e] at hn; cases hn
  have e3 : (s.toList == [62]) = false := beq_eq_false_iff_ne.2 fun e => by rw [e] at hn; cases hn
  have e4 : (s.toList == [61, 60]) = false := beq_eq_false_iff_ne.2 fun e => by rw [e] at hn; cases hn
  have e5 : (s.toList == [62, 61]) = false := beq_eq_false_iff_ne.2 fun e => by rw [e] at hn; cases hn
  clear hn
  have HT := Lib.hid ha
  have HU := Lib.hid hb
  have Hfa := Lib.hid hfa
  have Hfb := Lib.hid hfb
  clear ha hb hfa hfb
  simp only [Tm.val]
  go_enter Try.func18, Try.ntmps18
  try simp only [List.append_eq, List.cons_append, List.nil_append]
  go_wp2_with fail
  refine (rformed_calls (t := a) (Tm.In_below (by go_grown) HT.out)).mono ?_
  rewrite [Hfa.out]
  rintro e w0 ⟨rfl, hb0⟩
  have HB0 : Hid (Blk4 w0 (w.heap.size + 1) (.int .i64 b.k) (.int .i64 b.n) (.string b.s) (.slice b.p b.l.length b.c)) := (Blk4.old (by have := Blk4.new (w.alloc (.cells #[.int .i64 a.k, .int .i64 a.n, .string a.s, .slice a.p a.l.length a.c] 28)) (.int .i64 b.k) (.int .i64 b.n) (.string b.s) (.slice b.p b.l.length b.c); simpa only [World.size_alloc] using this) _).gr hb0
  have HR0 : Hid (Blk4 w0 (w.heap.size + 1 + 1) (.int .i64 0) (.int .i64 0) (.string ⟨#[]⟩) (.slice none 0 0)) := Blk4.gr (by have := Blk4.new ((w.alloc (.cells #[.int .i64 a.k, .int .i64 a.n, .string a.s, .slice a.p a.l.length a.c] 28)).alloc (.cells #[.int .i64 b.k, .int .i64 b.n, .string b.s, .slice b.p b.l.length b.c] 28)) (.int .i64 0) (.int .i64 0) (.string ⟨#[]⟩) (.slice none 0 0); simpa only [World.size_alloc] using this) hb0
  have g0 : Gr w w0 := below_step hb0 (by go_grown)
  obtain ⟨⟨b0, b1, b2, b3⟩, _, _⟩ := HB0.out.parts
  clear hb0
  go_wp2_with fail
  refine (rformed_calls (t := b) (Tm.In_below (by go_grown) HU.out)).mono ?_
  rewrite [Hfb.out]
  rintro e w1 ⟨rfl, hb1⟩
  have HR := HR0.out.gr hb1
  have g1 : Gr w w1 := below_step hb1 (by go_grown)
  clear b0 b1 b2 b3 hb1 HB0 HR0
  obtain ⟨⟨y0, y1, y2, y3⟩, ⟨f0, f1, f2, f3⟩, hlt⟩ := HR.parts
  go_wp2_with fail
  refine bodyPost_ret (v := .tuple #[.bool false, zeroTm.val, .int .i64 1]) (by simp (maxDischargeDepth := 9) [results, Try.results18, go_sem, zeroTm_val, y0, y1, y2, y3]) rfl ?_
  exact reth (x := false) (t := zeroT) rfl _ (zeroTm_in _) zeroTm_erase rfl (by go_grown)

set_option maxHeartbeats 4000000 in
set_option maxRecDepth 100000 in
theorem rholds_bad1 (s : ByteArray) (a b : Tm) (w : World) (ha : a.In w) (hfa : a.erase.formed = false) :
    Calls Try.prog 18 #[.string s, a.val, b.val] w (RetH (false, zeroT, 2) w) := by
  have HT := Lib.hid ha
  have Hfa := Lib.hid hfa
  clear ha hfa
  simp only [Tm.val]
  go_enter Try.func18, Try.ntmps18
  try simp only [List.append_eq, List.cons_append, List.nil_append]
  go_wp2_with fail
  refine (rformed_calls (t := a) (Tm.In_below (by go_grown) HT.out)).mono ?_
  rewrite [Hfa.out]
  rintro e w1 ⟨rfl, hb1⟩
  have HR := Blk4.gr (by have := Blk4.new ((w.alloc (.cells #[.int .i64 a.k, .int .i64 a.n, .string a.s, .slice a.p a.l.length a.c] 28)).alloc (.cells #[.int .i64 b.k, .int .i64 b.n, .string b.s, .slice b.p b.l.length b.c] 28)) (.int .i64 0) (.int .i64 0) (.string ⟨#[]⟩) (.slice none 0 0); simpa only [World.size_alloc] using this) hb1
  obtain ⟨⟨y0, y1, y2, y3⟩, ⟨f0, f1, f2, f3⟩, hlt⟩ := HR.parts
  have g1 : Gr w w1 := below_step hb1 (by go_grown)
  clear hb1 HR
  go_wp2_with fail
  refine bodyPost_ret (v := .tuple #[.bool false, zeroTm.val, .int .i64 2]) (by simp (maxDischargeDepth := 9) [results, Try.results18, go_sem, zeroTm_val, y0, y1, y2, y3]) rfl ?_
  exact reth (x := false) (t := zeroT) rfl _ (zeroTm_in _) zeroTm_erase rfl (by go_grown)

set_option maxHeartbeats 4000000 in
set_option maxRecDepth 100000 in
theorem rholds_bad2 (s : ByteArray) (a b : Tm) (w : World) (ha : a.In w) (hb : b.In w) (hfa : a.erase.formed = true) (hfb : b.erase.formed = false) :
    Calls Try.prog 18 #[.string s, a.val, b.val] w (RetH (false, zeroT, 2) w) := by
  have HT := Lib.hid ha
  have HU := Lib.hid hb
  have Hfa := Lib.hid hfa
  have Hfb := Lib.hid hfb
  clear ha hb hfa hfb
  simp only [Tm.val]
  go_enter Try.func18, Try.ntmps18
  try simp only [List.append_eq, List.cons_append, List.nil_append]
  go_wp2_with fail
  refine (rformed_calls (t := a) (Tm.In_below (by go_grown) HT.out)).mono ?_
  rewrite [Hfa.out]
  rintro e w0 ⟨rfl, hb0⟩
  have HB0 : Hid (Blk4 w0 (w.heap.size + 1) (.int .i64 b.k) (.int .i64 b.n) (.string b.s) (.slice b.p b.l.length b.c)) := (Blk4.old (by have := Blk4.new (w.alloc (.cells #[.int .i64 a.k, .int .i64 a.n, .string a.s, .slice a.p a.l.length a.c] 28)) (.int .i64 b.k) (.int .i64 b.n) (.string b.s) (.slice b.p b.l.length b.c); simpa only [World.size_alloc] using this) _).gr hb0
  have HR0 : Hid (Blk4 w0 (w.heap.size + 1 + 1) (.int .i64 0) (.int .i64 0) (.string ⟨#[]⟩) (.slice none 0 0)) := Blk4.gr (by have := Blk4.new ((w.alloc (.cells #[.int .i64 a.k, .int .i64 a.n, .string a.s, .slice a.p a.l.length a.c] 28)).alloc (.cells #[.int .i64 b.k, .int .i64 b.n, .string b.s, .slice b.p b.l.length b.c] 28)) (.int .i64 0) (.int .i64 0) (.string ⟨#[]⟩) (.slice none 0 0); simpa only [World.size_alloc] using this) hb0
  have g0 : Gr w w0 := below_step hb0 (by go_grown)
  obtain ⟨⟨b0, b1, b2, b3⟩, _, _⟩ := HB0.out.parts
  clear hb0
  go_wp2_with fail
  refine (rformed_calls (t := b) (Tm.In_below (by go_grown) HU.out)).mono ?_
  rewrite [Hfb.out]
  rintro e w1 ⟨rfl, hb1⟩
  have HR := HR0.out.gr hb1
  have g1 : Gr w w1 := below_step hb1 (by go_grown)
  clear b0 b1 b2 b3 hb1 HB0 HR0
  obtain ⟨⟨y0, y1, y2, y3⟩, ⟨f0, f1, f2, f3⟩, hlt⟩ := HR.parts
  go_wp2_with fail
  refine bodyPost_ret (v := .tuple #[.bool false, zeroTm.val, .int .i64 2]) (by simp (maxDischargeDepth := 9) [results, Try.results18, go_sem, zeroTm_val, y0, y1, y2, y3]) rfl ?_
  exact reth (x := false) (t := zeroT) rfl _ (zeroTm_in _) zeroTm_erase rfl (by go_grown)

set_option maxHeartbeats 4000000 in
set_option maxRecDepth 100000 in
theorem rholds_0 (s : ByteArray) (a b : Tm) (w : World) (ha : a.In w) (hb : b.In w) (hfa : a.erase.formed = true) (hfb : b.erase.formed = true) (hs : s.toList = [61, 58, 61]) :
    Calls Try.prog 18 #[.string s, a.val, b.val] w (RetH (holdsE rEq (evalT a.erase) (evalT b.erase)) w) := by
  generalize hr : holdsE rEq (evalT a.erase) (evalT b.erase) = r
  have Hr := Lib.hid hr
  clear hr
  have HT := Lib.hid ha
  have HU := Lib.hid hb
  have Hfa := Lib.hid hfa
  have Hfb := Lib.hid hfb
  clear ha hb hfa hfb
  simp only [Tm.val]
  go_enter Try.func18, Try.ntmps18
  try simp only [List.append_eq, List.cons_append, List.nil_append]
  go_wp2_with fail
  refine (rformed_calls (t := a) (Tm.In_below (by go_grown) HT.out)).mono ?_
  rewrite [Hfa.out]
  rintro e w0 ⟨rfl, hb0⟩
  have HA0 : Hid (Blk4 w0 w.heap.size (.int .i64 a.k) (.int .i64 a.n) (.string a.s) (.slice a.p a.l.length a.c)) := (Blk4.old (Blk4.old (Blk4.new w _ _ _ _) _) _).gr hb0
  have HB0 : Hid (Blk4 w0 (w.heap.size + 1) (.int .i64 b.k) (.int .i64 b.n) (.string b.s) (.slice b.p b.l.length b.c)) := (Blk4.old (by have := Blk4.new (w.alloc (.cells #[.int .i64 a.k, .int .i64 a.n, .string a.s, .slice a.p a.l.length a.c] 28)) (.int .i64 b.k) (.int .i64 b.n) (.string b.s) (.slice b.p b.l.length b.c); simpa only [World.size_alloc] using this) _).gr hb0
  have HR0 : Hid (Blk4 w0 (w.heap.size + 1 + 1) (.int .i64 0) (.int .i64 0) (.string ⟨#[]⟩) (.slice none 0 0)) := Blk4.gr (by have := Blk4.new ((w.alloc (.cells #[.int .i64 a.k, .int .i64 a.n, .string a.s, .slice a.p a.l.length a.c] 28)).alloc (.cells #[.int .i64 b.k, .int .i64 b.n, .string b.s, .slice b.p b.l.length b.c] 28)) (.int .i64 0) (.int .i64 0) (.string ⟨#[]⟩) (.slice none 0 0); simpa only [World.size_alloc] using this) hb0
  have g0 : Gr w w0 := below_step hb0 (by go_grown)
  obtain ⟨⟨b0, b1, b2, b3⟩, _, _⟩ := HB0.out.parts
  clear hb0
  go_wp2_with fail
  refine (rformed_calls (t := b) (Tm.In_below (by go_grown) HU.out)).mono ?_
  rewrite [Hfb.out]
  rintro e w1 ⟨rfl, hb1⟩
  have HA : Hid _ := Lib.hid (HA0.out.gr hb1)
  have HB : Hid _ := Lib.hid (HB0.out.gr hb1)
  have HR : Hid _ := Lib.hid (HR0.out.gr hb1)
  have g1 : Gr w w1 := below_step hb1 (by go_grown)
  clear b0 b1 b2 b3 hb1 HA0 HB0 HR0
  obtain ⟨⟨a0, a1, a2, a3⟩, _, _⟩ := HA.out.parts
  go_wp2_with fail
  refine (reval_calls (t := a) (Tm.In_below (by go_grown) HT.out)).mono ?_
  clear a0 a1 a2 a3
  cases hea : evalT a.erase with
  | bad x =>
    rintro e w2 ⟨zb, hzi, hze, hzo, rfl, hb2⟩
    have HR2 := HR.out.gr hb2
    have hr1 := HR.out.parts.2.2
    obtain ⟨⟨y0, y1, y2, y3⟩, ⟨f0, f1, f2, f3⟩, hlt⟩ := HR2.parts
    have g2 : Gr w w2 := g1.trans hb2
    have Hzi := Lib.hid hzi
    have Hze := Lib.hid hze
    have Hzo := Lib.hid hzo
    have Hea := Lib.hid hea
    clear hzi hze hzo hb2 HR2 hea
    simp only [Tm.val]
    go_wp2_with fail
    go_region
    all_goals
      go_wp2_with fail
      refine bodyPost_ret (v := .tuple #[.bool false, zb.val, .int .i64 14]) (by simp (maxDischargeDepth := 9) [results, Try.results18, go_sem, Tm.val, hlt, y0, y1, y2, y3]) rfl ?_
      refine reth (x := false) (t := x) (n := 14) (by rw [← Hr.out, Hea.out, holdsE_bad1]) _ ?_ Hze.out rfl (by go_grown)
      exact in_after' Hzi.out Hzo.out fun b h1 h2 o => by
        rw [World.cell?_drew, World.cell?_alloc_past _ _ _ (by simpa using h2), cell_set_ne (by omega), cell_set_ne (by omega), cell_set_ne (by omega), cell_set_ne (by omega)]
  | ok m =>
    rintro e w2 ⟨rfl, hb2, hm⟩
    have HR2 : Hid _ := Lib.hid (HR.out.gr hb2)
    have HB2 : Hid _ := Lib.hid (HB.out.gr hb2)
    obtain ⟨⟨b0, b1, b2, b3⟩, _, hltb⟩ := HB2.out.parts
    have g2 : Gr w w2 := g1.trans hb2
    have Hm := Lib.hid hm
    have Hea := Lib.hid hea
    clear hm hb2 hea
    simp only [zeroTm_val]
    go_wp2_with fail
    refine (reval_calls (t := b) (Tm.In_below (by go_grown) HU.out)).mono ?_
    clear b0 b1 b2 b3
    have hs2 : w.heap.size + 1 + 1 < w2.heap.size := HR2.out.parts.2.2
    have HZ2 := Blk4.new w2 (.int .i64 0) (.int .i64 0) (.string ⟨#[]⟩) (.slice none 0 0)
    cases heb : evalT b.erase with
    | bad x =>
      rintro e w3 ⟨zb, hzi, hze, hzo, rfl, hb3⟩
      have HR3 := HR2.out.gr (show Gr w2 w3 from below_step hb3 (by go_grown))
      have HZ3 := HZ2.gr hb3
      obtain ⟨⟨y0, y1, y2, y3⟩, ⟨f0, f1, f2, f3⟩, hlt3⟩ := HR3.parts
      obtain ⟨⟨z0, z1, z2, z3⟩, ⟨e0, e1, e2, e3⟩, hltz⟩ := HZ3.parts
      have g3 : Gr w w3 := below_step hb3 (by go_grown)
      simp only [World.size_alloc] at hzo
      have Hzi := Lib.hid hzi
      have Hze := Lib.hid hze
      have Hzo := Lib.hid hzo
      have Heb := Lib.hid heb
      clear hzi hze hzo hb3 HR3 heb HZ2 HZ3
      simp only [Tm.val]
      go_wp2_with fail
      go_region
      all_goals
        go_wp2_with fail
        refine bodyPost_ret (v := .tuple #[.bool false, zb.val, .int .i64 14]) (by simp (maxDischargeDepth := 9) [results, Try.results18, go_sem, Tm.val, y0, y1, y2, y3]) rfl ?_
        refine reth (x := false) (t := x) (n := 14) (by rw [← Hr.out, Hea.out, Heb.out, holdsE_bad2]) _ ?_ Hze.out rfl (by go_grown)
        exact in_after' Hzi.out Hzo.out fun b h1 h2 o => by
          have h8 : b ≠ w2.heap.size := by omega
          have h9 : b ≠ w.heap.size + 1 + 1 := by omega
          rw [World.cell?_drew]
          simp only [cell_set_ne h8, cell_set_ne h9]
    | ok n =>
      rintro e w3 ⟨rfl, hb3, hn⟩
      have HR3 : Hid _ := Lib.hid (HR2.out.gr (show Gr w2 w3 from below_step hb3 (by go_grown)))
      have HZ3 := HZ2.gr hb3
      obtain ⟨⟨z0, z1, z2, z3⟩, ⟨e0, e1, e2, e3⟩, hltz⟩ := HZ3.parts
      have g3 : Gr w w3 := below_step hb3 (by go_grown)
      obtain ⟨⟨y0, y1, y2, y3⟩, ⟨f0, f1, f2, f3⟩, hlt3⟩ := HR3.out.parts
      have Heb := Lib.hid heb
      have Hn := Lib.hid hn
      clear hn hb3 heb HZ2 HZ3
      simp only [zeroTm_val]
      by_cases hlt1 : m < n
      · have hgt1 : ¬ n < m := by omega
        have hf : Hid (rEq m n = false) := (by rw [rEq]; exact decide_eq_false (by omega) : rEq m n = false)
        go_wp2_with fail
        refine bodyPost_ret (v := .tuple #[.bool false, zeroTm.val, .int .i64 0]) (by simp (maxDischargeDepth := 9) [results, Try.results18, go_sem, zeroTm_val, y0, y1, y2, y3] <;> omega) rfl ?_
        exact reth (x := false) (t := zeroT) (n := 0) (by rw [← Hr.out, Hea.out, Heb.out, holdsE_ok, hf.out]) _ (zeroTm_in _) zeroTm_erase rfl (by go_grown)
      · by_cases hgt1 : n < m
        · have hf : Hid (rEq m n = false) := (by rw [rEq]; exact decide_eq_false (by omega) : rEq m n = false)
          go_wp2_with fail
          refine bodyPost_ret (v := .tuple #[.bool false, zeroTm.val, .int .i64 0]) (by simp (maxDischargeDepth := 9) [results, Try.results18, go_sem, zeroTm_val, y0, y1, y2, y3] <;> omega) rfl ?_
          exact reth (x := false) (t := zeroT) (n := 0) (by rw [← Hr.out, Hea.out, Heb.out, holdsE_ok, hf.out]) _ (zeroTm_in _) zeroTm_erase rfl (by go_grown)
        · have hf : Hid (rEq m n = true) := (by rw [rEq]; exact decide_eq_true (by omega) : rEq m n = true)
          go_wp2_with fail
          refine bodyPost_ret (v := .tuple #[.bool true, zeroTm.val, .int .i64 0]) (by simp (maxDischargeDepth := 9) [results, Try.results18, go_sem, zeroTm_val, y0, y1, y2, y3] <;> omega) rfl ?_
          exact reth (x := true) (t := zeroT) (n := 0) (by rw [← Hr.out, Hea.out, Heb.out, holdsE_ok, hf.out]) _ (zeroTm_in _) zeroTm_erase rfl (by go_grown)
set_option maxHeartbeats 4000000 in
set_option maxRecDepth 100000 in
theorem rholds_1 (s : ByteArray) (a b : Tm) (w : World) (ha : a.In w) (hb : b.In w) (hfa : a.erase.formed = true) (hfb : b.erase.formed = true) (hs : s.toList = [61, 92, 61]) :
    Calls Try.prog 18 #[.string s, a.val, b.val] w (RetH (holdsE rNe (evalT a.erase) (evalT b.erase)) w) := by
  generalize hr : holdsE rNe (evalT a.erase) (evalT b.erase) = r
  have Hr := Lib.hid hr
  clear hr
  have HT := Lib.hid ha
  have HU := Lib.hid hb
  have Hfa := Lib.hid hfa
  have Hfb := Lib.hid hfb
  clear ha hb hfa hfb
  simp only [Tm.val]
  go_enter Try.func18, Try.ntmps18
  try simp only [List.append_eq, List.cons_append, List.nil_append]
  go_wp2_with fail
  refine (rformed_calls (t := a) (Tm.In_below (by go_grown) HT.out)).mono ?_
  rewrite [Hfa.out]
  rintro e w0 ⟨rfl, hb0⟩
  have HA0 : Hid (Blk4 w0 w.heap.size (.int .i64 a.k) (.int .i64 a.n) (.string a.s) (.slice a.p a.l.length a.c)) := (Blk4.old (Blk4.old (Blk4.new w _ _ _ _) _) _).gr hb0
  have HB0 : Hid (Blk4 w0 (w.heap.size + 1) (.int .i64 b.k) (.int .i64 b.n) (.string b.s) (.slice b.p b.l.length b.c)) := (Blk4.old (by have := Blk4.new (w.alloc (.cells #[.int .i64 a.k, .int .i64 a.n, .string a.s, .slice a.p a.l.length a.c] 28)) (.int .i64 b.k) (.int .i64 b.n) (.string b.s) (.slice b.p b.l.length b.c); simpa only [World.size_alloc] using this) _).gr hb0
  have HR0 : Hid (Blk4 w0 (w.heap.size + 1 + 1) (.int .i64 0) (.int .i64 0) (.string ⟨#[]⟩) (.slice none 0 0)) := Blk4.gr (by have := Blk4.new ((w.alloc (.cells #[.int .i64 a.k, .int .i64 a.n, .string a.s, .slice a.p a.l.length a.c] 28)).alloc (.cells #[.int .i64 b.k, .int .i64 b.n, .string b.s, .slice b.p b.l.length b.c] 28)) (.int .i64 0) (.int .i64 0) (.string ⟨#[]⟩) (.slice none 0 0); simpa only [World.size_alloc] using this) hb0
  have g0 : Gr w w0 := below_step hb0 (by go_grown)
  obtain ⟨⟨b0, b1, b2, b3⟩, _, _⟩ := HB0.out.parts
  clear hb0
  go_wp2_with fail
  refine (rformed_calls (t := b) (Tm.In_below (by go_grown) HU.out)).mono ?_
  rewrite [Hfb.out]
  rintro e w1 ⟨rfl, hb1⟩
  have HA : Hid _ := Lib.hid (HA0.out.gr hb1)
  have HB : Hid _ := Lib.hid (HB0.out.gr hb1)
  have HR : Hid _ := Lib.hid (HR0.out.gr hb1)
  have g1 : Gr w w1 := below_step hb1 (by go_grown)
  clear b0 b1 b2 b3 hb1 HA0 HB0 HR0
  obtain ⟨⟨a0, a1, a2, a3⟩, _, _⟩ := HA.out.parts
  go_wp2_with fail
  refine (reval_calls (t := a) (Tm.In_below (by go_grown) HT.out)).mono ?_
  clear a0 a1 a2 a3
  cases hea : evalT a.erase with
  | bad x =>
    rintro e w2 ⟨zb, hzi, hze, hzo, rfl, hb2⟩
    have HR2 := HR.out.gr hb2
    have hr1 := HR.out.parts.2.2
    obtain ⟨⟨y0, y1, y2, y3⟩, ⟨f0, f1, f2, f3⟩, hlt⟩ := HR2.parts
    have g2 : Gr w w2 := g1.trans hb2
    have Hzi := Lib.hid hzi
    have Hze := Lib.hid hze
    have Hzo := Lib.hid hzo
    have Hea := Lib.hid hea
    clear hzi hze hzo hb2 HR2 hea
    simp only [Tm.val]
    go_wp2_with fail
    go_region
    all_goals
      go_wp2_with fail
      refine bodyPost_ret (v := .tuple #[.bool false, zb.val, .int .i64 14]) (by simp (maxDischargeDepth := 9) [results, Try.results18, go_sem, Tm.val, hlt, y0, y1, y2, y3]) rfl ?_
      refine reth (x := false) (t := x) (n := 14) (by rw [← Hr.out, Hea.out, holdsE_bad1]) _ ?_ Hze.out rfl (by go_grown)
      exact in_after' Hzi.out Hzo.out fun b h1 h2 o => by
        rw [World.cell?_drew, World.cell?_alloc_past _ _ _ (by simpa using h2), cell_set_ne (by omega), cell_set_ne (by omega), cell_set_ne (by omega), cell_set_ne (by omega)]
  | ok m =>
    rintro e w2 ⟨rfl, hb2, hm⟩
    have HR2 : Hid _ := Lib.hid (HR.out.gr hb2)
    have HB2 : Hid _ := Lib.hid (HB.out.gr hb2)
    obtain ⟨⟨b0, b1, b2, b3⟩, _, hltb⟩ := HB2.out.parts
    have g2 : Gr w w2 := g1.trans hb2
    have Hm := Lib.hid hm
    have Hea := Lib.hid hea
    clear hm hb2 hea
    simp only [zeroTm_val]
    go_wp2_with fail
    refine (reval_calls (t := b) (Tm.In_below (by go_grown) HU.out)).mono ?_
    clear b0 b1 b2 b3
    have hs2 : w.heap.size + 1 + 1 < w2.heap.size := HR2.out.parts.2.2
    have HZ2 := Blk4.new w2 (.int .i64 0) (.int .i64 0) (.string ⟨#[]⟩) (.slice none 0 0)
    cases heb : evalT b.erase with
    | bad x =>
      rintro e w3 ⟨zb, hzi, hze, hzo, rfl, hb3⟩
      have HR3 := HR2.out.gr (show Gr w2 w3 from below_step hb3 (by go_grown))
      have HZ3 := HZ2.gr hb3
      obtain ⟨⟨y0, y1, y2, y3⟩, ⟨f0, f1, f2, f3⟩, hlt3⟩ := HR3.parts
      obtain ⟨⟨z0, z1, z2, z3⟩, ⟨e0, e1, e2, e3⟩, hltz⟩ := HZ3.parts
      have g3 : Gr w w3 := below_step hb3 (by go_grown)
      simp only [World.size_alloc] at hzo
      have Hzi := Lib.hid hzi
      have Hze := Lib.hid hze
      have Hzo := Lib.hid hzo
      have Heb := Lib.hid heb
      clear hzi hze hzo hb3 HR3 heb HZ2 HZ3
      simp only [Tm.val]
      go_wp2_with fail
      go_region
      all_goals
        go_wp2_with fail
        refine bodyPost_ret (v := .tuple #[.bool false, zb.val, .int .i64 14]) (by simp (maxDischargeDepth := 9) [results, Try.results18, go_sem, Tm.val, y0, y1, y2, y3]) rfl ?_
        refine reth (x := false) (t := x) (n := 14) (by rw [← Hr.out, Hea.out, Heb.out, holdsE_bad2]) _ ?_ Hze.out rfl (by go_grown)
        exact in_after' Hzi.out Hzo.out fun b h1 h2 o => by
          have h8 : b ≠ w2.heap.size := by omega
          have h9 : b ≠ w.heap.size + 1 + 1 := by omega
          rw [World.cell?_drew]
          simp only [cell_set_ne h8, cell_set_ne h9]
    | ok n =>
      rintro e w3 ⟨rfl, hb3, hn⟩
      have HR3 : Hid _ := Lib.hid (HR2.out.gr (show Gr w2 w3 from below_step hb3 (by go_grown)))
      have HZ3 := HZ2.gr hb3
      obtain ⟨⟨z0, z1, z2, z3⟩, ⟨e0, e1, e2, e3⟩, hltz⟩ := HZ3.parts
      have g3 : Gr w w3 := below_step hb3 (by go_grown)
      obtain ⟨⟨y0, y1, y2, y3⟩, ⟨f0, f1, f2, f3⟩, hlt3⟩ := HR3.out.parts
      have Heb := Lib.hid heb
      have Hn := Lib.hid hn
      clear hn hb3 heb HZ2 HZ3
      simp only [zeroTm_val]
      by_cases hlt1 : m < n
      · have hgt1 : ¬ n < m := by omega
        have hf : Hid (rNe m n = true) := (by rw [rNe]; exact decide_eq_true (by omega) : rNe m n = true)
        go_wp2_with fail
        refine bodyPost_ret (v := .tuple #[.bool true, zeroTm.val, .int .i64 0]) (by simp (maxDischargeDepth := 9) [results, Try.results18, go_sem, zeroTm_val, y0, y1, y2, y3] <;> omega) rfl ?_
        exact reth (x := true) (t := zeroT) (n := 0) (by rw [← Hr.out, Hea.out, Heb.out, holdsE_ok, hf.out]) _ (zeroTm_in _) zeroTm_erase rfl (by go_grown)
      · by_cases hgt1 : n < m
        · have hf : Hid (rNe m n = true) := (by rw [rNe]; exact decide_eq_true (by omega) : rNe m n = true)
          go_wp2_with fail
          refine bodyPost_ret (v := .tuple #[.bool true, zeroTm.val, .int .i64 0]) (by simp (maxDischargeDepth := 9) [results, Try.results18, go_sem, zeroTm_val, y0, y1, y2, y3] <;> omega) rfl ?_
          exact reth (x := true) (t := zeroT) (n := 0) (by rw [← Hr.out, Hea.out, Heb.out, holdsE_ok, hf.out]) _ (zeroTm_in _) zeroTm_erase rfl (by go_grown)
        · have hf : Hid (rNe m n = false) := (by rw [rNe]; exact decide_eq_false (by omega) : rNe m n = false)
          go_wp2_with fail
          refine bodyPost_ret (v := .tuple #[.bool false, zeroTm.val, .int .i64 0]) (by simp (maxDischargeDepth := 9) [results, Try.results18, go_sem, zeroTm_val, y0, y1, y2, y3] <;> omega) rfl ?_
          exact reth (x := false) (t := zeroT) (n := 0) (by rw [← Hr.out, Hea.out, Heb.out, holdsE_ok, hf.out]) _ (zeroTm_in _) zeroTm_erase rfl (by go_grown)

end Go.Proofs.Ytgaijgadeodoeaa
