/-
  arith.Holds, hornref.Holds, joined; hornlaw.ArithHolds: the walk
-/
import Derived.Test.YtgaijgadeodoeaaH2
import Derived.Test.YtgaijgadeodoeaaH2a
import Derived.Test.YtgaijgadeodoeaaH2b
import Derived.Test.YtgaijgadeodoeaaH2c
import Derived.Test.YtgaijgadeodoeaaH3
import Derived.Test.YtgaijgadeodoeaaH3a
import Derived.Test.YtgaijgadeodoeaaH3b
import Derived.Test.YtgaijgadeodoeaaF7
namespace Go.Proofs.Ytgaijgadeodoeaa
open Go.RowKit

theorem holds_calls (s : ByteArray) (a b : Tm) (w : World) (ha : a.In w) (hb : b.In w) : Calls Try.prog 17 #[.string s, a.val, b.val] w (RetH (holdsT s.toList a.erase b.erase) w) := by
  rw [holdsT]
  cases hfa : a.erase.formed with
  | false => rw [Bool.false_and, if_neg (by decide)]; exact holds_bad s a b w ha hb (by rw [hfa]; rfl)
  | true =>
  cases hfb : b.erase.formed with
  | false => rw [Bool.and_false, if_neg (by decide)]; exact holds_bad s a b w ha hb (by rw [hfb, Bool.and_false])
  | true =>
    rw [if_pos (by first | rfl | (rw [hfa, hfb]; rfl))]
    by_cases e0 : s.toList = [61, 58, 61]
    · rw [show relOf s.toList = some rEq by rw [e0]; rfl]
      exact holds_0 s a b w ha hb hfa hfb e0
    by_cases e1 : s.toList = [61, 92, 61]
    · rw [show relOf s.toList = some rNe by rw [e1]; rfl]
      exact holds_1 s a b w ha hb hfa hfb e1
    by_cases e2 : s.toList = [60]
    · rw [show relOf s.toList = some rLt by rw [e2]; rfl]
      exact holds_2 s a b w ha hb hfa hfb e2
    by_cases e3 : s.toList = [62]
    · rw [show relOf s.toList = some rGt by rw [e3]; rfl]
      exact holds_3 s a b w ha hb hfa hfb e3
    by_cases e4 : s.toList = [61, 60]
    · rw [show relOf s.toList = some rLe by rw [e4]; rfl]
      exact holds_4 s a b w ha hb hfa hfb e4
    by_cases e5 : s.toList = [62, 61]
    · rw [show relOf s.toList = some rGe by rw [e5]; rfl]
      exact holds_5 s a b w ha hb hfa hfb e5
    · have hn : relOf s.toList = none := by rw [relOf, if_neg e0, if_neg e1, if_neg e2, if_neg e3, if_neg e4, if_neg e5]
      rw [hn]
      exact holds_none s a b w ha hb hfa hfb hn

theorem rholds_calls (s : ByteArray) (a b : Tm) (w : World) (ha : a.In w) (hb : b.In w) : Calls Try.prog 18 #[.string s, a.val, b.val] w (RetH (holdsT s.toList a.erase b.erase) w) := by
  rw [holdsT]
  cases hfa : a.erase.formed with
  | false => rw [Bool.false_and, if_neg (by decide)]; exact rholds_bad1 s a b w ha hfa
  | true =>
  cases hfb : b.erase.formed with
  | false => rw [Bool.and_false, if_neg (by decide)]; exact rholds_bad2 s a b w ha hb hfa hfb
  | true =>
    rw [if_pos (by first | rfl | (rw [hfa, hfb]; rfl))]
    by_cases e0 : s.toList = [61, 58, 61]
    · rw [show relOf s.toList = some rEq by rw [e0]; rfl]
      exact rholds_0 s a b w ha hb hfa hfb e0
    by_cases e1 : s.toList = [61, 92, 61]
    · rw [show relOf s.toList = some rNe by rw [e1]; rfl]
      exact rholds_1 s a b w ha hb hfa hfb e1
    by_cases e2 : s.toList = [60]
    · rw [show relOf s.toList = some rLt by rw [e2]; rfl]
      exact rholds_2 s a b w ha hb hfa hfb e2
    by_cases e3 : s.toList = [62]
    · rw [show relOf s.toList = some rGt by rw [e3]; rfl]
      exact rholds_3 s a b w ha hb hfa hfb e3
    by_cases e4 : s.toList = [61, 60]
    · rw [show relOf s.toList = some rLe by rw [e4]; rfl]
      exact rholds_4 s a b w ha hb hfa hfb e4
    by_cases e5 : s.toList = [62, 61]
    · rw [show relOf s.toList = some rGe by rw [e5]; rfl]
      exact rholds_5 s a b w ha hb hfa hfb e5
    · have hn : relOf s.toList = none := by rw [relOf, if_neg e0, if_neg e1, if_neg e2, if_neg e3, if_neg e4, if_neg e5]
      rw [hn]
      exact rholds_none s a b w ha hb hfa hfb hn



set_option maxHeartbeats 1000000 in
set_option maxRecDepth 100000 in
theorem arithHolds_walk (s : ByteArray) (a b : Tm) (w : World) (_hs : s.size ≤ 140737488351232) (ha : a.In w) (hb : b.In w) : Calls Try.prog 7 #[.string s, a.val, b.val] w (Ret (.bool true) w) := by
  have HT := Lib.hid ha
  have HU := Lib.hid hb
  clear ha hb
  generalize hr : holdsT s.toList a.erase b.erase = r
  have Hr := Lib.hid hr
  clear hr
  obtain ⟨x, bt, n⟩ := r
  simp only [Tm.val]
  go_enter Try.func7, Try.ntmps7
  go_wp2_with fail
  refine (holds_calls s a b _ (Tm.In_below (by go_grown) HT.out) (Tm.In_below (by go_grown) HU.out)).mono ?_
  rw [Hr.out]
  rintro e w1 ⟨zb, hzi, hze, rfl, hb1⟩
  have HA : Hid (Blk4 w1 w.heap.size (.int .i64 a.k) (.int .i64 a.n) (.string a.s) (.slice a.p a.l.length a.c)) := (Blk4.old (Blk4.new w _ _ _ _) _).gr hb1
  have HB : Hid (Blk4 w1 (w.heap.size + 1) (.int .i64 b.k) (.int .i64 b.n) (.string b.s) (.slice b.p b.l.length b.c)) := Blk4.gr (by have := Blk4.new (w.alloc (.cells #[.int .i64 a.k, .int .i64 a.n, .string a.s, .slice a.p a.l.length a.c] 28)) (.int .i64 b.k) (.int .i64 b.n) (.string b.s) (.slice b.p b.l.length b.c); simpa only [World.size_alloc] using this) hb1
  have g1 : Gr w w1 := below_step hb1 (by go_grown)
  obtain ⟨⟨a0, a1, a2, a3⟩, _, hlta⟩ := HA.out.parts
  obtain ⟨⟨b0, b1, b2, b3⟩, _, hltb⟩ := HB.out.parts
  have Hzi := Lib.hid hzi
  have Hze := Lib.hid hze
  clear hzi hze hb1
  simp only [Tm.val]
  go_wp2_with fail
  refine (rholds_calls s a b _ (Tm.In_below (by go_grown) HT.out) (Tm.In_below (by go_grown) HU.out)).mono ?_
  rw [Hr.out]
  rintro e w2 ⟨tb, hti, hte, rfl, hb2⟩
  have HZ : Hid (Blk4 w2 w1.heap.size (.int .i64 zb.k) (.int .i64 zb.n) (.string zb.s) (.slice zb.p zb.l.length zb.c)) := (Blk4.new w1 _ _ _ _).gr hb2
  have g2 : Gr w1 w2 := below_step hb2 (by go_grown)
  have g02 : Gr w w2 := g1.trans g2
  obtain ⟨⟨z0, z1, z2, z3⟩, _, hltz⟩ := HZ.out.parts
  have Hti := Lib.hid hti
  have Hte := Lib.hid hte
  clear a0 a1 a2 a3 b0 b1 b2 b3 hti hte hb2
  simp only [Tm.val]
  go_wp2_with fail
  refine (same_calls (t := zb) (u := tb) (Tm.In_below (by go_grown) Hzi.out) (Tm.In_below (by go_grown) Hti.out)).mono ?_
  rw [Hze.out, Hte.out, T.same_self]
  rintro e w3 ⟨rfl, hb3⟩
  have g3 : Gr w w3 := below_step hb3 (by go_grown)
  clear z0 z1 z2 z3 hb3
  go_wp2_with fail
  go_ret
  exact ret_bool rfl (by go_grown)

end Go.Proofs.Ytgaijgadeodoeaa
