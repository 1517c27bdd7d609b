/-
  hornkeep.TermOrder: the walk
-/
import Derived.Test.YtgaijgadeodoeaaT6
import Derived.Test.YtgaijgadeodoeaaT3
import Derived.Test.YtgaijgadeodoeaaP1
namespace Go.Proofs.Ytgaijgadeodoeaa
open Go.RowKit

theorem order_law {a b c : T} (ha : a.formed = true) (hb : b.formed = true) :
    T.order b a = -T.order a b ∧ (-1 ≤ T.order a b ∧ T.order a b ≤ 1) ∧ ((T.order a b == 0) = T.same a b) ∧ (T.order a b ≤ 0 → T.order b c ≤ 0 → T.order a c ≤ 0 ∧ (T.order a c = 0 → T.order a b = 0 ∧ T.order b c = 0)) := by
  refine ⟨order_neg a b, order_range a b, ?_, (order_tri a b c).le⟩
  have h1 := order_zero a b ha hb
  have h2 := same_iff a b
  by_cases h : a = b
  · rw [h2.2 h, h1.2 h]; rfl
  · have h3 : T.order a b ≠ 0 := fun e => h (h1.1 e)
    have h4 : T.same a b = false := by
      rw [Bool.eq_false_iff]; exact fun e => h (h2.1 e)
    rw [h4]
    exact beq_eq_false_iff_ne.2 h3

set_option maxHeartbeats 1000000 in
set_option maxRecDepth 100000 in
theorem termOrder_walk (a b c : Tm) (w : World) (ha : a.In w) (hb : b.In w) (hc : c.In w) :
    Calls Try.prog 4 #[a.val, b.val, c.val] w (Ret (.bool true) w) := by
  have HA := Lib.hid ha
  have HB := Lib.hid hb
  have HC := Lib.hid hc
  clear ha hb hc
  generalize hfa : a.erase.formed = fa
  have Hfa := Lib.hid hfa
  generalize hfb : b.erase.formed = fb
  have Hfb := Lib.hid hfb
  generalize hfc : c.erase.formed = fc
  have Hfc := Lib.hid hfc
  clear hfa hfb hfc
  simp only [Tm.val]
  go_enter Try.func4, Try.ntmps4
  go_wp2_with fail
  refine (rformed_calls (t := a) (Tm.In_below (by go_grown) HA.out)).mono ?_
  rintro e w1 ⟨rfl, hb1⟩
  rw [Hfa.out]
  obtain ⟨a0, a1, a2, a3⟩ : Boxed w1 w.heap.size a := Boxed.gr hb1 ⟨by go_cell, by go_cell, by go_cell, by go_cell⟩
  obtain ⟨b0, b1, b2, b3⟩ : Boxed w1 (w.heap.size + 1) b := Boxed.gr hb1 ⟨by go_cell, by go_cell, by go_cell, by go_cell⟩
  obtain ⟨c0, c1, c2, c3⟩ : Boxed w1 (w.heap.size + 1 + 1) c := Boxed.gr hb1 ⟨by go_cell, by go_cell, by go_cell, by go_cell⟩
  have g1 : Gr w w1 := below_step hb1 (by go_grown)
  clear hb1
  cases fa
  · go_wp2_with fail
    go_ret
    exact ret_bool rfl g1
  go_wp2_with fail
  refine (rformed_calls (t := b) (Tm.In_below g1 HB.out)).mono ?_
  rintro e w2 ⟨rfl, hb2⟩
  rw [Hfb.out]
  replace a0 := Gr.at hb2 a0; replace a1 := Gr.at hb2 a1; replace a2 := Gr.at hb2 a2; replace a3 := Gr.at hb2 a3
  replace b0 := Gr.at hb2 b0; replace b1 := Gr.at hb2 b1; replace b2 := Gr.at hb2 b2; replace b3 := Gr.at hb2 b3
  replace c0 := Gr.at hb2 c0; replace c1 := Gr.at hb2 c1; replace c2 := Gr.at hb2 c2; replace c3 := Gr.at hb2 c3
  have g2 : Gr w w2 := g1.trans hb2
  clear hb2
  cases fb
  · go_wp2_with fail
    go_ret
    exact ret_bool rfl g2
  go_wp2_with fail
  refine (rformed_calls (t := c) (Tm.In_below g2 HC.out)).mono ?_
  rintro e w3 ⟨rfl, hb3⟩
  rw [Hfc.out]
  replace a0 := Gr.at hb3 a0; replace a1 := Gr.at hb3 a1; replace a2 := Gr.at hb3 a2; replace a3 := Gr.at hb3 a3
  replace b0 := Gr.at hb3 b0; replace b1 := Gr.at hb3 b1; replace b2 := Gr.at hb3 b2; replace b3 := Gr.at hb3 b3
  replace c0 := Gr.at hb3 c0; replace c1 := Gr.at hb3 c1; replace c2 := Gr.at hb3 c2; replace c3 := Gr.at hb3 c3
  have g3 : Gr w w3 := g2.trans hb3
  clear hb3
  cases fc
  · go_wp2_with fail
    go_ret
    exact ret_bool rfl g3
  obtain ⟨l1, l2, l3, l4⟩ := order_law (c := c.erase) Hfa.out Hfb.out
  generalize hx : T.order a.erase b.erase = x at *
  generalize hy : T.order b.erase a.erase = y at *
  generalize hz : T.order b.erase c.erase = z at *
  generalize hv : T.order a.erase c.erase = v at *
  generalize hs : T.same a.erase b.erase = sb at *
  have Hx := Lib.hid hx
  have Hy := Lib.hid hy
  have Hz := Lib.hid hz
  have Hv := Lib.hid hv
  have Hs := Lib.hid hs
  have L3 := Lib.hid l3
  have L4 := Lib.hid l4
  have hxy : (x != -y) = false := by rw [l1]; simp
  obtain ⟨lo, hi⟩ := l2
  have ylo : -1 ≤ y := by omega
  have yhi : y ≤ 1 := by omega
  clear hx hy hz hv hs l1 l3 l4
  go_wp2_with fail
  refine (compare_yes (t := a) (u := b) (Tm.In_below g3 HA.out) (Tm.In_below g3 HB.out) Hfa.out Hfb.out).mono ?_
  rintro e w4 ⟨rfl, hb4⟩
  rw [Hx.out]
  replace a0 := Gr.at hb4 a0; replace a1 := Gr.at hb4 a1; replace a2 := Gr.at hb4 a2; replace a3 := Gr.at hb4 a3
  replace b0 := Gr.at hb4 b0; replace b1 := Gr.at hb4 b1; replace b2 := Gr.at hb4 b2; replace b3 := Gr.at hb4 b3
  replace c0 := Gr.at hb4 c0; replace c1 := Gr.at hb4 c1; replace c2 := Gr.at hb4 c2; replace c3 := Gr.at hb4 c3
  have g4 : Gr w w4 := g3.trans hb4
  clear hb4
  go_wp2_with fail
  refine (compare_yes (t := b) (u := a) (Tm.In_below g4 HB.out) (Tm.In_below g4 HA.out) Hfb.out Hfa.out).mono ?_
  rintro e w5 ⟨rfl, hb5⟩
  rw [Hy.out]
  replace a0 := Gr.at hb5 a0; replace a1 := Gr.at hb5 a1; replace a2 := Gr.at hb5 a2; replace a3 := Gr.at hb5 a3
  replace b0 := Gr.at hb5 b0; replace b1 := Gr.at hb5 b1; replace b2 := Gr.at hb5 b2; replace b3 := Gr.at hb5 b3
  replace c0 := Gr.at hb5 c0; replace c1 := Gr.at hb5 c1; replace c2 := Gr.at hb5 c2; replace c3 := Gr.at hb5 c3
  have g5 : Gr w w5 := g4.trans hb5
  clear hb5
  go_wp2_with fail
  refine (compare_yes (t := b) (u := c) (Tm.In_below g5 HB.out) (Tm.In_below g5 HC.out) Hfb.out Hfc.out).mono ?_
  rintro e w6 ⟨rfl, hb6⟩
  rw [Hz.out]
  replace a0 := Gr.at hb6 a0; replace a1 := Gr.at hb6 a1; replace a2 := Gr.at hb6 a2; replace a3 := Gr.at hb6 a3
  replace b0 := Gr.at hb6 b0; replace b1 := Gr.at hb6 b1; replace b2 := Gr.at hb6 b2; replace b3 := Gr.at hb6 b3
  replace c0 := Gr.at hb6 c0; replace c1 := Gr.at hb6 c1; replace c2 := Gr.at hb6 c2; replace c3 := Gr.at hb6 c3
  have g6 : Gr w w6 := g5.trans hb6
  clear hb6
  go_wp2_with fail
  refine (compare_yes (t := a) (u := c) (Tm.In_below g6 HA.out) (Tm.In_below g6 HC.out) Hfa.out Hfc.out).mono ?_
  rintro e w7 ⟨rfl, hb7⟩
  rw [Hv.out]
  replace a0 := Gr.at hb7 a0; replace a1 := Gr.at hb7 a1; replace a2 := Gr.at hb7 a2; replace a3 := Gr.at hb7 a3
  replace b0 := Gr.at hb7 b0; replace b1 := Gr.at hb7 b1; replace b2 := Gr.at hb7 b2; replace b3 := Gr.at hb7 b3
  replace c0 := Gr.at hb7 c0; replace c1 := Gr.at hb7 c1; replace c2 := Gr.at hb7 c2; replace c3 := Gr.at hb7 c3
  have g7 : Gr w w7 := g6.trans hb7
  clear hb7
  go_wp2_with fail
  refine (same_calls (t := a) (u := b) (Tm.In_below g7 HA.out) (Tm.In_below g7 HB.out)).mono ?_
  rintro e w8 ⟨rfl, hb8⟩
  rw [Hs.out]
  replace a0 := Gr.at hb8 a0; replace a1 := Gr.at hb8 a1; replace a2 := Gr.at hb8 a2; replace a3 := Gr.at hb8 a3
  replace b0 := Gr.at hb8 b0; replace b1 := Gr.at hb8 b1; replace b2 := Gr.at hb8 b2; replace b3 := Gr.at hb8 b3
  replace c0 := Gr.at hb8 c0; replace c1 := Gr.at hb8 c1; replace c2 := Gr.at hb8 c2; replace c3 := Gr.at hb8 c3
  have g8 : Gr w w8 := g7.trans hb8
  clear hb8
  have hs0 : (!((x == 0) == sb)) = false := by rw [L3.out]; cases sb <;> rfl
  go_wp2_with fail
  all_goals first
    | (exfalso
       have h8 : (x < -1 ∨ 1 < x) ∨ (!((x == 0) == sb)) = true := by assumption
       rw [hs0] at h8
       simp at h8
       omega)
    | (go_ret
       refine ret_bool ?_ g8
       have h9 := L4.out
       first | rfl | (simp; omega))
end Go.Proofs.Ytgaijgadeodoeaa
