/-
  hornkeep.ArithFolds: the walk
-/
import Derived.Test.YtgaijgadeodoeaaG3
import Derived.Test.YtgaijgadeodoeaaG4
namespace Go.Proofs.Ytgaijgadeodoeaa
open Go.RowKit

theorem varT_formed {n : Int} (h0 : 0 ≤ n) (h1 : n ≤ 1099511627776) : (varT n).formed = true := by
  rw [varT, T.formed]
  simp [h0, h1]

theorem lookupT_formed : ∀ {l : List Bd}, (∀ y ∈ l, y.t.erase.formed = true) → ∀ n, 0 ≤ n → n ≤ 1099511627776 → (lookupT l n).formed = true
  | [], _, n, h0, h1 => by rw [lookupT]; exact varT_formed h0 h1
  | x :: xs, h, n, h0, h1 => by
    rw [lookupT]
    split
    · exact h x (List.mem_cons_self ..)
    · exact lookupT_formed (fun y hy => h y (List.mem_cons_of_mem _ hy)) n h0 h1

set_option maxHeartbeats 4000000 in
set_option maxRecDepth 100000 in
theorem arithFolds_walk (t : Tm) (x : Bds) (w : World) (h : t.In w) (hx : x.In w) : Calls Try.prog 8 #[t.val, x.val] w (Ret (.bool true) w) := by
  have H := Lib.hid h
  have HX := Lib.hid hx
  obtain ⟨p, c, l⟩ := x
  clear h hx
  simp only [Tm.val, Bds.val]
  go_enter Try.func8, Try.ntmps8
  go_wp2_with fail
  refine (thereArith_calls _).mono ?_
  rintro e w1 ⟨rfl, hb1⟩
  have HB : Hid (Blk4 w1 w.heap.size (.int .i64 t.k) (.int .i64 t.n) (.string t.s) (.slice t.p t.l.length t.c)) := (Blk4.new w _ _ _ _).gr hb1
  have g1 : Gr w w1 := below_step hb1 (by go_grown)
  obtain ⟨⟨b0, b1, b2, b3⟩, _, hlt0⟩ := HB.out.parts
  clear hb1
  go_wp2_with fail
  refine (rformed_calls (t := t) (Tm.In_below (by go_grown) H.out)).mono ?_
  cases hf : t.erase.formed with
  | false =>
    rintro e w2 ⟨rfl, hb2⟩
    have g2 : Gr w w2 := g1.trans hb2
    clear b0 b1 b2 b3 hb2 hf
    go_wp2_with fail
    go_ret
    exact ret_bool rfl (by go_grown)
  | true =>
    rintro e w2 ⟨rfl, hb2⟩
    have g2 : Gr w w2 := g1.trans hb2
    have HB2 := Lib.hid (HB.out.gr hb2)
    have Hf := Lib.hid hf
    clear b0 b1 b2 b3 hb2 hf
    go_wp2_with fail
    refine (rbinds_calls p c l _ (HX.out.mono (by go_grown))).mono ?_
    rintro e w3 ⟨n, rfl, hall, hb3⟩
    have g3 : Gr w w3 := g2.trans hb3
    have HB3 := Lib.hid (HB2.out.gr hb3)
    clear hb3
    by_cases hn : n = 0
    · subst hn
      have Hall := Lib.hid (hall rfl)
      clear hall
      obtain ⟨⟨b0, b1, b2, b3⟩, _, hlt3⟩ := HB3.out.parts
      go_wp2_with fail
      refine (Fold_calls (t := t) (Tm.In_below (by go_grown) H.out)).mono ?_
      rw [Hf.out]
      rintro e w4 ⟨fb, hfi, hfe, rfl, hb4, hfo⟩
      have g34 : Gr w3 w4 := hb4
      have g4 : Gr w w4 := g3.trans hb4
      have HB4 := Lib.hid (HB3.out.gr hb4)
      have Hfi := Lib.hid hfi
      have Hfe := Lib.hid (show fb.erase = T.fold t.erase from hfe)
      clear b0 b1 b2 b3 hfi hfe hfo hb4
      obtain ⟨⟨b0, b1, b2, b3⟩, _, hlt4⟩ := HB4.out.parts
      simp only [Tm.val]
      go_wp2_with fail
      refine (rapply_calls (t := t) (x := ⟨p, c, l⟩) (Tm.In_below (by go_grown) H.out) Hf.out (HX.out.mono (by go_grown))).mono ?_
      rintro e w5 ⟨am, hai, hae, rfl, hb5, hao⟩
      have g45 : Gr w4 w5 := below_step hb5 (by go_grown)
      have g5 : Gr w w5 := g4.trans g45
      have HF5 : Hid (Blk4 w5 w4.heap.size (.int .i64 fb.k) (.int .i64 fb.n) (.string fb.s) (.slice fb.p fb.l.length fb.c)) := (Blk4.new w4 _ _ _ _).gr hb5
      have Hai := Lib.hid hai
      have Hae := Lib.hid hae
      clear b0 b1 b2 b3 hai hae hao hb5
      simp only [Tm.val]
      go_wp2_with fail
      refine (Eval_calls (t := am) Hai.out).mono ?_
      have hre : Hid (evalR (T.map (lookupT l) (T.fold t.erase)) = evalR (T.map (lookupT l) t.erase)) := evalR_map_fold _ (lookupT_formed Hall.out) Hf.out
      rw [Hae.out]
      generalize hrr : evalR (T.map (lookupT l) t.erase) = rr at *
      obtain ⟨rn, rb, re⟩ := rr
      rintro e w6 ⟨ba, hbi, hbe, _, rfl, hb6⟩
      have g6 : Gr w w6 := g5.trans hb6
      have g46 : Gr w4 w6 := g45.trans hb6
      have HF6 := Lib.hid (HF5.out.gr hb6)
      have Hbi := Lib.hid hbi
      have Hbe := Lib.hid hbe
      clear hbi hbe hb6 hrr
      obtain ⟨⟨z0, z1, z2, z3⟩, _, hlt6⟩ := HF6.out.parts
      simp only [Tm.val]
      go_wp2_with fail
      have hfx : Hid ((T.fold t.erase).formed = true) := T.formed_fold _ _ (Nat.le_refl _) Hf.out
      refine (rapply_calls (t := fb) (x := ⟨p, c, l⟩) (Tm.In_below (by go_grown) Hfi.out) (by rw [Hfe.out]; exact hfx.out) (HX.out.mono (by go_grown))).mono ?_
      rw [Hfe.out]
      rintro e w7 ⟨am2, hai2, hae2, rfl, hb7, hao2⟩
      have g67 : Gr w6 w7 := below_step hb7 (by go_grown)
      have g7 : Gr w w7 := g6.trans g67
      have HA7 : Hid (Blk4 w7 w6.heap.size (.int .i64 ba.k) (.int .i64 ba.n) (.string ba.s) (.slice ba.p ba.l.length ba.c)) := (Blk4.new w6 _ _ _ _).gr hb7
      have Hai2 := Lib.hid hai2
      have Hae2 := Lib.hid hae2
      clear z0 z1 z2 z3 hai2 hae2 hao2 hb7
      simp only [Tm.val]
      go_wp2_with fail
      refine (Eval_calls (t := am2) Hai2.out).mono ?_
      rw [Hae2.out, hre.out]
      rintro e w8 ⟨bb, hbi2, hbe2, _, rfl, hb8⟩
      have g8 : Gr w w8 := g7.trans hb8
      have g68 : Gr w6 w8 := g67.trans hb8
      have HA8 := Lib.hid (HA7.out.gr hb8)
      have Hbi2 := Lib.hid hbi2
      have Hbe2 := Lib.hid hbe2
      clear hbi2 hbe2 hb8
      obtain ⟨⟨z0, z1, z2, z3⟩, _, hlt8⟩ := HA8.out.parts
      simp only [Tm.val]
      go_wp2_with fail
      refine (same_calls (t := ba) (u := bb) (Tm.In_below (by go_grown) Hbi.out) (Tm.In_below (by go_grown) Hbi2.out)).mono ?_
      rw [Hbe.out, Hbe2.out, T.same_self]
      rintro e w9 ⟨rfl, hb9⟩
      have g9 : Gr w w9 := g8.trans (below_step hb9 (by go_grown))
      clear z0 z1 z2 z3 hb9
      go_wp2_with fail
      go_ret
      exact ret_bool rfl (by go_grown)
    · have hnb : (n == 0) = false := beq_eq_false_iff_ne.2 hn
      clear hall hn
      go_wp2_with fail
      go_ret
      exact ret_bool rfl (by go_grown)
end Go.Proofs.Ytgaijgadeodoeaa
