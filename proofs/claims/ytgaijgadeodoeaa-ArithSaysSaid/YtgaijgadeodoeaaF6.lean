/-
  hornlaw.ArithSays: the walk
-/
import Derived.Test.YtgaijgadeodoeaaF4
import Derived.Test.YtgaijgadeodoeaaH1
import Derived.Test.YtgaijgadeodoeaaF5
import Derived.Test.YtgaijgadeodoeaaT2
import Derived.Test.YtgaijgadeodoeaaT3
import Derived.Test.YtgaijgadeodoeaaF7
namespace Go.Proofs.Ytgaijgadeodoeaa
open Go.RowKit




/-- A block that holds the term. -/
def Holds4 (w : World) (b : Nat) (t : Tm) : Prop := Blk4 w b (.int .i64 t.k) (.int .i64 t.n) (.string t.s) (.slice t.p t.l.length t.c)

set_option maxHeartbeats 1000000 in
set_option maxRecDepth 100000 in
theorem says_bad (t : Tm) (w : World) (h : t.In w) (hf : t.erase.formed = false) : Calls Try.prog 9 #[t.val] w (Ret (.bool true) w) := by
  have H := Lib.hid h
  have Hr : Hid (evalR t.erase = (0, zeroT, 2)) := by show _ = _; rw [evalR, if_neg (by rw [hf]; decide)]
  have Hf := Lib.hid hf
  clear h hf
  simp only [Tm.val]
  go_enter Try.func9, Try.ntmps9
  go_wp2_with fail
  refine (Eval_calls (t := t) (Tm.In_below (by go_grown) H.out)).mono ?_
  rw [Hr.out]
  rintro e w1 ⟨zb, hzi, hze, hm, rfl, hb1⟩
  have HB : Hid (Blk4 w1 w.heap.size (.int .i64 t.k) (.int .i64 t.n) (.string t.s) (.slice t.p t.l.length t.c)) := (Blk4.new w _ _ _ _).gr hb1
  have g1 : Gr w w1 := below_step hb1 (by go_grown)
  obtain ⟨⟨b0, b1, b2, b3⟩, _, hlt0⟩ := HB.out.parts
  have Hze := Lib.hid hze
  clear hb1 hzi hze hm
  simp only [Tm.val]
  go_wp2_with fail
  refine (Fold_calls (t := t) (Tm.In_below (by go_grown) H.out)).mono ?_
  rw [Hf.out]
  rintro e w2 ⟨fb, hfi, hfe, rfl, hb2, hfo⟩
  have g2 : Gr w1 w2 := below_step hb2 (by go_grown)
  have HB2 : Hid _ := Lib.hid (HB.out.gr g2)
  have HZ2 : Hid (Blk4 w2 w1.heap.size (.int .i64 zb.k) (.int .i64 zb.n) (.string zb.s) (.slice zb.p zb.l.length zb.c)) := (Blk4.new w1 _ _ _ _).gr hb2
  have g02 : Gr w w2 := g1.trans g2
  have Hfe := Lib.hid hfe
  clear b0 b1 b2 b3 hfi hfe hfo hb2
  obtain ⟨⟨b0, b1, b2, b3⟩, _, hlt2⟩ := HB2.out.parts
  simp only [Tm.val]
  go_wp2_with fail
  refine (rformed_calls (t := t) (Tm.In_below (by go_grown) H.out)).mono ?_
  rw [Hf.out]
  rintro e w3 ⟨rfl, hb3⟩
  have g3 : Gr w2 w3 := below_step hb3 (by go_grown)
  have HZ3 : Hid _ := Lib.hid (HZ2.out.gr g3)
  have HF3 : Hid (Blk4 w3 w2.heap.size (.int .i64 fb.k) (.int .i64 fb.n) (.string fb.s) (.slice fb.p fb.l.length fb.c)) := (Blk4.new w2 _ _ _ _).gr hb3
  have g03 : Gr w w3 := g02.trans g3
  clear b0 b1 b2 b3 hb3
  obtain ⟨⟨z0, z1, z2, z3⟩, _, hlt3⟩ := HZ3.out.parts
  go_wp2_with fail
  refine (none_calls (t := zb) Hze.out _).mono ?_
  rintro e w4 ⟨rfl, hb4⟩
  have g04 : Gr w w4 := g03.trans hb4
  clear z0 z1 z2 z3
  obtain ⟨⟨z0, z1, z2, z3⟩, _, hlt4⟩ := (HF3.out.gr hb4).parts
  clear hb4
  go_wp2_with fail
  refine (none_calls (t := fb) Hfe.out _).mono ?_
  rintro e w5 ⟨rfl, hb5⟩
  have g05 : Gr w w5 := g04.trans hb5
  clear z0 z1 z2 z3 hb5
  go_wp2_with fail
  go_ret
  exact ret_bool rfl (by go_grown)

set_option maxHeartbeats 2000000 in
set_option maxRecDepth 100000 in
theorem says_formed (t : Tm) (w : World) (h : t.In w) (hf : t.erase.formed = true) : Calls Try.prog 9 #[t.val] w (Ret (.bool true) w) := by
  have H := Lib.hid h
  have Hr : Hid (evalR t.erase = match evalT t.erase with | .ok n => (n, zeroT, 0) | .bad b => (0, b, 14)) := by show _ = _; rw [evalR, if_pos hf]; cases evalT t.erase <;> rfl
  have Hf := Lib.hid hf
  clear h hf
  have hcase : ∃ n ball err, evalR t.erase = (n, ball, err) ∧ ((evalT t.erase = .ok n ∧ ball = zeroT ∧ err = 0) ∨ (evalT t.erase = .bad ball ∧ n = 0 ∧ err = 14)) := by
    rw [Hr.out]
    cases evalT t.erase with
    | ok n => exact ⟨_, _, _, rfl, .inl ⟨rfl, rfl, rfl⟩⟩
    | bad b => exact ⟨_, _, _, rfl, .inr ⟨rfl, rfl, rfl⟩⟩
  obtain ⟨n, ball, err, hre, hcs⟩ := hcase
  have Hre := Lib.hid hre
  have Hcs := Lib.hid hcs
  clear hre hcs Hr
  simp only [Tm.val]
  go_enter Try.func9, Try.ntmps9
  go_wp2_with fail
  refine (Eval_calls (t := t) (Tm.In_below (by go_grown) H.out)).mono ?_
  rw [Hre.out]
  rintro e w1 ⟨zb, hzi, hze, hm, rfl, hb1⟩
  have HB : Hid (Blk4 w1 w.heap.size (.int .i64 t.k) (.int .i64 t.n) (.string t.s) (.slice t.p t.l.length t.c)) := (Blk4.new w _ _ _ _).gr hb1
  have g1 : Gr w w1 := below_step hb1 (by go_grown)
  obtain ⟨⟨b0, b1, b2, b3⟩, _, hlt0⟩ := HB.out.parts
  have Hze := Lib.hid hze
  have Hzi := Lib.hid hzi
  have Hm := Lib.hid hm
  clear hb1 hzi hze hm
  simp only [Tm.val]
  go_wp2_with fail
  refine (Fold_calls (t := t) (Tm.In_below (by go_grown) H.out)).mono ?_
  rw [Hf.out]
  rintro e w2 ⟨fb, hfi, hfe, rfl, hb2, hfo⟩
  have g2 : Gr w1 w2 := below_step hb2 (by go_grown)
  have HB2 : Hid _ := Lib.hid (HB.out.gr g2)
  have HZ2 : Hid (Blk4 w2 w1.heap.size (.int .i64 zb.k) (.int .i64 zb.n) (.string zb.s) (.slice zb.p zb.l.length zb.c)) := (Blk4.new w1 _ _ _ _).gr hb2
  have g02 : Gr w w2 := g1.trans g2
  have Hfe := Lib.hid hfe
  have Hfi := Lib.hid hfi
  clear b0 b1 b2 b3 hfi hfe hfo hb2
  obtain ⟨⟨b0, b1, b2, b3⟩, _, hlt2⟩ := HB2.out.parts
  simp only [Tm.val]
  go_wp2_with fail
  refine (rformed_calls (t := t) (Tm.In_below (by go_grown) H.out)).mono ?_
  rw [Hf.out]
  rintro e w3 ⟨rfl, hb3⟩
  have g3 : Gr w2 w3 := below_step hb3 (by go_grown)
  have HZ3 : Hid _ := Lib.hid (HZ2.out.gr g3)
  have HB3 : Hid _ := Lib.hid (HB2.out.gr g3)
  have HF3 : Hid (Blk4 w3 w2.heap.size (.int .i64 fb.k) (.int .i64 fb.n) (.string fb.s) (.slice fb.p fb.l.length fb.c)) := (Blk4.new w2 _ _ _ _).gr hb3
  have g03 : Gr w w3 := g02.trans g3
  clear b0 b1 b2 b3 hb3
  obtain ⟨⟨b0, b1, b2, b3⟩, _, hlt3⟩ := HB3.out.parts
  obtain ⟨⟨z0, z1, z2, z3⟩, _, hltf⟩ := HF3.out.parts
  go_wp2_with fail
  refine wp_region_rely [fx (.int .i64 0), fx (.bool false), fx (.bool false), fx fb.val, fx t.val, tmIs (fun _ => True) (T.fold t.erase), fx (.bool true), fx (.bool false), fx (.bool false)]
    (by kernel_rfl) (by kernel_rfl) (by repeat (first | exact Stable.nil | refine Stable.fix ?_ | refine Stable.cons tmIs_stable ?_)) ?_ ?_
  · refine ⟨?_, ?_, ?_, ?_, ?_, ?a5, ?a6, ?_, ?_, trivial⟩
    all_goals
      intro a w4 hg hold
      have h1 : a.tmps[1]?.getD undef = .pointer (some ⟨w.heap.size, 0, none⟩) := hold 1 rfl
      have h6 : a.tmps[6]?.getD undef = .pointer (some ⟨w2.heap.size, 0, none⟩) := hold 6 rfl
      have h7 : a.tmps[7]?.getD undef = .int .i64 0 := hold 7 rfl
      clear hold
      have g04 : Gr w w4 := g03.trans hg
      have g24 : Gr w2 w4 := g3.trans hg
      have y0 := Gr.at hg b0
      have y1 := Gr.at hg b1
      have y2 := Gr.at hg b2
      have y3 := Gr.at hg b3
      have y4 := Gr.at hg z0
      have y5 := Gr.at hg z1
      have y6 := Gr.at hg z2
      have y7 := Gr.at hg z3
      simp [predsImp, Region.binds, dstAt, fx, wantedE, Act.eval]
      intros
      first
        | (rw [if_pos (by simp [*])]
           intro K hK)
        | (rename_i K hK)
      clear b0 b1 b2 b3 z0 z1 z2 z3
      go_simp
    case a5 =>
      refine (rfold_calls (t := t) (Tm.In_below (by go_grown) H.out) Hf.out).mono ?_
      rintro e w5 ⟨rb, hi, he, rfl, hb5, ho⟩
      exact hK _ _ ⟨rb, rfl, hi, he, ho⟩ hb5
    case a6 =>
      have hp : tmIs (fun _ => True) (T.fold t.erase) (a.tmps[48]?.getD undef) w4 := by assumption
      obtain ⟨rb, hv, hi, he, ho⟩ := hp
      rw [hv]
      refine (same_calls (t := fb) (u := rb) (Tm.In_below (by go_grown) Hfi.out) hi).mono ?_
      have hs : T.same fb.erase rb.erase = true := by rw [Hfe.out, he]; exact T.same_self _
      rw [hs]
      rintro e w5 ⟨rfl, hb5⟩
      exact hK _ _ rfl hb5
    all_goals exact hK _ _ rfl (Gr.rfl' _)
  · intro w4 hg
    have g04 : Gr w w4 := g03.trans hg
    have g14 : Gr w1 w4 := (g2.trans g3).trans hg
    have HZ4 : Hid _ := Lib.hid (HZ3.out.gr hg)
    have y0 := Gr.at hg b0
    have y1 := Gr.at hg b1
    have y2 := Gr.at hg b2
    have y3 := Gr.at hg b3
    clear b0 b1 b2 b3 z0 z1 z2 z3 hg
    rintro _ rfl _ rfl _ rfl _ rfl _ rfl _ ⟨rb, rfl, _, _, _⟩ _ rfl _ rfl _ rfl
    simp only [finAll, Act.put, Exit.then, List.setIfInBounds_toArray, List.set_cons_succ, List.set_cons_zero]
    go_wp2_with fail
    refine (reval_calls (t := t) (Tm.In_below (by go_grown) H.out)).mono ?_
    clear y0 y1 y2 y3
    rcases Hcs.out with ⟨hev, hbz, rfl⟩ | ⟨hev, rfl, rfl⟩
    · rw [hev]
      rintro e w5 ⟨rfl, hb5, hm5⟩
      have HZ5 := HZ4.out.gr (show Gr w4 w5 from below_step hb5 (by go_grown))
      have g05 : Gr w w5 := g04.trans (below_step hb5 (by go_grown))
      obtain ⟨⟨z0, z1, z2, z3⟩, _, hltz⟩ := HZ5.parts
      have Hbz := Lib.hid hbz
      clear hb5 hm5 HZ5 hev hbz
      rw [zeroTm_val]
      go_wp2_with fail
      refine (none_calls (t := zb) (by rw [Hze.out, Hbz.out]) _).mono ?_
      rintro e w6 ⟨rfl, hb6⟩
      have g06 : Gr w w6 := g05.trans (below_step hb6 (by go_grown))
      clear z0 z1 z2 z3 hb6
      go_wp2_with fail
      go_ret
      exact ret_bool rfl (by go_grown)
    · rw [hev]
      rintro e w5 ⟨tb, hti, hte, hto, rfl, hb5⟩
      have HZ5 := HZ4.out.gr (show Gr w4 w5 from below_step hb5 (by go_grown))
      have g05 : Gr w w5 := g04.trans (below_step hb5 (by go_grown))
      have gz : Gr w1 w5 := g14.trans (below_step hb5 (by go_grown))
      obtain ⟨⟨z0, z1, z2, z3⟩, _, hltz⟩ := HZ5.parts
      have Hti := Lib.hid hti
      have Hte := Lib.hid hte
      clear hb5 hti hte hto HZ5 hev
      simp only [Tm.val]
      go_wp2_with fail
      refine (same_calls (t := zb) (u := tb) (Tm.In_below (by go_grown) Hzi.out) (Tm.In_below (by go_grown) Hti.out)).mono ?_
      rw [Hze.out, Hte.out, T.same_self]
      rintro e w6 ⟨rfl, hb6⟩
      have g06 : Gr w w6 := g05.trans (below_step hb6 (by go_grown))
      clear z0 z1 z2 z3 hb6
      go_wp2_with fail
      go_ret
      exact ret_bool rfl (by go_grown)

theorem arithSays_walk (t : Tm) (w : World) (h : t.In w) : Calls Try.prog 9 #[t.val] w (Ret (.bool true) w) := by
  cases hf : t.erase.formed with
  | true => exact says_formed t w h hf
  | false => exact says_bad t w h hf

end Go.Proofs.Ytgaijgadeodoeaa
