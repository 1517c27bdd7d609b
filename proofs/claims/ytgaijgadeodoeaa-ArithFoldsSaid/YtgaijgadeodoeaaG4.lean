/-
  hornkeep.thereArith
-/
import Derived.Test.YtgaijgadeodoeaaF4
import Derived.Test.YtgaijgadeodoeaaF7
import Derived.Test.YtgaijgadeodoeaaH1
namespace Go.Proofs.Ytgaijgadeodoeaa
open Go.RowKit

def onePlusOne : T := .mk 4 0 [43] [intT 1, intT 1]
theorem onePlusOne_formed : onePlusOne.formed = true := by
  rw [onePlusOne, T.formed]
  simp [T.formedL, intT, T.formed]
theorem onePlusOne_fold : T.fold onePlusOne = intT 2 := by
  rw [onePlusOne, T.fold, if_pos rfl, evalT_two (by decide) (by decide)]
  have h1 : evalT (intT 1) = .ok 1 := evalT_int _ _ _
  have hp : prim2 [43] = some nAdd := by rw [prim2, if_pos rfl]
  rw [hp]
  simp only [h1]
  have hn : nAdd 1 1 = .ok 2 := by rw [nAdd]; exact ov_ok (by decide) (by decide)
  rw [hn]
  rfl

set_option maxHeartbeats 2000000 in
set_option maxRecDepth 100000 in
theorem thereArith_calls (w : World) : Calls Try.prog 19 #[] w (Ret (.bool true) w) := by
  go_enter Try.func19, Try.ntmps19
  go_wp2_with fail
  refine (rI_calls' _ _).mono ?_
  rintro e w1 ⟨rfl, hb1⟩
  go_wp2_with fail
  refine (rI_calls' _ _).mono ?_
  rintro e w2 ⟨rfl, hb2⟩
  have g2 : Gr w w2 := Gr.trans hb1 hb2
  clear hb1 hb2
  go_wp2_with fail
  refine (rC_calls _ _ _ _ _).mono ?_
  rintro e w3 ⟨rfl, hb3⟩
  have g3 : Gr w w3 := g2.trans (below_step hb3 (by go_grown))
  have hrow : Tm.Sl w3 (some ⟨w2.heap.size, 0, none⟩) 2 [intTm 1, intTm 1] :=
    Tm.Sl.mono (two_row (t := intTm 1) (u := intTm 1) (intTm_in ⟨by decide, by decide⟩ _) (intTm_in ⟨by decide, by decide⟩ _) (by show _ = some (Value.int .i64 2); go_cell) (by show _ = some (Value.int .i64 1); go_cell) (by show _ = some (Value.string ⟨#[]⟩); go_cell) (by show _ = some (Value.slice none 0 0); go_cell) (by show _ = some (Value.int .i64 2); go_cell) (by show _ = some (Value.int .i64 1); go_cell) (by show _ = some (Value.string ⟨#[]⟩); go_cell) (by show _ = some (Value.slice none 0 0); go_cell)) hb3
  have Hin : Hid ((compTm ⟨#[43]⟩ (some ⟨w2.heap.size, 0, none⟩) 2 [intTm 1, intTm 1]).In w3) := compTm_in (by decide) hrow
  have He : Hid ((compTm ⟨#[43]⟩ (some ⟨w2.heap.size, 0, none⟩) 2 [intTm 1, intTm 1]).erase = onePlusOne) := by
    show _ = _
    rw [compTm, Tm.erase, Tm.eraseL, Tm.eraseL, Tm.eraseL, intTm_erase, ByteArray.toList_mk]; rfl
  clear hrow hb3
  go_wp2_with fail
  refine (Fold_calls (t := compTm ⟨#[43]⟩ (some ⟨w2.heap.size, 0, none⟩) 2 [intTm 1, intTm 1]) Hin.out).mono ?_
  rw [He.out, onePlusOne_formed, onePlusOne_fold]
  rintro e w4 ⟨fb, hfi, hfe, rfl, hb4, hfo⟩
  have g4 : Gr w w4 := g3.trans hb4
  have Hfi := Lib.hid hfi
  have Hfe := Lib.hid (show fb.erase = intT 2 from hfe)
  clear hfi hfe hfo hb4
  simp only [Tm.val]
  go_wp2_with fail
  refine wp_region_rely [fx (.int .i64 0), fx (.bool true), fx (.bool true), fx fb.val, fx (.agg #[.int .i64 2, .int .i64 2, .string ⟨#[]⟩, .slice none 0 0]), fx (.bool true), fx (.bool true), fx (.bool true)]
    (by kernel_rfl) (by kernel_rfl) (by repeat (first | exact Stable.nil | refine Stable.fix ?_)) ?_ ?_
  · refine ⟨?_, ?_, ?_, ?_, ?a4, ?a5, ?_, ?_, trivial⟩
    all_goals
      intro a w5 hg hold
      have h1 : a.tmps[1]?.getD undef = .pointer (some ⟨w4.heap.size, 0, none⟩) := hold 1 rfl
      have h2 : a.tmps[2]?.getD undef = .int .i64 0 := hold 2 rfl
      clear hold
      have z0 : w5.cell? ⟨w4.heap.size, 0, none⟩ = some (.int .i64 fb.k) := Gr.at hg (by go_cell)
      have z1 : w5.cell? ⟨w4.heap.size, 1, none⟩ = some (.int .i64 fb.n) := Gr.at hg (by go_cell)
      have z2 : w5.cell? ⟨w4.heap.size, 2, none⟩ = some (.string fb.s) := Gr.at hg (by go_cell)
      have z3 : w5.cell? ⟨w4.heap.size, 3, none⟩ = some (.slice fb.p fb.l.length fb.c) := Gr.at hg (by go_cell)
      have g5 : Gr w4 w5 := below_step hg (by go_grown)
      simp [predsImp, Region.binds, dstAt, fx, wantedE, Act.eval]
      intros
      first
        | (rw [if_pos (by simp [*])]
           intro K hK)
        | (rename_i K hK)
      go_simp
    case a4 =>
      refine (rI_calls' _ _).mono ?_
      rintro e w6 ⟨rfl, hb6⟩
      exact hK _ _ rfl hb6
    case a5 =>
      refine (same_calls (t := fb) (u := intTm 2) (Tm.In_below g5 Hfi.out) (intTm_in ⟨by decide, by decide⟩ _)).mono ?_
      have hs : T.same fb.erase (intTm 2).erase = true := by rw [Hfe.out, intTm_erase]; exact T.same_self _
      rw [hs]
      rintro e w6 ⟨rfl, hb6⟩
      exact hK _ _ rfl hb6
    all_goals exact hK _ _ rfl (Gr.rfl' _)
  · intro w5 hg
    have g5 : Gr w w5 := g4.trans (below_step hg (by go_grown))
    clear hg
    rintro _ rfl _ rfl _ rfl _ rfl _ rfl _ rfl _ rfl _ rfl
    simp only [finAll, Act.put, Exit.then, List.setIfInBounds_toArray, List.set_cons_succ, List.set_cons_zero]
    go_wp2_with fail
    go_ret
    exact ret_bool rfl (by go_grown)
end Go.Proofs.Ytgaijgadeodoeaa
