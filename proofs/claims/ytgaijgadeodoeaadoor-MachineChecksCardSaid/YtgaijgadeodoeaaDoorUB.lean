/-
  hornlaw.MachineChecks: the walk
-/
import Derived.Test.YtgaijgadeodoeaaDoorUE
import Derived.Test.YtgaijgadeodoeaaDoorR2
namespace Go.Proofs.YtgaijgadeodoeaaDoor
open Go.RowKit

theorem Codev.In.mono {w w' : World} {x : Codev} (h : x.In w) (hg : Gr w w') : x.In w' := ⟨SlOf.mono h.1 hg, SlOf.mono h.2.1 hg, h.2.2⟩

set_option maxHeartbeats 2000000 in
set_option maxRecDepth 100000 in
theorem machineChecks_walk (x : Codev) (s : ByteArray) (n : Int) (w : World) (m : Int) (hm : w.cell? ⟨0, 0, none⟩ = some (.int .i64 m)) (hx : x.In w) (_ : s.size ≤ 140737488351232) (_ : In64 n) :
    Calls Tryd.prog 4 #[x.val, .string s, .int .i64 n] w (Ret (.bool true) w) := by
  have hR : Hid (∀ b, true = b → ∀ w', Gr w w' → Ret (.bool true) w (.returned (.bool b)) w') := fun b hb w' hg => ⟨by rw [hb], hg⟩
  generalize hQ : Ret (.bool true) w = Q at hR ⊢
  clear hQ
  have HX := Lib.hid hx
  have HM := Lib.hid hm
  clear hx hm
  have hv : x.val = .agg #[.slice x.ip x.il.length x.ic, .slice x.ep x.el.length x.ec, .int .i64 x.q] := rfl
  have HV := Lib.hid hv
  rw [hv]
  clear hv
  go_enter Tryd.func4, Tryd.ntmps4
  try simp only [List.append_eq, List.cons_append, List.nil_append]
  go_upto_region 1 with fail
  obtain ⟨c0, c1, c2⟩ := cells3' w (.slice x.ip x.il.length x.ic) (.slice x.ep x.el.length x.ec) (.int .i64 x.q) 32
  have gA : Gr w (w.alloc (.cells #[.slice x.ip x.il.length x.ic, .slice x.ep x.el.length x.ec, .int .i64 x.q] 32)) := by go_grown
  generalize w.alloc (.cells #[.slice x.ip x.il.length x.ic, .slice x.ep x.el.length x.ec, .int .i64 x.q] 32) = wA at *
  refine wp_region_rely [fx (.agg #[.slice x.ip x.il.length x.ic, .slice x.ep x.el.length x.ec, .int .i64 x.q]), fx (.int .i64 (codeErr x.il x.el x.q)), fx (.agg #[.slice x.ip x.il.length x.ic, .slice x.ep x.el.length x.ec, .int .i64 x.q]), fx (.int .i64 (codeErr x.il x.el x.q)),
      fx (.bool true), fx (.bool true), fx (.string s), fx (.int .i64 n), fx (.bool (allowed s.toList n)), fx (.string s), fx (.int .i64 n), fx (.bool (allowed s.toList n)), fx (.bool true), fx (.bool true), fx (.bool true)]
    (by kernel_rfl) (by kernel_rfl) (by repeat (first | exact Stable.nil | refine Stable.fix ?_)) ?_ ?_
  · refine ⟨?_, ?a1, ?_, ?a3, ?_, ?_, ?_, ?_, ?a8, ?_, ?_, ?a11, ?_, ?_, ?_, trivial⟩
    all_goals
      intro a w5 hg hold
      have h1 : a.tmps[1]?.getD undef = .string s := hold 1 rfl
      have h2 : a.tmps[2]?.getD undef = .int .i64 n := hold 2 rfl
      have h3 : a.tmps[3]?.getD undef = .pointer (some ⟨w.heap.size, 0, none⟩) := hold 3 rfl
      clear hold
      have z0 := Gr.at hg c0
      have z1 := Gr.at hg c1
      have z2 := Gr.at hg c2
      have g5 : Gr w w5 := gA.trans hg
      clear c0 c1 c2
      simp [predsImp, Region.binds, dstAt, fx, wantedE, Act.eval]
      intros
      first
        | (rw [if_pos (by simp [*])]
           intro K hK)
        | (rename_i K hK)
      go_simp
    case a1 =>
      rw [← HV.out]
      refine (mcheck_calls x w5 (HX.out.mono g5)).mono ?_
      rintro e w6 ⟨rfl, hb6⟩
      exact hK _ _ rfl hb6
    case a3 =>
      rw [← HV.out]
      refine (rcheck_calls x w5 m (Gr.at g5 HM.out) (HX.out.mono g5)).mono ?_
      rintro e w6 ⟨rfl, hb6⟩
      exact hK _ _ rfl hb6
    case a8 =>
      refine (allowed_calls s n w5).mono ?_
      rintro e w6 ⟨rfl, hb6⟩
      exact hK _ _ rfl hb6
    case a11 =>
      refine (rallowed_calls s n w5 m (Gr.at g5 HM.out)).mono ?_
      rintro e w6 ⟨rfl, hb6⟩
      exact hK _ _ rfl hb6
    all_goals exact hK _ _ rfl (Gr.rfl' _)
  · intro w5 hg
    have g5 : Gr w w5 := gA.trans hg
    clear hg
    rintro _ rfl _ rfl _ rfl _ rfl _ rfl _ rfl _ rfl _ rfl _ rfl _ rfl _ rfl _ rfl _ rfl _ rfl _ rfl
    simp only [finAll, Act.put, Exit.then, List.setIfInBounds_toArray, List.set_cons_succ, List.set_cons_zero]
    go_wp2_with fail
    exact hR.out _ rfl _ g5
end Go.Proofs.YtgaijgadeodoeaaDoor
