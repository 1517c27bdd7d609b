/-
  hornlaw.Names: a closed walk
-/
import Derived.Test.YtgaijgadeodoeaaT6
namespace Go.Proofs.Ytgaijgadeodoeaa
open Go.RowKit

set_option maxHeartbeats 1000000 in
set_option maxRecDepth 100000 in
theorem names_walk (w : World) : Calls Try.prog 3 #[] w (Ret (.bool true) w) := by
  go_enter Try.func3, Try.ntmps3
  go_wp2_with fail
  go_rounds 16
  refine wp_loop_rounds 15 ?_
  iterate 14
    rw [rounds_succ]
    go_wp2_with fail
    go_quiet (fail)
    go_wp2_with fail
  rw [rounds_succ]
  go_wp2_with fail
  have hz : (Tm.mk 0 0 ByteArray.empty none 0 []).In w := by
    rw [Tm.In, Tm.InL]
    exact ⟨⟨by omega, by omega⟩, ⟨by omega, by omega⟩, by decide, Nat.le_refl _, by omega, .inl rfl, trivial⟩
  refine (check_calls (t := Tm.mk 0 0 ByteArray.empty none 0 []) (Tm.In_below (Gr.drewN (by go_grown) _) hz)).mono ?_
  rintro e w1 ⟨rfl, hb1⟩
  have hc : T.check (Tm.mk 0 0 ByteArray.empty none 0 []).erase = 2 := by
    simp [T.check, Tm.erase, Tm.eraseL, T.formed]
  rw [hc]
  go_wp2_with fail
  go_ret
  exact ret_bool (by decide) (below_step hb1 (Gr.drewN (by go_grown) _))
end Go.Proofs.Ytgaijgadeodoeaa
