/-
  hornlaw.TextOps
-/
import Derived.Test.YtgaijgadeodoeaaDoorQA
namespace Go.Proofs.YtgaijgadeodoeaaDoor
open Go.RowKit

theorem opsErr_defaults : opsErr defaults = 0 := opsErr_false defaults_good

def RetOpsIn (l : List Opv) (w : World) (e : Ending) (w' : World) : Prop := ∃ p c, e = .returned (.slice p l.length c) ∧ (Opvs.mk p c l).In w' ∧ Gr w w'

theorem RetOps.in {w w' : World} {e : Ending} (h : RetOps defaults w e w') : RetOpsIn defaults w e w' := by
  obtain ⟨v, rfl, hb, hg⟩ := h
  obtain ⟨p, c, rfl, hin⟩ := hb.ops (by rw [defaults_len]; omega) defaults_small
  exact ⟨p, c, rfl, hin, hg⟩

set_option maxHeartbeats 1000000 in
set_option maxRecDepth 100000 in
theorem textOps_walk (p : Option Addr) (c : Nat) (l : List Opv) (w : World) (m : Int) (hm : w.cell? ⟨0, 0, none⟩ = some (.int .i64 m)) (hx : (Opvs.mk p c l).In w) : Calls Tryd.prog 3 #[.slice p l.length c] w (Ret (.bool true) w) := by
  have HX := Lib.hid hx
  have HM := Lib.hid hm
  clear hx hm
  have HLEN : Hid (defaults.length ≤ 39) := Nat.le_of_eq defaults_len
  have HE : Hid (opsErr defaults = 0) := opsErr_defaults
  have C1 : Hid (∀ w, Calls Tryd.prog 6 #[] w (RetOpsIn defaults w)) := fun w => (default_calls w).mono fun _ _ h => h.in
  have C2 : Hid (∀ w1, Gr w w1 → Calls Tryd.prog 7 #[] w1 (RetOpsIn defaults w1)) := fun w1 hg => (rdefault_calls w1 m (hg.at HM.out)).mono fun _ _ h => h.in
  clear HM
  generalize defaults = dl at *
  go_enter Tryd.func3, Tryd.ntmps3
  go_wp2_with (first
    | (go_at_call 6; refine (C1.out _).mono ?_; rintro e w1 ⟨p1, c1, rfl, in1, g1⟩)
    | (go_at_call 7; refine (C2.out _ g1).mono ?_; rintro e w2 ⟨p2, c2, rfl, in2, g2⟩)
    | (go_at_call 8; refine (checkOps_calls p c l _ (HX.out.mono (g1.trans g2))).mono ?_; rintro e w3 ⟨rfl, g3⟩)
    | (go_at_call 9; refine (ops_calls p c l _ (HX.out.mono ((g1.trans g2).trans g3))).mono ?_; rintro e w4 ⟨rfl, g4⟩)
    | fail)
  go_loopg [5] dl.length (fun n i wr => ∃ k : Nat, k ≤ dl.length ∧ n = dl.length - k ∧ i = .int .i64 k ∧ Gr w4 wr)
  case atStart => exact ⟨0, Nat.zero_le _, rfl, rfl, Gr.rfl' _⟩
  case round =>
    obtain ⟨k, hk, rfl, rfl, gr⟩ := hrel
    have Hin1 := Lib.hid (in1.mono ((g2.trans g3).trans (g4.trans gr)))
    have Hin2 := Lib.hid (in2.mono (g3.trans (g4.trans gr)))
    by_cases hlt : k < dl.length
    · obtain ⟨b1, o1, rfl⟩ := Hin1.out.ptr (by omega)
      obtain ⟨b2, o2, rfl⟩ := Hin2.out.ptr (by omega)
      obtain ⟨⟨c0, c1, c2⟩, _, _, _, _⟩ := Hin1.out.elem k hlt
      obtain ⟨⟨d0, d1, d2⟩, _, _, _, _⟩ := Hin2.out.elem k hlt
      generalize dl[k] = y at *
      have hl39 := HLEN.out
      go_wp2_with fail
      go_quiet (fail)
      go_wp2_with fail
      go_roundg (dl.length - (k + 1))
      case measure => omega
      case rel => exact ⟨k + 1, by omega, rfl, by go_num, gr.drewN _⟩
    · obtain rfl : k = dl.length := by omega
      go_wp2_with (first
        | (go_at_call 8; refine (checkOps_calls p1 c1 dl _ Hin1.out).mono ?_; rw [HE.out]; rintro e w5 ⟨rfl, g5⟩)
        | fail)
      go_ret
      exact ⟨rfl, (g1.trans (g2.trans g3)).trans (g4.trans (gr.trans g5))⟩
end Go.Proofs.YtgaijgadeodoeaaDoor
