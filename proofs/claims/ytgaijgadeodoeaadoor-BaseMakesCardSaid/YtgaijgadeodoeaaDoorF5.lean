/-
  hornlaw.none
-/
import Derived.Test.YtgaijgadeodoeaaDoorK1
namespace Go.Proofs.YtgaijgadeodoeaaDoor
open Go.RowKit

set_option maxHeartbeats 1000000 in
set_option maxRecDepth 100000 in
theorem none_gen (p : Option Addr) (c : Nat) (w : World) : Calls Tryd.prog 22 #[(Tm.mk 0 0 ⟨#[]⟩ p c []).val] w (Ret (.bool true) w) := by
  simp only [Tm.val, Tm.k, Tm.n, Tm.s, Tm.p, Tm.c, Tm.l, List.length_nil]
  go_enter Tryd.func22, Tryd.ntmps22
  go_wp2_with fail
  go_ret
  exact ret_bool rfl (by go_grown)

theorem toList_nil {s : ByteArray} (h : s.toList = []) : s = ⟨#[]⟩ := by
  rw [ByteArray.toList_eq] at h
  cases s with
  | mk d =>
    congr 1
    exact Array.toList_eq_nil_iff.1 h

theorem none_calls {t : Tm} (h : t.erase = zeroT) (w : World) : Calls Tryd.prog 22 #[t.val] w (Ret (.bool true) w) := by
  obtain ⟨k, n, s, p, c, l⟩ := t
  rw [Tm.erase, zeroT] at h
  injection h with h1 h2 h3 h4
  subst h1; subst h2
  have hs := toList_nil h3
  subst hs
  have hl : l = [] := by
    have := Tm.eraseL_length l
    rw [h4] at this
    exact List.eq_nil_of_length_eq_zero this.symm
  subst hl
  exact none_gen p c w

end Go.Proofs.YtgaijgadeodoeaaDoor
