/-
  Which builtins are allowed: machine.Allowed, hornref.Allowed
-/
import Derived.Test.YtgaijgadeodoeaaDoorU4
namespace Go.Proofs.YtgaijgadeodoeaaDoor
open Go.RowKit

def notB : List ByteArray := [⟨#[116, 114, 117, 101]⟩, ⟨#[102, 97, 105, 108]⟩, ⟨#[33]⟩, ⟨#[44]⟩, ⟨#[59]⟩, ⟨#[45, 62]⟩, ⟨#[92, 43]⟩, ⟨#[99, 97, 108, 108]⟩, ⟨#[99, 97, 116, 99, 104]⟩, ⟨#[102, 105, 110, 100, 97, 108, 108]⟩, ⟨#[98, 101, 116, 119, 101, 101, 110]⟩, ⟨#[97, 115, 115, 101, 114, 116, 122]⟩, ⟨#[97, 115, 115, 101, 114, 116, 97]⟩, ⟨#[114, 101, 116, 114, 97, 99, 116]⟩, ⟨#[58, 45]⟩, ⟨#[45, 45, 62]⟩]
theorem notB_eq : notB.map ByteArray.toList = notAllowed := by rw [map_bytes]; kernel_rfl
theorem notB_has (s : ByteArray) : hasB notB s = decide (s.toList ∈ notAllowed) := by rw [hasB, notB_eq]

set_option maxHeartbeats 1000000 in
set_option maxRecDepth 100000 in
theorem rallowed_calls (s : ByteArray) (n : Int) (w : World) (m : Int) (hm : w.cell? ⟨0, 0, none⟩ = some (.int .i64 m)) : Calls Tryd.prog 13 #[.string s, .int .i64 n] w (Ret (.bool (allowed s.toList n)) w) := by
  have hR : Hid (∀ b, allowed s.toList n = b → ∀ w', Gr w w' → Ret (.bool (allowed s.toList n)) w (.returned (.bool b)) w') := fun b hb w' hg => ⟨by rw [hb], hg⟩
  generalize hQ : Ret (.bool (allowed s.toList n)) w = Q at hR ⊢
  clear hQ
  go_enter Tryd.func13, Tryd.ntmps13
  try simp only [List.append_eq, List.cons_append, List.nil_append]
  go_upto_region 2 with fail
  have hrow := strs_new w 9 notB
  have gA : Gr w (w.alloc (.cells (notB.map Value.string).toArray 9)) := by go_grown
  change Code.wp _ _ _ _ (w.alloc (.cells (notB.map Value.string).toArray 9))
  have hmA := Lib.hid (gA.at hm)
  clear hm
  generalize w.alloc (.cells (notB.map Value.string).toArray 9) = wA at *
  have h16 : notB.length = 16 := rfl
  have hv1 := Lib.hid (show ∀ h : hasB notB s = true, allowed s.toList n = false from fun h => allowed_not n (by rw [notB_has] at h; exact of_decide_eq_true h))
  have hv0 := Lib.hid (show ∀ h : hasB notB s = false, allowed s.toList n = reserved s.toList n from fun h => allowed_res n (by rw [notB_has] at h; exact of_decide_eq_false h))
  have H16 := Lib.hid h16
  clear h16
  generalize notB = l at *
  go_wp2_with fail
  go_loopg [6] 16 (fun n i wr => ∃ j : Nat, j ≤ 16 ∧ n = 16 - j ∧ i = .int .i64 j ∧ wr = wA ∧ Hid (noneTo l s j))
  case atStart => exact ⟨0, Nat.zero_le _, rfl, rfl, rfl, fun i x hi => by omega⟩
  case round =>
    obtain ⟨j, hj, rfl, rfl, rfl, hno⟩ := hrel
    by_cases hlt : j < 16
    · obtain ⟨x, hx⟩ : ∃ x, l[j]? = some x := ⟨_, List.getElem?_eq_getElem (by rw [H16.out]; exact hlt)⟩
      have c1 := hrow j x hx
      have HX := Lib.hid hx
      clear hx hrow
      cases he : (x.toList == s.toList) with
      | true =>
        have hv2 := Lib.hid (hv1.out (hasB_true HX.out he))
        go_wp2_with fail
        exact hR.out _ hv2.out _ gA
      | false =>
        have hno2 : Hid (noneTo l s (j + 1)) := noneTo_succ hno.out HX.out he
        go_wp2_with fail
        go_roundg (16 - (j + 1))
        case measure => omega
        case rel => exact ⟨j + 1, by omega, rfl, by go_num, rfl, hno2⟩
    · obtain rfl : j = 16 := by omega
      have hv2 := Lib.hid (hv0.out (hasB_false (by rw [H16.out]; exact hno.out)))
      clear hrow
      go_wp2_with (first | (go_at_call 18; refine (rreserved_calls s n _ m hmA.out).mono ?_; rintro e w' ⟨rfl, hb⟩) | fail)
      exact hR.out _ hv2.out _ (gA.trans hb)

set_option maxHeartbeats 1000000 in
set_option maxRecDepth 100000 in
theorem allowed_calls (s : ByteArray) (n : Int) (w : World) : Calls Tryd.prog 12 #[.string s, .int .i64 n] w (Ret (.bool (allowed s.toList n)) w) := by
  have hR : Hid (∀ b, allowed s.toList n = b → ∀ w', Gr w w' → Ret (.bool (allowed s.toList n)) w (.returned (.bool b)) w') := fun b hb w' hg => ⟨by rw [hb], hg⟩
  generalize hQ : Ret (.bool (allowed s.toList n)) w = Q at hR ⊢
  clear hQ
  go_enter Tryd.func12, Tryd.ntmps12
  try simp only [List.append_eq, List.cons_append, List.nil_append]
  cases ht : (s.toList == [116, 104, 114, 111, 119]) with
  | true =>
    have hv := Lib.hid (show allowed s.toList n = (n == 1) by rw [beq_iff_eq.1 ht]; exact (allowed_throw n).trans (by rw [Bool.eq_iff_iff]; simp))
    go_wp2_with fail
    exact hR.out _ hv.out _ (by go_grown)
  | false =>
  cases h0 : (s.toList == [116, 114, 117, 101]) with
  | true =>
    have hv := Lib.hid (allowed_not (s := s.toList) n (by rw [beq_iff_eq.1 h0]; decide))
    go_wp2_with fail
    exact hR.out _ hv.out _ (by go_grown)
  | false =>
  cases h1 : (s.toList == [102, 97, 105, 108]) with
  | true =>
    have hv := Lib.hid (allowed_not (s := s.toList) n (by rw [beq_iff_eq.1 h1]; decide))
    go_wp2_with fail
    exact hR.out _ hv.out _ (by go_grown)
  | false =>
  cases h2 : (s.toList == [33]) with
  | true =>
    have hv := Lib.hid (allowed_not (s := s.toList) n (by rw [beq_iff_eq.1 h2]; decide))
    go_wp2_with fail
    exact hR.out _ hv.out _ (by go_grown)
  | false =>
  cases h3 : (s.toList == [44]) with
  | true =>
    have hv := Lib.hid (allowed_not (s := s.toList) n (by rw [beq_iff_eq.1 h3]; decide))
    go_wp2_with fail
    exact hR.out _ hv.out _ (by go_grown)
  | false =>
  cases h4 : (s.toList == [59]) with
  | true =>
    have hv := Lib.hid (allowed_not (s := s.toList) n (by rw [beq_iff_eq.1 h4]; decide))
    go_wp2_with fail
    exact hR.out _ hv.out _ (by go_grown)
  | false =>
  cases h5 : (s.toList == [45, 62]) with
  | true =>
    have hv := Lib.hid (allowed_not (s := s.toList) n (by rw [beq_iff_eq.1 h5]; decide))
    go_wp2_with fail
    exact hR.out _ hv.out _ (by go_grown)
  | false =>
  cases h6 : (s.toList == [92, 43]) with
  | true =>
    have hv := Lib.hid (allowed_not (s := s.toList) n (by rw [beq_iff_eq.1 h6]; decide))
    go_wp2_with fail
    exact hR.out _ hv.out _ (by go_grown)
  | false =>
  cases h7 : (s.toList == [99, 97, 108, 108]) with
  | true =>
    have hv := Lib.hid (allowed_not (s := s.toList) n (by rw [beq_iff_eq.1 h7]; decide))
    go_wp2_with fail
    exact hR.out _ hv.out _ (by go_grown)
  | false =>
  cases h8 : (s.toList == [99, 97, 116, 99, 104]) with
  | true =>
    have hv := Lib.hid (allowed_not (s := s.toList) n (by rw [beq_iff_eq.1 h8]; decide))
    go_wp2_with fail
    exact hR.out _ hv.out _ (by go_grown)
  | false =>
  cases h9 : (s.toList == [102, 105, 110, 100, 97, 108, 108]) with
  | true =>
    have hv := Lib.hid (allowed_not (s := s.toList) n (by rw [beq_iff_eq.1 h9]; decide))
    go_wp2_with fail
    exact hR.out _ hv.out _ (by go_grown)
  | false =>
  cases h10 : (s.toList == [98, 101, 116, 119, 101, 101, 110]) with
  | true =>
    have hv := Lib.hid (allowed_not (s := s.toList) n (by rw [beq_iff_eq.1 h10]; decide))
    go_wp2_with fail
    exact hR.out _ hv.out _ (by go_grown)
  | false =>
  cases h11 : (s.toList == [97, 115, 115, 101, 114, 116, 122]) with
  | true =>
    have hv := Lib.hid (allowed_not (s := s.toList) n (by rw [beq_iff_eq.1 h11]; decide))
    go_wp2_with fail
    exact hR.out _ hv.out _ (by go_grown)
  | false =>
  cases h12 : (s.toList == [97, 115, 115, 101, 114, 116, 97]) with
  | true =>
    have hv := Lib.hid (allowed_not (s := s.toList) n (by rw [beq_iff_eq.1 h12]; decide))
    go_wp2_with fail
    exact hR.out _ hv.out _ (by go_grown)
  | false =>
  cases h13 : (s.toList == [114, 101, 116, 114, 97, 99, 116]) with
  | true =>
    have hv := Lib.hid (allowed_not (s := s.toList) n (by rw [beq_iff_eq.1 h13]; decide))
    go_wp2_with fail
    exact hR.out _ hv.out _ (by go_grown)
  | false =>
  cases h14 : (s.toList == [58, 45]) with
  | true =>
    have hv := Lib.hid (allowed_not (s := s.toList) n (by rw [beq_iff_eq.1 h14]; decide))
    go_wp2_with fail
    exact hR.out _ hv.out _ (by go_grown)
  | false =>
  cases h15 : (s.toList == [45, 45, 62]) with
  | true =>
    have hv := Lib.hid (allowed_not (s := s.toList) n (by rw [beq_iff_eq.1 h15]; decide))
    go_wp2_with fail
    exact hR.out _ hv.out _ (by go_grown)
  | false =>
  have hv := Lib.hid (allowed_res (s := s.toList) n (by
    simp only [beq_eq_false_iff_ne] at h0 h1 h2 h3 h4 h5 h6 h7 h8 h9 h10 h11 h12 h13 h14 h15
    simp only [notAllowed, List.mem_cons, List.mem_nil_iff, or_false, not_or]
    exact ⟨h0, h1, h2, h3, h4, h5, h6, h7, h8, h9, h10, h11, h12, h13, h14, h15⟩))
  go_wp2_with (first | (go_at_call 17; refine (reserved_calls s n _).mono ?_; rintro e w' ⟨rfl, hb⟩) | fail)
  exact hR.out _ hv.out _ hb
end Go.Proofs.YtgaijgadeodoeaaDoor
