/-
  hornref.Reserved
-/
import Derived.Test.YtgaijgadeodoeaaDoorU3
namespace Go.Proofs.YtgaijgadeodoeaaDoor
open Go.RowKit

theorem hasB_true {l : List ByteArray} {s x : ByteArray} {j : Nat} (hx : l[j]? = some x) (h : (x.toList == s.toList) = true) : hasB l s = true := by
  rw [hasB, decide_eq_true_eq, ← beq_iff_eq.1 h]
  exact List.mem_map.2 ⟨x, List.mem_of_getElem? hx, rfl⟩

/-- It is none of the first ones. -/
def noneTo (l : List ByteArray) (s : ByteArray) (j : Nat) : Prop := ∀ i x, i < j → l[i]? = some x → x.toList ≠ s.toList
theorem noneTo_succ {l : List ByteArray} {s x : ByteArray} {j : Nat} (h : noneTo l s j) (hx : l[j]? = some x) (hne : (x.toList == s.toList) = false) : noneTo l s (j + 1) := by
  intro i y hi hy
  by_cases e : i = j
  · subst e
    rw [hx] at hy
    cases hy
    simpa using hne
  · exact h i y (by omega) hy
theorem hasB_false {l : List ByteArray} {s : ByteArray} (h : noneTo l s l.length) : hasB l s = false := by
  rw [hasB, decide_eq_false_iff_not]
  intro hm
  obtain ⟨x, hx, e⟩ := List.mem_map.1 hm
  obtain ⟨i, hi, rfl⟩ := List.getElem_of_mem hx
  exact h i _ hi (List.getElem?_eq_getElem hi) e

set_option maxHeartbeats 1000000 in
set_option maxRecDepth 100000 in
theorem rreserved_calls (s : ByteArray) (n : Int) (w : World) (m : Int) (hm : w.cell? ⟨0, 0, none⟩ = some (.int .i64 m)) : Calls Tryd.prog 18 #[.string s, .int .i64 n] w (Ret (.bool (reserved s.toList n)) w) := by
  have hR : Hid (∀ b, reserved s.toList n = b → ∀ w', Gr w w' → Ret (.bool (reserved s.toList n)) w (.returned (.bool b)) w') := fun b hb w' hg => ⟨by rw [hb], hg⟩
  generalize hQ : Ret (.bool (reserved s.toList n)) w = Q at hR ⊢
  clear hQ
  go_enter Tryd.func18, Tryd.ntmps18
  try simp only [List.append_eq, List.cons_append, List.nil_append]
  go_upto_region 2 with fail
  have hcells := strs_new w 9 resSs
  have gA : Gr w (w.alloc (.cells (resSs.map Value.string).toArray 9)) := by go_grown
  change Code.wp _ _ _ _ (w.alloc (.cells (resSs.map Value.string).toArray 9))
  have hmA := Lib.hid (gA.at hm)
  clear hm
  generalize w.alloc (.cells (resSs.map Value.string).toArray 9) = wA at *
  cases hc : (s.toList == [99, 97, 108, 108]) with
  | true =>
    have hv := Lib.hid (show reserved s.toList n = (decide (1 ≤ n) && decide (n ≤ 8)) by rw [isCall_true hc, reserved_call])
    by_cases h1 : 1 ≤ n
    · have hv3 := Lib.hid (show reserved s.toList n = decide (n ≤ 8) by rw [hv.out, decide_eq_true h1, Bool.true_and])
      clear hcells
      go_wp2_with fail
      exact hR.out _ hv3.out _ (by go_grown)
    · have hv3 := Lib.hid (show reserved s.toList n = false by rw [hv.out, decide_eq_false h1, Bool.false_and])
      clear hcells
      go_wp2_with fail
      exact hR.out _ hv3.out _ (by go_grown)
  | false =>
    by_cases h0 : n < 0
    · have hv := Lib.hid (reserved_out (isCall_false hc) (.inl h0))
      clear hcells
      go_wp2_with fail
      exact hR.out _ hv.out _ (by go_grown)
    by_cases h3 : 3 < n
    · have hv := Lib.hid (reserved_out (isCall_false hc) (.inr h3))
      clear hcells
      go_wp2_with fail
      exact hR.out _ hv.out _ (by go_grown)
    obtain ⟨k, hk⟩ : ∃ k : Nat, n = k := ⟨n.toNat, by omega⟩
    subst hk
    have hk4 : k < 4 := by omega
    obtain ⟨rs, hrs⟩ : ∃ rs, resSs[k]? = some rs := ⟨_, List.getElem?_eq_getElem (by simpa [resSs] using hk4)⟩
    have c0 := hcells k rs hrs
    obtain ⟨hsp, hsz⟩ := split_res k rs hrs
    have hv := Lib.hid (show reserved s.toList k = hasB (resB k) s by rw [reserved_in (isCall_false hc) (by omega) (by omega), hasB, resB_eq, Int.toNat_natCast])
    have hsplit : Hid (∀ wq : World, Gr wA wq → Calls Tryd.prog 26 #[.string rs, .string blank1] wq fun e w' => e = .returned (.slice (some ⟨wq.heap.size, 0, none⟩) (resB k).length (resB k).length) ∧ w' = wq.alloc (.cells ((resB k).map Value.string).toArray 9)) := by
      intro wq hq
      have hcn := Lib.splitB_all blank1 (by decide) 0 _ rs rfl
      have e : (resB k).length = Lib.countB rs blank1 + 1 := by rw [← hsp]; exact hcn
      rw [e, ← hsp]
      exact Tryd.strings_Split rs blank1 m wq (by omega) (hq.at hmA.out) (by decide)
    have hsm := resB_small k
    clear hsp hcells hmA hrs
    generalize resB k = l at *
    go_upto_region 7 with (first | (go_at_call 26; refine (hsplit.out _ (by go_grown)).mono ?_; rintro e w' ⟨rfl, rfl⟩) | fail)
    have hrow := strs_new wA 9 l
    have gB : Gr wA (wA.alloc (.cells (l.map Value.string).toArray 9)) := by go_grown
    have g2 := gA.trans gB
    clear hsplit c0 gB
    generalize wA.alloc (.cells (l.map Value.string).toArray 9) = wC at *
    go_wp2_with fail
    go_loopg [7] l.length (fun n i wr => ∃ j : Nat, j ≤ l.length ∧ n = l.length - j ∧ i = .int .i64 j ∧ wr = wC ∧ Hid (noneTo l s j))
    case atStart => exact ⟨0, Nat.zero_le _, rfl, rfl, rfl, fun i x hi => by omega⟩
    case round =>
      obtain ⟨j, hj, rfl, rfl, rfl, hno⟩ := hrel
      by_cases hlt : j < l.length
      · obtain ⟨x, hx⟩ : ∃ x, l[j]? = some x := ⟨_, List.getElem?_eq_getElem hlt⟩
        have c1 := hrow j x hx
        have HX := Lib.hid hx
        clear hx hrow
        cases he : (x.toList == s.toList) with
        | true =>
          have hv2 := Lib.hid (show reserved s.toList k = true by rw [hv.out]; exact hasB_true HX.out he)
          go_wp2_with fail
          exact hR.out _ hv2.out _ g2
        | false =>
          have hno2 : Hid (noneTo l s (j + 1)) := noneTo_succ hno.out HX.out he
          go_wp2_with fail
          go_roundg (l.length - (j + 1))
          case measure => omega
          case rel => exact ⟨j + 1, by omega, rfl, by go_num, rfl, hno2⟩
      · obtain rfl : j = l.length := by omega
        have hv2 := Lib.hid (show reserved s.toList k = false by rw [hv.out]; exact hasB_false hno.out)
        clear hrow
        go_wp2_with fail
        exact hR.out _ hv2.out _ g2
end Go.Proofs.YtgaijgadeodoeaaDoor
