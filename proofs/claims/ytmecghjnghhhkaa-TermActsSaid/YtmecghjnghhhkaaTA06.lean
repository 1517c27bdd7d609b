/-
  hornref.Binds in full.
-/
import Derived.Test.YtmecghjnghhhkaaUO12
import Derived.Test.YtmecghjnghhhkaaUO26
import Derived.Deep.QuietTactic
import Derived.BigQuiet
namespace Go.Proofs.Ytmecghjnghhhkaa
open Go.RowKit

set_option maxHeartbeats 4000000 in
set_option maxRecDepth 100000 in
theorem rbindsF_calls (p : Option Addr) (c : Nat) (l : List Bd) (w : World) (hx : (Bds.mk p c l).In w) : Calls Try.prog 39 #[.slice p l.length c] w (Ret (.int .i64 (bindsErr l)) w) := by
  have HX := Lib.hid hx
  obtain ⟨hlc, ⟨hl64, hc⟩, _, _⟩ := hx
  simp only at hlc hl64 hc
  have hR : Hid (∀ n, bindsErr l = n → ∀ w', Gr w w' → Ret (.int .i64 (bindsErr l)) w (.returned (.int .i64 n)) w') := fun n h w' hg => ⟨by rw [h], hg⟩
  generalize hQ : Ret (.int .i64 (bindsErr l)) w = Q at hR ⊢
  clear hQ
  go_enter Try.func39, Try.ntmps39
  go_wp2_with fail
  go_loopw [3] (fun i wr => ∃ k : Nat, k ≤ l.length ∧ i = .int .i64 k ∧ Hid (((l.take k).all fun y => y.t.erase.formed) = true) ∧ Gr w wr) (fun i _ => l.length - (intOf i).toNat)
  case atStart => exact ⟨0, Nat.zero_le _, rfl, rfl, by go_grown⟩
  case round =>
    obtain ⟨k, hk, rfl, hpre, gr⟩ := hrel
    by_cases hlt : k < l.length
    · obtain ⟨b, o, rfl⟩ := HX.out.ptr (by omega)
      obtain ⟨⟨c0, c1, c2, c3, c4⟩, hti, _, hbl⟩ := (HX.out.mono gr).elem k hlt
      have Hti := Lib.hid hti
      have Hst : Hid (l[k].t.erase.formed = true → ((l.take (k + 1)).all fun y => y.t.erase.formed) = true) := fun h => all_take_snoc hlt hpre.out h
      have Hbad : Hid (l[k].t.erase.formed = false → bindsErr l = 2) := fun h => all_false hlt h
      clear hti
      generalize hye : l[k] = y at *
      go_wp2_with fail
      refine (rformed_calls (t := y.t) Hti.out).mono ?_
      cases hf : y.t.erase.formed with
      | false =>
        rintro e w1 ⟨rfl, hb1⟩
        have g1 : Gr w w1 := gr.trans hb1
        have Hb2 := Lib.hid (Hbad.out hf)
        clear c0 c1 c2 c3 c4 hb1 hf
        go_wp2_with fail
        exact hR.out _ Hb2.out _ (by go_grown)
      | true =>
        rintro e w1 ⟨rfl, hb1⟩
        have g1 : Gr w w1 := gr.trans hb1
        have Hf := Lib.hid hf
        clear c0 c1 c2 c3 c4 hb1 hf
        go_wp2_with fail
        go_roundw
        case rel => exact ⟨k + 1, by omega, by go_num, Hst.out Hf.out, by go_grown⟩
        case measure => simp [intOf]; omega
    · obtain rfl : k = l.length := by omega
      have Hall : Hid ((l.all fun y => y.t.erase.formed) = true) := by
        show _ = _
        have := hpre.out
        rwa [List.take_length] at this
      clear hpre
      go_wp2_with fail
      go_loopw [4] (fun i wr => ∃ (k : Nat) (last : Int), k ≤ l.length ∧ i = .int .i64 k ∧ Hid (((k = 0 ∧ last = -1) ∨ ∃ j, k = j + 1 ∧ ∃ h : j < l.length, l[j].v = last) ∧ -1 ≤ last ∧ ascB last (l.drop k) = ascB (-1) l) ∧ Gr w wr) (fun i _ => l.length - (intOf i).toNat)
      case atStart => exact ⟨0, -1, Nat.zero_le _, rfl, ⟨.inl ⟨rfl, rfl⟩, Int.le_refl _, rfl⟩, by go_grown⟩
      case round =>
        obtain ⟨k, last, hk, rfl, hasc, gr2⟩ := hrel
        by_cases hlt : k < l.length
        · obtain ⟨b, o, rfl⟩ := HX.out.ptr (by omega)
          obtain ⟨⟨c0, c1, c2, c3, c4⟩, _, ⟨hv1, hv2⟩, hbl⟩ := (HX.out.mono gr2).elem k hlt
          clear c1 c2 c3 c4
          obtain ⟨hprev, hlast, hst⟩ := hasc.out
          rw [asc_drop hlt] at hst
          have Hst := Lib.hid hst
          have HB1 : Hid (¬ (last < l[k].v ∧ l[k].v ≤ 1099511627776) → bindsErr l = 1) := fun h => by
            rw [bindsErr, if_pos Hall.out, if_neg]
            rw [← hst]
            intro h9
            simp only [Bool.and_eq_true, decide_eq_true_eq] at h9
            exact h ⟨h9.1, h9.2.1⟩
          have HN : Hid (last < l[k].v → l[k].v ≤ 1099511627776 → ((k + 1 = 0 ∧ l[k].v = -1) ∨ ∃ j, k + 1 = j + 1 ∧ ∃ h : j < l.length, l[j].v = l[k].v) ∧ -1 ≤ l[k].v ∧ ascB l[k].v (l.drop (k + 1)) = ascB (-1) l) := fun h1 h2 => ⟨.inr ⟨k, rfl, hlt, rfl⟩, by omega, by rw [← hst, decide_eq_true h1, decide_eq_true h2]; rfl⟩
          clear hst hasc
          generalize hye : l[k] = y at *
          obtain ⟨yv, yt⟩ := y
          simp only at *
          by_cases h0 : yv < 0
          · have h0' : decide (yv < 0) = true := decide_eq_true h0
            go_wp2_with fail
            go_quiet (fail)
            go_wp2_with fail
            exact hR.out _ (HB1.out (by omega)) _ (gr2.drewN _)
          by_cases h1 : 1099511627776 < yv
          · have h0' : decide (yv < 0) = false := decide_eq_false h0
            have h1' : decide (1099511627776 < yv) = true := decide_eq_true h1
            go_wp2_with fail
            go_quiet (fail)
            go_wp2_with fail
            exact hR.out _ (HB1.out (by omega)) _ (gr2.drewN _)
          have h0' : decide (yv < 0) = false := decide_eq_false h0
          have h1' : decide (1099511627776 < yv) = false := decide_eq_false h1
          by_cases hk0 : k = 0
          · have hpos : decide (0 < k) = false := decide_eq_false (by omega)
            have hl1 : last = -1 := by rcases hprev with h | ⟨j, h, _⟩; exact h.2; omega
            have HN2 := Lib.hid (HN.out (by omega) (by omega))
            clear hk0
            go_wp2_with fail
            go_quiet (fail)
            go_wp2_with fail
            go_roundw
            case rel => exact ⟨k + 1, yv, by omega, by go_num, HN2.out, gr2.drewN _⟩
            case measure => simp [intOf]; omega
          · obtain ⟨k, rfl⟩ : ∃ j, k = j + 1 := ⟨k - 1, by omega⟩
            obtain ⟨⟨d0, d1, d2, d3, d4⟩, _, ⟨hu1, hu2⟩, _⟩ := (HX.out.mono gr2).elem k (by omega)
            clear d1 d2 d3 d4
            have hl2 : l[k].v = last := by rcases hprev with h | ⟨j, h, hj, hv⟩; omega; (obtain rfl : k = j := by omega); exact hv
            generalize hue : l[k] = u at *
            obtain ⟨uv, ut⟩ := u
            simp only at *
            have hj : IntKind.i64.wrap (((k + 1 : Nat) : Int) - 1) = (k : Int) := by rw [IntWalk.i64_in _ (by omega)]; omega
            have hj2 : (((k + 1 : Nat) : Int) - 1) = (k : Int) := by omega
            have hpos : decide (0 < ((k + 1 : Nat) : Int)) = true := decide_eq_true (by omega)
            by_cases h2 : yv ≤ uv
            · have h2' : decide (yv ≤ uv) = true := decide_eq_true h2
              go_wp2_with fail
              go_quiet (fail)
              go_wp2_with fail
              exact hR.out _ (HB1.out (by omega)) _ (gr2.drewN _)
            · have h2' : decide (yv ≤ uv) = false := decide_eq_false h2
              have HN2 := Lib.hid (HN.out (by omega) (by omega))
              go_wp2_with fail
              go_quiet (fail)
              go_wp2_with fail
              go_roundw
              case rel => exact ⟨k + 1 + 1, yv, by omega, by go_num, HN2.out, gr2.drewN _⟩
              case measure => simp [intOf]; omega
        · go_wp2_with fail
          obtain rfl : k = l.length := by omega
          exact hR.out _ (by rw [bindsErr, if_pos Hall.out, if_pos (by rw [← hasc.out.2.2, List.drop_length, ascB])]) _ (by go_grown)
end Go.Proofs.Ytmecghjnghhhkaa
