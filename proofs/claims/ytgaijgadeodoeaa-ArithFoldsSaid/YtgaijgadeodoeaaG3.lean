/-
  hornref.Binds (as far as it is wanted), hornkeep.thereArith
-/
import Derived.Test.YtgaijgadeodoeaaG2
import Derived.Test.YtgaijgadeodoeaaF7
import Derived.Test.YtgaijgadeodoeaaH1
import Derived.Test.YtgaijgadeodoeaaT3
import Derived.Deep.QuietTactic
import Derived.BigQuiet
namespace Go.Proofs.Ytgaijgadeodoeaa
open Go.RowKit

/-- An error; where there is none all that is bound to is a term. -/
def RetBinds (l : List Bd) (w : World) (e : Ending) (w' : World) : Prop :=
  ∃ n : Int, e = .returned (.int .i64 n) ∧ (n = 0 → ∀ y ∈ l, y.t.erase.formed = true) ∧ Gr w w'

theorem take_snoc_mem {X : Type} {l : List X} {k : Nat} (hk : k < l.length) {P : X → Prop} (h : ∀ y ∈ l.take k, P y) (hx : P l[k]) : ∀ y ∈ l.take (k + 1), P y := by
  intro y hy
  rw [List.take_succ_eq_append_getElem hk] at hy
  rcases List.mem_append.1 hy with hy | hy
  · exact h y hy
  · simp only [List.mem_cons, List.mem_nil_iff, or_false] at hy
    rw [hy]; exact hx

set_option maxHeartbeats 4000000 in
set_option maxRecDepth 100000 in
theorem rbinds_calls (p : Option Addr) (c : Nat) (l : List Bd) (w : World) (hx : (Bds.mk p c l).In w) : Calls Try.prog 20 #[.slice p l.length c] w (RetBinds l w) := by
  have HX := Lib.hid hx
  obtain ⟨hlc, ⟨hl64, hc⟩, _, _⟩ := hx
  simp only at hlc hl64 hc
  go_enter Try.func20, Try.ntmps20
  go_wp2_with fail
  go_loopw [3] (fun i wr => ∃ k : Nat, k ≤ l.length ∧ i = .int .i64 k ∧ Hid (∀ y ∈ l.take k, y.t.erase.formed = true) ∧ Gr w wr) (fun i _ => l.length - (intOf i).toNat)
  case atStart => exact ⟨0, Nat.zero_le _, rfl, (fun y hy => by simp at hy), by go_grown⟩
  case round =>
    obtain ⟨k, hk, rfl, hpre, gr⟩ := hrel
    by_cases hlt : k < l.length
    · obtain ⟨b, o, rfl⟩ := HX.out.ptr (by omega)
      obtain ⟨⟨c0, c1, c2, c3, c4⟩, hti, _, hbl⟩ := (HX.out.mono gr).elem k hlt
      have Hti := Lib.hid hti
      have Hst : Hid (l[k].t.erase.formed = true → ∀ y ∈ l.take (k + 1), y.t.erase.formed = true) := fun h => take_snoc_mem hlt hpre.out h
      clear hti
      generalize hye : l[k] = y at *
      go_wp2_with fail
      refine (rformed_calls (t := y.t) Hti.out).mono ?_
      cases hf : y.t.erase.formed with
      | false =>
        rintro e w1 ⟨rfl, hb1⟩
        have g1 : Gr w w1 := gr.trans hb1
        clear c0 c1 c2 c3 c4 hb1 hf
        go_wp2_with fail
        go_ret
        exact ⟨2, rfl, fun h => absurd h (by decide), by go_grown⟩
      | true =>
        rintro e w1 ⟨rfl, hb1⟩
        have g1 : Gr w w1 := gr.trans hb1
        have Hf := Lib.hid hf
        clear c0 c1 c2 c3 c4 hb1 hf
        go_wp2_with fail
        go_roundw
        case rel => exact ⟨k + 1, by omega, by go_num, Hst.out Hf.out, by go_grown⟩
        case measure => simp [intOf]; omega
    · obtain rfl : k = l.length := by omega
      have Hall : Hid (∀ y ∈ l, y.t.erase.formed = true) := by
        show ∀ y ∈ l, _
        have := hpre.out
        rwa [List.take_length] at this
      clear hpre
      go_wp2_with fail
      go_loopw [4] (fun i wr => ∃ k : Nat, k ≤ l.length ∧ i = .int .i64 k ∧ Gr w wr) (fun i _ => l.length - (intOf i).toNat)
      case atStart => exact ⟨0, Nat.zero_le _, rfl, by go_grown⟩
      case round =>
        obtain ⟨k, hk, rfl, gr2⟩ := hrel
        by_cases hlt : k < l.length
        · obtain ⟨b, o, rfl⟩ := HX.out.ptr (by omega)
          obtain ⟨⟨c0, c1, c2, c3, c4⟩, _, ⟨hv1, hv2⟩, hbl⟩ := (HX.out.mono gr2).elem k hlt
          clear c1 c2 c3 c4
          generalize hye : l[k] = y at *
          obtain ⟨yv, yt⟩ := y
          simp only at *
          by_cases h0 : yv < 0
          · have h0' : decide (yv < 0) = true := decide_eq_true h0
            go_wp2_with fail
            go_quiet (fail)
            go_wp2_with fail
            go_ret
            exact ⟨1, rfl, fun h => absurd h (by decide), gr2.drewN _⟩
          by_cases h1 : 1099511627776 < yv
          · have h0' : decide (yv < 0) = false := decide_eq_false h0
            have h1' : decide (1099511627776 < yv) = true := decide_eq_true h1
            go_wp2_with fail
            go_quiet (fail)
            go_wp2_with fail
            go_ret
            exact ⟨1, rfl, fun h => absurd h (by decide), gr2.drewN _⟩
          have h0' : decide (yv < 0) = false := decide_eq_false h0
          have h1' : decide (1099511627776 < yv) = false := decide_eq_false h1
          by_cases hk0 : k = 0
          · have hpos : decide (0 < k) = false := decide_eq_false (by omega)
            clear hk0
            go_wp2_with fail
            go_quiet (fail)
            go_wp2_with fail
            go_roundw
            case rel => exact ⟨k + 1, by omega, by go_num, gr2.drewN _⟩
            case measure => simp [intOf]; omega
          · obtain ⟨k, rfl⟩ : ∃ j, k = j + 1 := ⟨k - 1, by omega⟩
            obtain ⟨⟨d0, d1, d2, d3, d4⟩, _, ⟨hu1, hu2⟩, _⟩ := (HX.out.mono gr2).elem k (by omega)
            clear d1 d2 d3 d4
            generalize hue : l[k] = u at *
            obtain ⟨uv, ut⟩ := u
            simp only at *
            have hj : IntKind.i64.wrap (((k + 1 : Nat) : Int) - 1) = (k : Int) := by rw [IntWalk.i64_in _ (by omega)]; omega
            have hj2 : (((k + 1 : Nat) : Int) - 1) = (k : Int) := by omega
            have hpos : decide (0 < ((k + 1 : Nat) : Int)) = true := decide_eq_true (by omega)
            by_cases h2 : yv ≤ uv
            · have h2' : decide (yv ≤ uv) = true := decide_eq_true h2
              go_wp2_with fail
              go_quiet (fail)
              go_wp2_with fail
              go_ret
              exact ⟨1, rfl, fun h => absurd h (by decide), gr2.drewN _⟩
            · have h2' : decide (yv ≤ uv) = false := decide_eq_false h2
              go_wp2_with fail
              go_quiet (fail)
              go_wp2_with fail
              go_roundw
              case rel => exact ⟨k + 1 + 1, by omega, by go_num, gr2.drewN _⟩
              case measure => simp [intOf]; omega
        · go_wp2_with fail
          go_ret
          exact ⟨0, rfl, fun _ => Hall.out, by go_grown⟩
end Go.Proofs.Ytgaijgadeodoeaa
