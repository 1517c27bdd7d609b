/-
  Slices of terms; term.All
-/
import Derived.Test.YtgaijgadeodoeaaT1
namespace Go.Proofs.Ytgaijgadeodoeaa
open Go.RowKit

/-- A slice of terms. -/
def Tm.Sl (w : World) (p : Option Addr) (c : Nat) (l : List Tm) : Prop :=
  l.length ≤ c ∧ (l.length * 56 ≤ 140737488351232 ∧ c ≤ 9223372036854775807) ∧ (l = [] ∨ ∃ b o, p = some ⟨b, o, none⟩ ∧ Tm.row w b o l) ∧ Tm.InL w l

theorem Tm.In.sl {w : World} {k n : Int} {s : ByteArray} {p : Option Addr} {c : Nat} {l : List Tm} (h : (Tm.mk k n s p c l).In w) : Tm.Sl w p c l := by
  rw [Tm.In] at h
  exact ⟨h.2.2.2.1, h.2.2.2.2.1, h.2.2.2.2.2.1, h.2.2.2.2.2.2⟩

theorem Tm.Sl.mono {w w' : World} {p : Option Addr} {c : Nat} {l : List Tm} (h : Tm.Sl w p c l) (hg : Gr w w') : Tm.Sl w' p c l := by
  obtain ⟨h1, h2, h3, h4⟩ := h
  refine ⟨h1, h2, ?_, Tm.InL_below hg h4⟩
  rcases h3 with h3 | ⟨b, o, hp, hr⟩
  · exact .inl h3
  · by_cases hl : l = []
    · exact .inl hl
    · exact .inr ⟨b, o, hp, Tm.row_mono hr fun o' => hg.cell (p := ⟨b, o', none⟩) (Tm.row_lt hr hl)⟩

/-- An element of a slice of terms. -/
theorem Tm.Sl.elem {w : World} {b o : Nat} {c : Nat} {l : List Tm} (h : Tm.Sl w (some ⟨b, o, none⟩) c l) (i : Nat) (hi : i < l.length) :
    (w.cell? ⟨b, o + i * 4, none⟩ = some (.int .i64 l[i].k) ∧ w.cell? ⟨b, o + i * 4 + 1, none⟩ = some (.int .i64 l[i].n) ∧
    w.cell? ⟨b, o + i * 4 + 2, none⟩ = some (.string l[i].s) ∧ w.cell? ⟨b, o + i * 4 + 3, none⟩ = some (.slice l[i].p l[i].l.length l[i].c)) ∧ l[i].In w ∧ b < w.heap.size := by
  obtain ⟨_, _, h3, h4⟩ := h
  rcases h3 with rfl | ⟨b', o', hp, hr⟩
  · simp at hi
  · cases hp
    exact ⟨hr i l[i] (List.getElem?_eq_getElem hi), Tm.InL_mem h4 _ (List.getElem_mem hi), Tm.row_lt hr (by rintro rfl; simp at hi)⟩

theorem Tm.Sl.ptr {w : World} {p : Option Addr} {c : Nat} {l : List Tm} (h : Tm.Sl w p c l) (hl : 0 < l.length) : ∃ b o, p = some ⟨b, o, none⟩ := by
  obtain ⟨_, _, h3, _⟩ := h
  rcases h3 with rfl | ⟨b', o', hp, _⟩
  · simp at hl
  · exact ⟨b', o', hp⟩

set_option maxHeartbeats 400000 in
theorem all_calls {p : Option Addr} {c : Nat} {l : List Tm} {w : World} (h : Tm.Sl w p c l) :
    Calls Try.prog 42 #[.slice p l.length c] w (Ret (.bool (T.formedL (Tm.eraseL l))) w) := by
  have H := Lib.hid h
  have hlc := h.1
  have hcb := h.2.1
  clear h
  generalize hr : T.formedL (Tm.eraseL l) = r
  have Hr := Lib.hid hr
  clear hr
  go_enter Try.func42, Try.ntmps42
  go_wp2_with fail
  go_loopw [7] (fun i wr => ∃ k : Nat, k ≤ l.length ∧ i = .int .i64 k ∧ Hid (T.formedL (Tm.eraseL (l.take k)) = true) ∧ Gr w wr)
    (fun i _ => l.length - (intOf i).toNat)
  case atStart => exact ⟨0, Nat.zero_le _, rfl, rfl, by go_grown⟩
  case round =>
    obtain ⟨k, hk, rfl, hpre, hb⟩ := hrel
    have hbs := hb.size
    by_cases hlt : k < l.length
    · have hS := H.out.mono hb
      obtain ⟨b, o, rfl⟩ := hS.ptr (by omega)
      obtain ⟨⟨c0, c1, c2, c3⟩, hx, _⟩ := hS.elem k hlt
      have Hx := Lib.hid hx
      have hmem : l[k] ∈ l := List.getElem_mem hlt
      clear hS hx
      generalize hxe : l[k] = x at *
      go_wp2_with fail
      refine (formed_calls (t := x) (Tm.In_below (by go_grown) Hx.out)).mono ?_
      rintro e w1 ⟨rfl, hb1⟩
      generalize hxf : x.erase.formed = bx
      have Hxf := Lib.hid hxf
      clear hxf
      have Htk : Hid (T.formedL (Tm.eraseL (l.take (k + 1))) = bx) := by
        have h9 := formedL_take l k hlt
        rw [hpre.out, hxe, Hxf.out] at h9
        exact h9
      cases bx
      · go_wp2_with fail
        go_ret
        refine ret_bool ?_ (below_step hb1 (by go_grown))
        rw [← Hr.out, formedL_false (l := l) (x := x) hmem Hxf.out]
      · go_wp2_with fail
        go_roundw
        case rel => exact ⟨k + 1, by omega, by go_num, Htk.out, below_step hb1 (by go_grown)⟩
        case measure => simp [intOf]; omega
    · go_wp2_with fail
      go_ret
      refine ret_bool ?_ (by go_grown)
      rw [← Hr.out, ← hpre.out, List.take_of_length_le (by omega)]
end Go.Proofs.Ytgaijgadeodoeaa
