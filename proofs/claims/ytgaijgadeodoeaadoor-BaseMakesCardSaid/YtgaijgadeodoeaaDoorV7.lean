/-
  hornref.Has, hornref.vars, hornref.Vars
-/
import Derived.Test.YtgaijgadeodoeaaDoorV6
namespace Go.Proofs.YtgaijgadeodoeaaDoor
open Go.RowKit

/-- A slice of numbers. -/
def IntSl (w : World) (p : Option Addr) (c : Nat) (L : List Int) : Prop :=
  L.length ≤ c ∧ c ≤ 9223372036854775807 ∧ (∀ n ∈ L, In64 n) ∧ (L = [] ∨ ∃ b o, p = some ⟨b, o, none⟩ ∧ b < w.heap.size ∧ ∀ i n, L[i]? = some n → w.cell? ⟨b, o + i, none⟩ = some (.int .i64 n))
theorem IntSl.mono {w w' : World} {p : Option Addr} {c : Nat} {L : List Int} (h : IntSl w p c L) (hg : Gr w w') : IntSl w' p c L := by
  obtain ⟨h1, h2, h3, h4⟩ := h
  refine ⟨h1, h2, h3, h4.imp id ?_⟩
  rintro ⟨b, o, hp, hb, hr⟩
  exact ⟨b, o, hp, Nat.lt_of_lt_of_le hb hg.size, fun i n hn => hg.at (hr i n hn)⟩
theorem IntSl.ptr {w : World} {p : Option Addr} {c : Nat} {L : List Int} (h : IntSl w p c L) (hl : 0 < L.length) : ∃ b o, p = some ⟨b, o, none⟩ ∧ b < w.heap.size ∧ ∀ i n, L[i]? = some n → w.cell? ⟨b, o + i, none⟩ = some (.int .i64 n) := by
  rcases h.2.2.2 with rfl | h4
  · simp at hl
  · exact h4

/-- The slice v of the call's own (blocks from B on) holds the numbers. -/
def IntsOwn (w : World) (B : Nat) (v : Value) (L : List Int) : Prop := w.ownsRow B 2 1 v L.length (L.map (Value.int .i64))
theorem IntsOwn.nil (w : World) (B : Nat) : IntsOwn w B (.slice none 0 0) [] := World.ownsRow_nil w B _ 1
theorem IntsOwn.gr {w w' : World} {B : Nat} {v : Value} {L : List Int} (h : IntsOwn w B v L) (hg : Gr w w') : IntsOwn w' B v L := ownsRow_gr h hg
theorem IntsOwn.form {w : World} {B : Nat} {v : Value} {L : List Int} (h : IntsOwn w B v L) : ∃ p c, v = .slice p L.length c := by
  rcases h.2 with ⟨rfl, h0⟩ | ⟨g, cap, cur, rfl, _⟩
  · exact ⟨none, 0, by rw [h0]⟩
  · exact ⟨_, _, rfl⟩
theorem IntsOwn.sl {w : World} {B : Nat} {p : Option Addr} {n c : Nat} {L : List Int} (h : IntsOwn w B (.slice p n c) L) (hL : ∀ n ∈ L, In64 n) : n = L.length ∧ IntSl w p c L := by
  rcases h.2 with ⟨h0, h1⟩ | ⟨g, cap, cur, h0, hbg, hg, hnc, hcm, hcs, htake⟩
  · cases h0
    have hn : L = [] := List.eq_nil_of_length_eq_zero h1
    subst hn
    exact ⟨rfl, Nat.le_refl _, by omega, hL, .inl rfl⟩
  · cases h0
    simp only [maxLen] at hcm
    refine ⟨rfl, hnc, by omega, hL, .inr ⟨g, 0, rfl, (Array.getElem?_eq_some_iff.1 hg).1, fun i n hn => ?_⟩⟩
    have hi : i < L.length := (List.getElem?_eq_some_iff.1 hn).1
    rw [Nat.zero_add, World.ownsRow.cellAt h i (by omega), List.getElem?_map, hn]
    rfl

def hasIdx (L : List Int) (n : Int) : Int := if n ∈ L then (L.idxOf n : Int) else -1

theorem idxOf_first {L : List Int} {n : Int} {k : Nat} (hk : L[k]? = some n) (hno : ∀ i, i < k → L[i]? ≠ some n) : L.idxOf n = k := by
  obtain ⟨hlt, he⟩ := List.getElem?_eq_some_iff.1 hk
  have hm : n ∈ L := he ▸ List.getElem_mem hlt
  have h1 := List.idxOf_lt_length_of_mem hm
  have h2 : L[L.idxOf n] = n := List.getElem_idxOf h1
  rcases Nat.lt_trichotomy (L.idxOf n) k with h | h | h
  · exact absurd (List.getElem?_eq_some_iff.2 ⟨h1, h2⟩) (hno _ h)
  · exact h
  · have := List.not_of_lt_findIdx (p := (· == n)) (xs := L) (i := k) (by exact h)
    simp [he] at this

set_option maxHeartbeats 1000000 in
set_option maxRecDepth 100000 in
theorem has_calls (p : Option Addr) (c : Nat) (L : List Int) (n : Int) (w : World) (h : IntSl w p c L) : Calls Tryd.prog 65 #[.slice p L.length c, .int .i64 n] w (Ret (.int .i64 (hasIdx L n)) w) := by
  have hR : Hid (∀ m, hasIdx L n = m → ∀ w', Gr w w' → Ret (.int .i64 (hasIdx L n)) w (.returned (.int .i64 m)) w') := fun b hb w' hg => ⟨by rw [hb], hg⟩
  have HH := Lib.hid (show hasIdx L n = if n ∈ L then (L.idxOf n : Int) else -1 from rfl)
  generalize hQ : Ret (.int .i64 (hasIdx L n)) w = Q at hR ⊢
  clear hQ
  generalize hasIdx L n = r at *
  have hlc : L.length ≤ c := h.1
  have hc : c ≤ 9223372036854775807 := h.2.1
  have H := Lib.hid h
  clear h
  go_enter Tryd.func65, Tryd.ntmps65
  try simp only [List.append_eq, List.cons_append, List.nil_append]
  go_wp2_with fail
  go_loopg [5] L.length (fun m i wr => ∃ k : Nat, k ≤ L.length ∧ m = L.length - k ∧ i = .int .i64 k ∧ wr = w ∧ Hid (∀ i, i < k → L[i]? ≠ some n))
  case atStart => exact ⟨0, Nat.zero_le _, rfl, rfl, rfl, fun i hi => by omega⟩
  case round =>
    obtain ⟨k, hk, rfl, rfl, rfl, hno⟩ := hrel
    by_cases hlt : k < L.length
    · obtain ⟨b, o, rfl, _, hr⟩ := H.out.ptr (by omega)
      have hy : L[k]? = some L[k] := List.getElem?_eq_getElem hlt
      have c0 := hr k _ hy
      clear hr
      generalize L[k] = y at *
      have HY := Lib.hid hy
      clear hy
      cases he : (y == n) with
      | true =>
        have hyn : y = n := beq_iff_eq.1 he
        have hv : Hid (r = (k : Int)) := by
          have hk2 : L[k]? = some n := hyn ▸ HY.out
          show _ = _
          rw [HH.out, if_pos (List.mem_of_getElem? hk2), idxOf_first hk2 hno.out]
        clear hyn
        go_wp2_with fail
        exact hR.out _ hv.out _ (Gr.rfl' _)
      | false =>
        have hno2 : Hid (∀ i, i < k + 1 → L[i]? ≠ some n) := fun i hi => by
          by_cases hik : i = k
          · subst hik
            rw [HY.out]
            intro e
            cases e
            simp at he
          · exact hno.out i (by omega)
        go_wp2_with fail
        go_roundg (L.length - (k + 1))
        case measure => omega
        case rel => exact ⟨k + 1, by omega, rfl, by go_num, rfl, hno2⟩
    · obtain rfl : k = L.length := by omega
      have hv : Hid (r = -1) := by
        show _ = _
        rw [HH.out, if_neg]
        intro hm
        obtain ⟨i, hi, he⟩ := List.getElem_of_mem hm
        exact hno.out i hi (List.getElem?_eq_some_iff.2 ⟨hi, he⟩)
      go_wp2_with fail
      exact hR.out _ hv.out _ (Gr.rfl' _)

end Go.Proofs.YtgaijgadeodoeaaDoor
