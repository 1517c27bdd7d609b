/-
  term.formed
-/
import Derived.Test.YtgaijgadeodoeaaT0
namespace Go.Proofs.Ytgaijgadeodoeaa
open Go.RowKit

theorem formedL_take (l : List Tm) (k : Nat) (hk : k < l.length) : T.formedL (Tm.eraseL (l.take (k + 1))) = (T.formedL (Tm.eraseL (l.take k)) && l[k].erase.formed) := by
  induction l generalizing k with
  | nil => exact absurd hk (by simp)
  | cons x xs ih =>
    cases k with
    | zero => simp [Tm.eraseL, T.formedL]
    | succ k =>
      simp only [List.length_cons] at hk
      simp only [List.take_succ_cons, Tm.eraseL, T.formedL, List.getElem_cons_succ]
      rw [ih k (by omega), Bool.and_assoc]

theorem formedL_false {l : List Tm} {x : Tm} (h : x ∈ l) (hx : x.erase.formed = false) : T.formedL (Tm.eraseL l) = false := by
  induction l with
  | nil => simp at h
  | cons y ys ih =>
    rw [Tm.eraseL, T.formedL]
    rcases List.mem_cons.1 h with rfl | h
    · rw [hx]; rfl
    · rw [ih h, Bool.and_false]

theorem ret_bool {a b : Bool} {w w' : World} (h : a = b) (hb : Below w.heap.size w w') : Ret (.bool b) w (.returned (.bool a)) w' := ⟨by rw [h], hb⟩


set_option maxHeartbeats 400000 in
set_option maxRecDepth 100000 in
theorem formed_leaf (k n : Int) (s : ByteArray) (p : Option Addr) (c : Nat) (l : List Tm) (w : World) (h : (Tm.mk k n s p c l).In w) (hk4 : k ≠ 4) :
    Calls Try.prog 41 #[(Tm.mk k n s p c l).val] w (Ret (.bool (T.formed (Tm.mk k n s p c l).erase)) w) := by
  rw [Tm.In] at h
  obtain ⟨⟨hk5, hk6⟩, ⟨hn1, hn2⟩, hs, hl, hc, _, _⟩ := h
  simp only [Tm.val, Tm.k, Tm.n, Tm.s, Tm.p, Tm.c, Tm.l, Tm.erase, T.formed, Tm.eraseL_length, toList_length]
  generalize hr : (if k = 1 then _ else _ : Bool) = r
  have Hr := Lib.hid hr
  clear hr
  by_cases hk1 : k = 1
  · subst hk1
    go_enter Try.func41, Try.ntmps41
    go_wp2_with fail
    all_goals
      go_ret
      refine ret_bool ?_ (by go_grown)
      refine Eq.trans ?_ Hr.out
      clear Hr
      first | (simp [*, len_beq_zero]; done) | (simp_all; done) | (simp_all; omega)
  by_cases hk2 : k = 2
  · subst hk2
    go_enter Try.func41, Try.ntmps41
    go_wp2_with fail
    all_goals
      go_ret
      refine ret_bool ?_ (by go_grown)
      refine Eq.trans ?_ Hr.out
      clear Hr
      first | (simp [*, len_beq_zero]; done) | (simp_all [len_beq_zero]; done) | (simp_all [len_beq_zero]; omega)
  by_cases hk3 : k = 3
  · subst hk3
    go_enter Try.func41, Try.ntmps41
    go_wp2_with fail
    all_goals
      go_ret
      refine ret_bool ?_ (by go_grown)
      refine Eq.trans ?_ Hr.out
      clear Hr
      first | (simp [*, len_beq_zero]; done) | (simp_all [len_beq_zero]; done) | (simp_all [len_beq_zero]; omega)
  · go_enter Try.func41, Try.ntmps41
    go_wp2_with fail
    go_ret
    refine ret_bool ?_ (by go_grown)
    refine Eq.trans ?_ Hr.out
    simp [hk1, hk2, hk3, hk4]

set_option maxHeartbeats 400000 in
set_option maxRecDepth 100000 in
theorem formed_any (N : Nat) : ∀ (t : Tm) (w : World), SizeOf.sizeOf t ≤ N → t.In w →
    Calls Try.prog 41 #[t.val] w (Ret (.bool (T.formed t.erase)) w) := by
  induction N with
  | zero => intro t w h _; cases t; simp at h
  | succ N ih =>
    intro t w hN h
    obtain ⟨k, n, s, p, c, l⟩ := t
    by_cases hk4 : k = 4
    · subst hk4
      have hsz := fun x (hx : x ∈ l) => Tm.sizeOf_mem hx 4 n s p c
      rw [Tm.In] at h
      obtain ⟨_, _, hs, hl, hc, hp, hIn⟩ := h
      have Hp := Lib.hid hp
      have HIn := Lib.hid hIn
      have Hsz := Lib.hid hsz
      have Hih := Lib.hid ih
      clear hp hIn hsz ih
      simp only [Tm.val, Tm.k, Tm.n, Tm.s, Tm.p, Tm.c, Tm.l, Tm.erase, T.formed, Tm.eraseL_length, toList_length]
      generalize hr : (if (4 : Int) = 1 then _ else _ : Bool) = r
      have Hr := Lib.hid hr
      clear hr
      by_cases hg : n = 0 ∧ s.size ≤ 100 ∧ 1 ≤ l.length ∧ l.length ≤ 50
      · obtain ⟨rfl, h2, h3, h4⟩ := hg
        rcases Hp.out with rfl | ⟨b, o, rfl, hrow⟩
        · simp at h3
        have Hrow := Lib.hid hrow
        have Hfin : Hid (r = T.formedL (Tm.eraseL l)) := by refine Hr.out.symm.trans ?_; simp [h2, h3, h4]
        have hbl : b < w.heap.size := Tm.row_lt hrow (by rintro rfl; simp at h3)
        clear hrow Hp Hr
        go_enter Try.func41, Try.ntmps41
        go_wp2_with fail
        go_loopw [82] (fun i wr => ∃ k : Nat, k ≤ l.length ∧ i = .int .i64 k ∧ Hid (T.formedL (Tm.eraseL (l.take k)) = true) ∧ Below w.heap.size w wr)
          (fun i _ => l.length - (intOf i).toNat)
        case atStart => exact ⟨0, Nat.zero_le _, rfl, rfl, by go_grown⟩
        case round =>
          obtain ⟨k, hk, rfl, hpre, hb⟩ := hrel
          have hbs := hb.size
          by_cases hlt : k < l.length
          · obtain ⟨c0, c1, c2, c3⟩ := Tm.row_mono Hrow.out (fun o' => hb.cell (p := ⟨b, o', none⟩) hbl) k l[k] (List.getElem?_eq_getElem hlt)
            have hmem : l[k] ∈ l := List.getElem_mem hlt
            have hx : Hid (l[k].In wr) := Tm.In_below (hb.mono (by omega)) (Tm.InL_mem HIn.out _ hmem)
            have Hz := Hsz.out _ hmem
            generalize hxe : l[k] = x at *
            go_wp2_with fail
            refine (Hih.out x _ (by omega) (Tm.In_below (by go_grown) hx.out)).mono ?_
            rintro e w1 ⟨rfl, hb1⟩
            generalize hxf : x.erase.formed = bx
            have Hxf := Lib.hid hxf
            clear hxf
            have Htk : Hid (T.formedL (Tm.eraseL (l.take (k + 1))) = bx) := by
              have h9 := formedL_take l k hlt
              rw [hpre.out, hxe, Hxf.out] at h9
              exact h9
            cases bx
            · go_wp2_with fail
              go_ret
              refine ret_bool ?_ (below_step hb1 (by go_grown))
              rw [Hfin.out, formedL_false (l := l) (x := x) hmem Hxf.out]
            · go_wp2_with fail
              go_roundw
              case rel => exact ⟨k + 1, by omega, by go_num, Htk.out, below_step hb1 (by go_grown)⟩
              case measure => simp [intOf]; omega
          · go_wp2_with fail
            go_ret
            refine ret_bool ?_ (by go_grown)
            rw [Hfin.out, ← hpre.out, List.take_of_length_le (by omega)]
      · have Hfin : Hid (r = false) := by
          refine Hr.out.symm.trans ?_
          simp only [show ¬ (4 : Int) = 1 by decide, show ¬ (4 : Int) = 2 by decide, show ¬ (4 : Int) = 3 by decide, if_false, if_true]
          by_cases e1 : n = 0 <;> by_cases e2 : s.size ≤ 100 <;> by_cases e3 : 1 ≤ l.length <;> by_cases e4 : l.length ≤ 50 <;> simp [e1, e2, e3, e4]
          exact absurd ⟨e1, e2, e3, e4⟩ hg
        clear Hr
        have Hg := Lib.hid hg
        clear hg
        go_enter Try.func41, Try.ntmps41
        go_wp2_with fail
        all_goals first
          | (go_ret; exact ret_bool Hfin.out.symm (by go_grown))
          | (exfalso; exact Hg.out ⟨by omega, by omega, by omega, by omega⟩)
    · exact formed_leaf k n s p c l w h hk4

/-- term.formed, of whatever term. -/
theorem formed_calls {t : Tm} {w : World} (h : t.In w) : Calls Try.prog 41 #[t.val] w (Ret (.bool (T.formed t.erase)) w) :=
  formed_any _ t w (Nat.le_refl _) h
end Go.Proofs.Ytgaijgadeodoeaa
