/-
  hornref.Formed
-/
import Derived.Test.YtgaijgadeodoeaaDoorT4
namespace Go.Proofs.YtgaijgadeodoeaaDoor
open Go.RowKit

theorem formedL_prefix {l : List Tm} (k : Nat) (h : T.formedL (Tm.eraseL (l.take k)) = false) : T.formedL (Tm.eraseL l) = false := by
  induction l generalizing k with
  | nil => simp at h; exact h
  | cons x xs ih =>
    cases k with
    | zero => simp [Tm.eraseL, T.formedL] at h
    | succ k =>
      simp only [List.take_succ_cons, Tm.eraseL, T.formedL, Bool.and_eq_false_iff] at h ⊢
      exact h.imp id (ih k)

set_option maxHeartbeats 1000000 in
set_option maxRecDepth 100000 in
theorem rformed_leaf (k n : Int) (s : ByteArray) (p : Option Addr) (c : Nat) (l : List Tm) (w : World) (h : (Tm.mk k n s p c l).In w) (hk4 : k ≠ 4) :
    Calls Tryd.prog 21 #[(Tm.mk k n s p c l).val] w (Ret (.bool (T.formed (Tm.mk k n s p c l).erase)) w) := by
  rw [Tm.In] at h
  obtain ⟨⟨hk5, hk6⟩, ⟨hn1, hn2⟩, hs, hl, hc, _, _⟩ := h
  simp only [Tm.val, Tm.k, Tm.n, Tm.s, Tm.p, Tm.c, Tm.l, Tm.erase, T.formed, Tm.eraseL_length, toList_length]
  generalize hr : (if k = 1 then _ else _ : Bool) = r
  have Hr := Lib.hid hr
  clear hr
  by_cases hk1 : k = 1
  · subst hk1
    go_enter Tryd.func21, Tryd.ntmps21
    go_wp2_with fail
    all_goals
      go_ret
      refine ret_bool ?_ (by go_grown)
      refine Eq.trans ?_ Hr.out
      clear Hr
      first | (simp [*]; done) | (simp_all; done) | (simp_all; omega)
  by_cases hk2 : k = 2
  · subst hk2
    go_enter Tryd.func21, Tryd.ntmps21
    go_wp2_with fail
    all_goals
      go_ret
      refine ret_bool ?_ (by go_grown)
      refine Eq.trans ?_ Hr.out
      clear Hr
      first | (simp [*, len_beq_zero]; done) | (simp_all [len_beq_zero]; done) | (simp_all [len_beq_zero]; omega)
  by_cases hk3 : k = 3
  · subst hk3
    go_enter Tryd.func21, Tryd.ntmps21
    go_wp2_with fail
    all_goals
      go_ret
      refine ret_bool ?_ (by go_grown)
      refine Eq.trans ?_ Hr.out
      clear Hr
      first | (simp [*, len_beq_zero]; done) | (simp_all [len_beq_zero]; done) | (simp_all [len_beq_zero]; omega)
  · have Hfin : Hid (r = false) := by
      refine Hr.out.symm.trans ?_
      simp [hk1, hk2, hk3, hk4]
    clear Hr
    have hk1' : (k == 1) = false := by simp [hk1]
    have hk2' : (k == 2) = false := by simp [hk2]
    have hk3' : (k == 3) = false := by simp [hk3]
    have hk4' : (k == 4) = false := by simp [hk4]
    clear hk1 hk2 hk3 hk4
    go_enter Tryd.func21, Tryd.ntmps21
    go_wp2_with fail
    all_goals
      go_rounds 1
      go_ret
      exact ret_bool Hfin.out.symm (by go_grown)

set_option maxHeartbeats 1000000 in
set_option maxRecDepth 100000 in
theorem rformed_bad (n : Int) (s : ByteArray) (p : Option Addr) (c : Nat) (l : List Tm) (w : World) (h : (Tm.mk 4 n s p c l).In w) (hg : ¬ (n = 0 ∧ s.size ≤ 100 ∧ 1 ≤ l.length ∧ l.length ≤ 50)) :
    Calls Tryd.prog 21 #[(Tm.mk 4 n s p c l).val] w (Ret (.bool false) w) := by
  rw [Tm.In] at h
  obtain ⟨_, ⟨hn1, hn2⟩, hs, hl, hc, _, _⟩ := h
  simp only [Tm.val, Tm.k, Tm.n, Tm.s, Tm.p, Tm.c, Tm.l]
  by_cases h1 : n = 0
  · subst h1
    by_cases h2 : s.size ≤ 100
    · have h2' : (s.size : Int) ≤ 100 := by omega
      by_cases h3 : 1 ≤ l.length
      · have h3' : (1 : Int) ≤ l.length := by omega
        have h4 : ¬ (l.length : Int) ≤ 50 := by omega
        clear hg
        go_enter Tryd.func21, Tryd.ntmps21
        go_wp2_with fail
        all_goals
          go_rounds 1
          go_ret
          exact ret_bool rfl (by go_grown)
      · have h3' : ¬ (1 : Int) ≤ l.length := by omega
        clear hg
        go_enter Tryd.func21, Tryd.ntmps21
        go_wp2_with fail
        all_goals
          go_rounds 1
          go_ret
          exact ret_bool rfl (by go_grown)
    · have h2' : ¬ (s.size : Int) ≤ 100 := by omega
      clear hg
      go_enter Tryd.func21, Tryd.ntmps21
      go_wp2_with fail
      all_goals
        go_rounds 1
        go_ret
        exact ret_bool rfl (by go_grown)
  · have h1' : (n == 0) = false := by simp [h1]
    clear hg
    go_enter Tryd.func21, Tryd.ntmps21
    go_wp2_with fail
    all_goals
      go_rounds 1
      go_ret
      exact ret_bool rfl (by go_grown)

set_option maxHeartbeats 1000000 in
set_option maxRecDepth 100000 in
theorem rformed_any (N : Nat) : ∀ (t : Tm) (w : World), SizeOf.sizeOf t ≤ N → t.In w →
    Calls Tryd.prog 21 #[t.val] w (Ret (.bool (T.formed t.erase)) w) := by
  induction N with
  | zero => intro t w h _; cases t; simp at h
  | succ N ih =>
    intro t w hN h
    obtain ⟨k, n, s, p, c, l⟩ := t
    by_cases hk4 : k = 4
    · subst hk4
      have hr : T.formed (Tm.mk 4 n s p c l).erase = (decide (n = 0) && decide (s.size ≤ 100) && decide (1 ≤ l.length) && decide (l.length ≤ 50) && T.formedL (Tm.eraseL l)) := by
        simp only [Tm.erase, T.formed, Tm.eraseL_length, toList_length]
        rfl
      by_cases hg : n = 0 ∧ s.size ≤ 100 ∧ 1 ≤ l.length ∧ l.length ≤ 50
      · obtain ⟨rfl, h2, h3, h4⟩ := hg
        rw [hr]
        have hr2 : (decide ((0 : Int) = 0) && decide (s.size ≤ 100) && decide (1 ≤ l.length) && decide (l.length ≤ 50) && T.formedL (Tm.eraseL l)) = T.formedL (Tm.eraseL l) := by
          simp [h2, h3, h4]
        rw [hr2]
        clear hr hr2
        have H := Lib.hid h.sl
        have hsz := fun x (hx : x ∈ l) => Tm.sizeOf_mem hx 4 0 s p c
        rw [Tm.In] at h
        obtain ⟨_, _, hs, hl, hc, _, _⟩ := h
        have Hsz := Lib.hid hsz
        have Hih := Lib.hid ih
        clear hsz ih
        simp only [Tm.val, Tm.k, Tm.n, Tm.s, Tm.p, Tm.c, Tm.l]
        generalize hr : T.formedL (Tm.eraseL l) = r
        have Hr := Lib.hid hr
        clear hr
        obtain ⟨b, o, rfl⟩ := H.out.ptr (by omega)
        have h2' : (s.size : Int) ≤ 100 := by omega
        have h3' : (1 : Int) ≤ l.length := by omega
        have h4' : (l.length : Int) ≤ 50 := by omega
        go_enter Tryd.func21, Tryd.ntmps21
        go_wp2_with fail
        all_goals
          go_loopw [5, 6] (fun v5 v6 wr => ∃ (k : Nat) (ok : Bool), k ≤ l.length ∧ v5 = .bool ok ∧ v6 = .int .i64 k ∧ Hid (T.formedL (Tm.eraseL (l.take k)) = ok) ∧ Gr w wr ∧
              w.heap.size + 1 ≤ wr.heap.size ∧ wr.cell? ⟨w.heap.size, 3, none⟩ = some (.slice (some ⟨b, o, none⟩) l.length c))
            (fun _ i _ => l.length - (intOf i).toNat)
          case atStart => exact ⟨0, true, Nat.zero_le _, rfl, rfl, rfl, by go_grown, by simp, by go_cell⟩
          case round =>
            obtain ⟨k, ok, hk, rfl, rfl, hpre, hb, hbs, b1⟩ := hrel
            cases ok
            · go_wp2_with fail
              go_ret
              refine ret_bool ?_ hb
              rw [← Hr.out, formedL_prefix k hpre.out]
            · by_cases hlt : k < l.length
              · have hS := H.out.mono hb
                obtain ⟨⟨c0, c1, c2, c3⟩, hx, _⟩ := hS.elem k hlt
                have Hx := Lib.hid hx
                have hmem : l[k] ∈ l := List.getElem_mem hlt
                have Hz := Hsz.out _ hmem
                clear hS hx
                generalize hxe : l[k] = x at *
                go_wp2_with fail
                refine (Hih.out x _ (by omega) (Tm.In_below (by go_grown) Hx.out)).mono ?_
                rintro e w1 ⟨rfl, hb1⟩
                have b1' := Gr.at hb1 b1
                have hs1 := hb1.size
                generalize hxf : x.erase.formed = bx
                have Hxf := Lib.hid hxf
                clear hxf b1
                have Htk : Hid (T.formedL (Tm.eraseL (l.take (k + 1))) = bx) := by
                  have h9 := formedL_take l k hlt
                  rw [hpre.out, hxe, Hxf.out] at h9
                  exact h9
                go_wp2_with fail
                go_roundw
                case rel => exact ⟨k + 1, bx, by omega, rfl, by go_num, Htk.out, below_step hb1 (by go_grown), by omega, b1'⟩
                case measure => simp [intOf]; omega
              · go_wp2_with fail
                go_ret
                refine ret_bool ?_ hb
                rw [← Hr.out, ← hpre.out, List.take_of_length_le (by omega)]
      · have : T.formed (Tm.mk 4 n s p c l).erase = false := by
          rw [hr, Bool.eq_false_iff]
          intro h9
          simp only [Bool.and_eq_true, decide_eq_true_eq] at h9
          exact hg ⟨h9.1.1.1.1, h9.1.1.1.2, h9.1.1.2, h9.1.2⟩
        rw [this]
        exact rformed_bad n s p c l w h hg
    · exact rformed_leaf k n s p c l w h hk4

/-- hornref.Formed, of whatever term. -/
theorem rformed_calls {t : Tm} {w : World} (h : t.In w) : Calls Tryd.prog 21 #[t.val] w (Ret (.bool (T.formed t.erase)) w) :=
  rformed_any _ t w (Nat.le_refl _) h

end Go.Proofs.YtgaijgadeodoeaaDoor
