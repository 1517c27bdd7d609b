/-
  hornref.Same, hornref.Formed
-/
import Derived.Test.YtgaijgadeodoeaaT1
namespace Go.Proofs.Ytgaijgadeodoeaa
open Go.RowKit

mutual
/-- The same term? -/
def T.same : T → T → Bool
  | .mk k n s l, .mk k' n' s' l' => decide (k = k') && decide (n = n') && decide (s = s') && decide (l.length = l'.length) && T.sameL l l'
def T.sameL : List T → List T → Bool
  | x :: xs, y :: ys => T.same x y && T.sameL xs ys
  | _, _ => true
end

theorem sameL_take (l l' : List Tm) (k : Nat) (hk : k < l.length) (hk' : k < l'.length) :
    T.sameL (Tm.eraseL (l.take (k + 1))) (Tm.eraseL (l'.take (k + 1))) = (T.sameL (Tm.eraseL (l.take k)) (Tm.eraseL (l'.take k)) && T.same l[k].erase l'[k].erase) := by
  induction l generalizing k l' with
  | nil => exact absurd hk (by simp)
  | cons x xs ih =>
    cases l' with
    | nil => exact absurd hk' (by simp)
    | cons y ys =>
      cases k with
      | zero => simp [Tm.eraseL, T.sameL]
      | succ k =>
        simp only [List.length_cons] at hk hk'
        simp only [List.take_succ_cons, Tm.eraseL, T.sameL, List.getElem_cons_succ]
        rw [ih ys k (by omega) (by omega), Bool.and_assoc]

theorem sameL_false {l l' : List Tm} (k : Nat) (hk : k < l.length) (hk' : k < l'.length) (h : T.same l[k].erase l'[k].erase = false) : T.sameL (Tm.eraseL l) (Tm.eraseL l') = false := by
  induction l generalizing k l' with
  | nil => exact absurd hk (by simp)
  | cons x xs ih =>
    cases l' with
    | nil => exact absurd hk' (by simp)
    | cons y ys =>
      rw [Tm.eraseL, Tm.eraseL, T.sameL]
      cases k with
      | zero => simp only [List.getElem_cons_zero] at h; rw [h]; rfl
      | succ k =>
        simp only [List.length_cons] at hk hk'
        rw [ih k (by omega) (by omega) (by simpa using h), Bool.and_false]

set_option maxHeartbeats 400000 in
set_option maxRecDepth 100000 in
theorem same_any (N : Nat) : ∀ (t u : Tm) (w : World), SizeOf.sizeOf t ≤ N → t.In w → u.In w →
    Calls Try.prog 15 #[t.val, u.val] w (Ret (.bool (T.same t.erase u.erase)) w) := by
  induction N with
  | zero => intro t u w h _; cases t; simp at h
  | succ N ih =>
    intro t u w hN h hu
    obtain ⟨k, n, s, p, c, l⟩ := t
    obtain ⟨k', n', s', p', c', l'⟩ := u
    have hsz := fun x (hx : x ∈ l) => Tm.sizeOf_mem hx k n s p c
    rw [Tm.In] at h hu
    obtain ⟨_, _, hs, hl, hc, hp, hIn⟩ := h
    obtain ⟨_, _, hs', hl', hc', hp', hIn'⟩ := hu
    have Hp := Lib.hid hp
    have HIn := Lib.hid hIn
    have Hp' := Lib.hid hp'
    have HIn' := Lib.hid hIn'
    have Hsz := Lib.hid hsz
    have Hih := Lib.hid ih
    clear hp hIn hsz ih hp' hIn'
    simp only [Tm.val, Tm.k, Tm.n, Tm.s, Tm.p, Tm.c, Tm.l, Tm.erase, T.same, Tm.eraseL_length]
    generalize hr : (_ && _ : Bool) = r
    have Hr := Lib.hid hr
    clear hr
    by_cases hg : k = k' ∧ n = n' ∧ s.toList = s'.toList ∧ l.length = l'.length
    · obtain ⟨rfl, rfl, e3, e4⟩ := hg
      have e3' : (s.toList == s'.toList) = true := by simp [e3]
      have E4 : Hid (l'.length = l.length) := e4.symm
      have Hfin : Hid (r = T.sameL (Tm.eraseL l) (Tm.eraseL l')) := by
        refine Hr.out.symm.trans ?_; simp [e3, e4]
      clear Hr e3 e4
      rw [E4.out]
      go_enter Try.func15, Try.ntmps15
      go_wp2_with fail
      go_loopw [5] (fun i wr => ∃ k : Nat, k ≤ l.length ∧ i = .int .i64 k ∧ Hid (T.sameL (Tm.eraseL (l.take k)) (Tm.eraseL (l'.take k)) = true) ∧ Gr w wr ∧
          w.heap.size + 2 ≤ wr.heap.size ∧ wr.cell? ⟨w.heap.size, 3, none⟩ = some (.slice p l.length c) ∧ wr.cell? ⟨w.heap.size + 1, 3, none⟩ = some (.slice p' l.length c'))
        (fun i _ => l.length - (intOf i).toNat)
      case atStart => exact ⟨0, Nat.zero_le _, rfl, rfl, by go_grown, by simp, by go_cell, by go_cell⟩
      case round =>
        obtain ⟨i, hi, rfl, hpre, hb, hbs, b1, b2⟩ := hrel
        by_cases hlt : i < l.length
        · rcases Hp.out with rfl | ⟨b, o, rfl, hrow⟩
          · simp at hlt
          rcases Hp'.out with rfl | ⟨b', o', rfl, hrow'⟩
          · have := E4.out; simp at this; omega
          have Hrow := Lib.hid hrow
          have Hrow' := Lib.hid hrow'
          clear hrow hrow'
          have hlt' : i < l'.length := by have := E4.out; omega
          have hbl : b < w.heap.size := Tm.row_lt Hrow.out (by rintro rfl; simp at hlt)
          have hbl' : b' < w.heap.size := Tm.row_lt Hrow'.out (by rintro rfl; simp at hlt')
          obtain ⟨c0, c1, c2, c3⟩ := Tm.row_mono Hrow.out (fun o' => hb.cell (p := ⟨b, o', none⟩) hbl) i l[i] (List.getElem?_eq_getElem hlt)
          obtain ⟨d0, d1, d2, d3⟩ := Tm.row_mono Hrow'.out (fun o'' => hb.cell (p := ⟨b', o'', none⟩) hbl') i l'[i] (List.getElem?_eq_getElem hlt')
          have hmem : l[i] ∈ l := List.getElem_mem hlt
          have hmem' : l'[i] ∈ l' := List.getElem_mem hlt'
          have hx : Hid (l[i].In wr) := Tm.In_below (hb.mono (by omega)) (Tm.InL_mem HIn.out _ hmem)
          have hx' : Hid (l'[i].In wr) := Tm.In_below (hb.mono (by omega)) (Tm.InL_mem HIn'.out _ hmem')
          have Hz := Hsz.out _ hmem
          generalize hxe : l[i] = x at *
          generalize hxe' : l'[i] = x' at *
          go_wp2_with fail
          refine wp_region_rely [fx (.pointer (some ⟨w.heap.size, 3, none⟩)), fx (.slice (some ⟨b, o, none⟩) l.length c), fx (.int .i64 i), fx (.pointer (some ⟨b, o + i * 4, none⟩)), fx x.val,
            fx (.pointer (some ⟨w.heap.size + 1, 3, none⟩)), fx (.slice (some ⟨b', o', none⟩) l.length c'), fx (.int .i64 i), fx (.pointer (some ⟨b', o' + i * 4, none⟩)), fx x'.val,
            fx (.bool (T.same x.erase x'.erase)), fx (.bool (!T.same x.erase x'.erase))] (by kernel_rfl) (by kernel_rfl) (by repeat (first | exact Stable.nil | refine Stable.fix ?_)) ?_ ?_
          · refine ⟨?_, ?_, ?_, ?_, ?_, ?_, ?_, ?_, ?_, ?_, ?_, ?_, trivial⟩
            all_goals
              intro a w1 hg hold
              have h2 : a.tmps[2]?.getD undef = .pointer (some ⟨w.heap.size, 0, none⟩) := hold 2 rfl
              have h3 : a.tmps[3]?.getD undef = .pointer (some ⟨w.heap.size + 1, 0, none⟩) := hold 3 rfl
              have h5 : a.tmps[5]?.getD undef = .int .i64 i := hold 5 rfl
              clear hold
              have z1 := Gr.at hg b1
              have z2 := Gr.at hg b2
              have z3 := Gr.at hg c0
              have z4 := Gr.at hg c1
              have z5 := Gr.at hg c2
              have z6 := Gr.at hg c3
              have z7 := Gr.at hg d0
              have z8 := Gr.at hg d1
              have z9 := Gr.at hg d2
              have z10 := Gr.at hg d3
              simp [predsImp, Region.binds, dstAt, fx]
              intros
              rename_i K hK
              clear b1 b2 c0 c1 c2 c3 d0 d1 d2 d3
              go_simp
              first
                | exact hK _ _ rfl (Gr.rfl' _)
                | (refine (Hih.out x x' _ (by omega) (Tm.In_below hg hx.out) (Tm.In_below hg hx'.out)).mono ?_
                   rintro e w2 ⟨rfl, hb2⟩
                   exact hK _ _ rfl hb2)
          · intro w1 hg
            have hsz1 := hg.size
            have b1' := Gr.at hg b1
            have b2' := Gr.at hg b2
            rintro _ rfl _ rfl _ rfl _ rfl _ rfl _ rfl _ rfl _ rfl _ rfl _ rfl _ rfl _ rfl
            simp only [finAll, Act.put, Exit.then, List.setIfInBounds_toArray, List.set_cons_succ, List.set_cons_zero]
            generalize hxf : T.same x.erase x'.erase = bx
            have Hxf := Lib.hid hxf
            have Htk : Hid (T.sameL (Tm.eraseL (l.take (i + 1))) (Tm.eraseL (l'.take (i + 1))) = bx) := by
              have h9 := sameL_take l l' i hlt hlt'
              rw [hpre.out, hxe, hxe', Hxf.out] at h9
              exact h9
            clear hxf b1 b2
            cases bx
            · go_wp2_with fail
              go_ret
              refine ret_bool ?_ (hb.trans hg)
              rw [Hfin.out, sameL_false i hlt hlt' (by rw [hxe, hxe']; exact Hxf.out)]
            · go_wp2_with fail
              go_roundw
              case rel => exact ⟨i + 1, by omega, by go_num, Htk.out, hb.trans hg, by omega, b1', b2'⟩
              case measure => simp [intOf]; omega
        · go_wp2_with fail
          go_ret
          refine ret_bool ?_ hb
          have E := E4.out
          rw [Hfin.out, ← hpre.out, List.take_of_length_le (by omega), List.take_of_length_le (by omega)]
    · have Hfin : Hid (r = false) := by
        refine Hr.out.symm.trans ?_
        rw [Bool.eq_false_iff]
        intro h9
        simp only [Bool.and_eq_true, decide_eq_true_eq] at h9
        exact hg ⟨h9.1.1.1.1, h9.1.1.1.2, h9.1.1.2, h9.1.2⟩
      have Hg := Lib.hid hg
      clear hg Hr
      go_enter Try.func15, Try.ntmps15
      go_wp2_with fail
      all_goals first
        | (go_ret; exact ret_bool Hfin.out.symm (by go_grown))
        | (exfalso; refine Hg.out ⟨by assumption, by assumption, by assumption, ?_⟩
           have h9 : ((l.length : Int) != l'.length) = false := by assumption
           simp at h9; omega)

/-- hornref.Same, of whatever terms. -/
theorem same_calls {t u : Tm} {w : World} (h : t.In w) (hu : u.In w) : Calls Try.prog 15 #[t.val, u.val] w (Ret (.bool (T.same t.erase u.erase)) w) :=
  same_any _ t u w (Nat.le_refl _) h hu
end Go.Proofs.Ytgaijgadeodoeaa
