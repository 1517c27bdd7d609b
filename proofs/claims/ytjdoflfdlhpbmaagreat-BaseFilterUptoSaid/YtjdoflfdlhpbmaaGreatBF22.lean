/-
  hornref.first: the first place at which two terms differ.
-/
import Derived.Test.YtjdoflfdlhpbmaaGreatBF20
import Derived.Test.YtjdoflfdlhpbmaaGreatBF21
import Derived.BigRegion
namespace Go.Proofs.YtjdoflfdlhpbmaaGreat
open Go.RowKit Go.Lib

mutual
/-- What hornref.first hands back, addresses and all. -/
def Tm.fd : Tm → Tm → Tm × Tm × Bool
  | .mk k n s p c l, .mk k' n' s' p' c' l' =>
    if k = 4 ∧ k' = 4 ∧ s.toList = s'.toList ∧ l.length = l'.length then
      match Tm.fdL l l' with
      | some q => (q.1, q.2, true)
      | none => (.mk k n s p c l, .mk k' n' s' p' c' l', false)
    else (.mk k n s p c l, .mk k' n' s' p' c' l', !T.same (Tm.mk k n s p c l).erase (Tm.mk k' n' s' p' c' l').erase)
def Tm.fdL : List Tm → List Tm → Option (Tm × Tm)
  | x :: xs, y :: ys => match Tm.fd x y with
    | (a, b, true) => some (a, b)
    | (_, _, false) => Tm.fdL xs ys
  | _, _ => none
end

mutual
theorem Tm.fd_all (R : Tm → Prop) (hR : ∀ k n s p c l, R (.mk k n s p c l) → ∀ x ∈ l, R x) : ∀ t u : Tm, R t → R u → R (Tm.fd t u).1 ∧ R (Tm.fd t u).2.1
  | .mk k n s p c l, .mk k' n' s' p' c' l', ht, hu => by
    rw [Tm.fd]
    split
    · have := Tm.fdL_all R hR l l' (hR _ _ _ _ _ _ ht) (hR _ _ _ _ _ _ hu)
      cases hq : Tm.fdL l l' with
      | none => exact ⟨ht, hu⟩
      | some q => exact this q hq
    · exact ⟨ht, hu⟩
theorem Tm.fdL_all (R : Tm → Prop) (hR : ∀ k n s p c l, R (.mk k n s p c l) → ∀ x ∈ l, R x) : ∀ l l' : List Tm, (∀ x ∈ l, R x) → (∀ x ∈ l', R x) → ∀ q, Tm.fdL l l' = some q → R q.1 ∧ R q.2
  | [], _, _, _, q, h => by rw [Tm.fdL] at h; cases h; all_goals simp
  | _ :: _, [], _, _, q, h => by rw [Tm.fdL] at h; cases h; all_goals simp
  | x :: xs, y :: ys, hx, hy, q, h => by
    rw [Tm.fdL] at h
    have h1 := Tm.fd_all R hR x y (hx x (by simp)) (hy y (by simp))
    generalize Tm.fd x y = r at h h1
    obtain ⟨a, b, d⟩ := r
    cases d with
    | true => cases h; exact h1
    | false => exact Tm.fdL_all R hR xs ys (fun z hz => hx z (by simp [hz])) (fun z hz => hy z (by simp [hz])) q h
end
def outD : Tm × Tm × Bool → Option (T × T)
  | (a, b, true) => some (a.erase, b.erase)
  | (_, _, false) => none
mutual
theorem Tm.fd_diff : ∀ t u : Tm, T.diff t.erase u.erase = outD (Tm.fd t u)
  | .mk k n s p c l, .mk k' n' s' p' c' l' => by
    rw [Tm.fd]
    simp only [Tm.erase]
    rw [T.diff]
    simp only [Tm.eraseL_length]
    by_cases hc : k = 4 ∧ k' = 4 ∧ s.toList = s'.toList ∧ l.length = l'.length
    · rw [if_pos hc, if_pos hc, Tm.fdL_diff l l']
      cases Tm.fdL l l' with
      | none => rfl
      | some q => rfl
    · rw [if_neg hc, if_neg hc]
      cases hs : T.same (.mk k n s.toList (Tm.eraseL l)) (.mk k' n' s'.toList (Tm.eraseL l')) with
      | true => rfl
      | false => rfl
theorem Tm.fdL_diff : ∀ l l' : List Tm, T.diffL (Tm.eraseL l) (Tm.eraseL l') = (Tm.fdL l l').map fun q => (q.1.erase, q.2.erase)
  | [], l' => by rw [Tm.eraseL, T.diffL, Tm.fdL]; rfl; all_goals simp
  | x :: xs, [] => by rw [Tm.eraseL, Tm.eraseL, T.diffL, Tm.fdL]; rfl; all_goals simp
  | x :: xs, y :: ys => by
    rw [Tm.eraseL, Tm.eraseL, T.diffL, Tm.fdL, Tm.fd_diff x y]
    generalize Tm.fd x y = r
    obtain ⟨a, b, d⟩ := r
    cases d with
    | true => rfl
    | false => exact Tm.fdL_diff xs ys
end
theorem Tm.fdL_here : ∀ (l l' : List Tm) (i : Nat) (h : i < l.length) (h' : i < l'.length), (∀ (j : Nat) (h : j < l.length) (h' : j < l'.length), j < i → (Tm.fd l[j] l'[j]).2.2 = false) → (Tm.fd l[i] l'[i]).2.2 = true → Tm.fdL l l' = some ((Tm.fd l[i] l'[i]).1, (Tm.fd l[i] l'[i]).2.1)
  | x :: xs, y :: ys, 0, _, _, _, h2 => by
    rw [Tm.fdL]
    simp only [List.getElem_cons_zero] at h2 ⊢
    generalize Tm.fd x y = r at h2 ⊢
    obtain ⟨a, b, d⟩ := r
    obtain rfl : d = true := h2
    rfl
  | x :: xs, y :: ys, i + 1, h, h', h1, h2 => by
    rw [Tm.fdL]
    have h0 := h1 0 (by simp) (by simp) (by omega)
    simp only [List.getElem_cons_zero] at h0
    generalize Tm.fd x y = r at h0 ⊢
    obtain ⟨a, b, d⟩ := r
    obtain rfl : d = false := h0
    exact Tm.fdL_here xs ys i (by simpa using h) (by simpa using h') (fun j hj hj' hji => h1 (j + 1) (by simpa using hj) (by simpa using hj') (by omega)) h2
theorem Tm.fdL_none : ∀ (l l' : List Tm), (∀ (j : Nat) (h : j < l.length) (h' : j < l'.length), (Tm.fd l[j] l'[j]).2.2 = false) → Tm.fdL l l' = none
  | [], _, _ => by rw [Tm.fdL]; all_goals simp
  | _ :: _, [], _ => by rw [Tm.fdL]; all_goals simp
  | x :: xs, y :: ys, h1 => by
    rw [Tm.fdL]
    have h0 := h1 0 (by simp) (by simp)
    simp only [List.getElem_cons_zero] at h0
    generalize Tm.fd x y = r at h0 ⊢
    obtain ⟨a, b, d⟩ := r
    obtain rfl : d = false := h0
    exact Tm.fdL_none xs ys fun j hj hj' => h1 (j + 1) (by simpa using hj) (by simpa using hj')

set_option maxHeartbeats 2000000 in
set_option maxRecDepth 100000 in
theorem first_any (N : Nat) : ∀ (t u : Tm) (w : World), SizeOf.sizeOf t ≤ N → t.In w → u.In w →
    Calls Tryz.prog 61 #[t.val, u.val] w (Ret (.tuple #[(Tm.fd t u).1.val, (Tm.fd t u).2.1.val, .bool (Tm.fd t u).2.2]) w) := by
  induction N with
  | zero => intro t u w h _; cases t; simp at h
  | succ N ih =>
    intro t u w hN h hu
    have Ht := Lib.hid h
    have Hu := Lib.hid hu
    obtain ⟨k, n, s, p, c, l⟩ := t
    obtain ⟨k', n', s', p', c', l'⟩ := u
    have hsz := fun x (hx : x ∈ l) => Tm.sizeOf_mem hx k n s p c
    rw [Tm.In] at h hu
    obtain ⟨_, _, hs, hl, hc, hp, hIn⟩ := h
    obtain ⟨_, _, hs', hl', hc', hp', hIn'⟩ := hu
    have Hp := Lib.hid hp
    have HIn := Lib.hid hIn
    have Hp' := Lib.hid hp'
    have HIn' := Lib.hid hIn'
    have Hsz := Lib.hid hsz
    have Hih := Lib.hid ih
    clear hp hIn hsz ih hp' hIn'
    generalize hF : Tm.fd (.mk k n s p c l) (.mk k' n' s' p' c' l') = F
    have HF := Lib.hid hF
    clear hF
    have hQ0 : Hid (∀ (a b : Tm) (d : Bool) (w' : World), F = (a, b, d) → Gr w w' → Ret (.tuple #[F.1.val, F.2.1.val, .bool F.2.2]) w (.returned (.tuple #[a.val, b.val, .bool d])) w') := fun a b d w' he hg => ⟨by rw [he], hg⟩
    generalize Ret (.tuple #[F.1.val, F.2.1.val, .bool F.2.2]) w = Q at hQ0 ⊢
    have HQ := hQ0
    clear hQ0
    simp only [Tm.val, Tm.k, Tm.n, Tm.s, Tm.p, Tm.c, Tm.l]
    have four : Hid (∀ wA, ((((w.alloc (.cells #[.int .i64 k, .int .i64 n, .string s, .slice p l.length c] 24)).alloc (.cells #[.int .i64 k', .int .i64 n', .string s', .slice p' l'.length c'] 24)).alloc (.cells #[.int .i64 0, .int .i64 0, .string ⟨#[]⟩, .slice none 0 0] 24)).alloc (.cells #[.int .i64 0, .int .i64 0, .string ⟨#[]⟩, .slice none 0 0] 24)) = wA →
        Blk4 wA w.heap.size (.int .i64 k) (.int .i64 n) (.string s) (.slice p l.length c) ∧ Blk4 wA (w.heap.size + 1) (.int .i64 k') (.int .i64 n') (.string s') (.slice p' l'.length c') ∧ Blk4 wA (w.heap.size + 1 + 1) (.int .i64 0) (.int .i64 0) (.string ⟨#[]⟩) (.slice none 0 0) ∧ Blk4 wA (w.heap.size + 1 + 1 + 1) (.int .i64 0) (.int .i64 0) (.string ⟨#[]⟩) (.slice none 0 0) ∧ Gr w wA ∧ wA.heap.size = w.heap.size + 1 + 1 + 1 + 1) := by
      rintro wA rfl
      refine ⟨?_, ?_, ?_, ?_, by go_grown, by simp⟩
      · exact (((Blk4.new w _ _ _ _).old _).old _).old _
      · have := ((Blk4.new (w.alloc (.cells #[.int .i64 k, .int .i64 n, .string s, .slice p l.length c] 24)) (.int .i64 k') (.int .i64 n') (.string s') (.slice p' l'.length c')).old (.cells #[.int .i64 0, .int .i64 0, .string ⟨#[]⟩, .slice none 0 0] 24)).old (.cells #[.int .i64 0, .int .i64 0, .string ⟨#[]⟩, .slice none 0 0] 24)
        simpa using this
      · have := (Blk4.new ((w.alloc (.cells #[.int .i64 k, .int .i64 n, .string s, .slice p l.length c] 24)).alloc (.cells #[.int .i64 k', .int .i64 n', .string s', .slice p' l'.length c'] 24)) (.int .i64 0) (.int .i64 0) (.string ⟨#[]⟩) (.slice none 0 0)).old (.cells #[.int .i64 0, .int .i64 0, .string ⟨#[]⟩, .slice none 0 0] 24)
        simpa using this
      · have := Blk4.new (((w.alloc (.cells #[.int .i64 k, .int .i64 n, .string s, .slice p l.length c] 24)).alloc (.cells #[.int .i64 k', .int .i64 n', .string s', .slice p' l'.length c'] 24)).alloc (.cells #[.int .i64 0, .int .i64 0, .string ⟨#[]⟩, .slice none 0 0] 24)) (.int .i64 0) (.int .i64 0) (.string ⟨#[]⟩) (.slice none 0 0)
        simpa using this
    by_cases hg : k = 4 ∧ k' = 4 ∧ s.toList = s'.toList ∧ l.length = l'.length
    · have HFc : Hid (F = match Tm.fdL l l' with | some q => (q.1, q.2, true) | none => (.mk k n s p c l, .mk k' n' s' p' c' l', false)) := HF.out.symm.trans (by rw [Tm.fd, if_pos hg])
      obtain ⟨rfl, rfl, e3, e4⟩ := hg
      have e3' : (s.toList == s'.toList) = true := by simp [e3]
      have E4 : Hid (l'.length = l.length) := e4.symm
      clear HF e3 e4
      simp only [E4.out] at four ⊢
      go_enter Tryz.func61, Tryz.ntmps61
      try simp only [List.append_eq, List.cons_append, List.nil_append]
      go_upto_region 1 with fail
      obtain ⟨b1, b2, b3, b4, gA, sA⟩ := four.out _ rfl
      generalize ((((w.alloc (.cells #[.int .i64 4, .int .i64 n, .string s, .slice p l.length c] 24)).alloc (.cells #[.int .i64 4, .int .i64 n', .string s', .slice p' l.length c'] 24)).alloc (.cells #[.int .i64 0, .int .i64 0, .string ⟨#[]⟩, .slice none 0 0] 24)).alloc (.cells #[.int .i64 0, .int .i64 0, .string ⟨#[]⟩, .slice none 0 0] 24)) = wA at *
      obtain ⟨⟨x0, x1, x2, x3⟩, _, _⟩ := b1.parts
      obtain ⟨⟨y0, y1, y2, y3⟩, _, _⟩ := b2.parts
      have B1 := Lib.hid b1
      have B2 := Lib.hid b2
      have B3 := Lib.hid b3
      have B4 := Lib.hid b4
      have GA := Lib.hid gA
      clear b1 b2 b3 b4 four gA
      go_upto_region 2 with fail
      clear x0 x1 x2 x3 y0 y1 y2 y3
      go_wp2_with fail
      go_loopg [7] l.length (fun m i wr => ∃ j : Nat, j ≤ l.length ∧ m = l.length - j ∧ i = .int .i64 j ∧ Hid (∀ (a : Nat) (h : a < l.length) (h' : a < l'.length), a < j → (Tm.fd l[a] l'[a]).2.2 = false) ∧ Hid (Gr wA wr))
      case atStart => exact ⟨0, Nat.zero_le _, rfl, rfl, fun a _ _ h => absurd h (Nat.not_lt_zero a), Gr.rfl' _⟩
      case round =>
        obtain ⟨j, hj, rfl, rfl, hpre, hgr⟩ := hrel
        have D1 := Lib.hid (B1.out.gr hgr.out)
        have D2 := Lib.hid (B2.out.gr hgr.out)
        have D3 := Lib.hid (B3.out.gr hgr.out)
        have D4 := Lib.hid (B4.out.gr hgr.out)
        have hsr := hgr.out.size
        obtain ⟨⟨x0, x1, x2, x3⟩, _, _⟩ := D1.out.parts
        obtain ⟨⟨y0, y1, y2, y3⟩, _, _⟩ := D2.out.parts
        by_cases hlt : j < l.length
        · rcases Hp.out with rfl | ⟨b, o, rfl, hrow⟩
          · simp at hlt
          rcases Hp'.out with rfl | ⟨b', o', rfl, hrow'⟩
          · have := E4.out; simp at this; omega
          have Hrow := Lib.hid hrow
          have Hrow' := Lib.hid hrow'
          clear hrow hrow'
          have hlt' : j < l'.length := by have := E4.out; omega
          have hbl : b < w.heap.size := Tm.row_lt Hrow.out (by rintro rfl; simp at hlt)
          have hbl' : b' < w.heap.size := Tm.row_lt Hrow'.out (by rintro rfl; simp at hlt')
          have gR : Gr w wr := GA.out.trans hgr.out
          obtain ⟨c0, c1, c2, c3⟩ := Tm.row_mono Hrow.out (fun o' => gR.cell (p := ⟨b, o', none⟩) hbl) j l[j] (List.getElem?_eq_getElem hlt)
          obtain ⟨d0, d1, d2, d3⟩ := Tm.row_mono Hrow'.out (fun o'' => gR.cell (p := ⟨b', o'', none⟩) hbl') j l'[j] (List.getElem?_eq_getElem hlt')
          have hmem : l[j] ∈ l := List.getElem_mem hlt
          have hmem' : l'[j] ∈ l' := List.getElem_mem hlt'
          have Hx := Lib.hid (Tm.In_below gR (Tm.InL_mem HIn.out _ hmem))
          have Hx' := Lib.hid (Tm.In_below gR (Tm.InL_mem HIn'.out _ hmem'))
          have Hz := Hsz.out _ hmem
          have HR := Lib.hid gR
          have Hhere : Hid (∀ (a b : Tm), Tm.fd l[j] l'[j] = (a, b, true) → F = (a, b, true)) := fun a b he => by
            rw [HFc.out, Tm.fdL_here l l' j hlt hlt' hpre.out (by rw [he]), he]
          have Hnext : Hid (∀ (a b : Tm), Tm.fd l[j] l'[j] = (a, b, false) → ∀ (a : Nat) (h : a < l.length) (h' : a < l'.length), a < j + 1 → (Tm.fd l[a] l'[a]).2.2 = false) := fun a b he i h h' hi => by
            rcases Nat.lt_or_ge i j with h1 | h1
            · exact hpre.out i h h' h1
            · obtain rfl : i = j := by omega
              rw [he]
          clear gR
          have hxo := (Tm.InL_mem HIn.out _ hmem).on
          have hxo' := (Tm.InL_mem HIn'.out _ hmem').on
          generalize l[j] = x at *
          generalize l'[j] = x' at *
          have hcall := Hih.out x x'
          have HXO := Lib.hid (Tm.fd_all (fun t => t.In wr ∧ t.On (· < w.heap.size)) (fun k n s p c l h z hz => by
            obtain ⟨h1, h2⟩ := h
            rw [Tm.In] at h1
            rw [Tm.On] at h2
            exact ⟨Tm.InL_mem h1.2.2.2.2.2.2 z hz, Tm.OnL_mem h2.2 z hz⟩) x x' ⟨Hx.out, hxo⟩ ⟨Hx'.out, hxo'⟩)
          have Hcall := Lib.hid hcall
          clear hcall
          have Hxo := Lib.hid hxo
          have Hxo' := Lib.hid hxo'
          clear hxo hxo'
          generalize Tm.fd x x' = r at *
          obtain ⟨X, Y, d⟩ := r
          simp only at Hcall HXO
          have nH1 : ¬ (wr.heap.size ≤ w.heap.size) := by omega
          have nH2 : ¬ (wr.heap.size ≤ w.heap.size + 1) := by omega
          have nb : ¬ (wr.heap.size ≤ b) := by omega
          have nb' : ¬ (wr.heap.size ≤ b') := by omega
          go_upto_region 5 with fail

          refine wp_region_relyA 20 [fx (.pointer (some ⟨w.heap.size, 3, none⟩)), fx (.slice (some ⟨b, o, none⟩) l.length c), fx (.int .i64 j), fx (.pointer (some ⟨b, o + j * 4, none⟩)), fx x.val, fx (.pointer (some ⟨w.heap.size + 1, 3, none⟩)), fx (.slice (some ⟨b', o', none⟩) l.length c'), fx (.int .i64 j), fx (.pointer (some ⟨b', o' + j * 4, none⟩)), fx x'.val, fx (.tuple #[.agg #[.int .i64 X.k, .int .i64 X.n, .string X.s, .slice X.p X.l.length X.c], .agg #[.int .i64 Y.k, .int .i64 Y.n, .string Y.s, .slice Y.p Y.l.length Y.c], .bool d]), fx (.tuple #[.agg #[.int .i64 X.k, .int .i64 X.n, .string X.s, .slice X.p X.l.length X.c], .agg #[.int .i64 Y.k, .int .i64 Y.n, .string Y.s, .slice Y.p Y.l.length Y.c], .bool d]), fx (.agg #[.int .i64 X.k, .int .i64 X.n, .string X.s, .slice X.p X.l.length X.c]), fx (.agg #[.int .i64 Y.k, .int .i64 Y.n, .string Y.s, .slice Y.p Y.l.length Y.c]), fx (.bool d), ptrV, ptrV, fx undef, fx undef, fx (.bool d)]
            (Kp (fun b => wr.heap.size ≤ b)) (LateJ wr.heap.size [⟨15, 8, 17, X⟩, ⟨16, 9, 18, Y⟩] 20 68) (by kernel_rfl) (by kernel_rfl) (by decide) (by kernel_rfl) (fun _ _ h => Kp.of_gr h) (fun _ _ _ h k => Kp.trans h k) (fun w _ => LateJ.start _ _ _ _ _ w rfl) (by repeat (first | exact StableR.nil | refine StableR.fix ?_ | refine StableR.cons ptrV_stable ?_)) ?_ ?_
          · refine ⟨stepA_plain (fun _ _ h => Kp.of_gr h) (fun listed a w w' v h hg => LateJ.other rfl listed a w w' v h hg) ?_, stepA_plain (fun _ _ h => Kp.of_gr h) (fun listed a w w' v h hg => LateJ.other rfl listed a w w' v h hg) ?_, stepA_plain (fun _ _ h => Kp.of_gr h) (fun listed a w w' v h hg => LateJ.other rfl listed a w w' v h hg) ?_, stepA_plain (fun _ _ h => Kp.of_gr h) (fun listed a w w' v h hg => LateJ.other rfl listed a w w' v h hg) ?_, stepA_plain (fun _ _ h => Kp.of_gr h) (fun listed a w w' v h hg => LateJ.other rfl listed a w w' v h hg) ?_, stepA_plain (fun _ _ h => Kp.of_gr h) (fun listed a w w' v h hg => LateJ.other rfl listed a w w' v h hg) ?_, stepA_plain (fun _ _ h => Kp.of_gr h) (fun listed a w w' v h hg => LateJ.other rfl listed a w w' v h hg) ?_, stepA_plain (fun _ _ h => Kp.of_gr h) (fun listed a w w' v h hg => LateJ.other rfl listed a w w' v h hg) ?_, stepA_plain (fun _ _ h => Kp.of_gr h) (fun listed a w w' v h hg => LateJ.other rfl listed a w w' v h hg) ?_, stepA_plain (fun _ _ h => Kp.of_gr h) (fun listed a w w' v h hg => LateJ.other rfl listed a w w' v h hg) ?_, stepA_plain (fun _ _ h => Kp.of_gr h) (fun listed a w w' v h hg => LateJ.other rfl listed a w w' v h hg) ?b10, stepA_plain (fun _ _ h => Kp.of_gr h) (fun listed a w w' v h hg => LateJ.other rfl listed a w w' v h hg) ?_, stepA_plain (fun _ _ h => Kp.of_gr h) (fun listed a w w' v h hg => LateJ.other rfl listed a w w' v h hg) ?_, stepA_plain (fun _ _ h => Kp.of_gr h) (fun listed a w w' v h hg => LateJ.other rfl listed a w w' v h hg) ?_, stepA_plain (fun _ _ h => Kp.of_gr h) (fun listed a w w' v h hg => LateJ.other rfl listed a w w' v h hg) ?_, ?a15, ?a16, ?a17, ?a18, stepA_plain (fun _ _ h => Kp.of_gr h) (fun listed a w w' v h hg => LateJ.other rfl listed a w w' v h hg) ?_, trivial⟩
            case a15 =>
              intro listed fr ww hj hl hpre hg hdef hold
              have h2 : fr.tmps[2]?.getD undef = .pointer (some ⟨w.heap.size, 0, none⟩) := hold 2 rfl
              have h3 : fr.tmps[3]?.getD undef = .pointer (some ⟨w.heap.size + 1, 0, none⟩) := hold 3 rfl
              have h7 : fr.tmps[7]?.getD undef = .int .i64 j := hold 7 rfl
              have z0 := Kp.cell hg x3 nH1
              have z1 := Kp.cell hg y3 nH2
              have z2 := Kp.cell hg c0 nb
              have z3 := Kp.cell hg c1 nb
              have z4 := Kp.cell hg c2 nb
              have z5 := Kp.cell hg c3 nb
              have z6 := Kp.cell hg d0 nb'
              have z7 := Kp.cell hg d1 nb'
              have z8 := Kp.cell hg d2 nb'
              have z9 := Kp.cell hg d3 nb'
              have Hg := Lib.hid hg
              clear hold x0 x1 x2 x3 y0 y1 y2 y3 c0 c1 c2 c3 d0 d1 d2 d3
              have hl := getD_tf hl
              clear hdef
              simp only [predsImp]
              intro K hK
              go_simp
              exact hK _ _ ⟨_, rfl⟩ (Kp.of_gr (by go_grown)) (LateJ.alloc rfl hj hl (by go_grown) hg.size (Nat.le_refl _) (by simp) (Blk4.new _ _ _ _ _) (show (8 : Nat) < 68 by decide) (show (15 : Nat) < 20 by decide))
            case a16 =>
              intro listed fr ww hj hl hpre hg hdef hold
              have h2 : fr.tmps[2]?.getD undef = .pointer (some ⟨w.heap.size, 0, none⟩) := hold 2 rfl
              have h3 : fr.tmps[3]?.getD undef = .pointer (some ⟨w.heap.size + 1, 0, none⟩) := hold 3 rfl
              have h7 : fr.tmps[7]?.getD undef = .int .i64 j := hold 7 rfl
              have z0 := Kp.cell hg x3 nH1
              have z1 := Kp.cell hg y3 nH2
              have z2 := Kp.cell hg c0 nb
              have z3 := Kp.cell hg c1 nb
              have z4 := Kp.cell hg c2 nb
              have z5 := Kp.cell hg c3 nb
              have z6 := Kp.cell hg d0 nb'
              have z7 := Kp.cell hg d1 nb'
              have z8 := Kp.cell hg d2 nb'
              have z9 := Kp.cell hg d3 nb'
              have Hg := Lib.hid hg
              clear hold x0 x1 x2 x3 y0 y1 y2 y3 c0 c1 c2 c3 d0 d1 d2 d3
              have hl := getD_tf hl
              clear hdef
              simp only [predsImp]
              intro K hK
              go_simp
              exact hK _ _ ⟨_, rfl⟩ (Kp.of_gr (by go_grown)) (LateJ.alloc rfl hj hl (by go_grown) hg.size (Nat.le_refl _) (by simp) (Blk4.new _ _ _ _ _) (show (9 : Nat) < 68 by decide) (show (16 : Nat) < 20 by decide))
            case a17 =>
              intro listed fr ww hj hl hpre hg hdef hold
              have h2 : fr.tmps[2]?.getD undef = .pointer (some ⟨w.heap.size, 0, none⟩) := hold 2 rfl
              have h3 : fr.tmps[3]?.getD undef = .pointer (some ⟨w.heap.size + 1, 0, none⟩) := hold 3 rfl
              have h7 : fr.tmps[7]?.getD undef = .int .i64 j := hold 7 rfl
              have z0 := Kp.cell hg x3 nH1
              have z1 := Kp.cell hg y3 nH2
              have z2 := Kp.cell hg c0 nb
              have z3 := Kp.cell hg c1 nb
              have z4 := Kp.cell hg c2 nb
              have z5 := Kp.cell hg c3 nb
              have z6 := Kp.cell hg d0 nb'
              have z7 := Kp.cell hg d1 nb'
              have z8 := Kp.cell hg d2 nb'
              have z9 := Kp.cell hg d3 nb'
              have Hg := Lib.hid hg
              clear hold x0 x1 x2 x3 y0 y1 y2 y3 c0 c1 c2 c3 d0 d1 d2 d3
              have hl := getD_tf hl
              clear hdef
              simp [predsImp, Region.binds, dstAt, fx]
              intros
              rename_i K hK
              obtain ⟨B, hB, hB0, hBl, hz, -⟩ := hj.blk ⟨15, 8, 17, X⟩ (by simp) (hpre ⟨15, Ground.data⟩ (by simp) rfl)
              simp only at hB hz
              have Hz := Lib.hid (hz hl)
              obtain ⟨⟨p0, p1, p2, p3⟩, ⟨f0, f1, f2, f3⟩, _⟩ := (hz hl).parts
              clear hz
              go_simp
              exact hK _ _ rfl (Kp.sets hB0 _ _ _ _) (LateJ.store (x0 := ⟨15, 8, 17, X⟩) (by simp) rfl rfl (by intro x hx h; simp only [List.mem_cons, List.mem_nil_iff, or_false] at hx; rcases hx with rfl | rfl <;> first | rfl | exact absurd h (show ¬ ((16 : Nat) = 15) by decide)) hj (hpre ⟨15, Ground.data⟩ (by simp) rfl) hB (Kp.sets (C := (· = B)) rfl _ _ _ _) (Blk4.sets Hz.out _ _ _ _) _ (show (17 : Nat) < 20 by decide))
            case a18 =>
              intro listed fr ww hj hl hpre hg hdef hold
              have h2 : fr.tmps[2]?.getD undef = .pointer (some ⟨w.heap.size, 0, none⟩) := hold 2 rfl
              have h3 : fr.tmps[3]?.getD undef = .pointer (some ⟨w.heap.size + 1, 0, none⟩) := hold 3 rfl
              have h7 : fr.tmps[7]?.getD undef = .int .i64 j := hold 7 rfl
              have z0 := Kp.cell hg x3 nH1
              have z1 := Kp.cell hg y3 nH2
              have z2 := Kp.cell hg c0 nb
              have z3 := Kp.cell hg c1 nb
              have z4 := Kp.cell hg c2 nb
              have z5 := Kp.cell hg c3 nb
              have z6 := Kp.cell hg d0 nb'
              have z7 := Kp.cell hg d1 nb'
              have z8 := Kp.cell hg d2 nb'
              have z9 := Kp.cell hg d3 nb'
              have Hg := Lib.hid hg
              clear hold x0 x1 x2 x3 y0 y1 y2 y3 c0 c1 c2 c3 d0 d1 d2 d3
              have hl := getD_tf hl
              clear hdef
              simp [predsImp, Region.binds, dstAt, fx]
              intros
              rename_i K hK
              obtain ⟨B, hB, hB0, hBl, hz, -⟩ := hj.blk ⟨16, 9, 18, Y⟩ (by simp) (hpre ⟨16, Ground.data⟩ (by simp) rfl)
              simp only at hB hz
              have Hz := Lib.hid (hz hl)
              obtain ⟨⟨p0, p1, p2, p3⟩, ⟨f0, f1, f2, f3⟩, _⟩ := (hz hl).parts
              clear hz
              go_simp
              exact hK _ _ rfl (Kp.sets hB0 _ _ _ _) (LateJ.store (x0 := ⟨16, 9, 18, Y⟩) (by simp) rfl rfl (by intro x hx h; simp only [List.mem_cons, List.mem_nil_iff, or_false] at hx; rcases hx with rfl | rfl <;> first | rfl | exact absurd h (show ¬ ((15 : Nat) = 16) by decide)) hj (hpre ⟨16, Ground.data⟩ (by simp) rfl) hB (Kp.sets (C := (· = B)) rfl _ _ _ _) (Blk4.sets Hz.out _ _ _ _) _ (show (18 : Nat) < 20 by decide))
            case b10 =>
              intro fr ww hg hold
              have h2 : fr.tmps[2]?.getD undef = .pointer (some ⟨w.heap.size, 0, none⟩) := hold 2 rfl
              have h3 : fr.tmps[3]?.getD undef = .pointer (some ⟨w.heap.size + 1, 0, none⟩) := hold 3 rfl
              have h7 : fr.tmps[7]?.getD undef = .int .i64 j := hold 7 rfl
              have z0 := Kp.cell hg x3 nH1
              have z1 := Kp.cell hg y3 nH2
              have z2 := Kp.cell hg c0 nb
              have z3 := Kp.cell hg c1 nb
              have z4 := Kp.cell hg c2 nb
              have z5 := Kp.cell hg c3 nb
              have z6 := Kp.cell hg d0 nb'
              have z7 := Kp.cell hg d1 nb'
              have z8 := Kp.cell hg d2 nb'
              have z9 := Kp.cell hg d3 nb'
              have Hg := Lib.hid hg
              clear hold x0 x1 x2 x3 y0 y1 y2 y3 c0 c1 c2 c3 d0 d1 d2 d3
              simp [predsImp, Region.binds, dstAt, fx]
              intros
              rename_i K hK
              go_simp
              refine (Hcall.out _ (by omega) (kp_in Hx.out Hxo.out (fun b hb => by have : b < w.heap.size := hb; omega) Hg.out) (kp_in Hx'.out Hxo'.out (fun b hb => by have : b < w.heap.size := hb; omega) Hg.out)).mono ?_
              rintro e w2 ⟨rfl, hb2⟩
              exact hK _ _ rfl hb2
            all_goals
              intro fr ww hg hold
              have h2 : fr.tmps[2]?.getD undef = .pointer (some ⟨w.heap.size, 0, none⟩) := hold 2 rfl
              have h3 : fr.tmps[3]?.getD undef = .pointer (some ⟨w.heap.size + 1, 0, none⟩) := hold 3 rfl
              have h7 : fr.tmps[7]?.getD undef = .int .i64 j := hold 7 rfl
              have z0 := Kp.cell hg x3 nH1
              have z1 := Kp.cell hg y3 nH2
              have z2 := Kp.cell hg c0 nb
              have z3 := Kp.cell hg c1 nb
              have z4 := Kp.cell hg c2 nb
              have z5 := Kp.cell hg c3 nb
              have z6 := Kp.cell hg d0 nb'
              have z7 := Kp.cell hg d1 nb'
              have z8 := Kp.cell hg d2 nb'
              have z9 := Kp.cell hg d3 nb'
              have Hg := Lib.hid hg
              clear hold x0 x1 x2 x3 y0 y1 y2 y3 c0 c1 c2 c3 d0 d1 d2 d3
              simp [predsImp, Region.binds, dstAt, fx]
              intros
              rename_i K hK
              go_simp
            all_goals exact hK _ _ rfl (Gr.rfl' _)
          · intro w9 hg
            rintro _ rfl _ rfl _ rfl _ rfl _ rfl _ rfl _ rfl _ rfl _ rfl _ rfl _ rfl _ rfl _ rfl _ rfl _ rfl _ ⟨P1, rfl⟩ _ ⟨P2, rfl⟩ _ rfl _ rfl _ rfl hap
            simp only [Act.put, List.setIfInBounds_toArray, List.set_cons_succ, List.set_cons_zero, List.drop_succ_cons, List.drop_zero] at hap ⊢
            have e12 : P1 ≠ P2 := hap.two (x := ⟨15, 8, 17, X⟩) (y := ⟨16, 9, 18, Y⟩) (by simp) (by simp) (show (15 : Nat) ≠ 16 by decide) (show (15 : Nat) < 20 by decide) (show (16 : Nat) < 20 by decide) rfl rfl
            obtain ⟨hP1, hP10⟩ := hap.done (x := ⟨15, 8, 17, X⟩) (by simp) (show (15 : Nat) < 20 by decide) (show (17 : Nat) < 20 by decide) (B := P1) rfl
            obtain ⟨hP2, hP20⟩ := hap.done (x := ⟨16, 9, 18, Y⟩) (by simp) (show (16 : Nat) < 20 by decide) (show (18 : Nat) < 20 by decide) (B := P2) rfl
            have g9 : Gr wr w9 := hg.below (fun b hb => hb) (Nat.le_refl _)
            clear hap hg x0 x1 x2 x3 y0 y1 y2 y3 c0 c1 c2 c3 d0 d1 d2 d3
            have D3' := Lib.hid (D3.out.gr g9)
            have D4' := Lib.hid (D4.out.gr g9)
            have n13 : P1 ≠ w.heap.size + 1 + 1 := by omega
            have n14 : P1 ≠ w.heap.size + 1 + 1 + 1 := by omega
            have n23 : P2 ≠ w.heap.size + 1 + 1 := by omega
            have n24 : P2 ≠ w.heap.size + 1 + 1 + 1 := by omega
            have gw9 := Lib.hid (HR.out.trans g9)
            obtain ⟨⟨p0, p1, p2, p3⟩, _, _⟩ := hP1.parts
            obtain ⟨⟨q0, q1, q2, q3⟩, _, _⟩ := hP2.parts
            cases d with
            | true =>
              go_upto_region 7 with fail
              have ne01 : w.heap.size + 1 + 1 ≠ w.heap.size + 1 + 1 + 1 := by omega
              have ne10 : w.heap.size + 1 + 1 + 1 ≠ w.heap.size + 1 + 1 := by omega
              have N1 : ¬ (P1 = w.heap.size + 1 + 1 ∨ P1 = w.heap.size + 1 + 1 + 1) := by omega
              have N2 : ¬ (P2 = w.heap.size + 1 + 1 ∨ P2 = w.heap.size + 1 + 1 + 1) := by omega
              refine wp_region_relyA 5 [fx (.agg #[.int .i64 X.k, .int .i64 X.n, .string X.s, .slice X.p X.l.length X.c]), fx (.agg #[.int .i64 Y.k, .int .i64 Y.n, .string Y.s, .slice Y.p Y.l.length Y.c]), fx undef, fx undef, fx (.bool true)]
                (Kp (fun b => b = w.heap.size + 1 + 1 ∨ b = w.heap.size + 1 + 1 + 1)) (FixJ [⟨2, w.heap.size + 1 + 1, X⟩, ⟨3, w.heap.size + 1 + 1 + 1, Y⟩] 5) (by kernel_rfl) (by kernel_rfl) (by decide) (by kernel_rfl) (fun _ _ h => Kp.of_gr h) (fun _ _ _ h k => Kp.trans h k) (fun w h => FixJ.start (by intro x hx; simp only [List.mem_cons, List.mem_nil_iff, or_false] at hx; rcases hx with rfl | rfl <;> first | exact ⟨_, _, _, _, Blk4.gr D3'.out h⟩ | exact ⟨_, _, _, _, Blk4.gr D4'.out h⟩)) (by repeat (first | exact StableR.nil | refine StableR.fix ?_)) ?_ ?_
              · refine ⟨stepA_plain (fun _ _ h => Kp.of_gr h) (fun listed a w w' v h hg => FixJ.other rfl listed a w w' v h hg) ?_, stepA_plain (fun _ _ h => Kp.of_gr h) (fun listed a w w' v h hg => FixJ.other rfl listed a w w' v h hg) ?_, ?a2, ?a3, stepA_plain (fun _ _ h => Kp.of_gr h) (fun listed a w w' v h hg => FixJ.other rfl listed a w w' v h hg) ?_, trivial⟩
                case a2 =>
                  intro listed fr ww hj hl hpre hg hdef hold
                  have h4 : fr.tmps[4]?.getD undef = .pointer (some ⟨w.heap.size + 1 + 1, 0, none⟩) := hold 4 rfl
                  have h5 : fr.tmps[5]?.getD undef = .pointer (some ⟨w.heap.size + 1 + 1 + 1, 0, none⟩) := hold 5 rfl
                  have h8 : fr.tmps[8]?.getD undef = .pointer (some ⟨P1, 0, none⟩) := hold 8 rfl
                  have h9 : fr.tmps[9]?.getD undef = .pointer (some ⟨P2, 0, none⟩) := hold 9 rfl
                  have z0 := Kp.cell hg p0 N1
                  have z1 := Kp.cell hg p1 N1
                  have z2 := Kp.cell hg p2 N1
                  have z3 := Kp.cell hg p3 N1
                  have y0 := Kp.cell hg q0 N2
                  have y1 := Kp.cell hg q1 N2
                  have y2 := Kp.cell hg q2 N2
                  have y3 := Kp.cell hg q3 N2
                  clear hold p0 p1 p2 p3 q0 q1 q2 q3
                  clear hdef
                  simp [predsImp, Region.binds, dstAt, fx]
                  intros
                  rename_i K hK
                  obtain ⟨⟨u0, u1, u2, u3, q1⟩, -⟩ := hj.blk ⟨2, w.heap.size + 1 + 1, X⟩ (by simp)
                  simp only at q1
                  have Hq := Lib.hid q1
                  obtain ⟨⟨p0, p1, p2, p3⟩, ⟨f0, f1, f2, f3⟩, _⟩ := q1.parts
                  clear q1
                  go_simp
                  exact hK _ _ rfl (Kp.sets (.inl rfl) _ _ _ _) (FixJ.store (x0 := ⟨2, w.heap.size + 1 + 1, X⟩) (by simp) rfl (by intro x hx; simp only [List.mem_cons, List.mem_nil_iff, or_false] at hx; rcases hx with rfl | rfl <;> first | (exact .inl rfl) | (exact .inr ⟨show (3 : Nat) ≠ 2 by decide, ne10⟩)) hj (Kp.sets (C := (· = w.heap.size + 1 + 1)) rfl _ _ _ _) (Blk4.sets Hq.out _ _ _ _) _)
                case a3 =>
                  intro listed fr ww hj hl hpre hg hdef hold
                  have h4 : fr.tmps[4]?.getD undef = .pointer (some ⟨w.heap.size + 1 + 1, 0, none⟩) := hold 4 rfl
                  have h5 : fr.tmps[5]?.getD undef = .pointer (some ⟨w.heap.size + 1 + 1 + 1, 0, none⟩) := hold 5 rfl
                  have h8 : fr.tmps[8]?.getD undef = .pointer (some ⟨P1, 0, none⟩) := hold 8 rfl
                  have h9 : fr.tmps[9]?.getD undef = .pointer (some ⟨P2, 0, none⟩) := hold 9 rfl
                  have z0 := Kp.cell hg p0 N1
                  have z1 := Kp.cell hg p1 N1
                  have z2 := Kp.cell hg p2 N1
                  have z3 := Kp.cell hg p3 N1
                  have y0 := Kp.cell hg q0 N2
                  have y1 := Kp.cell hg q1 N2
                  have y2 := Kp.cell hg q2 N2
                  have y3 := Kp.cell hg q3 N2
                  clear hold p0 p1 p2 p3 q0 q1 q2 q3
                  clear hdef
                  simp [predsImp, Region.binds, dstAt, fx]
                  intros
                  rename_i K hK
                  obtain ⟨⟨u0, u1, u2, u3, q1⟩, -⟩ := hj.blk ⟨3, w.heap.size + 1 + 1 + 1, Y⟩ (by simp)
                  simp only at q1
                  have Hq := Lib.hid q1
                  obtain ⟨⟨p0, p1, p2, p3⟩, ⟨f0, f1, f2, f3⟩, _⟩ := q1.parts
                  clear q1
                  go_simp
                  exact hK _ _ rfl (Kp.sets (.inr rfl) _ _ _ _) (FixJ.store (x0 := ⟨3, w.heap.size + 1 + 1 + 1, Y⟩) (by simp) rfl (by intro x hx; simp only [List.mem_cons, List.mem_nil_iff, or_false] at hx; rcases hx with rfl | rfl <;> first | (exact .inr ⟨show (2 : Nat) ≠ 3 by decide, ne01⟩) | (exact .inl rfl)) hj (Kp.sets (C := (· = w.heap.size + 1 + 1 + 1)) rfl _ _ _ _) (Blk4.sets Hq.out _ _ _ _) _)
                all_goals
                  intro fr ww hg hold
                  have h4 : fr.tmps[4]?.getD undef = .pointer (some ⟨w.heap.size + 1 + 1, 0, none⟩) := hold 4 rfl
                  have h5 : fr.tmps[5]?.getD undef = .pointer (some ⟨w.heap.size + 1 + 1 + 1, 0, none⟩) := hold 5 rfl
                  have h8 : fr.tmps[8]?.getD undef = .pointer (some ⟨P1, 0, none⟩) := hold 8 rfl
                  have h9 : fr.tmps[9]?.getD undef = .pointer (some ⟨P2, 0, none⟩) := hold 9 rfl
                  have z0 := Kp.cell hg p0 N1
                  have z1 := Kp.cell hg p1 N1
                  have z2 := Kp.cell hg p2 N1
                  have z3 := Kp.cell hg p3 N1
                  have y0 := Kp.cell hg q0 N2
                  have y1 := Kp.cell hg q1 N2
                  have y2 := Kp.cell hg q2 N2
                  have y3 := Kp.cell hg q3 N2
                  clear hold p0 p1 p2 p3 q0 q1 q2 q3
                  simp [predsImp, Region.binds, dstAt, fx]
                  intros
                  rename_i K hK
                  go_simp
                all_goals exact hK _ _ rfl (Gr.rfl' _)
              · intro wz hg
                rintro _ rfl _ rfl _ rfl _ rfl _ rfl hap
                simp only [Act.put, List.setIfInBounds_toArray, List.set_cons_succ, List.set_cons_zero, List.drop_succ_cons, List.drop_zero] at hap ⊢
                obtain ⟨⟨r0, r1, r2, r3⟩, _, _⟩ := (hap.done (x := ⟨2, w.heap.size + 1 + 1, X⟩) (by simp) (show (2 : Nat) < 5 by decide)).parts
                obtain ⟨⟨s0, s1, s2, s3⟩, _, _⟩ := (hap.done (x := ⟨3, w.heap.size + 1 + 1 + 1, Y⟩) (by simp) (show (3 : Nat) < 5 by decide)).parts
                simp only at r0 r1 r2 r3 s0 s1 s2 s3
                have gz : Gr w wz := Below.trans gw9.out (hg.below (fun b hb => by omega) gw9.out.size)
                clear hap hg p0 p1 p2 p3 q0 q1 q2 q3
                go_wp2_with fail
                exact bodyPost_ret (v := .tuple #[X.val, Y.val, .bool true]) (by simp (maxDischargeDepth := 9) [results, Tryz.results61, go_sem, r0, r1, r2, r3, s0, s1, s2, s3, Tm.val]) rfl (HQ.out X Y true _ (Hhere.out X Y rfl) gz)
            | false =>
              go_wp2_with fail
              go_roundg (l.length - (j + 1))
              case measure => omega
              case rel => exact ⟨j + 1, by omega, rfl, by go_num, Hnext.out X Y rfl, hgr.out.trans g9⟩
        · obtain rfl : j = l.length := by omega
          have HF0 : Hid (F = (.mk 4 n s p c l, .mk 4 n' s' p' c' l', false)) := HFc.out.trans (by rw [Tm.fdL_none l l' fun a h h' => hpre.out a h h' h])
          have gwr := Lib.hid (GA.out.trans hgr.out)
          have ne01 : w.heap.size + 1 + 1 ≠ w.heap.size + 1 + 1 + 1 := by omega
          have ne10 : w.heap.size + 1 + 1 + 1 ≠ w.heap.size + 1 + 1 := by omega
          have N1 : ¬ (w.heap.size = w.heap.size + 1 + 1 ∨ w.heap.size = w.heap.size + 1 + 1 + 1) := by omega
          have N2 : ¬ (w.heap.size + 1 = w.heap.size + 1 + 1 ∨ w.heap.size + 1 = w.heap.size + 1 + 1 + 1) := by omega
          go_upto_region 8 with fail
          refine wp_region_relyA 5 [fx (.agg #[.int .i64 4, .int .i64 n, .string s, .slice p l.length c]), fx (.agg #[.int .i64 4, .int .i64 n', .string s', .slice p' l.length c']), fx undef, fx undef, fx (.bool false)]
            (Kp (fun b => b = w.heap.size + 1 + 1 ∨ b = w.heap.size + 1 + 1 + 1)) (FixJ [⟨2, w.heap.size + 1 + 1, (Tm.mk 4 n s p c l)⟩, ⟨3, w.heap.size + 1 + 1 + 1, (Tm.mk 4 n' s' p' c' l')⟩] 5) (by kernel_rfl) (by kernel_rfl) (by decide) (by kernel_rfl) (fun _ _ h => Kp.of_gr h) (fun _ _ _ h k => Kp.trans h k) (fun w h => FixJ.start (by intro x hx; simp only [List.mem_cons, List.mem_nil_iff, or_false] at hx; rcases hx with rfl | rfl <;> first | exact ⟨_, _, _, _, Blk4.gr D3.out h⟩ | exact ⟨_, _, _, _, Blk4.gr D4.out h⟩)) (by repeat (first | exact StableR.nil | refine StableR.fix ?_)) ?_ ?_
          · refine ⟨stepA_plain (fun _ _ h => Kp.of_gr h) (fun listed a w w' v h hg => FixJ.other rfl listed a w w' v h hg) ?_, stepA_plain (fun _ _ h => Kp.of_gr h) (fun listed a w w' v h hg => FixJ.other rfl listed a w w' v h hg) ?_, ?a2, ?a3, stepA_plain (fun _ _ h => Kp.of_gr h) (fun listed a w w' v h hg => FixJ.other rfl listed a w w' v h hg) ?_, trivial⟩
            case a2 =>
              intro listed fr ww hj hl hpre hg hdef hold
              have h2 : fr.tmps[2]?.getD undef = .pointer (some ⟨w.heap.size, 0, none⟩) := hold 2 rfl
              have h3 : fr.tmps[3]?.getD undef = .pointer (some ⟨w.heap.size + 1, 0, none⟩) := hold 3 rfl
              have h4 : fr.tmps[4]?.getD undef = .pointer (some ⟨w.heap.size + 1 + 1, 0, none⟩) := hold 4 rfl
              have h5 : fr.tmps[5]?.getD undef = .pointer (some ⟨w.heap.size + 1 + 1 + 1, 0, none⟩) := hold 5 rfl
              have z0 := Kp.cell hg x0 N1
              have z1 := Kp.cell hg x1 N1
              have z2 := Kp.cell hg x2 N1
              have z3 := Kp.cell hg x3 N1
              have z4 := Kp.cell hg y0 N2
              have z5 := Kp.cell hg y1 N2
              have z6 := Kp.cell hg y2 N2
              have z7 := Kp.cell hg y3 N2
              have Hg := Lib.hid hg
              clear hold x0 x1 x2 x3 y0 y1 y2 y3
              clear hdef
              simp [predsImp, Region.binds, dstAt, fx]
              intros
              rename_i K hK
              obtain ⟨⟨u0, u1, u2, u3, q1⟩, -⟩ := hj.blk ⟨2, w.heap.size + 1 + 1, (Tm.mk 4 n s p c l)⟩ (by simp)
              simp only at q1
              have Hq := Lib.hid q1
              obtain ⟨⟨p0, p1, p2, p3⟩, ⟨f0, f1, f2, f3⟩, _⟩ := q1.parts
              clear q1
              go_simp
              exact hK _ _ rfl (Kp.sets (.inl rfl) _ _ _ _) (FixJ.store (x0 := ⟨2, w.heap.size + 1 + 1, (Tm.mk 4 n s p c l)⟩) (by simp) rfl (by intro x hx; simp only [List.mem_cons, List.mem_nil_iff, or_false] at hx; rcases hx with rfl | rfl <;> first | (exact .inl rfl) | (exact .inr ⟨show (3 : Nat) ≠ 2 by decide, ne10⟩)) hj (Kp.sets (C := (· = w.heap.size + 1 + 1)) rfl _ _ _ _) (Blk4.sets Hq.out _ _ _ _) _)
            case a3 =>
              intro listed fr ww hj hl hpre hg hdef hold
              have h2 : fr.tmps[2]?.getD undef = .pointer (some ⟨w.heap.size, 0, none⟩) := hold 2 rfl
              have h3 : fr.tmps[3]?.getD undef = .pointer (some ⟨w.heap.size + 1, 0, none⟩) := hold 3 rfl
              have h4 : fr.tmps[4]?.getD undef = .pointer (some ⟨w.heap.size + 1 + 1, 0, none⟩) := hold 4 rfl
              have h5 : fr.tmps[5]?.getD undef = .pointer (some ⟨w.heap.size + 1 + 1 + 1, 0, none⟩) := hold 5 rfl
              have z0 := Kp.cell hg x0 N1
              have z1 := Kp.cell hg x1 N1
              have z2 := Kp.cell hg x2 N1
              have z3 := Kp.cell hg x3 N1
              have z4 := Kp.cell hg y0 N2
              have z5 := Kp.cell hg y1 N2
              have z6 := Kp.cell hg y2 N2
              have z7 := Kp.cell hg y3 N2
              have Hg := Lib.hid hg
              clear hold x0 x1 x2 x3 y0 y1 y2 y3
              clear hdef
              simp [predsImp, Region.binds, dstAt, fx]
              intros
              rename_i K hK
              obtain ⟨⟨u0, u1, u2, u3, q1⟩, -⟩ := hj.blk ⟨3, w.heap.size + 1 + 1 + 1, (Tm.mk 4 n' s' p' c' l')⟩ (by simp)
              simp only at q1
              have Hq := Lib.hid q1
              obtain ⟨⟨p0, p1, p2, p3⟩, ⟨f0, f1, f2, f3⟩, _⟩ := q1.parts
              clear q1
              go_simp
              exact hK _ _ rfl (Kp.sets (.inr rfl) _ _ _ _) (FixJ.store (x0 := ⟨3, w.heap.size + 1 + 1 + 1, (Tm.mk 4 n' s' p' c' l')⟩) (by simp) rfl (by intro x hx; simp only [List.mem_cons, List.mem_nil_iff, or_false] at hx; rcases hx with rfl | rfl <;> first | (exact .inr ⟨show (2 : Nat) ≠ 3 by decide, ne01⟩) | (exact .inl rfl)) hj (Kp.sets (C := (· = w.heap.size + 1 + 1 + 1)) rfl _ _ _ _) (show BlkTm _ _ _ from by rw [BlkTm]; simp only [Tm.k, Tm.n, Tm.s, Tm.p, Tm.c, Tm.l]; rw [E4.out]; exact Blk4.sets Hq.out _ _ _ _) _)
            all_goals
              intro fr ww hg hold
              have h2 : fr.tmps[2]?.getD undef = .pointer (some ⟨w.heap.size, 0, none⟩) := hold 2 rfl
              have h3 : fr.tmps[3]?.getD undef = .pointer (some ⟨w.heap.size + 1, 0, none⟩) := hold 3 rfl
              have h4 : fr.tmps[4]?.getD undef = .pointer (some ⟨w.heap.size + 1 + 1, 0, none⟩) := hold 4 rfl
              have h5 : fr.tmps[5]?.getD undef = .pointer (some ⟨w.heap.size + 1 + 1 + 1, 0, none⟩) := hold 5 rfl
              have z0 := Kp.cell hg x0 N1
              have z1 := Kp.cell hg x1 N1
              have z2 := Kp.cell hg x2 N1
              have z3 := Kp.cell hg x3 N1
              have z4 := Kp.cell hg y0 N2
              have z5 := Kp.cell hg y1 N2
              have z6 := Kp.cell hg y2 N2
              have z7 := Kp.cell hg y3 N2
              have Hg := Lib.hid hg
              clear hold x0 x1 x2 x3 y0 y1 y2 y3
              simp [predsImp, Region.binds, dstAt, fx]
              intros
              rename_i K hK
              go_simp
            all_goals exact hK _ _ rfl (Gr.rfl' _)
          · intro wz hg
            rintro _ rfl _ rfl _ rfl _ rfl _ rfl hap
            simp only [Act.put, List.setIfInBounds_toArray, List.set_cons_succ, List.set_cons_zero, List.drop_succ_cons, List.drop_zero] at hap ⊢
            obtain ⟨⟨r0, r1, r2, r3⟩, _, _⟩ := (hap.done (x := ⟨2, w.heap.size + 1 + 1, (Tm.mk 4 n s p c l)⟩) (by simp) (show (2 : Nat) < 5 by decide)).parts
            obtain ⟨⟨s0, s1, s2, s3⟩, _, _⟩ := (hap.done (x := ⟨3, w.heap.size + 1 + 1 + 1, (Tm.mk 4 n' s' p' c' l')⟩) (by simp) (show (3 : Nat) < 5 by decide)).parts
            simp only [Tm.k, Tm.n, Tm.s, Tm.p, Tm.c, Tm.l] at r0 r1 r2 r3 s0 s1 s2 s3
            have gz : Gr w wz := Below.trans gwr.out (hg.below (fun b hb => by omega) gwr.out.size)
            clear hap hg x0 x1 x2 x3 y0 y1 y2 y3
            go_wp2_with fail
            exact bodyPost_ret (v := .tuple #[(Tm.mk 4 n s p c l).val, (Tm.mk 4 n' s' p' c' l').val, .bool false]) (by simp (maxDischargeDepth := 9) [results, Tryz.results61, go_sem, r0, r1, r2, r3, s0, s1, s2, s3, Tm.val, Tm.k, Tm.n, Tm.s, Tm.p, Tm.c, Tm.l]) rfl (HQ.out _ _ _ _ HF0.out gz)
    · have HFc : Hid (F = (.mk k n s p c l, .mk k' n' s' p' c' l', !T.same (Tm.mk k n s p c l).erase (Tm.mk k' n' s' p' c' l').erase)) := HF.out.symm.trans (by rw [Tm.fd, if_neg hg])
      have Hg0 := Lib.hid hg
      clear HF hg
      go_enter Tryz.func61, Tryz.ntmps61
      try simp only [List.append_eq, List.cons_append, List.nil_append]
      go_upto_region 1 with fail
      obtain ⟨b1, b2, b3, b4, gA, sA⟩ := four.out _ rfl
      generalize ((((w.alloc (.cells #[.int .i64 k, .int .i64 n, .string s, .slice p l.length c] 24)).alloc (.cells #[.int .i64 k', .int .i64 n', .string s', .slice p' l'.length c'] 24)).alloc (.cells #[.int .i64 0, .int .i64 0, .string ⟨#[]⟩, .slice none 0 0] 24)).alloc (.cells #[.int .i64 0, .int .i64 0, .string ⟨#[]⟩, .slice none 0 0] 24)) = wA at *
      obtain ⟨⟨x0, x1, x2, x3⟩, _, _⟩ := b1.parts
      obtain ⟨⟨y0, y1, y2, y3⟩, _, _⟩ := b2.parts
      have D3 := Lib.hid b3
      have D4 := Lib.hid b4
      have gwr := Lib.hid gA
      clear b1 b2 b3 b4 four gA
      go_cut [34] from 11 to 34 (fun v wx => v = .bool false ∧ wx = wA)
      case first =>
        by_cases k4 : k = 4
        · subst k4
          by_cases k4' : k' = 4
          · subst k4'
            cases hs9 : (s.toList == s'.toList) with
            | true =>
              have hl9 : ((l.length : Int) == l'.length) = false := by
                rw [beq_eq_false_iff_ne]
                intro e
                exact Hg0.out ⟨rfl, rfl, by simpa using hs9, by omega⟩
              go_wp2_with fail
              go_meet
              exact ⟨rfl, rfl⟩
            | false =>
              go_wp2_with fail
              go_meet
              exact ⟨rfl, rfl⟩
          · have k9 : (k' == 4) = false := by simpa using k4'
            go_wp2_with fail
            go_meet
            exact ⟨rfl, rfl⟩
        · have k9 : (k == 4) = false := by simpa using k4
          go_wp2_with fail
          go_meet
          exact ⟨rfl, rfl⟩
      obtain ⟨rfl, rfl⟩ := hcut
      have ne01 : w.heap.size + 1 + 1 ≠ w.heap.size + 1 + 1 + 1 := by omega
      have ne10 : w.heap.size + 1 + 1 + 1 ≠ w.heap.size + 1 + 1 := by omega
      have N1 : ¬ (w.heap.size = w.heap.size + 1 + 1 ∨ w.heap.size = w.heap.size + 1 + 1 + 1) := by omega
      have N2 : ¬ (w.heap.size + 1 = w.heap.size + 1 + 1 ∨ w.heap.size + 1 = w.heap.size + 1 + 1 + 1) := by omega
      have hsame := fun W (h1 : (Tm.mk k n s p c l).In W) h2 => same_calls (t := .mk k n s p c l) (u := .mk k' n' s' p' c' l') (w := W) h1 h2
      simp only [Tm.val, Tm.k, Tm.n, Tm.s, Tm.p, Tm.c, Tm.l] at hsame
      generalize T.same (Tm.mk k n s p c l).erase (Tm.mk k' n' s' p' c' l').erase = sb at *
      have Hsame := Lib.hid hsame
      clear hsame
      go_upto_region 9 with fail
      refine wp_region_relyA 9 [fx (.agg #[.int .i64 k, .int .i64 n, .string s, .slice p l.length c]), fx (.agg #[.int .i64 k', .int .i64 n', .string s', .slice p' l'.length c']), fx (.agg #[.int .i64 k, .int .i64 n, .string s, .slice p l.length c]), fx (.agg #[.int .i64 k', .int .i64 n', .string s', .slice p' l'.length c']), fx (.bool sb), fx (.bool !sb), fx undef, fx undef, fx (.bool (!sb))]
        (Kp (fun b => b = w.heap.size + 1 + 1 ∨ b = w.heap.size + 1 + 1 + 1)) (FixJ [⟨6, w.heap.size + 1 + 1, (Tm.mk k n s p c l)⟩, ⟨7, w.heap.size + 1 + 1 + 1, (Tm.mk k' n' s' p' c' l')⟩] 9) (by kernel_rfl) (by kernel_rfl) (by decide) (by kernel_rfl) (fun _ _ h => Kp.of_gr h) (fun _ _ _ h k => Kp.trans h k) (fun w h => FixJ.start (by intro x hx; simp only [List.mem_cons, List.mem_nil_iff, or_false] at hx; rcases hx with rfl | rfl <;> first | exact ⟨_, _, _, _, Blk4.gr D3.out h⟩ | exact ⟨_, _, _, _, Blk4.gr D4.out h⟩)) (by repeat (first | exact StableR.nil | refine StableR.fix ?_)) ?_ ?_
      · refine ⟨stepA_plain (fun _ _ h => Kp.of_gr h) (fun listed a w w' v h hg => FixJ.other rfl listed a w w' v h hg) ?_, stepA_plain (fun _ _ h => Kp.of_gr h) (fun listed a w w' v h hg => FixJ.other rfl listed a w w' v h hg) ?_, stepA_plain (fun _ _ h => Kp.of_gr h) (fun listed a w w' v h hg => FixJ.other rfl listed a w w' v h hg) ?_, stepA_plain (fun _ _ h => Kp.of_gr h) (fun listed a w w' v h hg => FixJ.other rfl listed a w w' v h hg) ?_, stepA_plain (fun _ _ h => Kp.of_gr h) (fun listed a w w' v h hg => FixJ.other rfl listed a w w' v h hg) ?b4, stepA_plain (fun _ _ h => Kp.of_gr h) (fun listed a w w' v h hg => FixJ.other rfl listed a w w' v h hg) ?_, ?a6, ?a7, stepA_plain (fun _ _ h => Kp.of_gr h) (fun listed a w w' v h hg => FixJ.other rfl listed a w w' v h hg) ?_, trivial⟩
        case a6 =>
          intro listed fr ww hj hl hpre hg hdef hold
          have h2 : fr.tmps[2]?.getD undef = .pointer (some ⟨w.heap.size, 0, none⟩) := hold 2 rfl
          have h3 : fr.tmps[3]?.getD undef = .pointer (some ⟨w.heap.size + 1, 0, none⟩) := hold 3 rfl
          have h4 : fr.tmps[4]?.getD undef = .pointer (some ⟨w.heap.size + 1 + 1, 0, none⟩) := hold 4 rfl
          have h5 : fr.tmps[5]?.getD undef = .pointer (some ⟨w.heap.size + 1 + 1 + 1, 0, none⟩) := hold 5 rfl
          have z0 := Kp.cell hg x0 N1
          have z1 := Kp.cell hg x1 N1
          have z2 := Kp.cell hg x2 N1
          have z3 := Kp.cell hg x3 N1
          have z4 := Kp.cell hg y0 N2
          have z5 := Kp.cell hg y1 N2
          have z6 := Kp.cell hg y2 N2
          have z7 := Kp.cell hg y3 N2
          have Hg := Lib.hid hg
          clear hold x0 x1 x2 x3 y0 y1 y2 y3
          clear hdef
          simp [predsImp, Region.binds, dstAt, fx]
          intros
          rename_i K hK
          obtain ⟨⟨u0, u1, u2, u3, q1⟩, -⟩ := hj.blk ⟨6, w.heap.size + 1 + 1, (Tm.mk k n s p c l)⟩ (by simp)
          simp only at q1
          have Hq := Lib.hid q1
          obtain ⟨⟨p0, p1, p2, p3⟩, ⟨f0, f1, f2, f3⟩, _⟩ := q1.parts
          clear q1
          go_simp
          exact hK _ _ rfl (Kp.sets (.inl rfl) _ _ _ _) (FixJ.store (x0 := ⟨6, w.heap.size + 1 + 1, (Tm.mk k n s p c l)⟩) (by simp) rfl (by intro x hx; simp only [List.mem_cons, List.mem_nil_iff, or_false] at hx; rcases hx with rfl | rfl <;> first | (exact .inl rfl) | (exact .inr ⟨show (7 : Nat) ≠ 6 by decide, ne10⟩)) hj (Kp.sets (C := (· = w.heap.size + 1 + 1)) rfl _ _ _ _) (Blk4.sets Hq.out _ _ _ _) _)
        case a7 =>
          intro listed fr ww hj hl hpre hg hdef hold
          have h2 : fr.tmps[2]?.getD undef = .pointer (some ⟨w.heap.size, 0, none⟩) := hold 2 rfl
          have h3 : fr.tmps[3]?.getD undef = .pointer (some ⟨w.heap.size + 1, 0, none⟩) := hold 3 rfl
          have h4 : fr.tmps[4]?.getD undef = .pointer (some ⟨w.heap.size + 1 + 1, 0, none⟩) := hold 4 rfl
          have h5 : fr.tmps[5]?.getD undef = .pointer (some ⟨w.heap.size + 1 + 1 + 1, 0, none⟩) := hold 5 rfl
          have z0 := Kp.cell hg x0 N1
          have z1 := Kp.cell hg x1 N1
          have z2 := Kp.cell hg x2 N1
          have z3 := Kp.cell hg x3 N1
          have z4 := Kp.cell hg y0 N2
          have z5 := Kp.cell hg y1 N2
          have z6 := Kp.cell hg y2 N2
          have z7 := Kp.cell hg y3 N2
          have Hg := Lib.hid hg
          clear hold x0 x1 x2 x3 y0 y1 y2 y3
          clear hdef
          simp [predsImp, Region.binds, dstAt, fx]
          intros
          rename_i K hK
          obtain ⟨⟨u0, u1, u2, u3, q1⟩, -⟩ := hj.blk ⟨7, w.heap.size + 1 + 1 + 1, (Tm.mk k' n' s' p' c' l')⟩ (by simp)
          simp only at q1
          have Hq := Lib.hid q1
          obtain ⟨⟨p0, p1, p2, p3⟩, ⟨f0, f1, f2, f3⟩, _⟩ := q1.parts
          clear q1
          go_simp
          exact hK _ _ rfl (Kp.sets (.inr rfl) _ _ _ _) (FixJ.store (x0 := ⟨7, w.heap.size + 1 + 1 + 1, (Tm.mk k' n' s' p' c' l')⟩) (by simp) rfl (by intro x hx; simp only [List.mem_cons, List.mem_nil_iff, or_false] at hx; rcases hx with rfl | rfl <;> first | (exact .inr ⟨show (6 : Nat) ≠ 7 by decide, ne01⟩) | (exact .inl rfl)) hj (Kp.sets (C := (· = w.heap.size + 1 + 1 + 1)) rfl _ _ _ _) (Blk4.sets Hq.out _ _ _ _) _)
        case b4 =>
          intro fr ww hg hold
          have h2 : fr.tmps[2]?.getD undef = .pointer (some ⟨w.heap.size, 0, none⟩) := hold 2 rfl
          have h3 : fr.tmps[3]?.getD undef = .pointer (some ⟨w.heap.size + 1, 0, none⟩) := hold 3 rfl
          have h4 : fr.tmps[4]?.getD undef = .pointer (some ⟨w.heap.size + 1 + 1, 0, none⟩) := hold 4 rfl
          have h5 : fr.tmps[5]?.getD undef = .pointer (some ⟨w.heap.size + 1 + 1 + 1, 0, none⟩) := hold 5 rfl
          have z0 := Kp.cell hg x0 N1
          have z1 := Kp.cell hg x1 N1
          have z2 := Kp.cell hg x2 N1
          have z3 := Kp.cell hg x3 N1
          have z4 := Kp.cell hg y0 N2
          have z5 := Kp.cell hg y1 N2
          have z6 := Kp.cell hg y2 N2
          have z7 := Kp.cell hg y3 N2
          have Hg := Lib.hid hg
          clear hold x0 x1 x2 x3 y0 y1 y2 y3
          simp [predsImp, Region.binds, dstAt, fx]
          intros
          rename_i K hK
          go_simp
          refine (Hsame.out _ (kp_in (Tm.In_below gwr.out Ht.out) Ht.out.on (fun b hb => by have : b < w.heap.size := hb; omega) Hg.out) (kp_in (Tm.In_below gwr.out Hu.out) Hu.out.on (fun b hb => by have : b < w.heap.size := hb; omega) Hg.out)).mono ?_
          rintro e w2 ⟨rfl, hb2⟩
          exact hK _ _ rfl hb2
        all_goals
          intro fr ww hg hold
          have h2 : fr.tmps[2]?.getD undef = .pointer (some ⟨w.heap.size, 0, none⟩) := hold 2 rfl
          have h3 : fr.tmps[3]?.getD undef = .pointer (some ⟨w.heap.size + 1, 0, none⟩) := hold 3 rfl
          have h4 : fr.tmps[4]?.getD undef = .pointer (some ⟨w.heap.size + 1 + 1, 0, none⟩) := hold 4 rfl
          have h5 : fr.tmps[5]?.getD undef = .pointer (some ⟨w.heap.size + 1 + 1 + 1, 0, none⟩) := hold 5 rfl
          have z0 := Kp.cell hg x0 N1
          have z1 := Kp.cell hg x1 N1
          have z2 := Kp.cell hg x2 N1
          have z3 := Kp.cell hg x3 N1
          have z4 := Kp.cell hg y0 N2
          have z5 := Kp.cell hg y1 N2
          have z6 := Kp.cell hg y2 N2
          have z7 := Kp.cell hg y3 N2
          have Hg := Lib.hid hg
          clear hold x0 x1 x2 x3 y0 y1 y2 y3
          simp [predsImp, Region.binds, dstAt, fx]
          intros
          rename_i K hK
          go_simp
        all_goals exact hK _ _ rfl (Gr.rfl' _)
      · intro wz hg
        rintro _ rfl _ rfl _ rfl _ rfl _ rfl _ rfl _ rfl _ rfl _ rfl hap
        simp only [Act.put, List.setIfInBounds_toArray, List.set_cons_succ, List.set_cons_zero, List.drop_succ_cons, List.drop_zero] at hap ⊢
        obtain ⟨⟨r0, r1, r2, r3⟩, _, _⟩ := (hap.done (x := ⟨6, w.heap.size + 1 + 1, (Tm.mk k n s p c l)⟩) (by simp) (show (6 : Nat) < 9 by decide)).parts
        obtain ⟨⟨s0, s1, s2, s3⟩, _, _⟩ := (hap.done (x := ⟨7, w.heap.size + 1 + 1 + 1, (Tm.mk k' n' s' p' c' l')⟩) (by simp) (show (7 : Nat) < 9 by decide)).parts
        simp only [Tm.k, Tm.n, Tm.s, Tm.p, Tm.c, Tm.l] at r0 r1 r2 r3 s0 s1 s2 s3
        have gz : Gr w wz := Below.trans gwr.out (hg.below (fun b hb => by omega) gwr.out.size)
        clear hap hg x0 x1 x2 x3 y0 y1 y2 y3
        go_wp2_with fail
        exact bodyPost_ret (v := .tuple #[(Tm.mk k n s p c l).val, (Tm.mk k' n' s' p' c' l').val, .bool (!sb)]) (by simp (maxDischargeDepth := 9) [results, Tryz.results61, go_sem, r0, r1, r2, r3, s0, s1, s2, s3, Tm.val, Tm.k, Tm.n, Tm.s, Tm.p, Tm.c, Tm.l]) rfl (HQ.out _ _ _ _ HFc.out gz)
/-- hornref.first -/
theorem first_calls (t u : Tm) (w : World) (ht : t.In w) (hu : u.In w) :
    Calls Tryz.prog 61 #[t.val, u.val] w (Ret (.tuple #[(Tm.fd t u).1.val, (Tm.fd t u).2.1.val, .bool (Tm.fd t u).2.2]) w) := first_any _ t u w (Nat.le_refl _) ht hu
end Go.Proofs.YtjdoflfdlhpbmaaGreat
