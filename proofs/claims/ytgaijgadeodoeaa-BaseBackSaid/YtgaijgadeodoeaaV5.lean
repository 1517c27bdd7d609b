/-
  term.Map with the function of term.Renamed: any term.
-/
import Derived.Test.YtgaijgadeodoeaaV4
namespace Go.Proofs.Ytgaijgadeodoeaa
open Go.RowKit Go.Maps

theorem mem_withVar (V : List Int) (n : Int) : n ∈ withVar V n := by
  unfold withVar
  split
  · assumption
  · exact List.mem_append_right _ (List.mem_singleton.2 rfl)

theorem eraseL_takes (l : List Tm) (k : Nat) : Tm.eraseL (l.take k) = (Tm.eraseL l).take k := by
  induction l generalizing k with
  | nil => simp [Tm.eraseL]
  | cons x xs ih =>
    cases k with
    | zero => simp [Tm.eraseL]
    | succ k => rw [List.take_succ_cons, Tm.eraseL, Tm.eraseL, List.take_succ_cons, ih]
theorem varsL_step (l : List Tm) (k : Nat) (hk : k < l.length) (V : List Int) : T.varsL (Tm.eraseL (l.take (k + 1))) V = T.vars l[k].erase (T.varsL (Tm.eraseL (l.take k)) V) := by
  rw [List.take_succ_eq_append_getElem hk, eraseL_append, T.varsL_append, Tm.eraseL, Tm.eraseL, T.varsL_single]
theorem formedL_erase {l : List Tm} (h : ∀ x ∈ l, x.erase.formed = true) : T.formedL (Tm.eraseL l) = true := by
  induction l with
  | nil => rw [Tm.eraseL, T.formedL]
  | cons x xs ih =>
    rw [Tm.eraseL, T.formedL, h x (List.mem_cons_self ..), ih fun y hy => h y (List.mem_cons_of_mem _ hy)]
    rfl
theorem mapL_step (l : List Tm) (hf : ∀ x ∈ l, x.erase.formed = true) (k : Nat) (hk : k < l.length) (d : Int) (V : List Int) :
    T.mapL (swapF d (T.varsL (Tm.eraseL (l.take (k + 1))) V)) (Tm.eraseL (l.take (k + 1))) =
      T.mapL (swapF d (T.varsL (Tm.eraseL (l.take k)) V)) (Tm.eraseL (l.take k)) ++ [T.map (swapF d (T.vars l[k].erase (T.varsL (Tm.eraseL (l.take k)) V))) l[k].erase] := by
  rw [T.mapL_erase _ l k hk, varsL_step l k hk V]
  congr 1
  exact T.mapL_swap (T.vars_prefix _ _) (T.varsL_within _ _ (formedL_erase fun x hx => hf x (List.mem_of_mem_take hx)))

set_option maxHeartbeats 4000000 in
set_option maxRecDepth 100000 in
theorem mapRen_any (NN : Nat) : ∀ (t : Tm) (d : Int) (V : List Int) (N M F : Nat) (w0 w : World), SizeOf.sizeOf t ≤ NN → t.In w0 → t.erase.formed = true → Gr w0 w → (w0.heap.size ≤ M ∧ w0.heap.size ≤ F) → (0 ≤ d ∧ d ≤ 1099511627777) → VarsOk V → RenSt d V N M F w →
    Calls Try.prog 77 #[t.val, .func (.func 114) #[] #[.pointer (some ⟨N, 0, none⟩), .pointer (some ⟨F, 0, none⟩)]] w (RetRen d V t.erase N M F w) := by
  induction NN with
  | zero => intro t d V N M F w0 w h; cases t; simp at h
  | succ NN ih =>
    intro t d V N M F w0 w hN h hfm hgr hMF hd hV hst
    obtain ⟨k, n, s, p, c, l⟩ := t
    by_cases hk1 : k = 1
    · subst hk1
      have hn := formed_var hfm
      refine (mapRen_var d V n s p c l N M F w hn.1 hd hV hst).mono ?_
      rintro e w' ⟨rfl, h1, h2⟩
      have hv : T.vars (Tm.mk 1 n s p c l).erase V = withVar V n := by rw [Tm.erase, T.vars, if_pos rfl]; rfl
      have hlen := (hV.one hn.1).len
      have hidx : (withVar V n).idxOf n < (withVar V n).length := List.idxOf_lt_length_of_mem (mem_withVar V n)
      have hmem := mem_withVar V n
      refine ⟨varTm _, varTm_in (by change (withVar V n).length ≤ _ at hlen; exact ⟨by omega, by omega⟩) _, ?_, rfl, by rw [hv]; exact h1, h2, varTm_on _⟩
      rw [hv, varTm_erase, Tm.erase, T.map, if_pos rfl, swapF, if_pos hmem]
    by_cases hk4 : k = 4
    · subst hk4
      obtain ⟨rfl, h100, hl1, hl50, hfl⟩ := formed_elem rfl hfm
      have hsz := fun x (hx : x ∈ l) => Tm.sizeOf_mem hx 4 0 s p c
      have HSl := Lib.hid h.sl
      rw [Tm.In] at h
      obtain ⟨hk, hn, hs, hlc, hc, hp, hIn⟩ := h
      obtain ⟨b, o, rfl⟩ := HSl.out.ptr (by omega)
      have Hih := Lib.hid ih
      have Hsz := Lib.hid hsz
      have Hfl := Lib.hid hfl
      have Hs := Lib.hid hs
      have HIn := Lib.hid hIn
      have Hst := Lib.hid hst
      have HV := Lib.hid hV
      have Hd := Lib.hid hd
      obtain ⟨hlN, hlM, hlF⟩ := hst.lts
      have hNe := hst.apart
      obtain ⟨hm0, hf0⟩ := hMF
      have hgs := hgr.size
      clear hp hIn ih hsz hfl hk hn hfm hst hV hd
      obtain ⟨i0, hi, hz0, hz1, hz2⟩ := info_parts infoTermM
      have Hi := Lib.hid hi
      clear hi
      rw [Tm.erase]
      have hR : Hid (∀ e w', RetRen d V (.mk 4 0 s.toList (Tm.eraseL l)) N M F w e w' → RetRen d V (.mk 4 0 s.toList (Tm.eraseL l)) N M F w e w') := fun _ _ h => h
      generalize hQ : RetRen d V (.mk 4 0 s.toList (Tm.eraseL l)) N M F w = Q at hR ⊢
      rw [← hQ] at hR
      have HQ := Lib.hid hQ
      clear hQ
      have hen : ∀ args w, (callFunc 114 args).run Try.prog w = .ok (.enter 114 args) w := fun args w => by kernel_rfl
      simp only [Tm.val, Tm.k, Tm.n, Tm.s, Tm.p, Tm.c, Tm.l]
      go_enter Try.func77, Try.ntmps77
      go_wp2_with
        (refine wpList_make_full _ rfl _ _ 26 rfl (w.heap.size) 28 i0 _ 4 Try.underlying26 Hi.out hz0 hz1 .i64 .i64 _ _ l.length rfl rfl rfl rfl (by rw [hz2]; omega) (by simp only [maxLen]; omega) (by simp; omega) ?_
         intro w1 hown hgrow
         have HF := fill_made (S := fun _ => False) hown
         have HA := (after_make hgrow).2
         obtain ⟨⟨b0, b1, b2, b3⟩, _, _⟩ := (after_make hgrow).1.parts
         clear hown hgrow)
      obtain ⟨HB, HRR, g1⟩ := HA.out
      replace HB := Lib.hid HB
      replace HRR := Lib.hid HRR
      have hg2 : w.heap.size + 1 + 1 < w1.heap.size := HF.out.lt
      clear b0 b1 b2 b3 HA
      have Hst1 : Hid (RenSt d V N M F w1) := Hst.out.gr g1
      go_loopg [25] l.length (fun m i wr => ∃ k : Nat, k ≤ l.length ∧ m = l.length - k ∧ i = .int .i64 k ∧
        Hid (∃ lm : List Tm, lm.length = k ∧ Tm.eraseL lm = T.mapL (swapF d (T.varsL (Tm.eraseL (l.take k)) V)) (Tm.eraseL (l.take k)) ∧ Filling wr (w.heap.size + 1 + 1) (fun _ => False) (w.heap.size + 1 + 1) l.length lm) ∧
        Hid (RenSt d (T.varsL (Tm.eraseL (l.take k)) V) N M F wr) ∧ Hid (VarsOk (T.varsL (Tm.eraseL (l.take k)) V)) ∧ Hid (Kp (fun b => MF M F b ∨ b = w.heap.size + 1 + 1) w1 wr))
      case atStart => exact ⟨0, Nat.zero_le _, rfl, rfl, ⟨[], rfl, by simp [T.mapL, Tm.eraseL], HF.out⟩, by rw [List.take_zero, Tm.eraseL, T.varsL]; exact Hst1.out, by rw [List.take_zero, Tm.eraseL, T.varsL]; exact HV.out, Kp.refl _ _⟩
      case round =>
        obtain ⟨k, hk, rfl, rfl, hlm, HSt, HVk, HK⟩ := hrel
        have HB' := Lib.hid (HB.out.kp HK.out (by omega))
        have HR' := Lib.hid (HRR.out.kp HK.out (by omega))
        have hbs := HK.out.size
        have g0 : Gr w0 wr := Below.trans (Gr.trans hgr g1) (HK.out.below (B := w0.heap.size) (fun b hb => by rcases hb with (hb | hb) | hb <;> omega) (by have := g1.size; omega))
        by_cases hlt : k < l.length
        · obtain ⟨⟨c0, c1, c2, c3⟩, _, _⟩ := (HSl.out.mono g0).elem k hlt
          have hmem : l[k] ∈ l := List.getElem_mem hlt
          have Hx := Lib.hid (Tm.InL_mem HIn.out _ hmem)
          have Hz := Hsz.out _ hmem
          have Hfx := Lib.hid (Hfl.out _ hmem)
          have Hv1 := Lib.hid (varsL_step l k hlt V)
          have Hm1 := Lib.hid (mapL_step l Hfl.out k hlt d V)
          clear hmem
          generalize l[k] = x at *
          go_upto_region 8 with fail
          have gE : Gr wr (wr.alloc (.cells #[.int .i64 x.k, .int .i64 x.n, .string x.s, .slice x.p x.l.length x.c] 28)) := by go_grown
          have hE := Blk4.new wr (.int .i64 x.k) (.int .i64 x.n) (.string x.s) (.slice x.p x.l.length x.c)
          have hszE : (wr.alloc (.cells #[.int .i64 x.k, .int .i64 x.n, .string x.s, .slice x.p x.l.length x.c] 28)).heap.size = wr.heap.size + 1 := by simp
          generalize wr.alloc (.cells #[.int .i64 x.k, .int .i64 x.n, .string x.s, .slice x.p x.l.length x.c] 28) = wE at *
          obtain ⟨⟨y0, y1, y2, y3⟩, _, _⟩ := hE.parts
          clear c0 c1 c2 c3 hE
          have hxv : x.val = .agg #[.int .i64 x.k, .int .i64 x.n, .string x.s, .slice x.p x.l.length x.c] := rfl
          have Hxv := Lib.hid hxv
          clear hxv
          go_wp2_with fail
          rw [← Hxv.out]
          refine (Hih.out x d _ N M F w0 wE (by omega) Hx.out Hfx.out (g0.trans gE) ⟨hm0, hf0⟩ Hd.out HVk.out (HSt.out.gr gE)).mono ?_
          rintro e w2 ⟨xm, hin, he, rfl, hst2, hk2, hon⟩
          obtain ⟨lm, hl0, he0, hF⟩ := hlm.out
          have hF2 : Filling w2 (w.heap.size + 1 + 1) (fun _ => False) (w.heap.size + 1 + 1) l.length lm := (hF.gr gE).kp hk2 (fun b hb h => by rcases h with h | h <;> omega)
          have HF2 := Lib.hid hF2
          obtain ⟨⟨q0, r0⟩, fr0⟩ := hF2.spot (j := k * 4) (by omega)
          obtain ⟨⟨q1, r1⟩, fr1⟩ := hF2.spot (j := k * 4 + 1) (by omega)
          obtain ⟨⟨q2, r2⟩, fr2⟩ := hF2.spot (j := k * 4 + 2) (by omega)
          obtain ⟨⟨q3, r3⟩, fr3⟩ := hF2.spot (j := k * 4 + 3) (by omega)
          have Hl0 := Lib.hid hl0
          have He0 := Lib.hid he0
          have Hin := Lib.hid hin
          have Hon := Lib.hid hon
          have He := Lib.hid he
          have Hst2 := Lib.hid hst2
          have Hk2 := Lib.hid ((HK.out.trans (Kp.of_gr gE)).trans (hk2.mono fun _ h => .inl h))
          clear hF hF2 hl0 he0 hin hon he hst2 hk2 hlm y0 y1 y2 y3
          obtain ⟨k', n', s', p', c', l'⟩ := xm
          simp only [Tm.val, Tm.k, Tm.n, Tm.s, Tm.p, Tm.c, Tm.l]
          go_wp2_with fail
          go_roundg (l.length - (k + 1))
          case measure => omega
          case rel =>
            refine ⟨k + 1, by omega, rfl, by go_num, ⟨lm ++ [.mk k' n' s' p' c' l'], by simp [Hl0.out], by rw [eraseL_append, He0.out, Hm1.out]; simp [Tm.eraseL, He.out], ?_⟩, by rw [Hv1.out]; exact Hst2.out.kp (Kp.set4 (C := fun b => b = w.heap.size + 1 + 1) rfl) (by omega) (by omega) (by omega),
              by rw [Hv1.out]; exact HVk.out.vars _ Hfx.out, Hk2.out.trans (Kp.set4 (.inr rfl))⟩
            have := HF2.out.store (x := .mk k' n' s' p' c' l') (by rw [Hl0.out]; exact hlt) Hin.out (Hon.out.mono fun b hb => ⟨.inr (by omega), by omega⟩)
            rw [Hl0.out] at this
            simpa only [Tm.k, Tm.n, Tm.s, Tm.p, Tm.c, Tm.l] using this
        · obtain rfl : k = l.length := by omega
          obtain ⟨lm, hl0, he0, hF⟩ := hlm.out
          obtain ⟨⟨b0, b1, b2, b3⟩, ⟨e0, e1, e2, e3⟩, hbs1⟩ := HB'.out.parts
          obtain ⟨⟨y0, y1, y2, y3⟩, ⟨f0, f1, f2, f3⟩, hbs2⟩ := HR'.out.parts
          have HF := Lib.hid hF
          have Hl0 := Lib.hid hl0
          have He0 := Lib.hid he0
          clear hF hl0 he0 hlm
          have hvE : Hid (T.vars (.mk 4 0 s.toList (Tm.eraseL l)) V = T.varsL (Tm.eraseL (l.take l.length)) V) := by show _ = _; rw [T.vars, if_neg (by decide), List.take_length]
          go_wp2_with fail
          refine bodyPost_ret (v := (Tm.mk 4 0 s (some ⟨w.heap.size + 1 + 1, 0, none⟩) l.length lm).val) (by simp [results, Try.results77, go_sem, Tm.val, Tm.k, Tm.n, Tm.s, Tm.p, Tm.c, Tm.l, Hl0.out, y0, y1, y2, y3]) rfl ?_
          rw [← HQ.out]
          have hK5 : ∀ v0 v1 v2 v3 v4 : Value, Kp (fun b => b = w.heap.size ∨ b = w.heap.size + 1) wr (((((wr.setCell ⟨w.heap.size, 3, none⟩ v0).setCell ⟨w.heap.size + 1, 0, none⟩ v1).setCell ⟨w.heap.size + 1, 1, none⟩ v2).setCell ⟨w.heap.size + 1, 2, none⟩ v3).setCell ⟨w.heap.size + 1, 3, none⟩ v4) :=
            fun v0 v1 v2 v3 v4 => (Kp.set (.inl rfl)).trans (Kp.set4 (.inr rfl))
          refine ⟨_, ?_, ?_, rfl, ?_, ?_, ?_⟩
          · have hsl := HF.out.sl Hl0.out (by omega)
            have hin : (Tm.mk 4 0 s (some ⟨w.heap.size + 1 + 1, 0, none⟩) l.length lm).In wr := compTm_in Hs.out hsl.1
            have hon : (Tm.mk 4 0 s (some ⟨w.heap.size + 1 + 1, 0, none⟩) l.length lm).On (fun b => False ∨ w.heap.size + 1 + 1 ≤ b) := by rw [Tm.On]; exact hsl.2
            exact in_after' hin hon fun b h1 h2 o => by
              have : b ≠ w.heap.size ∧ b ≠ w.heap.size + 1 := by
                rcases h1 with h1 | h1
                · exact h1.elim
                · omega
              rw [cell_set_ne this.2, cell_set_ne this.2, cell_set_ne this.2, cell_set_ne this.2, cell_set_ne this.1]
          · rw [Tm.erase, He0.out, hvE.out, T.map, if_neg (by decide), if_pos rfl, List.take_length]
          · rw [hvE.out]
            exact HSt.out.kp (hK5 _ _ _ _ _) (by omega) (by omega) (by omega)
          · exact (((Kp.of_gr g1).trans (HK.out.mono (C' := fun b => MF M F b ∨ w.heap.size ≤ b) fun b h => h.imp id fun h => by omega)).trans ((hK5 _ _ _ _ _).mono fun b h => .inr (by omega))).weaken fun b hb hc => hc.resolve_right (by omega)
          · have hsl := HF.out.sl Hl0.out (by omega)
            rw [Tm.On]
            exact ⟨hsl.2.1.imp id fun ⟨b, o, h1, h2⟩ => ⟨b, o, h1, h2.elim (fun h => h.elim) fun h => by omega⟩, hsl.2.2.mono fun b hb => hb.elim (fun h => h.elim) fun h => by omega⟩
    · rw [Tm.erase]
      refine (map_leaf k n s p c l _ w (Tm.In_below hgr h) hk1 hk4).mono fun e w' ⟨bm, h1, h2, h3, h4, h5⟩ => ?_
      have hl : Tm.eraseL l = [] := by
        rcases formed_args (by rw [Tm.erase] at hfm; exact hfm) with ⟨h6, _⟩ | ⟨_, h6⟩
        · exact absurd h6 hk4
        · exact h6
      have hv : T.vars (.mk k n s.toList (Tm.eraseL l)) V = V := by rw [T.vars, if_neg hk1, hl, T.varsL]
      exact ⟨bm, h1, by rw [h2, T.map, if_neg hk1, if_neg hk4], h3, by rw [hv]; exact hst.gr h4, Kp.of_gr h4, h5⟩
end Go.Proofs.Ytgaijgadeodoeaa
