/-
  term.Renamed: what it makes lies whole, in new memory.
  Slices of numbers, and append of one number.
  term.Map and term.Renamed at terms whose variables' numbers may be a little larger than a formed term's.
  Grammars: what a body is between two terms, what a grammar's rule is as a clause (no program here).
-/
import Derived.Test.YthncdmijledpnaaTM08
import Derived.Test.YthncdmijledpnaaTM06
namespace Go.Proofs.Ythncdmijledpnaa
open Go.RowKit

def RetRenW (d : Int) (V : List Int) (t : T) (N M F : Nat) (w : World) (e : Ending) (w' : World) : Prop :=
  ∃ bm : Tm, bm.In w' ∧ bm.erase = T.map (swapF d (T.vars t V)) t ∧ e = .returned bm.val ∧ RenSt d (T.vars t V) N M F w' ∧ Kp (MF M F) w w' ∧ bm.On (w.heap.size ≤ ·) ∧ bm.Whole w'

/-- append of one term: only the row itself may turn. -/
theorem wpList_append_termG {P : Program} {w : World} {ops : Array Oper} {rest : List Oper} {o : Oper} {a : Act} {Q : Exit → Act → World → Prop} (hgd : o.guard = none) (s y : Operand)
    (ho : o.op = .call { callee := .builtin .append, args := #[s, y], argTypes := #[23, 23] }) (hP : P = Try.prog)
    (B : Nat) (S : Nat → Prop) (v : Value) (l : List Tm) (x : Tm) (b c : Nat) (hs : a.eval s = v) (hy : a.eval y = .slice (some ⟨b, 0, none⟩) 1 c) (h : Built w B S v l) (hB : B ≤ w.heap.size)
    (hx : x.In w) (hxo : x.On fun b => (S b ∨ B ≤ b) ∧ v.ownBlock ≠ some b) (hl : (l.length + 1) * 56 ≤ 140737488351232)
    (c0 : w.cell? ⟨b, 0, none⟩ = some (.int .i64 x.k)) (c1 : w.cell? ⟨b, 1, none⟩ = some (.int .i64 x.n)) (c2 : w.cell? ⟨b, 2, none⟩ = some (.string x.s)) (c3 : w.cell? ⟨b, 3, none⟩ = some (.slice x.p x.l.length x.c))
    (hK : ∀ v' w', Built w' B S v' (l ++ [x]) → Below B w w' → w.grownBy w' v.ownBlock → wpList P ops Q rest (a.put o.dst v') w') : wpList P ops Q (o :: rest) a w := by
  subst hP
  obtain ⟨i0, hi, hz0, hz1, hz2⟩ := info_parts infoTerm
  obtain ⟨v', w', hr, h2, h3, h4⟩ := run_append_own_fresh (P := Try.prog) w B 23 o.type 25 i0 _ 4 56 Try.underlying23 hi hz0 hz1 hz2 rfl (by decide) v l.length (l.flatMap Tm.cells) h.1
    ⟨b, 0, none⟩ 1 c x.cells rfl (by
      intro j u hu
      match j, hu with
      | 0, hu => cases hu; exact c0
      | 1, hu => cases hu; exact c1
      | 2, hu => cases hu; exact c2
      | 3, hu => cases hu; exact c3
      | j + 4, hu => simp [Tm.cells] at hu) (by
      intro u hu
      simp only [Tm.cells, List.mem_cons, List.mem_nil_iff, or_false] at hu
      rcases hu with rfl | rfl | rfl | rfl <;> rfl) (by simp only [maxLen]; omega) (by omega) hB (by omega)
  refine wpList_plain hgd fun K hK' => ?_
  unfold Oper.wp execOp
  simp only [ho, resolve, invoke, builtin, Sem.run_bind, Sem.run_pure, Result.andThen_ok, List.map_toArray, List.map_cons, List.map_nil, hs, hy, hr]
  exact hK' _ _ (hK v' w' (h.snoc hx hxo h2 h3 h4) (grownBy_below h3 hB h.block) h3)


set_option maxHeartbeats 4000000 in
set_option maxRecDepth 100000 in
theorem mapRenW_any (NN : Nat) : ∀ (t : Tm) (d : Int) (V : List Int) (N M F : Nat) (w0 w : World), SizeOf.sizeOf t ≤ NN → t.In w0 → t.erase.formed = true → Gr w0 w → (w0.heap.size ≤ M ∧ w0.heap.size ≤ F) → (0 ≤ d ∧ d ≤ 1099511627777) → VarsOk V → RenSt d V N M F w →
    Calls Try.prog 126 #[t.val, .func (.func 160) #[] #[.pointer (some ⟨N, 0, none⟩), .pointer (some ⟨F, 0, none⟩)]] w (RetRenW d V t.erase N M F w) := by
  induction NN with
  | zero => intro t d V N M F w0 w h; cases t; simp at h
  | succ NN ih =>
    intro t d V N M F w0 w hN h hfm hgr hMF hd hV hst
    obtain ⟨k, n, s, p, c, l⟩ := t
    by_cases hk1 : k = 1
    · subst hk1
      have hn := formed_var hfm
      refine (mapRen_var d V n s p c l N M F w hn.1 hd hV hst).mono ?_
      rintro e w' ⟨rfl, h1, h2⟩
      have hv : T.vars (Tm.mk 1 n s p c l).erase V = withVar V n := by rw [Tm.erase, T.vars, if_pos rfl]; rfl
      have hlen := (hV.one hn.1).len
      have hidx : (withVar V n).idxOf n < (withVar V n).length := List.idxOf_lt_length_of_mem (mem_withVar V n)
      have hmem := mem_withVar V n
      refine ⟨varTm _, varTm_in (by change (withVar V n).length ≤ _ at hlen; exact ⟨by omega, by omega⟩) _, ?_, rfl, by rw [hv]; exact h1, h2, varTm_on _, by rw [varTm, Tm.Whole, Tm.WholeL]; exact ⟨.inl ⟨rfl, rfl, rfl⟩, trivial⟩⟩
      rw [hv, varTm_erase, Tm.erase, T.map, if_pos rfl, swapF, if_pos hmem]
    by_cases hk4 : k = 4
    · subst hk4
      obtain ⟨rfl, h100, hl1, hl50, hfl⟩ := formed_elem rfl hfm
      have hsz := fun x (hx : x ∈ l) => Tm.sizeOf_mem hx 4 0 s p c
      have HSl := Lib.hid h.sl
      rw [Tm.In] at h
      obtain ⟨hk, hn, hs, hlc, hc, hp, hIn⟩ := h
      obtain ⟨b, o, rfl⟩ := HSl.out.ptr (by omega)
      have Hih := Lib.hid ih
      have Hsz := Lib.hid hsz
      have Hfl := Lib.hid hfl
      have Hs := Lib.hid hs
      have HIn := Lib.hid hIn
      have Hst := Lib.hid hst
      have HV := Lib.hid hV
      have Hd := Lib.hid hd
      obtain ⟨hlN, hlM, hlF⟩ := hst.lts
      have hNe := hst.apart
      obtain ⟨hm0, hf0⟩ := hMF
      have hgs := hgr.size
      clear hp hIn ih hsz hfl hk hn hfm hst hV hd
      obtain ⟨i0, hi, hz0, hz1, hz2⟩ := info_parts infoTermM
      have Hi := Lib.hid hi
      clear hi
      rw [Tm.erase]
      have hR : Hid (∀ e w', RetRenW d V (.mk 4 0 s.toList (Tm.eraseL l)) N M F w e w' → RetRenW d V (.mk 4 0 s.toList (Tm.eraseL l)) N M F w e w') := fun _ _ h => h
      generalize hQ : RetRenW d V (.mk 4 0 s.toList (Tm.eraseL l)) N M F w = Q at hR ⊢
      rw [← hQ] at hR
      have HQ := Lib.hid hQ
      clear hQ
      have hen : ∀ args w, (callFunc 160 args).run Try.prog w = .ok (.enter 160 args) w := fun args w => by kernel_rfl
      simp only [Tm.val, Tm.k, Tm.n, Tm.s, Tm.p, Tm.c, Tm.l]
      go_enter Try.func126, Try.ntmps126
      go_wp2_with
        (refine wpList_make_full _ rfl _ _ 23 rfl (w.heap.size) 25 i0 _ 4 Try.underlying23 Hi.out hz0 hz1 .i64 .i64 _ _ l.length rfl rfl rfl rfl (by rw [hz2]; omega) (by simp only [maxLen]; omega) (by simp; omega) ?_
         intro w1 hown hgrow
         have HF := fill_made (S := fun _ => False) hown
         have HA := (after_make hgrow).2
         obtain ⟨⟨b0, b1, b2, b3⟩, _, _⟩ := (after_make hgrow).1.parts
         clear hown hgrow)
      obtain ⟨HB, HRR, g1⟩ := HA.out
      replace HB := Lib.hid HB
      replace HRR := Lib.hid HRR
      have hg2 : w.heap.size + 1 + 1 < w1.heap.size := HF.out.lt
      clear b0 b1 b2 b3 HA
      have Hst1 : Hid (RenSt d V N M F w1) := Hst.out.gr g1
      go_loopg [25] l.length (fun m i wr => ∃ k : Nat, k ≤ l.length ∧ m = l.length - k ∧ i = .int .i64 k ∧
        Hid (∃ lm : List Tm, lm.length = k ∧ Tm.eraseL lm = T.mapL (swapF d (T.varsL (Tm.eraseL (l.take k)) V)) (Tm.eraseL (l.take k)) ∧ Filling wr (w.heap.size + 1 + 1) (fun _ => False) (w.heap.size + 1 + 1) l.length lm ∧ Tm.WholeL wr lm) ∧
        Hid (RenSt d (T.varsL (Tm.eraseL (l.take k)) V) N M F wr) ∧ Hid (VarsOk (T.varsL (Tm.eraseL (l.take k)) V)) ∧ Hid (Kp (fun b => MF M F b ∨ b = w.heap.size + 1 + 1) w1 wr))
      case atStart => exact ⟨0, Nat.zero_le _, rfl, rfl, ⟨[], rfl, by simp [T.mapL, Tm.eraseL], HF.out, by rw [Tm.WholeL]; trivial⟩, by rw [List.take_zero, Tm.eraseL, T.varsL]; exact Hst1.out, by rw [List.take_zero, Tm.eraseL, T.varsL]; exact HV.out, Kp.refl _ _⟩
      case round =>
        obtain ⟨k, hk, rfl, rfl, hlm, HSt, HVk, HK⟩ := hrel
        have HB' := Lib.hid (HB.out.kp HK.out (by omega))
        have HR' := Lib.hid (HRR.out.kp HK.out (by omega))
        have hbs := HK.out.size
        have g0 : Gr w0 wr := Below.trans (Gr.trans hgr g1) (HK.out.below (B := w0.heap.size) (fun b hb => by rcases hb with (hb | hb) | hb <;> omega) (by have := g1.size; omega))
        by_cases hlt : k < l.length
        · obtain ⟨⟨c0, c1, c2, c3⟩, _, _⟩ := (HSl.out.mono g0).elem k hlt
          have hmem : l[k] ∈ l := List.getElem_mem hlt
          have Hx := Lib.hid (Tm.InL_mem HIn.out _ hmem)
          have Hz := Hsz.out _ hmem
          have Hfx := Lib.hid (Hfl.out _ hmem)
          have Hv1 := Lib.hid (varsL_step l k hlt V)
          have Hm1 := Lib.hid (mapL_step l Hfl.out k hlt d V)
          clear hmem
          generalize l[k] = x at *
          go_upto_region 8 with fail
          have gE : Gr wr (wr.alloc (.cells #[.int .i64 x.k, .int .i64 x.n, .string x.s, .slice x.p x.l.length x.c] 25)) := by go_grown
          have hE := Blk4.new wr (.int .i64 x.k) (.int .i64 x.n) (.string x.s) (.slice x.p x.l.length x.c)
          have hszE : (wr.alloc (.cells #[.int .i64 x.k, .int .i64 x.n, .string x.s, .slice x.p x.l.length x.c] 25)).heap.size = wr.heap.size + 1 := by simp
          generalize wr.alloc (.cells #[.int .i64 x.k, .int .i64 x.n, .string x.s, .slice x.p x.l.length x.c] 25) = wE at *
          obtain ⟨⟨y0, y1, y2, y3⟩, _, _⟩ := hE.parts
          clear c0 c1 c2 c3 hE
          have hxv : x.val = .agg #[.int .i64 x.k, .int .i64 x.n, .string x.s, .slice x.p x.l.length x.c] := rfl
          have Hxv := Lib.hid hxv
          clear hxv
          go_wp2_with fail
          rw [← Hxv.out]
          refine (Hih.out x d _ N M F w0 wE (by omega) Hx.out Hfx.out (g0.trans gE) ⟨hm0, hf0⟩ Hd.out HVk.out (HSt.out.gr gE)).mono ?_
          rintro e w2 ⟨xm, hin, he, rfl, hst2, hk2, hon, hwh⟩
          obtain ⟨lm, hl0, he0, hF, hWL⟩ := hlm.out
          have hs2w := hk2.size
          have HWL := Lib.hid (Tm.WholeL.same (S := fun b => b < wr.heap.size ∧ w.heap.size + 1 + 1 ≤ b) (fun b hb => (hk2.block b (by omega) (fun h => by rcases h with h | h <;> omega)).trans (gE.block b hb.1)) (hF.2.2.2.2.mono fun b hb => ⟨hb.2.1, hb.1.resolve_left id⟩) hWL)
          have HLon := Lib.hid (hF.2.2.2.2.mono (S' := fun b => b < w2.heap.size ∧ b ≠ w.heap.size + 1 + 1) fun b hb => ⟨by have := hb.2.1; omega, hb.2.2⟩)
          have Hwh := Lib.hid hwh
          have hF2 : Filling w2 (w.heap.size + 1 + 1) (fun _ => False) (w.heap.size + 1 + 1) l.length lm := (hF.gr gE).kp hk2 (fun b hb h => by rcases h with h | h <;> omega)
          have HF2 := Lib.hid hF2
          obtain ⟨⟨q0, r0⟩, fr0⟩ := hF2.spot (j := k * 4) (by omega)
          obtain ⟨⟨q1, r1⟩, fr1⟩ := hF2.spot (j := k * 4 + 1) (by omega)
          obtain ⟨⟨q2, r2⟩, fr2⟩ := hF2.spot (j := k * 4 + 2) (by omega)
          obtain ⟨⟨q3, r3⟩, fr3⟩ := hF2.spot (j := k * 4 + 3) (by omega)
          have Hl0 := Lib.hid hl0
          have He0 := Lib.hid he0
          have Hin := Lib.hid hin
          have Hon := Lib.hid hon
          have He := Lib.hid he
          have Hst2 := Lib.hid hst2
          have Hk2 := Lib.hid ((HK.out.trans (Kp.of_gr gE)).trans (hk2.mono fun _ h => .inl h))
          clear hF hF2 hl0 he0 hin hon he hst2 hk2 hlm y0 y1 y2 y3 hwh hWL
          obtain ⟨k', n', s', p', c', l'⟩ := xm
          simp only [Tm.val, Tm.k, Tm.n, Tm.s, Tm.p, Tm.c, Tm.l]
          go_wp2_with fail
          go_roundg (l.length - (k + 1))
          case measure => omega
          case rel =>
            refine ⟨k + 1, by omega, rfl, by go_num, ⟨lm ++ [.mk k' n' s' p' c' l'], by simp [Hl0.out], by rw [eraseL_append, He0.out, Hm1.out]; simp [Tm.eraseL, He.out], ?_, ?_⟩, by rw [Hv1.out]; exact Hst2.out.kp (Kp.set4 (C := fun b => b = w.heap.size + 1 + 1) rfl) (by omega) (by omega) (by omega),
              by rw [Hv1.out]; exact HVk.out.vars _ Hfx.out, Hk2.out.trans (Kp.set4 (.inr rfl))⟩
            rotate_left
            · exact Tm.WholeL_append (Tm.WholeL.same (fun b hb => (Kp.set4 (C := fun x => x = w.heap.size + 1 + 1) rfl).block b hb.1 hb.2) HLon.out HWL.out)
                (by rw [Tm.WholeL, Tm.WholeL]; exact ⟨Tm.Whole.same (fun b hb => (Kp.set4 (C := fun x => x = w.heap.size + 1 + 1) rfl).block b hb.2 (by have := hb.1; omega)) (Tm.On.and Hon.out Hin.out.on) Hwh.out, trivial⟩)
            have := HF2.out.store (x := .mk k' n' s' p' c' l') (by rw [Hl0.out]; exact hlt) Hin.out (Hon.out.mono fun b hb => ⟨.inr (by omega), by omega⟩)
            rw [Hl0.out] at this
            simpa only [Tm.k, Tm.n, Tm.s, Tm.p, Tm.c, Tm.l] using this
        · obtain rfl : k = l.length := by omega
          obtain ⟨lm, hl0, he0, hF, hWL⟩ := hlm.out
          have HWL := Lib.hid hWL
          obtain ⟨⟨b0, b1, b2, b3⟩, ⟨e0, e1, e2, e3⟩, hbs1⟩ := HB'.out.parts
          obtain ⟨⟨y0, y1, y2, y3⟩, ⟨f0, f1, f2, f3⟩, hbs2⟩ := HR'.out.parts
          have HF := Lib.hid hF
          have Hl0 := Lib.hid hl0
          have He0 := Lib.hid he0
          clear hF hl0 he0 hlm hWL
          have hvE : Hid (T.vars (.mk 4 0 s.toList (Tm.eraseL l)) V = T.varsL (Tm.eraseL (l.take l.length)) V) := by show _ = _; rw [T.vars, if_neg (by decide), List.take_length]
          go_wp2_with fail
          refine bodyPost_ret (v := (Tm.mk 4 0 s (some ⟨w.heap.size + 1 + 1, 0, none⟩) l.length lm).val) (by simp [results, Try.results126, go_sem, Tm.val, Tm.k, Tm.n, Tm.s, Tm.p, Tm.c, Tm.l, Hl0.out, y0, y1, y2, y3]) rfl ?_
          rw [← HQ.out]
          have hK5 : ∀ v0 v1 v2 v3 v4 : Value, Kp (fun b => b = w.heap.size ∨ b = w.heap.size + 1) wr (((((wr.setCell ⟨w.heap.size, 3, none⟩ v0).setCell ⟨w.heap.size + 1, 0, none⟩ v1).setCell ⟨w.heap.size + 1, 1, none⟩ v2).setCell ⟨w.heap.size + 1, 2, none⟩ v3).setCell ⟨w.heap.size + 1, 3, none⟩ v4) :=
            fun v0 v1 v2 v3 v4 => (Kp.set (.inl rfl)).trans (Kp.set4 (.inr rfl))
          have hwhole : (Tm.mk 4 0 s (some ⟨w.heap.size + 1 + 1, 0, none⟩) l.length lm).Whole wr := by
            obtain ⟨_, _, ⟨cur, hc1, hc2, _⟩, _⟩ := HF.out
            rw [Tm.Whole]
            exact ⟨.inr ⟨by rintro rfl; have := Hl0.out; simp at this; omega, _, cur, rfl, Hl0.out.symm, hc1, by rw [hc2, Hl0.out]⟩, HWL.out⟩
          have hslw := HF.out.sl Hl0.out (by omega)
          have hinw : (Tm.mk 4 0 s (some ⟨w.heap.size + 1 + 1, 0, none⟩) l.length lm).In wr := compTm_in Hs.out hslw.1
          have honw : (Tm.mk 4 0 s (some ⟨w.heap.size + 1 + 1, 0, none⟩) l.length lm).On (fun b => False ∨ w.heap.size + 1 + 1 ≤ b) := by rw [Tm.On]; exact hslw.2
          refine ⟨_, ?_, ?_, rfl, ?_, ?_, ?_, Tm.Whole.same (fun b hb => (hK5 _ _ _ _ _).block b hb.2 (by have := hb.1.resolve_left id; omega)) (Tm.On.and honw hinw.on) hwhole⟩
          · have hsl := HF.out.sl Hl0.out (by omega)
            have hin : (Tm.mk 4 0 s (some ⟨w.heap.size + 1 + 1, 0, none⟩) l.length lm).In wr := compTm_in Hs.out hsl.1
            have hon : (Tm.mk 4 0 s (some ⟨w.heap.size + 1 + 1, 0, none⟩) l.length lm).On (fun b => False ∨ w.heap.size + 1 + 1 ≤ b) := by rw [Tm.On]; exact hsl.2
            exact in_after' hin hon fun b h1 h2 o => by
              have : b ≠ w.heap.size ∧ b ≠ w.heap.size + 1 := by
                rcases h1 with h1 | h1
                · exact h1.elim
                · omega
              rw [cell_set_ne this.2, cell_set_ne this.2, cell_set_ne this.2, cell_set_ne this.2, cell_set_ne this.1]
          · rw [Tm.erase, He0.out, hvE.out, T.map, if_neg (by decide), if_pos rfl, List.take_length]
          · rw [hvE.out]
            exact HSt.out.kp (hK5 _ _ _ _ _) (by omega) (by omega) (by omega)
          · exact (((Kp.of_gr g1).trans (HK.out.mono (C' := fun b => MF M F b ∨ w.heap.size ≤ b) fun b h => h.imp id fun h => by omega)).trans ((hK5 _ _ _ _ _).mono fun b h => .inr (by omega))).weaken fun b hb hc => hc.resolve_right (by omega)
          · have hsl := HF.out.sl Hl0.out (by omega)
            rw [Tm.On]
            exact ⟨hsl.2.1.imp id fun ⟨b, o, h1, h2⟩ => ⟨b, o, h1, h2.elim (fun h => h.elim) fun h => by omega⟩, hsl.2.2.mono fun b hb => hb.elim (fun h => h.elim) fun h => by omega⟩
    · rw [Tm.erase]
      refine (mapW_leaf k n s p c l _ w (Tm.In_below hgr h) hk1 hk4).mono fun e w' ⟨bm, h1, h2, h3, h4, h5, h6w⟩ => ?_
      have hl : Tm.eraseL l = [] := by
        rcases formed_args (by rw [Tm.erase] at hfm; exact hfm) with ⟨h6, _⟩ | ⟨_, h6⟩
        · exact absurd h6 hk4
        · exact h6
      have hv : T.vars (.mk k n s.toList (Tm.eraseL l)) V = V := by rw [T.vars, if_neg hk1, hl, T.varsL]
      exact ⟨bm, h1, by rw [h2, T.map, if_neg hk1, if_neg hk4], h3, by rw [hv]; exact hst.gr h4, Kp.of_gr h4, h5, h6w⟩

/-- Terms are handed back that lie whole, and the number behind. -/
def RetRensW (d : Int) (ts : List T) (w : World) (e : Ending) (w' : World) : Prop :=
  ∃ (p : Option Addr) (c : Nat) (lm : List Tm), e = .returned (.tuple #[.slice p lm.length c, .int .i64 (d + ((T.varsL ts []).length : Int))]) ∧ Tm.Sl w' p c lm ∧ Tm.eraseL lm = T.mapL (swapF d (T.varsL ts [])) ts ∧ Gr w w' ∧ Tm.SlOn (w.heap.size ≤ ·) p lm ∧ Tm.WholeL w' lm

set_option maxHeartbeats 4000000 in
set_option maxRecDepth 100000 in
theorem renamedW_calls (d : Int) (p : Option Addr) (c : Nat) (l : List Tm) (w : World) (h : Tm.Sl w p c l) (hf : ∀ x ∈ l, x.erase.formed = true) (hd : 0 ≤ d ∧ d ≤ 1099511627777) :
    Calls Try.prog 94 #[.int .i64 d, .slice p l.length c] w (RetRensW d (Tm.eraseL l) w) := by
  have hl64 : l.length * 56 ≤ 140737488351232 := h.2.1.1
  have hlc : l.length ≤ c := h.1
  have hc64 : c ≤ 9223372036854775807 := h.2.1.2
  have HSl := Lib.hid h
  have Hf := Lib.hid hf
  have Hd := Lib.hid hd
  have HIn := Lib.hid h.2.2.2
  clear h hf
  generalize hQ : RetRensW d (Tm.eraseL l) w = Q
  have HQ := Lib.hid hQ
  clear hQ
  go_enter Try.func94, Try.ntmps94
  try simp only [List.append_eq, List.cons_append, List.nil_append]
  have hmm := @run_makeMap Try.prog
  go_upto_region 2 with fail
  have hst : RenSt d [] (w.heap.size + 2) (w.heap.size + 1) w.heap.size (((w.alloc (.cells #[.int .i64 d] 2)).alloc (.map #[] 0)).alloc (.cells #[.map (some (w.heap.size + 1))] 149)) := start_ren w d
  have g1 : Gr w (((w.alloc (.cells #[.int .i64 d] 2)).alloc (.map #[] 0)).alloc (.cells #[.map (some (w.heap.size + 1))] 149)) := by go_grown
  have hsz : (((w.alloc (.cells #[.int .i64 d] 2)).alloc (.map #[] 0)).alloc (.cells #[.map (some (w.heap.size + 1))] 149)).heap.size = w.heap.size + 3 := by simp
  generalize (((w.alloc (.cells #[.int .i64 d] 2)).alloc (.map #[] 0)).alloc (.cells #[.map (some (w.heap.size + 1))] 149)) = wA at *
  have Hst := Lib.hid hst
  clear hst hmm
  go_wp2_with fail
  have hfun : Hid (Gr w wA) := g1
  go_loopg [7, 13] l.length (fun m v i wr => ∃ k : Nat, k ≤ l.length ∧ m = l.length - k ∧ i = .int .i64 k ∧
    Hid (∃ lm : List Tm, lm.length = k ∧ Tm.eraseL lm = T.mapL (swapF d (T.varsL (Tm.eraseL (l.take k)) [])) (Tm.eraseL (l.take k)) ∧ Built wr (w.heap.size + 3) (fun _ => False) v lm ∧ Tm.WholeL wr lm) ∧
    Hid (RenSt d (T.varsL (Tm.eraseL (l.take k)) []) (w.heap.size + 2) (w.heap.size + 1) w.heap.size wr) ∧ Hid (VarsOk (T.varsL (Tm.eraseL (l.take k)) [])) ∧ Gr w wr ∧ w.heap.size + 3 ≤ wr.heap.size)
  case atStart => exact ⟨0, Nat.zero_le _, rfl, rfl, ⟨[], rfl, by simp [T.mapL, Tm.eraseL], Built.nil _ _ _, by rw [Tm.WholeL]; trivial⟩, by rw [List.take_zero, Tm.eraseL, T.varsL]; exact Hst.out, by rw [List.take_zero, Tm.eraseL, T.varsL]; exact VarsOk.nil, g1, by omega⟩
  case round =>
    obtain ⟨k, hk, rfl, rfl, hlm, HSt, HVk, gr, hws⟩ := hrel
    by_cases hlt : k < l.length
    · obtain ⟨b, o, rfl⟩ := HSl.out.ptr (by omega)
      obtain ⟨⟨c0, c1, c2, c3⟩, _, _⟩ := (HSl.out.mono gr).elem k hlt
      have hmem : l[k] ∈ l := List.getElem_mem hlt
      have Hx := Lib.hid (Tm.InL_mem HIn.out _ hmem)
      have Hfx := Lib.hid (Hf.out _ hmem)
      have Hv1 := Lib.hid (varsL_step l k hlt [])
      have Hm1 := Lib.hid (mapL_step l Hf.out k hlt d [])
      clear hmem
      generalize l[k] = x at *
      go_upto_region 6 with fail
      have gE : Gr wr (wr.alloc (.cells #[.int .i64 x.k, .int .i64 x.n, .string x.s, .slice x.p x.l.length x.c] 25)) := by go_grown
      have hE := Blk4.new wr (.int .i64 x.k) (.int .i64 x.n) (.string x.s) (.slice x.p x.l.length x.c)
      have hszE : (wr.alloc (.cells #[.int .i64 x.k, .int .i64 x.n, .string x.s, .slice x.p x.l.length x.c] 25)).heap.size = wr.heap.size + 1 := by simp
      generalize wr.alloc (.cells #[.int .i64 x.k, .int .i64 x.n, .string x.s, .slice x.p x.l.length x.c] 25) = wE at *
      obtain ⟨⟨y0, y1, y2, y3⟩, _, _⟩ := hE.parts
      clear c0 c1 c2 c3 hE
      have Hxv := Lib.hid (show x.val = .agg #[.int .i64 x.k, .int .i64 x.n, .string x.s, .slice x.p x.l.length x.c] from rfl)
      go_wp2_with fail
      rw [← Hxv.out]
      refine (mapRenW_any _ x d _ (w.heap.size + 2) (w.heap.size + 1) w.heap.size w wE (Nat.le_refl _) Hx.out Hfx.out (gr.trans gE) ⟨by omega, by omega⟩ Hd.out HVk.out (HSt.out.gr gE)).mono ?_
      rintro e w2 ⟨xm, hin, he, rfl, hst2, hk2, hon, hwh⟩
      obtain ⟨lm, hl0, he0, hF, hWL⟩ := hlm.out
      have hs2w := hk2.size
      have HWL := Lib.hid (Tm.WholeL.same (S := fun b => b < wr.heap.size ∧ w.heap.size + 3 ≤ b) (fun b hb => (hk2.block b (by omega) (fun h => by rcases h with h | h <;> omega)).trans (gE.block b hb.1)) (hF.2.2.mono fun b hb => ⟨hb.2.1, hb.1.resolve_left id⟩) hWL)
      have HLon := Lib.hid hF.2.2
      have Hwh := Lib.hid hwh
      have hF2 : Built w2 (w.heap.size + 3) (fun _ => False) _ lm := (hF.gr gE).kp hk2 (fun b hb h => by rcases h with h | h <;> omega)
      have HF2 := Lib.hid hF2
      have Hvl := Lib.hid hF2.1.lt
      have hs2 := hk2.size
      have Hl0 := Lib.hid hl0
      have He0 := Lib.hid he0
      have Hin := Lib.hid hin
      have Hon := Lib.hid hon
      have He := Lib.hid he
      have Hst2 := Lib.hid hst2
      have g2 : Gr w w2 := Below.trans (gr.trans gE) (hk2.below (B := w.heap.size) (fun b hb => by rcases hb with hb | hb <;> omega) (by omega))
      have Hvf := Lib.hid hF.1.lt
      clear hF hF2 hl0 he0 hin hon he hst2 hk2 hlm y0 y1 y2 y3 hwh hWL
      obtain ⟨k', n', s', p2, c2, l2⟩ := xm
      simp only [Tm.val, Tm.k, Tm.n, Tm.s, Tm.p, Tm.c, Tm.l]
      go_wp2_with
        (at_builtin
         refine wpList_append_termG rfl _ _ rfl rfl (w.heap.size + 3) (fun _ => False) _ lm (.mk k' n' s' p2 c2 l2) w2.heap.size 1 rfl rfl (HF2.out.gr (by go_grown)) (by simp; omega) (Tm.In_below (by go_grown) Hin.out) (Hon.out.mono fun b hb => ⟨.inr (by omega), fun e => by have := Hvf.out b e; omega⟩) (by have := Hl0.out; omega) (by show _ = some (Value.int .i64 k'); go_cell) (by show _ = some (Value.int .i64 n'); go_cell) (by show _ = some (Value.string s'); go_cell) (by show _ = some (Value.slice p2 l2.length c2); go_cell) ?_
         intro v' w4 hbt hbel hgb
         have hsame : ∀ b, b < w2.heap.size → (w2.alloc (.cells #[.int .i64 k', .int .i64 n', .string s', .slice p2 l2.length c2] 25)).heap[b]? = w2.heap[b]? := fun b hb => heap_alloc_old w2 _ hb
         have hw1 : Tm.WholeL w4 lm := Tm.WholeL.same (fun b hb => (hgb.block b (by simp only [World.size_alloc]; have := hb.2.1; omega) (Ne.symm hb.2.2)).trans (hsame b (by have := hb.2.1; omega))) HLon.out HWL.out
         have hw2 : (Tm.mk k' n' s' p2 c2 l2).Whole w4 := Tm.Whole.same (fun b hb => (hgb.block b (by simp only [World.size_alloc]; have := hb.2; omega) (fun e => by have := Hvf.out b e.symm; have := hb.1; omega)).trans (hsame b hb.2)) (Tm.On.and Hon.out Hin.out.on) Hwh.out
         have HW4 := Lib.hid (Tm.WholeL_append hw1 (by rw [Tm.WholeL, Tm.WholeL]; exact ⟨hw2, trivial⟩ : Tm.WholeL w4 [Tm.mk k' n' s' p2 c2 l2]))
         clear hgb hsame hw1 hw2)
      go_roundg (l.length - (k + 1))
      case measure => omega
      case rel =>
        have hg4 : Below (w.heap.size + 3) w2 w4 := Below.trans (show Below (w.heap.size + 3) w2 _ by go_grown) hbel
        exact ⟨k + 1, by omega, rfl, by go_num, ⟨_, by rw [List.length_append, Hl0.out]; rfl, by rw [eraseL_append, He0.out, Hm1.out, ← He.out]; simp [Tm.eraseL], hbt, HW4.out⟩, by rw [Hv1.out]; exact Hst2.out.below hg4 (by omega) (by omega) (by omega), by rw [Hv1.out]; exact HVk.out.vars _ Hfx.out, Below.trans g2 (hg4.mono (by omega)), by have := hg4.size; omega⟩
    · obtain rfl : k = l.length := by omega
      obtain ⟨lm, hl0, he0, hF, hWL⟩ := hlm.out
      have HWL := Lib.hid hWL
      obtain ⟨pv, cv, rfl, hcv1, hcv2⟩ := hF.form
      have HF := Lib.hid hF
      have Hl0 := Lib.hid hl0
      have He0 := Lib.hid he0
      have cF := cell_of_row wr w.heap.size 0 _ _ _ HSt.out.next
      simp only [List.getElem?_toArray, List.getElem?_cons_zero, List.take_length] at cF
      clear hF hl0 he0 hlm hWL
      go_wp2_with fail
      go_quiet (fail)
      go_wp2_with fail
      rw [← HQ.out]
      have hsl := HF.out.sl (by rw [Hl0.out]; exact hl64)
      exact ⟨pv, cv, lm, rfl, hsl.2.1.mono ((Gr.rfl' wr).drewN _), by rw [He0.out, List.take_length], gr.drewN _, hsl.2.2.mono fun b hb => hb.elim (fun h => h.elim) fun h => by omega, Tm.WholeL.same (S := (· < wr.heap.size)) (fun b hb => ((Gr.rfl' wr).drewN _).block b hb) (Tm.In.onL hsl.2.1.2.2.2) HWL.out⟩

end Go.Proofs.Ythncdmijledpnaa

namespace Go.Proofs.Ythncdmijledpnaa
open Go.RowKit

/-- A slice of numbers. -/
def IntSl (w : World) (p : Option Addr) (c : Nat) (L : List Int) : Prop :=
  L.length ≤ c ∧ c ≤ 9223372036854775807 ∧ (∀ n ∈ L, In64 n) ∧ (L = [] ∨ ∃ b o, p = some ⟨b, o, none⟩ ∧ b < w.heap.size ∧ ∀ i n, L[i]? = some n → w.cell? ⟨b, o + i, none⟩ = some (.int .i64 n))
theorem IntSl.mono {w w' : World} {p : Option Addr} {c : Nat} {L : List Int} (h : IntSl w p c L) (hg : Gr w w') : IntSl w' p c L := by
  obtain ⟨h1, h2, h3, h4⟩ := h
  refine ⟨h1, h2, h3, h4.imp id ?_⟩
  rintro ⟨b, o, hp, hb, hr⟩
  exact ⟨b, o, hp, Nat.lt_of_lt_of_le hb hg.size, fun i n hn => hg.at (hr i n hn)⟩
theorem IntSl.ptr {w : World} {p : Option Addr} {c : Nat} {L : List Int} (h : IntSl w p c L) (hl : 0 < L.length) : ∃ b o, p = some ⟨b, o, none⟩ ∧ b < w.heap.size ∧ ∀ i n, L[i]? = some n → w.cell? ⟨b, o + i, none⟩ = some (.int .i64 n) := by
  rcases h.2.2.2 with rfl | h4
  · simp at hl
  · exact h4

/-- The slice v of the call's own (blocks from B on) holds the numbers. -/
def IntsOwn (w : World) (B : Nat) (v : Value) (L : List Int) : Prop := w.ownsRow B 2 1 v L.length (L.map (Value.int .i64))
theorem IntsOwn.nil (w : World) (B : Nat) : IntsOwn w B (.slice none 0 0) [] := World.ownsRow_nil w B _ 1
theorem IntsOwn.gr {w w' : World} {B : Nat} {v : Value} {L : List Int} (h : IntsOwn w B v L) (hg : Gr w w') : IntsOwn w' B v L := ownsRow_gr h hg
theorem IntsOwn.form {w : World} {B : Nat} {v : Value} {L : List Int} (h : IntsOwn w B v L) : ∃ p c, v = .slice p L.length c := by
  rcases h.2 with ⟨rfl, h0⟩ | ⟨g, cap, cur, rfl, _⟩
  · exact ⟨none, 0, by rw [h0]⟩
  · exact ⟨_, _, rfl⟩
theorem IntsOwn.sl {w : World} {B : Nat} {p : Option Addr} {n c : Nat} {L : List Int} (h : IntsOwn w B (.slice p n c) L) (hL : ∀ n ∈ L, In64 n) : n = L.length ∧ IntSl w p c L := by
  rcases h.2 with ⟨h0, h1⟩ | ⟨g, cap, cur, h0, hbg, hg, hnc, hcm, hcs, htake⟩
  · cases h0
    have hn : L = [] := List.eq_nil_of_length_eq_zero h1
    subst hn
    exact ⟨rfl, Nat.le_refl _, by omega, hL, .inl rfl⟩
  · cases h0
    simp only [maxLen] at hcm
    refine ⟨rfl, hnc, by omega, hL, .inr ⟨g, 0, rfl, (Array.getElem?_eq_some_iff.1 hg).1, fun i n hn => ?_⟩⟩
    have hi : i < L.length := (List.getElem?_eq_some_iff.1 hn).1
    rw [Nat.zero_add, World.ownsRow.cellAt h i (by omega), List.getElem?_map, hn]
    rfl

theorem Kp.of_grown {C : Nat → Prop} {w w' : World} {row : Option Nat} (h : w.grownBy w' row) (hC : ∀ r, row = some r → C r) : Kp C w w' :=
  ⟨h.os, h.tape, h.output, h.size, fun i hi hc => h.block i hi fun e => hc (hC i e.symm)⟩

theorem infoI64 : (Try.prog.info? 2).map (fun i => (i.zero, i.size, i.bytes)) = some (some (.int .i64 0), 1, 8) := by kernel_rfl

end Go.Proofs.Ythncdmijledpnaa

namespace Go.Proofs.Ythncdmijledpnaa
open Go.RowKit

mutual
def T.fmd : T → Bool
  | .mk k n s l =>
    if k = 1 then decide (0 ≤ n) && decide (n ≤ 1099515822080) && decide (s = []) && decide (l.length = 0)
    else if k = 2 then decide (s = []) && decide (l.length = 0)
    else if k = 3 then decide (n = 0) && decide (s.length ≤ 100) && decide (l.length = 0)
    else if k = 4 then decide (n = 0) && decide (s.length ≤ 100) && decide (1 ≤ l.length) && decide (l.length ≤ 50) && T.fmdL l
    else false
def T.fmdL : List T → Bool
  | [] => true
  | x :: xs => T.fmd x && T.fmdL xs
end

theorem fmd_args {k n : Int} {s : List UInt8} {l : List T} (h : (T.mk k n s l).fmd = true) : (k = 4 ∧ T.fmdL l = true) ∨ (k ≠ 4 ∧ l = []) := by
  rw [T.fmd] at h
  by_cases h1 : k = 1
  · subst h1
    simp at h
    exact .inr ⟨by decide, h.2⟩
  · by_cases h2 : k = 2
    · subst h2
      simp at h
      exact .inr ⟨by decide, h.2⟩
    · by_cases h3 : k = 3
      · subst h3
        simp at h
        exact .inr ⟨by decide, h.2⟩
      · by_cases h4 : k = 4
        · subst h4
          simp at h
          exact .inl ⟨rfl, h.2⟩
        · simp [h1, h2, h3, h4] at h


def VarsOkB (V : List Int) : Prop := V.Nodup ∧ ∀ n ∈ V, 0 ≤ n ∧ n ≤ 1099515822080

theorem VarsOkB.len {V : List Int} (h : VarsOkB V) : V.length ≤ 1099515822081 := by
  have h1 : V.Nodup := h.1
  have h2 : V ⊆ (List.range 1099515822081).map (fun i : Nat => (i : Int)) := by
    intro n hn
    have := h.2 n hn
    rw [List.mem_map]
    exact ⟨n.toNat, List.mem_range.2 (by omega), by omega⟩
  have h3 := h1.length_le_of_subset h2
  rw [List.length_map, List.length_range] at h3
  exact h3

theorem VarsOkB.nil : VarsOkB [] := ⟨List.nodup_nil, fun _ h => by cases h⟩

theorem fmd_var {n : Int} {s : List UInt8} {l : List T} (h : (T.mk 1 n s l).fmd = true) : (0 ≤ n ∧ n ≤ 1099515822080) ∧ s = [] ∧ l = [] := by
  rw [T.fmd] at h
  simp at h
  exact ⟨h.1.1, h.1.2, h.2⟩

theorem VarsOkB.one {V : List Int} (h : VarsOkB V) {n : Int} (hn : 0 ≤ n ∧ n ≤ 1099515822080) : VarsOkB (if n ∈ V then V else V ++ [n]) := by
  split
  · exact h
  · rename_i hm
    refine ⟨?_, fun k hk => ?_⟩
    · rw [List.nodup_append]
      exact ⟨h.1, by simp, fun a ha b hb => by rw [List.mem_singleton] at hb; subst hb; exact fun e => hm (e ▸ ha)⟩
    · rcases List.mem_append.1 hk with hk | hk
      · exact h.2 k hk
      · rw [List.mem_singleton] at hk; exact hk ▸ hn

mutual
theorem VarsOkB.vars : ∀ (t : T) {V : List Int}, VarsOkB V → t.fmd = true → VarsOkB (T.vars t V)
  | .mk k n s l, V, h, hf => by
    rw [T.vars]
    by_cases h1 : k = 1
    · subst h1
      rw [if_pos rfl]
      exact h.one (fmd_var hf).1
    · rw [if_neg h1]
      rcases fmd_args hf with ⟨_, hl⟩ | ⟨_, rfl⟩
      · exact VarsOkB.varsL l h hl
      · rw [T.varsL]; exact h
theorem VarsOkB.varsL : ∀ (l : List T) {V : List Int}, VarsOkB V → T.fmdL l = true → VarsOkB (T.varsL l V)
  | [], V, h, _ => by rw [T.varsL]; exact h
  | x :: xs, V, h, hf => by
    rw [T.fmdL, Bool.and_eq_true] at hf
    rw [T.varsL]
    exact VarsOkB.varsL xs (VarsOkB.vars x h hf.1) hf.2
end

theorem VarsOkB.in64 {V : List Int} (h : VarsOkB V) : ∀ n ∈ V, In64 n := fun n hn => by have := h.2 n hn; exact ⟨by omega, by omega⟩

theorem fmdL_erase {l : List Tm} (h : ∀ x ∈ l, x.erase.fmd = true) : T.fmdL (Tm.eraseL l) = true := by
  induction l with
  | nil => rw [Tm.eraseL, T.fmdL]
  | cons x xs ih =>
    rw [Tm.eraseL, T.fmdL, h x (List.mem_cons_self ..), ih fun y hy => h y (List.mem_cons_of_mem _ hy)]
    rfl

mutual
theorem fmd_of : ∀ {t : T}, t.formed = true → t.fmd = true
  | .mk k n s l, h => by
    rw [T.formed] at h
    rw [T.fmd]
    by_cases h1 : k = 1
    · rw [if_pos h1] at h ⊢
      simp only [Bool.and_eq_true, decide_eq_true_eq] at h ⊢
      exact ⟨⟨⟨h.1.1.1, by omega⟩, h.1.2⟩, h.2⟩
    · rw [if_neg h1] at h ⊢
      by_cases h2 : k = 2
      · rw [if_pos h2] at h ⊢; exact h
      · rw [if_neg h2] at h ⊢
        by_cases h3 : k = 3
        · rw [if_pos h3] at h ⊢; exact h
        · rw [if_neg h3] at h ⊢
          by_cases h4 : k = 4
          · rw [if_pos h4] at h ⊢
            rw [Bool.and_eq_true] at h ⊢
            exact ⟨h.1, fmdL_of h.2⟩
          · rw [if_neg h4] at h; cases h
theorem fmdL_of : ∀ {l : List T}, T.formedL l = true → T.fmdL l = true
  | [], _ => by rw [T.fmdL]
  | x :: xs, h => by
    rw [T.formedL, Bool.and_eq_true] at h
    rw [T.fmdL, fmd_of h.1, fmdL_of h.2]; rfl
end

end Go.Proofs.Ythncdmijledpnaa

namespace Go.Proofs.Ythncdmijledpnaa

def sComma : List UInt8 := [44]
def sEqual : List UInt8 := [61]
def sDot : List UInt8 := [46]
def sNil : List UInt8 := [91, 93]
def sCurl : List UInt8 := [123, 125]
def sCut : List UInt8 := [33]
def sNot : List UInt8 := [92, 43]
def sArrow : List UInt8 := [45, 62]
def sSemi : List UInt8 := [59]
/-- words of a list, with something behind. -/
def T.words : T → T → Option T
  | .mk k n s l, r =>
    if (T.mk k n s l).isOf sNil 0 then some r
    else if (T.mk k n s l).isOf sDot 2 then (match l with
      | [x, y] => (T.words y r).map fun u => compT sDot [x, u]
      | _ => none)
    else none

def T.gcall (res : List UInt8 → Int → Bool) (t a b : T) : Option T :=
  if t.callable then (if 50 < t.l.length + 2 then none else if res t.s ((t.l.length + 2 : Nat) : Int) then none else some (compT t.s (t.l ++ [a, b]))) else none

def eqT (a b : T) : T := compT sEqual [a, b]
def bothT (a b : T) : T := compT sComma [a, b]

/-- The goal that a body is between two terms; m: the next new variable. -/
def T.goal (res : List UInt8 → Int → Bool) : T → T → T → Int → Option (T × Int)
  | .mk k n s l, a, b, m =>
    if k = 1 then some (compT sCallT [.mk k n s l, a, b], m)
    else if k = 2 then none
    else if (T.mk k n s l).isOf sComma 2 || (T.mk k n s l).isOf sArrow 2 then (match l with
      | [x, y] => match T.goal res x a (varT m) (m + 1) with
        | none => none
        | some (u, m1) => match T.goal res y (varT m) b m1 with
          | none => none
          | some (v, m2) => some (compT s [u, v], m2)
      | _ => none)
    else if (T.mk k n s l).isOf sSemi 2 then (match l with
      | [x, y] => match T.goal res x a b m with
        | none => none
        | some (u, m1) => match T.goal res y a b m1 with
          | none => none
          | some (v, m2) => some (compT sSemi [u, v], m2)
      | _ => none)
    else if (T.mk k n s l).isOf sNot 1 then (match l with
      | [x] => match T.goal res x a (varT m) (m + 1) with
        | none => none
        | some (u, m1) => some (bothT (compT sNot [u]) (eqT a b), m1)
      | _ => none)
    else if (T.mk k n s l).isOf sNil 0 || (T.mk k n s l).isOf sCurl 0 then some (eqT a b, m)
    else if (T.mk k n s l).isOf sCurl 1 then (match l with
      | [x] => match T.body x with
        | none => none
        | some u => some (bothT u (eqT a b), m)
      | _ => none)
    else if (T.mk k n s l).isOf sCut 0 then some (bothT (.mk k n s l) (eqT a b), m)
    else if (T.mk k n s l).isOf sDot 2 then (T.words (.mk k n s l) b).map fun u => (eqT a u, m)
    else if s = sCallT ∧ 0 < l.length then (if 8 < l.length + 2 then none else some (compT sCallT (l ++ [a, b]), m))
    else (T.gcall res (.mk k n s l) a b).map fun u => (u, m)

mutual
def T.size : T → Nat
  | .mk _ _ _ l => T.sizeL l + 1
def T.sizeL : List T → Nat
  | [] => 0
  | x :: xs => T.size x + T.sizeL xs
end

/-! ### The goal, case by case -/
section
variable {res : List UInt8 → Int → Bool} {k n : Int} {s : List UInt8} {l : List T} {x y a b : T} {m : Int}
end

end Go.Proofs.Ythncdmijledpnaa
