/-
  arith.fold, arith.Fold
-/
import Derived.Test.YtgaijgadeodoeaaF2
import Derived.Test.YtgaijgadeodoeaaAC
namespace Go.Proofs.Ytgaijgadeodoeaa
open Go.RowKit

mutual
/-- The term whose parts that come to numbers are numbers. -/
def T.fold : T → T
  | .mk k n s l => if k = 4 then match evalT (.mk k n s l) with
      | .ok m => intT m
      | .bad _ => .mk k n s (T.foldL l)
    else .mk k n s l
def T.foldL : List T → List T
  | [] => []
  | x :: xs => T.fold x :: T.foldL xs
end

theorem T.foldL_erase : ∀ (l : List Tm) (k : Nat) (hk : k < l.length), T.foldL (Tm.eraseL (l.take (k + 1))) = T.foldL (Tm.eraseL (l.take k)) ++ [T.fold l[k].erase]
  | x :: xs, 0, _ => by simp [T.foldL, Tm.eraseL]
  | x :: xs, k + 1, hk => by
    simp only [List.take_succ_cons, Tm.eraseL, T.foldL, List.getElem_cons_succ, List.cons_append]
    rw [T.foldL_erase xs k (by simpa using hk)]

theorem comp_calls' (s : ByteArray) (p : Option Addr) (n c : Nat) (w : World) : Calls Try.prog 73 #[.string s, .slice p n c] w (Ret (.agg #[.int .i64 4, .int .i64 0, .string s, .slice p n c]) w) := comp_calls s p n c w
theorem int_calls' (n : Int) (w : World) : Calls Try.prog 98 #[.int .i64 n] w (Ret (.agg #[.int .i64 2, .int .i64 n, .string ⟨#[]⟩, .slice none 0 0]) w) := int_calls n w

def foldOf (t : Tm) : Prop := ∀ w : World, t.In w → t.erase.formed = true → Calls Try.prog 52 #[t.val] w (RetTm (w.heap.size ≤ ·) (T.fold t.erase) w)

set_option maxHeartbeats 1000000 in
set_option maxRecDepth 100000 in
theorem fold_leaf (k n : Int) (s : ByteArray) (p : Option Addr) (c : Nat) (l : List Tm) (hk : k ≠ 4) : foldOf (.mk k n s p c l) := by
  intro w h hfm
  have H := Lib.hid h
  have Hfm := Lib.hid hfm
  have hk' : (k == 4) = false := beq_eq_false_iff_ne.2 hk
  have He : Hid (T.fold (Tm.mk k n s p c l).erase = (Tm.mk k n s p c l).erase) := by show _ = _; rw [Tm.erase, T.fold, if_neg hk]
  rw [Tm.In] at h
  obtain ⟨hk0, hn, hs, hlc, hc, hp, hIn⟩ := h
  clear hp hIn hfm hk
  rw [He.out]
  simp only [Tm.val, Tm.k, Tm.n, Tm.s, Tm.p, Tm.c, Tm.l]
  go_enter Try.func52, Try.ntmps52
  go_wp2_with fail
  refine (copy_calls (t := .mk k n s p c l) (Tm.In_below (by go_grown) H.out) Hfm.out).mono ?_
  rintro e w1 ⟨bm, hin, he, rfl, hb1, hon⟩
  obtain ⟨⟨y0, y1, y2, y3⟩, ⟨f0, f1, f2, f3⟩, hlt⟩ := (Blk4.gr (Blk4.new _ _ _ _ _) hb1).parts
  simp only [World.size_alloc] at y0 y1 y2 y3 f0 f1 f2 f3 hlt hon
  have g1 : Gr w w1 := below_step hb1 (by go_grown)
  have Hin := Lib.hid hin
  have Hon := Lib.hid hon
  have Hbe := Lib.hid he
  clear hin hon he hb1
  obtain ⟨k', n', s', p', c', l'⟩ := bm
  simp only [Tm.val, Tm.k, Tm.n, Tm.s, Tm.p, Tm.c, Tm.l]
  go_wp2_with fail
  refine bodyPost_ret (v := (Tm.mk k' n' s' p' c' l').val) (by simp [results, Try.results52, go_sem, Tm.val, Tm.k, Tm.n, Tm.s, Tm.p, Tm.c, Tm.l, y0, y1, y2, y3]) rfl ⟨Tm.mk k' n' s' p' c' l', ?_, Hbe.out, rfl, by go_grown, Hon.out.mono fun b hb => by omega⟩
  exact in_after' Hin.out Hon.out fun b h1 h2 o => by
    have : b ≠ w.heap.size + 1 := by omega
    rw [cell_set_ne this, cell_set_ne this, cell_set_ne this, cell_set_ne this]

set_option maxHeartbeats 4000000 in
set_option maxRecDepth 100000 in
theorem fold_comp (s : ByteArray) (p : Option Addr) (c : Nat) (l : List Tm) (w : World) (h : (Tm.mk 4 0 s p c l).In w) (hfm : (Tm.mk 4 0 s p c l).erase.formed = true) (ih : ∀ x ∈ l, foldOf x) :
    Calls Try.prog 52 #[(Tm.mk 4 0 s p c l).val] w (RetTm (w.heap.size ≤ ·) (T.fold (Tm.mk 4 0 s p c l).erase) w) := by
  obtain ⟨_, h100, hl1, hl50, hfl⟩ := formed_elem rfl hfm
  have HT := Lib.hid h
  have HSl := Lib.hid h.sl
  have Hev : Hid (evalR (Tm.mk 4 0 s p c l).erase = match evalT (Tm.mk 4 0 s p c l).erase with | .ok n => (n, zeroT, 0) | .bad b => (0, b, 14)) := by show _ = _; rw [evalR, if_pos hfm]; cases evalT (Tm.mk 4 0 s p c l).erase <;> rfl
  rw [Tm.In] at h
  obtain ⟨hk, hn, hs, hlc, hc, hp, hIn⟩ := h
  obtain ⟨b, o, rfl⟩ := HSl.out.ptr (by omega)
  have hbl : b < w.heap.size := Tm.row_lt (by rcases hp with rfl | ⟨b', o', he, hr⟩; · simp at hl1
                                              · cases he; exact hr) (by rintro rfl; simp at hl1)
  have Hih := Lib.hid ih
  have Hfl := Lib.hid hfl
  have Hs := Lib.hid hs
  clear hp hIn ih hfl hk hn hfm hs
  have hr : T.fold (Tm.mk 4 0 s (some ⟨b, o, none⟩) c l).erase = match evalT (Tm.mk 4 0 s (some ⟨b, o, none⟩) c l).erase with | .ok m => intT m | .bad _ => .mk 4 0 s.toList (T.foldL (Tm.eraseL l)) := by rw [Tm.erase, T.fold, if_pos rfl]
  generalize hre : T.fold (Tm.mk 4 0 s (some ⟨b, o, none⟩) c l).erase = r at *
  have Hr := Lib.hid hr
  clear hre hr
  simp only [Tm.val, Tm.k, Tm.n, Tm.s, Tm.p, Tm.c, Tm.l]
  go_enter Try.func52, Try.ntmps52
  go_wp2_with fail
  refine (Eval_calls (t := .mk 4 0 s (some ⟨b, o, none⟩) c l) (Tm.In_below (by go_grown) HT.out)).mono ?_
  rw [Hev.out]
  have HBB : ∀ w1 : World, Below _ _ w1 → Hid (Blk4 w1 w.heap.size (.int .i64 4) (.int .i64 0) (.string s) (.slice (some ⟨b, o, none⟩) l.length c) ∧ Blk4 w1 (w.heap.size + 1) (.int .i64 0) (.int .i64 0) (.string ⟨#[]⟩) (.slice none 0 0)) := fun w1 hb1 =>
    ⟨Blk4.gr (Blk4.old (Blk4.new w (.int .i64 4) (.int .i64 0) (.string s) (.slice (some ⟨b, o, none⟩) l.length c)) (.cells #[.int .i64 0, .int .i64 0, .string ⟨#[]⟩, .slice none 0 0] 28)) hb1,
     Blk4.gr (by have := Blk4.new (w.alloc (.cells #[.int .i64 4, .int .i64 0, .string s, .slice (some ⟨b, o, none⟩) l.length c] 28)) (.int .i64 0) (.int .i64 0) (.string ⟨#[]⟩) (.slice none 0 0); simpa only [World.size_alloc] using this) hb1⟩
  cases hev : evalT (Tm.mk 4 0 s (some ⟨b, o, none⟩) c l).erase with
  | ok m =>
    rintro e w1 ⟨zb, hzi, hze, hm, rfl, hb1⟩
    have HBR := HBB w1 hb1
    have g1 : Gr w w1 := below_step hb1 (by go_grown)
    have Hm := Lib.hid hm
    have e0 : Hid (r = intT m) := by show r = _; rw [Hr.out, hev]
    clear hb1 hev hzi hze hm HBB
    have HR : Hid _ := Lib.hid HBR.out.2
    obtain ⟨k', n', s', p', c', l'⟩ := zb
    simp only [Tm.val, Tm.k, Tm.n, Tm.s, Tm.p, Tm.c, Tm.l]
    go_wp2_with fail
    refine (int_calls' _ _).mono ?_
    rintro e w2 ⟨rfl, hb2⟩
    obtain ⟨⟨y0, y1, y2, y3⟩, ⟨f0, f1, f2, f3⟩, hlt⟩ := (HR.out.gr (show Gr w1 w2 from below_step hb2 (by go_grown))).parts
    have g2 : Gr w w2 := g1.trans (below_step hb2 (by go_grown))
    clear hb2
    go_wp2_with fail
    refine bodyPost_ret (v := (intTm m).val) (by simp [results, Try.results52, go_sem, intTm, Tm.val, Tm.k, Tm.n, Tm.s, Tm.p, Tm.c, Tm.l, y0, y1, y2, y3]) rfl ⟨intTm m, intTm_in Hm.out _, by rw [intTm_erase, e0.out], rfl, by go_grown, intTm_on _⟩
  | bad bb =>
    rintro e w1 ⟨zb, hzi, hze, hm, rfl, hb1⟩
    have HBR := HBB w1 hb1
    have g1 : Gr w w1 := below_step hb1 (by go_grown)
    have e0 : Hid (r = .mk 4 0 s.toList (T.foldL (Tm.eraseL l))) := by show r = _; rw [Hr.out, hev]
    clear hb1 hev hzi hze hm HBB
    obtain ⟨HB, HR⟩ := HBR.out
    replace HB := Lib.hid HB
    replace HR := Lib.hid HR
    obtain ⟨⟨b0, b1, b2, b3⟩, _, hlt0⟩ := HB.out.parts
    have hlt1 : w.heap.size + 1 < w1.heap.size := HR.out.parts.2.2
    obtain ⟨k', n', s', p', c', l'⟩ := zb
    simp only [Tm.val, Tm.k, Tm.n, Tm.s, Tm.p, Tm.c, Tm.l]
    go_wp2_with fail
    clear b0 b1 b2 b3
    go_loopw [6, 27] (fun v i wr => ∃ k : Nat, k ≤ l.length ∧ i = .int .i64 k ∧ Hid (∃ lm : List Tm, lm.length = k ∧ Tm.eraseL lm = T.foldL (Tm.eraseL (l.take k)) ∧ Built wr w1.heap.size (fun _ => False) v lm) ∧ Below w1.heap.size w1 wr)
      (fun _ i _ => l.length - (intOf i).toNat)
    case atStart => exact ⟨0, Nat.zero_le _, rfl, ⟨[], rfl, by simp [T.foldL, Tm.eraseL], Built.nil _ _ _⟩, by go_grown⟩
    case round =>
      obtain ⟨k, hk, rfl, hlm, hb⟩ := hrel
      have hbs := hb.size
      have gr : Gr w wr := g1.trans hb
      by_cases hlt : k < l.length
      · obtain ⟨⟨c0, c1, c2, c3⟩, hx, _⟩ := (HSl.out.mono gr).elem k hlt
        have Hx := Lib.hid hx
        have hmem : l[k] ∈ l := List.getElem_mem hlt
        have Hix := Lib.hid (Hih.out _ hmem)
        have Hfx := Lib.hid (Hfl.out _ hmem)
        have Htk : Hid (T.foldL (Tm.eraseL (l.take (k + 1))) = T.foldL (Tm.eraseL (l.take k)) ++ [T.fold l[k].erase]) := T.foldL_erase l k hlt
        clear hx hmem
        generalize hxe : l[k] = x at *
        go_wp2_with fail
        refine (Hix.out _ (Tm.In_below (by go_grown) Hx.out) Hfx.out).mono ?_
        rintro e w2 ⟨xm, hin, he, rfl, hb2, hon⟩
        obtain ⟨lm, hl0, he0, hF⟩ := hlm.out
        have g2 : Gr wr w2 := below_step hb2 (by go_grown)
        have HF2 := Lib.hid (hF.gr g2)
        have Hvl := Lib.hid hF.1.lt
        have hb3 : Below w1.heap.size w1 w2 := Below.trans hb (g2.mono hbs)
        have hs2 := hb2.size
        simp only [World.size_alloc, World.size_setCell] at hs2 hon
        have Hl0 := Lib.hid hl0
        have He0 := Lib.hid he0
        have Hin := Lib.hid hin
        have Hon := Lib.hid hon
        have He := Lib.hid he
        clear hF hl0 he0 hin hon he hb2 hlm g2
        obtain ⟨k', n', s', p', c', l'⟩ := xm
        simp only [Tm.val, Tm.k, Tm.n, Tm.s, Tm.p, Tm.c, Tm.l]
        go_wp2_with
          (at_builtin
           refine wpList_append_term rfl _ _ rfl rfl w1.heap.size (fun _ => False) _ lm (.mk k' n' s' p' c' l') w2.heap.size 1 rfl rfl (HF2.out.gr (by go_grown)) (by simp; omega) (Tm.In_below (by go_grown) Hin.out) (Hon.out.mono fun b hb => ⟨.inr (by omega), fun h => by have := (Hvl.out b h).2; omega⟩) (by have := Hl0.out; omega) (by show _ = some (Value.int .i64 k'); go_cell) (by show _ = some (Value.int .i64 n'); go_cell) (by show _ = some (Value.string s'); go_cell) (by show _ = some (Value.slice p' l'.length c'); go_cell) ?_
           intro v' w4 hbt hbel _)
        go_roundw
        case rel =>
          exact ⟨k + 1, by omega, by go_num, ⟨_, by rw [List.length_append, Hl0.out]; rfl, by rw [eraseL_append, He0.out, Htk.out, ← He.out]; simp [Tm.eraseL], hbt⟩, Below.trans hb3 (Below.trans (show Below w1.heap.size w2 _ by go_grown) hbel)⟩
        case measure => simp [intOf]; omega
      · obtain rfl : k = l.length := by omega
        obtain ⟨lm, hl0, he0, hF⟩ := hlm.out
        have HB' : Hid _ := Lib.hid (HB.out.below hb (by omega))
        have HR' : Hid _ := Lib.hid (HR.out.below hb (by omega))
        obtain ⟨⟨b0, b1, b2, b3⟩, _, hbs1⟩ := HB'.out.parts
        obtain ⟨pv, cv, rfl, hcv1, hcv2⟩ := hF.form
        have HF := Lib.hid hF
        have Hl0 := Lib.hid hl0
        have He0 := Lib.hid he0
        clear hF hl0 he0 hlm
        go_wp2_with fail
        refine (comp_calls' _ _ _ _ _).mono ?_
        rintro e w2 ⟨rfl, hb2⟩
        have HR2 := HR'.out.gr hb2
        obtain ⟨⟨y0, y1, y2, y3⟩, ⟨f0, f1, f2, f3⟩, hbs2⟩ := HR2.parts
        have g2 : Gr w w2 := gr.trans hb2
        have HF2 := Lib.hid (HF.out.gr hb2)
        clear hb2 b0 b1 b2 b3 HR2
        go_wp2_with fail
        have hsl := HF2.out.sl (by have := Hl0.out; omega)
        refine bodyPost_ret (v := (Tm.mk 4 0 s pv cv lm).val) (by simp [results, Try.results52, go_sem, Tm.val, Tm.k, Tm.n, Tm.s, Tm.p, Tm.c, Tm.l, y0, y1, y2, y3]) rfl ⟨_, ?_, ?_, rfl, by go_grown, ?_⟩
        · have hin : (Tm.mk 4 0 s pv cv lm).In w2 := compTm_in Hs.out hsl.2.1
          have hon : (Tm.mk 4 0 s pv cv lm).On (fun b => False ∨ w1.heap.size ≤ b) := by rw [Tm.On]; exact hsl.2.2
          exact in_after' hin hon fun b h1 h2 o => by
            have : b ≠ w.heap.size + 1 := by rcases h1 with h1 | h1; · exact h1.elim
                                             · omega
            rw [cell_set_ne this, cell_set_ne this, cell_set_ne this, cell_set_ne this]
        · rw [Tm.erase, He0.out, List.take_length, e0.out]
        · rw [Tm.On]
          exact ⟨hsl.2.2.1.imp id fun ⟨b, o, h1, h2⟩ => ⟨b, o, h1, h2.elim (fun h => h.elim) fun h => by omega⟩, hsl.2.2.2.mono fun b hb => hb.elim (fun h => h.elim) fun h => by omega⟩

theorem fold_any (N : Nat) : ∀ (t : Tm), SizeOf.sizeOf t ≤ N → foldOf t := by
  induction N with
  | zero => intro t h; cases t; simp at h
  | succ N ih =>
    intro t hN
    obtain ⟨k, n, s, p, c, l⟩ := t
    by_cases hk : k = 4
    · subst hk
      intro w h hfm
      obtain ⟨rfl, _⟩ := formed_elem rfl hfm
      exact fold_comp s p c l w h hfm fun x hx => ih x (by have := Tm.sizeOf_mem hx 4 0 s p c; omega)
    · exact fold_leaf k n s p c l hk

theorem fold_calls {t : Tm} {w : World} (h : t.In w) (hf : t.erase.formed = true) : Calls Try.prog 52 #[t.val] w (RetTm (w.heap.size ≤ ·) (T.fold t.erase) w) := fold_any _ t (Nat.le_refl _) w h hf

/-- A term and an error. -/
def RetTE (S : Nat → Prop) (t : T) (n : Int) (w : World) (e : Ending) (w' : World) : Prop := ∃ b : Tm, b.In w' ∧ b.erase = t ∧ e = .returned (.tuple #[b.val, .int .i64 n]) ∧ Gr w w' ∧ b.On S

set_option maxHeartbeats 1000000 in
set_option maxRecDepth 100000 in
/-- arith.Fold, of whatever term. -/
theorem Fold_calls {t : Tm} {w : World} (h : t.In w) : Calls Try.prog 21 #[t.val] w (RetTE (w.heap.size ≤ ·) (if t.erase.formed then T.fold t.erase else zeroT) (if t.erase.formed then 0 else 2) w) := by
  have H := Lib.hid h
  clear h
  generalize hf : t.erase.formed = f
  have Hf := Lib.hid hf
  clear hf
  simp only [Tm.val]
  go_enter Try.func21, Try.ntmps21
  go_wp2_with fail
  refine (all_calls (l := [t]) (one_row (t := t) (Tm.In_below (by go_grown) H.out) (by go_cell) (by go_cell) (by go_cell) (by go_cell))).mono ?_
  rintro e w1 ⟨rfl, hb1⟩
  rw [show T.formedL (Tm.eraseL [t]) = f by rw [Tm.eraseL, Tm.eraseL, T.formedL, T.formedL, Bool.and_true, Hf.out]]
  have HR : Hid (Blk4 w1 (w.heap.size + 1) (.int .i64 0) (.int .i64 0) (.string ⟨#[]⟩) (.slice none 0 0)) := (Blk4.old (by have := Blk4.new (w.alloc (.cells #[.int .i64 t.k, .int .i64 t.n, .string t.s, .slice t.p t.l.length t.c] 28)) (.int .i64 0) (.int .i64 0) (.string ⟨#[]⟩) (.slice none 0 0); simpa only [World.size_alloc] using this) _).gr hb1
  have HB : Hid (Blk4 w1 w.heap.size (.int .i64 t.k) (.int .i64 t.n) (.string t.s) (.slice t.p t.l.length t.c)) := (Blk4.old (Blk4.old (Blk4.new w _ _ _ _) _) _).gr hb1
  have g1 : Gr w w1 := below_step hb1 (by go_grown)
  clear hb1
  obtain ⟨⟨b0, b1, b2, b3⟩, _, _⟩ := HB.out.parts
  obtain ⟨⟨y0, y1, y2, y3⟩, ⟨f0, f1, f2, f3⟩, hlt⟩ := HR.out.parts
  cases f
  · go_wp2_with fail
    refine bodyPost_ret (v := .tuple #[zeroTm.val, .int .i64 2]) (by simp [results, Try.results21, go_sem, zeroTm, Tm.val, Tm.k, Tm.n, Tm.s, Tm.p, Tm.c, Tm.l, y0, y1, y2, y3]) rfl ⟨zeroTm, zeroTm_in _, zeroTm_erase, rfl, by go_grown, by rw [zeroTm, Tm.On, Tm.OnL]; exact ⟨.inl rfl, trivial⟩⟩
  · go_wp2_with fail
    refine (fold_calls (t := t) (Tm.In_below (by go_grown) H.out) Hf.out).mono ?_
    rintro e w2 ⟨bm, hin, he, rfl, hb2, hon⟩
    have HR2 := HR.out.gr hb2
    clear y0 y1 y2 y3 f0 f1 f2 f3
    obtain ⟨⟨y0, y1, y2, y3⟩, ⟨f0, f1, f2, f3⟩, _⟩ := HR2.parts
    have g2 : Gr w w2 := g1.trans hb2
    have Hin := Lib.hid hin
    have Hon := Lib.hid hon
    have He := Lib.hid he
    clear hin hon he hb2 HR2 b0 b1 b2 b3
    obtain ⟨k', n', s', p', c', l'⟩ := bm
    simp only [Tm.val, Tm.k, Tm.n, Tm.s, Tm.p, Tm.c, Tm.l]
    go_wp2_with fail
    refine bodyPost_ret (v := .tuple #[(Tm.mk k' n' s' p' c' l').val, .int .i64 0]) (by simp [results, Try.results21, go_sem, Tm.val, Tm.k, Tm.n, Tm.s, Tm.p, Tm.c, Tm.l, y0, y1, y2, y3]) rfl ⟨Tm.mk k' n' s' p' c' l', ?_, He.out, rfl, by go_grown, Hon.out.mono fun b hb => by omega⟩
    exact in_after' Hin.out Hon.out fun b h1 h2 o => by
      have : b ≠ w.heap.size + 1 := by omega
      rw [cell_set_ne this, cell_set_ne this, cell_set_ne this, cell_set_ne this]
end Go.Proofs.Ytgaijgadeodoeaa
