/-
  hornref.Swap
-/
import Derived.Test.YtgaijgadeodoeaaDoorV8
namespace Go.Proofs.YtgaijgadeodoeaaDoor
open Go.RowKit

def swapOf (t : Tm) : Prop := ∀ (d : Int) (p : Option Addr) (c : Nat) (V : List Int) (w : World), t.In w → t.erase.formed = true → IntSl w p c V → VarsOk V → (0 ≤ d ∧ d ≤ 1099511627777) →
  Calls Tryd.prog 45 #[t.val, .slice p V.length c, .int .i64 d] w (RetTm (w.heap.size ≤ ·) (T.map (swapF d V) t.erase) w)

set_option maxHeartbeats 2000000 in
set_option maxRecDepth 100000 in
theorem swap_var (n : Int) (s : ByteArray) (p' : Option Addr) (c' : Nat) (d : Int) (p : Option Addr) (c : Nat) (V : List Int) (w : World) (hin : (Tm.mk 1 n s p' c' []).In w) (hn : 0 ≤ n ∧ n ≤ 1099511627776) (h : IntSl w p c V) (hV : VarsOk V) (hd : 0 ≤ d ∧ d ≤ 1099511627777) :
    Calls Tryd.prog 45 #[(Tm.mk 1 n s p' c' []).val, .slice p V.length c, .int .i64 d] w fun e w' => ∃ bm : Tm, bm.l = [] ∧ bm.In w' ∧ (bm = varTm (d + (V.idxOf n : Int)) ∧ n ∈ V ∨ bm = .mk 1 n s p' c' [] ∧ n ∉ V) ∧ e = .returned bm.val ∧ Gr w w' := by
  generalize hQ : (fun (e : Ending) (w' : World) => ∃ bm : Tm, bm.l = [] ∧ bm.In w' ∧ (bm = varTm (d + (V.idxOf n : Int)) ∧ n ∈ V ∨ bm = .mk 1 n s p' c' [] ∧ n ∉ V) ∧ e = .returned bm.val ∧ Gr w w') = Q
  have hR1 : Hid (n ∈ V → ∀ w', Gr w w' → In64 (d + (V.idxOf n : Int)) → Q (.returned (varTm (d + (V.idxOf n : Int))).val) w') := fun h1 w' hg h2 => by rw [← hQ]; exact ⟨_, rfl, varTm_in h2 _, .inl ⟨rfl, h1⟩, rfl, hg⟩
  have hR2 : Hid (n ∉ V → ∀ w', Gr w w' → Q (.returned (Tm.mk 1 n s p' c' []).val) w') := fun h1 w' hg => by rw [← hQ]; exact ⟨_, rfl, Tm.In_below hg hin, .inr ⟨rfl, h1⟩, rfl, hg⟩
  clear hQ
  have H := Lib.hid h
  have hlen := hV.len
  clear h hin hV
  simp only [Tm.val, Tm.k, Tm.n, Tm.s, Tm.p, Tm.c, Tm.l, List.length_nil] at hR2 ⊢
  go_enter Tryd.func45, Tryd.ntmps45
  try simp only [List.append_eq, List.cons_append, List.nil_append]
  go_upto_region 1 with fail
  obtain ⟨HB, HR, gA⟩ := two_blocks w (.int .i64 1) (.int .i64 n) (.string s) (.slice p' (0 : Nat) c') (.int .i64 0) (.int .i64 0) (.string ⟨#[]⟩) (.slice none 0 0)
  generalize (w.alloc (.cells #[.int .i64 1, .int .i64 n, .string s, .slice p' (0 : Nat) c'] 38)).alloc (.cells #[.int .i64 0, .int .i64 0, .string ⟨#[]⟩, .slice none 0 0] 38) = wA at *
  obtain ⟨⟨b0, b1, b2, b3⟩, _, _⟩ := HB.out.parts
  have hcall := Lib.hid (has_calls p c V n wA (H.out.mono gA))
  by_cases hm : n ∈ V
  · have hi : hasIdx V n = (V.idxOf n : Int) := if_pos hm
    have hidx := List.idxOf_lt_length_of_mem hm
    have hv := Lib.hid (hR1.out hm)
    rw [hi] at hcall
    generalize V.idxOf n = j at *
    have hw1 : IntKind.i64.wrap (d + (j : Int)) = d + (j : Int) := IntWalk.i64_in _ (by omega)
    clear hi hm
    go_wp2_with (first
      | (go_at_call 65; refine hcall.out.mono ?_; rintro e w' ⟨rfl, hb⟩; have HR2 := Lib.hid (HR.out.gr hb); have g2 := gA.trans hb; clear hb b0 b1 b2 b3)
      | (go_at_call 66; refine (rV_calls _ _ ⟨by omega, by omega⟩).mono ?_; rintro e w'' ⟨rfl, hb⟩; obtain ⟨⟨y0, y1, y2, y3⟩, ⟨f0, f1, f2, f3⟩, hlt⟩ := (HR2.out.gr hb).parts; have g3 := g2.trans hb; clear hb)
      | fail)
    refine bodyPost_ret (v := (varTm (d + (j : Int))).val) (by simp [results, Tryd.results45, go_sem, varTm, Tm.val, Tm.k, Tm.n, Tm.s, Tm.p, Tm.c, Tm.l, y0, y1, y2, y3]) rfl ?_
    exact hv.out _ (by go_grown) ⟨by omega, by omega⟩
  · have hi : hasIdx V n = -1 := if_neg hm
    have hv := Lib.hid (hR2.out hm)
    rw [hi] at hcall
    clear hi hm
    go_wp2_with (first
      | (go_at_call 65; refine hcall.out.mono ?_; rintro e w' ⟨rfl, hb⟩; obtain ⟨⟨z0, z1, z2, z3⟩, _, _⟩ := (HB.out.gr hb).parts; obtain ⟨⟨y0, y1, y2, y3⟩, ⟨f0, f1, f2, f3⟩, hlt⟩ := (HR.out.gr hb).parts; have g2 := gA.trans hb; clear hb b0 b1 b2 b3)
      | fail)
    refine bodyPost_ret (v := .agg #[.int .i64 1, .int .i64 n, .string s, .slice p' 0 c']) (by simp [results, Tryd.results45, go_sem, y0, y1, y2, y3]) rfl ?_
    exact hv.out _ (by go_grown)

set_option maxHeartbeats 4000000 in
set_option maxRecDepth 100000 in
theorem swap_comp (k0 n : Int) (s : ByteArray) (p' : Option Addr) (c' : Nat) (l : List Tm) (hk1 : k0 ≠ 1) (hl50 : l.length ≤ 50) (hfl : ∀ x ∈ l, x.erase.formed = true) (ih : ∀ x ∈ l, swapOf x)
    (d : Int) (p : Option Addr) (c : Nat) (V : List Int) (w : World) (hin : (Tm.mk k0 n s p' c' l).In w) (h : IntSl w p c V) (hV : VarsOk V) (hd : 0 ≤ d ∧ d ≤ 1099511627777) :
    Calls Tryd.prog 45 #[(Tm.mk k0 n s p' c' l).val, .slice p V.length c, .int .i64 d] w (RetTm (w.heap.size ≤ ·) (.mk k0 n s.toList (T.mapL (swapF d V) (Tm.eraseL l))) w) := by
  have HSl := Lib.hid hin.sl
  rw [Tm.In] at hin
  have hlc : l.length ≤ c' := hin.2.2.2.1
  have hc : c' ≤ 9223372036854775807 := hin.2.2.2.2.1.2
  have Hk := Lib.hid hin.1
  have Hn := Lib.hid hin.2.1
  have Hs := Lib.hid hin.2.2.1
  have Hfl := Lib.hid hfl
  have Hih := Lib.hid ih
  have H := Lib.hid h
  have HV := Lib.hid hV
  have Hd := Lib.hid hd
  have hk1' : (k0 == 1) = false := beq_eq_false_iff_ne.2 hk1
  clear hin hfl ih h hV hd hk1
  generalize hQ : RetTm (w.heap.size ≤ ·) (.mk k0 n s.toList (T.mapL (swapF d V) (Tm.eraseL l))) w = Q
  have HQ := Lib.hid hQ
  clear hQ
  simp only [Tm.val, Tm.k, Tm.n, Tm.s, Tm.p, Tm.c, Tm.l]
  go_enter Tryd.func45, Tryd.ntmps45
  try simp only [List.append_eq, List.cons_append, List.nil_append]
  go_upto_region 1 with fail
  obtain ⟨HB, HR, gA⟩ := two_blocks w (.int .i64 k0) (.int .i64 n) (.string s) (.slice p' l.length c') (.int .i64 0) (.int .i64 0) (.string ⟨#[]⟩) (.slice none 0 0)
  have hszA : ((w.alloc (.cells #[.int .i64 k0, .int .i64 n, .string s, .slice p' l.length c'] 38)).alloc (.cells #[.int .i64 0, .int .i64 0, .string ⟨#[]⟩, .slice none 0 0] 38)).heap.size = w.heap.size + 2 := by simp
  generalize (w.alloc (.cells #[.int .i64 k0, .int .i64 n, .string s, .slice p' l.length c'] 38)).alloc (.cells #[.int .i64 0, .int .i64 0, .string ⟨#[]⟩, .slice none 0 0] 38) = wA at *
  obtain ⟨⟨b0, b1, b2, b3⟩, _, _⟩ := HB.out.parts
  go_wp2_with fail
  clear b0 b1 b2 b3
  go_loopg [8, 9] l.length (fun m u i wr => ∃ k : Nat, k ≤ l.length ∧ m = l.length - k ∧ i = .int .i64 k ∧
    Hid (∃ lm : List Tm, lm.length = k ∧ Tm.eraseL lm = T.mapL (swapF d V) (Tm.eraseL (l.take k)) ∧ Built wr (w.heap.size + 2) (fun _ => False) u lm) ∧
    Hid (Blk4 wr w.heap.size (.int .i64 k0) (.int .i64 n) (.string s) (.slice p' l.length c') ∧ Blk4 wr (w.heap.size + 1) (.int .i64 0) (.int .i64 0) (.string ⟨#[]⟩) (.slice none 0 0)) ∧ Gr w wr ∧ w.heap.size + 2 ≤ wr.heap.size)
  case atStart => exact ⟨0, Nat.zero_le _, rfl, rfl, ⟨[], rfl, by simp [T.mapL, Tm.eraseL], Built.nil _ _ _⟩, ⟨HB.out, HR.out⟩, gA, by omega⟩
  case round =>
    obtain ⟨k, hk, rfl, rfl, hlm, HBR, gr, hws⟩ := hrel
    obtain ⟨⟨b0, b1, b2, b3⟩, ⟨e0, e1, e2, e3⟩, _⟩ := HBR.out.1.parts
    by_cases hkl : k < l.length
    · obtain ⟨b, o, rfl⟩ := HSl.out.ptr (by omega)
      obtain ⟨⟨c0, c1, c2, c3⟩, hxi, _⟩ := (HSl.out.mono gr).elem k hkl
      have hmem : l[k] ∈ l := List.getElem_mem hkl
      have Hx := Lib.hid hxi
      have Hfx := Lib.hid (Hfl.out _ hmem)
      have Hix := Lib.hid (Hih.out _ hmem)
      have Htk : Hid (T.mapL (swapF d V) (Tm.eraseL (l.take (k + 1))) = T.mapL (swapF d V) (Tm.eraseL (l.take k)) ++ [T.map (swapF d V) l[k].erase]) := T.mapL_erase (swapF d V) l k hkl
      clear hmem hxi
      generalize l[k] = x at *
      have Hxv := Lib.hid (show x.val = .agg #[.int .i64 x.k, .int .i64 x.n, .string x.s, .slice x.p x.l.length x.c] from rfl)
      go_wp2_with fail
      clear b0 b1 b2 b3 e0 e1 e2 e3
      rw [← Hxv.out]
      refine (Hix.out d p c V wr Hx.out Hfx.out (H.out.mono gr) HV.out Hd.out).mono ?_
      rintro e w2 ⟨xm, hin, he, rfl, hb2, hon⟩
      obtain ⟨lm, hl0, he0, hF⟩ := hlm.out
      have HF2 := Lib.hid (hF.gr hb2)
      have Hvf := Lib.hid hF.1.lt
      have hs2 := hb2.size
      have Hl0 := Lib.hid hl0
      have He0 := Lib.hid he0
      have Hin := Lib.hid hin
      have Hon := Lib.hid hon
      have He := Lib.hid he
      have HB2 := Lib.hid (And.intro (HBR.out.1.gr hb2) (HBR.out.2.gr hb2))
      have g2 : Gr w w2 := gr.trans hb2
      clear hF hl0 he0 hin hon he hb2 hlm c0 c1 c2 c3
      obtain ⟨k', n', s', p2, c2, l2⟩ := xm
      simp only [Tm.val, Tm.k, Tm.n, Tm.s, Tm.p, Tm.c, Tm.l]
      go_wp2_with
        (at_builtin
         refine wpList_append_term rfl _ _ rfl rfl (w.heap.size + 2) (fun _ => False) _ lm (.mk k' n' s' p2 c2 l2) w2.heap.size 1 rfl rfl (HF2.out.gr (by go_grown)) (by simp; omega) (Tm.In_below (by go_grown) Hin.out) (Hon.out.mono fun b hb => ⟨.inr (by omega), fun e => by have := Hvf.out b e; omega⟩) (by have := Hl0.out; omega) (by show _ = some (Value.int .i64 k'); go_cell) (by show _ = some (Value.int .i64 n'); go_cell) (by show _ = some (Value.string s'); go_cell) (by show _ = some (Value.slice p2 l2.length c2); go_cell) ?_
         intro v' w4 hbt hbel _)
      go_roundg (l.length - (k + 1))
      case measure => omega
      case rel =>
        have hg4 : Below (w.heap.size + 2) w2 w4 := Below.trans (show Below (w.heap.size + 2) w2 _ by go_grown) hbel
        exact ⟨k + 1, by omega, rfl, by go_num, ⟨_, by rw [List.length_append, Hl0.out]; rfl, by rw [eraseL_append, He0.out, Htk.out, ← He.out]; simp [Tm.eraseL], hbt⟩, ⟨HB2.out.1.below hg4 (by omega), HB2.out.2.below hg4 (by omega)⟩, Below.trans g2 (hg4.mono (by omega)), by have := hg4.size; omega⟩
    · obtain rfl : k = l.length := by omega
      obtain ⟨lm, hl0, he0, hF⟩ := hlm.out
      obtain ⟨⟨y0, y1, y2, y3⟩, ⟨f0, f1, f2, f3⟩, hbs2⟩ := HBR.out.2.parts
      obtain ⟨pv, cv, rfl, hcv1, hcv2⟩ := hF.form
      have HF := Lib.hid hF
      have Hl0 := Lib.hid hl0
      have He0 := Lib.hid he0
      clear hF hl0 he0 hlm
      go_wp2_with fail
      refine bodyPost_ret (v := (Tm.mk k0 n s pv cv lm).val) (by simp (maxDischargeDepth := 9) [results, Tryd.results45, go_sem, Tm.val, Tm.k, Tm.n, Tm.s, Tm.p, Tm.c, Tm.l, y0, y1, y2, y3]) rfl ?_
      rw [← HQ.out]
      have hsl := HF.out.sl (by have := Hl0.out; omega)
      refine ⟨Tm.mk k0 n s pv cv lm, ?_, by rw [Tm.erase, He0.out, List.take_length], rfl, by go_grown, ?_⟩
      · have hin : (Tm.mk k0 n s pv cv lm).In wr := by
          rw [Tm.In]
          exact ⟨Hk.out, Hn.out, Hs.out, hsl.2.1.1, hsl.2.1.2.1, hsl.2.1.2.2.1, hsl.2.1.2.2.2⟩
        have hon : (Tm.mk k0 n s pv cv lm).On (fun b => False ∨ w.heap.size + 2 ≤ b) := by rw [Tm.On]; exact hsl.2.2
        exact in_after' hin hon fun b h1 h2 o => by
          have : b ≠ w.heap.size ∧ b ≠ w.heap.size + 1 := by
            rcases h1 with h1 | h1
            · exact h1.elim
            · omega
          rw [cell_set_ne this.2, cell_set_ne this.2, cell_set_ne this.2, cell_set_ne this.2, cell_set_ne this.1]
      · have hon : (Tm.mk k0 n s pv cv lm).On (fun b => False ∨ w.heap.size + 2 ≤ b) := by rw [Tm.On]; exact hsl.2.2
        exact hon.mono fun b hb => hb.elim (fun h => h.elim) fun h => by omega

theorem swap_any (NN : Nat) : ∀ t : Tm, SizeOf.sizeOf t ≤ NN → swapOf t := by
  induction NN with
  | zero => intro t h; cases t; simp at h
  | succ NN ih =>
    intro t hN d p c V w hin hfm h hV hd
    obtain ⟨k, n, s, p', c', l⟩ := t
    by_cases hk1 : k = 1
    · subst hk1
      obtain ⟨hn, hs0, hl⟩ := formed_var hfm
      have hl0 : l = [] := by cases l with
        | nil => rfl
        | cons x xs => rw [Tm.eraseL] at hl; cases hl
      subst hl0
      refine (swap_var n s p' c' d p c V w hin hn h hV hd).mono ?_
      rintro e w' ⟨bm, hbl, hbi, hb, rfl, hg⟩
      refine ⟨bm, hbi, ?_, rfl, hg, ?_⟩
      · rw [Tm.erase, T.map, if_pos rfl, swapF]
        rcases hb with ⟨rfl, hm⟩ | ⟨rfl, hm⟩
        · rw [if_pos hm, varTm_erase]
        · rw [if_neg hm, Tm.erase, hs0, varT, Tm.eraseL]
      · obtain ⟨_, _, _, _, _, lb⟩ := bm
        simp only [Tm.l] at hbl
        subst hbl
        rw [Tm.On, Tm.OnL]
        exact ⟨.inl rfl, trivial⟩
    · have hsz := fun x (hx : x ∈ l) => Tm.sizeOf_mem hx k n s p' c'
      have hfa : (l.length ≤ 50 ∧ ∀ x ∈ l, x.erase.formed = true) ∧ (k ≠ 4 → l = []) := by
        by_cases hk4 : k = 4
        · obtain ⟨_, _, _, hl50, hfl⟩ := formed_elem hk4 hfm
          exact ⟨⟨hl50, hfl⟩, fun e => absurd hk4 e⟩
        · rcases formed_args hfm with ⟨h6, _⟩ | ⟨_, h6⟩
          · exact absurd h6 hk4
          · cases l with
            | nil => exact ⟨⟨by simp, fun x hx => by cases hx⟩, fun _ => rfl⟩
            | cons x xs => rw [Tm.eraseL] at h6; cases h6
      have hmap : T.map (swapF d V) (Tm.mk k n s p' c' l).erase = .mk k n s.toList (T.mapL (swapF d V) (Tm.eraseL l)) := by
        rw [Tm.erase, T.map, if_neg hk1]
        by_cases hk4 : k = 4
        · rw [if_pos hk4]
        · rw [if_neg hk4, hfa.2 hk4, Tm.eraseL, T.mapL]
      rw [hmap]
      exact swap_comp k n s p' c' l hk1 hfa.1.1 hfa.1.2 (fun x hx => ih x (by have := hsz x hx; omega)) d p c V w hin h hV hd

theorem swap_calls {t : Tm} {d : Int} {p : Option Addr} {c : Nat} {V : List Int} {w : World} (h : t.In w) (hf : t.erase.formed = true) (hs : IntSl w p c V) (hV : VarsOk V) (hd : 0 ≤ d ∧ d ≤ 1099511627777) :
    Calls Tryd.prog 45 #[t.val, .slice p V.length c, .int .i64 d] w (RetTm (w.heap.size ≤ ·) (T.map (swapF d V) t.erase) w) := swap_any _ t (Nat.le_refl _) d p c V w h hf hs hV hd

end Go.Proofs.YtgaijgadeodoeaaDoor
