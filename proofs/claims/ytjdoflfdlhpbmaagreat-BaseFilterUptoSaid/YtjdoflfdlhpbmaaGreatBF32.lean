/-
  hornref.Swap
  What unifies with a goal is let through; a base in memory with all that is known of it.
  A plain clause's head can be called.
  (*base.Base).Look where the base has one clause.
  hornkeep.thereBase
-/
import Derived.Test.YtjdoflfdlhpbmaaGreatBF23
import Derived.Test.YtjdoflfdlhpbmaaGreatBF18
import Derived.Test.YtjdoflfdlhpbmaaGreatBF16
import Derived.Test.YtjdoflfdlhpbmaaGreatBF31
import Derived.Test.YtjdoflfdlhpbmaaGreatBF17
import Derived.Test.YtjdoflfdlhpbmaaGreatBF13
import Derived.Test.YtjdoflfdlhpbmaaGreatBF12
import Derived.Test.YtjdoflfdlhpbmaaGreatBF04
namespace Go.Proofs.YtjdoflfdlhpbmaaGreat
open Go.RowKit

def swapOf (t : Tm) : Prop := ∀ (d : Int) (p : Option Addr) (c : Nat) (V : List Int) (w : World), t.In w → t.erase.formed = true → IntSl w p c V → VarsOk V → (0 ≤ d ∧ d ≤ 1099511627777) →
  Calls Tryz.prog 13 #[t.val, .slice p V.length c, .int .i64 d] w (RetTm (w.heap.size ≤ ·) (T.map (swapF d V) t.erase) w)

set_option maxHeartbeats 2000000 in
set_option maxRecDepth 100000 in
theorem swap_var (n : Int) (s : ByteArray) (p' : Option Addr) (c' : Nat) (d : Int) (p : Option Addr) (c : Nat) (V : List Int) (w : World) (hin : (Tm.mk 1 n s p' c' []).In w) (_ : 0 ≤ n ∧ n ≤ 1099511627776) (h : IntSl w p c V) (hV : VarsOk V) (hd : 0 ≤ d ∧ d ≤ 1099511627777) :
    Calls Tryz.prog 13 #[(Tm.mk 1 n s p' c' []).val, .slice p V.length c, .int .i64 d] w fun e w' => ∃ bm : Tm, bm.l = [] ∧ bm.In w' ∧ (bm = varTm (d + (V.idxOf n : Int)) ∧ n ∈ V ∨ bm = .mk 1 n s p' c' [] ∧ n ∉ V) ∧ e = .returned bm.val ∧ Gr w w' := by
  generalize hQ : (fun (e : Ending) (w' : World) => ∃ bm : Tm, bm.l = [] ∧ bm.In w' ∧ (bm = varTm (d + (V.idxOf n : Int)) ∧ n ∈ V ∨ bm = .mk 1 n s p' c' [] ∧ n ∉ V) ∧ e = .returned bm.val ∧ Gr w w') = Q
  have hR1 : Hid (n ∈ V → ∀ w', Gr w w' → In64 (d + (V.idxOf n : Int)) → Q (.returned (varTm (d + (V.idxOf n : Int))).val) w') := fun h1 w' hg h2 => by rw [← hQ]; exact ⟨_, rfl, varTm_in h2 _, .inl ⟨rfl, h1⟩, rfl, hg⟩
  have hR2 : Hid (n ∉ V → ∀ w', Gr w w' → Q (.returned (Tm.mk 1 n s p' c' []).val) w') := fun h1 w' hg => by rw [← hQ]; exact ⟨_, rfl, Tm.In_below hg hin, .inr ⟨rfl, h1⟩, rfl, hg⟩
  clear hQ
  have H := Lib.hid h
  have hlen := hV.len
  clear h hin hV
  simp only [Tm.val, Tm.k, Tm.n, Tm.s, Tm.p, Tm.c, Tm.l, List.length_nil] at hR2 ⊢
  go_enter Tryz.func13, Tryz.ntmps13
  try simp only [List.append_eq, List.cons_append, List.nil_append]
  go_upto_region 1 with fail
  obtain ⟨HB, HR, gA⟩ := two_blocks w (.int .i64 1) (.int .i64 n) (.string s) (.slice p' (0 : Nat) c') (.int .i64 0) (.int .i64 0) (.string ⟨#[]⟩) (.slice none 0 0)
  generalize (w.alloc (.cells #[.int .i64 1, .int .i64 n, .string s, .slice p' (0 : Nat) c'] 24)).alloc (.cells #[.int .i64 0, .int .i64 0, .string ⟨#[]⟩, .slice none 0 0] 24) = wA at *
  obtain ⟨⟨b0, b1, b2, b3⟩, _, _⟩ := HB.out.parts
  have hcall := Lib.hid (has_calls p c V n wA (H.out.mono gA))
  by_cases hm : n ∈ V
  · have hi : hasIdx V n = (V.idxOf n : Int) := if_pos hm
    have hidx := List.idxOf_lt_length_of_mem hm
    have hv := Lib.hid (hR1.out hm)
    rw [hi] at hcall
    generalize V.idxOf n = j at *
    have hw1 : IntKind.i64.wrap (d + (j : Int)) = d + (j : Int) := IntWalk.i64_in _ (by omega)
    clear hi hm
    go_wp2_with (first
      | (go_at_call 36; refine hcall.out.mono ?_; rintro e w' ⟨rfl, hb⟩; have HR2 := Lib.hid (HR.out.gr hb); have g2 := gA.trans hb; clear hb b0 b1 b2 b3)
      | (go_at_call 37; refine (rV_calls _ _ ⟨by omega, by omega⟩).mono ?_; rintro e w'' ⟨rfl, hb⟩; obtain ⟨⟨y0, y1, y2, y3⟩, ⟨f0, f1, f2, f3⟩, hlt⟩ := (HR2.out.gr hb).parts; have g3 := g2.trans hb; clear hb)
      | fail)
    refine bodyPost_ret (v := (varTm (d + (j : Int))).val) (by simp [results, Tryz.results13, go_sem, varTm, Tm.val, Tm.k, Tm.n, Tm.s, Tm.p, Tm.c, Tm.l, y0, y1, y2, y3]) rfl ?_
    exact hv.out _ (by go_grown) ⟨by omega, by omega⟩
  · have hi : hasIdx V n = -1 := if_neg hm
    have hv := Lib.hid (hR2.out hm)
    rw [hi] at hcall
    clear hi hm
    go_wp2_with (first
      | (go_at_call 36; refine hcall.out.mono ?_; rintro e w' ⟨rfl, hb⟩; obtain ⟨⟨z0, z1, z2, z3⟩, _, _⟩ := (HB.out.gr hb).parts; obtain ⟨⟨y0, y1, y2, y3⟩, ⟨f0, f1, f2, f3⟩, hlt⟩ := (HR.out.gr hb).parts; have g2 := gA.trans hb; clear hb b0 b1 b2 b3)
      | fail)
    refine bodyPost_ret (v := .agg #[.int .i64 1, .int .i64 n, .string s, .slice p' 0 c']) (by simp [results, Tryz.results13, go_sem, y0, y1, y2, y3]) rfl ?_
    exact hv.out _ (by go_grown)

set_option maxHeartbeats 4000000 in
set_option maxRecDepth 100000 in
theorem swap_comp (k0 n : Int) (s : ByteArray) (p' : Option Addr) (c' : Nat) (l : List Tm) (hk1 : k0 ≠ 1) (hl50 : l.length ≤ 50) (hfl : ∀ x ∈ l, x.erase.formed = true) (ih : ∀ x ∈ l, swapOf x)
    (d : Int) (p : Option Addr) (c : Nat) (V : List Int) (w : World) (hin : (Tm.mk k0 n s p' c' l).In w) (h : IntSl w p c V) (hV : VarsOk V) (hd : 0 ≤ d ∧ d ≤ 1099511627777) :
    Calls Tryz.prog 13 #[(Tm.mk k0 n s p' c' l).val, .slice p V.length c, .int .i64 d] w (RetTm (w.heap.size ≤ ·) (.mk k0 n s.toList (T.mapL (swapF d V) (Tm.eraseL l))) w) := by
  have HSl := Lib.hid hin.sl
  rw [Tm.In] at hin
  have hlc : l.length ≤ c' := hin.2.2.2.1
  have hc : c' ≤ 9223372036854775807 := hin.2.2.2.2.1.2
  have Hk := Lib.hid hin.1
  have Hn := Lib.hid hin.2.1
  have Hs := Lib.hid hin.2.2.1
  have Hfl := Lib.hid hfl
  have Hih := Lib.hid ih
  have H := Lib.hid h
  have HV := Lib.hid hV
  have Hd := Lib.hid hd
  have hk1' : (k0 == 1) = false := beq_eq_false_iff_ne.2 hk1
  clear hin hfl ih h hV hd hk1
  generalize hQ : RetTm (w.heap.size ≤ ·) (.mk k0 n s.toList (T.mapL (swapF d V) (Tm.eraseL l))) w = Q
  have HQ := Lib.hid hQ
  clear hQ
  simp only [Tm.val, Tm.k, Tm.n, Tm.s, Tm.p, Tm.c, Tm.l]
  go_enter Tryz.func13, Tryz.ntmps13
  try simp only [List.append_eq, List.cons_append, List.nil_append]
  go_upto_region 1 with fail
  obtain ⟨HB, HR, gA⟩ := two_blocks w (.int .i64 k0) (.int .i64 n) (.string s) (.slice p' l.length c') (.int .i64 0) (.int .i64 0) (.string ⟨#[]⟩) (.slice none 0 0)
  have hszA : ((w.alloc (.cells #[.int .i64 k0, .int .i64 n, .string s, .slice p' l.length c'] 24)).alloc (.cells #[.int .i64 0, .int .i64 0, .string ⟨#[]⟩, .slice none 0 0] 24)).heap.size = w.heap.size + 2 := by simp
  generalize (w.alloc (.cells #[.int .i64 k0, .int .i64 n, .string s, .slice p' l.length c'] 24)).alloc (.cells #[.int .i64 0, .int .i64 0, .string ⟨#[]⟩, .slice none 0 0] 24) = wA at *
  obtain ⟨⟨b0, b1, b2, b3⟩, _, _⟩ := HB.out.parts
  go_wp2_with fail
  clear b0 b1 b2 b3
  go_loopg [8, 9] l.length (fun m u i wr => ∃ k : Nat, k ≤ l.length ∧ m = l.length - k ∧ i = .int .i64 k ∧
    Hid (∃ lm : List Tm, lm.length = k ∧ Tm.eraseL lm = T.mapL (swapF d V) (Tm.eraseL (l.take k)) ∧ Built wr (w.heap.size + 2) (fun _ => False) u lm) ∧
    Hid (Blk4 wr w.heap.size (.int .i64 k0) (.int .i64 n) (.string s) (.slice p' l.length c') ∧ Blk4 wr (w.heap.size + 1) (.int .i64 0) (.int .i64 0) (.string ⟨#[]⟩) (.slice none 0 0)) ∧ Gr w wr ∧ w.heap.size + 2 ≤ wr.heap.size)
  case atStart => exact ⟨0, Nat.zero_le _, rfl, rfl, ⟨[], rfl, by simp [T.mapL, Tm.eraseL], Built.nil _ _ _⟩, ⟨HB.out, HR.out⟩, gA, by omega⟩
  case round =>
    obtain ⟨k, hk, rfl, rfl, hlm, HBR, gr, hws⟩ := hrel
    obtain ⟨⟨b0, b1, b2, b3⟩, ⟨e0, e1, e2, e3⟩, _⟩ := HBR.out.1.parts
    by_cases hkl : k < l.length
    · obtain ⟨b, o, rfl⟩ := HSl.out.ptr (by omega)
      obtain ⟨⟨c0, c1, c2, c3⟩, hxi, _⟩ := (HSl.out.mono gr).elem k hkl
      have hmem : l[k] ∈ l := List.getElem_mem hkl
      have Hx := Lib.hid hxi
      have Hfx := Lib.hid (Hfl.out _ hmem)
      have Hix := Lib.hid (Hih.out _ hmem)
      have Htk : Hid (T.mapL (swapF d V) (Tm.eraseL (l.take (k + 1))) = T.mapL (swapF d V) (Tm.eraseL (l.take k)) ++ [T.map (swapF d V) l[k].erase]) := T.mapL_erase (swapF d V) l k hkl
      clear hmem hxi
      generalize l[k] = x at *
      have Hxv := Lib.hid (show x.val = .agg #[.int .i64 x.k, .int .i64 x.n, .string x.s, .slice x.p x.l.length x.c] from rfl)
      go_wp2_with fail
      clear b0 b1 b2 b3 e0 e1 e2 e3
      rw [← Hxv.out]
      refine (Hix.out d p c V wr Hx.out Hfx.out (H.out.mono gr) HV.out Hd.out).mono ?_
      rintro e w2 ⟨xm, hin, he, rfl, hb2, hon⟩
      obtain ⟨lm, hl0, he0, hF⟩ := hlm.out
      have HF2 := Lib.hid (hF.gr hb2)
      have Hvf := Lib.hid hF.1.lt
      have hs2 := hb2.size
      have Hl0 := Lib.hid hl0
      have He0 := Lib.hid he0
      have Hin := Lib.hid hin
      have Hon := Lib.hid hon
      have He := Lib.hid he
      have HB2 := Lib.hid (And.intro (HBR.out.1.gr hb2) (HBR.out.2.gr hb2))
      have g2 : Gr w w2 := gr.trans hb2
      clear hF hl0 he0 hin hon he hb2 hlm c0 c1 c2 c3
      obtain ⟨k', n', s', p2, c2, l2⟩ := xm
      simp only [Tm.val, Tm.k, Tm.n, Tm.s, Tm.p, Tm.c, Tm.l]
      go_wp2_with
        (at_builtin
         refine wpList_append_term rfl _ _ rfl rfl (w.heap.size + 2) (fun _ => False) _ lm (.mk k' n' s' p2 c2 l2) w2.heap.size 1 rfl rfl (HF2.out.gr (by go_grown)) (by simp; omega) (Tm.In_below (by go_grown) Hin.out) (Hon.out.mono fun b hb => ⟨.inr (by omega), fun e => by have := Hvf.out b e; omega⟩) (by have := Hl0.out; omega) (by show _ = some (Value.int .i64 k'); go_cell) (by show _ = some (Value.int .i64 n'); go_cell) (by show _ = some (Value.string s'); go_cell) (by show _ = some (Value.slice p2 l2.length c2); go_cell) ?_
         intro v' w4 hbt hbel _)
      go_roundg (l.length - (k + 1))
      case measure => omega
      case rel =>
        have hg4 : Below (w.heap.size + 2) w2 w4 := Below.trans (show Below (w.heap.size + 2) w2 _ by go_grown) hbel
        exact ⟨k + 1, by omega, rfl, by go_num, ⟨_, by rw [List.length_append, Hl0.out]; rfl, by rw [eraseL_append, He0.out, Htk.out, ← He.out]; simp [Tm.eraseL], hbt⟩, ⟨HB2.out.1.below hg4 (by omega), HB2.out.2.below hg4 (by omega)⟩, Below.trans g2 (hg4.mono (by omega)), by have := hg4.size; omega⟩
    · obtain rfl : k = l.length := by omega
      obtain ⟨lm, hl0, he0, hF⟩ := hlm.out
      obtain ⟨⟨y0, y1, y2, y3⟩, ⟨f0, f1, f2, f3⟩, hbs2⟩ := HBR.out.2.parts
      obtain ⟨pv, cv, rfl, hcv1, hcv2⟩ := hF.form
      have HF := Lib.hid hF
      have Hl0 := Lib.hid hl0
      have He0 := Lib.hid he0
      clear hF hl0 he0 hlm
      go_wp2_with fail
      refine bodyPost_ret (v := (Tm.mk k0 n s pv cv lm).val) (by simp (maxDischargeDepth := 9) [results, Tryz.results13, go_sem, Tm.val, Tm.k, Tm.n, Tm.s, Tm.p, Tm.c, Tm.l, y0, y1, y2, y3]) rfl ?_
      rw [← HQ.out]
      have hsl := HF.out.sl (by have := Hl0.out; omega)
      refine ⟨Tm.mk k0 n s pv cv lm, ?_, by rw [Tm.erase, He0.out, List.take_length], rfl, by go_grown, ?_⟩
      · have hin : (Tm.mk k0 n s pv cv lm).In wr := by
          rw [Tm.In]
          exact ⟨Hk.out, Hn.out, Hs.out, hsl.2.1.1, hsl.2.1.2.1, hsl.2.1.2.2.1, hsl.2.1.2.2.2⟩
        have hon : (Tm.mk k0 n s pv cv lm).On (fun b => False ∨ w.heap.size + 2 ≤ b) := by rw [Tm.On]; exact hsl.2.2
        exact in_after' hin hon fun b h1 h2 o => by
          have : b ≠ w.heap.size ∧ b ≠ w.heap.size + 1 := by
            rcases h1 with h1 | h1
            · exact h1.elim
            · omega
          rw [cell_set_ne this.2, cell_set_ne this.2, cell_set_ne this.2, cell_set_ne this.2, cell_set_ne this.1]
      · have hon : (Tm.mk k0 n s pv cv lm).On (fun b => False ∨ w.heap.size + 2 ≤ b) := by rw [Tm.On]; exact hsl.2.2
        exact hon.mono fun b hb => hb.elim (fun h => h.elim) fun h => by omega

theorem swap_any (NN : Nat) : ∀ t : Tm, SizeOf.sizeOf t ≤ NN → swapOf t := by
  induction NN with
  | zero => intro t h; cases t; simp at h
  | succ NN ih =>
    intro t hN d p c V w hin hfm h hV hd
    obtain ⟨k, n, s, p', c', l⟩ := t
    by_cases hk1 : k = 1
    · subst hk1
      obtain ⟨hn, hs0, hl⟩ := formed_var hfm
      have hl0 : l = [] := by cases l with
        | nil => rfl
        | cons x xs => rw [Tm.eraseL] at hl; cases hl
      subst hl0
      refine (swap_var n s p' c' d p c V w hin hn h hV hd).mono ?_
      rintro e w' ⟨bm, hbl, hbi, hb, rfl, hg⟩
      refine ⟨bm, hbi, ?_, rfl, hg, ?_⟩
      · rw [Tm.erase, T.map, if_pos rfl, swapF]
        rcases hb with ⟨rfl, hm⟩ | ⟨rfl, hm⟩
        · rw [if_pos hm, varTm_erase]
        · rw [if_neg hm, Tm.erase, hs0, varT, Tm.eraseL]
      · obtain ⟨_, _, _, _, _, lb⟩ := bm
        simp only [Tm.l] at hbl
        subst hbl
        rw [Tm.On, Tm.OnL]
        exact ⟨.inl rfl, trivial⟩
    · have hsz := fun x (hx : x ∈ l) => Tm.sizeOf_mem hx k n s p' c'
      have hfa : (l.length ≤ 50 ∧ ∀ x ∈ l, x.erase.formed = true) ∧ (k ≠ 4 → l = []) := by
        by_cases hk4 : k = 4
        · obtain ⟨_, _, _, hl50, hfl⟩ := formed_elem hk4 hfm
          exact ⟨⟨hl50, hfl⟩, fun e => absurd hk4 e⟩
        · rcases formed_args hfm with ⟨h6, _⟩ | ⟨_, h6⟩
          · exact absurd h6 hk4
          · cases l with
            | nil => exact ⟨⟨by simp, fun x hx => by cases hx⟩, fun _ => rfl⟩
            | cons x xs => rw [Tm.eraseL] at h6; cases h6
      have hmap : T.map (swapF d V) (Tm.mk k n s p' c' l).erase = .mk k n s.toList (T.mapL (swapF d V) (Tm.eraseL l)) := by
        rw [Tm.erase, T.map, if_neg hk1]
        by_cases hk4 : k = 4
        · rw [if_pos hk4]
        · rw [if_neg hk4, hfa.2 hk4, Tm.eraseL, T.mapL]
      rw [hmap]
      exact swap_comp k n s p' c' l hk1 hfa.1.1 hfa.1.2 (fun x hx => ih x (by have := hsz x hx; omega)) d p c V w hin h hV hd

theorem swap_calls {t : Tm} {d : Int} {p : Option Addr} {c : Nat} {V : List Int} {w : World} (h : t.In w) (hf : t.erase.formed = true) (hs : IntSl w p c V) (hV : VarsOk V) (hd : 0 ≤ d ∧ d ≤ 1099511627777) :
    Calls Tryz.prog 13 #[t.val, .slice p V.length c, .int .i64 d] w (RetTm (w.heap.size ≤ ·) (T.map (swapF d V) t.erase) w) := swap_any _ t (Nat.le_refl _) d p c V w h hf hs hV hd

end Go.Proofs.YtjdoflfdlhpbmaaGreat

namespace Go.Proofs.YtjdoflfdlhpbmaaGreat
open Go.RowKit Go.Maps Go.Lib

theorem formed_kids {k n : Int} {s : List UInt8} {l : List T} (h : (T.mk k n s l).formed = true) : (k ≠ 4 → l = []) ∧ T.formedL l = true := by
  rw [T.formed] at h
  by_cases h1 : k = 1
  · subst h1; simp at h; obtain ⟨_, rfl⟩ := h; exact ⟨fun _ => rfl, by rw [T.formedL]⟩
  by_cases h2 : k = 2
  · subst h2; simp at h; obtain ⟨_, rfl⟩ := h; exact ⟨fun _ => rfl, by rw [T.formedL]⟩
  by_cases h3 : k = 3
  · subst h3; simp at h; obtain ⟨_, rfl⟩ := h; exact ⟨fun _ => rfl, by rw [T.formedL]⟩
  by_cases h4 : k = 4
  · subst h4; simp at h; exact ⟨fun h => absurd rfl h, h.2⟩
  · simp [h1, h2, h3, h4] at h
/-- A term that is no variable keeps its kind, number, name and how many arguments it has. -/
theorem map_keeps (f : Int → T) {t : T} (hf : t.formed = true) (hk : t.k ≠ 1) : (T.map f t).k = t.k ∧ (T.map f t).n = t.n ∧ (T.map f t).s = t.s ∧ (T.map f t).l.length = t.l.length := by
  obtain ⟨k, n, s, l⟩ := t
  obtain ⟨h1, _⟩ := formed_kids hf
  replace hk : k ≠ 1 := hk
  rw [T.map, if_neg hk]
  by_cases h4 : k = 4
  · rw [if_pos h4]; exact ⟨rfl, rfl, rfl, T.mapL_length f l⟩
  · rw [if_neg h4]; exact ⟨rfl, rfl, rfl, by rw [show (T.mk k n s l).l = l from rfl, h1 h4]; rfl⟩
theorem unify_arg (ρ σ : Int → T) {x y : T} (hx : x.formed = true) (hy : y.formed = true) (h : T.map ρ (T.map σ x) = T.map ρ y) : letsArg x y = true := by
  rw [letsArg]
  by_cases h1 : x.k = 1
  · simp [h1]
  by_cases h2 : y.k = 1
  · simp [h2]
  obtain ⟨a1, a2, a3, a4⟩ := map_keeps ρ hy h2
  obtain ⟨k, n, s, l⟩ := x
  replace h1 : k ≠ 1 := h1
  obtain ⟨f1, _⟩ := formed_kids hx
  rw [T.map, if_neg h1] at h
  by_cases h4 : k = 4
  · rw [if_pos h4, T.map, if_neg h1, if_pos h4] at h
    rw [← h] at a1 a2 a3 a4
    replace a1 : k = y.k := a1
    replace a2 : n = y.n := a2
    replace a3 : s = y.s := a3
    replace a4 : (T.mapL ρ (T.mapL σ l)).length = y.l.length := a4
    rw [T.mapL_length, T.mapL_length] at a4
    show (decide (k = 1) || decide (y.k = 1) || (decide (k = y.k) && decide (n = y.n) && decide (s = y.s) && decide (l.length = y.l.length))) = true
    simp [a1, a2, a3, a4]
  · rw [if_neg h4, T.map, if_neg h1, if_neg h4] at h
    rw [← h] at a1 a2 a3 a4
    replace a1 : k = y.k := a1
    replace a2 : n = y.n := a2
    replace a3 : s = y.s := a3
    replace a4 : 0 = y.l.length := a4
    show (decide (k = 1) || decide (y.k = 1) || (decide (k = y.k) && decide (n = y.n) && decide (s = y.s) && decide (l.length = y.l.length))) = true
    rw [f1 h4, List.length_nil]
    simp [a1, a2, a3, ← a4]
/-- NO CLAUSE THAT UNIFIES IS LEFT OUT. -/
theorem unify_lets (ρ σ : Int → T) {g h : T} (hg : g.formed = true) (hh : h.formed = true) (cg : g.callable = true) (ch : h.callable = true) (hu : T.map ρ (T.map σ g) = T.map ρ h) : keyT g = keyT h ∧ letsT g h = true := by
  have c1 : ∀ {t : T}, t.callable = true → t.k ≠ 1 := fun hc e => by rw [T.callable, e] at hc; simp at hc
  obtain ⟨a1, a2, a3, a4⟩ := map_keeps ρ hh (c1 ch)
  obtain ⟨b1, b2, b3, b4⟩ := map_keeps σ hg (c1 cg)
  obtain ⟨k, n, s, l⟩ := g
  obtain ⟨k', n', s', l'⟩ := h
  have hk1 : k ≠ 1 := c1 cg
  have hk1' : k' ≠ 1 := c1 ch
  obtain ⟨f1, f2⟩ := formed_kids hg
  obtain ⟨f1', f2'⟩ := formed_kids hh
  rw [T.map, if_neg hk1, T.map, if_neg hk1'] at hu
  by_cases h4 : k = 4
  · rw [if_pos h4, T.map, if_neg hk1, if_pos h4] at hu
    by_cases h4' : k' = 4
    · rw [if_pos h4'] at hu
      simp only [T.mk.injEq] at hu
      obtain ⟨_, _, rfl, hl⟩ := hu
      have hlen : l.length = l'.length := by have := congrArg List.length hl; rwa [T.mapL_length, T.mapL_length, T.mapL_length] at this
      refine ⟨by show ((⟨s.toArray⟩ : ByteArray), (l.length : Int)) = (⟨s.toArray⟩, (l'.length : Int)); rw [hlen], ?_⟩
      cases l with
      | nil => rfl
      | cons x xs =>
        cases l' with
        | nil => rfl
        | cons y ys =>
          rw [T.mapL, T.mapL, T.mapL] at hl
          rw [T.formedL, Bool.and_eq_true] at f2 f2'
          show letsArg x y = true
          exact unify_arg ρ σ f2.1 f2'.1 (List.cons.inj hl).1
    · rw [if_neg h4'] at hu
      simp only [T.mk.injEq] at hu
      exact absurd (hu.1.symm.trans h4) h4'
  · rw [if_neg h4, T.map, if_neg hk1, if_neg h4] at hu
    have hl0 := f1 h4
    subst hl0
    by_cases h4' : k' = 4
    · rw [if_pos h4'] at hu
      simp only [T.mk.injEq] at hu
      exact absurd (hu.1.trans h4') h4
    · rw [if_neg h4'] at hu
      have hl0 := f1' h4'
      subst hl0
      simp only [T.mk.injEq] at hu
      obtain ⟨_, _, rfl, _⟩ := hu
      exact ⟨rfl, rfl⟩

/-- The blocks that a base does not write to. -/
def BfS (w : World) (B M1 M2 : Nat) (va : Value) : Nat → Prop := fun x => x < w.heap.size ∧ ¬ Mut B M1 M2 va x
/-- A base in memory, and what it knows. -/
structure BfM (lo : Nat) (w : World) (B M1 M2 : Nat) (va : Value) (st : BSt) (R : List HrT) : Prop where
  b : BaseG (BfS w B M1 M2 va) w B M1 M2 va st
  a : Agree st R
  c : ∀ x ∈ R, x.h.callable = true ∧ x.h.formed = true ∧ x.b.formed = true
  low : ∀ x, Mut B M1 M2 va x → lo ≤ x
section
variable {lo : Nat} {w w' : World} {B M1 M2 : Nat} {va : Value} {st : BSt} {R : List HrT}
theorem BfM.gr (h : BfM lo w B M1 M2 va st R) (hg : Gr w w') : BfM lo w' B M1 M2 va st R :=
  ⟨(h.b.gr hg).mono (fun _ hx _ => ⟨Nat.lt_of_lt_of_le hx.1 hg.size, hx.2⟩) fun _ hx => hx.2, h.a, h.c, h.low⟩
theorem BfM.new (h : NewBase w B M1 M2) (hl : lo ≤ B ∧ lo ≤ M1 ∧ lo ≤ M2) : BfM lo w B M1 M2 (.slice none 0 0) newSt [] :=
  ⟨BaseG.new h fun x hx => hx.2, Agree.new, (fun x hx => by simp at hx), by
    rintro x (hx | hx | hx | hx)
    · omega
    · omega
    · omega
    · cases hx⟩
/-- A clause is laid down. -/
theorem BfM.add (h : BfM lo w B M1 M2 va st R) {hd bd : T} {first : Bool} {va' : Value} {st' : BSt} (hc : hd.callable = true ∧ hd.formed = true ∧ bd.formed = true) (hA : Added st (keyT hd) first hd bd st') (hB : BaseG (fun x => BfS w B M1 M2 va x ∨ (w.heap.size ≤ x ∧ va'.ownBlock ≠ some x)) w' B M1 M2 va' st') (_ : Kp (Mut B M1 M2 va) w w') (hlw : lo ≤ w.heap.size)
    (ho : va'.ownBlock = va.ownBlock ∨ ∃ g, va'.ownBlock = some g ∧ w.heap.size ≤ g) : BfM lo w' B M1 M2 va' st' (if first then ⟨(R.length : Int) + 1, hd, bd, true⟩ :: R else R ++ [⟨(R.length : Int) + 1, hd, bd, true⟩]) := by
  have hBl := h.b.lt
  have hM : ∀ b, Mut B M1 M2 va' b → Mut B M1 M2 va b ∨ w.heap.size ≤ b := fun b hb => by
    rcases hb with hb | hb | hb | hb
    · exact .inl (.inl hb)
    · exact .inl (.inr (.inl hb))
    · exact .inl (.inr (.inr (.inl hb)))
    · rcases ho with e | ⟨g, e, hg⟩
      · exact .inl (.inr (.inr (.inr (by rw [← e]; exact hb))))
      · rw [e] at hb; cases hb; exact .inr hg
  refine ⟨hB.mono (fun x hx hxl => ⟨hxl, fun hm => ?_⟩) fun x hx => hx.2, h.a.add hA, fun x hx => ?_, fun x hx => ?_⟩
  · rcases hx with hx | ⟨hx, hx2⟩
    · rcases hM x hm with h1 | h1
      · exact hx.2 h1
      · have := hx.1; omega
    · rcases hm with hm | hm | hm | hm
      · have := hBl x (.inl hm); omega
      · have := hBl x (.inr (.inl hm)); omega
      · have := hBl x (.inr (.inr (.inl hm))); omega
      · exact hx2 hm
  · have hx' : x = ⟨(R.length : Int) + 1, hd, bd, true⟩ ∨ x ∈ R := by
      cases first
      · simp only [Bool.false_eq_true, if_false, List.mem_append, List.mem_singleton] at hx; exact hx.symm
      · simp only [if_true, List.mem_cons] at hx; exact hx
    rcases hx' with rfl | hx
    · exact hc
    · exact h.c x hx
  · rcases hM x hx with h1 | h1
    · exact h.low x h1
    · omega
/-- Those numbers are known. -/
theorem Agree.known {st : BSt} {R : List HrT} (h : Agree st R) {id : Int} (hi : id ∈ st.all) : ∃ y ∈ R, y.i = id ∧ st.wh id = some (keyT y.h) ∧ st.pr (keyT y.h) = some ((R.filter (HrT.of (keyT y.h))).map HrT.d) ∧ y.d ∈ (R.filter (HrT.of (keyT y.h))).map HrT.d := by
  rw [h.all] at hi
  obtain ⟨y, hy, rfl⟩ := List.mem_map.1 hi
  obtain ⟨hy1, hy2⟩ := List.mem_filter.1 hy
  refine ⟨y, hy1, rfl, (h.wh y.i (keyT y.h)).2 ⟨y, hy1, rfl, hy2, rfl⟩, ?_, List.mem_map.2 ⟨y, List.mem_filter.2 ⟨hy1, by simp [HrT.of, hy2]⟩, rfl⟩⟩
  rw [h.pr, if_pos]
  exact List.any_eq_true.2 ⟨y, hy1, by simp⟩
/-- What Get hands back for a number that is there. -/
theorem getB_calls (h : BfM lo w B M1 M2 va st R) {id : Int} (hid : In64 id) (hi : id ∈ st.all) :
    Calls Tryz.prog 11 #[.pointer (some ⟨B, 0, none⟩), .int .i64 id] w (fun e w' => ∃ (y : HrT) (a b : Tm), e = .returned (.tuple #[clVal a b, .int .i64 0]) ∧ y ∈ R ∧ y.i = id ∧ y.d ∈ (st.pr (keyT y.h)).getD [] ∧ a.erase = y.h ∧ b.erase = y.b ∧ a.In w' ∧ b.In w' ∧ Gr w w') := by
  obtain ⟨y, hy, hyi, hw, hp, hm⟩ := h.a.known hi
  have hk : keyT y.h = ((keyT y.h).1, (keyT y.h).2) := rfl
  rw [hk] at hw hp
  refine (getP_some (BfS w B M1 M2 va) B M1 M2 va st id w h.b hid _ _ hw _ hp ⟨y.d, hm, hyi⟩).mono fun e w' hr => ?_
  obtain ⟨hg, a, b, h1, h2, h3⟩ := hr
  rcases h3 with ⟨hn, _⟩ | ⟨k0, L, x, hw', hp', hx, hxi, he, hh, hb⟩
  · rw [hw] at hn; cases hn
  · rw [hw] at hw'
    cases hw'
    have hp2 := hp'.symm.trans hp
    cases hp2
    obtain ⟨z, hz, rfl⟩ := List.mem_map.1 hx
    obtain rfl : z = y := h.a.uniq (List.mem_filter.1 hz).1 hy (Eq.trans (show z.i = id from hxi) hyi.symm)
    exact ⟨z, a, b, he, hy, hyi, by rw [hk, hp, Option.getD_some]; exact hm, hh, hb, h1, h2, hg⟩
end
end Go.Proofs.YtjdoflfdlhpbmaaGreat

namespace Go.Proofs.YtjdoflfdlhpbmaaGreat
open Go.RowKit Go.Maps Go.Lib

theorem same_k {t u : T} (h : T.same t u = true) : t.k = u.k := by
  obtain ⟨k, n, s, l⟩ := t
  obtain ⟨k', n', s', l'⟩ := u
  rw [T.same] at h
  simp only [Bool.and_eq_true, decide_eq_true_eq] at h
  exact h.1.1.1.1
theorem callable_f {t : T} (h : t.formed = true) : t.callable = (!(t.k == 1) && !(t.k == 2)) := by
  obtain ⟨k, n, s, l⟩ := t
  simp only [T.callable, T.k]
  by_cases h1 : k = 1
  · subst h1; rfl
  by_cases h2 : k = 2
  · subst h2; rfl
  by_cases h3 : k = 3
  · subst h3; rfl
  by_cases h4 : k = 4
  · subst h4; rfl
  · rw [T.formed] at h
    simp [h1, h2, h3, h4] at h

theorem plainErr_formed {h b : T} (he : plainErr reserved h b = 0) : h.formed = true ∧ b.formed = true := by
  unfold plainErr at he
  cases h1 : h.formed <;> cases h2 : b.formed <;> rw [h1, h2] at he
  · exact absurd he (by simp)
  · exact absurd he (by simp)
  · exact absurd he (by simp)
  · exact ⟨rfl, rfl⟩

theorem plain_callable {h b : T} (he : plainErr reserved h b = 0) : h.callable = true := by
  obtain ⟨ff, fb⟩ := plainErr_formed he
  have hcf := clause_formed ff fb
  unfold plainErr at he
  rw [ff, fb] at he
  simp only [Bool.and_self, if_true] at he
  cases hm : T.make reserved (clauseT h b) with
  | none => rw [hm] at he; exact absurd he (by simp)
  | some p =>
    obtain ⟨h', b'⟩ := p
    rw [hm] at he
    simp only at he
    have hs : T.same h' h = true := by
      cases hh : T.same h' h with
      | true => rfl
      | false => rw [hh] at he; simp at he
    unfold T.make at hm
    cases hb : T.body (clauseT h b).parts.2 with
    | none => rw [hb] at hm; simp at hm
    | some bb =>
      rw [hb] at hm
      simp only at hm
      split at hm
      · next hc =>
        rw [Bool.and_eq_true] at hc
        have hpf := (parts_formed hcf).1
        have hk := (map_head (swapF 0 (T.varsL [(clauseT h b).parts.1, bb] [])) hpf hc.1).1
        have h1 := congrArg Prod.fst (Option.some.inj hm)
        simp only at h1
        have h2 := same_k hs
        rw [← h1, hk] at h2
        have h3 := hc.1
        rw [callable_f hpf, h2] at h3
        rw [callable_f ff]
        exact h3
      · simp at hm
end Go.Proofs.YtjdoflfdlhpbmaaGreat

namespace Go.Proofs.YtjdoflfdlhpbmaaGreat
open Go.RowKit Go.Maps Go.Lib

def RetLook (w : World) (e : Ending) (w' : World) : Prop := ∃ q c, e = .returned (.tuple #[.slice q 1 c, .int .i64 0]) ∧ Gr w w'

set_option maxHeartbeats 8000000 in
set_option maxRecDepth 100000 in
theorem look_calls (B M1 M2 : Nat) (G : Tm) (t u : T) (w : World) (hB : OneBase w B M1 M2 G.s G.l.length t u) (hG : G.In w) (fG : G.erase.formed = true) (cG : G.erase.callable = true) (aG : G.l = []) (ft : t.formed = true) (fu : u.formed = true) (hs : G.s.size ≤ 1000) :
    Calls Tryz.prog 9 #[.pointer (some ⟨B, 0, none⟩), G.val] w (RetLook w) := by
  have hR : Hid (∀ (q : Option Addr) (c : Nat) (w' : World), Gr w w' → RetLook w (.returned (.tuple #[.slice q 1 c, .int .i64 0])) w') := fun q c w' h => ⟨q, c, rfl, h⟩
  generalize hQ : RetLook w = Q at hR ⊢
  clear hQ
  have hview := Lib.hid (fun W (hg : Gr w W) => view_calls B M1 M2 G t u W (hB.gr hg) (Tm.In_below hg hG) fG cG aG ft fu hs)
  clear hB hG fG cG aG ft fu hs
  have Hgv := Lib.hid (show G.val = .agg #[.int .i64 G.k, .int .i64 G.n, .string G.s, .slice G.p G.l.length G.c] from rfl)
  rw [Hgv.out]
  go_enter Tryz.func9, Tryz.ntmps9
  try simp only [List.append_eq, List.cons_append, List.nil_append]
  go_upto_region 1 with fail
  have hN := Blk4.new w (.int .i64 G.k) (.int .i64 G.n) (.string G.s) (.slice G.p G.l.length G.c)
  have gA : Gr w (w.alloc (.cells #[.int .i64 G.k, .int .i64 G.n, .string G.s, .slice G.p G.l.length G.c] 24)) := by go_grown
  generalize w.alloc (.cells #[.int .i64 G.k, .int .i64 G.n, .string G.s, .slice G.p G.l.length G.c] 24) = wA at *
  have HT := Lib.hid hN
  clear hN
  obtain ⟨⟨t0, t1, t2, t3⟩, _, _⟩ := HT.out.parts
  go_wp2_with (first
    | (go_at_call 30; rewrite [← Hgv.out]; refine (hview.out _ gA).mono ?_; rintro e wB ⟨V, g, cap, G2, h, b, rfl, hone, hcap, hV, hb⟩; have gB := gA.trans hb; have hVw : w.heap.size ≤ V := Nat.le_trans gA.size hV; have HO := Lib.hid hone; clear hone hb t0 t1 t2 t3)
    | fail)
  go_loopg [8] 1 (fun n v wr => ∃ x : Value, x = v ∧ Gr w wr ∧ ((n = 1 ∧ x = .slice none 0 0 ∧ Hid (OneView wr V g cap G2 h b)) ∨ (n = 0 ∧ ∃ q c, x = .slice q 1 c ∧ Hid (∃ q' c' g0 g1 g2 g3, BlkT wr V 110 #[.slice q' 0 c', g0, g1, g2, g3]))))
  case atStart => exact ⟨_, rfl, gB, .inl ⟨rfl, rfl, HO⟩⟩
  case round =>
    obtain ⟨x, rfl, gr, ⟨rfl, rfl, hone⟩ | ⟨rfl, q, c, rfl, hend⟩⟩ := hrel
    · go_wp2_with (first
        | (go_at_call 31; refine (next_first V g cap G2 h b _ hone.out hcap).mono ?_; rintro e wC ⟨h2, b2, rfl, ⟨q', c', g0, g1, g2, g3, hblk⟩, hkp⟩; have gC : Gr w wC := Below.trans gr (hkp.below (B := w.heap.size) (fun x hx => by omega) gr.size); have HE := Lib.hid hblk; rewrite [clVal_four]; clear hblk hkp)
        | (refine wpList_append_one rfl _ _ 36 3 rfl Tryz.underlying36 infoInt rfl (by decide) w.heap.size (.slice none 0 0) 0 [] _ 1 [.int .i64 1] (by rfl) (by rfl) (World.ownsRow_nil _ _ _ 1) (by have := gC.size; simp; omega) rfl (by
             intro j u hu
             match j, hu with
             | 0, hu => cases hu; go_simp
             | j + 1, hu => simp at hu) (by
             intro u hu
             simp only [List.mem_cons, List.mem_nil_iff, or_false] at hu
             rw [hu]; rfl) (by decide) (by decide) ?_
           intro v' w' h2' h3 h4
           have gl := grownBy_below h3 (Nat.le_refl _) fun k hk => by cases hk
           have gw' : Gr wC w' := below_step gl (by go_grown)
           obtain ⟨q, cq, rfl, _⟩ := row_form h2'
           clear h2' h3 h4 gl)
        | fail)
      go_roundg 0
      case measure => omega
      case rel => exact ⟨_, rfl, gC.trans gw', .inr ⟨rfl, q, cq, rfl, ⟨q', c', g0, g1, g2, g3, HE.out.gr gw'⟩⟩⟩
    · obtain ⟨q', c', g0, g1, g2, g3, hblk⟩ := hend.out
      have HE := Lib.hid hblk
      clear hblk hend
      go_wp2_with (first
        | (go_at_call 31; refine (next_end V q' c' g0 g1 g2 g3 _ HE.out).mono ?_; rintro e wC ⟨rfl, hb⟩; have gC := gr.trans hb; rewrite [clVal_four]; clear hb)
        | fail)
      have gsz := gC.size
      exact hR.out _ _ _ (gC.trans (by go_grown))
end Go.Proofs.YtjdoflfdlhpbmaaGreat

namespace Go.Proofs.YtjdoflfdlhpbmaaGreat
open Go.RowKit Go.Maps Go.Lib

set_option maxHeartbeats 8000000 in
set_option maxRecDepth 100000 in
theorem thereBase_calls (w : World) : Calls Tryz.prog 4 #[] w (Ret (.bool true) w) := by
  have hR : Hid (∀ b, true = b → ∀ w', Gr w w' → Ret (.bool true) w (.returned (.bool b)) w') := fun b hb w' hg => ⟨by rw [hb], hg⟩
  generalize hQ : Ret (.bool true) w = Q at hR ⊢
  clear hQ
  obtain ⟨hnb, gN⟩ := new_base w
  have HNB := Lib.hid hnb
  clear hnb
  have Hav := Lib.hid (show (atomTm ⟨#[112]⟩).val = .agg #[.int .i64 3, .int .i64 0, .string ⟨#[112]⟩, .slice none 0 0] from rfl)
  have hpe : Hid ((atomTm ⟨#[112]⟩).erase = atomT [112]) := by show _ = _; rw [atomTm_erase, ByteArray.toList_mk]
  have hpf : Hid ((atomT [112]).formed = true) := by show _ = _; exact formed_atom (by decide)
  go_enter Tryz.func4, Tryz.ntmps4
  try simp only [List.append_eq, List.cons_append, List.nil_append]
  go_upto_region 2 with (first
    | (go_at_call 5; refine (new_calls w).mono ?_; rintro e w' ⟨rfl, rfl⟩)
    | fail)
  generalize ((w.alloc (.map #[] 0)).alloc (.map #[] 0)).alloc (.cells #[.int .i64 0, .slice none 0 0, .map (some w.heap.size), .map (some (w.heap.size + 1))] 57) = w1 at *
  have hB0 : w.heap.size ≤ w.heap.size + 1 + 1 := by omega
  have hM2 : w.heap.size ≤ w.heap.size + 1 := by omega
  have hM1 : w.heap.size ≤ w.heap.size := Nat.le_refl _
  generalize w.heap.size + 1 + 1 = B at *
  generalize w.heap.size + 1 = M2 at *
  obtain ⟨M1, hM1e⟩ : ∃ M1, M1 = w.heap.size := ⟨_, rfl⟩
  replace HNB : Hid (NewBase w1 B M1 M2) := by rw [hM1e]; exact HNB
  replace hM1 : w.heap.size ≤ M1 := by omega
  clear hM1e
  go_upto_region 3 with (first
    | (go_at_call 16; refine (atomR_calls _ _).mono ?_; rintro e w2 ⟨rfl, hb⟩; have g2 : Gr w1 w2 := hb; clear hb)
    | (go_at_call 6; rewrite [← Hav.out]; refine (Make_calls (atomTm ⟨#[112]⟩) _ (atomTm_in (by decide) _)).mono ?_; rw [hpe.out, makeAns_some hpf.out make_p]; rintro e w3 ⟨hm, bm, rfl, hi, hi2, he, hb⟩; have g3 := g2.trans hb; have Hhm := Lib.hid hi; have Hbm := Lib.hid hi2; have He := Lib.hid he; rewrite [clVal_eq]; clear hi hi2 he hb)
    | fail)
  have he := He.out
  simp only [Prod.mk.injEq] at he
  have Eh := Lib.hid he.1
  have Eb := Lib.hid he.2
  clear he He
  obtain ⟨hms, hml⟩ := atom_parts (t := hm) (s := ⟨#[112]⟩) (by rw [Eh.out, ByteArray.toList_mk])
  have hbl := (atom_parts (t := bm) (s := ⟨#[116, 114, 117, 101]⟩) (by rw [Eb.out, blTrue])).2
  have Hms := Lib.hid hms
  have Hml := Lib.hid hml
  have Hbl := Lib.hid hbl
  clear hms hml hbl
  have Hcv := Lib.hid (clVal_eq hm bm)
  have Hmv := Lib.hid (show hm.val = .agg #[.int .i64 hm.k, .int .i64 hm.n, .string hm.s, .slice hm.p hm.l.length hm.c] from rfl)
  have hN : Blk8 (w3.alloc (.cells #[.int .i64 hm.k, .int .i64 hm.n, .string hm.s, .slice hm.p hm.l.length hm.c, .int .i64 bm.k, .int .i64 bm.n, .string bm.s, .slice bm.p bm.l.length bm.c] 29)) w3.heap.size (.int .i64 hm.k) (.int .i64 hm.n) (.string hm.s) (.slice hm.p hm.l.length hm.c) (.int .i64 bm.k) (.int .i64 bm.n) (.string bm.s) (.slice bm.p bm.l.length bm.c) := heap_alloc_new _ _
  have gA : Gr w3 (w3.alloc (.cells #[.int .i64 hm.k, .int .i64 hm.n, .string hm.s, .slice hm.p hm.l.length hm.c, .int .i64 bm.k, .int .i64 bm.n, .string bm.s, .slice bm.p bm.l.length bm.c] 29)) := by go_grown
  generalize w3.alloc (.cells #[.int .i64 hm.k, .int .i64 hm.n, .string hm.s, .slice hm.p hm.l.length hm.c, .int .i64 bm.k, .int .i64 bm.n, .string bm.s, .slice bm.p bm.l.length bm.c] 29) = w4 at *
  have HC := Lib.hid hN
  have g4 := g3.trans gA
  have hC3 : w1.heap.size ≤ w3.heap.size := g3.size
  generalize w3.heap.size = C at *
  clear hN
  have Hhm4 := Lib.hid (Tm.In_below gA Hhm.out)
  have Hbm4 := Lib.hid (Tm.In_below gA Hbm.out)
  have gw4 := gN.trans g4
  have hBl : B < w1.heap.size := HNB.out.blk.lt
  have hM1l : M1 < w1.heap.size := HNB.out.m1.lt
  have hM2l : M2 < w1.heap.size := HNB.out.m2.lt
  have fh : Hid (hm.erase.formed = true) := by show _ = _; rw [Eh.out]; exact hpf.out
  have fb : Hid (bm.erase.formed = true) := by show _ = _; rw [Eb.out]; exact formed_atom (by decide)
  have HNB4 : Hid (NewBase w4 B M1 M2) := ⟨HNB.out.blk.gr g4, HNB.out.m1.gr g4, HNB.out.m2.gr g4, HNB.out.n1, HNB.out.n2, HNB.out.n3⟩
  have hpl : Hid (plainErr reserved hm.erase bm.erase = 0) := by show _ = _; rw [Eh.out, Eb.out]; exact plainErr_made res_neck hpf.out make_p same_refl
  clear HNB g2 g3 gA Hhm Hbm
  obtain ⟨c0, c1, c2, c3, c4, c5, c6, c7⟩ := HC.out.cells
  go_upto_region 4 with (first
    | (go_at_call 7; rewrite [← Hcv.out]; refine (add_calls B M1 M2 hm bm false _ (fun _ => False) HNB4.out Hhm4.out Hbm4.out (on_nil Hml.out) (on_nil Hbl.out) (fun x h => h.elim) hpl.out fh.out fb.out (tm_small fh.out).1 (tm_small fh.out).2).mono ?_; rintro e w5 ⟨rfl, hone, hkp⟩; have HO := Lib.hid hone; have gw5 : Gr w w5 := Below.trans gw4 (hkp.below (B := w.heap.size) (fun x hx => by omega) gw4.size); replace HC := Lib.hid (HC.out.kp hkp (by omega)); have Hhm5 := Lib.hid (in_after' (S := fun _ => False) Hhm4.out (on_nil Hml.out) (W := w5) fun x h => h.elim); clear hone hkp c0 c1 c2 c3 c4 c5 c6 c7)
    | fail)
  have HO2 : Hid (OneBase w5 B M1 M2 (atomTm ⟨#[112]⟩).s (atomTm ⟨#[112]⟩).l.length hm.erase bm.erase) := by
    have h := HO.out
    rw [Hms.out, Hml.out] at h
    exact h
  have hcal : Hid ((atomTm ⟨#[112]⟩).erase.callable = true) := by show _ = _; rw [hpe.out]; rfl
  have hpf2 : Hid ((atomTm ⟨#[112]⟩).erase.formed = true) := by show _ = _; rw [hpe.out]; exact hpf.out
  go_upto_region 5 with (first
    | (go_at_call 16; refine (atomR_calls _ _).mono ?_; rintro e w6 ⟨rfl, hb⟩; have gw6 := gw5.trans hb; have HO6 := Lib.hid (HO2.out.gr hb); replace HC := Lib.hid (HC.out.gr hb); have Hhm6 := Lib.hid (Tm.In_below hb Hhm5.out); clear hb)
    | (go_at_call 9; rewrite [← Hav.out]; refine (look_calls B M1 M2 (atomTm ⟨#[112]⟩) hm.erase bm.erase _ HO6.out (atomTm_in (by decide) _) hpf2.out hcal.out rfl fh.out fb.out (by decide)).mono ?_; rintro e w7 ⟨q, cq, rfl, hb⟩; have gw7 := gw6.trans hb; replace HC := Lib.hid (HC.out.gr hb); have Hhm7 := Lib.hid (Tm.In_below hb Hhm6.out); clear hb)
    | fail)
  obtain ⟨c0, c1, c2, c3, _⟩ := HC.out.cells
  have hsm : Hid (T.same hm.erase (atomTm ⟨#[112]⟩).erase = true) := by show _ = _; rw [Eh.out, hpe.out]; exact same_refl _
  refine wp_region_rely [fx (.int .i64 0), fx (.bool true), fx (.bool true), fx (.pointer (some ⟨C, 0, none⟩)), fx hm.val, fx (atomTm ⟨#[112]⟩).val, fx (.bool true), fx (.bool true), fx (.bool true), fx (.int .i64 1), fx (.bool true), fx (.bool true), fx (.bool true), fx (.int .i64 0), fx (.bool true), fx (.bool true), fx (.bool true), fx (.int .i64 0), fx (.bool true), fx (.bool true), fx (.bool true), fx (.slice q 1 cq), fx (.int .i64 1), fx (.bool true), fx (.bool true), fx (.bool true)]
    (by kernel_rfl) (by kernel_rfl) (by repeat (first | exact Stable.nil | refine Stable.fix ?_)) ?_ ?_
  · refine ⟨?_, ?_, ?_, ?_, ?_, ?a5, ?a6, ?_, ?_, ?_, ?_, ?_, ?_, ?_, ?_, ?_, ?_, ?_, ?_, ?_, ?_, ?_, ?_, ?_, ?_, ?_, trivial⟩
    all_goals
      intro a wr hg hold
      have h2 : a.tmps[2]?.getD undef = .pointer (some ⟨C, 0, none⟩) := hold 2 rfl
      have h3 : a.tmps[3]?.getD undef = .int .i64 0 := hold 3 rfl
      have h4 : a.tmps[4]?.getD undef = .int .i64 1 := hold 4 rfl
      have h5 : a.tmps[5]?.getD undef = .int .i64 0 := hold 5 rfl
      have h6 : a.tmps[6]?.getD undef = .slice q 1 cq := hold 6 rfl
      have h7 : a.tmps[7]?.getD undef = .int .i64 0 := hold 7 rfl
      clear hold
      have x0 := Gr.at hg c0
      have x1 := Gr.at hg c1
      have x2 := Gr.at hg c2
      have x3 := Gr.at hg c3
      clear c0 c1 c2 c3
      simp [predsImp, Region.binds, dstAt, fx, wantedE, Act.eval]
      intros
      first
        | (rw [if_pos (by simp [*])]
           intro K hK)
        | (rename_i K hK)
      go_simp
    case a5 =>
      refine (atomR_calls _ _).mono ?_
      rintro e w10 ⟨rfl, hg2⟩
      exact hK _ _ rfl hg2
    case a6 =>
      refine (same_calls (t := hm) (u := atomTm ⟨#[112]⟩) (Tm.In_below hg Hhm7.out) (atomTm_in (by decide) _)).mono ?_
      rw [hsm.out]
      rintro e w10 ⟨rfl, hg2⟩
      exact hK _ _ rfl hg2
    all_goals exact hK _ _ rfl (Gr.rfl' _)
  · intro wd hg
    rintro _ rfl _ rfl _ rfl _ rfl _ rfl _ rfl _ rfl _ rfl _ rfl _ rfl _ rfl _ rfl _ rfl _ rfl _ rfl _ rfl _ rfl _ rfl _ rfl _ rfl _ rfl _ rfl _ rfl _ rfl _ rfl _ rfl
    have gD := gw7.trans hg
    simp only [finAll, Act.put, List.setIfInBounds_toArray, List.set_cons_succ, List.set_cons_zero]
    go_wp2_with fail
    exact hR.out _ rfl _ gD
end Go.Proofs.YtjdoflfdlhpbmaaGreat
