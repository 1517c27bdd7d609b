/-
  The walk of TermSays.
-/
import Derived.Test.YtcblmkhhhibddaaTS49
import Derived.Test.YtcblmkhhhibddaaTS21
import Derived.Test.YtcblmkhhhibddaaTS07
namespace Go.Proofs.Ytcblmkhhhibddaa
open Go.RowKit Go.Maps Go.Lib

set_option maxHeartbeats 8000000 in
set_option maxRecDepth 100000 in
theorem termSays_walk (a b : Tm) (d : Int) (p : Option Addr) (c : Nat) (L : List Int) (w : World) (ia : a.In w) (ib : b.In w) (hd : In64 d) (hL : IntSl w p c L) (sa : T.sz a.erase ≤ 1048576) (sb : T.sz b.erase ≤ 1048576) :
    Calls Try.prog 5 #[a.val, b.val, .int .i64 d, .slice p L.length c] w (Ret (.bool true) w) := by
  obtain ⟨ff, hff⟩ : ∃ ff, a.erase.formed = ff := ⟨_, rfl⟩
  obtain ⟨gf, hgf⟩ : ∃ gf, b.erase.formed = gf := ⟨_, rfl⟩
  have hfa : Hid (∀ W, Gr w W → Calls Try.prog 29 #[.agg #[.int .i64 a.k, .int .i64 a.n, .string a.s, .slice a.p a.l.length a.c]] W (Ret (.bool ff) W)) := fun W g => by
    have := rformed_calls (t := a) (Tm.In_below g ia)
    rwa [hff] at this
  have hfb : Hid (∀ W, Gr w W → Calls Try.prog 29 #[.agg #[.int .i64 b.k, .int .i64 b.n, .string b.s, .slice b.p b.l.length b.c]] W (Ret (.bool gf) W)) := fun W g => by
    have := rformed_calls (t := b) (Tm.In_below g ib)
    rwa [hgf] at this
  have hck : Hid (∀ W, Gr w W → Calls Try.prog 33 #[.agg #[.int .i64 a.k, .int .i64 a.n, .string a.s, .slice a.p a.l.length a.c]] W (Ret (.int .i64 (errOf ff)) W)) := fun W g => by
    have := check_calls (t := a) (Tm.In_below g ia)
    rw [show T.check a.erase = errOf ff by rw [T.check, hff]; rfl] at this
    exact this
  have hone : Hid (∀ W, Gr w W → Calls Try.prog 34 #[.agg #[.int .i64 a.k, .int .i64 a.n, .string a.s, .slice a.p a.l.length a.c], .int .i64 d, .slice p L.length c, .bool ff] W (Ret (.bool true) W)) := fun W g => by
    cases ff with
    | false => exact one_bad a d p c L W (Tm.In_below g ia) hd (hL.mono g) sa hff
    | true => exact one_good a d p c L W (Tm.In_below g ia) hd (hL.mono g) sa hff
  have htwo : Hid (∀ W, Gr w W → Calls Try.prog 35 #[.agg #[.int .i64 a.k, .int .i64 a.n, .string a.s, .slice a.p a.l.length a.c], .agg #[.int .i64 b.k, .int .i64 b.n, .string b.s, .slice b.p b.l.length b.c], .slice p L.length c, .bool (ff && gf)] W (Ret (.bool true) W)) := fun W g => by
    cases ff with
    | false => exact two_bad a b p c L W (Tm.In_below g ia) (Tm.In_below g ib) (hL.mono g) (by rw [hff]; rfl)
    | true =>
      cases gf with
      | false => exact two_bad a b p c L W (Tm.In_below g ia) (Tm.In_below g ib) (hL.mono g) (by rw [hff, hgf]; rfl)
      | true => exact two_good a b p c L W (Tm.In_below g ia) (Tm.In_below g ib) (hL.mono g) sa sb hff hgf
  have hR : Hid (∀ w', Gr w w' → Ret (.bool true) w (.returned (.bool true)) w') := fun w' g => ⟨rfl, g⟩
  generalize Ret (.bool true) w = Q at hR ⊢
  have HR := hR
  clear ia ib hd hL sa sb hR hff hgf
  rw [show a.val = .agg #[.int .i64 a.k, .int .i64 a.n, .string a.s, .slice a.p a.l.length a.c] from rfl, show b.val = .agg #[.int .i64 b.k, .int .i64 b.n, .string b.s, .slice b.p b.l.length b.c] from rfl]
  go_enter Try.func5, Try.ntmps5
  try simp only [List.append_eq, List.cons_append, List.nil_append]
  go_upto_region 1 with fail
  obtain ⟨h4, k4, gA⟩ := two_blocks w (.int .i64 a.k) (.int .i64 a.n) (.string a.s) (.slice a.p a.l.length a.c) (.int .i64 b.k) (.int .i64 b.n) (.string b.s) (.slice b.p b.l.length b.c)
  generalize ((w.alloc (.cells #[.int .i64 a.k, .int .i64 a.n, .string a.s, .slice a.p a.l.length a.c] 25)).alloc (.cells #[.int .i64 b.k, .int .i64 b.n, .string b.s, .slice b.p b.l.length b.c] 25)) = wA at *
  obtain ⟨⟨x0, x1, x2, x3⟩, _, _⟩ := h4.out.parts
  obtain ⟨⟨y0, y1, y2, y3⟩, _, _⟩ := k4.out.parts
  refine wp_region_rely [fx (.agg #[.int .i64 a.k, .int .i64 a.n, .string a.s, .slice a.p a.l.length a.c]), fx (.bool ff), fx (.agg #[.int .i64 b.k, .int .i64 b.n, .string b.s, .slice b.p b.l.length b.c]), fx (.bool gf), fx (.bool ff), fx (.bool gf)]
    (by kernel_rfl) (by kernel_rfl) (by repeat (first | exact Stable.nil | refine Stable.fix ?_)) ?_ ?_
  · refine ⟨?_, ?a1, ?_, ?a3, ?_, ?_, trivial⟩
    all_goals
      intro fr wz hg hold
      have h4' : fr.tmps[4]?.getD undef = .pointer (some ⟨w.heap.size, 0, none⟩) := hold 4 rfl
      have h5' : fr.tmps[5]?.getD undef = .pointer (some ⟨w.heap.size + 1, 0, none⟩) := hold 5 rfl
      have zx0 := Gr.at hg x0
      have zx1 := Gr.at hg x1
      have zx2 := Gr.at hg x2
      have zx3 := Gr.at hg x3
      have zy0 := Gr.at hg y0
      have zy1 := Gr.at hg y1
      have zy2 := Gr.at hg y2
      have zy3 := Gr.at hg y3
      have Hg := Lib.hid (show Gr wA wz from hg)
      clear hold x0 x1 x2 x3 y0 y1 y2 y3
      simp [predsImp, Region.binds, dstAt, fx]
      intros
      first
        | (rw [if_pos (by simp [*])]
           intro K hK)
        | (rename_i K hK)
      go_simp
    case a1 =>
      refine (hfa.out wz (gA.trans Hg.out)).mono ?_
      rintro e w20 ⟨rfl, g20⟩
      exact hK _ _ rfl g20
    case a3 =>
      refine (hfb.out wz (gA.trans Hg.out)).mono ?_
      rintro e w20 ⟨rfl, g20⟩
      exact hK _ _ rfl g20
    all_goals exact hK _ _ rfl (Gr.rfl' _)
  · intro w3 hg
    rintro _ rfl _ rfl _ rfl _ rfl _ rfl _ rfl
    simp only [finAll, Act.put, Exit.then, List.setIfInBounds_toArray, List.set_cons_succ, List.set_cons_zero]
    have gw3 : Gr w w3 := gA.trans hg
    have H4 := Lib.hid (h4.out.gr hg)
    have K4 := Lib.hid (k4.out.gr hg)
    clear x0 x1 x2 x3 y0 y1 y2 y3 h4 k4 hg
    cases ff with
    | true =>
      obtain ⟨⟨x0, x1, x2, x3⟩, _, _⟩ := H4.out.parts
      go_wp2_with fail
      refine (hck.out _ gw3).mono ?_
      rintro e w4 ⟨rfl, gg⟩
      replace gg : Gr w3 w4 := gg
      have h4 := Lib.hid (H4.out.gr gg)
      have k4 := Lib.hid (K4.out.gr gg)
      have gw4 : Gr w w4 := gw3.trans gg
      clear x0 x1 x2 x3 H4 K4 gg
      have H4 := h4
      have K4 := k4
      clear h4 k4
      obtain ⟨⟨x0, x1, x2, x3⟩, _, _⟩ := H4.out.parts
      obtain ⟨⟨y0, y1, y2, y3⟩, _, _⟩ := K4.out.parts
      go_wp2_with fail
      refine (hone.out _ gw4).mono ?_
      rintro e w8 ⟨rfl, gg⟩
      replace gg : Gr w4 w8 := gg
      have g8 : Gr w w8 := gw4.trans gg
      clear x0 x1 x2 x3 y0 y1 y2 y3
      obtain ⟨⟨x0, x1, x2, x3⟩, _, _⟩ := (H4.out.gr gg).parts
      obtain ⟨⟨y0, y1, y2, y3⟩, _, _⟩ := (K4.out.gr gg).parts
      clear H4 K4 gg
      have htw := htwo.out w8 g8
      simp only [Bool.true_and] at htw
      have Htw := Lib.hid htw
      clear htw
      go_wp2_with fail
      refine Htw.out.mono ?_
      rintro e w9 ⟨rfl, gg⟩
      have Hb := Lib.hid (HR.out w9 (g8.trans gg))
      clear x0 x1 x2 x3 y0 y1 y2 y3
      go_wp2_with fail
      exact Hb.out
    | false =>
      obtain ⟨⟨x0, x1, x2, x3⟩, _, _⟩ := H4.out.parts
      go_wp2_with fail
      refine (hck.out _ gw3).mono ?_
      rintro e w4 ⟨rfl, gg⟩
      replace gg : Gr w3 w4 := gg
      have h4 := Lib.hid (H4.out.gr gg)
      have k4 := Lib.hid (K4.out.gr gg)
      have gw4 : Gr w w4 := gw3.trans gg
      clear x0 x1 x2 x3 H4 K4 gg
      have H4 := h4
      have K4 := k4
      clear h4 k4
      obtain ⟨⟨x0, x1, x2, x3⟩, _, _⟩ := H4.out.parts
      go_wp2_with fail
      refine (hck.out _ gw4).mono ?_
      rintro e w5 ⟨rfl, gg⟩
      replace gg : Gr w4 w5 := gg
      have h4 := Lib.hid (H4.out.gr gg)
      have k4 := Lib.hid (K4.out.gr gg)
      have gw5 : Gr w w5 := gw4.trans gg
      clear x0 x1 x2 x3 H4 K4 gg
      have H4 := h4
      have K4 := k4
      clear h4 k4
      obtain ⟨⟨x0, x1, x2, x3⟩, _, _⟩ := H4.out.parts
      obtain ⟨⟨y0, y1, y2, y3⟩, _, _⟩ := K4.out.parts
      go_wp2_with fail
      refine (hone.out _ gw5).mono ?_
      rintro e w8 ⟨rfl, gg⟩
      replace gg : Gr w5 w8 := gg
      have g8 : Gr w w8 := gw5.trans gg
      clear x0 x1 x2 x3 y0 y1 y2 y3
      obtain ⟨⟨x0, x1, x2, x3⟩, _, _⟩ := (H4.out.gr gg).parts
      obtain ⟨⟨y0, y1, y2, y3⟩, _, _⟩ := (K4.out.gr gg).parts
      clear H4 K4 gg
      have htw := htwo.out w8 g8
      simp only [Bool.false_and] at htw
      have Htw := Lib.hid htw
      clear htw
      go_wp2_with fail
      refine Htw.out.mono ?_
      rintro e w9 ⟨rfl, gg⟩
      have Hb := Lib.hid (HR.out w9 (g8.trans gg))
      clear x0 x1 x2 x3 y0 y1 y2 y3
      go_wp2_with fail
      exact Hb.out
end Go.Proofs.Ytcblmkhhhibddaa
